/- naive's world in memory, and its small functions: bit, has, strict, supports, beats, whole, some, anyRule, anyAttack. -/
import Derived.Test.YtalhpldbhogadaaVe
namespace Go.Proofs.Lx
open Go Go.RowKit
set_option linter.unusedSimpArgs false
set_option linter.unusedVariables false

abbrev mkV (x : Nat) : Value := Value.int .u8 (x : Int)
abbrev RdMk := Rd 1 (scR fun x : Nat => Value.int .u8 (x : Int))
structure NW (w : World) (b : Nat) (T : Th) (F : List Bool) (RL : List (List Int)) (M : List Nat) : Prop where
  ex : ∃ vF vR vB vFa vRu vM, w.heap[b]? = some (.cells #[.int .i64 T.lits, vF, vR, vB, vFa, vRu, vM] 123 (0, 0)) ∧ RdLL w vF T.foes ∧ RdRs w vR T.rules ∧ RdLL w vB T.beats ∧ RdB w vFa F ∧ RdLL w vRu RL ∧ RdMk w vM M
theorem NW.ext {w w' : World} {b : Nat} {T : Th} {F : List Bool} {RL : List (List Int)} {M : List Nat} (h : NW w b T F RL M) (hb : Below w.heap.size w w') : NW w' b T F RL M := by
  obtain ⟨vF, vR, vB, vFa, vRu, vM, hh, h1, h2, h3, h4, h5, h6⟩ := h.ex
  exact ⟨vF, vR, vB, vFa, vRu, vM, (hb.block b (lt_of_block hh)).trans hh, h1.ext llR_mono hb, h2.ext ruleR_mono hb, h3.ext llR_mono hb, h4.ext (scR_mono _) hb, h5.ext llR_mono hb, h6.ext (scR_mono _) hb⟩
/-- What fits together. -/
structure NVal (T : Th) (F : List Bool) (RL : List (List Int)) (M : List Nat) : Prop where
  fo : ∀ q (h : q < T.foes.length), ∀ f ∈ T.foes[q], 0 ≤ f ∧ f < T.foes.length
  nF : F.length = T.foes.length
  nR : RL.length = T.foes.length
  nM : M.length = T.foes.length
  rl : ∀ q (h : q < RL.length), ∀ r ∈ RL[q], 0 ≤ r ∧ r < T.rules.length
  body : ∀ r (h : r < T.rules.length), ∀ x ∈ T.rules[r].body, 0 ≤ x ∧ x < T.foes.length
  bl : T.beats.length = T.rules.length
  m8 : ∀ x ∈ M, x < 256

def kindAt (T : Th) (r : Int) : Int := (T.rules.getD r.toNat default).kind
def bodyAt (T : Th) (r : Int) : List Int := (T.rules.getD r.toNat default).body
def hasM (M : List Nat) (k : Nat) (q : Int) : Bool := (M.getD q.toNat 0).testBit k
def strictB (T : Th) (r : Int) : Bool := kindAt T r == 1
def supB (T : Th) (r : Int) : Bool := kindAt T r != 3
def wholeB (T : Th) (M : List Nat) (k : Nat) (r : Int) : Bool := !(bodyAt T r).any fun x => !hasM M k x
def someB (T : Th) (M : List Nat) (k : Nat) (r : Int) : Bool := (bodyAt T r).any fun x => hasM M k x
def beatsB (T : Th) (r s : Int) : Bool := memB (row T.beats r) s

theorem and_mask : ∀ (x : _root_.Fin 256) (k : _root_.Fin 4), (x.val &&& 2 ^ k.val != 0) = x.val.testBit k.val := by decide +kernel
theorem bit_mask (x : Nat) (hx : x < 256) (k : Nat) (hk : k < 4) : (bits .and .u8 (x : Int) ((2 ^ k : Nat) : Int) != 0) = x.testBit k := by
  have h2 : 2 ^ k < 2 ^ 8 := Nat.pow_lt_pow_right (by decide) (by omega)
  rw [(bits_nat .u8 8 (by decide) wraps_u8 x (2 ^ k) hx h2).1, ← and_mask ⟨x, hx⟩ ⟨k, hk⟩, bne, bne]
  congr 1
  rw [Bool.eq_iff_iff]; simp

theorem bit_plain (tag : Int) (k : Nat) (hk : k < 4) (ht : tag = (k : Int) + 1) (w : World) : Calls Try.prog 87 #[.int .i64 tag] w fun e w' => e = .returned (.int .u8 ((2 ^ k : Nat) : Int)) ∧ w' = w := by
  refine Calls.mono (R := Ret fun v w' => v = .int .u8 ((2 ^ k : Nat) : Int) ∧ w' = w) ?_ (fun e w' ⟨v, he, hv, hw⟩ => ⟨by rw [he, hv], hw⟩)
  refine post_gen fun Q HQ => ?_
  rcases (show k = 0 ∨ k = 1 ∨ k = 2 ∨ k = 3 by omega) with rfl | rfl | rfl | rfl
  all_goals
    subst ht
    go_enter Try.func87, Try.ntmps87
    go_wp2
    go_ret
    exact Fin HQ ⟨rfl, rfl⟩

set_option maxHeartbeats 800000 in
theorem whas_any (w : World) (b : Nat) (T : Th) (F : List Bool) (RL : List (List Int)) (M : List Nat) (h : NW w b T F RL M) (hv : NVal T F RL M) (q : Int) (h0 : 0 ≤ q) (hq : q < T.foes.length) (tag : Int) (k : Nat) (hk : k < 4) (ht : tag = (k : Int) + 1) :
    Calls Try.prog 119 #[.pointer (some ⟨b, 0, none⟩), .int .i64 q, .int .i64 tag] w (Ret fun v w' => v = .bool (hasM M k q) ∧ Below w.heap.size w w') := by
  obtain ⟨vF, vR, vB, vFa, vRu, vM, hh, _, _, _, _, _, ⟨A, c, rfl, hc, hb, hr⟩⟩ := h.ex
  have hql : q.toNat < M.length := by have := hv.nM; omega
  have hqi : q < M.length := by have := hv.nM; omega
  obtain ⟨ad, rfl, hcell⟩ := hr.at1 hql
  have c6 := cell_of_row w b 6 _ _ _ hh
  simp only [List.getElem?_toArray, List.getElem?_cons_zero, List.getElem?_cons_succ] at c6
  have Hr : Hid (hasM M k q = M[q.toNat].testBit k) := by simp [Hid, hasM, hql]
  have Hm := hid (bit_mask M[q.toNat] (hv.m8 _ (List.getElem_mem hql)) k hk)
  have Hbit := hid (fun w => bit_plain tag k hk ht w)
  clear hh hr h hv ht
  generalize M[q.toNat] = x at *
  generalize hp : 2 ^ k = y at *
  clear hp
  refine post_gen fun Q HQ => ?_
  go_enter Try.func119, Try.ntmps119
  go_wp2
  go_quiet ((go_at_call 87; exact Calls.quiet_of_same (Hbit.out _)))
  go_wp2
  go_ret
  exact Fin HQ ⟨by rw [Hr.out, ← Hm.out]; rfl, ext_drewN _ _⟩


theorem strict_any (w : World) (b : Nat) (T : Th) (F : List Bool) (RL : List (List Int)) (M : List Nat) (h : NW w b T F RL M) (r : Int) (h0 : 0 ≤ r) (hr0 : r < T.rules.length) :
    Calls Try.prog 115 #[.pointer (some ⟨b, 0, none⟩), .int .i64 r] w (Ret fun v w' => v = .bool (strictB T r) ∧ w' = w) := by
  obtain ⟨vF, vR, vB, vFa, vRu, vM, hh, _, ⟨A, c, rfl, hc, hb, hr⟩, _, _, _, _⟩ := h.ex
  have hrl : r.toNat < T.rules.length := by omega
  obtain ⟨ad, B, cB, rfl, p0, p1, p2, _, _, _⟩ := hr.atRule hrl
  have c2 := cell_of_row w b 2 _ _ _ hh
  simp only [List.getElem?_toArray, List.getElem?_cons_zero, List.getElem?_cons_succ] at c2
  have Hr : Hid (strictB T r = (T.rules[r.toNat].kind == 1)) := by simp [Hid, strictB, kindAt, hrl]
  generalize T.rules[r.toNat].kind = x at *
  refine post_gen fun Q HQ => ?_
  go_enter Try.func115, Try.ntmps115
  go_wp2
  go_ret
  exact Fin HQ ⟨by rw [Hr.out]; rfl, rfl⟩


theorem supports_any (w : World) (b : Nat) (T : Th) (F : List Bool) (RL : List (List Int)) (M : List Nat) (h : NW w b T F RL M) (r : Int) (h0 : 0 ≤ r) (hr0 : r < T.rules.length) :
    Calls Try.prog 121 #[.pointer (some ⟨b, 0, none⟩), .int .i64 r] w (Ret fun v w' => v = .bool (supB T r) ∧ w' = w) := by
  obtain ⟨vF, vR, vB, vFa, vRu, vM, hh, _, ⟨A, c, rfl, hc, hb, hr⟩, _, _, _, _⟩ := h.ex
  have hrl : r.toNat < T.rules.length := by omega
  obtain ⟨ad, B, cB, rfl, p0, p1, p2, _, _, _⟩ := hr.atRule hrl
  have c2 := cell_of_row w b 2 _ _ _ hh
  simp only [List.getElem?_toArray, List.getElem?_cons_zero, List.getElem?_cons_succ] at c2
  have Hr : Hid (supB T r = (T.rules[r.toNat].kind != 3)) := by simp [Hid, supB, kindAt, hrl]
  generalize T.rules[r.toNat].kind = x at *
  refine post_gen fun Q HQ => ?_
  go_enter Try.func121, Try.ntmps121
  go_wp2
  go_ret
  exact Fin HQ ⟨by rw [Hr.out]; rfl, rfl⟩


theorem wbeats_any (w : World) (b : Nat) (T : Th) (F : List Bool) (RL : List (List Int)) (M : List Nat) (h : NW w b T F RL M) (r s : Int) (h0 : 0 ≤ r) (hr0 : r < T.beats.length) :
    Calls Try.prog 127 #[.pointer (some ⟨b, 0, none⟩), .int .i64 r, .int .i64 s] w (Ret fun v w' => v = .bool (beatsB T r s) ∧ w' = w) := by
  obtain ⟨vF, vR, vB, vFa, vRu, vM, hh, _, _, ⟨A, c, rfl, hc, hb, hr⟩, _, _, _⟩ := h.ex
  have hrl : r.toNat < T.beats.length := by omega
  obtain ⟨ad, v, rfl, hcell, hv⟩ := hr.atRowV hrl
  have c3 := cell_of_row w b 3 _ _ _ hh
  simp only [List.getElem?_toArray, List.getElem?_cons_zero, List.getElem?_cons_succ] at c3
  have Hr : Hid (beatsB T r s = memB T.beats[r.toNat] s) := by rw [Hid, beatsB, row_at h0 (by omega)]
  have Hc := hid (contains_any w v _ s hv)
  obtain ⟨B, cB, rfl, _⟩ := hv
  generalize T.beats[r.toNat] = l at *
  refine post_gen fun Q HQ => ?_
  go_enter Try.func127, Try.ntmps127
  go_wp2_with fail
  refine Hc.out.mono ?_
  rintro e w2 ⟨_, rfl, rfl, rfl⟩
  go_wp2
  go_ret
  exact Fin HQ ⟨by rw [Hr.out]; rfl, rfl⟩


theorem whole1_any (w : World) (b bw bt : Nat) (T : Th) (F : List Bool) (RL : List (List Int)) (M : List Nat) (h : NW w b T F RL M) (hv : NVal T F RL M) (q : Int) (h0 : 0 ≤ q) (hq : q < T.foes.length) (tag : Int) (k : Nat) (hk : k < 4) (ht : tag = (k : Int) + 1)
    (hw : w.cell? ⟨bw, 0, none⟩ = some (.pointer (some ⟨b, 0, none⟩))) (htc : w.cell? ⟨bt, 0, none⟩ = some (.int .i64 tag)) :
    Calls Try.prog 159 #[.int .i64 q, .pointer (some ⟨bw, 0, none⟩), .pointer (some ⟨bt, 0, none⟩)] w (Ret fun v w' => v = .bool (!hasM M k q) ∧ Below w.heap.size w w') := by
  have Hc := hid (whas_any w b T F RL M h hv q h0 hq tag k hk ht)
  clear ht
  refine post_gen fun Q HQ => ?_
  go_enter Try.func159, Try.ntmps159
  go_wp2_with fail
  refine Hc.out.mono ?_
  rintro e w2 ⟨_, rfl, rfl, hb2⟩
  go_wp2
  go_ret
  exact Fin HQ ⟨rfl, hb2⟩
theorem enters_whole1 : Enters Try.prog 159 := enters_of Try.func159 (by kernel_rfl) (by kernel_rfl)


theorem whole_any (w : World) (b : Nat) (T : Th) (F : List Bool) (RL : List (List Int)) (M : List Nat) (h : NW w b T F RL M) (hv : NVal T F RL M) (r : Int) (h0 : 0 ≤ r) (hr0 : r < T.rules.length) (tag : Int) (k : Nat) (hk : k < 4) (ht : tag = (k : Int) + 1) :
    Calls Try.prog 116 #[.pointer (some ⟨b, 0, none⟩), .int .i64 r, .int .i64 tag] w (Ret fun v w' => v = .bool (wholeB T M k r) ∧ Below w.heap.size w w') := by
  have hrl : r.toNat < T.rules.length := by omega
  have hbel := ext_trans (ext_alloc w (.cells #[.pointer (some ⟨b, 0, none⟩)] 90)) (ext_alloc _ (.cells #[.int .i64 tag] 44))
  obtain ⟨W2, HW2⟩ : ∃ W2, Hid (W2 = (w.alloc (.cells #[.pointer (some ⟨b, 0, none⟩)] 90)).alloc (.cells #[.int .i64 tag] 44)) := ⟨_, hid rfl⟩
  rw [← HW2.out] at hbel
  have hw0 : W2.cell? ⟨w.heap.size, 0, none⟩ = some (.pointer (some ⟨b, 0, none⟩)) := by rw [HW2.out, World.cell?_alloc_past _ _ _ (by simp), World.cell?_alloc_at _ _ _ _ rfl]; rfl
  have ht0 : W2.cell? ⟨w.heap.size + 1, 0, none⟩ = some (.int .i64 tag) := by rw [HW2.out, World.cell?_alloc_at _ _ _ _ (by simp)]; rfl
  have h2 := h.ext hbel
  have hbody := hv.body r.toNat hrl
  obtain ⟨vF, vR, vB, vFa, vRu, vM, hh, _, ⟨A, c, rfl, hc, hb, hr⟩, _, _, _, _⟩ := h2.ex
  obtain ⟨ad, B, cB, rfl, p0, p1, p2, q0, q1, q2⟩ := hr.atRule hrl
  have c2 := cell_of_row W2 b 2 _ _ _ hh
  simp only [List.getElem?_toArray, List.getElem?_cons_zero, List.getElem?_cons_succ] at c2
  have Hr : Hid (wholeB T M k r = !T.rules[r.toNat].body.any (fun x => !hasM M k x)) := by simp [Hid, wholeB, bodyAt, hrl]
  have Hc := hid (containsFunc W2 (.slice B T.rules[r.toNat].body.length cB) T.rules[r.toNat].body 159 #[.pointer (some ⟨w.heap.size, 0, none⟩), .pointer (some ⟨w.heap.size + 1, 0, none⟩)] (fun x => !hasM M k x) enters_whole1 ⟨B, cB, rfl, q0, q1, q2⟩
    (fun x hx w1 ho => whole1_any w1 b _ _ T F RL M (h2.ext ho) hv x (hbody x hx).1 (hbody x hx).2 tag k hk ht (cell_ext ho hw0) (cell_ext ho ht0)))
  rw [HW2.out] at c2 p2
  clear h h2 hv hbody hh hr ht p0 p1 q2 hw0 ht0
  generalize T.rules[r.toNat].body = l at *
  refine post_gen fun Q HQ => ?_
  go_enter Try.func116, Try.ntmps116
  go_wp2_with fail
  rw [← HW2.out]
  refine Hc.out.mono ?_
  rintro e w2 ⟨_, rfl, rfl, hb2⟩
  go_wp2
  go_ret
  exact Fin HQ ⟨by rw [Hr.out]; rfl, ext_trans hbel hb2⟩


theorem some1_any (w : World) (b bw bt : Nat) (T : Th) (F : List Bool) (RL : List (List Int)) (M : List Nat) (h : NW w b T F RL M) (hv : NVal T F RL M) (q : Int) (h0 : 0 ≤ q) (hq : q < T.foes.length) (tag : Int) (k : Nat) (hk : k < 4) (ht : tag = (k : Int) + 1)
    (hw : w.cell? ⟨bw, 0, none⟩ = some (.pointer (some ⟨b, 0, none⟩))) (htc : w.cell? ⟨bt, 0, none⟩ = some (.int .i64 tag)) :
    Calls Try.prog 160 #[.int .i64 q, .pointer (some ⟨bw, 0, none⟩), .pointer (some ⟨bt, 0, none⟩)] w (Ret fun v w' => v = .bool (hasM M k q) ∧ Below w.heap.size w w') := by
  have Hc := hid (whas_any w b T F RL M h hv q h0 hq tag k hk ht)
  clear ht
  refine post_gen fun Q HQ => ?_
  go_enter Try.func160, Try.ntmps160
  go_wp2_with fail
  refine Hc.out.mono ?_
  rintro e w2 ⟨_, rfl, rfl, hb2⟩
  go_wp2
  go_ret
  exact Fin HQ ⟨rfl, hb2⟩
theorem enters_some1 : Enters Try.prog 160 := enters_of Try.func160 (by kernel_rfl) (by kernel_rfl)


theorem some_any (w : World) (b : Nat) (T : Th) (F : List Bool) (RL : List (List Int)) (M : List Nat) (h : NW w b T F RL M) (hv : NVal T F RL M) (r : Int) (h0 : 0 ≤ r) (hr0 : r < T.rules.length) (tag : Int) (k : Nat) (hk : k < 4) (ht : tag = (k : Int) + 1) :
    Calls Try.prog 118 #[.pointer (some ⟨b, 0, none⟩), .int .i64 r, .int .i64 tag] w (Ret fun v w' => v = .bool (someB T M k r) ∧ Below w.heap.size w w') := by
  have hrl : r.toNat < T.rules.length := by omega
  have hbel := ext_trans (ext_alloc w (.cells #[.pointer (some ⟨b, 0, none⟩)] 90)) (ext_alloc _ (.cells #[.int .i64 tag] 44))
  obtain ⟨W2, HW2⟩ : ∃ W2, Hid (W2 = (w.alloc (.cells #[.pointer (some ⟨b, 0, none⟩)] 90)).alloc (.cells #[.int .i64 tag] 44)) := ⟨_, hid rfl⟩
  rw [← HW2.out] at hbel
  have hw0 : W2.cell? ⟨w.heap.size, 0, none⟩ = some (.pointer (some ⟨b, 0, none⟩)) := by rw [HW2.out, World.cell?_alloc_past _ _ _ (by simp), World.cell?_alloc_at _ _ _ _ rfl]; rfl
  have ht0 : W2.cell? ⟨w.heap.size + 1, 0, none⟩ = some (.int .i64 tag) := by rw [HW2.out, World.cell?_alloc_at _ _ _ _ (by simp)]; rfl
  have h2 := h.ext hbel
  have hbody := hv.body r.toNat hrl
  obtain ⟨vF, vR, vB, vFa, vRu, vM, hh, _, ⟨A, c, rfl, hc, hb, hr⟩, _, _, _, _⟩ := h2.ex
  obtain ⟨ad, B, cB, rfl, p0, p1, p2, q0, q1, q2⟩ := hr.atRule hrl
  have c2 := cell_of_row W2 b 2 _ _ _ hh
  simp only [List.getElem?_toArray, List.getElem?_cons_zero, List.getElem?_cons_succ] at c2
  have Hr : Hid (someB T M k r = T.rules[r.toNat].body.any (fun x => hasM M k x)) := by simp [Hid, someB, bodyAt, hrl]
  have Hc := hid (containsFunc W2 (.slice B T.rules[r.toNat].body.length cB) T.rules[r.toNat].body 160 #[.pointer (some ⟨w.heap.size, 0, none⟩), .pointer (some ⟨w.heap.size + 1, 0, none⟩)] (fun x => hasM M k x) enters_some1 ⟨B, cB, rfl, q0, q1, q2⟩
    (fun x hx w1 ho => some1_any w1 b _ _ T F RL M (h2.ext ho) hv x (hbody x hx).1 (hbody x hx).2 tag k hk ht (cell_ext ho hw0) (cell_ext ho ht0)))
  rw [HW2.out] at c2 p2
  clear h h2 hv hbody hh hr ht p0 p1 q2 hw0 ht0
  generalize T.rules[r.toNat].body = l at *
  refine post_gen fun Q HQ => ?_
  go_enter Try.func118, Try.ntmps118
  go_wp2_with fail
  rw [← HW2.out]
  refine Hc.out.mono ?_
  rintro e w2 ⟨_, rfl, rfl, hb2⟩
  go_wp2
  go_ret
  exact Fin HQ ⟨by rw [Hr.out]; rfl, ext_trans hbel hb2⟩


theorem anyRule_any (w : World) (b : Nat) (T : Th) (F : List Bool) (RL : List (List Int)) (M : List Nat) (h : NW w b T F RL M) (hv : NVal T F RL M) (q : Int) (h0 : 0 ≤ q) (hq : q < T.foes.length)
    (g : Nat) (caps : Array Value) (p : Int → Bool) (hg : Enters Try.prog g) (hf : ∀ x ∈ row RL q, FunB Try.prog w g caps p x) :
    Calls Try.prog 113 #[.pointer (some ⟨b, 0, none⟩), .int .i64 q, .func (.func g) #[] caps] w (Ret fun v w' => v = .bool ((row RL q).any p) ∧ Below w.heap.size w w') := by
  obtain ⟨vF, vR, vB, vFa, vRu, vM, hh, _, _, _, _, ⟨A, c, rfl, hc, hb, hr⟩, _⟩ := h.ex
  have hql : q.toNat < RL.length := by have := hv.nR; omega
  have hqi : q < RL.length := by have := hv.nR; omega
  obtain ⟨ad, v, rfl, hcell, hvv⟩ := hr.atRowV hql
  have c5 := cell_of_row w b 5 _ _ _ hh
  simp only [List.getElem?_toArray, List.getElem?_cons_zero, List.getElem?_cons_succ] at c5
  have hrow : row RL q = RL[q.toNat] := row_at h0 (by omega)
  rw [hrow] at hf ⊢
  have Hc := hid (containsFunc w v _ g caps p hg hvv hf)
  obtain ⟨B, cB, rfl, _⟩ := hvv
  clear hf hrow hv h hh hr
  generalize RL[q.toNat] = l at *
  refine post_gen fun Q HQ => ?_
  go_enter Try.func113, Try.ntmps113
  go_wp2_with fail
  refine Hc.out.mono ?_
  rintro e w2 ⟨_, rfl, rfl, hb2⟩
  go_wp2
  go_ret
  exact Fin HQ ⟨rfl, hb2⟩

theorem anyAttack1_any (w : World) (b bw bi : Nat) (T : Th) (F : List Bool) (RL : List (List Int)) (M : List Nat) (h : NW w b T F RL M) (hv : NVal T F RL M) (f : Int) (h0 : 0 ≤ f) (hq : f < T.foes.length)
    (g : Nat) (caps : Array Value) (p : Int → Bool) (hg : Enters Try.prog g) (hf : ∀ x ∈ row RL f, FunB Try.prog w g caps p x)
    (hw : w.cell? ⟨bw, 0, none⟩ = some (.pointer (some ⟨b, 0, none⟩))) (hi : w.cell? ⟨bi, 0, none⟩ = some (.func (.func g) #[] caps)) :
    Calls Try.prog 161 #[.int .i64 f, .pointer (some ⟨bw, 0, none⟩), .pointer (some ⟨bi, 0, none⟩)] w (Ret fun v w' => v = .bool ((row RL f).any p) ∧ Below w.heap.size w w') := by
  have Hc := hid (anyRule_any w b T F RL M h hv f h0 hq g caps p hg hf)
  clear hf
  refine post_gen fun Q HQ => ?_
  go_enter Try.func161, Try.ntmps161
  go_wp2_with fail
  refine Hc.out.mono ?_
  rintro e w2 ⟨_, rfl, rfl, hb2⟩
  go_wp2
  go_ret
  exact Fin HQ ⟨rfl, hb2⟩
theorem enters_anyAttack1 : Enters Try.prog 161 := enters_of Try.func161 (by kernel_rfl) (by kernel_rfl)

theorem FunB.ext {P : Program} {w w' : World} {g : Nat} {caps : Array Value} {p : Int → Bool} {x : Int} (h : FunB P w g caps p x) (hb : Below w.heap.size w w') : FunB P w' g caps p x := fun w1 ho => h w1 (ext_trans hb ho)

theorem anyAttack_any (w : World) (b : Nat) (T : Th) (F : List Bool) (RL : List (List Int)) (M : List Nat) (h : NW w b T F RL M) (hv : NVal T F RL M) (q : Int) (h0 : 0 ≤ q) (hq : q < T.foes.length)
    (g : Nat) (caps : Array Value) (p : Int → Bool) (hg : Enters Try.prog g) (hf : ∀ f ∈ row T.foes q, ∀ x ∈ row RL f, FunB Try.prog w g caps p x) :
    Calls Try.prog 124 #[.pointer (some ⟨b, 0, none⟩), .int .i64 q, .func (.func g) #[] caps] w (Ret fun v w' => v = .bool ((row T.foes q).any fun f => (row RL f).any p) ∧ Below w.heap.size w w') := by
  have hql : q.toNat < T.foes.length := by omega
  have hrow : row T.foes q = T.foes[q.toNat] := row_at h0 (by omega)
  rw [hrow] at hf ⊢
  have hbel := ext_trans (ext_alloc w (.cells #[.pointer (some ⟨b, 0, none⟩)] 90)) (ext_alloc _ (.cells #[.func (.func g) #[] caps] 38))
  obtain ⟨W2, HW2⟩ : ∃ W2, Hid (W2 = (w.alloc (.cells #[.pointer (some ⟨b, 0, none⟩)] 90)).alloc (.cells #[.func (.func g) #[] caps] 38)) := ⟨_, hid rfl⟩
  rw [← HW2.out] at hbel
  have hw0 : W2.cell? ⟨w.heap.size, 0, none⟩ = some (.pointer (some ⟨b, 0, none⟩)) := by rw [HW2.out, World.cell?_alloc_past _ _ _ (by simp), World.cell?_alloc_at _ _ _ _ rfl]; rfl
  have ht0 : W2.cell? ⟨w.heap.size + 1, 0, none⟩ = some (.func (.func g) #[] caps) := by rw [HW2.out, World.cell?_alloc_at _ _ _ _ (by simp)]; rfl
  have h2 := h.ext hbel
  have hfo := hv.fo q.toNat hql
  obtain ⟨vF, vR, vB, vFa, vRu, vM, hh, ⟨A, c, rfl, hc, hb, hr⟩, _, _, _, _, _⟩ := h2.ex
  obtain ⟨ad, v, rfl, hcell, hvv⟩ := hr.atRowV hql
  have c1 := cell_of_row W2 b 1 _ _ _ hh
  simp only [List.getElem?_toArray, List.getElem?_cons_zero, List.getElem?_cons_succ] at c1
  have Hc := hid (containsFunc W2 v T.foes[q.toNat] 161 #[.pointer (some ⟨w.heap.size, 0, none⟩), .pointer (some ⟨w.heap.size + 1, 0, none⟩)] (fun f => (row RL f).any p) enters_anyAttack1 hvv
    (fun f hx w1 ho => anyAttack1_any w1 b _ _ T F RL M (h2.ext ho) hv f (hfo f hx).1 (hfo f hx).2 g caps p hg (fun x hxx => (hf f hx x hxx).ext (ext_trans hbel ho)) (cell_ext ho hw0) (cell_ext ho ht0)))
  rw [HW2.out] at c1 hcell
  obtain ⟨B, cB, rfl, _⟩ := hvv
  clear h h2 hv hh hr hw0 ht0 hf hfo hrow
  generalize T.foes[q.toNat] = l at *
  refine post_gen fun Q HQ => ?_
  go_enter Try.func124, Try.ntmps124
  go_wp2_with fail
  rw [← HW2.out]
  refine Hc.out.mono ?_
  rintro e w2 ⟨_, rfl, rfl, hb2⟩
  go_wp2
  go_ret
  exact Fin HQ ⟨rfl, ext_trans hbel hb2⟩
end Go.Proofs.Lx
