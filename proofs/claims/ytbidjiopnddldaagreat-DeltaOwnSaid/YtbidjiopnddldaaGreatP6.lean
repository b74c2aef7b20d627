/- Parts of the proof: Na, Rb, Nd, Da. naive's world in memory, and its small functions: bit, has, strict, supports, beats, whole, some, anyRule, anyAttack. -/
import Derived.Test.YtbidjiopnddldaaGreatP5
import Derived.Test.YtbidjiopnddldaaGreatP1
import Derived.Maps.AppendAt
import Derived.Deep.RegionLaw
import Derived.WalkSpells
namespace Go.Proofs.Lx
open Go Go.RowKit
set_option linter.unusedSimpArgs false
set_option linter.unusedVariables false

abbrev RdMk := Rd 1 (scR fun x : Nat => Value.int .u8 (x : Int))
structure NW (w : World) (b : Nat) (T : Th) (F : List Bool) (RL : List (List Int)) (M : List Nat) : Prop where
 ex : ∃ vF vR vB vFa vRu vM, w.heap[b]? = some (.cells #[.int .i64 T.lits, vF, vR, vB, vFa, vRu, vM] 122 (0, 0)) ∧ RdLL w vF T.foes ∧ RdRs w vR T.rules ∧ RdLL w vB T.beats ∧ RdB w vFa F ∧ RdLL w vRu RL ∧ RdMk w vM M
theorem NW.ext {w w' : World} {b : Nat} {T : Th} {F : List Bool} {RL : List (List Int)} {M : List Nat} (h : NW w b T F RL M) (hb : Below w.heap.size w w') : NW w' b T F RL M := by
 obtain ⟨vF, vR, vB, vFa, vRu, vM, hh, h1, h2, h3, h4, h5, h6⟩ := h.ex
 exact ⟨vF, vR, vB, vFa, vRu, vM, (hb.block b (lt_of_block hh)).trans hh, h1.ext llR_mono hb, h2.ext ruleR_mono hb, h3.ext llR_mono hb, h4.ext (scR_mono _) hb, h5.ext llR_mono hb, h6.ext (scR_mono _) hb⟩
/-- What fits together. -/
structure NVal (T : Th) (F : List Bool) (RL : List (List Int)) (M : List Nat) : Prop where
 fo : ∀ q (h : q < T.foes.length), ∀ f ∈ T.foes[q], 0 ≤ f ∧ f < T.foes.length
 nF : F.length = T.foes.length
 nR : RL.length = T.foes.length
 nM : M.length = T.foes.length
 rl : ∀ q (h : q < RL.length), ∀ r ∈ RL[q], 0 ≤ r ∧ r < T.rules.length
 body : ∀ r (h : r < T.rules.length), ∀ x ∈ T.rules[r].body, 0 ≤ x ∧ x < T.foes.length
 bl : T.beats.length = T.rules.length
 m8 : ∀ x ∈ M, x < 256

def kindAt (T : Th) (r : Int) : Int := (T.rules.getD r.toNat default).kind
def bodyAt (T : Th) (r : Int) : List Int := (T.rules.getD r.toNat default).body
def hasM (M : List Nat) (k : Nat) (q : Int) : Bool := (M.getD q.toNat 0).testBit k
def strictB (T : Th) (r : Int) : Bool := kindAt T r == 1
def supB (T : Th) (r : Int) : Bool := kindAt T r != 3
def wholeB (T : Th) (M : List Nat) (k : Nat) (r : Int) : Bool := !(bodyAt T r).any fun x => !hasM M k x
def someB (T : Th) (M : List Nat) (k : Nat) (r : Int) : Bool := (bodyAt T r).any fun x => hasM M k x
def beatsB (T : Th) (r s : Int) : Bool := memB (row T.beats r) s

theorem and_mask : ∀ (x : _root_.Fin 256) (k : _root_.Fin 4), (x.val &&& 2 ^ k.val != 0) = x.val.testBit k.val := by decide +kernel
theorem bit_mask (x : Nat) (hx : x < 256) (k : Nat) (hk : k < 4) : (bits .and .u8 (x : Int) ((2 ^ k : Nat) : Int) != 0) = x.testBit k := by
 have h2 : 2 ^ k < 2 ^ 8 := Nat.pow_lt_pow_right (by decide) (by omega)
 rw [(bits_nat .u8 8 (by decide) wraps_u8 x (2 ^ k) hx h2).1, ← and_mask ⟨x, hx⟩ ⟨k, hk⟩, bne, bne]
 congr 1
 rw [Bool.eq_iff_iff]; simp

theorem bit_plain (tag : Int) (k : Nat) (hk : k < 4) (ht : tag = (k : Int) + 1) (w : World) : Calls Tryz.prog 97 #[.int .i64 tag] w fun e w' => e = .returned (.int .u8 ((2 ^ k : Nat) : Int)) ∧ w' = w := by
 refine Calls.mono (R := Ret fun v w' => v = .int .u8 ((2 ^ k : Nat) : Int) ∧ w' = w) ?_ (fun e w' ⟨v, he, hv, hw⟩ => ⟨by rw [he, hv], hw⟩)
 refine post_gen fun Q HQ => ?_
 rcases (show k = 0 ∨ k = 1 ∨ k = 2 ∨ k = 3 by omega) with rfl | rfl | rfl | rfl
 all_goals
  subst ht
  go_enter Tryz.func97, Tryz.ntmps97
  go_wp2
  go_ret
  exact Fin HQ ⟨rfl, rfl⟩

set_option maxHeartbeats 800000 in
theorem whas_any (w : World) (b : Nat) (T : Th) (F : List Bool) (RL : List (List Int)) (M : List Nat) (h : NW w b T F RL M) (hv : NVal T F RL M) (q : Int) (h0 : 0 ≤ q) (hq : q < T.foes.length) (tag : Int) (k : Nat) (hk : k < 4) (ht : tag = (k : Int) + 1) :
  Calls Tryz.prog 137 #[.pointer (some ⟨b, 0, none⟩), .int .i64 q, .int .i64 tag] w (Ret fun v w' => v = .bool (hasM M k q) ∧ Below w.heap.size w w') := by
 obtain ⟨vF, vR, vB, vFa, vRu, vM, hh, _, _, _, _, _, ⟨A, c, rfl, hc, hb, hr⟩⟩ := h.ex
 have hql : q.toNat < M.length := by have := hv.nM; omega
 have hqi : q < M.length := by have := hv.nM; omega
 obtain ⟨ad, rfl, hcell⟩ := hr.at1 hql
 have c6 := cell_of_row w b 6 _ _ _ hh
 simp only [List.getElem?_toArray, List.getElem?_cons_zero, List.getElem?_cons_succ] at c6
 have Hr : Hid (hasM M k q = M[q.toNat].testBit k) := by simp [Hid, hasM, hql]
 have Hm := hid (bit_mask M[q.toNat] (hv.m8 _ (List.getElem_mem hql)) k hk)
 have Hbit := hid (fun w => bit_plain tag k hk ht w)
 clear hh hr h hv ht
 generalize M[q.toNat] = x at *
 generalize hp : 2 ^ k = y at *
 clear hp
 refine post_gen fun Q HQ => ?_
 go_enter Tryz.func137, Tryz.ntmps137
 go_wp2
 go_quiet ((go_at_call 97; exact Calls.quiet_of_same (Hbit.out _)))
 go_wp2
 go_ret
 exact Fin HQ ⟨by rw [Hr.out, ← Hm.out]; rfl, ext_drewN _ _⟩


theorem strict_any (w : World) (b : Nat) (T : Th) (F : List Bool) (RL : List (List Int)) (M : List Nat) (h : NW w b T F RL M) (r : Int) (h0 : 0 ≤ r) (hr0 : r < T.rules.length) :
  Calls Tryz.prog 133 #[.pointer (some ⟨b, 0, none⟩), .int .i64 r] w (Ret fun v w' => v = .bool (strictB T r) ∧ w' = w) := by
 obtain ⟨vF, vR, vB, vFa, vRu, vM, hh, _, ⟨A, c, rfl, hc, hb, hr⟩, _, _, _, _⟩ := h.ex
 have hrl : r.toNat < T.rules.length := by omega
 obtain ⟨ad, B, cB, rfl, p0, p1, p2, _, _, _⟩ := hr.atRule hrl
 have c2 := cell_of_row w b 2 _ _ _ hh
 simp only [List.getElem?_toArray, List.getElem?_cons_zero, List.getElem?_cons_succ] at c2
 have Hr : Hid (strictB T r = (T.rules[r.toNat].kind == 1)) := by simp [Hid, strictB, kindAt, hrl]
 generalize T.rules[r.toNat].kind = x at *
 refine post_gen fun Q HQ => ?_
 go_enter Tryz.func133, Tryz.ntmps133
 go_wp2
 go_ret
 exact Fin HQ ⟨by rw [Hr.out]; rfl, rfl⟩


theorem supports_any (w : World) (b : Nat) (T : Th) (F : List Bool) (RL : List (List Int)) (M : List Nat) (h : NW w b T F RL M) (r : Int) (h0 : 0 ≤ r) (hr0 : r < T.rules.length) :
  Calls Tryz.prog 139 #[.pointer (some ⟨b, 0, none⟩), .int .i64 r] w (Ret fun v w' => v = .bool (supB T r) ∧ w' = w) := by
 obtain ⟨vF, vR, vB, vFa, vRu, vM, hh, _, ⟨A, c, rfl, hc, hb, hr⟩, _, _, _, _⟩ := h.ex
 have hrl : r.toNat < T.rules.length := by omega
 obtain ⟨ad, B, cB, rfl, p0, p1, p2, _, _, _⟩ := hr.atRule hrl
 have c2 := cell_of_row w b 2 _ _ _ hh
 simp only [List.getElem?_toArray, List.getElem?_cons_zero, List.getElem?_cons_succ] at c2
 have Hr : Hid (supB T r = (T.rules[r.toNat].kind != 3)) := by simp [Hid, supB, kindAt, hrl]
 generalize T.rules[r.toNat].kind = x at *
 refine post_gen fun Q HQ => ?_
 go_enter Tryz.func139, Tryz.ntmps139
 go_wp2
 go_ret
 exact Fin HQ ⟨by rw [Hr.out]; rfl, rfl⟩


theorem wbeats_any (w : World) (b : Nat) (T : Th) (F : List Bool) (RL : List (List Int)) (M : List Nat) (h : NW w b T F RL M) (r s : Int) (h0 : 0 ≤ r) (hr0 : r < T.beats.length) :
  Calls Tryz.prog 145 #[.pointer (some ⟨b, 0, none⟩), .int .i64 r, .int .i64 s] w (Ret fun v w' => v = .bool (beatsB T r s) ∧ w' = w) := by
 obtain ⟨vF, vR, vB, vFa, vRu, vM, hh, _, _, ⟨A, c, rfl, hc, hb, hr⟩, _, _, _⟩ := h.ex
 have hrl : r.toNat < T.beats.length := by omega
 obtain ⟨ad, v, rfl, hcell, hv⟩ := hr.atRowV hrl
 have c3 := cell_of_row w b 3 _ _ _ hh
 simp only [List.getElem?_toArray, List.getElem?_cons_zero, List.getElem?_cons_succ] at c3
 have Hr : Hid (beatsB T r s = memB T.beats[r.toNat] s) := by rw [Hid, beatsB, row_at h0 (by omega)]
 have Hc := hid (contains_any w v _ s hv)
 obtain ⟨B, cB, rfl, _⟩ := hv
 generalize T.beats[r.toNat] = l at *
 refine post_gen fun Q HQ => ?_
 go_enter Tryz.func145, Tryz.ntmps145
 go_wp2_with fail
 refine Hc.out.mono ?_
 rintro e w2 ⟨_, rfl, rfl, rfl⟩
 go_wp2
 go_ret
 exact Fin HQ ⟨by rw [Hr.out]; rfl, rfl⟩


theorem whole1_any (w : World) (b bw bt : Nat) (T : Th) (F : List Bool) (RL : List (List Int)) (M : List Nat) (h : NW w b T F RL M) (hv : NVal T F RL M) (q : Int) (h0 : 0 ≤ q) (hq : q < T.foes.length) (tag : Int) (k : Nat) (hk : k < 4) (ht : tag = (k : Int) + 1)
  (hw : w.cell? ⟨bw, 0, none⟩ = some (.pointer (some ⟨b, 0, none⟩))) (htc : w.cell? ⟨bt, 0, none⟩ = some (.int .i64 tag)) :
  Calls Tryz.prog 155 #[.int .i64 q, .pointer (some ⟨bw, 0, none⟩), .pointer (some ⟨bt, 0, none⟩)] w (Ret fun v w' => v = .bool (!hasM M k q) ∧ Below w.heap.size w w') := by
 have Hc := hid (whas_any w b T F RL M h hv q h0 hq tag k hk ht)
 clear ht
 refine post_gen fun Q HQ => ?_
 go_enter Tryz.func155, Tryz.ntmps155
 go_wp2_with fail
 refine Hc.out.mono ?_
 rintro e w2 ⟨_, rfl, rfl, hb2⟩
 go_wp2
 go_ret
 exact Fin HQ ⟨rfl, hb2⟩
theorem enters_whole1 : Enters Tryz.prog 155 := enters_of Tryz.func155 (by kernel_rfl) (by kernel_rfl)


theorem whole_any (w : World) (b : Nat) (T : Th) (F : List Bool) (RL : List (List Int)) (M : List Nat) (h : NW w b T F RL M) (hv : NVal T F RL M) (r : Int) (h0 : 0 ≤ r) (hr0 : r < T.rules.length) (tag : Int) (k : Nat) (hk : k < 4) (ht : tag = (k : Int) + 1) :
  Calls Tryz.prog 134 #[.pointer (some ⟨b, 0, none⟩), .int .i64 r, .int .i64 tag] w (Ret fun v w' => v = .bool (wholeB T M k r) ∧ Below w.heap.size w w') := by
 have hrl : r.toNat < T.rules.length := by omega
 have hbel := ext_trans (ext_alloc w (.cells #[.pointer (some ⟨b, 0, none⟩)] 119)) (ext_alloc _ (.cells #[.int .i64 tag] 138))
 obtain ⟨W2, HW2⟩ : ∃ W2, Hid (W2 = (w.alloc (.cells #[.pointer (some ⟨b, 0, none⟩)] 119)).alloc (.cells #[.int .i64 tag] 138)) := ⟨_, hid rfl⟩
 rw [← HW2.out] at hbel
 have hw0 : W2.cell? ⟨w.heap.size, 0, none⟩ = some (.pointer (some ⟨b, 0, none⟩)) := by rw [HW2.out, World.cell?_alloc_past _ _ _ (by simp), World.cell?_alloc_at _ _ _ _ rfl]; rfl
 have ht0 : W2.cell? ⟨w.heap.size + 1, 0, none⟩ = some (.int .i64 tag) := by rw [HW2.out, World.cell?_alloc_at _ _ _ _ (by simp)]; rfl
 have h2 := h.ext hbel
 have hbody := hv.body r.toNat hrl
 obtain ⟨vF, vR, vB, vFa, vRu, vM, hh, _, ⟨A, c, rfl, hc, hb, hr⟩, _, _, _, _⟩ := h2.ex
 obtain ⟨ad, B, cB, rfl, p0, p1, p2, q0, q1, q2⟩ := hr.atRule hrl
 have c2 := cell_of_row W2 b 2 _ _ _ hh
 simp only [List.getElem?_toArray, List.getElem?_cons_zero, List.getElem?_cons_succ] at c2
 have Hr : Hid (wholeB T M k r = !T.rules[r.toNat].body.any (fun x => !hasM M k x)) := by simp [Hid, wholeB, bodyAt, hrl]
 have Hc := hid (containsFunc W2 (.slice B T.rules[r.toNat].body.length cB) T.rules[r.toNat].body 155 #[.pointer (some ⟨w.heap.size, 0, none⟩), .pointer (some ⟨w.heap.size + 1, 0, none⟩)] (fun x => !hasM M k x) enters_whole1 ⟨B, cB, rfl, q0, q1, q2⟩
  (fun x hx w1 ho => whole1_any w1 b _ _ T F RL M (h2.ext ho) hv x (hbody x hx).1 (hbody x hx).2 tag k hk ht (cell_ext ho hw0) (cell_ext ho ht0)))
 rw [HW2.out] at c2 p2
 clear h h2 hv hbody hh hr ht p0 p1 q2 hw0 ht0
 generalize T.rules[r.toNat].body = l at *
 refine post_gen fun Q HQ => ?_
 go_enter Tryz.func134, Tryz.ntmps134
 go_wp2_with fail
 rw [← HW2.out]
 refine Hc.out.mono ?_
 rintro e w2 ⟨_, rfl, rfl, hb2⟩
 go_wp2
 go_ret
 exact Fin HQ ⟨by rw [Hr.out]; rfl, ext_trans hbel hb2⟩


theorem some1_any (w : World) (b bw bt : Nat) (T : Th) (F : List Bool) (RL : List (List Int)) (M : List Nat) (h : NW w b T F RL M) (hv : NVal T F RL M) (q : Int) (h0 : 0 ≤ q) (hq : q < T.foes.length) (tag : Int) (k : Nat) (hk : k < 4) (ht : tag = (k : Int) + 1)
  (hw : w.cell? ⟨bw, 0, none⟩ = some (.pointer (some ⟨b, 0, none⟩))) (htc : w.cell? ⟨bt, 0, none⟩ = some (.int .i64 tag)) :
  Calls Tryz.prog 156 #[.int .i64 q, .pointer (some ⟨bw, 0, none⟩), .pointer (some ⟨bt, 0, none⟩)] w (Ret fun v w' => v = .bool (hasM M k q) ∧ Below w.heap.size w w') := by
 have Hc := hid (whas_any w b T F RL M h hv q h0 hq tag k hk ht)
 clear ht
 refine post_gen fun Q HQ => ?_
 go_enter Tryz.func156, Tryz.ntmps156
 go_wp2_with fail
 refine Hc.out.mono ?_
 rintro e w2 ⟨_, rfl, rfl, hb2⟩
 go_wp2
 go_ret
 exact Fin HQ ⟨rfl, hb2⟩
theorem enters_some1 : Enters Tryz.prog 156 := enters_of Tryz.func156 (by kernel_rfl) (by kernel_rfl)


theorem some_any (w : World) (b : Nat) (T : Th) (F : List Bool) (RL : List (List Int)) (M : List Nat) (h : NW w b T F RL M) (hv : NVal T F RL M) (r : Int) (h0 : 0 ≤ r) (hr0 : r < T.rules.length) (tag : Int) (k : Nat) (hk : k < 4) (ht : tag = (k : Int) + 1) :
  Calls Tryz.prog 136 #[.pointer (some ⟨b, 0, none⟩), .int .i64 r, .int .i64 tag] w (Ret fun v w' => v = .bool (someB T M k r) ∧ Below w.heap.size w w') := by
 have hrl : r.toNat < T.rules.length := by omega
 have hbel := ext_trans (ext_alloc w (.cells #[.pointer (some ⟨b, 0, none⟩)] 119)) (ext_alloc _ (.cells #[.int .i64 tag] 138))
 obtain ⟨W2, HW2⟩ : ∃ W2, Hid (W2 = (w.alloc (.cells #[.pointer (some ⟨b, 0, none⟩)] 119)).alloc (.cells #[.int .i64 tag] 138)) := ⟨_, hid rfl⟩
 rw [← HW2.out] at hbel
 have hw0 : W2.cell? ⟨w.heap.size, 0, none⟩ = some (.pointer (some ⟨b, 0, none⟩)) := by rw [HW2.out, World.cell?_alloc_past _ _ _ (by simp), World.cell?_alloc_at _ _ _ _ rfl]; rfl
 have ht0 : W2.cell? ⟨w.heap.size + 1, 0, none⟩ = some (.int .i64 tag) := by rw [HW2.out, World.cell?_alloc_at _ _ _ _ (by simp)]; rfl
 have h2 := h.ext hbel
 have hbody := hv.body r.toNat hrl
 obtain ⟨vF, vR, vB, vFa, vRu, vM, hh, _, ⟨A, c, rfl, hc, hb, hr⟩, _, _, _, _⟩ := h2.ex
 obtain ⟨ad, B, cB, rfl, p0, p1, p2, q0, q1, q2⟩ := hr.atRule hrl
 have c2 := cell_of_row W2 b 2 _ _ _ hh
 simp only [List.getElem?_toArray, List.getElem?_cons_zero, List.getElem?_cons_succ] at c2
 have Hr : Hid (someB T M k r = T.rules[r.toNat].body.any (fun x => hasM M k x)) := by simp [Hid, someB, bodyAt, hrl]
 have Hc := hid (containsFunc W2 (.slice B T.rules[r.toNat].body.length cB) T.rules[r.toNat].body 156 #[.pointer (some ⟨w.heap.size, 0, none⟩), .pointer (some ⟨w.heap.size + 1, 0, none⟩)] (fun x => hasM M k x) enters_some1 ⟨B, cB, rfl, q0, q1, q2⟩
  (fun x hx w1 ho => some1_any w1 b _ _ T F RL M (h2.ext ho) hv x (hbody x hx).1 (hbody x hx).2 tag k hk ht (cell_ext ho hw0) (cell_ext ho ht0)))
 rw [HW2.out] at c2 p2
 clear h h2 hv hbody hh hr ht p0 p1 q2 hw0 ht0
 generalize T.rules[r.toNat].body = l at *
 refine post_gen fun Q HQ => ?_
 go_enter Tryz.func136, Tryz.ntmps136
 go_wp2_with fail
 rw [← HW2.out]
 refine Hc.out.mono ?_
 rintro e w2 ⟨_, rfl, rfl, hb2⟩
 go_wp2
 go_ret
 exact Fin HQ ⟨by rw [Hr.out]; rfl, ext_trans hbel hb2⟩


theorem anyRule_any (w : World) (b : Nat) (T : Th) (F : List Bool) (RL : List (List Int)) (M : List Nat) (h : NW w b T F RL M) (hv : NVal T F RL M) (q : Int) (h0 : 0 ≤ q) (hq : q < T.foes.length)
  (g : Nat) (caps : Array Value) (p : Int → Bool) (hg : Enters Tryz.prog g) (hf : ∀ x ∈ row RL q, FunB Tryz.prog w g caps p x) :
  Calls Tryz.prog 131 #[.pointer (some ⟨b, 0, none⟩), .int .i64 q, .func (.func g) #[] caps] w (Ret fun v w' => v = .bool ((row RL q).any p) ∧ Below w.heap.size w w') := by
 obtain ⟨vF, vR, vB, vFa, vRu, vM, hh, _, _, _, _, ⟨A, c, rfl, hc, hb, hr⟩, _⟩ := h.ex
 have hql : q.toNat < RL.length := by have := hv.nR; omega
 have hqi : q < RL.length := by have := hv.nR; omega
 obtain ⟨ad, v, rfl, hcell, hvv⟩ := hr.atRowV hql
 have c5 := cell_of_row w b 5 _ _ _ hh
 simp only [List.getElem?_toArray, List.getElem?_cons_zero, List.getElem?_cons_succ] at c5
 have hrow : row RL q = RL[q.toNat] := row_at h0 (by omega)
 rw [hrow] at hf ⊢
 have Hc := hid (containsFunc w v _ g caps p hg hvv hf)
 obtain ⟨B, cB, rfl, _⟩ := hvv
 clear hf hrow hv h hh hr
 generalize RL[q.toNat] = l at *
 refine post_gen fun Q HQ => ?_
 go_enter Tryz.func131, Tryz.ntmps131
 go_wp2_with fail
 refine Hc.out.mono ?_
 rintro e w2 ⟨_, rfl, rfl, hb2⟩
 go_wp2
 go_ret
 exact Fin HQ ⟨rfl, hb2⟩

theorem anyAttack1_any (w : World) (b bw bi : Nat) (T : Th) (F : List Bool) (RL : List (List Int)) (M : List Nat) (h : NW w b T F RL M) (hv : NVal T F RL M) (f : Int) (h0 : 0 ≤ f) (hq : f < T.foes.length)
  (g : Nat) (caps : Array Value) (p : Int → Bool) (hg : Enters Tryz.prog g) (hf : ∀ x ∈ row RL f, FunB Tryz.prog w g caps p x)
  (hw : w.cell? ⟨bw, 0, none⟩ = some (.pointer (some ⟨b, 0, none⟩))) (hi : w.cell? ⟨bi, 0, none⟩ = some (.func (.func g) #[] caps)) :
  Calls Tryz.prog 157 #[.int .i64 f, .pointer (some ⟨bw, 0, none⟩), .pointer (some ⟨bi, 0, none⟩)] w (Ret fun v w' => v = .bool ((row RL f).any p) ∧ Below w.heap.size w w') := by
 have Hc := hid (anyRule_any w b T F RL M h hv f h0 hq g caps p hg hf)
 clear hf
 refine post_gen fun Q HQ => ?_
 go_enter Tryz.func157, Tryz.ntmps157
 go_wp2_with fail
 refine Hc.out.mono ?_
 rintro e w2 ⟨_, rfl, rfl, hb2⟩
 go_wp2
 go_ret
 exact Fin HQ ⟨rfl, hb2⟩
theorem enters_anyAttack1 : Enters Tryz.prog 157 := enters_of Tryz.func157 (by kernel_rfl) (by kernel_rfl)

theorem FunB.ext {P : Program} {w w' : World} {g : Nat} {caps : Array Value} {p : Int → Bool} {x : Int} (h : FunB P w g caps p x) (hb : Below w.heap.size w w') : FunB P w' g caps p x := fun w1 ho => h w1 (ext_trans hb ho)

theorem anyAttack_any (w : World) (b : Nat) (T : Th) (F : List Bool) (RL : List (List Int)) (M : List Nat) (h : NW w b T F RL M) (hv : NVal T F RL M) (q : Int) (h0 : 0 ≤ q) (hq : q < T.foes.length)
  (g : Nat) (caps : Array Value) (p : Int → Bool) (hg : Enters Tryz.prog g) (hf : ∀ f ∈ row T.foes q, ∀ x ∈ row RL f, FunB Tryz.prog w g caps p x) :
  Calls Tryz.prog 142 #[.pointer (some ⟨b, 0, none⟩), .int .i64 q, .func (.func g) #[] caps] w (Ret fun v w' => v = .bool ((row T.foes q).any fun f => (row RL f).any p) ∧ Below w.heap.size w w') := by
 have hql : q.toNat < T.foes.length := by omega
 have hrow : row T.foes q = T.foes[q.toNat] := row_at h0 (by omega)
 rw [hrow] at hf ⊢
 have hbel := ext_trans (ext_alloc w (.cells #[.pointer (some ⟨b, 0, none⟩)] 119)) (ext_alloc _ (.cells #[.func (.func g) #[] caps] 107))
 obtain ⟨W2, HW2⟩ : ∃ W2, Hid (W2 = (w.alloc (.cells #[.pointer (some ⟨b, 0, none⟩)] 119)).alloc (.cells #[.func (.func g) #[] caps] 107)) := ⟨_, hid rfl⟩
 rw [← HW2.out] at hbel
 have hw0 : W2.cell? ⟨w.heap.size, 0, none⟩ = some (.pointer (some ⟨b, 0, none⟩)) := by rw [HW2.out, World.cell?_alloc_past _ _ _ (by simp), World.cell?_alloc_at _ _ _ _ rfl]; rfl
 have ht0 : W2.cell? ⟨w.heap.size + 1, 0, none⟩ = some (.func (.func g) #[] caps) := by rw [HW2.out, World.cell?_alloc_at _ _ _ _ (by simp)]; rfl
 have h2 := h.ext hbel
 have hfo := hv.fo q.toNat hql
 obtain ⟨vF, vR, vB, vFa, vRu, vM, hh, ⟨A, c, rfl, hc, hb, hr⟩, _, _, _, _, _⟩ := h2.ex
 obtain ⟨ad, v, rfl, hcell, hvv⟩ := hr.atRowV hql
 have c1 := cell_of_row W2 b 1 _ _ _ hh
 simp only [List.getElem?_toArray, List.getElem?_cons_zero, List.getElem?_cons_succ] at c1
 have Hc := hid (containsFunc W2 v T.foes[q.toNat] 157 #[.pointer (some ⟨w.heap.size, 0, none⟩), .pointer (some ⟨w.heap.size + 1, 0, none⟩)] (fun f => (row RL f).any p) enters_anyAttack1 hvv
  (fun f hx w1 ho => anyAttack1_any w1 b _ _ T F RL M (h2.ext ho) hv f (hfo f hx).1 (hfo f hx).2 g caps p hg (fun x hxx => (hf f hx x hxx).ext (ext_trans hbel ho)) (cell_ext ho hw0) (cell_ext ho ht0)))
 rw [HW2.out] at c1 hcell
 obtain ⟨B, cB, rfl, _⟩ := hvv
 clear h h2 hv hh hr hw0 ht0 hf hfo hrow
 generalize T.foes[q.toNat] = l at *
 refine post_gen fun Q HQ => ?_
 go_enter Tryz.func142, Tryz.ntmps142
 go_wp2_with fail
 rw [← HW2.out]
 refine Hc.out.mono ?_
 rintro e w2 ⟨_, rfl, rfl, hb2⟩
 go_wp2
 go_ret
 exact Fin HQ ⟨rfl, ext_trans hbel hb2⟩
end Go.Proofs.Lx

namespace Go.Proofs.Lx
open Go Go.RowKit
set_option linter.unusedVariables false

abbrev intsV (xs : List Int) : List Value := xs.map (Value.int .i64)
theorem step_append_own_at {P : Program} {ops : Array Oper} {o : Oper} {a : Act} {w : World} {K : Act → World → Prop} {Q : Exit → Act → World → Prop} {E : Prop}
  (hgd : o.guard = none) (s x : Operand) (t : TypeId)
  (ho : o.op = .call { callee := .builtin .append, args := #[s, x], argTypes := #[t, t] })
  (base : Nat) (e : TypeId) (z : Value) (bytes : Nat) (ht : P.underlying t = some (.slice e)) (hinfo : (P.info? e).map (fun i => (i.zero, i.size, i.bytes)) = some (some z, 1, bytes)) (hz : z.cells.size = 1)
  (v : Value) (n : Nat) (xs : List Value) (hs : a.eval s = v) (hown : w.ownsRow base e 1 v n xs)
  (ad : Addr) (y : Value) (hx : a.eval x = .slice (some ad) 1 1) (hnew : w.cell? ad = some y) (h1 : y.oneCell' = true)
  (h63 : n + 1 ≤ maxLen) (hbytes : (n + 1) * bytes ≤ 140737488355328) (hbase : base ≤ w.heap.size)
  (h : ∀ v' w', w'.ownsRow base e 1 v' (n + 1) (xs ++ [y]) → w.grownBy w' v.ownBlock → (v'.ownBlock = v.ownBlock ∨ v'.ownBlock = some w.heap.size) → K (a.put o.dst v') w') :
  if Region.wanted o (yielded ops a.tmps) = true then Oper.wp P o a w K Q else E := by
 rw [if_pos (by simp [Region.wanted, hgd])]
 obtain ⟨i, hi, hz0, hz1, hz2⟩ := info_parts hinfo
 obtain ⟨v', w', hr, h2, h3, h4, h5⟩ := run_append_own_at (P := P) w base t o.type e i z 1 bytes ht hi hz0 hz1 hz2 hz (by omega) v n xs hown ad 1 1 [y] rfl (by
  intro j u hj
  match j, hj with
  | 0, hj => simp at hj; subst hj; rw [add_zero]; exact hnew) (by intro u hu; simp at hu; subst hu; exact h1) h63 hbytes hbase
 unfold Oper.wp execOp
 simp only [ho, resolve, invoke, builtin, Sem.run_bind, Sem.run_pure, Result.andThen_ok, List.map_toArray, List.map_cons, List.map_nil, hs, hx, hr]
 exact h v' w' h2 h3 h5

structure Rows (w : World) (g base eS eI : Nat) (vs : List Value) (xss : List (List Int)) : Prop where
 blk : w.heap[g]? = some (.cells vs.toArray eS (0, 0))
 len : vs.length = xss.length
 own : ∀ q (h : q < vs.length) (h' : q < xss.length), w.ownsRow base eI 1 vs[q] xss[q].length (intsV xss[q])
 ne : ∀ q r (h : q < vs.length) (h' : r < vs.length), q ≠ r → vs[q].ownBlock = none ∨ vs[q].ownBlock ≠ vs[r].ownBlock
 hg : g < base
section
variable {w w' : World} {g base eS eI : Nat} {vs : List Value} {xss : List (List Int)}
theorem Rows.cell (h : Rows w g base eS eI vs xss) {q : Nat} (hq : q < vs.length) : w.cell? ⟨g, q, none⟩ = some vs[q] := by
 rw [cell_of_row w g q _ eS _ h.blk]; simp [hq]
theorem Rows.free (h : Rows w g base eS eI vs xss) (q : Nat) : w.frozen? ⟨g, q, none⟩ = false := frozen_of_row w g q _ eS h.blk
theorem Rows.lt (h : Rows w g base eS eI vs xss) : g < w.heap.size := lt_of_block h.blk
theorem Rows.ext (h : Rows w g base eS eI vs xss) (hb : Below w.heap.size w w') : Rows w' g base eS eI vs xss :=
 ⟨(hb.block g h.lt).trans h.blk, h.len, fun q h1 h2 => (h.own q h1 h2).kept (row := none) ⟨hb.os, hb.tape, hb.output, hb.size, fun k hk _ => hb.block k hk⟩ (by cases vs[q].ownBlock <;> simp), h.ne, h.hg⟩
theorem Rows.other (h : Rows w g base eS eI vs xss) {a : Addr} (ha : a.block < base) (hne : g ≠ a.block) (u : Value) : Rows (w.setCell a u) g base eS eI vs xss :=
 ⟨(heap_setCell_other w a g u hne).trans h.blk, h.len, fun q h1 h2 => ownsRow_setCell_other (h.own q h1 h2) (fun e => by have := (h.own q h1 h2).lt _ e; omega) u, h.ne, h.hg⟩
theorem Rows.made (w : World) (g base eS eI n : Nat) (hg : g < base) (hb : w.heap[g]? = some (.cells (List.replicate n (Value.slice none 0 0)).toArray eS (0, 0))) : Rows w g base eS eI (List.replicate n (.slice none 0 0)) (List.replicate n []) :=
 ⟨hb, by simp, fun q h1 h2 => by simpa using World.ownsRow_nil w base eI 1, fun q r h1 h2 hne => .inl (by simp [Value.ownBlock]), hg⟩
/-- Row q has grown by one. -/
theorem Rows.append (h : Rows w g base eS eI vs xss) (hbase : base ≤ w.heap.size) {q : Nat} (hq : q < vs.length) (hq' : q < xss.length) {v' : Value} {x : Int} (hgr : w.grownBy w' vs[q].ownBlock)
  (ho : w'.ownsRow base eI 1 v' (xss[q].length + 1) (intsV xss[q] ++ [.int .i64 x])) (hat : v'.ownBlock = vs[q].ownBlock ∨ ∃ b, v'.ownBlock = some b ∧ w.heap.size ≤ b) :
  Rows (w'.setCell ⟨g, q, none⟩ v') g base eS eI (vs.set q v') (xss.set q (xss[q] ++ [x])) := by
 have hgne : ∀ k, vs[q].ownBlock = some k → base ≤ k ∧ k < w.heap.size := (h.own q hq hq').lt
 have hblk : w'.heap[g]? = some (.cells vs.toArray eS (0, 0)) := (hgr.block g h.lt (fun e => by have := hgne g e.symm; have := h.hg; omega)).trans h.blk
 refine ⟨?_, by simp [h.len], ?_, ?_, h.hg⟩
 ·rw [heap_setCell_same w' g q _ eS _ hblk]; simp
 ·intro r h1 h2
  simp only [List.length_set] at h1 h2
  by_cases e : q = r
  ·subst e
   simp only [List.getElem_set_self, List.length_append, List.length_cons, List.length_nil, intsV, List.map_append, List.map_cons, List.map_nil]
   exact ownsRow_setCell_other ho (fun e => by have h9 : base ≤ g := (ho.lt _ e).1; have := h.hg; omega) _
  ·rw [List.getElem_set_ne e, List.getElem_set_ne e]
   have h3 := (h.own r h1 h2).kept hgr (h.ne r q h1 hq (Ne.symm e))
   exact ownsRow_setCell_other h3 (fun e => by have h9 : base ≤ g := (h3.lt _ e).1; have := h.hg; omega) _
 ·intro r t h1 h2 hrt
  simp only [List.length_set] at h1 h2
  rw [List.getElem_set, List.getElem_set]
  by_cases e : q = r
  ·rw [if_pos e, if_neg (fun e2 => hrt (e.symm.trans e2))]
   subst e
   rcases hat with hat | ⟨b, hat, hb⟩
   ·rw [hat]; exact h.ne q t hq h2 hrt
   ·right
    rw [hat]
    intro e3
    have := (h.own t h2 (by rw [← h.len]; exact h2)).lt b e3.symm
    omega
  ·rw [if_neg e]
   by_cases e2 : q = t
   ·rw [if_pos e2]
    subst e2
    rcases hat with hat | ⟨b, hat, hb⟩
    ·rw [hat]; exact h.ne r q h1 hq hrt
    ·cases ho2 : vs[r].ownBlock with
     | none => exact .inl rfl
     | some k =>
      right
      rw [hat]
      intro e3
      injection e3 with e3
      have := (h.own r h1 (by rw [← h.len]; exact h1)).lt k ho2
      omega
   ·rw [if_neg e2]; exact h.ne r t h1 h2 hrt
theorem own_rdI {v : Value} {xs : List Int} (h : w.ownsRow base eI 1 v xs.length (intsV xs)) (hl : xs.length ≤ 140737488355328) : RdI w v xs := by
 rcases h.2 with ⟨rfl, h0⟩ | ⟨gg, cap, cur, rfl, _, _, hc, _⟩
 ·exact ⟨none, 0, by rw [h0], by omega, hl, fun i hi => absurd hi (by omega)⟩
 ·refine ⟨_, cap, rfl, hc, hl, fun i hi => ⟨_, _, rfl, rfl, rfl, fun j u hu => ?_⟩⟩
  match j, hu with
  | 0, hu =>
   simp at hu; subst hu
   rw [add_plain, Nat.add_zero, Nat.mul_one, h.cellAt i (by omega)]
   simp [hi]
theorem Rows.reads (h : Rows w g base eS eI vs xss) (hl : xss.length ≤ 140737488355328) (hx : ∀ q (h : q < xss.length), xss[q].length ≤ 140737488355328) (c : Nat) (hc : xss.length ≤ c) : RdLL w (.slice (some ⟨g, 0, none⟩) xss.length c) xss := by
 refine ⟨_, c, rfl, hc, hl, fun i hi => ⟨_, _, rfl, ⟨vs[i]'(by rw [h.len]; exact hi), rfl, own_rdI (h.own i _ hi) (hx i hi)⟩, rfl, fun j u hu => ?_⟩⟩
 match j, hu with
 | 0, hu =>
  simp at hu; subst hu
  rw [add_plain, Nat.add_zero, Nat.mul_one]
  exact h.cell _
end
end Go.Proofs.Lx

namespace Go.Proofs.Lx
open Go Go.RowKit
set_option linter.unusedSimpArgs false
set_option linter.unusedVariables false

abbrev marksV (M : List Nat) : List Value := M.map fun (x : Nat) => Value.int .u8 (x : Int)
theorem own_rdS {α : Type} {enc : α → Value} {w : World} {base eI : Nat} {v : Value} {xs : List α} (h : w.ownsRow base eI 1 v xs.length (xs.map enc)) (hl : xs.length ≤ 140737488355328) : Rd 1 (scR enc) w v xs := by
 rcases h.2 with ⟨rfl, h0⟩ | ⟨gg, cap, cur, rfl, _, _, hc, _⟩
 ·exact ⟨none, 0, by rw [h0], by omega, hl, fun i hi => absurd hi (by omega)⟩
 ·refine ⟨_, cap, rfl, hc, hl, fun i hi => ⟨_, _, rfl, rfl, rfl, fun j u hu => ?_⟩⟩
  match j, hu with
  | 0, hu =>
   simp at hu; subst hu
   rw [add_plain, Nat.add_zero, Nat.mul_one, h.cellAt i (by omega)]
   simp [hi]

theorem cloneM_any (w : World) (v : Value) (M : List Nat) (hv : RdMk w v M) :
  Calls Tryz.prog 51 #[v] w (Ret fun r w' => w'.ownsRow w.heap.size 58 1 r M.length (marksV M) ∧ Below w.heap.size w w') := by
 obtain ⟨A, c, rfl, hc, hb, hr⟩ := hv
 have hne := @Lib.run_eql_slice_nil Tryz.prog
 obtain ⟨i0, hi, hz0, hz1, hz2⟩ := info_parts infoM
 refine post_gen fun Q HQ => ?_
 cases A with
 | none =>
  have hM : M.length = 0 := by
   rcases Nat.eq_zero_or_pos M.length with h | h
   ·exact h
   ·obtain ⟨ad, _, h1, _⟩ := hr 0 h; cases h1
  have HM := hid (List.eq_nil_of_length_eq_zero hM)
  have hM0 : M.length ≤ 0 := by omega
  clear hM hr
  generalize hL : M.length = L at *
  have HL := hid hL
  clear hL
  go_enter Tryz.func51, Tryz.ntmps51
  go_wp2
  go_ret
  exact Fin HQ ⟨by rw [HM.out]; rw [HM.out] at HL; obtain rfl : 0 = L := HL.out; exact World.ownsRow_nil _ _ _ _, ext_refl _⟩
 | some ad =>
  have hn : ∀ (W : World), Below w.heap.size w W → ∀ j u, (marksV M)[j]? = some u → W.cell? (ad.add j) = some u := by
   intro W hW j u hj
   obtain ⟨hjl, rfl⟩ := List.getElem?_eq_some_iff.1 hj
   simp only [marksV, List.length_map] at hjl
   obtain ⟨ad', e, h1⟩ := hr.at1 hjl
   cases e
   have := cell_ext hW h1
   simpa [marksV] using this
  have Hn := hid hn
  clear hn hr
  go_enter Tryz.func51, Tryz.ntmps51
  go_wp2_with (at_builtin; refine wpList_append_own _ rfl _ _ 40 rfl w.heap.size 58 i0 (.int .u8 0) 1 1 Tryz.underlying40 hi hz0 hz1 hz2 rfl (by decide) _ 0 [] rfl (World.ownsRow_made w #[] 0 (Nat.le_refl _) (by unfold maxLen; omega) rfl) ad M.length c (marksV M) rfl (by simp) (Hn.out _ (ext_alloc _ _)) ?c1 ?c2 ?c3 ?c4 ?_)
  case c1 => intro u hu; obtain ⟨x, _, rfl⟩ := List.mem_map.1 hu; rfl
  case c2 => unfold maxLen; omega
  case c3 => omega
  case c4 => simp
  intro v' w1 hown hgrow _
  go_wp2
  go_ret
  refine Fin HQ ⟨by simpa using hown, ?_⟩
  exact ((ext_alloc w _).grown hgrow (by simp) (fun k hk => by simp [Value.ownBlock] at hk; omega))
end Go.Proofs.Lx

namespace Go.Proofs.Lx
open Go Go.RowKit
set_option linter.unusedSimpArgs false
set_option linter.unusedVariables false
theorem cloneI_any (w : World) (v : Value) (M : List Int) (hv : RdI w v M) (h8 : M.length * 8 ≤ 140737488355328) :
  Calls Tryz.prog 39 #[v] w (Ret fun r w' => w'.ownsRow w.heap.size 3 1 r M.length (intsV M) ∧ Below w.heap.size w w') := by
 obtain ⟨A, c, rfl, hc, hb, hr⟩ := hv
 have hne := @Lib.run_eql_slice_nil Tryz.prog
 obtain ⟨i0, hi, hz0, hz1, hz2⟩ := info_parts infoI
 refine post_gen fun Q HQ => ?_
 cases A with
 | none =>
  have hM : M.length = 0 := by
   rcases Nat.eq_zero_or_pos M.length with h | h
   ·exact h
   ·obtain ⟨ad, _, h1, _⟩ := hr 0 h; cases h1
  have HM := hid (List.eq_nil_of_length_eq_zero hM)
  have hM0 : M.length ≤ 0 := by omega
  clear hM hr
  generalize hL : M.length = L at *
  have HL := hid hL
  clear hL
  go_enter Tryz.func39, Tryz.ntmps39
  go_wp2
  go_ret
  exact Fin HQ ⟨by rw [HM.out]; rw [HM.out] at HL; obtain rfl : 0 = L := HL.out; exact World.ownsRow_nil _ _ _ _, ext_refl _⟩
 | some ad =>
  have hn : ∀ (W : World), Below w.heap.size w W → ∀ j u, (intsV M)[j]? = some u → W.cell? (ad.add j) = some u := by
   intro W hW j u hj
   obtain ⟨hjl, rfl⟩ := List.getElem?_eq_some_iff.1 hj
   simp only [intsV, List.length_map] at hjl
   obtain ⟨ad', e, h1⟩ := hr.at1 hjl
   cases e
   have := cell_ext hW h1
   simpa [intsV] using this
  have Hn := hid hn
  clear hn hr
  go_enter Tryz.func39, Tryz.ntmps39
  go_wp2_with (at_builtin; refine wpList_append_own _ rfl _ _ 36 rfl w.heap.size 3 i0 (.int .i64 0) 1 8 Tryz.underlying36 hi hz0 hz1 hz2 rfl (by decide) _ 0 [] rfl (World.ownsRow_made w #[] 0 (Nat.le_refl _) (by unfold maxLen; omega) rfl) ad M.length c (intsV M) rfl (by simp) (Hn.out _ (ext_alloc _ _)) ?c1 ?c2 ?c3 ?c4 ?_)
  case c1 => intro u hu; obtain ⟨x, _, rfl⟩ := List.mem_map.1 hu; rfl
  case c2 => unfold maxLen; omega
  case c3 => omega
  case c4 => simp
  intro v' w1 hown hgrow _
  go_wp2
  go_ret
  refine Fin HQ ⟨by simpa using hown, ?_⟩
  exact ((ext_alloc w _).grown hgrow (by simp) (fun k hk => by simp [Value.ownBlock] at hk; omega))
/-- A list of rules' cells, in the order of the block. -/
def cellsR (rs : List Rule) (vs : Nat → Value) : List Value := (List.range rs.length).flatMap fun i => [.int .i64 (rs.getD i default).kind, .int .i64 (rs.getD i default).head, vs i]
theorem cellsR_length (rs : List Rule) (vs : Nat → Value) : (cellsR rs vs).length = rs.length * 3 := by
 unfold cellsR
 rw [List.length_flatMap]
 have : (List.range rs.length).map (fun i => ([Value.int .i64 (rs.getD i default).kind, .int .i64 (rs.getD i default).head, vs i] : List Value).length) = List.replicate rs.length 3 := by
  apply List.ext_getElem
  ·simp
  ·intro a h1 h2; simp
 rw [this]; simp
theorem cellsR_at {rs : List Rule} {vs : Nat → Value} {i : Nat} (hi : i < rs.length) : (cellsR rs vs)[i * 3]? = some (.int .i64 (rs.getD i default).kind) ∧ (cellsR rs vs)[i * 3 + 1]? = some (.int .i64 (rs.getD i default).head) ∧ (cellsR rs vs)[i * 3 + 2]? = some (vs i) := by
 have key : ∀ (n : Nat), i < n → ∀ f : Nat → List Value, (∀ j, (f j).length = 3) → ∀ q, q < 3 → ((List.range n).flatMap f)[i * 3 + q]? = (f i)[q]? := by
  intro n
  induction n with
  | zero => intro h; omega
  | succ n ih =>
   intro h f hf q hq
   have hl : ((List.range n).flatMap f).length = n * 3 := by
    rw [List.length_flatMap]
    have : (List.range n).map (fun j => (f j).length) = List.replicate n 3 := by
     apply List.ext_getElem
     ·simp
     ·intro a h1 h2; simp [hf]
    rw [this]; simp
   rw [List.range_succ, List.flatMap_append]
   by_cases e : i = n
   ·subst e
    rw [List.getElem?_append_right (by omega), hl]
    simp
   ·rw [List.getElem?_append_left (by omega)]
    exact ih (by omega) f hf q hq
 have h0 := key rs.length hi (fun i => [.int .i64 (rs.getD i default).kind, .int .i64 (rs.getD i default).head, vs i]) (fun _ => rfl) 0 (by omega)
 have h1 := key rs.length hi (fun i => [.int .i64 (rs.getD i default).kind, .int .i64 (rs.getD i default).head, vs i]) (fun _ => rfl) 1 (by omega)
 have h2 := key rs.length hi (fun i => [.int .i64 (rs.getD i default).kind, .int .i64 (rs.getD i default).head, vs i]) (fun _ => rfl) 2 (by omega)
 rw [Nat.add_zero] at h0
 exact ⟨h0, h1, h2⟩
theorem infoRl : (Tryz.prog.info? 93).map (fun i => (i.zero, i.size, i.bytes)) = some (some (.agg #[.int .i64 0, .int .i64 0, .slice none 0 0]), 3, 40) := by kernel_rfl
end Go.Proofs.Lx
