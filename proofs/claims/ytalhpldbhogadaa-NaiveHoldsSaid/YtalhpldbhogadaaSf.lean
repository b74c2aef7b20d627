/- The reference's world (layer 15) in memory; Bit, In, All, Any, strict, Support. -/
import Derived.Test.YtalhpldbhogadaaSe
import Derived.Test.YtalhpldbhogadaaNb
namespace Go.Proofs.Lx
open Go Go.RowKit
set_option linter.unusedSimpArgs false
set_option linter.unusedVariables false

structure NR (w : World) (b : Nat) (T : Th) (l : List Int) (RL : List (List Int)) : Prop where
  ex : ∃ vF vR vB vl vRu, w.heap[b]? = some (.cells #[.int .i64 T.lits, vF, vR, vB, vl, vRu] 127 (0, 0)) ∧ RdLL w vF T.foes ∧ RdRs w vR T.rules ∧ RdLL w vB T.beats ∧ RdI w vl l ∧ RdLL w vRu RL
theorem NR.ext {w w' : World} {b : Nat} {T : Th} {l : List Int} {RL : List (List Int)} (h : NR w b T l RL) (hb : Below w.heap.size w w') : NR w' b T l RL := by
  obtain ⟨vF, vR, vB, vl, vRu, hh, h1, h2, h3, h4, h5⟩ := h.ex
  exact ⟨vF, vR, vB, vl, vRu, (hb.block b (lt_of_block hh)).trans hh, h1.ext llR_mono hb, h2.ext ruleR_mono hb, h3.ext llR_mono hb, h4.ext (scR_mono _) hb, h5.ext llR_mono hb⟩

/-- A call that answers a bool and but draws. -/
def Dr (w : World) (B : Bool) (e : Ending) (w' : World) : Prop := e = .returned (.bool B) ∧ ∃ m, w' = w.drewN m
theorem dr_of {P : Program} {f : FuncId} {args : Array Value} {w : World} {B : Bool} (h : Calls P f args w (Ret fun v w' => v = .bool B ∧ ∃ m, w' = w.drewN m)) : Calls P f args w (Dr w B) :=
  h.mono fun e w' ⟨v, he, hv, hw⟩ => ⟨by rw [he, hv], hw⟩
theorem dr_quiet {P : Program} {f : FuncId} {args : Array Value} {w : World} {B : Bool} (h : ∀ q, Calls P f args (w.drewN q) (Dr (w.drewN q) B)) (q : Nat) : Calls P f args (w.drewN q) (fun e w' => e = .returned (.bool B) ∧ ∃ m, w' = w.drewN m) :=
  (h q).mono fun e w' ⟨he, m, hw⟩ => ⟨he, q + m, by rw [hw, World.drewN_drewN]⟩

theorem bit15_plain (tag : Int) (k : Nat) (hk : k < 4) (ht : tag = (k : Int) + 1) (w : World) : Calls Try.prog 74 #[.int .i64 tag] w fun e w' => e = .returned (.int .u8 ((2 ^ k : Nat) : Int)) ∧ w' = w := by
  refine Calls.mono (R := Ret fun v w' => v = .int .u8 ((2 ^ k : Nat) : Int) ∧ w' = w) ?_ (fun e w' ⟨v, he, hv, hw⟩ => ⟨by rw [he, hv], hw⟩)
  refine post_gen fun Q HQ => ?_
  rcases (show k = 0 ∨ k = 1 ∨ k = 2 ∨ k = 3 by omega) with rfl | rfl | rfl | rfl
  all_goals
    subst ht
    go_enter Try.func74, Try.ntmps74
    go_wp2
    go_ret
    exact Fin HQ ⟨rfl, rfl⟩

set_option maxHeartbeats 800000 in
theorem in15_same (w : World) (v : Value) (l : List Int) (x : Int) (hv : RdI w v l) :
    Calls Try.prog 137 #[v, .int .i64 x] w (fun e w' => e = .returned (.bool (memB l x)) ∧ w' = w) := by
  refine Calls.mono (R := Ret fun v w' => v = .bool (memB l x) ∧ w' = w) ?_ (fun e w' ⟨v, he, hv, hw⟩ => ⟨by rw [he, hv], hw⟩)
  obtain ⟨A, c, rfl, hc, hb, hr⟩ := hv
  refine post_gen fun Q HQ => ?_
  go_enter Try.func137, Try.ntmps137
  go_wp2
  go_loop [5] (fun v5 => ∃ k : Nat, k ≤ l.length ∧ v5 = .int .i64 k ∧ Hid (∀ i (h : i < l.length), i < k → l[i] ≠ x)) (fun v5 => l.length - (intOf v5).toNat)
  case atStart => exact ⟨0, Nat.zero_le _, rfl, fun i _ hk => absurd hk (by omega)⟩
  case round =>
    obtain ⟨k, hk, rfl, hno⟩ := hrel
    by_cases hlt : k < l.length
    · obtain ⟨ad, rfl, hcell⟩ := hr.at1 hlt
      obtain ⟨y, Hy⟩ : ∃ y, Hid (l[k] = y) := ⟨_, hid rfl⟩
      have Hmem := hid (List.getElem_mem hlt)
      rw [Hy.out] at hcell Hmem
      by_cases he : y = x
      · have hb1 : (y == x) = true := by simp [he]
        have hT : Hid (memB l x = true) := hid (memB_true.2 (by rw [← he]; exact Hmem.out))
        clear he
        go_wp2
        go_ret
        exact Fin HQ ⟨by rw [hT.out]; rfl, rfl⟩
      · have hb1 : (y == x) = false := by simp [he]
        have He := hid he
        clear he
        go_wp2
        go_round
        case rel =>
          refine ⟨k + 1, by omega, by go_num, hid fun i h hi => ?_⟩
          by_cases e : i = k
          · subst e; rw [Hy.out]; exact He.out
          · exact hno.out i h (by omega)
        case measure => simp [intOf]; omega
    · have hF : Hid (memB l x = false) := hid (memB_false.2 fun hm => by
        obtain ⟨i, hi, e⟩ := List.getElem_of_mem hm
        exact hno.out i hi (by omega) e)
      go_wp2
      go_ret
      exact Fin HQ ⟨by rw [hF.out]; rfl, rfl⟩

/-- A world that but drew. -/
def Drew (w w' : World) : Prop := ∃ m, w' = w.drewN m
theorem Drew.refl (w : World) : Drew w w := ⟨0, rfl⟩
theorem Drew.below {w w' : World} (h : Drew w w') : Below w.heap.size w w' := by obtain ⟨m, rfl⟩ := h; exact ext_drewN w m
theorem Drew.step {w w' : World} (h : Drew w w') (q : Nat) : Drew w (w'.drewN q) := by obtain ⟨m, rfl⟩ := h; exact ⟨m + q, World.drewN_drewN _ _ _⟩
theorem Drew.trans {a b c : World} (h : Drew a b) (k : Drew b c) : Drew a c := by obtain ⟨q, rfl⟩ := k; exact h.step q

def allM (M : List Nat) (k : Nat) (l : List Int) : Bool := !l.any fun x => !hasM M k x
def anyM (M : List Nat) (k : Nat) (l : List Int) : Bool := l.any fun x => hasM M k x

set_option maxRecDepth 100000 in
set_option maxHeartbeats 1600000 in
theorem all15_any (w : World) (vm v : Value) (M : List Nat) (l : List Int) (hm : RdMk w vm M) (hv : RdI w v l) (h8 : ∀ x ∈ M, x < 256) (hrg : ∀ x ∈ l, 0 ≤ x ∧ x < (M.length : Int)) (tag : Int) (k : Nat) (hk : k < 4) (ht : tag = (k : Int) + 1) :
    Calls Try.prog 139 #[vm, v, .int .i64 tag] w (Dr w (allM M k l)) := by
  refine dr_of ?_
  obtain ⟨A, c, rfl, hc, hb, hr⟩ := hv
  obtain ⟨AM, cM, rfl, hcM, hbM, hrM⟩ := hm
  have Hbit := hid (fun w => bit15_plain tag k hk ht w)
  have Hrg := hid hrg
  have H8 := hid h8
  clear ht hrg h8
  refine post_gen fun Q HQ => ?_
  go_enter Try.func139, Try.ntmps139
  go_wp2
  go_loopw [7] (fun v7 wr => ∃ j : Nat, j ≤ l.length ∧ v7 = .int .i64 j ∧ Hid (∀ i (h : i < l.length), i < j → hasM M k l[i] = true) ∧ Drew w wr) (fun v7 _ => l.length - (intOf v7).toNat)
  case atStart => exact ⟨0, Nat.zero_le _, rfl, fun i _ hk => absurd hk (by omega), Drew.refl w⟩
  case round =>
    obtain ⟨j, hj, rfl, hno, hdr⟩ := hrel
    have Hdr := hid hdr
    replace hr := hr.ext (scR_mono _) hdr.below
    replace hrM := hrM.ext (scR_mono _) hdr.below
    clear hdr
    by_cases hlt : j < l.length
    · obtain ⟨ad, rfl, hcell⟩ := hr.at1 hlt
      obtain ⟨hx0, hx1⟩ := Hrg.out _ (List.getElem_mem hlt)
      have hxl : (l[j]).toNat < M.length := by omega
      obtain ⟨adM, rfl, hcm⟩ := hrM.at1 hxl
      have Hmm := hid (bit_mask M[(l[j]).toNat] (H8.out _ (List.getElem_mem hxl)) k hk)
      have Hr : Hid (hasM M k l[j] = M[(l[j]).toNat].testBit k) := by simp [Hid, hasM, hxl]
      generalize M[(l[j]).toNat] = y at *
      generalize hX : l[j] = X at *
      have HX := hid hX
      clear hX
      generalize hp : 2 ^ k = z at *
      clear hp
      cases hs : y.testBit k with
      | false =>
        have hb1 : (bits .and .u8 (y : Int) (z : Int) == 0) = true := by have := Hmm.out; rw [hs] at this; simpa using this
        have hF : Hid (allM M k l = false) := hid (by
          rw [allM, List.any_eq_true.2 ⟨l[j], List.getElem_mem hlt, by rw [HX.out, Hr.out, hs]; rfl⟩]; rfl)
        clear hs
        go_wp2
        go_quiet ((go_at_call 74; exact Calls.quiet_of_same (Hbit.out _)))
        go_wp2
        go_ret
        exact Fin HQ ⟨by rw [hF.out]; rfl, Hdr.out.step _⟩
      | true =>
        have hb1 : (bits .and .u8 (y : Int) (z : Int) == 0) = false := by have := Hmm.out; rw [hs] at this; simpa using this
        have Hs : Hid (hasM M k l[j] = true) := hid (by rw [HX.out, Hr.out, hs])
        clear hs
        go_wp2
        go_quiet ((go_at_call 74; exact Calls.quiet_of_same (Hbit.out _)))
        go_wp2
        go_roundw
        case rel =>
          refine ⟨j + 1, by omega, by go_num, hid fun i h hi => ?_, Hdr.out.step _⟩
          by_cases e : i = j
          · subst e; exact Hs.out
          · exact hno.out i h (by omega)
        case measure => simp [intOf]; omega
    · have hT : Hid (allM M k l = true) := hid (by
        rw [allM, Bool.not_eq_true', List.any_eq_false]
        intro x hx
        obtain ⟨i, hi, rfl⟩ := List.getElem_of_mem hx
        rw [hno.out i hi (by omega)]; simp)
      go_wp2
      go_ret
      exact Fin HQ ⟨by rw [hT.out]; rfl, Hdr.out⟩

set_option maxRecDepth 100000 in
set_option maxHeartbeats 1600000 in
theorem any15_any (w : World) (vm v : Value) (M : List Nat) (l : List Int) (hm : RdMk w vm M) (hv : RdI w v l) (h8 : ∀ x ∈ M, x < 256) (hrg : ∀ x ∈ l, 0 ≤ x ∧ x < (M.length : Int)) (tag : Int) (k : Nat) (hk : k < 4) (ht : tag = (k : Int) + 1) :
    Calls Try.prog 140 #[vm, v, .int .i64 tag] w (Dr w (anyM M k l)) := by
  refine dr_of ?_
  obtain ⟨A, c, rfl, hc, hb, hr⟩ := hv
  obtain ⟨AM, cM, rfl, hcM, hbM, hrM⟩ := hm
  have Hbit := hid (fun w => bit15_plain tag k hk ht w)
  have Hrg := hid hrg
  have H8 := hid h8
  clear ht hrg h8
  refine post_gen fun Q HQ => ?_
  go_enter Try.func140, Try.ntmps140
  go_wp2
  go_loopw [7] (fun v7 wr => ∃ j : Nat, j ≤ l.length ∧ v7 = .int .i64 j ∧ Hid (∀ i (h : i < l.length), i < j → hasM M k l[i] = false) ∧ Drew w wr) (fun v7 _ => l.length - (intOf v7).toNat)
  case atStart => exact ⟨0, Nat.zero_le _, rfl, fun i _ hk => absurd hk (by omega), Drew.refl w⟩
  case round =>
    obtain ⟨j, hj, rfl, hno, hdr⟩ := hrel
    have Hdr := hid hdr
    replace hr := hr.ext (scR_mono _) hdr.below
    replace hrM := hrM.ext (scR_mono _) hdr.below
    clear hdr
    by_cases hlt : j < l.length
    · obtain ⟨ad, rfl, hcell⟩ := hr.at1 hlt
      obtain ⟨hx0, hx1⟩ := Hrg.out _ (List.getElem_mem hlt)
      have hxl : (l[j]).toNat < M.length := by omega
      obtain ⟨adM, rfl, hcm⟩ := hrM.at1 hxl
      have Hmm := hid (bit_mask M[(l[j]).toNat] (H8.out _ (List.getElem_mem hxl)) k hk)
      have Hr : Hid (hasM M k l[j] = M[(l[j]).toNat].testBit k) := by simp [Hid, hasM, hxl]
      generalize M[(l[j]).toNat] = y at *
      generalize hX : l[j] = X at *
      have HX := hid hX
      clear hX
      generalize hp : 2 ^ k = z at *
      clear hp
      cases hs : y.testBit k with
      | true =>
        have hb1 : (bits .and .u8 (y : Int) (z : Int) != 0) = true := by have := Hmm.out; rw [hs] at this; exact this
        have hF : Hid (anyM M k l = true) := hid (List.any_eq_true.2 ⟨l[j], List.getElem_mem hlt, by rw [HX.out, Hr.out, hs]⟩)
        clear hs
        go_wp2
        go_quiet ((go_at_call 74; exact Calls.quiet_of_same (Hbit.out _)))
        go_wp2
        go_ret
        exact Fin HQ ⟨by rw [hF.out]; rfl, Hdr.out.step _⟩
      | false =>
        have hb1 : (bits .and .u8 (y : Int) (z : Int) != 0) = false := by have := Hmm.out; rw [hs] at this; exact this
        have Hs : Hid (hasM M k l[j] = false) := hid (by rw [HX.out, Hr.out, hs])
        clear hs
        go_wp2
        go_quiet ((go_at_call 74; exact Calls.quiet_of_same (Hbit.out _)))
        go_wp2
        go_roundw
        case rel =>
          refine ⟨j + 1, by omega, by go_num, hid fun i h hi => ?_, Hdr.out.step _⟩
          by_cases e : i = j
          · subst e; exact Hs.out
          · exact hno.out i h (by omega)
        case measure => simp [intOf]; omega
    · have hT : Hid (anyM M k l = false) := hid (by
        rw [anyM, List.any_eq_false]
        intro x hx
        obtain ⟨i, hi, rfl⟩ := List.getElem_of_mem hx
        rw [hno.out i hi (by omega)]; simp)
      go_wp2
      go_ret
      exact Fin HQ ⟨by rw [hT.out]; rfl, Hdr.out⟩

theorem strict15_same (w : World) (b : Nat) (T : Th) (l : List Int) (RL : List (List Int)) (h : NR w b T l RL) (r : Int) (h0 : 0 ≤ r) (hr0 : r < T.rules.length) :
    Calls Try.prog 138 #[.pointer (some ⟨b, 0, none⟩), .int .i64 r] w (fun e w' => e = .returned (.bool (strictB T r)) ∧ w' = w) := by
  refine Calls.mono (R := Ret fun v w' => v = .bool (strictB T r) ∧ w' = w) ?_ (fun e w' ⟨v, he, hv, hw⟩ => ⟨by rw [he, hv], hw⟩)
  obtain ⟨vF, vR, vB, vl, vRu, hh, _, ⟨A, c, rfl, hc, hb, hr⟩, _, _, _⟩ := h.ex
  have hrl : r.toNat < T.rules.length := by omega
  obtain ⟨ad, B, cB, rfl, p0, p1, p2, _, _, _⟩ := hr.atRule hrl
  have c2 := cell_of_row w b 2 _ _ _ hh
  simp only [List.getElem?_toArray, List.getElem?_cons_zero, List.getElem?_cons_succ] at c2
  have Hr : Hid (strictB T r = (T.rules[r.toNat].kind == 1)) := by simp [Hid, strictB, kindAt, hrl]
  generalize T.rules[r.toNat].kind = x at *
  refine post_gen fun Q HQ => ?_
  go_enter Try.func138, Try.ntmps138
  go_wp2
  go_ret
  exact Fin HQ ⟨by rw [Hr.out]; rfl, rfl⟩
theorem support15_same (w : World) (b : Nat) (T : Th) (l : List Int) (RL : List (List Int)) (h : NR w b T l RL) (r : Int) (h0 : 0 ≤ r) (hr0 : r < T.rules.length) :
    Calls Try.prog 141 #[.pointer (some ⟨b, 0, none⟩), .int .i64 r] w (fun e w' => e = .returned (.bool (supB T r)) ∧ w' = w) := by
  refine Calls.mono (R := Ret fun v w' => v = .bool (supB T r) ∧ w' = w) ?_ (fun e w' ⟨v, he, hv, hw⟩ => ⟨by rw [he, hv], hw⟩)
  obtain ⟨vF, vR, vB, vl, vRu, hh, _, ⟨A, c, rfl, hc, hb, hr⟩, _, _, _⟩ := h.ex
  have hrl : r.toNat < T.rules.length := by omega
  obtain ⟨ad, B, cB, rfl, p0, p1, p2, _, _, _⟩ := hr.atRule hrl
  have c2 := cell_of_row w b 2 _ _ _ hh
  simp only [List.getElem?_toArray, List.getElem?_cons_zero, List.getElem?_cons_succ] at c2
  have Hr : Hid (supB T r = (T.rules[r.toNat].kind != 3)) := by simp [Hid, supB, kindAt, hrl]
  generalize T.rules[r.toNat].kind = x at *
  refine post_gen fun Q HQ => ?_
  go_enter Try.func141, Try.ntmps141
  go_wp2
  go_ret
  exact Fin HQ ⟨by rw [Hr.out]; rfl, rfl⟩
end Go.Proofs.Lx
