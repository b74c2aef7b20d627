/- Parts of the proof: Sf, Sg. The reference's world (layer 15) in memory; Bit, In, All, Any, strict, Support. -/
import Derived.Test.YtalhpldbhogadaaA34
import Derived.Test.YtalhpldbhogadaaA5
namespace Go.Proofs.Lx
open Go Go.RowKit
set_option linter.unusedSimpArgs false
set_option linter.unusedVariables false

structure NR (w : World) (b : Nat) (T : Th) (l : List Int) (RL : List (List Int)) : Prop where
 ex : ∃ vF vR vB vl vRu, w.heap[b]? = some (.cells #[.int .i64 T.lits, vF, vR, vB, vl, vRu] 127 (0, 0)) ∧ RdLL w vF T.foes ∧ RdRs w vR T.rules ∧ RdLL w vB T.beats ∧ RdI w vl l ∧ RdLL w vRu RL
theorem NR.ext {w w' : World} {b : Nat} {T : Th} {l : List Int} {RL : List (List Int)} (h : NR w b T l RL) (hb : Below w.heap.size w w') : NR w' b T l RL := by
 obtain ⟨vF, vR, vB, vl, vRu, hh, h1, h2, h3, h4, h5⟩ := h.ex
 exact ⟨vF, vR, vB, vl, vRu, (hb.block b (lt_of_block hh)).trans hh, h1.ext llR_mono hb, h2.ext ruleR_mono hb, h3.ext llR_mono hb, h4.ext (scR_mono _) hb, h5.ext llR_mono hb⟩

/-- A call that answers a bool and but draws. -/
def Dr (w : World) (B : Bool) (e : Ending) (w' : World) : Prop := e = .returned (.bool B) ∧ ∃ m, w' = w.drewN m
theorem dr_of {P : Program} {f : FuncId} {args : Array Value} {w : World} {B : Bool} (h : Calls P f args w (Ret fun v w' => v = .bool B ∧ ∃ m, w' = w.drewN m)) : Calls P f args w (Dr w B) :=
 h.mono fun e w' ⟨v, he, hv, hw⟩ => ⟨by rw [he, hv], hw⟩
theorem dr_quiet {P : Program} {f : FuncId} {args : Array Value} {w : World} {B : Bool} (h : ∀ q, Calls P f args (w.drewN q) (Dr (w.drewN q) B)) (q : Nat) : Calls P f args (w.drewN q) (fun e w' => e = .returned (.bool B) ∧ ∃ m, w' = w.drewN m) :=
 (h q).mono fun e w' ⟨he, m, hw⟩ => ⟨he, q + m, by rw [hw, World.drewN_drewN]⟩

theorem bit15_plain (tag : Int) (k : Nat) (hk : k < 4) (ht : tag = (k : Int) + 1) (w : World) : Calls Try.prog 74 #[.int .i64 tag] w fun e w' => e = .returned (.int .u8 ((2 ^ k : Nat) : Int)) ∧ w' = w := by
 refine Calls.mono (R := Ret fun v w' => v = .int .u8 ((2 ^ k : Nat) : Int) ∧ w' = w) ?_ (fun e w' ⟨v, he, hv, hw⟩ => ⟨by rw [he, hv], hw⟩)
 refine post_gen fun Q HQ => ?_
 rcases (show k = 0 ∨ k = 1 ∨ k = 2 ∨ k = 3 by omega) with rfl | rfl | rfl | rfl
 all_goals
  subst ht
  go_enter Try.func74, Try.ntmps74
  go_wp2
  go_ret
  exact Fin HQ ⟨rfl, rfl⟩

set_option maxHeartbeats 800000 in
theorem in15_same (w : World) (v : Value) (l : List Int) (x : Int) (hv : RdI w v l) :
  Calls Try.prog 137 #[v, .int .i64 x] w (fun e w' => e = .returned (.bool (memB l x)) ∧ w' = w) := by
 refine Calls.mono (R := Ret fun v w' => v = .bool (memB l x) ∧ w' = w) ?_ (fun e w' ⟨v, he, hv, hw⟩ => ⟨by rw [he, hv], hw⟩)
 obtain ⟨A, c, rfl, hc, hb, hr⟩ := hv
 refine post_gen fun Q HQ => ?_
 go_enter Try.func137, Try.ntmps137
 go_wp2
 go_loop [5] (fun v5 => ∃ k : Nat, k ≤ l.length ∧ v5 = .int .i64 k ∧ Hid (∀ i (h : i < l.length), i < k → l[i] ≠ x)) (fun v5 => l.length - (intOf v5).toNat)
 case atStart => exact ⟨0, Nat.zero_le _, rfl, fun i _ hk => absurd hk (by omega)⟩
 case round =>
  obtain ⟨k, hk, rfl, hno⟩ := hrel
  by_cases hlt : k < l.length
  ·obtain ⟨ad, rfl, hcell⟩ := hr.at1 hlt
   obtain ⟨y, Hy⟩ : ∃ y, Hid (l[k] = y) := ⟨_, hid rfl⟩
   have Hmem := hid (List.getElem_mem hlt)
   rw [Hy.out] at hcell Hmem
   by_cases he : y = x
   ·have hb1 : (y == x) = true := by simp [he]
    have hT : Hid (memB l x = true) := hid (memB_true.2 (by rw [← he]; exact Hmem.out))
    clear he
    go_wp2
    go_ret
    exact Fin HQ ⟨by rw [hT.out]; rfl, rfl⟩
   ·have hb1 : (y == x) = false := by simp [he]
    have He := hid he
    clear he
    go_wp2
    go_round
    case rel =>
     refine ⟨k + 1, by omega, by go_num, hid fun i h hi => ?_⟩
     by_cases e : i = k
     ·subst e; rw [Hy.out]; exact He.out
     ·exact hno.out i h (by omega)
    case measure => simp [intOf]; omega
  ·have hF : Hid (memB l x = false) := hid (memB_false.2 fun hm => by
    obtain ⟨i, hi, e⟩ := List.getElem_of_mem hm
    exact hno.out i hi (by omega) e)
   go_wp2
   go_ret
   exact Fin HQ ⟨by rw [hF.out]; rfl, rfl⟩

/-- A world that but drew. -/
def Drew (w w' : World) : Prop := ∃ m, w' = w.drewN m
theorem Drew.refl (w : World) : Drew w w := ⟨0, rfl⟩
theorem Drew.below {w w' : World} (h : Drew w w') : Below w.heap.size w w' := by obtain ⟨m, rfl⟩ := h; exact ext_drewN w m
theorem Drew.step {w w' : World} (h : Drew w w') (q : Nat) : Drew w (w'.drewN q) := by obtain ⟨m, rfl⟩ := h; exact ⟨m + q, World.drewN_drewN _ _ _⟩
theorem Drew.trans {a b c : World} (h : Drew a b) (k : Drew b c) : Drew a c := by obtain ⟨q, rfl⟩ := k; exact h.step q

def allM (M : List Nat) (k : Nat) (l : List Int) : Bool := !l.any fun x => !hasM M k x
def anyM (M : List Nat) (k : Nat) (l : List Int) : Bool := l.any fun x => hasM M k x

set_option maxRecDepth 100000 in
set_option maxHeartbeats 1600000 in
theorem all15_any (w : World) (vm v : Value) (M : List Nat) (l : List Int) (hm : RdMk w vm M) (hv : RdI w v l) (h8 : ∀ x ∈ M, x < 256) (hrg : ∀ x ∈ l, 0 ≤ x ∧ x < (M.length : Int)) (tag : Int) (k : Nat) (hk : k < 4) (ht : tag = (k : Int) + 1) :
  Calls Try.prog 139 #[vm, v, .int .i64 tag] w (Dr w (allM M k l)) := by
 refine dr_of ?_
 obtain ⟨A, c, rfl, hc, hb, hr⟩ := hv
 obtain ⟨AM, cM, rfl, hcM, hbM, hrM⟩ := hm
 have Hbit := hid (fun w => bit15_plain tag k hk ht w)
 have Hrg := hid hrg
 have H8 := hid h8
 clear ht hrg h8
 refine post_gen fun Q HQ => ?_
 go_enter Try.func139, Try.ntmps139
 go_wp2
 go_loopw [7] (fun v7 wr => ∃ j : Nat, j ≤ l.length ∧ v7 = .int .i64 j ∧ Hid (∀ i (h : i < l.length), i < j → hasM M k l[i] = true) ∧ Drew w wr) (fun v7 _ => l.length - (intOf v7).toNat)
 case atStart => exact ⟨0, Nat.zero_le _, rfl, fun i _ hk => absurd hk (by omega), Drew.refl w⟩
 case round =>
  obtain ⟨j, hj, rfl, hno, hdr⟩ := hrel
  have Hdr := hid hdr
  replace hr := hr.ext (scR_mono _) hdr.below
  replace hrM := hrM.ext (scR_mono _) hdr.below
  clear hdr
  by_cases hlt : j < l.length
  ·obtain ⟨ad, rfl, hcell⟩ := hr.at1 hlt
   obtain ⟨hx0, hx1⟩ := Hrg.out _ (List.getElem_mem hlt)
   have hxl : (l[j]).toNat < M.length := by omega
   obtain ⟨adM, rfl, hcm⟩ := hrM.at1 hxl
   have Hmm := hid (bit_mask M[(l[j]).toNat] (H8.out _ (List.getElem_mem hxl)) k hk)
   have Hr : Hid (hasM M k l[j] = M[(l[j]).toNat].testBit k) := by simp [Hid, hasM, hxl]
   generalize M[(l[j]).toNat] = y at *
   generalize hX : l[j] = X at *
   have HX := hid hX
   clear hX
   generalize hp : 2 ^ k = z at *
   clear hp
   cases hs : y.testBit k with
   | false =>
    have hb1 : (bits .and .u8 (y : Int) (z : Int) == 0) = true := by have := Hmm.out; rw [hs] at this; simpa using this
    have hF : Hid (allM M k l = false) := hid (by
     rw [allM, List.any_eq_true.2 ⟨l[j], List.getElem_mem hlt, by rw [HX.out, Hr.out, hs]; rfl⟩]; rfl)
    clear hs
    go_wp2
    go_quiet ((go_at_call 74; exact Calls.quiet_of_same (Hbit.out _)))
    go_wp2
    go_ret
    exact Fin HQ ⟨by rw [hF.out]; rfl, Hdr.out.step _⟩
   | true =>
    have hb1 : (bits .and .u8 (y : Int) (z : Int) == 0) = false := by have := Hmm.out; rw [hs] at this; simpa using this
    have Hs : Hid (hasM M k l[j] = true) := hid (by rw [HX.out, Hr.out, hs])
    clear hs
    go_wp2
    go_quiet ((go_at_call 74; exact Calls.quiet_of_same (Hbit.out _)))
    go_wp2
    go_roundw
    case rel =>
     refine ⟨j + 1, by omega, by go_num, hid fun i h hi => ?_, Hdr.out.step _⟩
     by_cases e : i = j
     ·subst e; exact Hs.out
     ·exact hno.out i h (by omega)
    case measure => simp [intOf]; omega
  ·have hT : Hid (allM M k l = true) := hid (by
    rw [allM, Bool.not_eq_true', List.any_eq_false]
    intro x hx
    obtain ⟨i, hi, rfl⟩ := List.getElem_of_mem hx
    rw [hno.out i hi (by omega)]; simp)
   go_wp2
   go_ret
   exact Fin HQ ⟨by rw [hT.out]; rfl, Hdr.out⟩

set_option maxRecDepth 100000 in
set_option maxHeartbeats 1600000 in
theorem any15_any (w : World) (vm v : Value) (M : List Nat) (l : List Int) (hm : RdMk w vm M) (hv : RdI w v l) (h8 : ∀ x ∈ M, x < 256) (hrg : ∀ x ∈ l, 0 ≤ x ∧ x < (M.length : Int)) (tag : Int) (k : Nat) (hk : k < 4) (ht : tag = (k : Int) + 1) :
  Calls Try.prog 140 #[vm, v, .int .i64 tag] w (Dr w (anyM M k l)) := by
 refine dr_of ?_
 obtain ⟨A, c, rfl, hc, hb, hr⟩ := hv
 obtain ⟨AM, cM, rfl, hcM, hbM, hrM⟩ := hm
 have Hbit := hid (fun w => bit15_plain tag k hk ht w)
 have Hrg := hid hrg
 have H8 := hid h8
 clear ht hrg h8
 refine post_gen fun Q HQ => ?_
 go_enter Try.func140, Try.ntmps140
 go_wp2
 go_loopw [7] (fun v7 wr => ∃ j : Nat, j ≤ l.length ∧ v7 = .int .i64 j ∧ Hid (∀ i (h : i < l.length), i < j → hasM M k l[i] = false) ∧ Drew w wr) (fun v7 _ => l.length - (intOf v7).toNat)
 case atStart => exact ⟨0, Nat.zero_le _, rfl, fun i _ hk => absurd hk (by omega), Drew.refl w⟩
 case round =>
  obtain ⟨j, hj, rfl, hno, hdr⟩ := hrel
  have Hdr := hid hdr
  replace hr := hr.ext (scR_mono _) hdr.below
  replace hrM := hrM.ext (scR_mono _) hdr.below
  clear hdr
  by_cases hlt : j < l.length
  ·obtain ⟨ad, rfl, hcell⟩ := hr.at1 hlt
   obtain ⟨hx0, hx1⟩ := Hrg.out _ (List.getElem_mem hlt)
   have hxl : (l[j]).toNat < M.length := by omega
   obtain ⟨adM, rfl, hcm⟩ := hrM.at1 hxl
   have Hmm := hid (bit_mask M[(l[j]).toNat] (H8.out _ (List.getElem_mem hxl)) k hk)
   have Hr : Hid (hasM M k l[j] = M[(l[j]).toNat].testBit k) := by simp [Hid, hasM, hxl]
   generalize M[(l[j]).toNat] = y at *
   generalize hX : l[j] = X at *
   have HX := hid hX
   clear hX
   generalize hp : 2 ^ k = z at *
   clear hp
   cases hs : y.testBit k with
   | true =>
    have hb1 : (bits .and .u8 (y : Int) (z : Int) != 0) = true := by have := Hmm.out; rw [hs] at this; exact this
    have hF : Hid (anyM M k l = true) := hid (List.any_eq_true.2 ⟨l[j], List.getElem_mem hlt, by rw [HX.out, Hr.out, hs]⟩)
    clear hs
    go_wp2
    go_quiet ((go_at_call 74; exact Calls.quiet_of_same (Hbit.out _)))
    go_wp2
    go_ret
    exact Fin HQ ⟨by rw [hF.out]; rfl, Hdr.out.step _⟩
   | false =>
    have hb1 : (bits .and .u8 (y : Int) (z : Int) != 0) = false := by have := Hmm.out; rw [hs] at this; exact this
    have Hs : Hid (hasM M k l[j] = false) := hid (by rw [HX.out, Hr.out, hs])
    clear hs
    go_wp2
    go_quiet ((go_at_call 74; exact Calls.quiet_of_same (Hbit.out _)))
    go_wp2
    go_roundw
    case rel =>
     refine ⟨j + 1, by omega, by go_num, hid fun i h hi => ?_, Hdr.out.step _⟩
     by_cases e : i = j
     ·subst e; exact Hs.out
     ·exact hno.out i h (by omega)
    case measure => simp [intOf]; omega
  ·have hT : Hid (anyM M k l = false) := hid (by
    rw [anyM, List.any_eq_false]
    intro x hx
    obtain ⟨i, hi, rfl⟩ := List.getElem_of_mem hx
    rw [hno.out i hi (by omega)]; simp)
   go_wp2
   go_ret
   exact Fin HQ ⟨by rw [hT.out]; rfl, Hdr.out⟩

theorem strict15_same (w : World) (b : Nat) (T : Th) (l : List Int) (RL : List (List Int)) (h : NR w b T l RL) (r : Int) (h0 : 0 ≤ r) (hr0 : r < T.rules.length) :
  Calls Try.prog 138 #[.pointer (some ⟨b, 0, none⟩), .int .i64 r] w (fun e w' => e = .returned (.bool (strictB T r)) ∧ w' = w) := by
 refine Calls.mono (R := Ret fun v w' => v = .bool (strictB T r) ∧ w' = w) ?_ (fun e w' ⟨v, he, hv, hw⟩ => ⟨by rw [he, hv], hw⟩)
 obtain ⟨vF, vR, vB, vl, vRu, hh, _, ⟨A, c, rfl, hc, hb, hr⟩, _, _, _⟩ := h.ex
 have hrl : r.toNat < T.rules.length := by omega
 obtain ⟨ad, B, cB, rfl, p0, p1, p2, _, _, _⟩ := hr.atRule hrl
 have c2 := cell_of_row w b 2 _ _ _ hh
 simp only [List.getElem?_toArray, List.getElem?_cons_zero, List.getElem?_cons_succ] at c2
 have Hr : Hid (strictB T r = (T.rules[r.toNat].kind == 1)) := by simp [Hid, strictB, kindAt, hrl]
 generalize T.rules[r.toNat].kind = x at *
 refine post_gen fun Q HQ => ?_
 go_enter Try.func138, Try.ntmps138
 go_wp2
 go_ret
 exact Fin HQ ⟨by rw [Hr.out]; rfl, rfl⟩
theorem support15_same (w : World) (b : Nat) (T : Th) (l : List Int) (RL : List (List Int)) (h : NR w b T l RL) (r : Int) (h0 : 0 ≤ r) (hr0 : r < T.rules.length) :
  Calls Try.prog 141 #[.pointer (some ⟨b, 0, none⟩), .int .i64 r] w (fun e w' => e = .returned (.bool (supB T r)) ∧ w' = w) := by
 refine Calls.mono (R := Ret fun v w' => v = .bool (supB T r) ∧ w' = w) ?_ (fun e w' ⟨v, he, hv, hw⟩ => ⟨by rw [he, hv], hw⟩)
 obtain ⟨vF, vR, vB, vl, vRu, hh, _, ⟨A, c, rfl, hc, hb, hr⟩, _, _, _⟩ := h.ex
 have hrl : r.toNat < T.rules.length := by omega
 obtain ⟨ad, B, cB, rfl, p0, p1, p2, _, _, _⟩ := hr.atRule hrl
 have c2 := cell_of_row w b 2 _ _ _ hh
 simp only [List.getElem?_toArray, List.getElem?_cons_zero, List.getElem?_cons_succ] at c2
 have Hr : Hid (supB T r = (T.rules[r.toNat].kind != 3)) := by simp [Hid, supB, kindAt, hrl]
 generalize T.rules[r.toNat].kind = x at *
 refine post_gen fun Q HQ => ?_
 go_enter Try.func141, Try.ntmps141
 go_wp2
 go_ret
 exact Fin HQ ⟨by rw [Hr.out]; rfl, rfl⟩
end Go.Proofs.Lx

namespace Go.Proofs.Lx
open Go Go.RowKit
set_option linter.unusedSimpArgs false
set_option linter.unusedVariables false

theorem NR.cells {w : World} {b : Nat} {T : Th} {l : List Int} {RL : List (List Int)} (h : NR w b T l RL) : ∃ AF cF AR cR AB cB Al cl ARu cRu,
  w.cell? ⟨b, 1, none⟩ = some (.slice AF T.foes.length cF) ∧ w.cell? ⟨b, 2, none⟩ = some (.slice AR T.rules.length cR) ∧ w.cell? ⟨b, 3, none⟩ = some (.slice AB T.beats.length cB) ∧ w.cell? ⟨b, 4, none⟩ = some (.slice Al l.length cl) ∧ w.cell? ⟨b, 5, none⟩ = some (.slice ARu RL.length cRu) ∧
  RcLL w AF T.foes ∧ RcRs w AR T.rules ∧ RcLL w AB T.beats ∧ RdI w (.slice Al l.length cl) l ∧ RcLL w ARu RL := by
 obtain ⟨_, _, _, _, _, hh, ⟨AF, cF, rfl, _, _, h1⟩, ⟨AR, cR, rfl, _, _, h2⟩, ⟨AB, cB, rfl, _, _, h3⟩, ⟨Al, cl, rfl, e1, e2, h4⟩, ⟨ARu, cRu, rfl, _, _, h5⟩⟩ := h.ex
 refine ⟨AF, cF, AR, cR, AB, cB, Al, cl, ARu, cRu, ?_, ?_, ?_, ?_, ?_, h1, h2, h3, ⟨Al, cl, rfl, e1, e2, h4⟩, h5⟩
 all_goals rw [cell_of_row w b _ _ _ _ hh]; rfl
theorem any_take_succ {α : Type} {p : α → Bool} {L : List α} {i : Nat} (h : i < L.length) : (L.take (i + 1)).any p = ((L.take i).any p || p L[i]) := by
 rw [List.take_succ_eq_append_getElem h, List.any_append]; simp
theorem any_take_all {α : Type} {p : α → Bool} {L : List α} {i : Nat} (h : L.length ≤ i) : (L.take i).any p = L.any p := by rw [List.take_of_length_le h]
theorem any_hit {α : Type} {p : α → Bool} {L : List α} {i : Nat} (h : i < L.length) (hp : p L[i] = true) : L.any p = true := List.any_eq_true.2 ⟨_, List.getElem_mem h, hp⟩
theorem bodyAt_at {T : Th} {r : Int} (h : r.toNat < T.rules.length) : bodyAt T r = T.rules[r.toNat].body := by simp [bodyAt, h]

set_option maxRecDepth 100000 in
set_option maxHeartbeats 3200000 in
theorem plusD15_any (w : World) (b : Nat) (T : Th) (F : List Bool) (l : List Int) (RL : List (List Int)) (M : List Nat) (vm : Value) (h : NR w b T l RL) (hm : RdMk w vm M) (hv : NVal T F RL M) (q : Int) (h0 : 0 ≤ q) (hq : q < T.foes.length) :
  Calls Try.prog 94 #[.pointer (some ⟨b, 0, none⟩), vm, .int .i64 q] w (Dr w (memB l q || (row RL q).any (pdR T M))) := by
 refine dr_of ?_
 have H := hid h
 have Hm := hid hm
 have Hv := hid hv
 have hqr : q.toNat < RL.length := by have := hv.nR; omega
 have hqr2 : q < (RL.length : Int) := by have := hv.nR; omega
 have hqf : q.toNat < T.foes.length := by omega
 have Hrow : Hid (row RL q = RL[q.toNat]) := hid (row_at h0 hqr2)
 have Hrl : Hid (∀ r ∈ RL[q.toNat], 0 ≤ r ∧ r < (T.rules.length : Int)) := hid (hv.rl _ hqr)
 have Hbody : Hid (∀ r (h : r < T.rules.length), ∀ x ∈ T.rules[r].body, 0 ≤ x ∧ x < (M.length : Int)) := hid (fun r h x hx => by rw [hv.nM]; exact hv.body r h x hx)
 have H8 := hid hv.m8
 clear h hm hv
 refine post_gen fun Q HQ => ?_
 go_enter Try.func94, Try.ntmps94
 obtain ⟨AF, cF, AR, cR, AB, cB, Al, cl, ARu, cRu, c1, c2, c3, c4, c5, hF, hR, hB, hl, hRu⟩ := H.out.cells
 have Hin := hid (in15_same w _ l q hl)
 have Hs : Hid ((memB l q || (row RL q).any (pdR T M)) = (memB l q || RL[q.toNat].any (pdR T M))) := hid (by rw [Hrow.out])
 rw [Hs.out] at HQ
 clear hF hR hB hl hRu
 cases hs : memB l q with
 | true =>
  rw [hs] at Hin HQ
  clear hs
  go_wp2_with (go_at_call 137; refine Hin.out.mono ?_; rintro e w' ⟨rfl, hw9⟩; rw [hw9]; clear hw9 w')
  go_ret
  exact Fin HQ ⟨rfl, 0, rfl⟩
 | false =>
 rw [hs] at Hin HQ
 clear hs
 go_wp2_with (go_at_call 137; refine Hin.out.mono ?_; rintro e w' ⟨rfl, hw9⟩; rw [hw9]; clear hw9 w')
 clear c1 c2 c3 c4 c5 Hin
 generalize hL : RL[q.toNat] = L at *
 have HL := hid hL
 clear hL
 go_loopw [7] (fun v7 wr => ∃ i : Nat, i ≤ L.length ∧ v7 = .int .i64 i ∧ Hid ((L.take i).any (pdR T M) = false) ∧ Drew w wr) (fun v7 _ => L.length - (intOf v7).toNat)
 case atStart => exact ⟨0, Nat.zero_le _, rfl, hid (by simp), Drew.refl w⟩
 case round =>
  obtain ⟨i, hi, rfl, hno, hdr⟩ := hrel
  have Hdr := hid hdr
  obtain ⟨AF, cF, AR, cR, AB, cB, Al, cl, ARu, cRu, c1, c2, c3, c4, c5, hF, hR, hB, hl, hRu⟩ := (H.out.ext hdr.below).cells
  obtain ⟨adQ, LB, LC, rfl, pq, l1, l2, hrow⟩ := hRu.atRow hqr
  rw [HL.out] at pq l1 l2 hrow
  clear hdr
  by_cases hlt : i < L.length
  ·have Hi := hid (any_take_succ (p := pdR T M) hlt)
   have Hhit := hid (any_hit (p := pdR T M) hlt)
   obtain ⟨adL, rfl, pl⟩ := hrow.at1 hlt
   obtain ⟨hr0, hr1⟩ := Hrl.out _ (List.getElem_mem hlt)
   obtain ⟨r, Hr⟩ : ∃ r, Hid (L[i] = r) := ⟨_, hid rfl⟩
   rw [Hr.out] at pl hr0 hr1
   have hrl : r.toNat < T.rules.length := by omega
   have HbR := hid (Hbody.out _ hrl)
   have Hbo := hid (bodyAt_at hrl)
   obtain ⟨adR, C, cC, rfl, p0, p1, p2, d1, d2, hbody⟩ := hR.atRule hrl
   generalize T.rules[r.toNat].body = bo at *
   have Hst := hid (strict15_same _ b T l RL (H.out.ext Hdr.out.below) r hr0 hr1)
   have Hall := hid (all15_any wr vm (.slice C bo.length cC) M bo (Hm.out.ext (scR_mono _) Hdr.out.below) ⟨C, cC, rfl, d1, d2, hbody⟩ H8.out HbR.out 1 0 (by decide) (by decide))
   have Hp : Hid (pdR T M r = (strictB T r && allM M 0 bo)) := hid (by rw [← Hbo.out]; rfl)
   clear hF hR hB hl hRu hrow hbody
   cases hs : strictB T r with
   | false =>
    have Hp2 : Hid (pdR T M r = false) := hid (by rw [Hp.out, hs]; rfl)
    rw [hs] at Hst
    clear hs
    go_wp2_with (go_at_call 138; refine Hst.out.mono ?_; rintro e w' ⟨rfl, hw9⟩; rw [hw9]; clear hw9 w')
    go_roundw
    case rel => exact ⟨i + 1, by omega, by go_num, hid (by rw [Hi.out, hno.out, Hr.out, Hp2.out]; rfl), Hdr.out⟩
    case measure => simp [intOf]; omega
   | true =>
    rw [hs] at Hst
    cases ha : allM M 0 bo with
    | true =>
     have Hp2 : Hid (pdR T M r = true) := hid (by rw [Hp.out, hs, ha]; rfl)
     rw [ha] at Hall
     have Hany : Hid (L.any (pdR T M) = true) := hid (Hhit.out (by rw [Hr.out, Hp2.out]))
     rw [Hany.out] at HQ
     clear hs ha
     go_wp2_with (first | (go_at_call 138; refine Hst.out.mono ?_; rintro e w' ⟨rfl, hw9⟩; rw [hw9]; clear hw9 w') | (go_at_call 139; refine Hall.out.mono ?_; rintro e w' ⟨rfl, m, rfl⟩))
     go_ret
     exact Fin HQ ⟨rfl, Hdr.out.step _⟩
    | false =>
     have Hp2 : Hid (pdR T M r = false) := hid (by rw [Hp.out, hs, ha]; rfl)
     rw [ha] at Hall
     clear hs ha
     go_wp2_with (first | (go_at_call 138; refine Hst.out.mono ?_; rintro e w' ⟨rfl, hw9⟩; rw [hw9]; clear hw9 w') | (go_at_call 139; refine Hall.out.mono ?_; rintro e w' ⟨rfl, m, rfl⟩))
     go_roundw
     case rel => exact ⟨i + 1, by omega, by go_num, hid (by rw [Hi.out, hno.out, Hr.out, Hp2.out]; rfl), Hdr.out.step _⟩
     case measure => simp [intOf]; omega
  ·have Hany : Hid (L.any (pdR T M) = false) := hid (by rw [← any_take_all (show L.length ≤ i by omega), hno.out])
   rw [Hany.out] at HQ
   clear hF hR hB hl hRu hrow
   go_wp2
   go_ret
   exact Fin HQ ⟨rfl, Hdr.out⟩

set_option maxRecDepth 100000 in
set_option maxHeartbeats 3200000 in
theorem minusD15_any (w : World) (b : Nat) (T : Th) (F : List Bool) (l : List Int) (RL : List (List Int)) (M : List Nat) (vm : Value) (h : NR w b T l RL) (hm : RdMk w vm M) (hv : NVal T F RL M) (q : Int) (h0 : 0 ≤ q) (hq : q < T.foes.length) :
  Calls Try.prog 95 #[.pointer (some ⟨b, 0, none⟩), vm, .int .i64 q] w (Dr w (!memB l q && !(row RL q).any (mdR T M))) := by
 refine dr_of ?_
 have H := hid h
 have Hm := hid hm
 have Hv := hid hv
 have hqr : q.toNat < RL.length := by have := hv.nR; omega
 have hqr2 : q < (RL.length : Int) := by have := hv.nR; omega
 have hqf : q.toNat < T.foes.length := by omega
 have Hrow : Hid (row RL q = RL[q.toNat]) := hid (row_at h0 hqr2)
 have Hrl : Hid (∀ r ∈ RL[q.toNat], 0 ≤ r ∧ r < (T.rules.length : Int)) := hid (hv.rl _ hqr)
 have Hbody : Hid (∀ r (h : r < T.rules.length), ∀ x ∈ T.rules[r].body, 0 ≤ x ∧ x < (M.length : Int)) := hid (fun r h x hx => by rw [hv.nM]; exact hv.body r h x hx)
 have H8 := hid hv.m8
 clear h hm hv
 refine post_gen fun Q HQ => ?_
 go_enter Try.func95, Try.ntmps95
 obtain ⟨AF, cF, AR, cR, AB, cB, Al, cl, ARu, cRu, c1, c2, c3, c4, c5, hF, hR, hB, hl, hRu⟩ := H.out.cells
 have Hin := hid (in15_same w _ l q hl)
 have Hs : Hid ((!memB l q && !(row RL q).any (mdR T M)) = (!memB l q && !RL[q.toNat].any (mdR T M))) := hid (by rw [Hrow.out])
 rw [Hs.out] at HQ
 clear hF hR hB hl hRu
 cases hs : memB l q with
 | true =>
  rw [hs] at Hin HQ
  clear hs
  go_wp2_with (go_at_call 137; refine Hin.out.mono ?_; rintro e w' ⟨rfl, hw9⟩; rw [hw9]; clear hw9 w')
  go_ret
  exact Fin HQ ⟨rfl, 0, rfl⟩
 | false =>
 rw [hs] at Hin HQ
 clear hs
 go_wp2_with (go_at_call 137; refine Hin.out.mono ?_; rintro e w' ⟨rfl, hw9⟩; rw [hw9]; clear hw9 w')
 clear c1 c2 c3 c4 c5 Hin
 generalize hL : RL[q.toNat] = L at *
 have HL := hid hL
 clear hL
 go_loopw [7] (fun v7 wr => ∃ i : Nat, i ≤ L.length ∧ v7 = .int .i64 i ∧ Hid ((L.take i).any (mdR T M) = false) ∧ Drew w wr) (fun v7 _ => L.length - (intOf v7).toNat)
 case atStart => exact ⟨0, Nat.zero_le _, rfl, hid (by simp), Drew.refl w⟩
 case round =>
  obtain ⟨i, hi, rfl, hno, hdr⟩ := hrel
  have Hdr := hid hdr
  obtain ⟨AF, cF, AR, cR, AB, cB, Al, cl, ARu, cRu, c1, c2, c3, c4, c5, hF, hR, hB, hl, hRu⟩ := (H.out.ext hdr.below).cells
  obtain ⟨adQ, LB, LC, rfl, pq, l1, l2, hrow⟩ := hRu.atRow hqr
  rw [HL.out] at pq l1 l2 hrow
  clear hdr
  by_cases hlt : i < L.length
  ·have Hi := hid (any_take_succ (p := mdR T M) hlt)
   have Hhit := hid (any_hit (p := mdR T M) hlt)
   obtain ⟨adL, rfl, pl⟩ := hrow.at1 hlt
   obtain ⟨hr0, hr1⟩ := Hrl.out _ (List.getElem_mem hlt)
   obtain ⟨r, Hr⟩ : ∃ r, Hid (L[i] = r) := ⟨_, hid rfl⟩
   rw [Hr.out] at pl hr0 hr1
   have hrl : r.toNat < T.rules.length := by omega
   have HbR := hid (Hbody.out _ hrl)
   have Hbo := hid (bodyAt_at hrl)
   obtain ⟨adR, C, cC, rfl, p0, p1, p2, d1, d2, hbody⟩ := hR.atRule hrl
   generalize T.rules[r.toNat].body = bo at *
   have Hst := hid (strict15_same _ b T l RL (H.out.ext Hdr.out.below) r hr0 hr1)
   have Hall := hid (any15_any wr vm (.slice C bo.length cC) M bo (Hm.out.ext (scR_mono _) Hdr.out.below) ⟨C, cC, rfl, d1, d2, hbody⟩ H8.out HbR.out 2 1 (by decide) (by decide))
   have Hp : Hid (mdR T M r = (strictB T r && !anyM M 1 bo)) := hid (by rw [← Hbo.out]; rfl)
   clear hF hR hB hl hRu hrow hbody
   cases hs : strictB T r with
   | false =>
    have Hp2 : Hid (mdR T M r = false) := hid (by rw [Hp.out, hs]; rfl)
    rw [hs] at Hst
    clear hs
    go_wp2_with (go_at_call 138; refine Hst.out.mono ?_; rintro e w' ⟨rfl, hw9⟩; rw [hw9]; clear hw9 w')
    go_roundw
    case rel => exact ⟨i + 1, by omega, by go_num, hid (by rw [Hi.out, hno.out, Hr.out, Hp2.out]; rfl), Hdr.out⟩
    case measure => simp [intOf]; omega
   | true =>
    rw [hs] at Hst
    cases ha : anyM M 1 bo with
    | false =>
     have Hp2 : Hid (mdR T M r = true) := hid (by rw [Hp.out, hs, ha]; rfl)
     rw [ha] at Hall
     have Hany : Hid (L.any (mdR T M) = true) := hid (Hhit.out (by rw [Hr.out, Hp2.out]))
     rw [Hany.out] at HQ
     clear hs ha
     go_wp2_with (first | (go_at_call 138; refine Hst.out.mono ?_; rintro e w' ⟨rfl, hw9⟩; rw [hw9]; clear hw9 w') | (go_at_call 140; refine Hall.out.mono ?_; rintro e w' ⟨rfl, m, rfl⟩))
     go_ret
     exact Fin HQ ⟨rfl, Hdr.out.step _⟩
    | true =>
     have Hp2 : Hid (mdR T M r = false) := hid (by rw [Hp.out, hs, ha]; rfl)
     rw [ha] at Hall
     clear hs ha
     go_wp2_with (first | (go_at_call 138; refine Hst.out.mono ?_; rintro e w' ⟨rfl, hw9⟩; rw [hw9]; clear hw9 w') | (go_at_call 140; refine Hall.out.mono ?_; rintro e w' ⟨rfl, m, rfl⟩))
     go_roundw
     case rel => exact ⟨i + 1, by omega, by go_num, hid (by rw [Hi.out, hno.out, Hr.out, Hp2.out]; rfl), Hdr.out.step _⟩
     case measure => simp [intOf]; omega
  ·have Hany : Hid (L.any (mdR T M) = false) := hid (by rw [← any_take_all (show L.length ≤ i by omega), hno.out])
   rw [Hany.out] at HQ
   clear hF hR hB hl hRu hrow
   go_wp2
   go_ret
   exact Fin HQ ⟨rfl, Hdr.out⟩

set_option maxRecDepth 100000 in
set_option maxHeartbeats 3200000 in
theorem beaten15_any (w : World) (b : Nat) (T : Th) (F : List Bool) (l : List Int) (RL : List (List Int)) (M : List Nat) (vm : Value) (h : NR w b T l RL) (hm : RdMk w vm M) (hv : NVal T F RL M) (q : Int) (h0 : 0 ≤ q) (hq : q < T.foes.length) (s : Int) :
  Calls Try.prog 142 #[.pointer (some ⟨b, 0, none⟩), vm, .int .i64 q, .int .i64 s] w (Dr w ((row RL q).any (ppB T M s))) := by
 refine dr_of ?_
 have H := hid h
 have Hm := hid hm
 have Hv := hid hv
 have hqr : q.toNat < RL.length := by have := hv.nR; omega
 have hqr2 : q < (RL.length : Int) := by have := hv.nR; omega
 have hqf : q.toNat < T.foes.length := by omega
 have Hrow : Hid (row RL q = RL[q.toNat]) := hid (row_at h0 hqr2)
 have Hrl : Hid (∀ r ∈ RL[q.toNat], 0 ≤ r ∧ r < (T.rules.length : Int)) := hid (hv.rl _ hqr)
 have Hbody : Hid (∀ r (h : r < T.rules.length), ∀ x ∈ T.rules[r].body, 0 ≤ x ∧ x < (M.length : Int)) := hid (fun r h x hx => by rw [hv.nM]; exact hv.body r h x hx)
 have H8 := hid hv.m8
 have Hbl := hid hv.bl
 clear h hm hv
 refine post_gen fun Q HQ => ?_
 go_enter Try.func142, Try.ntmps142
 have Hs : Hid (((row RL q).any (ppB T M s)) = RL[q.toNat].any (ppB T M s)) := hid (by rw [Hrow.out])
 rw [Hs.out] at HQ
 go_wp2
 generalize hL : RL[q.toNat] = L at *
 have HL := hid hL
 clear hL
 go_loopw [9] (fun v9 wr => ∃ i : Nat, i ≤ L.length ∧ v9 = .int .i64 i ∧ Hid ((L.take i).any (ppB T M s) = false) ∧ Drew w wr) (fun v9 _ => L.length - (intOf v9).toNat)
 case atStart => exact ⟨0, Nat.zero_le _, rfl, hid (by simp), Drew.refl w⟩
 case round =>
  obtain ⟨i, hi, rfl, hno, hdr⟩ := hrel
  have Hdr := hid hdr
  obtain ⟨AF, cF, AR, cR, AB, cB, Al, cl, ARu, cRu, c1, c2, c3, c4, c5, hF, hR, hB, hl, hRu⟩ := (H.out.ext hdr.below).cells
  obtain ⟨adQ, LB, LC, rfl, pq, l1, l2, hrow⟩ := hRu.atRow hqr
  rw [HL.out] at pq l1 l2 hrow
  clear hdr
  by_cases hlt : i < L.length
  ·have Hi := hid (any_take_succ (p := ppB T M s) hlt)
   have Hhit := hid (any_hit (p := ppB T M s) hlt)
   obtain ⟨adL, rfl, pl⟩ := hrow.at1 hlt
   obtain ⟨hr0, hr1⟩ := Hrl.out _ (List.getElem_mem hlt)
   obtain ⟨r, Hr⟩ : ∃ r, Hid (L[i] = r) := ⟨_, hid rfl⟩
   rw [Hr.out] at pl hr0 hr1
   have hrl : r.toNat < T.rules.length := by omega
   have HbR := hid (Hbody.out _ hrl)
   have Hbo := hid (bodyAt_at hrl)
   obtain ⟨adR, C, cC, rfl, p0, p1, p2, d1, d2, hbody⟩ := hR.atRule hrl
   generalize T.rules[r.toNat].body = bo at *
   have hbi : r.toNat < T.beats.length := by rw [Hbl.out]; exact hrl
   have hbi2 : r < (T.beats.length : Int) := by rw [Hbl.out]; exact hr1
   have Hbe : Hid (row T.beats r = T.beats[r.toNat]) := hid (row_at hr0 hbi2)
   obtain ⟨adB, BB, cBB, rfl, pb, b1, b2, hbeat⟩ := hB.atRow hbi
   generalize T.beats[r.toNat] = be at *
   have Hst := hid (support15_same _ b T l RL (H.out.ext Hdr.out.below) r hr0 hr1)
   have Hall := hid (all15_any wr vm (.slice C bo.length cC) M bo (Hm.out.ext (scR_mono _) Hdr.out.below) ⟨C, cC, rfl, d1, d2, hbody⟩ H8.out HbR.out 3 2 (by decide) (by decide))
   have Hin : Hid (∀ n, Calls Try.prog 137 #[.slice BB be.length cBB, .int .i64 s] (wr.drewN n) (fun e w' => e = .returned (.bool (memB be s)) ∧ w' = wr.drewN n)) := hid fun n => in15_same _ _ be s (Rd.ext (scR_mono _) (⟨BB, cBB, rfl, b1, b2, hbeat⟩ : RdI wr (.slice BB be.length cBB) be) (ext_drewN wr n))
   have Hp : Hid (ppB T M s r = (supB T r && (memB be s && allM M 2 bo))) := hid (by rw [← Hbo.out, ← Hbe.out]; rfl)
   clear hF hR hB hl hRu hrow hbody hbeat
   cases hs : supB T r with
   | false =>
    have Hp2 : Hid (ppB T M s r = false) := hid (by rw [Hp.out, hs]; rfl)
    rw [hs] at Hst
    clear hs
    go_wp2_with (first | (go_at_call 141; refine Hst.out.mono ?_; rintro e w' ⟨rfl, hw9⟩; rw [hw9]; clear hw9 w'))
    go_roundw
    case rel => exact ⟨i + 1, by omega, by go_num, hid (by rw [Hi.out, hno.out, Hr.out, Hp2.out]; rfl), Hdr.out⟩
    case measure => simp [intOf]; omega
   | true =>
    rw [hs] at Hst
    cases ha : allM M 2 bo with
    | false =>
     have Hp2 : Hid (ppB T M s r = false) := hid (by rw [Hp.out, hs, ha]; simp)
     rw [ha] at Hall
     clear hs ha
     go_wp2_with (first | (go_at_call 141; refine Hst.out.mono ?_; rintro e w' ⟨rfl, hw9⟩; rw [hw9]; clear hw9 w') | (go_at_call 139; refine Hall.out.mono ?_; rintro e w' ⟨rfl, m9, rfl⟩))
     go_roundw
     case rel => exact ⟨i + 1, by omega, by go_num, hid (by rw [Hi.out, hno.out, Hr.out, Hp2.out]; rfl), Hdr.out.step _⟩
     case measure => simp [intOf]; omega
    | true =>
     rw [ha] at Hall
     cases hb : memB be s with
     | false =>
      have Hp2 : Hid (ppB T M s r = false) := hid (by rw [Hp.out, hs, ha, hb]; simp)
      rw [hb] at Hin
      clear hs ha hb
      go_wp2_with (first | (go_at_call 141; refine Hst.out.mono ?_; rintro e w' ⟨rfl, hw9⟩; rw [hw9]; clear hw9 w') | (go_at_call 139; refine Hall.out.mono ?_; rintro e w' ⟨rfl, m9, rfl⟩) | (go_at_call 137; refine (Hin.out _).mono ?_; rintro e w' ⟨rfl, hw9⟩; rw [hw9]; clear hw9 w'))
      go_roundw
      case rel => exact ⟨i + 1, by omega, by go_num, hid (by rw [Hi.out, hno.out, Hr.out, Hp2.out]; rfl), Hdr.out.step _⟩
      case measure => simp [intOf]; omega
     | true =>
      have Hp2 : Hid (ppB T M s r = true) := hid (by rw [Hp.out, hs, ha, hb]; rfl)
      have Hany : Hid (L.any (ppB T M s) = true) := hid (Hhit.out (by rw [Hr.out, Hp2.out]))
      rw [Hany.out] at HQ
      rw [hb] at Hin
      clear hs ha hb
      go_wp2_with (first | (go_at_call 141; refine Hst.out.mono ?_; rintro e w' ⟨rfl, hw9⟩; rw [hw9]; clear hw9 w') | (go_at_call 139; refine Hall.out.mono ?_; rintro e w' ⟨rfl, m9, rfl⟩) | (go_at_call 137; refine (Hin.out _).mono ?_; rintro e w' ⟨rfl, hw9⟩; rw [hw9]; clear hw9 w'))
      go_ret
      exact Fin HQ ⟨rfl, Hdr.out.step _⟩
  ·have Hany : Hid (L.any (ppB T M s) = false) := hid (by rw [← any_take_all (show L.length ≤ i by omega), hno.out])
   rw [Hany.out] at HQ
   clear hF hR hB hl hRu hrow
   go_wp2
   go_ret
   exact Fin HQ ⟨rfl, Hdr.out⟩

set_option maxRecDepth 100000 in
set_option maxHeartbeats 3200000 in
theorem stands15_any (w : World) (b : Nat) (T : Th) (F : List Bool) (l : List Int) (RL : List (List Int)) (M : List Nat) (vm : Value) (h : NR w b T l RL) (hm : RdMk w vm M) (hv : NVal T F RL M) (q : Int) (h0 : 0 ≤ q) (hq : q < T.foes.length) (s : Int) (hs0 : 0 ≤ s) (hs1 : s < T.rules.length) :
  Calls Try.prog 143 #[.pointer (some ⟨b, 0, none⟩), vm, .int .i64 q, .int .i64 s] w (Dr w (wholeB T M 2 s && !(row RL q).any (mpB T M s))) := by
 refine dr_of ?_
 have H := hid h
 have Hm := hid hm
 have Hv := hid hv
 have hqr : q.toNat < RL.length := by have := hv.nR; omega
 have hqr2 : q < (RL.length : Int) := by have := hv.nR; omega
 have hqf : q.toNat < T.foes.length := by omega
 have Hrow : Hid (row RL q = RL[q.toNat]) := hid (row_at h0 hqr2)
 have Hrl : Hid (∀ r ∈ RL[q.toNat], 0 ≤ r ∧ r < (T.rules.length : Int)) := hid (hv.rl _ hqr)
 have Hbody : Hid (∀ r (h : r < T.rules.length), ∀ x ∈ T.rules[r].body, 0 ≤ x ∧ x < (M.length : Int)) := hid (fun r h x hx => by rw [hv.nM]; exact hv.body r h x hx)
 have H8 := hid hv.m8
 have Hbl := hid hv.bl
 clear h hm hv
 refine post_gen fun Q HQ => ?_
 go_enter Try.func143, Try.ntmps143
 have hsl : s.toNat < T.rules.length := by omega
 have HbS := hid (Hbody.out _ hsl)
 have Hs : Hid ((wholeB T M 2 s && !(row RL q).any (mpB T M s)) = (allM M 2 T.rules[s.toNat].body && !RL[q.toNat].any (mpB T M s))) := hid (by rw [Hrow.out, ← bodyAt_at hsl]; rfl)
 rw [Hs.out] at HQ
 obtain ⟨AF, cF, AR, cR, AB, cB, Al, cl, ARu, cRu, c1, c2, c3, c4, c5, hF, hR, hB, hl, hRu⟩ := H.out.cells
 obtain ⟨adR, C, cC, rfl, p0, p1, p2, d1, d2, hbody⟩ := hR.atRule hsl
 generalize T.rules[s.toNat].body = bo at *
 have Hall := hid (all15_any w vm (.slice C bo.length cC) M bo Hm.out ⟨C, cC, rfl, d1, d2, hbody⟩ H8.out HbS.out 3 2 (by decide) (by decide))
 clear hF hR hB hl hRu hbody
 cases ha : allM M 2 bo with
 | false =>
  rw [ha] at Hall HQ
  clear ha
  go_wp2_with (go_at_call 139; refine Hall.out.mono ?_; rintro e w' ⟨rfl, m, rfl⟩)
  go_ret
  exact Fin HQ ⟨rfl, _, rfl⟩
 | true =>
 rw [ha] at Hall HQ
 clear ha
 go_wp2_with (go_at_call 139; refine Hall.out.mono ?_; rintro e w' ⟨rfl, m, rfl⟩)
 clear c1 c2 c3 c4 c5 Hall p0 p1 p2
 generalize hL : RL[q.toNat] = L at *
 have HL := hid hL
 clear hL
 go_loopw [9] (fun v9 wr => ∃ i : Nat, i ≤ L.length ∧ v9 = .int .i64 i ∧ Hid ((L.take i).any (mpB T M s) = false) ∧ Drew w wr) (fun v9 _ => L.length - (intOf v9).toNat)
 case atStart => exact ⟨0, Nat.zero_le _, rfl, hid (by simp), ⟨m, rfl⟩⟩
 case round =>
  obtain ⟨i, hi, rfl, hno, hdr⟩ := hrel
  have Hdr := hid hdr
  obtain ⟨AF, cF, AR, cR, AB, cB, Al, cl, ARu, cRu, c1, c2, c3, c4, c5, hF, hR, hB, hl, hRu⟩ := (H.out.ext hdr.below).cells
  obtain ⟨adQ, LB, LC, rfl, pq, l1, l2, hrow⟩ := hRu.atRow hqr
  rw [HL.out] at pq l1 l2 hrow
  clear hdr
  by_cases hlt : i < L.length
  ·have Hi := hid (any_take_succ (p := mpB T M s) hlt)
   have Hhit := hid (any_hit (p := mpB T M s) hlt)
   obtain ⟨adL, rfl, pl⟩ := hrow.at1 hlt
   obtain ⟨hr0, hr1⟩ := Hrl.out _ (List.getElem_mem hlt)
   obtain ⟨r, Hr⟩ : ∃ r, Hid (L[i] = r) := ⟨_, hid rfl⟩
   rw [Hr.out] at pl hr0 hr1
   have hrl : r.toNat < T.rules.length := by omega
   have HbR := hid (Hbody.out _ hrl)
   have Hbo := hid (bodyAt_at hrl)
   obtain ⟨adR, C, cC, rfl, p0, p1, p2, d1, d2, hbody⟩ := hR.atRule hrl
   generalize T.rules[r.toNat].body = bo at *
   have hbi : r.toNat < T.beats.length := by rw [Hbl.out]; exact hrl
   have hbi2 : r < (T.beats.length : Int) := by rw [Hbl.out]; exact hr1
   have Hbe : Hid (row T.beats r = T.beats[r.toNat]) := hid (row_at hr0 hbi2)
   obtain ⟨adB, BB, cBB, rfl, pb, b1, b2, hbeat⟩ := hB.atRow hbi
   generalize T.beats[r.toNat] = be at *
   have Hst := hid (support15_same _ b T l RL (H.out.ext Hdr.out.below) r hr0 hr1)
   have Hall := hid (any15_any wr vm (.slice C bo.length cC) M bo (Hm.out.ext (scR_mono _) Hdr.out.below) ⟨C, cC, rfl, d1, d2, hbody⟩ H8.out HbR.out 4 3 (by decide) (by decide))
   have Hin : Hid (∀ n, Calls Try.prog 137 #[.slice BB be.length cBB, .int .i64 s] (wr.drewN n) (fun e w' => e = .returned (.bool (memB be s)) ∧ w' = wr.drewN n)) := hid fun n => in15_same _ _ be s (Rd.ext (scR_mono _) (⟨BB, cBB, rfl, b1, b2, hbeat⟩ : RdI wr (.slice BB be.length cBB) be) (ext_drewN wr n))
   have Hp : Hid (mpB T M s r = (supB T r && (memB be s && !anyM M 3 bo))) := hid (by rw [← Hbo.out, ← Hbe.out]; rfl)
   clear hF hR hB hl hRu hrow hbody hbeat
   cases hs : supB T r with
   | false =>
    have Hp2 : Hid (mpB T M s r = false) := hid (by rw [Hp.out, hs]; rfl)
    rw [hs] at Hst
    clear hs
    go_wp2_with (first | (go_at_call 141; refine Hst.out.mono ?_; rintro e w' ⟨rfl, hw9⟩; rw [hw9]; clear hw9 w'))
    go_roundw
    case rel => exact ⟨i + 1, by omega, by go_num, hid (by rw [Hi.out, hno.out, Hr.out, Hp2.out]; rfl), Hdr.out⟩
    case measure => simp [intOf]; omega
   | true =>
    rw [hs] at Hst
    cases ha : anyM M 3 bo with
    | true =>
     have Hp2 : Hid (mpB T M s r = false) := hid (by rw [Hp.out, hs, ha]; simp)
     rw [ha] at Hall
     clear hs ha
     go_wp2_with (first | (go_at_call 141; refine Hst.out.mono ?_; rintro e w' ⟨rfl, hw9⟩; rw [hw9]; clear hw9 w') | (go_at_call 140; refine Hall.out.mono ?_; rintro e w' ⟨rfl, m9, rfl⟩))
     go_roundw
     case rel => exact ⟨i + 1, by omega, by go_num, hid (by rw [Hi.out, hno.out, Hr.out, Hp2.out]; rfl), Hdr.out.step _⟩
     case measure => simp [intOf]; omega
    | false =>
     rw [ha] at Hall
     cases hb : memB be s with
     | false =>
      have Hp2 : Hid (mpB T M s r = false) := hid (by rw [Hp.out, hs, ha, hb]; simp)
      rw [hb] at Hin
      clear hs ha hb
      go_wp2_with (first | (go_at_call 141; refine Hst.out.mono ?_; rintro e w' ⟨rfl, hw9⟩; rw [hw9]; clear hw9 w') | (go_at_call 140; refine Hall.out.mono ?_; rintro e w' ⟨rfl, m9, rfl⟩) | (go_at_call 137; refine (Hin.out _).mono ?_; rintro e w' ⟨rfl, hw9⟩; rw [hw9]; clear hw9 w'))
      go_roundw
      case rel => exact ⟨i + 1, by omega, by go_num, hid (by rw [Hi.out, hno.out, Hr.out, Hp2.out]; rfl), Hdr.out.step _⟩
      case measure => simp [intOf]; omega
     | true =>
      have Hp2 : Hid (mpB T M s r = true) := hid (by rw [Hp.out, hs, ha, hb]; rfl)
      have Hany : Hid (L.any (mpB T M s) = true) := hid (Hhit.out (by rw [Hr.out, Hp2.out]))
      rw [Hany.out] at HQ
      rw [hb] at Hin
      clear hs ha hb
      go_wp2_with (first | (go_at_call 141; refine Hst.out.mono ?_; rintro e w' ⟨rfl, hw9⟩; rw [hw9]; clear hw9 w') | (go_at_call 140; refine Hall.out.mono ?_; rintro e w' ⟨rfl, m9, rfl⟩) | (go_at_call 137; refine (Hin.out _).mono ?_; rintro e w' ⟨rfl, hw9⟩; rw [hw9]; clear hw9 w'))
      go_ret
      exact Fin HQ ⟨rfl, Hdr.out.step _⟩
  ·have Hany : Hid (L.any (mpB T M s) = false) := hid (by rw [← any_take_all (show L.length ≤ i by omega), hno.out])
   rw [Hany.out] at HQ
   clear hF hR hB hl hRu hrow
   go_wp2
   go_ret
   exact Fin HQ ⟨rfl, Hdr.out⟩

end Go.Proofs.Lx
