/- Parts of the proof: Sx, Wd, Ws, Wt. Contracts of the reference's Run, Rounds, Solve, Round (layer 15), and of naive.Rounds. -/
import Derived.Test.YtalhpldbhogadaaA37
import Derived.Test.YtalhpldbhogadaaA26
import Derived.Test.YtalhpldbhogadaaA32
import Derived.Test.YtalhpldbhogadaaA31
import Derived.Test.YtalhpldbhogadaaA33
namespace Go.Proofs.Lx
open Go Go.RowKit
set_option linter.unusedSimpArgs false
set_option linter.unusedVariables false

/-- What a run answers. -/
def RunPost (w : World) (T : Th) (l : List Int) (r : Value) (w' : World) : Prop :=
 ∃ (k : Nat) (v : Value), r = .tuple #[v, .int .i64 k] ∧ w'.ownsRow w.heap.size 33 1 v T.foes.length (marksV (itM (stepM T l) k (startM T))) ∧ stepM T l (itM (stepM T l) k (startM T)) = itM (stepM T l) k (startM T) ∧ (∀ j, j < k → itM (stepM T l) (j + 1) (startM T) ≠ itM (stepM T l) j (startM T)) ∧ Below w.heap.size w w'

set_option maxRecDepth 100000 in
set_option maxHeartbeats 6400000 in
theorem run15_any (w : World) (V vl : Value) (T : Th) (l : List Int) (hT : RdTh w V T) (hwf : WfTh T) (hl : RdI w vl l) :
  Calls Try.prog 67 #[V, vl] w (Ret (RunPost w T l)) := by
 have Hwf := hid hwf
 have HT := hid hT
 obtain ⟨vF, vR, vB, rfl, hF, hR, hB⟩ := hT
 have hl0 := hwf.l0; have hl1 := hwf.l1; have hfl := hwf.fl
 have hbel := ext_alloc w (.cells #[.int .i64 T.lits, vF, vR, vB] 25)
 have hln : T.lits.toNat = T.foes.length := by omega
 have hmM := mkM T.lits hl0 (by omega)
 rw [hln] at hmM
 have Hnew := hid (newWorld15_any _ _ vl T l (HT.out.ext hbel) hwf (hl.ext (scR_mono _) hbel))
 have hft : T.foes.length ≤ 4096 := by omega
 clear hF hR hB
 unfold RunPost
 refine post_gen fun Q HQ => ?_
 go_enter Try.func67, Try.ntmps67
 go_wp2_with fail
 refine Hnew.out.mono ?_
 rintro e w2 ⟨_, rfl, b, rfl, hnr, hb2'⟩
 obtain ⟨b0, b1, b2, b3⟩ := box4 hb2'
 have hb2 := ext_trans hbel hb2'
 have hb3 := ext_trans hb2 (ext_alloc w2 (.cells (madeCells #[.int .u8 0] T.foes.length) 33))
 have Hnr := hid (hnr.ext (ext_alloc w2 (.cells (madeCells #[.int .u8 0] T.foes.length) 33)))
 have hs2 := hb2.size
 have Hown0 : Hid ((w2.alloc (.cells (madeCells #[.int .u8 0] T.foes.length) 33)).ownsRow w.heap.size 33 1 (.slice (some ⟨w2.heap.size, 0, none⟩) T.foes.length T.foes.length) T.foes.length (marksV (startM T))) := by
  have h1 := made_arr (fun x : Nat => Value.int .u8 (x : Int)) 0 33 w2 T.foes.length
  have h2 := arr_own (base := w.heap.size) h1 hs2 (by simp [maxLen]; omega)
  rw [List.length_replicate] at h2
  exact h2
 clear hb2' Hnew hnr
 go_wp2_with fail
 go_loopw [7, 8] (fun v7 v8 wr => ∃ k : Nat, v8 = .int .i64 k ∧ wr.ownsRow w.heap.size 33 1 v7 T.foes.length (marksV (itM (stepM T l) k (startM T))) ∧ NR wr b T l (rulesRows T.rules T.foes.length T.rules.length) ∧ Hid (∀ j, j < k → itM (stepM T l) (j + 1) (startM T) ≠ itM (stepM T l) j (startM T)) ∧ k ≤ (itM (stepM T l) k (startM T)).sum ∧ Hid (∀ x ∈ itM (stepM T l) k (startM T), x < 256) ∧ (itM (stepM T l) k (startM T)).length = T.foes.length ∧ Below w.heap.size w wr) (fun _ v8 _ => 255 * T.foes.length + 1 - (intOf v8).toNat)
 case atStart => exact ⟨0, rfl, Hown0.out, Hnr.out, fun j h => absurd h (by omega), Nat.zero_le _, by intro x hx; simp [itM, startM] at hx; omega, by simp [itM, startM], hb3⟩
 case round =>
  clear Hown0 Hnr hb3 b0 b1 b2 b3
  obtain ⟨k, rfl, hown, hnr, hno, hks, h8, hlen, hbl⟩ := hrel
  have hkb : k ≤ 255 * T.foes.length := by have := sum_bound _ h8.out; rw [hlen] at this; omega
  generalize hM : itM (stepM T l) k (startM T) = M at *
  have HM := hid hM
  clear hM
  rw [← hlen] at hown
  have hrm := own_marks hown (by omega)
  have Hrd := hid (wround15_any wr b T l _ M u7 hnr hrm (nval Hwf.out l M hlen h8.out) (by omega))
  have Hgr := hid (roundM_grows T (factsB T.foes.length l) (rulesRows T.rules T.foes.length T.rules.length) M)
  have H8 := hid (roundM_lt T (factsB T.foes.length l) (rulesRows T.rules T.foes.length T.rules.length) M h8.out)
  obtain ⟨f, Hf⟩ : ∃ f, Hid (roundM T (factsB T.foes.length l) (rulesRows T.rules T.foes.length T.rules.length) M = f) := ⟨_, rfl⟩
  rw [Hf.out] at Hrd Hgr H8
  have hfl2 : f.length = M.length := by rw [← Hf.out]; exact roundM_length _ _ _ _
  have Hown := hid hown
  have Hnr := hid hnr
  clear hnr hrm hown
  go_wp2_with fail
  refine Hrd.out.mono ?_
  rintro e w5 ⟨v, rfl, hv, hb5⟩
  have hown5 := own_ext Hown.out hb5
  rw [← hfl2] at hv
  have heq := hid (sameM_any w5 u7 v M f (own_marks hown5 (by omega)) (own_marks hv (by omega)))
  have Hv := hid hv
  clear hv Hrd
  go_wp2_with fail
  refine heq.out.mono ?_
  rintro e w6 ⟨_, rfl, rfl, hb6⟩
  have hb56 := ext_trans hb5 hb6
  by_cases he : M = f
  ·have hd : decide (M = f) = true := decide_eq_true he
   rw [hd]
   have ho6 := own_ext hown5 hb6
   have Ho6 := hid ho6
   clear ho6 hown5
   go_wp2_with fail
   go_ret2
   refine Fin HQ ⟨k, u7, rfl, ?_, ?_, hno.out, ext_trans hbl hb56⟩
   ·have h1 := Ho6.out
    rw [hlen] at h1
    rw [HM.out]; exact h1
   ·rw [HM.out]
    show roundM _ _ _ M = M
    rw [Hf.out]; exact he.symm
  ·have hd : decide (M = f) = false := decide_eq_false he
   rw [hd]
   have Hgr2 : Hid (M.sum < f.sum) := by
    have h1 := Hgr.out
    have : M.sum ≠ f.sum := fun e => he (h1.2 e)
    exact hid (by omega)
   have Hv6 := hid (own_lower (own_ext Hv.out hb6) hbl.size)
   clear hown5
   go_wp2_with fail
   go_roundw
   case rel =>
    have hit : itM (stepM T l) (k + 1) (startM T) = f := by
     show stepM T l (itM (stepM T l) k (startM T)) = f
     rw [HM.out]; exact Hf.out
    have h0 := Hgr2.out
    refine ⟨k + 1, by go_num, ?_, Hnr.out.ext hb56, fun j hj => ?_, ?_, ?_, ?_, ext_trans hbl hb56⟩
    ·rw [hit, ← hlen, ← hfl2]; exact Hv6.out
    ·by_cases e : j = k
     ·subst e; rw [hit, HM.out]; exact fun h => he h.symm
     ·exact hno.out j (by omega)
    ·rw [hit]; omega
    ·rw [hit]; exact H8.out
    ·rw [hit, hfl2]; exact hlen
   case measure => simp [intOf]; omega

/-- k rounds bring something, the next none. -/
def FixAt (T : Th) (l : List Int) (k : Nat) : Prop := stepM T l (itM (stepM T l) k (startM T)) = itM (stepM T l) k (startM T) ∧ ∀ j, j < k → itM (stepM T l) (j + 1) (startM T) ≠ itM (stepM T l) j (startM T)
theorem FixAt.one {T : Th} {l : List Int} {k j : Nat} (h : FixAt T l k) (h' : FixAt T l j) : k = j := by
 rcases Nat.lt_trichotomy k j with hlt | rfl | hlt
 ·exact absurd h.1 (h'.2 k hlt)
 ·rfl
 ·exact absurd h'.1 (h.2 j hlt)
/-- What Rounds answers. -/
def RoundsPost (w : World) (T : Th) (l : List Int) (r : Value) (w' : World) : Prop :=
 ∃ k : Nat, r = .tuple #[.int .i64 k, .int .i64 (givenErr T l)] ∧ (givenErr T l = 0 → FixAt T l k) ∧ (givenErr T l ≠ 0 → k = 0) ∧ Below w.heap.size w w'
def SolvePost (w : World) (T : Th) (l : List Int) (r : Value) (w' : World) : Prop :=
 ∃ v, r = .tuple #[v, .int .i64 (givenErr T l)] ∧ (givenErr T l = 0 → w'.ownsRow w.heap.size 33 1 v (solveM T l).length (marksV (solveM T l))) ∧ (givenErr T l ≠ 0 → v = .slice none 0 0) ∧ Below w.heap.size w w'
def RoundPost (w : World) (T : Th) (l : List Int) (M : List Nat) (r : Value) (w' : World) : Prop :=
 ∃ v, r = .tuple #[v, .int .i64 (markedErr T l M.length)] ∧ (markedErr T l M.length = 0 → w'.ownsRow w.heap.size 33 1 v M.length (marksV (stepM T l M))) ∧ (markedErr T l M.length ≠ 0 → v = .slice none 0 0) ∧ Below w.heap.size w w'

set_option maxHeartbeats 800000 in
theorem solve15_any (w : World) (V vl : Value) (T : Th) (l : List Int) (hT : RdTh w V T) (hl : RdI w vl l) :
  Calls Try.prog 33 #[V, vl] w (Ret (SolvePost w T l)) := by
 unfold SolvePost
 have HT := hid hT
 obtain ⟨vF, vR, vB, rfl, hF, hR, hB⟩ := hT
 have hbel := ext_alloc w (.cells #[.int .i64 T.lits, vF, vR, vB] 25)
 have hch := given15_any (w.alloc (.cells #[.int .i64 T.lits, vF, vR, vB] 25)) _ vl T l (HT.out.ext hbel) (hl.ext (scR_mono _) hbel)
 have Hok := hid (@givenErr_ok T l)
 clear hF hR hB
 generalize givenErr T l = c at *
 refine post_gen fun Q HQ => ?_
 go_enter Try.func33, Try.ntmps33
 go_wp2_with fail
 refine hch.mono ?_
 rintro e w2 ⟨_, rfl, rfl, hb2'⟩
 obtain ⟨b0, b1, b2, b3⟩ := box4 hb2'
 have hb2 := ext_trans hbel hb2'
 clear hb2'
 by_cases h : c = 0
 ·subst h
  have hw := Hok.out.1 rfl
  have Hrun := hid (run15_any w2 _ vl T l (HT.out.ext hb2) hw.1 (hl.ext (scR_mono _) hb2))
  unfold RunPost at Hrun
  clear hw
  go_wp2_with fail
  refine Hrun.out.mono ?_
  rintro e w3 ⟨_, rfl, k, v, rfl, h1, h2, h3, hb3⟩
  go_wp2_with fail
  go_ret2
  refine Fin HQ ⟨v, rfl, fun _ => ?_, fun h => absurd rfl h, ext_trans hb2 hb3⟩
  rw [solve_run h2 h3] at h1
  rw [solve_length]
  exact own_lower h1 hb2.size
 ·have hne : (c != 0) = true := by simp [h]
  go_wp2_with fail
  go_ret2
  exact Fin HQ ⟨_, rfl, fun e => absurd e h, fun _ => rfl, hb2⟩

end Go.Proofs.Lx

namespace Go.Proofs.Lx
open Go Go.RowKit Go.Proofs.Tj
set_option linter.unusedSimpArgs false
set_option linter.unusedVariables false
theorem has16_plain (x : Nat) (hx : x < 256) (tag : Int) (k : Nat) (hk : k < 4) (ht : tag = (k : Int) + 1) (w : World) : Calls Try.prog 73 #[.int .u8 (x : Int), .int .i64 tag] w fun e w' => e = .returned (.bool (x.testBit k)) ∧ w' = w := by
 refine Calls.mono (R := Ret fun v w' => v = .bool (x.testBit k) ∧ w' = w) ?_ (fun e w' ⟨v, he, hv, hw⟩ => ⟨by rw [he, hv], hw⟩)
 have Hmm := hid (bit_mask x hx k hk)
 have Hb := hid (bit15_plain tag k hk ht w)
 clear ht
 generalize hz : (2 ^ k : Nat) = z at *
 clear hz
 generalize x.testBit k = y at *
 refine post_gen fun Q HQ => ?_
 go_enter Try.func73, Try.ntmps73
 go_wp2_with (go_at_call 74; refine Hb.out.mono ?_; rintro e w2 ⟨rfl, rfl⟩)
 go_ret
 exact Fin HQ ⟨congrArg Value.bool Hmm.out, rfl⟩
def cntT (x k : Nat) : Nat := (List.range k).countP fun j => x.testBit j
theorem cntT_succ (x k : Nat) : cntT x (k + 1) = cntT x k + if x.testBit k = true then 1 else 0 := by
 unfold cntT
 rw [List.range_succ, List.countP_append]
 cases h : x.testBit k <;> simp [h]
theorem cntT_le (x k : Nat) : cntT x k ≤ k := by
 have := countP_le_len (fun j => x.testBit j) (List.range k)
 rwa [List.length_range] at this
theorem cntT_four (x : Nat) : cntT x 4 = tagsN x := by
 rw [cntT_succ, cntT_succ, cntT_succ, cntT_succ]; unfold tagsN cntT; simp
theorem tagsN_le (x : Nat) : tagsN x ≤ 4 := by rw [← cntT_four]; exact cntT_le x 4
set_option maxHeartbeats 800000 in
theorem tags_any (x : Nat) (hx : x < 256) (w : World) : Calls Try.prog 72 #[.int .u8 (x : Int)] w (Ret fun v w' => v = .int .i64 (tagsN x : Int) ∧ Below w.heap.size w w') := by
 have Hh := hid (fun (k : Nat) (hk : k < 4) (W : World) => has16_plain x hx ((k : Int) + 1) k hk rfl W)
 rw [← cntT_four]
 have Hs := hid (cntT_succ x)
 have Hle := hid (cntT_le x)
 refine post_gen fun Q HQ => ?_
 go_enter Try.func72, Try.ntmps72
 go_wp2
 go_loopw [3, 4] (fun v3 v4 wr => ∃ k : Nat, k ≤ 4 ∧ v4 = .int .i64 ((k : Int) + 1) ∧ v3 = .int .i64 (cntT x k : Int) ∧ Below w.heap.size w wr) (fun _ v4 _ => 5 - (intOf v4).toNat)
 case atStart => exact ⟨0, by omega, rfl, rfl, ext_refl _⟩
 case round =>
  obtain ⟨k, hk, rfl, rfl, hbl⟩ := hrel
  by_cases hlt : k < 4
  ·have hc := Hh.out k hlt wr
   have hs := Hs.out k
   have hle := Hle.out k
   generalize cntT x k = n at *
   cases hb : x.testBit k with
   | true =>
    rw [hb] at hc hs
    have Hc := hid hc
    rw [if_pos rfl] at hs
    have HS := hid hs
    clear hb hc hs
    go_wp2_with (go_at_call 73; refine Hc.out.mono ?_; rintro e w2 ⟨rfl, rfl⟩)
    go_roundw
    case rel => exact ⟨k + 1, by omega, by go_num, by rw [HS.out]; go_num, hbl⟩
    case measure => simp [intOf]; omega
   | false =>
    rw [hb] at hc hs
    have Hc := hid hc
    rw [if_neg Bool.false_ne_true] at hs
    have HS := hid hs
    clear hb hc hs
    go_wp2_with (go_at_call 73; refine Hc.out.mono ?_; rintro e w2 ⟨rfl, rfl⟩)
    go_roundw
    case rel => exact ⟨k + 1, by omega, by go_num, by rw [HS.out]; go_num, hbl⟩
    case measure => simp [intOf]; omega
  ·obtain rfl : k = 4 := by omega
   go_wp2
   go_ret
   exact Fin HQ ⟨rfl, hbl⟩
theorem totalN_take (X : List Nat) {k : Nat} (hk : k < X.length) : totalN (X.take (k + 1)) = totalN (X.take k) + tagsN X[k] := by
 unfold totalN; rw [List.take_succ_eq_append_getElem hk, List.map_append, List.sum_append]; simp
theorem totalN_le (X : List Nat) : totalN X ≤ 4 * X.length := by
 induction X with
 | nil => simp [totalN]
 | cons x X ih =>
  have := tagsN_le x
  unfold totalN at *
  rw [List.map_cons, List.sum_cons, List.length_cons]; omega
set_option maxHeartbeats 800000 in
theorem total_any (w : World) (v : Value) (X : List Nat) (h : RdMk w v X) (h8 : ∀ x ∈ X, x < 256) :
  Calls Try.prog 40 #[v] w (Ret fun v w' => v = .int .i64 (totalN X : Int) ∧ Below w.heap.size w w') := by
 obtain ⟨A, c, rfl, hc, hb, hr⟩ := h
 have Hr : Hid (∀ W, Below w.heap.size w W → ∀ (k x : Nat), X[k]? = some x → ∃ ad, A = some ad ∧ W.cell? (ad.add k) = some (.int .u8 (x : Int))) := hid fun W hW k x hx => by
  obtain ⟨hk, rfl⟩ := List.getElem?_eq_some_iff.1 hx
  exact (hr.ext (scR_mono _) hW).at1 hk
 have Ht : Hid (∀ (k x : Nat), X[k]? = some x → totalN (X.take (k + 1)) = totalN (X.take k) + tagsN x) := hid fun k x hx => by
  obtain ⟨hk, rfl⟩ := List.getElem?_eq_some_iff.1 hx
  exact totalN_take X hk
 have Hx : Hid (∀ k : Nat, k < X.length → ∃ x : Nat, X[k]? = some x ∧ x < 256) := hid fun k hk => ⟨_, List.getElem?_eq_getElem hk, h8 _ (List.getElem_mem hk)⟩
 have Hle : Hid (∀ k, totalN (X.take k) ≤ 562949953421312) := hid fun k => by
  have := totalN_le (X.take k); have h2 : (X.take k).length ≤ X.length := List.length_take_le' _ _; omega
 have Hfin : Hid (∀ k, X.length ≤ k → totalN (X.take k) = totalN X) := hid fun k hk => by rw [List.take_of_length_le hk]
 generalize hn : X.length = n at *
 clear hn hr h8
 refine post_gen fun Q HQ => ?_
 go_enter Try.func40, Try.ntmps40
 go_wp2
 go_loopw [3, 4] (fun v3 v4 wr => ∃ k : Nat, k ≤ n ∧ v4 = .int .i64 (k : Int) ∧ v3 = .int .i64 (totalN (X.take k) : Int) ∧ Below w.heap.size w wr) (fun _ v4 _ => n - (intOf v4).toNat)
 case atStart => exact ⟨0, by omega, rfl, rfl, ext_refl _⟩
 case round =>
  obtain ⟨k, hk, rfl, rfl, hbl⟩ := hrel
  by_cases hlt : k < n
  ·obtain ⟨x, hxk, hx8⟩ := Hx.out k hlt
   obtain ⟨ad, rfl, hcX⟩ := Hr.out wr hbl k x hxk
   have hts := Ht.out k x hxk
   have hle := Hle.out k
   clear hxk
   have htl := tagsN_le x
   have Hcall := hid (tags_any x hx8 wr)
   generalize tagsN x = z at *
   generalize hy : totalN (X.take k) = y at *
   have HS := hid hts
   have Hy := hid hy
   clear hts hy
   go_wp2_with (go_at_call 72; refine Hcall.out.mono ?_; rintro e w2 ⟨_, rfl, rfl, hb2⟩)
   go_roundw
   case rel => exact ⟨k + 1, by omega, by go_num, by rw [HS.out]; go_num, ext_trans hbl hb2⟩
   case measure => simp [intOf]; omega
  ·go_wp2
   go_ret
   exact Fin HQ ⟨by show Value.int .i64 (totalN (X.take k) : Int) = _; rw [Hfin.out k (by omega)], hbl⟩
theorem run16_any (w : World) (V vl : Value) (T : Th) (l : List Int) (hT : RdTh w V T) (hl : RdI w vl l) :
  Calls Try.prog 38 #[V, vl] w (Ret (FRunPost w T l)) := by
 have HT := hid hT
 obtain ⟨vF, vR, vB, rfl, hF, hR, hB⟩ := hT
 have hbel := ext_alloc w (.cells #[.int .i64 T.lits, vF, vR, vB] 25)
 have hch := hid (solve15_any (w.alloc (.cells #[.int .i64 T.lits, vF, vR, vB] 25)) _ vl T l (HT.out.ext hbel) (hl.ext (scR_mono _) hbel))
 clear hF hR hB
 refine post_gen fun Q HQ => ?_
 go_enter Try.func38, Try.ntmps38
 go_wp2_with fail
 refine hch.out.mono ?_
 rintro e w2 ⟨_, rfl, v, rfl, h1, h2, hb2⟩
 have H1 := hid h1
 have H2 := hid h2
 clear h1 h2
 go_wp2_with fail
 go_ret2
 exact Fin HQ ⟨v, rfl, fun h => own_lower (H1.out h) hbel.size, H2.out, ext_trans hbel hb2⟩
end Go.Proofs.Lx

namespace Go.Proofs.Lx
open Go Go.RowKit Go.Proofs.Tj
set_option linter.unusedSimpArgs false
set_option linter.unusedVariables false
theorem own_nilI (w : World) (B : Nat) : w.ownsRow B 3 1 (.slice none 0 0) ([] : List Int).length (intsV []) := by simpa [intsV] using World.ownsRow_nil _ _ _ _
/-- What is known of marks that are read. -/
structure MkR (w : World) (A : Option Addr) (X : List Nat) (n : Nat) : Prop where
 len : X.length = n
 n4 : n ≤ 4096
 at1 : ∀ W, Below w.heap.size w W → ∀ q, q < n → ∃ (x : Nat) (ad : Addr), X[q]? = some x ∧ x < 256 ∧ A = some ad ∧ W.cell? (ad.add q) = some (.int .u8 (x : Int))
theorem mkR_of {w : World} {v : Value} {T : Th} {l : List Int} (hc : givenErr T l = 0) (h : RdMk w v (solX T l)) : ∃ A cap, v = .slice A T.foes.length cap ∧ MkR w A (solveM T l) T.foes.length := by
 have hwf := (givenErr_ok.1 hc).1
 have hlt := @solX_lt T l
 unfold solX at *
 rw [if_pos hc] at *
 obtain ⟨A, cap, e, _, _, hr⟩ := h
 rw [solve_length] at e
 refine ⟨A, cap, e, solve_length T l, by have := hwf.fl; have := hwf.l1; omega, fun W hW q hq => ?_⟩
 have hq2 : q < (solveM T l).length := by rw [solve_length]; exact hq
 obtain ⟨ad, e2, hcl⟩ := (hr.ext (scR_mono _) hW).at1 hq2
 exact ⟨_, ad, List.getElem?_eq_getElem hq2, hlt _ (List.getElem_mem hq2), e2, hcl⟩
set_option maxRecDepth 100000 in
set_option maxHeartbeats 1600000 in
theorem rset_any (w : World) (V vl : Value) (T : Th) (l : List Int) (tag : Int) (hT : RdTh w V T) (hl : RdI w vl l) :
  Calls Try.prog 49 #[V, vl, .int .i64 tag] w (Ret (IntsPost w (setL T l tag) (tagErr T l tag))) := by
 have HT := hid hT
 obtain ⟨vF, vR, vB, rfl, hF, hR, hB⟩ := hT
 have hbel := ext_alloc w (.cells #[.int .i64 T.lits, vF, vR, vB] 25)
 have Hbel := hid hbel
 have hch := hid (run16_any (w.alloc (.cells #[.int .i64 T.lits, vF, vR, vB] 25)) _ vl T l (HT.out.ext hbel) (hl.ext (scR_mono _) hbel))
 clear hF hR hB hbel
 unfold IntsPost
 have He : Hid (∀ c, givenErr T l = c → tagErr T l tag = if c = 0 then (if tag < 1 ∨ 4 < tag then 1 else 0) else c) := hid fun c hc => by unfold tagErr; rw [hc]
 have HL0 : Hid (tagErr T l tag ≠ 0 → setL T l tag = []) := hid fun h => by unfold setL; rw [if_neg h]
 have HL1 : Hid (tagErr T l tag = 0 → setL T l tag = pickL (fun q => hasM (solveM T l) (tag.toNat - 1) (q : Int)) T.foes.length) := hid fun h => by unfold setL; rw [if_pos h]
 have Hmk : Hid (∀ w' v, givenErr T l = 0 → RdMk w' v (solX T l) → ∃ A cap, v = .slice A T.foes.length cap ∧ MkR w' A (solveM T l) T.foes.length) := hid fun w' v h1 h2 => mkR_of h1 h2
 refine post_gen fun Q HQ => ?_
 go_enter Try.func49, Try.ntmps49
 go_wp2_with fail
 refine hch.out.mono ?_
 rintro e w2 ⟨_, rfl, hp⟩
 obtain ⟨v, rfl, hrd, hb2⟩ := FRunPost.marks hp
 clear hp hch
 have Hrd := hid hrd
 have Hb2 := hid (ext_trans Hbel.out hb2)
 clear hrd hb2 Hbel
 obtain ⟨c, Hc⟩ : ∃ c, Hid (givenErr T l = c) := ⟨_, hid rfl⟩
 have he := He.out c Hc.out
 rw [Hc.out]
 by_cases h : c = 0
 ·subst h
  rw [if_pos rfl] at he
  by_cases ht1 : tag < 1
  ·rw [if_pos (.inl ht1)] at he
   rw [he, HL0.out (by rw [he]; decide)] at HQ
   have HE := hid he
   clear he
   go_wp2_with fail
   go_ret2
   exact Fin HQ ⟨_, rfl, own_nilI _ _, Hb2.out⟩
  by_cases ht2 : 4 < tag
  ·rw [if_pos (.inr ht2)] at he
   rw [he, HL0.out (by rw [he]; decide)] at HQ
   have HE := hid he
   clear he
   go_wp2_with fail
   go_ret2
   exact Fin HQ ⟨_, rfl, own_nilI _ _, Hb2.out⟩
  rw [if_neg (by omega)] at he
  rw [he, HL1.out he] at HQ
  have HE := hid he
  clear he
  obtain ⟨k, rfl⟩ : ∃ k : Nat, tag = (k : Int) + 1 := ⟨(tag - 1).toNat, by omega⟩
  have hk4 : k < 4 := by omega
  have ek : ((k : Int) + 1).toNat - 1 = k := by omega
  rw [ek] at HQ
  clear ek
  obtain ⟨A, cap, rfl, hm⟩ := Hmk.out _ _ Hc.out Hrd.out
  obtain ⟨i0, hi, hz0, hz1, hz2⟩ := info_parts infoI
  have hn4 := hm.n4
  have Hm := hid hm
  have Hhas := hid (fun (x : Nat) (hx : x < 256) (W : World) => has16_plain x hx ((k : Int) + 1) k hk4 rfl W)
  have Hp : Hid (∀ (q x : Nat), (solveM T l)[q]? = some x → hasM (solveM T l) k (q : Int) = x.testBit k) := hid fun q x hx => by
   unfold hasM; rw [Int.toNat_natCast, List.getD_eq_getElem?_getD, hx]; rfl
  clear hm Hmk Hrd HL0 HL1 He
  generalize T.foes.length = n at *
  generalize hpp : (fun q : Nat => hasM (solveM T l) k (q : Int)) = p at *
  have Hpp : Hid (∀ (q x : Nat), (solveM T l)[q]? = some x → p q = x.testBit k) := hid fun q x hx => by rw [← hpp]; exact Hp.out q x hx
  clear hpp Hp
  have Hs := hid (pickL_succ p)
  have Hle := hid (pickL_le p)
  go_wp2_with fail
  go_loopw [10, 11] (fun v10 v11 wr => ∃ q : Nat, q ≤ n ∧ v11 = .int .i64 q ∧ wr.ownsRow w2.heap.size 3 1 v10 (pickL p q).length (intsV (pickL p q)) ∧ Below w2.heap.size w2 wr) (fun _ v11 _ => n - (intOf v11).toNat)
  case atStart => exact ⟨0, Nat.zero_le _, rfl, by simpa [intsV, pickL] using World.ownsRow_nil _ _ _ _, ext_refl _⟩
  case round =>
   obtain ⟨q, hq, rfl, hown, hbl2⟩ := hrel
   by_cases hlt : q < n
   ·obtain ⟨x, ad, hx, hx8, rfl, hcX⟩ := Hm.out.at1 wr hbl2 q hlt
    have hpx := Hpp.out q x hx
    have hcall := hid (Hhas.out x hx8 wr)
    have hs := Hs.out q
    have hle := Hle.out q
    have Hown := hid hown
    have hsz := hbl2.size
    rw [hpx] at hs
    clear hown hx hpx
    cases hb : x.testBit k with
    | true =>
     rw [hb] at hcall
     rw [hb, if_pos rfl] at hs
     have HS := hid hs
     generalize hL : pickL p q = L at *
     clear hL hb hs
     go_wp2_with fail
     refine hcall.out.mono ?_
     rintro e w3 ⟨rfl, rfl⟩
     go_wp2_with (at_builtin; refine wpList_append_own _ rfl _ _ 26 rfl w2.heap.size 3 i0 (.int .i64 0) 1 8 Try.underlying26 hi hz0 hz1 hz2 rfl (by decide) _ L.length _ rfl (Hown.out.alloc _) ⟨w3.heap.size, 0, none⟩ 1 1 [.int .i64 (q : Int)] rfl rfl (cell_one_new _ _ _) (fun u hu => by simp at hu; subst hu; rfl) (by unfold maxLen; omega) (by omega) (by simp; omega) ?_; intro v' w4 hown' hgrow3 hnil3)
     go_roundw
     case rel =>
      refine ⟨q + 1, by omega, by go_num, ?_, ?_⟩
      ·rw [HS.out, List.length_append, List.length_singleton]
       simpa [intsV] using hown'
      ·exact below_grown (hbl2.alloc hsz _) (by simp; omega) hgrow3 (fun g e => (Hown.out.lt g e).1)
     case measure => simp [intOf]; omega
    | false =>
     rw [hb] at hcall
     rw [hb, if_neg Bool.false_ne_true, List.append_nil] at hs
     have HS := hid hs
     clear hb hs
     go_wp2_with fail
     refine hcall.out.mono ?_
     rintro e w3 ⟨rfl, rfl⟩
     go_wp2_with fail
     go_roundw
     case rel =>
      refine ⟨q + 1, by omega, by go_num, ?_, hbl2⟩
      rw [HS.out]; exact Hown.out
     case measure => simp [intOf]; omega
   ·obtain rfl : q = n := by omega
    go_wp2
    go_ret2
    exact Fin HQ ⟨_, rfl, own_lower hown Hb2.out.size, ext_trans Hb2.out hbl2⟩
 ·rw [if_neg h] at he
  have hne : (c != 0) = true := by simp [h]
  rw [he, HL0.out (by rw [he]; exact h)] at HQ
  have HE := hid he
  clear he
  go_wp2_with fail
  go_ret2
  exact Fin HQ ⟨_, rfl, own_nilI _ _, Hb2.out⟩
end Go.Proofs.Lx

namespace Go.Proofs.Lx
open Go Go.RowKit Go.Proofs.Tj
set_option linter.unusedSimpArgs false
set_option linter.unusedVariables false
set_option maxRecDepth 100000 in
set_option maxHeartbeats 1600000 in
theorem rund_any (w : World) (V vl : Value) (T : Th) (l : List Int) (hT : RdTh w V T) (hl : RdI w vl l) :
  Calls Try.prog 51 #[V, vl] w (Ret (IntsPost w (undL T l) (givenErr T l))) := by
 have HT := hid hT
 obtain ⟨vF, vR, vB, rfl, hF, hR, hB⟩ := hT
 have hbel := ext_alloc w (.cells #[.int .i64 T.lits, vF, vR, vB] 25)
 have Hbel := hid hbel
 have hch := hid (run16_any (w.alloc (.cells #[.int .i64 T.lits, vF, vR, vB] 25)) _ vl T l (HT.out.ext hbel) (hl.ext (scR_mono _) hbel))
 clear hF hR hB hbel
 unfold IntsPost
 have HL0 : Hid (givenErr T l ≠ 0 → undL T l = []) := hid fun h => by unfold undL; rw [if_neg h]
 have HL1 : Hid (givenErr T l = 0 → undL T l = pickL (fun q => !hasM (solveM T l) 2 (q : Int) && !hasM (solveM T l) 3 (q : Int)) T.foes.length) := hid fun h => by unfold undL; rw [if_pos h]
 have Hmk : Hid (∀ w' v, givenErr T l = 0 → RdMk w' v (solX T l) → ∃ A cap, v = .slice A T.foes.length cap ∧ MkR w' A (solveM T l) T.foes.length) := hid fun w' v h1 h2 => mkR_of h1 h2
 refine post_gen fun Q HQ => ?_
 go_enter Try.func51, Try.ntmps51
 go_wp2_with fail
 refine hch.out.mono ?_
 rintro e w2 ⟨_, rfl, hp⟩
 obtain ⟨v, rfl, hrd, hb2⟩ := FRunPost.marks hp
 clear hp hch
 have Hrd := hid hrd
 have Hb2 := hid (ext_trans Hbel.out hb2)
 clear hrd hb2 Hbel
 obtain ⟨c, Hc⟩ : ∃ c, Hid (givenErr T l = c) := ⟨_, hid rfl⟩
 rw [Hc.out] at HQ ⊢
 by_cases h : c = 0
 ·subst h
  rw [HL1.out Hc.out] at HQ
  obtain ⟨A, cap, rfl, hm⟩ := Hmk.out _ _ Hc.out Hrd.out
  obtain ⟨i0, hi, hz0, hz1, hz2⟩ := info_parts infoI
  have hn4 := hm.n4
  have Hm := hid hm
  have Hhas2 := hid (fun (x : Nat) (hx : x < 256) (W : World) => has16_plain x hx 3 2 (by decide) rfl W)
  have Hhas3 := hid (fun (x : Nat) (hx : x < 256) (W : World) => has16_plain x hx 4 3 (by decide) rfl W)
  have Hp : Hid (∀ (q x : Nat), (solveM T l)[q]? = some x → (!hasM (solveM T l) 2 (q : Int) && !hasM (solveM T l) 3 (q : Int)) = (!x.testBit 2 && !x.testBit 3)) := hid fun q x hx => by
   unfold hasM; rw [Int.toNat_natCast, List.getD_eq_getElem?_getD, hx]; rfl
  clear hm Hmk Hrd HL0 HL1
  generalize T.foes.length = n at *
  generalize hpp : (fun q : Nat => !hasM (solveM T l) 2 (q : Int) && !hasM (solveM T l) 3 (q : Int)) = p at *
  have Hpp : Hid (∀ (q x : Nat), (solveM T l)[q]? = some x → p q = (!x.testBit 2 && !x.testBit 3)) := hid fun q x hx => by rw [← hpp]; exact Hp.out q x hx
  clear hpp Hp
  have Hs := hid (pickL_succ p)
  have Hle := hid (pickL_le p)
  go_wp2_with fail
  go_loopw [8, 9] (fun v8 v9 wr => ∃ q : Nat, q ≤ n ∧ v9 = .int .i64 q ∧ wr.ownsRow w2.heap.size 3 1 v8 (pickL p q).length (intsV (pickL p q)) ∧ Below w2.heap.size w2 wr) (fun _ v9 _ => n - (intOf v9).toNat)
  case atStart => exact ⟨0, Nat.zero_le _, rfl, by simpa [intsV, pickL] using World.ownsRow_nil _ _ _ _, ext_refl _⟩
  case round =>
   obtain ⟨q, hq, rfl, hown, hbl2⟩ := hrel
   by_cases hlt : q < n
   ·obtain ⟨x, ad, hx, hx8, rfl, hcX⟩ := Hm.out.at1 wr hbl2 q hlt
    have hpx := Hpp.out q x hx
    have hcall2 := hid (Hhas2.out x hx8 wr)
    have hcall3 := hid (Hhas3.out x hx8 wr)
    have hs := Hs.out q
    have hle := Hle.out q
    have Hown := hid hown
    have hsz := hbl2.size
    rw [hpx] at hs
    clear hown hx hpx
    cases hb : x.testBit 2 with
    | false =>
     cases hb3 : x.testBit 3 with
     | false =>
      rw [hb] at hcall2 hs
      rw [hb3] at hcall3 hs
      rw [show (!false && !false) = true from rfl, if_pos rfl] at hs
      have HS := hid hs
      generalize hL : pickL p q = L at *
      clear hL hb hb3 hs
      go_wp2_with fail
      refine hcall2.out.mono ?_
      rintro e w3 ⟨rfl, rfl⟩
      go_wp2_with fail
      refine hcall3.out.mono ?_
      rintro e w3 ⟨rfl, rfl⟩
      go_wp2_with (at_builtin; refine wpList_append_own _ rfl _ _ 26 rfl w2.heap.size 3 i0 (.int .i64 0) 1 8 Try.underlying26 hi hz0 hz1 hz2 rfl (by decide) _ L.length _ rfl (Hown.out.alloc _) ⟨w3.heap.size, 0, none⟩ 1 1 [.int .i64 (q : Int)] rfl rfl (cell_one_new _ _ _) (fun u hu => by simp at hu; subst hu; rfl) (by unfold maxLen; omega) (by omega) (by simp; omega) ?_; intro v' w4 hown' hgrow3 hnil3)
      go_roundw
      case rel =>
       refine ⟨q + 1, by omega, by go_num, ?_, ?_⟩
       ·rw [HS.out, List.length_append, List.length_singleton]
        simpa [intsV] using hown'
       ·exact below_grown (hbl2.alloc hsz _) (by simp; omega) hgrow3 (fun g e => (Hown.out.lt g e).1)
      case measure => simp [intOf]; omega
     | true =>
      rw [hb] at hcall2 hs
      rw [hb3] at hcall3 hs
      rw [show (!false && !true) = false from rfl, if_neg Bool.false_ne_true, List.append_nil] at hs
      have HS := hid hs
      clear hb hb3 hs
      go_wp2_with fail
      refine hcall2.out.mono ?_
      rintro e w3 ⟨rfl, rfl⟩
      go_wp2_with fail
      refine hcall3.out.mono ?_
      rintro e w3 ⟨rfl, rfl⟩
      go_wp2_with fail
      go_roundw
      case rel =>
       refine ⟨q + 1, by omega, by go_num, ?_, hbl2⟩
       rw [HS.out]; exact Hown.out
      case measure => simp [intOf]; omega
    | true =>
     rw [hb] at hcall2 hs
     rw [show (!true && !x.testBit 3) = false from rfl, if_neg Bool.false_ne_true, List.append_nil] at hs
     have HS := hid hs
     clear hb hs hcall3
     go_wp2_with fail
     refine hcall2.out.mono ?_
     rintro e w3 ⟨rfl, rfl⟩
     go_wp2_with fail
     go_roundw
     case rel =>
      refine ⟨q + 1, by omega, by go_num, ?_, hbl2⟩
      rw [HS.out]; exact Hown.out
     case measure => simp [intOf]; omega
   ·obtain rfl : q = n := by omega
    go_wp2
    go_ret2
    exact Fin HQ ⟨_, rfl, own_lower hown Hb2.out.size, ext_trans Hb2.out hbl2⟩
 ·have hne : (c != 0) = true := by simp [h]
  rw [HL0.out (by rw [Hc.out]; exact h)] at HQ
  go_wp2_with fail
  go_ret2
  exact Fin HQ ⟨_, rfl, own_nilI _ _, Hb2.out⟩
set_option maxHeartbeats 1600000 in
theorem rholds_any (w : World) (V vl : Value) (T : Th) (l : List Int) (q tag : Int) (hT : RdTh w V T) (hl : RdI w vl l) :
  Calls Try.prog 47 #[V, vl, .int .i64 q, .int .i64 tag] w (Ret fun r w' => r = .tuple #[.bool (holdB T l q tag), .int .i64 (holdErr T l q tag)] ∧ Below w.heap.size w w') := by
 have HT := hid hT
 obtain ⟨vF, vR, vB, rfl, hF, hR, hB⟩ := hT
 have hbel := ext_alloc w (.cells #[.int .i64 T.lits, vF, vR, vB] 25)
 have Hbel := hid hbel
 have hch := hid (run16_any (w.alloc (.cells #[.int .i64 T.lits, vF, vR, vB] 25)) _ vl T l (HT.out.ext hbel) (hl.ext (scR_mono _) hbel))
 have Hbox : Hid (∀ W, Below (w.alloc (.cells #[.int .i64 T.lits, vF, vR, vB] 25)).heap.size (w.alloc (.cells #[.int .i64 T.lits, vF, vR, vB] 25)) W → W.cell? ⟨w.heap.size, 0, none⟩ = some (.int .i64 T.lits)) := hid fun W hb => (box4 hb).1
 clear hF hR hB hbel
 have He : Hid (∀ c, givenErr T l = c → holdErr T l q tag = if c = 0 then (if q < 0 ∨ T.lits ≤ q then 91 else if tag < 1 ∨ 4 < tag then 1 else 0) else c) := hid fun c hc => by unfold holdErr; rw [hc]
 have HB0 : Hid (holdErr T l q tag ≠ 0 → holdB T l q tag = false) := hid fun h => by unfold holdB; rw [if_neg h]
 have HB1 : Hid (holdErr T l q tag = 0 → holdB T l q tag = hasM (solveM T l) (tag.toNat - 1) q) := hid fun h => by unfold holdB; rw [if_pos h]
 have Hmk : Hid (∀ w' v, givenErr T l = 0 → RdMk w' v (solX T l) → ∃ A cap, v = .slice A T.foes.length cap ∧ MkR w' A (solveM T l) T.foes.length) := hid fun w' v h1 h2 => mkR_of h1 h2
 have Hfl : Hid (givenErr T l = 0 → (T.foes.length : Int) = T.lits) := hid fun h => (givenErr_ok.1 h).1.fl
 refine post_gen fun Q HQ => ?_
 go_enter Try.func47, Try.ntmps47
 go_wp2_with fail
 refine hch.out.mono ?_
 rintro e w2 ⟨_, rfl, hp⟩
 obtain ⟨v, rfl, hrd, hb2⟩ := FRunPost.marks hp
 clear hp hch
 have hc0 := Hbox.out w2 hb2
 have Hrd := hid hrd
 have Hb2 := hid (ext_trans Hbel.out hb2)
 clear hrd hb2 Hbel Hbox
 obtain ⟨c, Hc⟩ : ∃ c, Hid (givenErr T l = c) := ⟨_, hid rfl⟩
 have he := He.out c Hc.out
 rw [Hc.out]
 by_cases h : c = 0
 ·subst h
  rw [if_pos rfl] at he
  by_cases hq1 : q < 0
  ·rw [if_pos (.inl hq1)] at he
   rw [he, HB0.out (by rw [he]; decide)] at HQ
   have HE := hid he
   clear he
   go_wp2_with fail
   go_ret2
   exact Fin HQ ⟨rfl, Hb2.out⟩
  by_cases hq2 : T.lits ≤ q
  ·rw [if_pos (.inr hq2)] at he
   rw [he, HB0.out (by rw [he]; decide)] at HQ
   have HE := hid he
   clear he
   go_wp2_with fail
   go_ret2
   exact Fin HQ ⟨rfl, Hb2.out⟩
  rw [if_neg (by omega)] at he
  by_cases ht1 : tag < 1
  ·rw [if_pos (.inl ht1)] at he
   rw [he, HB0.out (by rw [he]; decide)] at HQ
   have HE := hid he
   clear he
   go_wp2_with fail
   go_ret2
   exact Fin HQ ⟨rfl, Hb2.out⟩
  by_cases ht2 : 4 < tag
  ·rw [if_pos (.inr ht2)] at he
   rw [he, HB0.out (by rw [he]; decide)] at HQ
   have HE := hid he
   clear he
   go_wp2_with fail
   go_ret2
   exact Fin HQ ⟨rfl, Hb2.out⟩
  rw [if_neg (by omega)] at he
  rw [he, HB1.out he] at HQ
  have HE := hid he
  clear he
  obtain ⟨k, rfl⟩ : ∃ k : Nat, tag = (k : Int) + 1 := ⟨(tag - 1).toNat, by omega⟩
  have hk4 : k < 4 := by omega
  have ek : ((k : Int) + 1).toNat - 1 = k := by omega
  rw [ek] at HQ
  clear ek
  have hfl := Hfl.out Hc.out
  obtain ⟨j, rfl⟩ : ∃ j : Nat, q = (j : Int) := ⟨q.toNat, by omega⟩
  obtain ⟨A, cap, rfl, hm⟩ := Hmk.out _ _ Hc.out Hrd.out
  obtain ⟨x, ad, hx, hx8, rfl, hcX⟩ := hm.at1 w2 (ext_refl _) j (by omega)
  have hjn : j < T.foes.length := by omega
  have hhas : hasM (solveM T l) k (j : Int) = x.testBit k := by
   unfold hasM; rw [Int.toNat_natCast, List.getD_eq_getElem?_getD, hx]; rfl
  rw [hhas] at HQ
  have hcall := hid (has16_plain x hx8 ((k : Int) + 1) k hk4 rfl w2)
  clear hm Hmk Hrd HB0 HB1 He hhas hx
  have hjl : (j : Int) < T.lits := by omega
  clear hfl
  generalize T.foes.length = n at *
  generalize T.lits = lits at *
  generalize x.testBit k = y at *
  go_wp2_with fail
  refine hcall.out.mono ?_
  rintro e w3 ⟨rfl, rfl⟩
  go_wp2_with fail
  go_ret2
  exact Fin HQ ⟨rfl, Hb2.out⟩
 ·rw [if_neg h] at he
  have hne : (c != 0) = true := by simp [h]
  rw [he, HB0.out (by rw [he]; exact h)] at HQ
  have HE := hid he
  clear he
  go_wp2_with fail
  go_ret2
  exact Fin HQ ⟨rfl, Hb2.out⟩
end Go.Proofs.Lx
