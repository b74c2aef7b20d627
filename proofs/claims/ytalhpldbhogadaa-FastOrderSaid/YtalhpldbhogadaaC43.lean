/- Parts of the proof: Sx. Contracts of the reference's Run, Rounds, Solve, Round (layer 15), and of naive.Rounds. -/
import Derived.Test.YtalhpldbhogadaaC36
import Derived.Test.YtalhpldbhogadaaC25
import Derived.Test.YtalhpldbhogadaaC31
import Derived.Test.YtalhpldbhogadaaC30
namespace Go.Proofs.Lx
open Go Go.RowKit
set_option linter.unusedSimpArgs false
set_option linter.unusedVariables false

/-- What a run answers. -/
def RunPost (w : World) (T : Th) (l : List Int) (r : Value) (w' : World) : Prop :=
  ∃ (k : Nat) (v : Value), r = .tuple #[v, .int .i64 k] ∧ w'.ownsRow w.heap.size 33 1 v T.foes.length (marksV (itM (stepM T l) k (startM T))) ∧ stepM T l (itM (stepM T l) k (startM T)) = itM (stepM T l) k (startM T) ∧ (∀ j, j < k → itM (stepM T l) (j + 1) (startM T) ≠ itM (stepM T l) j (startM T)) ∧ Below w.heap.size w w'

set_option maxRecDepth 100000 in
set_option maxHeartbeats 6400000 in
theorem run15_any (w : World) (V vl : Value) (T : Th) (l : List Int) (hT : RdTh w V T) (hwf : WfTh T) (hl : RdI w vl l) :
    Calls Try.prog 67 #[V, vl] w (Ret (RunPost w T l)) := by
  have Hwf := hid hwf
  have HT := hid hT
  obtain ⟨vF, vR, vB, rfl, hF, hR, hB⟩ := hT
  have hl0 := hwf.l0; have hl1 := hwf.l1; have hfl := hwf.fl
  have hbel := ext_alloc w (.cells #[.int .i64 T.lits, vF, vR, vB] 25)
  have hln : T.lits.toNat = T.foes.length := by omega
  have hmM := mkM T.lits hl0 (by omega)
  rw [hln] at hmM
  have Hnew := hid (newWorld15_any _ _ vl T l (HT.out.ext hbel) hwf (hl.ext (scR_mono _) hbel))
  have hft : T.foes.length ≤ 4096 := by omega
  clear hF hR hB
  unfold RunPost
  refine post_gen fun Q HQ => ?_
  go_enter Try.func67, Try.ntmps67
  go_wp2_with fail
  refine Hnew.out.mono ?_
  rintro e w2 ⟨_, rfl, b, rfl, hnr, hb2'⟩
  obtain ⟨b0, b1, b2, b3⟩ := box4 hb2'
  have hb2 := ext_trans hbel hb2'
  have hb3 := ext_trans hb2 (ext_alloc w2 (.cells (madeCells #[.int .u8 0] T.foes.length) 33))
  have Hnr := hid (hnr.ext (ext_alloc w2 (.cells (madeCells #[.int .u8 0] T.foes.length) 33)))
  have hs2 := hb2.size
  have Hown0 : Hid ((w2.alloc (.cells (madeCells #[.int .u8 0] T.foes.length) 33)).ownsRow w.heap.size 33 1 (.slice (some ⟨w2.heap.size, 0, none⟩) T.foes.length T.foes.length) T.foes.length (marksV (startM T))) := by
    have h1 := made_arr (fun x : Nat => Value.int .u8 (x : Int)) 0 33 w2 T.foes.length
    have h2 := arr_own (base := w.heap.size) h1 hs2 (by simp [maxLen]; omega)
    rw [List.length_replicate] at h2
    exact h2
  clear hb2' Hnew hnr
  go_wp2_with fail
  go_loopw [7, 8] (fun v7 v8 wr => ∃ k : Nat, v8 = .int .i64 k ∧ wr.ownsRow w.heap.size 33 1 v7 T.foes.length (marksV (itM (stepM T l) k (startM T))) ∧ NR wr b T l (rulesRows T.rules T.foes.length T.rules.length) ∧ Hid (∀ j, j < k → itM (stepM T l) (j + 1) (startM T) ≠ itM (stepM T l) j (startM T)) ∧ k ≤ (itM (stepM T l) k (startM T)).sum ∧ Hid (∀ x ∈ itM (stepM T l) k (startM T), x < 256) ∧ (itM (stepM T l) k (startM T)).length = T.foes.length ∧ Below w.heap.size w wr) (fun _ v8 _ => 255 * T.foes.length + 1 - (intOf v8).toNat)
  case atStart => exact ⟨0, rfl, Hown0.out, Hnr.out, fun j h => absurd h (by omega), Nat.zero_le _, by intro x hx; simp [itM, startM] at hx; omega, by simp [itM, startM], hb3⟩
  case round =>
    clear Hown0 Hnr hb3 b0 b1 b2 b3
    obtain ⟨k, rfl, hown, hnr, hno, hks, h8, hlen, hbl⟩ := hrel
    have hkb : k ≤ 255 * T.foes.length := by have := sum_bound _ h8.out; rw [hlen] at this; omega
    generalize hM : itM (stepM T l) k (startM T) = M at *
    have HM := hid hM
    clear hM
    rw [← hlen] at hown
    have hrm := own_marks hown (by omega)
    have Hrd := hid (wround15_any wr b T l _ M u7 hnr hrm (nval Hwf.out l M hlen h8.out) (by omega))
    have Hgr := hid (roundM_grows T (factsB T.foes.length l) (rulesRows T.rules T.foes.length T.rules.length) M)
    have H8 := hid (roundM_lt T (factsB T.foes.length l) (rulesRows T.rules T.foes.length T.rules.length) M h8.out)
    obtain ⟨f, Hf⟩ : ∃ f, Hid (roundM T (factsB T.foes.length l) (rulesRows T.rules T.foes.length T.rules.length) M = f) := ⟨_, rfl⟩
    rw [Hf.out] at Hrd Hgr H8
    have hfl2 : f.length = M.length := by rw [← Hf.out]; exact roundM_length _ _ _ _
    have Hown := hid hown
    have Hnr := hid hnr
    clear hnr hrm hown
    go_wp2_with fail
    refine Hrd.out.mono ?_
    rintro e w5 ⟨v, rfl, hv, hb5⟩
    have hown5 := own_ext Hown.out hb5
    rw [← hfl2] at hv
    have heq := hid (sameM_any w5 u7 v M f (own_marks hown5 (by omega)) (own_marks hv (by omega)))
    have Hv := hid hv
    clear hv Hrd
    go_wp2_with fail
    refine heq.out.mono ?_
    rintro e w6 ⟨_, rfl, rfl, hb6⟩
    have hb56 := ext_trans hb5 hb6
    by_cases he : M = f
    · have hd : decide (M = f) = true := decide_eq_true he
      rw [hd]
      have ho6 := own_ext hown5 hb6
      have Ho6 := hid ho6
      clear ho6 hown5
      go_wp2_with fail
      go_ret2
      refine Fin HQ ⟨k, u7, rfl, ?_, ?_, hno.out, ext_trans hbl hb56⟩
      · have h1 := Ho6.out
        rw [hlen] at h1
        rw [HM.out]; exact h1
      · rw [HM.out]
        show roundM _ _ _ M = M
        rw [Hf.out]; exact he.symm
    · have hd : decide (M = f) = false := decide_eq_false he
      rw [hd]
      have Hgr2 : Hid (M.sum < f.sum) := by
        have h1 := Hgr.out
        have : M.sum ≠ f.sum := fun e => he (h1.2 e)
        exact hid (by omega)
      have Hv6 := hid (own_lower (own_ext Hv.out hb6) hbl.size)
      clear hown5
      go_wp2_with fail
      go_roundw
      case rel =>
        have hit : itM (stepM T l) (k + 1) (startM T) = f := by
          show stepM T l (itM (stepM T l) k (startM T)) = f
          rw [HM.out]; exact Hf.out
        have h0 := Hgr2.out
        refine ⟨k + 1, by go_num, ?_, Hnr.out.ext hb56, fun j hj => ?_, ?_, ?_, ?_, ext_trans hbl hb56⟩
        · rw [hit, ← hlen, ← hfl2]; exact Hv6.out
        · by_cases e : j = k
          · subst e; rw [hit, HM.out]; exact fun h => he h.symm
          · exact hno.out j (by omega)
        · rw [hit]; omega
        · rw [hit]; exact H8.out
        · rw [hit, hfl2]; exact hlen
      case measure => simp [intOf]; omega

/-- k rounds bring something, the next none. -/
def FixAt (T : Th) (l : List Int) (k : Nat) : Prop := stepM T l (itM (stepM T l) k (startM T)) = itM (stepM T l) k (startM T) ∧ ∀ j, j < k → itM (stepM T l) (j + 1) (startM T) ≠ itM (stepM T l) j (startM T)
theorem FixAt.one {T : Th} {l : List Int} {k j : Nat} (h : FixAt T l k) (h' : FixAt T l j) : k = j := by
  rcases Nat.lt_trichotomy k j with hlt | rfl | hlt
  · exact absurd h.1 (h'.2 k hlt)
  · rfl
  · exact absurd h'.1 (h.2 j hlt)
/-- What Rounds answers. -/
def RoundsPost (w : World) (T : Th) (l : List Int) (r : Value) (w' : World) : Prop :=
  ∃ k : Nat, r = .tuple #[.int .i64 k, .int .i64 (givenErr T l)] ∧ (givenErr T l = 0 → FixAt T l k) ∧ (givenErr T l ≠ 0 → k = 0) ∧ Below w.heap.size w w'
def SolvePost (w : World) (T : Th) (l : List Int) (r : Value) (w' : World) : Prop :=
  ∃ v, r = .tuple #[v, .int .i64 (givenErr T l)] ∧ (givenErr T l = 0 → w'.ownsRow w.heap.size 33 1 v (solveM T l).length (marksV (solveM T l))) ∧ (givenErr T l ≠ 0 → v = .slice none 0 0) ∧ Below w.heap.size w w'
def RoundPost (w : World) (T : Th) (l : List Int) (M : List Nat) (r : Value) (w' : World) : Prop :=
  ∃ v, r = .tuple #[v, .int .i64 (markedErr T l M.length)] ∧ (markedErr T l M.length = 0 → w'.ownsRow w.heap.size 33 1 v M.length (marksV (stepM T l M))) ∧ (markedErr T l M.length ≠ 0 → v = .slice none 0 0) ∧ Below w.heap.size w w'

set_option maxHeartbeats 800000 in
theorem solve15_any (w : World) (V vl : Value) (T : Th) (l : List Int) (hT : RdTh w V T) (hl : RdI w vl l) :
    Calls Try.prog 33 #[V, vl] w (Ret (SolvePost w T l)) := by
  unfold SolvePost
  have HT := hid hT
  obtain ⟨vF, vR, vB, rfl, hF, hR, hB⟩ := hT
  have hbel := ext_alloc w (.cells #[.int .i64 T.lits, vF, vR, vB] 25)
  have hch := given15_any (w.alloc (.cells #[.int .i64 T.lits, vF, vR, vB] 25)) _ vl T l (HT.out.ext hbel) (hl.ext (scR_mono _) hbel)
  have Hok := hid (@givenErr_ok T l)
  clear hF hR hB
  generalize givenErr T l = c at *
  refine post_gen fun Q HQ => ?_
  go_enter Try.func33, Try.ntmps33
  go_wp2_with fail
  refine hch.mono ?_
  rintro e w2 ⟨_, rfl, rfl, hb2'⟩
  obtain ⟨b0, b1, b2, b3⟩ := box4 hb2'
  have hb2 := ext_trans hbel hb2'
  clear hb2'
  by_cases h : c = 0
  · subst h
    have hw := Hok.out.1 rfl
    have Hrun := hid (run15_any w2 _ vl T l (HT.out.ext hb2) hw.1 (hl.ext (scR_mono _) hb2))
    unfold RunPost at Hrun
    clear hw
    go_wp2_with fail
    refine Hrun.out.mono ?_
    rintro e w3 ⟨_, rfl, k, v, rfl, h1, h2, h3, hb3⟩
    go_wp2_with fail
    go_ret2
    refine Fin HQ ⟨v, rfl, fun _ => ?_, fun h => absurd rfl h, ext_trans hb2 hb3⟩
    rw [solve_run h2 h3] at h1
    rw [solve_length]
    exact own_lower h1 hb2.size
  · have hne : (c != 0) = true := by simp [h]
    go_wp2_with fail
    go_ret2
    exact Fin HQ ⟨_, rfl, fun e => absurd e h, fun _ => rfl, hb2⟩

end Go.Proofs.Lx
