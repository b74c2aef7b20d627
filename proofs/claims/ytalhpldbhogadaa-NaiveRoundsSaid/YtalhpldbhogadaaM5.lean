/- Parts of the proof: Kb, Kd, Sm, Pn, Po, Ki. NaiveCoherent: the walk. -/
import Derived.Test.YtalhpldbhogadaaM4
import Derived.Deep.DeepCutAuto
namespace Go.Proofs.Lx
open Go Go.RowKit
set_option linter.unusedSimpArgs false
set_option linter.unusedVariables false

/-- Solve's answer, to the law: an error and nothing, or the marks. -/
theorem solved (w : World) (V vl : Value) (T : Th) (l : List Int) (hT : RdTh w V T) (hl : RdI w vl l) :
    Calls Try.prog 20 #[V, vl] w (Ret fun r w' => (∃ c : Int, c ≠ 0 ∧ r = .tuple #[.slice none 0 0, .int .i64 c] ∧ Below w.heap.size w w') ∨
      (∃ A cap, r = .tuple #[.slice A (solveM T l).length cap, .int .i64 0] ∧ WfTh T ∧ risB l T.lits = true ∧ RdMk w' (.slice A (solveM T l).length cap) (solveM T l) ∧ w'.ownsRow w.heap.size 33 1 (.slice A (solveM T l).length cap) (solveM T l).length (marksV (solveM T l)) ∧ Below w.heap.size w w')) := by
  refine (solve_any w V vl T l hT hl).mono fun e w' h => h.mono ?_
  rintro _ w' ⟨v, rfl, h1, h2, hb⟩
  by_cases hc : givenErr T l = 0
  · right
    have ho := h1 hc
    obtain ⟨hwf, hr⟩ := givenErr_ok.1 hc
    have hlen : (solveM T l).length ≤ 140737488355328 := by rw [solve_length]; have := hwf.fl; have := hwf.l1; omega
    obtain ⟨A, cap, rfl, h3⟩ := own_marks ho hlen
    exact ⟨A, cap, by rw [hc], hwf, hr, ⟨A, cap, rfl, h3⟩, ho, hb⟩
  · left
    rw [h2 hc]
    exact ⟨_, hc, rfl, hb⟩

theorem and_nat (x m : Nat) (hx : x < 256) (hm : m < 256) : bits .and .u8 (x : Int) (m : Int) = ((x &&& m : Nat) : Int) := (bits_nat .u8 8 (by decide) wraps_u8 x m hx hm).1

set_option maxHeartbeats 1600000 in
theorem coherent_any (w : World) (V vl : Value) (T : Th) (l : List Int) (hT : RdTh w V T) (hl : RdI w vl l) :
    Calls Try.prog 3 #[V, vl] w (Ret fun v w' => v = .bool true ∧ Below w.heap.size w w') := by
  have HT := hid hT
  obtain ⟨vF, vR, vB, rfl, hF, hR, hB⟩ := hT
  have hbel := ext_alloc w (.cells #[.int .i64 T.lits, vF, vR, vB] 25)
  have Hal := hid (alive_any (w.alloc (.cells #[.int .i64 T.lits, vF, vR, vB] 25)))
  clear hF hR hB
  refine post_gen fun Q HQ => ?_
  go_enter Try.func3, Try.ntmps3
  go_wp2_with fail
  refine Hal.out.mono ?_
  rintro e w2 ⟨_, rfl, rfl, hb2'⟩
  obtain ⟨b0, b1, b2, b3⟩ := box4 hb2'
  have hb2 := ext_trans hbel hb2'
  have Hs := hid (solved w2 _ vl T l (HT.out.ext hb2) (hl.ext (scR_mono _) hb2))
  clear hb2'
  go_wp2_with fail
  refine Hs.out.mono ?_
  rintro e w3 ⟨_, rfl, hs⟩
  rcases hs with ⟨c, hc, rfl, hb3⟩ | ⟨A, cap, rfl, hwf, hr, hrd, _, hb3⟩
  · have hne : (c != 0) = true := by simp [hc]
    go_wp2
    go_ret
    exact Fin HQ ⟨rfl, ext_trans hb2 hb3⟩
  · have Hsix := hid (solve_six T l)
    have hlen : Hid ((solveM T l).length ≤ 4096) := by have := solve_length T l; have := hwf.fl; have := hwf.l1; exact hid (by omega)
    have Hbl := hid (ext_trans hb2 hb3)
    obtain ⟨A', c', e, hc1, hc2, hrc⟩ := hrd
    cases e
    clear hwf hr Hs hb2 hb3
    obtain ⟨n, Hn⟩ : ∃ n, Hid ((solveM T l).length = n) := ⟨_, hid rfl⟩
    rw [Hn.out]
    have hn := hlen.out
    rw [Hn.out] at hn
    go_wp2
    go_loopw [7] (fun v7 wr => ∃ k : Nat, k ≤ n ∧ v7 = .int .i64 k ∧ Below w3.heap.size w3 wr) (fun v7 _ => n - (intOf v7).toNat)
    case atStart => exact ⟨0, Nat.zero_le _, rfl, Below.refl _ _⟩
    case round =>
      obtain ⟨k, hk, rfl, hbl⟩ := hrel
      by_cases hlt : k < n
      · have Hm : Hid (∀ x m : Nat, x < 256 → m < 256 → bits .and .u8 (x : Int) (m : Int) = ((x &&& m : Nat) : Int)) := hid and_nat
        have hlt2 : k < (solveM T l).length := by rw [Hn.out]; exact hlt
        obtain ⟨ad, rfl, hcell⟩ := (hrc.ext (scR_mono _) hbl).at1 hlt2
        rcases Hsix.out k hlt2 with h | h | h | h | h | h
        case' inl => have a3 := Hm.out 0 3 (by decide) (by decide); have a12 := Hm.out 0 12 (by decide) (by decide); have a1 := Hm.out 0 1 (by decide) (by decide); have a4 := Hm.out 0 4 (by decide) (by decide); have a8 := Hm.out 0 8 (by decide) (by decide); have a2 := Hm.out 0 2 (by decide) (by decide)
        case' inr.inl => have a3 := Hm.out 2 3 (by decide) (by decide); have a12 := Hm.out 2 12 (by decide) (by decide); have a1 := Hm.out 2 1 (by decide) (by decide); have a4 := Hm.out 2 4 (by decide) (by decide); have a8 := Hm.out 2 8 (by decide) (by decide); have a2 := Hm.out 2 2 (by decide) (by decide)
        case' inr.inr.inl => have a3 := Hm.out 4 3 (by decide) (by decide); have a12 := Hm.out 4 12 (by decide) (by decide); have a1 := Hm.out 4 1 (by decide) (by decide); have a4 := Hm.out 4 4 (by decide) (by decide); have a8 := Hm.out 4 8 (by decide) (by decide); have a2 := Hm.out 4 2 (by decide) (by decide)
        case' inr.inr.inr.inl => have a3 := Hm.out 5 3 (by decide) (by decide); have a12 := Hm.out 5 12 (by decide) (by decide); have a1 := Hm.out 5 1 (by decide) (by decide); have a4 := Hm.out 5 4 (by decide) (by decide); have a8 := Hm.out 5 8 (by decide) (by decide); have a2 := Hm.out 5 2 (by decide) (by decide)
        case' inr.inr.inr.inr.inl => have a3 := Hm.out 6 3 (by decide) (by decide); have a12 := Hm.out 6 12 (by decide) (by decide); have a1 := Hm.out 6 1 (by decide) (by decide); have a4 := Hm.out 6 4 (by decide) (by decide); have a8 := Hm.out 6 8 (by decide) (by decide); have a2 := Hm.out 6 2 (by decide) (by decide)
        case' inr.inr.inr.inr.inr => have a3 := Hm.out 10 3 (by decide) (by decide); have a12 := Hm.out 10 12 (by decide) (by decide); have a1 := Hm.out 10 1 (by decide) (by decide); have a4 := Hm.out 10 4 (by decide) (by decide); have a8 := Hm.out 10 8 (by decide) (by decide); have a2 := Hm.out 10 2 (by decide) (by decide)
        all_goals
          rw [h] at hcell
          clear h
          simp at a3 a12 a1 a4 a8 a2
          go_wp2
          go_roundw
          case rel => exact ⟨k + 1, by omega, by go_num, hbl⟩
          case measure => simp [intOf]; omega
      · go_wp2
        go_ret
        exact Fin HQ ⟨rfl, ext_trans Hbl.out hbl⟩
end Go.Proofs.Lx

namespace Go.Proofs.Lx
open Go Go.RowKit
set_option linter.unusedSimpArgs false
set_option linter.unusedVariables false

/-- Marks in memory of the call's own. -/
def Answer (w w' : World) (r : Value) : Prop := ∃ (A : Option Addr) (cap : Nat) (X : List Nat) (c : Int), r = .tuple #[.slice A X.length cap, .int .i64 c] ∧ X.length ≤ 140737488355328 ∧ w'.ownsRow w.heap.size 33 1 (.slice A X.length cap) X.length (marksV X) ∧ RdMk w' (.slice A X.length cap) X ∧ Below w.heap.size w w'
theorem solve_answer (w : World) (V vl : Value) (T : Th) (l : List Int) (hT : RdTh w V T) (hl : RdI w vl l) :
    Calls Try.prog 20 #[V, vl] w (Ret fun r w' => Answer w w' r) := by
  refine (solve_any w V vl T l hT hl).mono fun e w' h => h.mono ?_
  rintro _ w' ⟨v, rfl, h1, h2, hb⟩
  by_cases hc : givenErr T l = 0
  · have ho := h1 hc
    obtain ⟨hwf, hr⟩ := givenErr_ok.1 hc
    have hlen : (solveM T l).length ≤ 140737488355328 := by rw [solve_length]; have := hwf.fl; have := hwf.l1; omega
    have hm := own_marks ho hlen
    obtain ⟨A, cap, rfl, h3⟩ := own_marks ho hlen
    exact ⟨A, cap, _, _, rfl, hlen, ho, hm, hb⟩
  · rw [h2 hc]
    exact ⟨none, 0, [], _, rfl, by simp, World.ownsRow_nil _ _ _ _, Rd.nil, hb⟩
theorem round_answer (w : World) (V vl vm : Value) (T : Th) (l : List Int) (M : List Nat) (hT : RdTh w V T) (hl : RdI w vl l) (hm : RdMk w vm M) (h8 : ∀ x ∈ M, x < 256) :
    Calls Try.prog 22 #[V, vl, vm] w (Ret fun r w' => Answer w w' r) := by
  refine (roundTop_any w V vl vm T l M hT hl hm h8).mono fun e w' h => h.mono ?_
  rintro _ w' ⟨v, rfl, h1, h2, hb⟩
  have hM : M.length ≤ 140737488355328 := by obtain ⟨_, _, _, _, h, _⟩ := hm; exact h
  have hsl : (stepM T l M).length = M.length := roundM_length _ _ _ _
  by_cases hc : markedErr T l M.length = 0
  · have ho := h1 hc
    rw [← hsl] at ho
    have hlen : (stepM T l M).length ≤ 140737488355328 := by rw [hsl]; exact hM
    have hm := own_marks ho hlen
    obtain ⟨A, cap, rfl, h3⟩ := own_marks ho hlen
    exact ⟨A, cap, _, _, rfl, hlen, ho, hm, hb⟩
  · rw [h2 hc]
    exact ⟨none, 0, [], _, rfl, by simp, World.ownsRow_nil _ _ _ _, Rd.nil, hb⟩
theorem own_set_below {w wr : World} {B e n g cap : Nat} {xs : List Value} (hb : Below B w wr) (h : wr.ownsRow B e 1 (.slice (some ⟨g, 0, none⟩) n cap) n xs) (i : Nat) (u : Value) : Below B w (wr.setCell ⟨g, i, none⟩ u) :=
  hb.setCell (h.lt g rfl).1 u

theorem sameM_self (w : World) (v1 v2 : Value) (X : List Nat) (h1 : RdMk w v1 X) (h2 : RdMk w v2 X) :
    Calls Try.prog 23 #[v1, v2] w (Ret fun v w' => v = .bool true ∧ Below w.heap.size w w') :=
  (sameM_any w v1 v2 X X h1 h2).mono fun e w' h => h.mono fun v w' ⟨hv, hb⟩ => ⟨by rw [hv, decide_eq_true rfl], hb⟩

set_option maxHeartbeats 3200000 in
theorem own_any (w : World) (V vl vm : Value) (T : Th) (l : List Int) (M : List Nat) (hT : RdTh w V T) (hl : RdI w vl l) (hm : RdMk w vm M) (h8 : ∀ x ∈ M, x < 256) :
    Calls Try.prog 7 #[V, vl, vm] w (Ret fun v w' => v = .bool true ∧ Below w.heap.size w w') := by
  have HT := hid hT
  have Hm := hid hm
  have Hl := hid hl
  have H8 := hid h8
  obtain ⟨vF, vR, vB, rfl, hF, hR, hB⟩ := hT
  have hbel := ext_alloc w (.cells #[.int .i64 T.lits, vF, vR, vB] 25)
  have Hal := hid (alive_any (w.alloc (.cells #[.int .i64 T.lits, vF, vR, vB] 25)))
  clear hF hR hB hm h8 hl
  refine post_gen fun Q HQ => ?_
  go_enter Try.func7, Try.ntmps7
  go_wp2_with fail
  refine Hal.out.mono ?_
  rintro e w2 ⟨_, rfl, rfl, hb2'⟩
  obtain ⟨b0, b1, b2, b3⟩ := box4 hb2'
  have hb2 := ext_trans hbel hb2'
  have Hs := hid (solve_answer w2 _ vl T l (HT.out.ext hb2) (Hl.out.ext (scR_mono _) hb2))
  clear hb2' Hal hbel
  go_wp2_with fail
  refine Hs.out.mono ?_
  rintro e w3 ⟨_, rfl, A, capA, X, c, rfl, hXl, _, hX, hb3⟩
  have b0 := cell_ext hb3 b0; have b1 := cell_ext hb3 b1; have b2 := cell_ext hb3 b2; have b3 := cell_ext hb3 b3
  have hb3' := ext_trans hb2 hb3
  have Hr := hid (round_answer w3 _ vl vm T l M (HT.out.ext hb3') (Hl.out.ext (scR_mono _) hb3') (Hm.out.ext (scR_mono _) hb3') H8.out)
  clear Hs
  go_wp2_with fail
  refine Hr.out.mono ?_
  rintro e w4 ⟨_, rfl, B, capB, Y, c2, rfl, hYl, _, hY, hb4⟩
  have b0 := cell_ext hb4 b0; have b1 := cell_ext hb4 b1; have b2 := cell_ext hb4 b2; have b3 := cell_ext hb4 b3
  have hb4' := ext_trans hb3' hb4
  have Hc := hid (copyM_any w4 _ X (hX.ext (scR_mono _) hb4))
  clear Hr
  go_wp2_with fail
  refine Hc.out.mono ?_
  rintro e w5 ⟨x, rfl, hx, hb5⟩
  have hX2 := own_marks hx hXl
  have Hc := hid (copyM_any w5 _ Y (hY.ext (scR_mono _) hb5))
  clear hx
  go_wp2_with fail
  refine Hc.out.mono ?_
  rintro e w6 ⟨y, rfl, hy, hb6⟩
  have hY2 := own_marks hy hYl
  have hb46 := ext_trans hb5 hb6
  have b0 := cell_ext hb46 b0; have b1 := cell_ext hb46 b1; have b2 := cell_ext hb46 b2; have b3 := cell_ext hb46 b3
  have hb6' := ext_trans hb4' hb46
  have Hs := hid (solve_answer w6 _ vl T l (HT.out.ext hb6') (Hl.out.ext (scR_mono _) hb6'))
  have HX1 := hid (hX.ext (scR_mono _) (ext_trans hb4 hb46))
  have HX2 := hid (hX2.ext (scR_mono _) hb6)
  have HY1 := hid (hY.ext (scR_mono _) hb46)
  have HY2 := hid hY2
  clear hy hX hX2 hY hY2 Hc
  go_wp2_with fail
  refine Hs.out.mono ?_
  rintro e w7 ⟨_, rfl, C, capC, Z, c3, rfl, hZl, hZ, _, hb7⟩
  have b0 := cell_ext hb7 b0; have b1 := cell_ext hb7 b1; have b2 := cell_ext hb7 b2; have b3 := cell_ext hb7 b3
  have hb7' := ext_trans hb6' hb7
  have Hr := hid (round_answer w7 _ vl vm T l M (HT.out.ext hb7') (Hl.out.ext (scR_mono _) hb7') (Hm.out.ext (scR_mono _) hb7') H8.out)
  clear Hs
  go_wp2_with fail
  refine Hr.out.mono ?_
  rintro e w8 ⟨_, rfl, D, capD, U, c4, rfl, hUl, hU, _, hb8⟩
  have hZ8 := hZ.kept (row := none) (grown_below hb8 _) (by cases (Value.slice C Z.length capC).ownBlock <;> simp)
  have hlt7 : ∀ g, (Value.slice C Z.length capC).ownBlock = some g → g < w7.heap.size := fun g hg => (hZ.lt g hg).2
  have Hlt7 := hid hlt7
  have hb68 := hid (ext_trans hb7 hb8)
  have HU := hid hU
  have HZ8 := hid hZ8
  generalize marksV Z = zs at *
  generalize marksV U = us at *
  generalize Z.length = nz at *
  generalize U.length = nu at *
  clear hlt7 hU hZ8 hZ Hr b0 b1 b2 b3
  go_wp2
  go_loopw [17] (fun v17 wr => ∃ k : Nat, k ≤ nz ∧ v17 = .int .i64 k ∧ (∃ zs', Hid (wr.ownsRow w6.heap.size 33 1 (.slice C nz capC) nz zs')) ∧ Hid (wr.ownsRow w7.heap.size 33 1 (.slice D nu capD) nu us) ∧ Below w6.heap.size w6 wr) (fun v17 _ => nz - (intOf v17).toNat)
  case atStart => exact ⟨0, Nat.zero_le _, rfl, ⟨_, HZ8⟩, HU, hb68.out⟩
  case round =>
    obtain ⟨k, hk, rfl, ⟨zs', hzs⟩, hus, hbl⟩ := hrel
    by_cases hlt : k < nz
    · obtain ⟨g, cap', e, hg, hcell⟩ := own_at hzs.out hlt (by have := hzs.out.1; omega)
      cases e
      have hfr := own_free hzs.out k
      have hgu : Hid ((Value.slice D nu capD).ownBlock ≠ some g) := hid fun e => by
        have h1 := (hus.out.lt g e).1
        have h2 := Hlt7.out g rfl
        omega
      go_wp2
      go_roundw
      case rel => exact ⟨k + 1, by omega, by go_num, ⟨_, hid (own_set hzs.out k _)⟩, hid (hus.out.kept (grown_set _ _ _ _) (.inr hgu.out)), own_set_below hbl hzs.out k _⟩
      case measure => simp [intOf]; omega
    · obtain ⟨wo, rfl⟩ : ∃ wo : World, wo = wr := ⟨_, rfl⟩
      clear hzs
      go_wp2
      go_loopw [18] (fun v18 w9 => ∃ m : Nat, m ≤ nu ∧ v18 = .int .i64 m ∧ (∃ us', Hid (w9.ownsRow w6.heap.size 33 1 (.slice D nu capD) nu us')) ∧ Below w6.heap.size w6 w9) (fun v18 _ => nu - (intOf v18).toNat)
      case atStart => exact ⟨0, Nat.zero_le _, rfl, ⟨_, hid (own_mono hus.out hb7.size)⟩, hbl⟩
      case round =>
        obtain ⟨m, hm, rfl, ⟨us', hus'⟩, hbl9⟩ := hrel
        by_cases hltm : m < nu
        · obtain ⟨g, cap', e, hg, hcell⟩ := own_at hus'.out hltm (by have := hus'.out.1; omega)
          cases e
          have hfr := own_free hus'.out m
          go_wp2
          go_roundw
          case rel => exact ⟨m + 1, by omega, by go_num, ⟨_, hid (own_set hus'.out m _)⟩, own_set_below hbl9 hus'.out m _⟩
          case measure => simp [intOf]; omega
        · have Hs1 := hid (sameM_self wr _ _ X (HX1.out.ext (scR_mono _) hbl9) (HX2.out.ext (scR_mono _) hbl9))
          go_wp2_with fail
          refine Hs1.out.mono ?_
          rintro e w10 ⟨_, rfl, rfl, hb10⟩
          have hb69 := ext_trans hbl9 hb10
          have Hs2 := hid (sameM_self w10 _ _ Y (HY1.out.ext (scR_mono _) hb69) (HY2.out.ext (scR_mono _) hb69))
          clear Hs1
          go_wp2_with fail
          refine Hs2.out.mono ?_
          rintro e w11 ⟨_, rfl, rfl, hb11⟩
          go_wp2
          go_ret
          exact Fin HQ ⟨rfl, ext_trans hb6' (ext_trans hb69 hb11)⟩
end Go.Proofs.Lx

namespace Go.Proofs.Lx
open Go Go.RowKit
set_option linter.unusedSimpArgs false
set_option linter.unusedVariables false

/-- What a run answers. -/
def RunPost (w : World) (T : Th) (l : List Int) (r : Value) (w' : World) : Prop :=
  ∃ (k : Nat) (v : Value), r = .tuple #[v, .int .i64 k] ∧ w'.ownsRow w.heap.size 33 1 v T.foes.length (marksV (itM (stepM T l) k (startM T))) ∧ stepM T l (itM (stepM T l) k (startM T)) = itM (stepM T l) k (startM T) ∧ (∀ j, j < k → itM (stepM T l) (j + 1) (startM T) ≠ itM (stepM T l) j (startM T)) ∧ Below w.heap.size w w'

set_option maxRecDepth 100000 in
set_option maxHeartbeats 6400000 in
theorem run15_any (w : World) (V vl : Value) (T : Th) (l : List Int) (hT : RdTh w V T) (hwf : WfTh T) (hl : RdI w vl l) :
    Calls Try.prog 67 #[V, vl] w (Ret (RunPost w T l)) := by
  have Hwf := hid hwf
  have HT := hid hT
  obtain ⟨vF, vR, vB, rfl, hF, hR, hB⟩ := hT
  have hl0 := hwf.l0; have hl1 := hwf.l1; have hfl := hwf.fl
  have hbel := ext_alloc w (.cells #[.int .i64 T.lits, vF, vR, vB] 25)
  have hln : T.lits.toNat = T.foes.length := by omega
  have hmM := mkM T.lits hl0 (by omega)
  rw [hln] at hmM
  have Hnew := hid (newWorld15_any _ _ vl T l (HT.out.ext hbel) hwf (hl.ext (scR_mono _) hbel))
  have hft : T.foes.length ≤ 4096 := by omega
  clear hF hR hB
  unfold RunPost
  refine post_gen fun Q HQ => ?_
  go_enter Try.func67, Try.ntmps67
  go_wp2_with fail
  refine Hnew.out.mono ?_
  rintro e w2 ⟨_, rfl, b, rfl, hnr, hb2'⟩
  obtain ⟨b0, b1, b2, b3⟩ := box4 hb2'
  have hb2 := ext_trans hbel hb2'
  have hb3 := ext_trans hb2 (ext_alloc w2 (.cells (madeCells #[.int .u8 0] T.foes.length) 33))
  have Hnr := hid (hnr.ext (ext_alloc w2 (.cells (madeCells #[.int .u8 0] T.foes.length) 33)))
  have hs2 := hb2.size
  have Hown0 : Hid ((w2.alloc (.cells (madeCells #[.int .u8 0] T.foes.length) 33)).ownsRow w.heap.size 33 1 (.slice (some ⟨w2.heap.size, 0, none⟩) T.foes.length T.foes.length) T.foes.length (marksV (startM T))) := by
    have h1 := made_arr (fun x : Nat => Value.int .u8 (x : Int)) 0 33 w2 T.foes.length
    have h2 := arr_own (base := w.heap.size) h1 hs2 (by simp [maxLen]; omega)
    rw [List.length_replicate] at h2
    exact h2
  clear hb2' Hnew hnr
  go_wp2_with fail
  go_loopw [7, 8] (fun v7 v8 wr => ∃ k : Nat, v8 = .int .i64 k ∧ wr.ownsRow w.heap.size 33 1 v7 T.foes.length (marksV (itM (stepM T l) k (startM T))) ∧ NR wr b T l (rulesRows T.rules T.foes.length T.rules.length) ∧ Hid (∀ j, j < k → itM (stepM T l) (j + 1) (startM T) ≠ itM (stepM T l) j (startM T)) ∧ k ≤ (itM (stepM T l) k (startM T)).sum ∧ Hid (∀ x ∈ itM (stepM T l) k (startM T), x < 256) ∧ (itM (stepM T l) k (startM T)).length = T.foes.length ∧ Below w.heap.size w wr) (fun _ v8 _ => 255 * T.foes.length + 1 - (intOf v8).toNat)
  case atStart => exact ⟨0, rfl, Hown0.out, Hnr.out, fun j h => absurd h (by omega), Nat.zero_le _, by intro x hx; simp [itM, startM] at hx; omega, by simp [itM, startM], hb3⟩
  case round =>
    clear Hown0 Hnr hb3 b0 b1 b2 b3
    obtain ⟨k, rfl, hown, hnr, hno, hks, h8, hlen, hbl⟩ := hrel
    have hkb : k ≤ 255 * T.foes.length := by have := sum_bound _ h8.out; rw [hlen] at this; omega
    generalize hM : itM (stepM T l) k (startM T) = M at *
    have HM := hid hM
    clear hM
    rw [← hlen] at hown
    have hrm := own_marks hown (by omega)
    have Hrd := hid (wround15_any wr b T l _ M u7 hnr hrm (nval Hwf.out l M hlen h8.out) (by omega))
    have Hgr := hid (roundM_grows T (factsB T.foes.length l) (rulesRows T.rules T.foes.length T.rules.length) M)
    have H8 := hid (roundM_lt T (factsB T.foes.length l) (rulesRows T.rules T.foes.length T.rules.length) M h8.out)
    obtain ⟨f, Hf⟩ : ∃ f, Hid (roundM T (factsB T.foes.length l) (rulesRows T.rules T.foes.length T.rules.length) M = f) := ⟨_, rfl⟩
    rw [Hf.out] at Hrd Hgr H8
    have hfl2 : f.length = M.length := by rw [← Hf.out]; exact roundM_length _ _ _ _
    have Hown := hid hown
    have Hnr := hid hnr
    clear hnr hrm hown
    go_wp2_with fail
    refine Hrd.out.mono ?_
    rintro e w5 ⟨v, rfl, hv, hb5⟩
    have hown5 := own_ext Hown.out hb5
    rw [← hfl2] at hv
    have heq := hid (sameM_any w5 u7 v M f (own_marks hown5 (by omega)) (own_marks hv (by omega)))
    have Hv := hid hv
    clear hv Hrd
    go_wp2_with fail
    refine heq.out.mono ?_
    rintro e w6 ⟨_, rfl, rfl, hb6⟩
    have hb56 := ext_trans hb5 hb6
    by_cases he : M = f
    · have hd : decide (M = f) = true := decide_eq_true he
      rw [hd]
      have ho6 := own_ext hown5 hb6
      have Ho6 := hid ho6
      clear ho6 hown5
      go_wp2_with fail
      go_ret2
      refine Fin HQ ⟨k, u7, rfl, ?_, ?_, hno.out, ext_trans hbl hb56⟩
      · have h1 := Ho6.out
        rw [hlen] at h1
        rw [HM.out]; exact h1
      · rw [HM.out]
        show roundM _ _ _ M = M
        rw [Hf.out]; exact he.symm
    · have hd : decide (M = f) = false := decide_eq_false he
      rw [hd]
      have Hgr2 : Hid (M.sum < f.sum) := by
        have h1 := Hgr.out
        have : M.sum ≠ f.sum := fun e => he (h1.2 e)
        exact hid (by omega)
      have Hv6 := hid (own_lower (own_ext Hv.out hb6) hbl.size)
      clear hown5
      go_wp2_with fail
      go_roundw
      case rel =>
        have hit : itM (stepM T l) (k + 1) (startM T) = f := by
          show stepM T l (itM (stepM T l) k (startM T)) = f
          rw [HM.out]; exact Hf.out
        have h0 := Hgr2.out
        refine ⟨k + 1, by go_num, ?_, Hnr.out.ext hb56, fun j hj => ?_, ?_, ?_, ?_, ext_trans hbl hb56⟩
        · rw [hit, ← hlen, ← hfl2]; exact Hv6.out
        · by_cases e : j = k
          · subst e; rw [hit, HM.out]; exact fun h => he h.symm
          · exact hno.out j (by omega)
        · rw [hit]; omega
        · rw [hit]; exact H8.out
        · rw [hit, hfl2]; exact hlen
      case measure => simp [intOf]; omega

/-- k rounds bring something, the next none. -/
def FixAt (T : Th) (l : List Int) (k : Nat) : Prop := stepM T l (itM (stepM T l) k (startM T)) = itM (stepM T l) k (startM T) ∧ ∀ j, j < k → itM (stepM T l) (j + 1) (startM T) ≠ itM (stepM T l) j (startM T)
theorem FixAt.one {T : Th} {l : List Int} {k j : Nat} (h : FixAt T l k) (h' : FixAt T l j) : k = j := by
  rcases Nat.lt_trichotomy k j with hlt | rfl | hlt
  · exact absurd h.1 (h'.2 k hlt)
  · rfl
  · exact absurd h'.1 (h.2 j hlt)
/-- What Rounds answers. -/
def RoundsPost (w : World) (T : Th) (l : List Int) (r : Value) (w' : World) : Prop :=
  ∃ k : Nat, r = .tuple #[.int .i64 k, .int .i64 (givenErr T l)] ∧ (givenErr T l = 0 → FixAt T l k) ∧ (givenErr T l ≠ 0 → k = 0) ∧ Below w.heap.size w w'
def SolvePost (w : World) (T : Th) (l : List Int) (r : Value) (w' : World) : Prop :=
  ∃ v, r = .tuple #[v, .int .i64 (givenErr T l)] ∧ (givenErr T l = 0 → w'.ownsRow w.heap.size 33 1 v (solveM T l).length (marksV (solveM T l))) ∧ (givenErr T l ≠ 0 → v = .slice none 0 0) ∧ Below w.heap.size w w'
def RoundPost (w : World) (T : Th) (l : List Int) (M : List Nat) (r : Value) (w' : World) : Prop :=
  ∃ v, r = .tuple #[v, .int .i64 (markedErr T l M.length)] ∧ (markedErr T l M.length = 0 → w'.ownsRow w.heap.size 33 1 v M.length (marksV (stepM T l M))) ∧ (markedErr T l M.length ≠ 0 → v = .slice none 0 0) ∧ Below w.heap.size w w'

set_option maxHeartbeats 800000 in
theorem nrounds_any (w : World) (V vl : Value) (T : Th) (l : List Int) (hT : RdTh w V T) (hl : RdI w vl l) :
    Calls Try.prog 31 #[V, vl] w (Ret (RoundsPost w T l)) := by
  unfold RoundsPost
  have HT := hid hT
  obtain ⟨vF, vR, vB, rfl, hF, hR, hB⟩ := hT
  have hbel := ext_alloc w (.cells #[.int .i64 T.lits, vF, vR, vB] 25)
  have hch := given_any (w.alloc (.cells #[.int .i64 T.lits, vF, vR, vB] 25)) _ vl T l (HT.out.ext hbel) (hl.ext (scR_mono _) hbel)
  have Hok := hid (@givenErr_ok T l)
  clear hF hR hB
  generalize givenErr T l = c at *
  refine post_gen fun Q HQ => ?_
  go_enter Try.func31, Try.ntmps31
  go_wp2_with fail
  refine hch.mono ?_
  rintro e w2 ⟨_, rfl, rfl, hb2'⟩
  obtain ⟨b0, b1, b2, b3⟩ := box4 hb2'
  have hb2 := ext_trans hbel hb2'
  clear hb2'
  by_cases h : c = 0
  · subst h
    have hw := Hok.out.1 rfl
    have Hrun := hid (run_any w2 _ vl T l (HT.out.ext hb2) hw.1 (hl.ext (scR_mono _) hb2) hw.2)
    clear hw
    go_wp2_with fail
    refine Hrun.out.mono ?_
    rintro e w3 ⟨_, rfl, k, v, rfl, h1, h2, h3, hb3⟩
    go_wp2_with fail
    go_ret2
    exact Fin HQ ⟨k, rfl, fun _ => ⟨h2, h3⟩, fun h => absurd rfl h, ext_trans hb2 hb3⟩
  · have hne : (c != 0) = true := by simp [h]
    go_wp2_with fail
    go_ret2
    exact Fin HQ ⟨0, rfl, fun e => absurd e h, fun _ => rfl, hb2⟩

set_option maxHeartbeats 800000 in
theorem rounds15_any (w : World) (V vl : Value) (T : Th) (l : List Int) (hT : RdTh w V T) (hl : RdI w vl l) :
    Calls Try.prog 32 #[V, vl] w (Ret (RoundsPost w T l)) := by
  unfold RoundsPost
  have HT := hid hT
  obtain ⟨vF, vR, vB, rfl, hF, hR, hB⟩ := hT
  have hbel := ext_alloc w (.cells #[.int .i64 T.lits, vF, vR, vB] 25)
  have hch := given15_any (w.alloc (.cells #[.int .i64 T.lits, vF, vR, vB] 25)) _ vl T l (HT.out.ext hbel) (hl.ext (scR_mono _) hbel)
  have Hok := hid (@givenErr_ok T l)
  clear hF hR hB
  generalize givenErr T l = c at *
  refine post_gen fun Q HQ => ?_
  go_enter Try.func32, Try.ntmps32
  go_wp2_with fail
  refine hch.mono ?_
  rintro e w2 ⟨_, rfl, rfl, hb2'⟩
  obtain ⟨b0, b1, b2, b3⟩ := box4 hb2'
  have hb2 := ext_trans hbel hb2'
  clear hb2'
  by_cases h : c = 0
  · subst h
    have hw := Hok.out.1 rfl
    have Hrun := hid (run15_any w2 _ vl T l (HT.out.ext hb2) hw.1 (hl.ext (scR_mono _) hb2))
    unfold RunPost at Hrun
    clear hw
    go_wp2_with fail
    refine Hrun.out.mono ?_
    rintro e w3 ⟨_, rfl, k, v, rfl, h1, h2, h3, hb3⟩
    go_wp2_with fail
    go_ret2
    exact Fin HQ ⟨k, rfl, fun _ => ⟨h2, h3⟩, fun h => absurd rfl h, ext_trans hb2 hb3⟩
  · have hne : (c != 0) = true := by simp [h]
    go_wp2_with fail
    go_ret2
    exact Fin HQ ⟨0, rfl, fun e => absurd e h, fun _ => rfl, hb2⟩

set_option maxHeartbeats 800000 in
theorem solve15_any (w : World) (V vl : Value) (T : Th) (l : List Int) (hT : RdTh w V T) (hl : RdI w vl l) :
    Calls Try.prog 33 #[V, vl] w (Ret (SolvePost w T l)) := by
  unfold SolvePost
  have HT := hid hT
  obtain ⟨vF, vR, vB, rfl, hF, hR, hB⟩ := hT
  have hbel := ext_alloc w (.cells #[.int .i64 T.lits, vF, vR, vB] 25)
  have hch := given15_any (w.alloc (.cells #[.int .i64 T.lits, vF, vR, vB] 25)) _ vl T l (HT.out.ext hbel) (hl.ext (scR_mono _) hbel)
  have Hok := hid (@givenErr_ok T l)
  clear hF hR hB
  generalize givenErr T l = c at *
  refine post_gen fun Q HQ => ?_
  go_enter Try.func33, Try.ntmps33
  go_wp2_with fail
  refine hch.mono ?_
  rintro e w2 ⟨_, rfl, rfl, hb2'⟩
  obtain ⟨b0, b1, b2, b3⟩ := box4 hb2'
  have hb2 := ext_trans hbel hb2'
  clear hb2'
  by_cases h : c = 0
  · subst h
    have hw := Hok.out.1 rfl
    have Hrun := hid (run15_any w2 _ vl T l (HT.out.ext hb2) hw.1 (hl.ext (scR_mono _) hb2))
    unfold RunPost at Hrun
    clear hw
    go_wp2_with fail
    refine Hrun.out.mono ?_
    rintro e w3 ⟨_, rfl, k, v, rfl, h1, h2, h3, hb3⟩
    go_wp2_with fail
    go_ret2
    refine Fin HQ ⟨v, rfl, fun _ => ?_, fun h => absurd rfl h, ext_trans hb2 hb3⟩
    rw [solve_run h2 h3] at h1
    rw [solve_length]
    exact own_lower h1 hb2.size
  · have hne : (c != 0) = true := by simp [h]
    go_wp2_with fail
    go_ret2
    exact Fin HQ ⟨_, rfl, fun e => absurd e h, fun _ => rfl, hb2⟩

set_option maxHeartbeats 1600000 in
theorem round15_any (w : World) (V vl vm : Value) (T : Th) (l : List Int) (M : List Nat) (hT : RdTh w V T) (hl : RdI w vl l) (hm : RdMk w vm M) (h8 : ∀ x ∈ M, x < 256) :
    Calls Try.prog 30 #[V, vl, vm] w (Ret (RoundPost w T l M)) := by
  unfold RoundPost
  have HT := hid hT
  have Hm := hid hm
  have H8 := hid h8
  obtain ⟨vF, vR, vB, rfl, hF, hR, hB⟩ := hT
  obtain ⟨AM, cM, hvm, _⟩ := id hm
  have hbel := ext_alloc w (.cells #[.int .i64 T.lits, vF, vR, vB] 25)
  have hch := given15_any (w.alloc (.cells #[.int .i64 T.lits, vF, vR, vB] 25)) _ vl T l (HT.out.ext hbel) (hl.ext (scR_mono _) hbel)
  obtain ⟨c, Hc⟩ : ∃ c, Hid (givenErr T l = c) := ⟨_, hid rfl⟩
  rw [Hc.out] at hch
  have Hme : Hid (markedErr T l M.length = if c = 0 then (if (M.length : Int) = T.lits then 0 else 3) else c) := hid (by rw [markedErr, Hc.out])
  have Hl := hid hl
  clear hF hR hB hm h8 hl
  subst hvm
  refine post_gen fun Q HQ => ?_
  rw [Hme.out] at HQ
  go_enter Try.func30, Try.ntmps30
  go_wp2_with fail
  refine hch.mono ?_
  rintro e w2 ⟨_, rfl, rfl, hb2'⟩
  obtain ⟨b0, b1, b2, b3⟩ := box4 hb2'
  have hb2 := ext_trans hbel hb2'
  clear hb2' hbel
  by_cases h : c = 0
  case neg =>
    rw [if_neg h] at HQ
    have hne : (c != 0) = true := by simp [h]
    have hne2 : (c == 0) = false := by simp [h]
    go_wp2_with fail
    go_ret2
    exact Fin HQ ⟨_, rfl, fun e => absurd e h, fun _ => rfl, hb2⟩
  subst h
  rw [if_pos rfl] at HQ
  by_cases hn : (M.length : Int) = T.lits
  case neg =>
    rw [if_neg hn] at HQ
    have hne : ((M.length : Int) != T.lits) = true := by simp [hn]
    have Hn := hid hn
    clear hn
    go_wp2_with fail
    go_ret2
    exact Fin HQ ⟨_, rfl, fun e => absurd e (by decide), fun _ => rfl, hb2⟩
  rw [if_pos hn] at HQ
  have hne : ((M.length : Int) != T.lits) = false := by simp [hn]
  have hwf := (givenErr_ok.1 Hc.out).1
  have Hlen : Hid (M.length = T.foes.length) := hid (by have := hwf.fl; omega)
  have Hval := hid (nval hwf l M Hlen.out H8.out)
  have Hnew := hid (newWorld15_any w2 _ vl T l (HT.out.ext hb2) hwf (Hl.out.ext (scR_mono _) hb2))
  have H4 : Hid (M.length ≤ 4096) := hid (by have := hwf.l1; omega)
  have Hn := hid hn
  clear hn hwf
  go_wp2_with fail
  refine Hnew.out.mono ?_
  rintro e w3 ⟨_, rfl, b, rfl, hnr, hb3⟩
  have hb4 := ext_trans hb2 hb3
  have Hr := hid (wround15_any w3 b T l _ M _ hnr (Hm.out.ext (scR_mono _) hb4) Hval.out H4.out)
  clear hnr Hnew
  go_wp2_with fail
  refine Hr.out.mono ?_
  rintro e w5 ⟨v, rfl, hown, hb5⟩
  have Hown := hid (own_lower hown hb4.size)
  clear hown
  go_wp2_with fail
  go_ret2
  exact Fin HQ ⟨v, rfl, fun _ => Hown.out, fun h => absurd rfl h, ext_trans hb4 hb5⟩
end Go.Proofs.Lx

namespace Go.Proofs.Lx
open Go Go.RowKit
set_option linter.unusedSimpArgs false
set_option linter.unusedVariables false

set_option maxHeartbeats 1600000 in
theorem copyRule_any (w : World) (kd hd : Int) (C : Option Addr) (cC : Nat) (bo : List Int) (hv : RdI w (.slice C bo.length cC) bo) (h8 : bo.length * 8 ≤ 140737488355328) :
    Calls Try.prog 98 #[.agg #[.int .i64 kd, .int .i64 hd, .slice C bo.length cC]] w (Ret fun r w' => ∃ v, r = .agg #[.int .i64 kd, .int .i64 hd, v] ∧ w'.ownsRow w.heap.size 3 1 v bo.length (intsV bo) ∧ Below w.heap.size w w') := by
  have hb1 := ext_alloc w (.cells #[.int .i64 kd, .int .i64 hd, .slice C bo.length cC] 37)
  have hb2 := ext_alloc (w.alloc (.cells #[.int .i64 kd, .int .i64 hd, .slice C bo.length cC] 37)) (.cells #[.int .i64 0, .int .i64 0, .slice none 0 0] 37)
  have Hcall := hid (copyI_any _ _ bo ((hv.ext (scR_mono _) hb1).ext (scR_mono _) hb2) h8)
  refine post_gen fun Q HQ => ?_
  go_enter Try.func98, Try.ntmps98
  go_wp2_with fail
  refine Hcall.out.mono ?_
  rintro e w1 ⟨r, rfl, hown, hb3⟩
  have k1 := (hb3.block w.heap.size (by simp; omega)).trans ((hb2.block w.heap.size (by simp)).trans (heap_alloc_new w _))
  have k2 : w1.heap[w.heap.size + 1]? = some (.cells #[.int .i64 0, .int .i64 0, .slice none 0 0] 37) := (hb3.block (w.heap.size + 1) (by simp)).trans (by have := heap_alloc_new (w.alloc (.cells #[.int .i64 kd, .int .i64 hd, .slice C bo.length cC] 37)) (.cells #[.int .i64 0, .int .i64 0, .slice none 0 0] 37); rwa [World.size_alloc] at this)
  have e0 : w1.cell? ⟨w.heap.size, 0, none⟩ = some (.int .i64 kd) := by rw [cell_of_row w1 _ 0 _ _ _ k1]; rfl
  have e1 : w1.cell? ⟨w.heap.size, 1, none⟩ = some (.int .i64 hd) := by rw [cell_of_row w1 _ 1 _ _ _ k1]; rfl
  have e2 : w1.cell? ⟨w.heap.size, 2, none⟩ = some (.slice C bo.length cC) := by rw [cell_of_row w1 _ 2 _ _ _ k1]; rfl
  have f2 := frozen_of_row w1 w.heap.size 2 _ _ k1
  have g0 : w1.cell? ⟨w.heap.size + 1, 0, none⟩ = some (.int .i64 0) := by rw [cell_of_row w1 _ 0 _ _ _ k2]; rfl
  have g1 : w1.cell? ⟨w.heap.size + 1, 1, none⟩ = some (.int .i64 0) := by rw [cell_of_row w1 _ 1 _ _ _ k2]; rfl
  have g2 : w1.cell? ⟨w.heap.size + 1, 2, none⟩ = some (.slice none 0 0) := by rw [cell_of_row w1 _ 2 _ _ _ k2]; rfl
  have y0 := frozen_of_row w1 (w.heap.size + 1) 0 _ _ k2
  have y1 := frozen_of_row w1 (w.heap.size + 1) 1 _ _ k2
  have y2 := frozen_of_row w1 (w.heap.size + 1) 2 _ _ k2
  have hsz := hb3.size
  rw [World.size_alloc, World.size_alloc] at hsz
  obtain ⟨B1, c1, rfl⟩ := own_form0 hown
  have Hown := hid hown
  have Hb3 := hid hb3
  have Hb2 := hid (ext_trans hb1 hb2)
  clear hown hb3 hb2 hb1 Hcall
  go_wp2
  have k3 := (heap_setCell_other w1 ⟨w.heap.size, 2, none⟩ (w.heap.size + 1) (.slice B1 bo.length c1) (by simp)).trans k2
  have k4 := (heap_setCell_same _ (w.heap.size + 1) 0 _ _ (.int .i64 kd) k3)
  have k5 := (heap_setCell_same _ (w.heap.size + 1) 1 _ _ (.int .i64 hd) k4)
  have k6 := (heap_setCell_same _ (w.heap.size + 1) 2 _ _ (.slice B1 bo.length c1) k5)
  have z0 := cell_of_row _ _ 0 _ _ _ k6
  have z1 := cell_of_row _ _ 1 _ _ _ k6
  have z2 := cell_of_row _ _ 2 _ _ _ k6
  simp only [List.setIfInBounds_toArray, List.set_cons_zero, List.set_cons_succ, List.getElem?_toArray, List.getElem?_cons_zero, List.getElem?_cons_succ] at z0 z1 z2
  have hb9 : Below w.heap.size w ((((w1.setCell ⟨w.heap.size, 2, none⟩ (.slice B1 bo.length c1)).setCell ⟨w.heap.size + 1, 0, none⟩ (.int .i64 kd)).setCell ⟨w.heap.size + 1, 1, none⟩ (.int .i64 hd)).setCell ⟨w.heap.size + 1, 2, none⟩ (.slice B1 bo.length c1)) := ((((ext_trans Hb2.out Hb3.out).setCell (Nat.le_refl _) _).setCell (by dsimp only; omega) _).setCell (by dsimp only; omega) _).setCell (by dsimp only; omega) _
  have ho : w1.ownsRow (w.heap.size + 1 + 1) 3 1 (.slice B1 bo.length c1) bo.length (intsV bo) := by
    have h9 := Hown.out
    rw [World.size_alloc, World.size_alloc] at h9
    exact h9
  have hne : ∀ g, g < w.heap.size + 2 → (Value.slice B1 bo.length c1).ownBlock ≠ some g := fun g hg e => by have := (ho.lt g e).1; omega
  have ho4 : ((((w1.setCell ⟨w.heap.size, 2, none⟩ (.slice B1 bo.length c1)).setCell ⟨w.heap.size + 1, 0, none⟩ (.int .i64 kd)).setCell ⟨w.heap.size + 1, 1, none⟩ (.int .i64 hd)).setCell ⟨w.heap.size + 1, 2, none⟩ (.slice B1 bo.length c1)).ownsRow (w.heap.size + 1 + 1) 3 1 (.slice B1 bo.length c1) bo.length (intsV bo) :=
    ownsRow_setCell_other (ownsRow_setCell_other (ownsRow_setCell_other (ownsRow_setCell_other ho (hne _ (by dsimp only; omega)) _) (hne _ (by dsimp only; omega)) _) (hne _ (by dsimp only; omega)) _) (hne _ (by dsimp only; omega)) _
  clear k1 k2 k3 k4 k5 k6 e0 e1 e2 f2 g0 g1 g2 y0 y1 y2 ho hne
  generalize (((w1.setCell ⟨w.heap.size, 2, none⟩ (.slice B1 bo.length c1)).setCell ⟨w.heap.size + 1, 0, none⟩ (.int .i64 kd)).setCell ⟨w.heap.size + 1, 1, none⟩ (.int .i64 hd)).setCell ⟨w.heap.size + 1, 2, none⟩ (.slice B1 bo.length c1) = W4 at *
  refine bodyPost_ret (by simp [results, Try.results98, go_sem, z0, z1, z2]; try rfl) rfl ?_
  exact Fin HQ ⟨_, rfl, own_mono ho4 (by omega), hb9⟩

theorem infoR : (Try.prog.info? 37).map (fun i => (i.zero, i.size, i.bytes)) = some (some (.agg #[.int .i64 0, .int .i64 0, .slice none 0 0]), 3, 40) := by kernel_rfl
theorem info_parts3 {P : Program} {e : TypeId} {z : Value} {s b : Nat} (h : (P.info? e).map (fun i => (i.zero, i.size, i.bytes)) = some (some z, s, b)) : ∃ i, P.info? e = some i ∧ i.zero = some z ∧ i.size = s ∧ i.bytes = b := by
  obtain ⟨i, hi, hz⟩ := Option.map_eq_some_iff.1 h
  simp only [Prod.mk.injEq] at hz
  exact ⟨i, hi, hz.1, hz.2.1, hz.2.2⟩
/-- Rules as cells, each body a value of its own. -/
def ruleCells (rs : List Rule) (vs : List Value) : List Value := (rs.zip vs).flatMap fun p => [.int .i64 p.1.kind, .int .i64 p.1.head, p.2]
theorem ruleCells_snoc {rs : List Rule} {vs : List Value} (h : rs.length = vs.length) (r : Rule) (v : Value) : ruleCells (rs ++ [r]) (vs ++ [v]) = ruleCells rs vs ++ [.int .i64 r.kind, .int .i64 r.head, v] := by
  rw [ruleCells, List.zip_append h, List.flatMap_append]; rfl
theorem ruleCells_at {rs : List Rule} {vs : List Value} (h : rs.length = vs.length) : ∀ {i j : Nat} {u : Value} (hi : i < rs.length), [Value.int .i64 rs[i].kind, .int .i64 rs[i].head, vs[i]'(by omega)][j]? = some u → (ruleCells rs vs)[i * 3 + j]? = some u := by
  induction rs generalizing vs with
  | nil => intro i j u hi; simp at hi
  | cons r rs ih =>
    match vs, h with
    | v :: vs, h =>
      intro i j u hi hu
      have hj : j < 3 := by have := (List.getElem?_eq_some_iff.1 hu).1; simpa using this
      match i, hi, hu with
      | 0, hi, hu =>
        have e : ruleCells (r :: rs) (v :: vs) = [.int .i64 r.kind, .int .i64 r.head, v] ++ ruleCells rs vs := rfl
        rw [e, List.getElem?_append_left (by simp; omega)]
        simpa using hu
      | i + 1, hi, hu =>
        have e : ruleCells (r :: rs) (v :: vs) = [.int .i64 r.kind, .int .i64 r.head, v] ++ ruleCells rs vs := rfl
        rw [e, List.getElem?_append_right (by simp; omega)]
        have := ih (vs := vs) (by simpa using h) (i := i) (j := j) (u := u) (by simpa using hi) (by simpa using hu)
        rw [← this]; congr 1; simp; omega
theorem KeptRows.at {base : Nat} {wr : World} {v3 : Value} {vs : List Value} {rs : List Rule} (h : KeptRows base wr v3 vs (rs.map (·.body))) : vs.length = rs.length ∧ ∀ i (h1 : i < vs.length) (h2 : i < rs.length), wr.ownsRow base 3 1 vs[i] rs[i].body.length (intsV rs[i].body) :=
  ⟨by simpa using h.1, fun i h1 h2 => by have := (h.2 i h1 (by rw [List.length_map]; exact h2)).1; rw [List.getElem_map] at this; exact this⟩
/-- Rules, all of the call's own. -/
def OwnRs (base : Nat) (w : World) (v : Value) (rs : List Rule) : Prop :=
  ∃ vs : List Value, vs.length = rs.length ∧ w.ownsRow base 37 3 v rs.length (ruleCells rs vs) ∧ ∀ i (h1 : i < vs.length) (h2 : i < rs.length), w.ownsRow base 3 1 vs[i] rs[i].body.length (intsV rs[i].body)
theorem OwnRs.keep {base : Nat} {w w' : World} {v : Value} {rs : List Rule} (h : OwnRs base w v rs) (hk : ∀ g, base ≤ g → g < w.heap.size → w'.heap[g]? = w.heap[g]?) : OwnRs base w' v rs := by
  obtain ⟨vs, h1, h2, h3⟩ := h
  exact ⟨vs, h1, own_heap h2 hk, fun i a b => own_heap (h3 i a b) hk⟩
theorem own_rules {w : World} {base eS : Nat} {v : Value} {vs : List Value} {rs : List Rule} (h : w.ownsRow base eS 3 v rs.length (ruleCells rs vs)) (hk : vs.length = rs.length) (hl : rs.length ≤ 140737488355328)
    (hr : ∀ i (h1 : i < vs.length) (h2 : i < rs.length), RdI w vs[i] rs[i].body) : RdRs w v rs := by
  rcases h.2 with ⟨rfl, h0⟩ | ⟨gg, cap, cur, rfl, _, _, hc, _⟩
  · exact ⟨none, 0, by rw [h0], by omega, hl, fun i hi => absurd hi (by omega)⟩
  · refine ⟨_, cap, rfl, hc, hl, fun i hi => ⟨_, [.int .i64 rs[i].kind, .int .i64 rs[i].head, vs[i]'(by omega)], rfl, ⟨_, rfl, hr i (by omega) hi⟩, rfl, fun j u hu => ?_⟩⟩
    exact h.cells (g := gg) rfl (i * 3 + j) u (ruleCells_at hk.symm hi hu)

theorem OwnRs.rd {base : Nat} {w : World} {v : Value} {rs : List Rule} (h : OwnRs base w v rs) (hl : rs.length ≤ 140737488355328) (hr : ∀ r ∈ rs, r.body.length ≤ 140737488355328) : RdRs w v rs := by
  obtain ⟨vs, h1, h2, h3⟩ := h
  exact own_rules h2 h1 hl fun i a b => own_rdI (h3 i a b) (hr _ (List.getElem_mem b))
theorem cell_three_new (w : World) (a b c : Value) (t : TypeId) : ∀ j u, [a, b, c][j]? = some u → (w.alloc (.cells #[a, b, c] t)).cell? ((⟨w.heap.size, 0, none⟩ : Addr).add j) = some u := by
  intro j u hj
  have h := heap_alloc_new w (.cells #[a, b, c] t)
  rw [add_plain, cell_of_row _ _ _ _ _ _ h]
  simpa using hj

set_option maxRecDepth 100000 in
set_option maxHeartbeats 3200000 in
theorem copyRules_any (w : World) (v : Value) (L : List Rule) (hv : RdRs w v L) (h40 : L.length * 40 ≤ 140737488355328) (h8 : ∀ r ∈ L, r.body.length * 8 ≤ 140737488355328) :
    Calls Try.prog 65 #[v] w (Ret fun r w' => OwnRs w.heap.size w' r L ∧ Below w.heap.size w w') := by
  obtain ⟨A, c, rfl, hc, hb, hr⟩ := hv
  obtain ⟨i0, hi, hz0, hz1, hz2⟩ := info_parts3 infoR
  refine post_gen fun Q HQ => ?_
  have H8 := hid h8
  generalize hn : L.length = n at *
  have Hn := hid hn
  clear hn h8
  go_enter Try.func65, Try.ntmps65
  go_wp2
  go_loopw [3, 4] (fun v3 v4 wr => ∃ (k : Nat) (vs : List Value), k ≤ n ∧ v4 = .int .i64 k ∧ wr.ownsRow w.heap.size 37 3 v3 k (ruleCells (L.take k) vs) ∧ Hid (KeptRows w.heap.size wr v3 vs ((L.take k).map (·.body))) ∧ Below w.heap.size w wr) (fun _ v4 _ => n - (intOf v4).toNat)
  case atStart => exact ⟨0, [], Nat.zero_le _, rfl, World.ownsRow_nil _ _ _ _, hid ⟨by simp, fun i h => absurd h (by simp)⟩, ext_refl _⟩
  case round =>
    obtain ⟨k, vs, hk, rfl, hown, hkept, hbl⟩ := hrel
    by_cases hlt : k < n
    · have hx : k < L.length := by rw [Hn.out]; exact hlt
      obtain ⟨ad, B, cB, rfl, p0, p1, p2, hcB, hbB, hrB⟩ := (hr.ext ruleR_mono hbl).atRule hx
      have hXk : ∃ x, Hid (L[k] = x) := ⟨_, hid rfl⟩
      obtain ⟨x, HX⟩ := hXk
      have Hb8 : Hid (x.body.length * 8 ≤ 140737488355328) := hid (by rw [← HX.out]; exact H8.out _ (List.getElem_mem hx))
      rw [HX.out] at p0 p1 p2 hcB hbB hrB
      have Hcall := hid (copyRule_any wr x.kind x.head B cB x.body ⟨B, cB, rfl, hcB, hbB, hrB⟩ Hb8.out)
      have Hx := hid hx
      have Hown := hid hown
      have hsz := hbl.size
      clear hown hrB
      go_wp2_with (first | (go_at_call 98; refine Hcall.out.mono ?_; rintro e w1 ⟨_, rfl, r1, rfl, hr1, hb1⟩; have hs1 := hb1.size; have Hr1 := hid hr1; have Hown1 := hid (own_ext Hown.out hb1); clear hr1; obtain ⟨B1, c1, rfl⟩ := own_form0 Hr1.out) | (at_builtin; refine wpList_append_own_at _ rfl _ _ 23 rfl w.heap.size 37 i0 (.agg #[.int .i64 0, .int .i64 0, .slice none 0 0]) 3 40 Try.underlying23 hi hz0 hz1 hz2 rfl (by decide) _ k _ rfl (Hown1.out.alloc _) ⟨w1.heap.size, 0, none⟩ 1 1 [.int .i64 x.kind, .int .i64 x.head, .slice B1 x.body.length c1] rfl rfl (cell_three_new _ _ _ _ _) (fun u hu => by simp at hu; rcases hu with rfl | rfl | rfl <;> rfl) (by unfold maxLen; omega) (by omega) (by simp; omega) ?_; intro v' w3 hown' hgrow3 hnil3 hat3))
      go_roundw
      case rel =>
        refine ⟨k + 1, vs ++ [.slice B1 x.body.length c1], by omega, by go_num, ?_, hid ?_, ?_⟩
        · rw [List.take_succ_eq_append_getElem Hx.out, HX.out, ruleCells_snoc hkept.out.at.1.symm]; exact hown'
        · rw [List.take_succ_eq_append_getElem Hx.out, HX.out]
          rw [List.map_append]
          exact hkept.out.push hsz (fun g e => (Hown.out.lt g e).2) Hr1.out hb1 (ext_alloc w1 _) hgrow3 hat3
        · exact below_grown ((ext_trans hbl hb1).alloc (by omega) _) (by simp; omega) hgrow3 (fun g e => (Hown.out.lt g e).1)
      case measure => simp [intOf]; omega
    · have e : k = n := by omega
      subst e
      go_wp2
      go_ret
      refine Fin HQ ⟨?_, hbl⟩
      rw [List.take_of_length_le (by rw [Hn.out]; exact Nat.le_refl _)] at hkept hown
      rw [← Hn.out] at hown
      exact ⟨vs, hkept.out.at.1, hown, hkept.out.at.2⟩

set_option maxRecDepth 100000 in
set_option maxHeartbeats 3200000 in
theorem copyTh_any (w : World) (V : Value) (T : Th) (hT : RdTh w V T) (hs : Small T) :
    Calls Try.prog 28 #[V] w (Ret fun r w' => RdTh w' r T ∧ Below w.heap.size w w') := by
  have Hs := hid hs
  obtain ⟨vF, vR, vB, rfl, hF, hR, hB⟩ := hT
  obtain ⟨W1, HW1⟩ : ∃ W1, Hid (W1 = w.alloc (.cells #[.int .i64 T.lits, vF, vR, vB] 25)) := ⟨_, hid rfl⟩
  obtain ⟨W2, HW2⟩ : ∃ W2, Hid (W2 = W1.alloc (.cells #[.int .i64 0, .slice none 0 0, .slice none 0 0, .slice none 0 0] 25)) := ⟨_, hid rfl⟩
  have hb1 : Below w.heap.size w W1 := by rw [HW1.out]; exact ext_alloc _ _
  have hb2 : Below W1.heap.size W1 W2 := by rw [HW2.out]; exact ext_alloc _ _
  have hs1 : W1.heap.size = w.heap.size + 1 := by rw [HW1.out]; simp
  have hs2 : W2.heap.size = w.heap.size + 2 := by rw [HW2.out]; simp [hs1]
  have k1 : W2.heap[w.heap.size]? = some (.cells #[.int .i64 T.lits, vF, vR, vB] 25) := (hb2.block w.heap.size (by omega)).trans (by rw [HW1.out]; exact heap_alloc_new w _)
  have k2 : W2.heap[w.heap.size + 1]? = some (.cells #[.int .i64 0, .slice none 0 0, .slice none 0 0, .slice none 0 0] 25) := by rw [HW2.out, ← hs1]; exact heap_alloc_new W1 _
  have hb12 := ext_trans hb1 hb2
  have hF2 := hF.ext llR_mono hb12
  have hR2 := hR.ext ruleR_mono hb12
  have hB2 := hB.ext llR_mono hb12
  have e0 : W2.cell? ⟨w.heap.size, 0, none⟩ = some (.int .i64 T.lits) := by rw [cell_of_row W2 _ 0 _ _ _ k1]; rfl
  have e1 : W2.cell? ⟨w.heap.size, 1, none⟩ = some vF := by rw [cell_of_row W2 _ 1 _ _ _ k1]; rfl
  have e2 : W2.cell? ⟨w.heap.size, 2, none⟩ = some vR := by rw [cell_of_row W2 _ 2 _ _ _ k1]; rfl
  have e3 : W2.cell? ⟨w.heap.size, 3, none⟩ = some vB := by rw [cell_of_row W2 _ 3 _ _ _ k1]; rfl
  have Hc1 := hid (copyLL_any W2 vF T.foes hF2 hs.f hs.fr)
  obtain ⟨AF, cF, rfl, _⟩ := hF
  refine post_gen fun Q HQ => ?_
  go_enter Try.func28, Try.ntmps28
  go_wp2_with fail
  rw [← HW1.out, ← HW2.out]
  refine Hc1.out.mono ?_
  rintro e w3 ⟨r1, rfl, hr1, hb3⟩
  have hs3 := hb3.size
  obtain ⟨A1, c1, rfl⟩ : ∃ A c, r1 = .slice A T.foes.length c := by obtain ⟨_, _, h, _⟩ := hr1; exact own_form0 h
  have k13 := (hb3.block w.heap.size (by omega)).trans k1
  have k23 := (hb3.block (w.heap.size + 1) (by omega)).trans k2
  have j1 := heap_setCell_same w3 w.heap.size 1 _ _ (.slice A1 T.foes.length c1) k13
  have j2 := (heap_setCell_other w3 ⟨w.heap.size, 1, none⟩ (w.heap.size + 1) (.slice A1 T.foes.length c1) (by simp)).trans k23
  have f1 := frozen_of_row w3 w.heap.size 1 _ _ k13
  have x1 : w3.cell? ⟨w.heap.size, 1, none⟩ = some (.slice AF T.foes.length cF) := by rw [cell_of_row w3 _ 1 _ _ _ k13]; rfl
  have x2 : w3.cell? ⟨w.heap.size, 2, none⟩ = some vR := by rw [cell_of_row w3 _ 2 _ _ _ k13]; rfl
  have hr4 := hr1.keep (w' := w3.setCell ⟨w.heap.size, 1, none⟩ (.slice A1 T.foes.length c1)) fun g hg _ => heap_setCell_other w3 _ g _ (by dsimp only; omega)
  have hb4 : Below w.heap.size w (w3.setCell ⟨w.heap.size, 1, none⟩ (.slice A1 T.foes.length c1)) := (ext_trans hb12 hb3).setCell (Nat.le_refl _) _
  have hsz4 : (w3.setCell ⟨w.heap.size, 1, none⟩ (.slice A1 T.foes.length c1)).heap.size = w3.heap.size := by simp
  have Hc2 := hid (copyRules_any (w3.setCell ⟨w.heap.size, 1, none⟩ (.slice A1 T.foes.length c1)) vR T.rules (hR.ext ruleR_mono hb4) Hs.out.r Hs.out.rb)
  obtain ⟨AR, cR, rfl, _⟩ := hR
  clear hr1 k13 k23 k1 k2 e0 e1 e2 e3 hF2 hR2 hB2 Hc1
  go_wp2_with fail
  refine Hc2.out.mono ?_
  rintro e w5 ⟨r2, rfl, hr2, hb5⟩
  have hs5 := hb5.size
  have hb45 := ext_trans hb4 hb5
  have hr5 := hr4.keep (w' := w5) fun g _ hg => hb5.block g hg
  obtain ⟨A2, c2, rfl⟩ : ∃ A c, r2 = .slice A T.rules.length c := by obtain ⟨_, _, h, _⟩ := hr2; exact own_form0 h
  have k15 := (hb5.block w.heap.size (by omega)).trans j1
  have k25 := (hb5.block (w.heap.size + 1) (by omega)).trans j2
  have j3 := heap_setCell_same w5 w.heap.size 2 _ _ (.slice A2 T.rules.length c2) k15
  have j4 := (heap_setCell_other w5 ⟨w.heap.size, 2, none⟩ (w.heap.size + 1) (.slice A2 T.rules.length c2) (by simp)).trans k25
  have f2 := frozen_of_row w5 w.heap.size 2 _ _ k15
  have y2 : w5.cell? ⟨w.heap.size, 2, none⟩ = some (.slice AR T.rules.length cR) := by rw [cell_of_row w5 _ 2 _ _ _ k15]; rfl
  have y3 : w5.cell? ⟨w.heap.size, 3, none⟩ = some vB := by rw [cell_of_row w5 _ 3 _ _ _ k15]; rfl
  have hr6 := hr5.keep (w' := w5.setCell ⟨w.heap.size, 2, none⟩ (.slice A2 T.rules.length c2)) fun g hg _ => heap_setCell_other w5 _ g _ (by dsimp only; omega)
  have hq6 := hr2.keep (w' := w5.setCell ⟨w.heap.size, 2, none⟩ (.slice A2 T.rules.length c2)) fun g hg _ => heap_setCell_other w5 _ g _ (by dsimp only; omega)
  have hb6 : Below w.heap.size w (w5.setCell ⟨w.heap.size, 2, none⟩ (.slice A2 T.rules.length c2)) := hb45.setCell (Nat.le_refl _) _
  have hsz6 : (w5.setCell ⟨w.heap.size, 2, none⟩ (.slice A2 T.rules.length c2)).heap.size = w5.heap.size := by simp
  have Hc3 := hid (copyLL_any (w5.setCell ⟨w.heap.size, 2, none⟩ (.slice A2 T.rules.length c2)) vB T.beats (hB.ext llR_mono hb6) Hs.out.b Hs.out.br)
  obtain ⟨AB, cB, rfl, _⟩ := hB
  clear Hc2 j1 j2 f1 x1 x2 k15 k25 hr4 hr5 hr2
  go_wp2_with fail
  refine Hc3.out.mono ?_
  rintro e w7 ⟨r3, rfl, hr3, hb7⟩
  have hs7 := hb7.size
  have hb67 := ext_trans hb6 hb7
  have hr7 := hr6.keep (w' := w7) fun g _ hg => hb7.block g hg
  have hq7 := hq6.keep (w' := w7) fun g _ hg => hb7.block g hg
  obtain ⟨A3, c3, rfl⟩ : ∃ A c, r3 = .slice A T.beats.length c := by obtain ⟨_, _, h, _⟩ := hr3; exact own_form0 h
  have k17 := (hb7.block w.heap.size (by omega)).trans j3
  have k27 := (hb7.block (w.heap.size + 1) (by omega)).trans j4
  have j5 := heap_setCell_same w7 w.heap.size 3 _ _ (.slice A3 T.beats.length c3) k17
  have j6 := (heap_setCell_other w7 ⟨w.heap.size, 3, none⟩ (w.heap.size + 1) (.slice A3 T.beats.length c3) (by simp)).trans k27
  have f3 := frozen_of_row w7 w.heap.size 3 _ _ k17
  have z0 : w7.cell? ⟨w.heap.size, 0, none⟩ = some (.int .i64 T.lits) := by rw [cell_of_row w7 _ 0 _ _ _ k17]; rfl
  have z1 : w7.cell? ⟨w.heap.size, 1, none⟩ = some (.slice A1 T.foes.length c1) := by rw [cell_of_row w7 _ 1 _ _ _ k17]; rfl
  have z2 : w7.cell? ⟨w.heap.size, 2, none⟩ = some (.slice A2 T.rules.length c2) := by rw [cell_of_row w7 _ 2 _ _ _ k17]; rfl
  have z3 : w7.cell? ⟨w.heap.size, 3, none⟩ = some (.slice AB T.beats.length cB) := by rw [cell_of_row w7 _ 3 _ _ _ k17]; rfl
  have q0 : w7.cell? ⟨w.heap.size + 1, 0, none⟩ = some (.int .i64 0) := by rw [cell_of_row w7 _ 0 _ _ _ k27]; rfl
  have q1 : w7.cell? ⟨w.heap.size + 1, 1, none⟩ = some (.slice none 0 0) := by rw [cell_of_row w7 _ 1 _ _ _ k27]; rfl
  have q2 : w7.cell? ⟨w.heap.size + 1, 2, none⟩ = some (.slice none 0 0) := by rw [cell_of_row w7 _ 2 _ _ _ k27]; rfl
  have q3 : w7.cell? ⟨w.heap.size + 1, 3, none⟩ = some (.slice none 0 0) := by rw [cell_of_row w7 _ 3 _ _ _ k27]; rfl
  have p0 := frozen_of_row w7 (w.heap.size + 1) 0 _ _ k27
  have p1 := frozen_of_row w7 (w.heap.size + 1) 1 _ _ k27
  have p2 := frozen_of_row w7 (w.heap.size + 1) 2 _ _ k27
  have p3 := frozen_of_row w7 (w.heap.size + 1) 3 _ _ k27
  have j7 := heap_setCell_same _ (w.heap.size + 1) 0 _ _ (.int .i64 T.lits) j6
  have j8 := heap_setCell_same _ (w.heap.size + 1) 1 _ _ (.slice A1 T.foes.length c1) j7
  have j9 := heap_setCell_same _ (w.heap.size + 1) 2 _ _ (.slice A2 T.rules.length c2) j8
  have j10 := heap_setCell_same _ (w.heap.size + 1) 3 _ _ (.slice A3 T.beats.length c3) j9
  have o0 := cell_of_row _ _ 0 _ _ _ j10
  have o1 := cell_of_row _ _ 1 _ _ _ j10
  have o2 := cell_of_row _ _ 2 _ _ _ j10
  have o3 := cell_of_row _ _ 3 _ _ _ j10
  simp only [List.setIfInBounds_toArray, List.set_cons_zero, List.set_cons_succ, List.getElem?_toArray, List.getElem?_cons_zero, List.getElem?_cons_succ] at o0 o1 o2 o3
  have hb9 : Below w.heap.size w (((((w7.setCell ⟨w.heap.size, 3, none⟩ (.slice A3 T.beats.length c3)).setCell ⟨w.heap.size + 1, 0, none⟩ (.int .i64 T.lits)).setCell ⟨w.heap.size + 1, 1, none⟩ (.slice A1 T.foes.length c1)).setCell ⟨w.heap.size + 1, 2, none⟩ (.slice A2 T.rules.length c2)).setCell ⟨w.heap.size + 1, 3, none⟩ (.slice A3 T.beats.length c3)) := ((((hb67.setCell (Nat.le_refl _) _).setCell (by dsimp only; omega) _).setCell (by dsimp only; omega) _).setCell (by dsimp only; omega) _).setCell (by dsimp only; omega) _
  have hk9 : ∀ g, w.heap.size + 2 ≤ g → (((((w7.setCell ⟨w.heap.size, 3, none⟩ (.slice A3 T.beats.length c3)).setCell ⟨w.heap.size + 1, 0, none⟩ (.int .i64 T.lits)).setCell ⟨w.heap.size + 1, 1, none⟩ (.slice A1 T.foes.length c1)).setCell ⟨w.heap.size + 1, 2, none⟩ (.slice A2 T.rules.length c2)).setCell ⟨w.heap.size + 1, 3, none⟩ (.slice A3 T.beats.length c3)).heap[g]? = w7.heap[g]? := fun g hg =>
    (heap_setCell_other _ _ g _ (by dsimp only; omega)).trans ((heap_setCell_other _ _ g _ (by dsimp only; omega)).trans ((heap_setCell_other _ _ g _ (by dsimp only; omega)).trans ((heap_setCell_other _ _ g _ (by dsimp only; omega)).trans (heap_setCell_other _ _ g _ (by dsimp only; omega)))))
  have Hr9 := hid ((hr7.keep (w' := (((((w7.setCell ⟨w.heap.size, 3, none⟩ (.slice A3 T.beats.length c3)).setCell ⟨w.heap.size + 1, 0, none⟩ (.int .i64 T.lits)).setCell ⟨w.heap.size + 1, 1, none⟩ (.slice A1 T.foes.length c1)).setCell ⟨w.heap.size + 1, 2, none⟩ (.slice A2 T.rules.length c2)).setCell ⟨w.heap.size + 1, 3, none⟩ (.slice A3 T.beats.length c3))) fun g hg _ => hk9 g (by omega)).rd (by have := Hs.out.f; omega) (fun l hl => by have := Hs.out.fr l hl; omega))
  have Hq9 := hid ((hq7.keep (w' := (((((w7.setCell ⟨w.heap.size, 3, none⟩ (.slice A3 T.beats.length c3)).setCell ⟨w.heap.size + 1, 0, none⟩ (.int .i64 T.lits)).setCell ⟨w.heap.size + 1, 1, none⟩ (.slice A1 T.foes.length c1)).setCell ⟨w.heap.size + 1, 2, none⟩ (.slice A2 T.rules.length c2)).setCell ⟨w.heap.size + 1, 3, none⟩ (.slice A3 T.beats.length c3))) fun g hg _ => hk9 g (by omega)).rd (by have := Hs.out.r; omega) (fun l hl => by have := Hs.out.rb l hl; omega))
  have Ht9 := hid ((hr3.keep (w' := (((((w7.setCell ⟨w.heap.size, 3, none⟩ (.slice A3 T.beats.length c3)).setCell ⟨w.heap.size + 1, 0, none⟩ (.int .i64 T.lits)).setCell ⟨w.heap.size + 1, 1, none⟩ (.slice A1 T.foes.length c1)).setCell ⟨w.heap.size + 1, 2, none⟩ (.slice A2 T.rules.length c2)).setCell ⟨w.heap.size + 1, 3, none⟩ (.slice A3 T.beats.length c3))) fun g hg _ => hk9 g (by omega)).rd (by have := Hs.out.b; omega) (fun l hl => by have := Hs.out.br l hl; omega))
  clear Hc3 j3 j4 f2 y2 y3 k17 k27 hr6 hr7 hq6 hq7 hr3 j5 j6 j7 j8 j9 j10 hk9
  go_wp2
  clear z0 z1 z2 z3 q0 q1 q2 q3 p0 p1 p2 p3 f3
  generalize (((((w7.setCell ⟨w.heap.size, 3, none⟩ (.slice A3 T.beats.length c3)).setCell ⟨w.heap.size + 1, 0, none⟩ (.int .i64 T.lits)).setCell ⟨w.heap.size + 1, 1, none⟩ (.slice A1 T.foes.length c1)).setCell ⟨w.heap.size + 1, 2, none⟩ (.slice A2 T.rules.length c2)).setCell ⟨w.heap.size + 1, 3, none⟩ (.slice A3 T.beats.length c3)) = W9 at *
  refine bodyPost_ret (by simp [results, Try.results28, go_sem, o0, o1, o2, o3]; try rfl) rfl ?_
  exact Fin HQ ⟨⟨_, _, _, rfl, Hr9.out, Hq9.out, Ht9.out⟩, hb9⟩
end Go.Proofs.Lx

namespace Go.Proofs.Lx
open Go Go.RowKit
set_option linter.unusedSimpArgs false
set_option linter.unusedVariables false

set_option maxHeartbeats 800000 in
theorem sameI_self (w : World) (v1 v2 : Value) (X : List Int) (h1 : RdI w v1 X) (h2 : RdI w v2 X) :
    Calls Try.prog 35 #[v1, v2] w (Dr w true) := by
  refine dr_of ?_
  obtain ⟨A, c, rfl, hc, hb, hr⟩ := h1
  obtain ⟨B, d, rfl, hd, hb2, hr2⟩ := h2
  refine post_gen fun Q HQ => ?_
  go_enter Try.func35, Try.ntmps35
  generalize hn : X.length = n at *
  have Hn := hid hn
  clear hn
  go_wp2
  go_loopw [5] (fun v5 wr => ∃ k : Nat, k ≤ n ∧ v5 = .int .i64 k ∧ Drew w wr) (fun v5 _ => n - (intOf v5).toNat)
  case atStart => exact ⟨0, Nat.zero_le _, rfl, Drew.refl w⟩
  case round =>
    obtain ⟨k, hk, rfl, hdr⟩ := hrel
    have Hdr := hid hdr
    by_cases hlt : k < n
    · have hx : k < X.length := by rw [Hn.out]; exact hlt
      obtain ⟨ad, rfl, hcX⟩ := (hr.ext (scR_mono _) hdr.below).at1 hx
      obtain ⟨ad2, rfl, hcY⟩ := (hr2.ext (scR_mono _) hdr.below).at1 hx
      generalize X[k] = x at *
      have hne : (x != x) = false := by simp
      clear hdr hr hr2 hx
      go_wp2
      go_quiet (fail)
      go_wp2
      go_roundw
      case rel => exact ⟨k + 1, by omega, by go_num, Hdr.out.step _⟩
      case measure => simp [intOf]; omega
    · go_wp2
      go_ret
      exact Fin HQ ⟨rfl, Hdr.out⟩

set_option maxHeartbeats 800000 in
theorem sameLL_self (w : World) (v1 v2 : Value) (X : List (List Int)) (h1 : RdLL w v1 X) (h2 : RdLL w v2 X) :
    Calls Try.prog 68 #[v1, v2] w (Dr w true) := by
  refine dr_of ?_
  obtain ⟨A, c, rfl, hc, hb, hr⟩ := h1
  obtain ⟨B, d, rfl, hd, hb2, hr2⟩ := h2
  refine post_gen fun Q HQ => ?_
  go_enter Try.func68, Try.ntmps68
  generalize hn : X.length = n at *
  have Hn := hid hn
  clear hn
  go_wp2
  go_loopw [5] (fun v5 wr => ∃ k : Nat, k ≤ n ∧ v5 = .int .i64 k ∧ Drew w wr) (fun v5 _ => n - (intOf v5).toNat)
  case atStart => exact ⟨0, Nat.zero_le _, rfl, Drew.refl w⟩
  case round =>
    obtain ⟨k, hk, rfl, hdr⟩ := hrel
    have Hdr := hid hdr
    by_cases hlt : k < n
    · have hx : k < X.length := by rw [Hn.out]; exact hlt
      obtain ⟨ad, C1, c1, rfl, hcX, p1, p2, hr3⟩ := (hr.ext llR_mono hdr.below).atRow hx
      obtain ⟨ad2, C2, c2, rfl, hcY, q1, q2, hr4⟩ := (hr2.ext llR_mono hdr.below).atRow hx
      have Hcall : Hid (∀ m, Calls Try.prog 35 #[.slice C1 X[k].length c1, .slice C2 X[k].length c2] (wr.drewN m) (fun e w' => e = .returned (.bool true) ∧ ∃ j, w' = (wr.drewN m).drewN j)) := hid fun m =>
        sameI_self _ _ _ X[k] ⟨C1, c1, rfl, p1, p2, hr3.ext (scR_mono _) (ext_drewN wr m)⟩ ⟨C2, c2, rfl, q1, q2, hr4.ext (scR_mono _) (ext_drewN wr m)⟩
      generalize X[k] = x at *
      clear hdr hr hr2 hx hr3 hr4
      go_wp2
      go_quiet ((go_at_call 35; exact Calls.quiet_of (Hcall.out _)))
      go_wp2
      go_roundw
      case rel => exact ⟨k + 1, by omega, by go_num, Hdr.out.step _⟩
      case measure => simp [intOf]; omega
    · go_wp2
      go_ret
      exact Fin HQ ⟨rfl, Hdr.out⟩

set_option maxHeartbeats 800000 in
theorem sameRule_self (w : World) (kd hd : Int) (C1 C2 : Option Addr) (c1 c2 : Nat) (bo : List Int) (h1 : RdI w (.slice C1 bo.length c1) bo) (h2 : RdI w (.slice C2 bo.length c2) bo) :
    Calls Try.prog 99 #[.agg #[.int .i64 kd, .int .i64 hd, .slice C1 bo.length c1], .agg #[.int .i64 kd, .int .i64 hd, .slice C2 bo.length c2]] w (Ret fun v w' => v = .bool true ∧ Below w.heap.size w w') := by
  have hb1 := ext_alloc w (.cells #[.int .i64 kd, .int .i64 hd, .slice C1 bo.length c1] 37)
  have hb2 := ext_trans hb1 (ext_alloc _ (.cells #[.int .i64 kd, .int .i64 hd, .slice C2 bo.length c2] 37))
  have Hcall := hid (sameI_self _ _ _ bo (h1.ext (scR_mono _) hb2) (h2.ext (scR_mono _) hb2))
  have hk : (kd == kd) = true := by simp
  have hh : (hd == hd) = true := by simp
  refine post_gen fun Q HQ => ?_
  go_enter Try.func99, Try.ntmps99
  go_wp2_with fail
  refine Hcall.out.mono ?_
  rintro e w5 ⟨rfl, m, rfl⟩
  go_wp2
  go_ret
  exact Fin HQ ⟨rfl, ext_trans hb2 (ext_drewN _ _)⟩

set_option maxHeartbeats 1600000 in
theorem sameRules_self (w : World) (v1 v2 : Value) (X : List Rule) (h1 : RdRs w v1 X) (h2 : RdRs w v2 X) :
    Calls Try.prog 69 #[v1, v2] w (Ret fun v w' => v = .bool true ∧ Below w.heap.size w w') := by
  obtain ⟨A, c, rfl, hc, hb, hr⟩ := h1
  obtain ⟨B, d, rfl, hd, hb2, hr2⟩ := h2
  refine post_gen fun Q HQ => ?_
  go_enter Try.func69, Try.ntmps69
  generalize hn : X.length = n at *
  have Hn := hid hn
  clear hn
  go_wp2
  go_loopw [5] (fun v5 wr => ∃ k : Nat, k ≤ n ∧ v5 = .int .i64 k ∧ Below w.heap.size w wr) (fun v5 _ => n - (intOf v5).toNat)
  case atStart => exact ⟨0, Nat.zero_le _, rfl, ext_refl w⟩
  case round =>
    obtain ⟨k, hk, rfl, hbl⟩ := hrel
    by_cases hlt : k < n
    · have hx : k < X.length := by rw [Hn.out]; exact hlt
      obtain ⟨ad, C1, c1, rfl, a0, a1, a2, p1, p2, hr3⟩ := (hr.ext ruleR_mono hbl).atRule hx
      obtain ⟨ad2, C2, c2, rfl, b0, b1, b2, q1, q2, hr4⟩ := (hr2.ext ruleR_mono hbl).atRule hx
      have Hcall := hid (sameRule_self wr.drew X[k].kind X[k].head C1 C2 c1 c2 X[k].body ⟨C1, c1, rfl, p1, p2, hr3.ext (scR_mono _) (ext_refl wr).drew⟩ ⟨C2, c2, rfl, q1, q2, hr4.ext (scR_mono _) (ext_refl wr).drew⟩)
      have hbd := ext_trans hbl (ext_refl wr).drew
      generalize X[k].kind = kd at *
      generalize X[k].head = hd at *
      generalize X[k].body = bo at *
      clear hr hr2 hx hr3 hr4
      go_wp2
      go_region_with (go_at_call 99; refine Hcall.out.mono ?_; rintro e w5 ⟨_, rfl, rfl, hb5⟩)
      all_goals
        go_wp2
        go_roundw
        case rel => exact ⟨k + 1, by omega, by go_num, ext_trans hbd hb5⟩
        case measure => simp [intOf]; omega
    · go_wp2
      go_ret
      exact Fin HQ ⟨rfl, hbl⟩

set_option maxHeartbeats 1600000 in
theorem sameTh_self (w : World) (V1 V2 : Value) (T : Th) (h1 : RdTh w V1 T) (h2 : RdTh w V2 T) :
    Calls Try.prog 34 #[V1, V2] w (Ret fun v w' => v = .bool true ∧ Below w.heap.size w w') := by
  have H1 := hid h1
  have H2 := hid h2
  obtain ⟨vF, vR, vB, rfl, hF, hR, hB⟩ := h1
  obtain ⟨uF, uR, uB, rfl, gF, gR, gB⟩ := h2
  have hb1 := ext_alloc w (.cells #[.int .i64 T.lits, vF, vR, vB] 25)
  have hb2 := ext_trans hb1 (ext_alloc _ (.cells #[.int .i64 T.lits, uF, uR, uB] 25))
  obtain ⟨W, HW⟩ : ∃ W, Hid (W = (w.alloc (.cells #[.int .i64 T.lits, vF, vR, vB] 25)).alloc (.cells #[.int .i64 T.lits, uF, uR, uB] 25)) := ⟨_, hid rfl⟩
  rw [← HW.out] at hb2
  have k1 : W.heap[w.heap.size]? = some (.cells #[.int .i64 T.lits, vF, vR, vB] 25 (0, 0)) := by
    rw [HW.out]; exact ((ext_alloc _ _).block _ (by simp)).trans (heap_alloc_new w _)
  have k2 : W.heap[w.heap.size + 1]? = some (.cells #[.int .i64 T.lits, uF, uR, uB] 25 (0, 0)) := by
    rw [HW.out]
    have := heap_alloc_new (w.alloc (.cells #[.int .i64 T.lits, vF, vR, vB] 25)) (.cells #[.int .i64 T.lits, uF, uR, uB] 25)
    rwa [World.size_alloc] at this
  have Hbox : Hid (∀ W', Below W.heap.size W W' → W'.cell? ⟨w.heap.size, 0, none⟩ = some (.int .i64 T.lits) ∧ W'.cell? ⟨w.heap.size, 1, none⟩ = some vF ∧ W'.cell? ⟨w.heap.size, 2, none⟩ = some vR ∧ W'.cell? ⟨w.heap.size, 3, none⟩ = some vB ∧
      W'.cell? ⟨w.heap.size + 1, 0, none⟩ = some (.int .i64 T.lits) ∧ W'.cell? ⟨w.heap.size + 1, 1, none⟩ = some uF ∧ W'.cell? ⟨w.heap.size + 1, 2, none⟩ = some uR ∧ W'.cell? ⟨w.heap.size + 1, 3, none⟩ = some uB) := hid fun W' hb => by
    have e1 := (hb.block _ (lt_of_block k1)).trans k1
    have e2 := (hb.block _ (lt_of_block k2)).trans k2
    refine ⟨?_, ?_, ?_, ?_, ?_, ?_, ?_, ?_⟩
    all_goals first
      | (rw [cell_of_row W' w.heap.size _ _ _ _ e1]; rfl)
      | (rw [cell_of_row W' (w.heap.size + 1) _ _ _ _ e2]; rfl)
  have Hc1 := hid (sameLL_self W vF uF T.foes (hF.ext llR_mono hb2) (gF.ext llR_mono hb2))
  have Hc2 := hid (fun W' (hb : Below W.heap.size W W') => sameRules_self W' vR uR T.rules (hR.ext ruleR_mono (ext_trans hb2 hb)) (gR.ext ruleR_mono (ext_trans hb2 hb)))
  have Hc3 := hid (fun W' (hb : Below W.heap.size W W') => sameLL_self W' vB uB T.beats (hB.ext llR_mono (ext_trans hb2 hb)) (gB.ext llR_mono (ext_trans hb2 hb)))
  have hk : (T.lits == T.lits) = true := by simp
  obtain ⟨a0, a1, a2, a3, c0, c1, c2, c3⟩ := Hbox.out W (ext_refl W)
  have Hb2 := hid hb2
  clear hF hR hB gF gR gB k1 k2 hb1 hb2
  refine post_gen fun Q HQ => ?_
  go_enter Try.func34, Try.ntmps34
  go_wp2_with fail
  rw [← HW.out]
  refine Hc1.out.mono ?_
  rintro e w5 ⟨rfl, m, rfl⟩
  clear a0 a1 a2 a3 c0 c1 c2 c3
  have hb5 := ext_drewN W m
  obtain ⟨a0, a1, a2, a3, c0, c1, c2, c3⟩ := Hbox.out _ hb5
  have Hc2' := hid (Hc2.out _ hb5)
  generalize W.drewN m = W5 at *
  go_wp2_with fail
  refine Hc2'.out.mono ?_
  rintro e w6 ⟨_, rfl, rfl, hb6⟩
  clear a0 a1 a2 a3 c0 c1 c2 c3
  have hb56 := ext_trans hb5 hb6
  obtain ⟨a0, a1, a2, a3, c0, c1, c2, c3⟩ := Hbox.out _ hb56
  have Hc3' := hid (Hc3.out _ hb56)
  go_wp2_with fail
  refine Hc3'.out.mono ?_
  rintro e w7 ⟨rfl, m7, rfl⟩
  go_wp2
  go_ret
  exact Fin HQ ⟨rfl, ext_trans Hb2.out (ext_trans hb56 (ext_drewN _ _))⟩
end Go.Proofs.Lx

namespace Go.Proofs.Lx
open Go Go.RowKit
set_option linter.unusedSimpArgs false
set_option linter.unusedVariables false

/-- Marks that read as X, and an error. -/
def MarksPost (w : World) (X : List Nat) (c : Int) (r : Value) (w' : World) : Prop := ∃ v, r = .tuple #[v, .int .i64 c] ∧ RdMk w' v X ∧ Below w.heap.size w w'
noncomputable def roundX (T : Th) (l : List Int) (M : List Nat) : List Nat := if markedErr T l M.length = 0 then stepM T l M else []
noncomputable def solveX (T : Th) (l : List Int) : List Nat := if givenErr T l = 0 then solveM T l else []
theorem RoundPost.marks {w w' : World} {T : Th} {l : List Int} {M : List Nat} {r : Value} (hM : M.length ≤ 140737488355328) (h : RoundPost w T l M r w') : MarksPost w (roundX T l M) (markedErr T l M.length) r w' := by
  obtain ⟨v, rfl, h1, h2, hb⟩ := h
  refine ⟨v, rfl, ?_, hb⟩
  have hsl : (stepM T l M).length = M.length := roundM_length _ _ _ _
  unfold roundX
  by_cases hc : markedErr T l M.length = 0
  · rw [if_pos hc]
    have ho := h1 hc
    rw [← hsl] at ho
    exact own_marks ho (by rw [hsl]; exact hM)
  · rw [if_neg hc, h2 hc]; exact Rd.nil
theorem SolvePost.marks {w w' : World} {T : Th} {l : List Int} {r : Value} (h : SolvePost w T l r w') : MarksPost w (solveX T l) (givenErr T l) r w' := by
  obtain ⟨v, rfl, h1, h2, hb⟩ := h
  refine ⟨v, rfl, ?_, hb⟩
  unfold solveX
  by_cases hc : givenErr T l = 0
  · rw [if_pos hc]
    obtain ⟨hwf, hr⟩ := givenErr_ok.1 hc
    exact own_marks (h1 hc) (by rw [solve_length]; have := hwf.fl; have := hwf.l1; omega)
  · rw [if_neg hc, h2 hc]; exact Rd.nil
theorem rounds_same {T : Th} {l : List Int} {k j : Nat} (h1 : givenErr T l = 0 → FixAt T l k) (h2 : givenErr T l ≠ 0 → k = 0) (h1' : givenErr T l = 0 → FixAt T l j) (h2' : givenErr T l ≠ 0 → j = 0) : k = j := by
  by_cases hc : givenErr T l = 0
  · exact (h1 hc).one (h1' hc)
  · rw [h2 hc, h2' hc]

theorem sameM_b (w : World) (v1 v2 : Value) (X : List Nat) (h1 : RdMk w v1 X) (h2 : RdMk w v2 X) :
    Calls Try.prog 23 #[v1, v2] w (Ret fun v w' => v = .bool true ∧ Below w.heap.size w w') :=
  (sameM_any w v1 v2 X X h1 h2).mono fun e w' h => h.mono fun v w' ⟨h1, h2⟩ => ⟨by rw [h1, decide_eq_true rfl], h2⟩
theorem sameI_b (w : World) (v1 v2 : Value) (X : List Int) (h1 : RdI w v1 X) (h2 : RdI w v2 X) :
    Calls Try.prog 35 #[v1, v2] w (Ret fun v w' => v = .bool true ∧ Below w.heap.size w w') :=
  (sameI_self w v1 v2 X h1 h2).mono fun e w' ⟨h1, m, h2⟩ => ⟨_, h1, rfl, by rw [h2]; exact ext_drewN w m⟩
set_option maxRecDepth 100000 in
set_option maxHeartbeats 3200000 in
theorem lawRounds_any (w : World) (V vl vm : Value) (T : Th) (l : List Int) (M : List Nat) (hT : RdTh w V T) (hS : Small T) (hl : RdI w vl l) (hl8 : l.length * 8 ≤ 140737488355328) (hm : RdMk w vm M) (h8 : ∀ x ∈ M, x < 256) :
    Calls Try.prog 9 #[V, vl, vm] w (Ret fun v w' => v = .bool true ∧ Below w.heap.size w w') := by
  have HT := hid hT
  have Hm := hid hm
  have Hl := hid hl
  have H8 := hid h8
  have hM : M.length ≤ 140737488355328 := by obtain ⟨_, _, _, _, h, _⟩ := hm; exact h
  obtain ⟨vF, vR, vB, rfl, hF, hR, hB⟩ := hT
  obtain ⟨W1, HW1⟩ : ∃ W1, Hid (W1 = w.alloc (.cells #[.int .i64 T.lits, vF, vR, vB] 25)) := ⟨_, hid rfl⟩
  have hb1 : Below w.heap.size w W1 := by rw [HW1.out]; exact ext_alloc _ _
  have Hbox : Hid (∀ W, Below W1.heap.size W1 W → W.cell? ⟨w.heap.size, 0, none⟩ = some (.int .i64 T.lits) ∧ W.cell? ⟨w.heap.size, 1, none⟩ = some vF ∧ W.cell? ⟨w.heap.size, 2, none⟩ = some vR ∧ W.cell? ⟨w.heap.size, 3, none⟩ = some vB) := hid fun W h => by rw [HW1.out] at h; exact box4 h
  have Hc1 := hid (copyTh_any W1 _ T (HT.out.ext hb1) hS)
  -- the callees, wherever they are met
  have Hci : Hid (∀ W, Below W1.heap.size W1 W → Calls Try.prog 29 #[vl] W (Ret fun r w' => RdI w' r l ∧ Below W.heap.size W w')) := hid fun W h =>
    (copyI_any W vl l (Hl.out.ext (scR_mono _) (ext_trans hb1 h)) hl8).mono fun e w' h => h.mono fun v w' ⟨h1, h2⟩ => ⟨own_rdI h1 (by omega), h2⟩
  have Hcm : Hid (∀ W, Below W1.heap.size W1 W → Calls Try.prog 24 #[vm] W (Ret fun r w' => RdMk w' r M ∧ Below W.heap.size W w')) := hid fun W h =>
    (copyM_any W vm M (Hm.out.ext (scR_mono _) (ext_trans hb1 h))).mono fun e w' h => h.mono fun v w' ⟨h1, h2⟩ => ⟨own_marks h1 hM, h2⟩
  have Hnr : Hid (∀ W V' l' m', RdTh W V' T → RdI W l' l → RdMk W m' M → Calls Try.prog 22 #[V', l', m'] W (Ret (MarksPost W (roundX T l M) (markedErr T l M.length)))) := hid fun W V' l' m' h1 h2 h3 =>
    (roundTop_any W V' l' m' T l M h1 h2 h3 H8.out).mono fun e w' h => h.mono fun v w' h => RoundPost.marks hM h
  have Hrr : Hid (∀ W V' l' m', RdTh W V' T → RdI W l' l → RdMk W m' M → Calls Try.prog 30 #[V', l', m'] W (Ret (MarksPost W (roundX T l M) (markedErr T l M.length)))) := hid fun W V' l' m' h1 h2 h3 =>
    (round15_any W V' l' m' T l M h1 h2 h3 H8.out).mono fun e w' h => h.mono fun v w' h => RoundPost.marks hM h
  have Hns : Hid (∀ W V' l', RdTh W V' T → RdI W l' l → Calls Try.prog 20 #[V', l'] W (Ret (MarksPost W (solveX T l) (givenErr T l)))) := hid fun W V' l' h1 h2 =>
    (solve_any W V' l' T l h1 h2).mono fun e w' h => h.mono fun v w' h => SolvePost.marks h
  have Hrs : Hid (∀ W V' l', RdTh W V' T → RdI W l' l → Calls Try.prog 33 #[V', l'] W (Ret (MarksPost W (solveX T l) (givenErr T l)))) := hid fun W V' l' h1 h2 =>
    (solve15_any W V' l' T l h1 h2).mono fun e w' h => h.mono fun v w' h => SolvePost.marks h
  have Hn := hid (fun W V' l' h1 h2 => nrounds_any W V' l' T l h1 h2)
  have Hr := hid (fun W V' l' h1 h2 => rounds15_any W V' l' T l h1 h2)
  unfold RoundsPost at Hn Hr
  unfold MarksPost at Hnr Hrr Hns Hrs
  have Hsame := hid (fun k j => @rounds_same T l k j)
  have Hnum := hid num_any
  have Hb1 := hid hb1
  clear hF hR hB hm h8 hl hM
  generalize markedErr T l M.length = c at *
  generalize givenErr T l = d at *
  generalize roundX T l M = X at *
  generalize solveX T l = Y at *
  have hcc : (c == c) = true := by simp
  have hdd : (d == d) = true := by simp
  refine post_gen fun Q HQ => ?_
  go_enter Try.func9, Try.ntmps9
  obtain ⟨a0, a1, a2, a3⟩ := Hbox.out W1 (ext_refl W1)
  rw [HW1.out] at a0 a1 a2 a3
  go_wp2_with fail
  rw [← HW1.out]
  refine Hc1.out.mono ?_
  rintro e w2 ⟨V2, rfl, hV2, hb2⟩
  have Hq := hid (Hci.out w2 hb2)
  clear Hc1 a0 a1 a2 a3
  go_wp2_with fail
  refine Hq.out.mono ?_
  rintro e w3 ⟨l2, rfl, hl2, hb3⟩
  have hb23 := ext_trans hb2 hb3
  have Hq := hid (Hcm.out w3 hb23)
  go_wp2_with fail
  refine Hq.out.mono ?_
  rintro e w4 ⟨m2, rfl, hm2, hb4⟩
  have hb24 := ext_trans hb23 hb4
  obtain ⟨uF, uR, uB, rfl, gF, gR, gB⟩ := hV2
  have HV2 : Hid (RdTh w2 (.agg #[.int .i64 T.lits, uF, uR, uB]) T) := hid ⟨_, _, _, rfl, gF, gR, gB⟩
  obtain ⟨AF2, cF2, rfl, _⟩ := gF
  obtain ⟨AR2, cR2, rfl, _⟩ := gR
  obtain ⟨AB2, cB2, rfl, _⟩ := gB
  obtain ⟨W5, HW5⟩ : ∃ W5, Hid (W5 = w4.alloc (.cells #[.int .i64 T.lits, (.slice AF2 T.foes.length cF2), (.slice AR2 T.rules.length cR2), (.slice AB2 T.beats.length cB2)] 25)) := ⟨_, hid rfl⟩
  have hb5 : Below w4.heap.size w4 W5 := by rw [HW5.out]; exact ext_alloc _ _
  have Hbox2 : Hid (∀ W, Below W5.heap.size W5 W → W.cell? ⟨w4.heap.size, 0, none⟩ = some (.int .i64 T.lits) ∧ W.cell? ⟨w4.heap.size, 1, none⟩ = some (.slice AF2 T.foes.length cF2) ∧ W.cell? ⟨w4.heap.size, 2, none⟩ = some (.slice AR2 T.rules.length cR2) ∧ W.cell? ⟨w4.heap.size, 3, none⟩ = some (.slice AB2 T.beats.length cB2)) := hid fun W h => by rw [HW5.out] at h; exact box4 h
  have hb15 := ext_trans hb24 hb5
  have HR : Hid (∀ W, Below W5.heap.size W5 W → RdTh W (.agg #[.int .i64 T.lits, (.slice AF2 T.foes.length cF2), (.slice AR2 T.rules.length cR2), (.slice AB2 T.beats.length cB2)]) T ∧ RdI W l2 l ∧ RdMk W m2 M ∧ RdTh W (.agg #[.int .i64 T.lits, vF, vR, vB]) T ∧ RdI W vl l ∧ RdMk W vm M ∧ Below W1.heap.size W1 W) := hid fun W h => by
    have h1 := ext_trans hb5 h
    have h2 := ext_trans hb4 h1
    have h3 := ext_trans hb3 h2
    have h4 := ext_trans hb2 h3
    have h5 := ext_trans Hb1.out h4
    exact ⟨HV2.out.ext h3, hl2.ext (scR_mono _) h2, hm2.ext (scR_mono _) h1, HT.out.ext h5, Hl.out.ext (scR_mono _) h5, Hm.out.ext (scR_mono _) h5, h4⟩
  clear Hq hb2 hb3 hb4 hb5 hb23 hb24 hb15 hb1 hl2 hm2
  obtain ⟨a0, a1, a2, a3⟩ := Hbox2.out W5 (ext_refl W5)
  rw [HW5.out] at a0 a1 a2 a3
  go_wp2_with fail
  rw [← HW5.out]
  have hr6 := HR.out W5 (ext_refl W5)
  have hB6 := Hbox2.out W5 (ext_refl W5)
  have Hc6 := hid (Hnr.out W5 _ _ _ hr6.1 hr6.2.1 hr6.2.2.1)
  obtain ⟨a0, a1, a2, a3⟩ := hB6
  clear hr6
  refine Hc6.out.mono ?_
  rintro e w6 ⟨_, rfl, xa, rfl, ha6, hb6⟩
  have hq6 := ext_trans (ext_refl W5) hb6
  clear Hc6 a0 a1 a2 a3
  have Ha6 := hid ha6; clear ha6
  have hr7 := HR.out w6 hq6
  have hB7 := Hbox.out w6 hr7.2.2.2.2.2.2
  have Hc7 := hid (Hrr.out w6 _ _ _ hr7.2.2.2.1 hr7.2.2.2.2.1 hr7.2.2.2.2.2.1)
  obtain ⟨a0, a1, a2, a3⟩ := hB7
  clear hr7
  go_wp2_with fail
  refine Hc7.out.mono ?_
  rintro e w7 ⟨_, rfl, xb, rfl, hb7x, hb7⟩
  have hq7 := ext_trans hq6 hb7
  clear Hc7 a0 a1 a2 a3
  have Hb7 := hid hb7x; clear hb7x
  have hr8 := HR.out w7 hq7
  have hB8 := Hbox2.out w7 hq7
  have Hc8 := hid (Hn.out w7 _ _ hr8.1 hr8.2.1)
  obtain ⟨a0, a1, a2, a3⟩ := hB8
  clear hr8
  go_wp2_with fail
  refine Hc8.out.mono ?_
  rintro e w8 ⟨_, rfl, k1, rfl, f1, f2, hb8⟩
  have hq8 := ext_trans hq7 hb8
  clear Hc8 a0 a1 a2 a3
  have hr9 := HR.out w8 hq8
  have hB9 := Hbox.out w8 hr9.2.2.2.2.2.2
  have Hc9 := hid (Hr.out w8 _ _ hr9.2.2.2.1 hr9.2.2.2.2.1)
  obtain ⟨a0, a1, a2, a3⟩ := hB9
  clear hr9
  go_wp2_with fail
  refine Hc9.out.mono ?_
  rintro e w9 ⟨_, rfl, k2, rfl, g1, g2, hb9⟩
  have hq9 := ext_trans hq8 hb9
  clear Hc9 a0 a1 a2 a3
  obtain rfl : k1 = k2 := Hsame.out k1 k2 f1 f2 g1 g2
  clear f1 f2 g1 g2
  have hr10 := HR.out w9 hq9
  have hB10 := Hbox2.out w9 hq9
  have Hc10 := hid (Hns.out w9 _ _ hr10.1 hr10.2.1)
  obtain ⟨a0, a1, a2, a3⟩ := hB10
  clear hr10
  go_wp2_with fail
  refine Hc10.out.mono ?_
  rintro e w10 ⟨_, rfl, xc, rfl, hc10, hb10⟩
  have hq10 := ext_trans hq9 hb10
  clear Hc10 a0 a1 a2 a3
  have Hc10x := hid hc10; clear hc10
  have hr11 := HR.out w10 hq10
  have hB11 := Hbox.out w10 hr11.2.2.2.2.2.2
  have Hc11 := hid (Hrs.out w10 _ _ hr11.2.2.2.1 hr11.2.2.2.2.1)
  obtain ⟨a0, a1, a2, a3⟩ := hB11
  clear hr11
  go_wp2_with fail
  refine Hc11.out.mono ?_
  rintro e w11 ⟨_, rfl, xd, rfl, hd11, hb11⟩
  have hq11 := ext_trans hq10 hb11
  clear Hc11 a0 a1 a2 a3
  have Hd11 := hid hd11; clear hd11
  have hkk : ((k1 : Int) == (k1 : Int)) = true := by simp
  have e6 : Below w6.heap.size w6 w11 := ext_trans hb7 (ext_trans hb8 (ext_trans hb9 (ext_trans hb10 hb11)))
  have e7 : Below w7.heap.size w7 w11 := ext_trans hb8 (ext_trans hb9 (ext_trans hb10 hb11))
  have e10 : Below w10.heap.size w10 w11 := hb11
  have Hs1 := hid (sameM_b w11 xa xb X (Ha6.out.ext (scR_mono _) e6) (Hb7.out.ext (scR_mono _) e7))
  go_wp2_with fail
  refine Hs1.out.mono ?_
  rintro e w12 ⟨_, rfl, rfl, hb12⟩
  have Hs2 := hid (sameM_b w12 xc xd Y (Hc10x.out.ext (scR_mono _) (ext_trans e10 hb12)) (Hd11.out.ext (scR_mono _) hb12))
  have hq12 := ext_trans hq11 hb12
  clear Hs1
  go_wp2_with (go_at_call 21; refine (Hnum.out _ _).mono ?_; rintro e w' ⟨_, rfl, rfl, hw9⟩; rw [hw9]; clear hw9 w')
  refine Hs2.out.mono ?_
  rintro e w13 ⟨_, rfl, rfl, hb13⟩
  have hq13 := ext_trans hq12 hb13
  have hr := HR.out w13 hq13
  obtain ⟨a0, a1, a2, a3⟩ := Hbox2.out w13 hq13
  obtain ⟨b0, b1, b2, b3⟩ := Hbox.out w13 hr.2.2.2.2.2.2
  have Hs3 := hid (sameTh_self w13 _ _ T hr.1 hr.2.2.2.1)
  clear Hs2 hr
  go_wp2_with (go_at_call 21; refine (Hnum.out _ _).mono ?_; rintro e w' ⟨_, rfl, rfl, hw9⟩; rw [hw9]; clear hw9 w')
  refine Hs3.out.mono ?_
  rintro e w14 ⟨_, rfl, rfl, hb14⟩
  have hq14 := ext_trans hq13 hb14
  have hr := HR.out w14 hq14
  have Hs4 := hid (sameI_b w14 _ _ l hr.2.1 hr.2.2.2.2.1)
  clear a0 a1 a2 a3 b0 b1 b2 b3 Hs3 hr
  go_wp2_with fail
  refine Hs4.out.mono ?_
  rintro e w15 ⟨_, rfl, rfl, hb15⟩
  have hq15 := ext_trans hq14 hb15
  have hr := HR.out w15 hq15
  have Hs5 := hid (sameM_b w15 _ _ M hr.2.2.1 hr.2.2.2.2.2.1)
  clear Hs4 hr
  go_wp2_with fail
  refine Hs5.out.mono ?_
  rintro e w16 ⟨_, rfl, rfl, hb16⟩
  have hq16 := ext_trans hq15 hb16
  have Hal := hid (alive_any w16)
  clear Hs5
  go_wp2_with fail
  refine Hal.out.mono ?_
  rintro e w17 ⟨_, rfl, rfl, hb17⟩
  have hq17 := ext_trans hq16 hb17
  have hfin := (HR.out w17 hq17).2.2.2.2.2.2
  go_wp2_with fail
  go_ret
  exact Fin HQ ⟨rfl, ext_trans Hb1.out hfin⟩
end Go.Proofs.Lx
