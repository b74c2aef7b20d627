/- NaiveOwn: the walk. -/
import Derived.Test.YtalhpldbhogadaaKb
import Derived.Test.YtalhpldbhogadaaPl
namespace Go.Proofs.Lx
open Go Go.RowKit
set_option linter.unusedSimpArgs false
set_option linter.unusedVariables false

/-- Marks in memory of the call's own. -/
def Answer (w w' : World) (r : Value) : Prop := ∃ (A : Option Addr) (cap : Nat) (X : List Nat) (c : Int), r = .tuple #[.slice A X.length cap, .int .i64 c] ∧ X.length ≤ 140737488355328 ∧ w'.ownsRow w.heap.size 33 1 (.slice A X.length cap) X.length (marksV X) ∧ RdMk w' (.slice A X.length cap) X ∧ Below w.heap.size w w'
theorem solve_answer (w : World) (V vl : Value) (T : Th) (l : List Int) (hT : RdTh w V T) (hl : RdI w vl l) :
    Calls Try.prog 20 #[V, vl] w (Ret fun r w' => Answer w w' r) := by
  refine (solve_any w V vl T l hT hl).mono fun e w' h => h.mono ?_
  rintro _ w' ⟨v, rfl, h1, h2, hb⟩
  by_cases hc : givenErr T l = 0
  · have ho := h1 hc
    obtain ⟨hwf, hr⟩ := givenErr_ok.1 hc
    have hlen : (solveM T l).length ≤ 140737488355328 := by rw [solve_length]; have := hwf.fl; have := hwf.l1; omega
    have hm := own_marks ho hlen
    obtain ⟨A, cap, rfl, h3⟩ := own_marks ho hlen
    exact ⟨A, cap, _, _, rfl, hlen, ho, hm, hb⟩
  · rw [h2 hc]
    exact ⟨none, 0, [], _, rfl, by simp, World.ownsRow_nil _ _ _ _, Rd.nil, hb⟩
theorem round_answer (w : World) (V vl vm : Value) (T : Th) (l : List Int) (M : List Nat) (hT : RdTh w V T) (hl : RdI w vl l) (hm : RdMk w vm M) (h8 : ∀ x ∈ M, x < 256) :
    Calls Try.prog 22 #[V, vl, vm] w (Ret fun r w' => Answer w w' r) := by
  refine (roundTop_any w V vl vm T l M hT hl hm h8).mono fun e w' h => h.mono ?_
  rintro _ w' ⟨v, rfl, h1, h2, hb⟩
  have hM : M.length ≤ 140737488355328 := by obtain ⟨_, _, _, _, h, _⟩ := hm; exact h
  have hsl : (stepM T l M).length = M.length := roundM_length _ _ _ _
  by_cases hc : markedErr T l M.length = 0
  · have ho := h1 hc
    rw [← hsl] at ho
    have hlen : (stepM T l M).length ≤ 140737488355328 := by rw [hsl]; exact hM
    have hm := own_marks ho hlen
    obtain ⟨A, cap, rfl, h3⟩ := own_marks ho hlen
    exact ⟨A, cap, _, _, rfl, hlen, ho, hm, hb⟩
  · rw [h2 hc]
    exact ⟨none, 0, [], _, rfl, by simp, World.ownsRow_nil _ _ _ _, Rd.nil, hb⟩
theorem own_set_below {w wr : World} {B e n g cap : Nat} {xs : List Value} (hb : Below B w wr) (h : wr.ownsRow B e 1 (.slice (some ⟨g, 0, none⟩) n cap) n xs) (i : Nat) (u : Value) : Below B w (wr.setCell ⟨g, i, none⟩ u) :=
  hb.setCell (h.lt g rfl).1 u

theorem sameM_self (w : World) (v1 v2 : Value) (X : List Nat) (h1 : RdMk w v1 X) (h2 : RdMk w v2 X) :
    Calls Try.prog 23 #[v1, v2] w (Ret fun v w' => v = .bool true ∧ Below w.heap.size w w') :=
  (sameM_any w v1 v2 X X h1 h2).mono fun e w' h => h.mono fun v w' ⟨hv, hb⟩ => ⟨by rw [hv, decide_eq_true rfl], hb⟩

set_option maxHeartbeats 3200000 in
theorem own_any (w : World) (V vl vm : Value) (T : Th) (l : List Int) (M : List Nat) (hT : RdTh w V T) (hl : RdI w vl l) (hm : RdMk w vm M) (h8 : ∀ x ∈ M, x < 256) :
    Calls Try.prog 7 #[V, vl, vm] w (Ret fun v w' => v = .bool true ∧ Below w.heap.size w w') := by
  have HT := hid hT
  have Hm := hid hm
  have Hl := hid hl
  have H8 := hid h8
  obtain ⟨vF, vR, vB, rfl, hF, hR, hB⟩ := hT
  have hbel := ext_alloc w (.cells #[.int .i64 T.lits, vF, vR, vB] 25)
  have Hal := hid (alive_any (w.alloc (.cells #[.int .i64 T.lits, vF, vR, vB] 25)))
  clear hF hR hB hm h8 hl
  refine post_gen fun Q HQ => ?_
  go_enter Try.func7, Try.ntmps7
  go_wp2_with fail
  refine Hal.out.mono ?_
  rintro e w2 ⟨_, rfl, rfl, hb2'⟩
  obtain ⟨b0, b1, b2, b3⟩ := box4 hb2'
  have hb2 := ext_trans hbel hb2'
  have Hs := hid (solve_answer w2 _ vl T l (HT.out.ext hb2) (Hl.out.ext (scR_mono _) hb2))
  clear hb2' Hal hbel
  go_wp2_with fail
  refine Hs.out.mono ?_
  rintro e w3 ⟨_, rfl, A, capA, X, c, rfl, hXl, _, hX, hb3⟩
  have b0 := cell_ext hb3 b0; have b1 := cell_ext hb3 b1; have b2 := cell_ext hb3 b2; have b3 := cell_ext hb3 b3
  have hb3' := ext_trans hb2 hb3
  have Hr := hid (round_answer w3 _ vl vm T l M (HT.out.ext hb3') (Hl.out.ext (scR_mono _) hb3') (Hm.out.ext (scR_mono _) hb3') H8.out)
  clear Hs
  go_wp2_with fail
  refine Hr.out.mono ?_
  rintro e w4 ⟨_, rfl, B, capB, Y, c2, rfl, hYl, _, hY, hb4⟩
  have b0 := cell_ext hb4 b0; have b1 := cell_ext hb4 b1; have b2 := cell_ext hb4 b2; have b3 := cell_ext hb4 b3
  have hb4' := ext_trans hb3' hb4
  have Hc := hid (copyM_any w4 _ X (hX.ext (scR_mono _) hb4))
  clear Hr
  go_wp2_with fail
  refine Hc.out.mono ?_
  rintro e w5 ⟨x, rfl, hx, hb5⟩
  have hX2 := own_marks hx hXl
  have Hc := hid (copyM_any w5 _ Y (hY.ext (scR_mono _) hb5))
  clear hx
  go_wp2_with fail
  refine Hc.out.mono ?_
  rintro e w6 ⟨y, rfl, hy, hb6⟩
  have hY2 := own_marks hy hYl
  have hb46 := ext_trans hb5 hb6
  have b0 := cell_ext hb46 b0; have b1 := cell_ext hb46 b1; have b2 := cell_ext hb46 b2; have b3 := cell_ext hb46 b3
  have hb6' := ext_trans hb4' hb46
  have Hs := hid (solve_answer w6 _ vl T l (HT.out.ext hb6') (Hl.out.ext (scR_mono _) hb6'))
  have HX1 := hid (hX.ext (scR_mono _) (ext_trans hb4 hb46))
  have HX2 := hid (hX2.ext (scR_mono _) hb6)
  have HY1 := hid (hY.ext (scR_mono _) hb46)
  have HY2 := hid hY2
  clear hy hX hX2 hY hY2 Hc
  go_wp2_with fail
  refine Hs.out.mono ?_
  rintro e w7 ⟨_, rfl, C, capC, Z, c3, rfl, hZl, hZ, _, hb7⟩
  have b0 := cell_ext hb7 b0; have b1 := cell_ext hb7 b1; have b2 := cell_ext hb7 b2; have b3 := cell_ext hb7 b3
  have hb7' := ext_trans hb6' hb7
  have Hr := hid (round_answer w7 _ vl vm T l M (HT.out.ext hb7') (Hl.out.ext (scR_mono _) hb7') (Hm.out.ext (scR_mono _) hb7') H8.out)
  clear Hs
  go_wp2_with fail
  refine Hr.out.mono ?_
  rintro e w8 ⟨_, rfl, D, capD, U, c4, rfl, hUl, hU, _, hb8⟩
  have hZ8 := hZ.kept (row := none) (grown_below hb8 _) (by cases (Value.slice C Z.length capC).ownBlock <;> simp)
  have hlt7 : ∀ g, (Value.slice C Z.length capC).ownBlock = some g → g < w7.heap.size := fun g hg => (hZ.lt g hg).2
  have Hlt7 := hid hlt7
  have hb68 := hid (ext_trans hb7 hb8)
  have HU := hid hU
  have HZ8 := hid hZ8
  generalize marksV Z = zs at *
  generalize marksV U = us at *
  generalize Z.length = nz at *
  generalize U.length = nu at *
  clear hlt7 hU hZ8 hZ Hr b0 b1 b2 b3
  go_wp2
  go_loopw [17] (fun v17 wr => ∃ k : Nat, k ≤ nz ∧ v17 = .int .i64 k ∧ (∃ zs', Hid (wr.ownsRow w6.heap.size 33 1 (.slice C nz capC) nz zs')) ∧ Hid (wr.ownsRow w7.heap.size 33 1 (.slice D nu capD) nu us) ∧ Below w6.heap.size w6 wr) (fun v17 _ => nz - (intOf v17).toNat)
  case atStart => exact ⟨0, Nat.zero_le _, rfl, ⟨_, HZ8⟩, HU, hb68.out⟩
  case round =>
    obtain ⟨k, hk, rfl, ⟨zs', hzs⟩, hus, hbl⟩ := hrel
    by_cases hlt : k < nz
    · obtain ⟨g, cap', e, hg, hcell⟩ := own_at hzs.out hlt (by have := hzs.out.1; omega)
      cases e
      have hfr := own_free hzs.out k
      have hgu : Hid ((Value.slice D nu capD).ownBlock ≠ some g) := hid fun e => by
        have h1 := (hus.out.lt g e).1
        have h2 := Hlt7.out g rfl
        omega
      go_wp2
      go_roundw
      case rel => exact ⟨k + 1, by omega, by go_num, ⟨_, hid (own_set hzs.out k _)⟩, hid (hus.out.kept (grown_set _ _ _ _) (.inr hgu.out)), own_set_below hbl hzs.out k _⟩
      case measure => simp [intOf]; omega
    · obtain ⟨wo, rfl⟩ : ∃ wo : World, wo = wr := ⟨_, rfl⟩
      clear hzs
      go_wp2
      go_loopw [18] (fun v18 w9 => ∃ m : Nat, m ≤ nu ∧ v18 = .int .i64 m ∧ (∃ us', Hid (w9.ownsRow w6.heap.size 33 1 (.slice D nu capD) nu us')) ∧ Below w6.heap.size w6 w9) (fun v18 _ => nu - (intOf v18).toNat)
      case atStart => exact ⟨0, Nat.zero_le _, rfl, ⟨_, hid (own_mono hus.out hb7.size)⟩, hbl⟩
      case round =>
        obtain ⟨m, hm, rfl, ⟨us', hus'⟩, hbl9⟩ := hrel
        by_cases hltm : m < nu
        · obtain ⟨g, cap', e, hg, hcell⟩ := own_at hus'.out hltm (by have := hus'.out.1; omega)
          cases e
          have hfr := own_free hus'.out m
          go_wp2
          go_roundw
          case rel => exact ⟨m + 1, by omega, by go_num, ⟨_, hid (own_set hus'.out m _)⟩, own_set_below hbl9 hus'.out m _⟩
          case measure => simp [intOf]; omega
        · have Hs1 := hid (sameM_self wr _ _ X (HX1.out.ext (scR_mono _) hbl9) (HX2.out.ext (scR_mono _) hbl9))
          go_wp2_with fail
          refine Hs1.out.mono ?_
          rintro e w10 ⟨_, rfl, rfl, hb10⟩
          have hb69 := ext_trans hbl9 hb10
          have Hs2 := hid (sameM_self w10 _ _ Y (HY1.out.ext (scR_mono _) hb69) (HY2.out.ext (scR_mono _) hb69))
          clear Hs1
          go_wp2_with fail
          refine Hs2.out.mono ?_
          rintro e w11 ⟨_, rfl, rfl, hb11⟩
          go_wp2
          go_ret
          exact Fin HQ ⟨rfl, ext_trans hb6' (ext_trans hb69 hb11)⟩
end Go.Proofs.Lx
