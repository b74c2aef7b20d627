/- NaiveLoops: the walk. -/
import Derived.Test.YtalhpldbhogadaaKr
namespace Go.Proofs.Lx
open Go Go.RowKit
set_option linter.unusedSimpArgs false
set_option linter.unusedVariables false

set_option maxRecDepth 100000 in
set_option maxHeartbeats 3200000 in
theorem loops_any (w : World) (a0 : Int) (wa : (Lit.int .i64 a0).wf = true) :
    Calls Try.prog 5 #[.int .i64 a0] w (Ret fun v w' => v = .bool true ∧ Below w.heap.size w w') := by
  have Hal := hid (alive_any w)
  have hbd : -9223372036854775808 ≤ a0 ∧ a0 ≤ 9223372036854775807 := by simpa [Lit.wf, IntKind.min, IntKind.max, IntKind.signed, IntKind.bits] using wa
  have Hbd := hid hbd
  clear hbd wa
  refine post_gen fun Q HQ => ?_
  go_enter Try.func5, Try.ntmps5
  go_wp2_with fail
  refine Hal.out.mono ?_
  rintro e w2 ⟨_, rfl, rfl, hb2⟩
  have hr : -50 < a0.tmod 50 ∧ a0.tmod 50 < 50 := by
    have h1 := Int.natAbs_tmod a0 50
    have h2 := Nat.mod_lt a0.natAbs (show 0 < (50 : Int).natAbs by decide)
    rw [← h1] at h2
    have h3 : (50 : Int).natAbs = 50 := by decide
    omega
  go_wp2_with fail
  all_goals
    generalize a0.tmod 50 = r at *
    obtain ⟨n, hn1, hn2, e⟩ : ∃ n : Nat, 1 ≤ n ∧ n ≤ 50 ∧ (r < 0 → -r + 1 = (n : Int)) ∧ (0 ≤ r → r + 1 = (n : Int)) := by
      by_cases h0 : r < 0
      · exact ⟨(1 - r).toNat, by omega, by omega, fun _ => by omega, fun _ => by omega⟩
      · exact ⟨(1 + r).toNat, by omega, by omega, fun _ => by omega, fun _ => by omega⟩
    have hmk := mkL n (by omega) (by omega)
    rw [Int.toNat_natCast] at hmk
    first
      | rw [e.1 (by assumption)]
      | rw [e.2 (by assumption)]
    clear e
    go_cut [3] (fun v3 wx => ∃ b gF gB, v3 = .pointer (some ⟨b, 0, none⟩) ∧ RG w2 wx n b gF gB (.slice none 0 0) 0 [])
    case first =>
      go_region
      all_goals
        go_wp2_with fail
        go_meet
        first
          | exact ⟨_, _, _, rfl, RG.start0 _ _⟩
          | exact ⟨_, _, _, rfl, RG.start1 _ _⟩
          | exact ⟨_, _, _, rfl, RG.start2 _ _⟩
          | exact ⟨_, _, _, rfl, RG.start3 _ _⟩
          | exact ⟨_, _, _, rfl, RG.start4 _ _⟩
          | exact ⟨_, _, _, rfl, RG.start5 _ _⟩
    case rest =>
      obtain ⟨b, gF, gB, rfl, hrg⟩ := hcut
      go_wp2
      go_loopw [4] (fun v4 wr => ∃ (k : Nat) (v : Value) (cs : List Value), k ≤ n ∧ v4 = .int .i64 k ∧ RG w2 wr n b gF gB v k cs) (fun v4 _ => n - (intOf v4).toNat)
      case atStart => exact ⟨0, _, _, Nat.zero_le _, rfl, hrg⟩
      case round =>
        clear hrg
        obtain ⟨k, v, cs, hk, rfl, hrg⟩ := hrel
        by_cases hlt : k < n
        · go_wp2
          refine loops_R11 w2 wr n b gF gB k v cs hrg hlt hn2 _ _ _ _ _ _ _ _ _ _ _ _ _ _ _ _ _ _ _ _ _ _ _ _ _ _ _ _ _ _ _ _ _ _ _ _ _ _ _ _ _ _ _ _ _ _ _ _ _ _ _ _ _ _ _ _ _ _ _ _ _ _ _ _ _ _ _ _ _ _ _ _ _ _ _ _ _ _ _ _ _ _ _ _ _ _ _ _ _ _ _ _ _ _ _ _ _ _ _ _ _ ?_
          intro x31 x32 x33 x34 x35 x36 x37 x38 x39 x40 x41 x42 wy v' cs' hrg'
          go_wp2
          go_roundw
          case rel => exact ⟨k + 1, v', cs', by omega, by (try simp), hrg'⟩
          case measure => simp [intOf]; omega
        · obtain rfl : k = n := by omega
          obtain ⟨m, rfl⟩ : ∃ m, k = m + 1 := ⟨k - 1, by omega⟩
          obtain ⟨gv, cv, rfl⟩ := own_form3 hrg.own
          have hcv : m + 1 ≤ cv := by
            rcases hrg.own.2 with ⟨_, h⟩ | ⟨g, c, _, e, _, _, h, _⟩
            · omega
            · cases e; exact h
          have hS := solve_any wr _ (.slice none 0 0) (ringTh (m + 1) (m + 1)) [] (hrg.theory (Nat.le_refl _) (Nat.le_refl _) hn2 (fun _ _ _ => rfl) hcv) Rd.nil
          rw [givenErr_ok.2 ⟨ring_wf (by omega) hn2 (Nat.le_refl _), rfl⟩, ring_solve (by omega)] at hS
          have c0 : wr.cell? ⟨b, 0, none⟩ = some _ := cell_of_row wr b 0 _ _ _ hrg.box
          have c1 : wr.cell? ⟨b, 1, none⟩ = some _ := cell_of_row wr b 1 _ _ _ hrg.box
          have c2 : wr.cell? ⟨b, 2, none⟩ = some _ := cell_of_row wr b 2 _ _ _ hrg.box
          have c3 : wr.cell? ⟨b, 3, none⟩ = some _ := cell_of_row wr b 3 _ _ _ hrg.box
          have HS := hid hS
          have Hrg := hid hrg
          clear hS hrg hlt
          go_wp2_with fail
          refine HS.out.mono ?_
          rintro e w3 ⟨_, rfl, vs, rfl, h1, _, hb3⟩
          have ho := h1 trivial
          rw [List.length_replicate] at ho
          obtain ⟨gs, caps, rfl, hgs, hgs2, hcs⟩ := own_all ho (by omega)
          have hs2 : ∀ i, i < m + 1 → w3.cell? ⟨gs, i, none⟩ = some (.int .u8 2) := fun i hi => hcs i _ (by simp [marksV, hi])
          have hbr := lt_of_block Hrg.out.box
          have hbx := (hb3.block b hbr).trans Hrg.out.box
          have c2 : w3.cell? ⟨b, 2, none⟩ = some _ := cell_of_row w3 b 2 _ _ _ hbx
          have f2 := frozen_of_row w3 b 2 _ _ hbx
          have hbx2 : ∀ u, (w3.setCell ⟨b, 2, none⟩ u).heap[b]? = some (.cells #[.int .i64 ((m + 1 : Nat) : Int), .slice (some ⟨gF, 0, none⟩) (m + 1) (m + 1), u, .slice (some ⟨gB, 0, none⟩) (m + 1) (m + 1)] 25 (0, 0)) := fun u => by
            rw [heap_setCell_same w3 b 2 _ _ _ hbx]; rfl
          have c3 : ∀ u, (w3.setCell ⟨b, 2, none⟩ u).cell? ⟨b, 3, none⟩ = some (.slice (some ⟨gB, 0, none⟩) (m + 1) (m + 1)) := fun u => cell_of_row _ b 3 _ _ _ (hbx2 u)
          have f3 : ∀ u, (w3.setCell ⟨b, 2, none⟩ u).frozen? ⟨b, 3, none⟩ = false := fun u => frozen_of_row _ b 3 _ _ (hbx2 u)
          have hbx3 : ∀ u u', ((w3.setCell ⟨b, 2, none⟩ u).setCell ⟨b, 3, none⟩ u').heap[b]? = some (.cells #[.int .i64 ((m + 1 : Nat) : Int), .slice (some ⟨gF, 0, none⟩) (m + 1) (m + 1), u, u'] 25 (0, 0)) := fun u u' => by
            rw [heap_setCell_same _ b 3 _ _ _ (hbx2 u)]; rfl
          have d0 : ∀ u u', ((w3.setCell ⟨b, 2, none⟩ u).setCell ⟨b, 3, none⟩ u').cell? ⟨b, 0, none⟩ = some (.int .i64 ((m : Int) + 1)) := fun u u' => cell_of_row _ b 0 _ _ _ (hbx3 u u')
          have d1 : ∀ u u', ((w3.setCell ⟨b, 2, none⟩ u).setCell ⟨b, 3, none⟩ u').cell? ⟨b, 1, none⟩ = some (.slice (some ⟨gF, 0, none⟩) (m + 1) (m + 1)) := fun u u' => cell_of_row _ b 1 _ _ _ (hbx3 u u')
          have d2 : ∀ u u', ((w3.setCell ⟨b, 2, none⟩ u).setCell ⟨b, 3, none⟩ u').cell? ⟨b, 2, none⟩ = some u := fun u u' => cell_of_row _ b 2 _ _ _ (hbx3 u u')
          have d3 : ∀ u u', ((w3.setCell ⟨b, 2, none⟩ u).setCell ⟨b, 3, none⟩ u').cell? ⟨b, 3, none⟩ = some u' := fun u u' => cell_of_row _ b 3 _ _ _ (hbx3 u u')
          have hW4 : ∀ g, g ≠ b → g < wr.heap.size → ((w3.setCell ⟨b, 2, none⟩ (.slice (some ⟨gv, 0, none⟩) m cv)).setCell ⟨b, 3, none⟩ (.slice (some ⟨gB, 0, none⟩) m (m + 1))).heap[g]? = wr.heap[g]? := fun g hg hgl => by
            rw [heap_setCell_other _ _ g _ (by exact hg), heap_setCell_other _ _ g _ (by exact hg)]; exact hb3.block g hgl
          have hS2 := solve_any ((w3.setCell ⟨b, 2, none⟩ (.slice (some ⟨gv, 0, none⟩) m cv)).setCell ⟨b, 3, none⟩ (.slice (some ⟨gB, 0, none⟩) m (m + 1))) _ (.slice none 0 0) (ringTh (m + 1) m) [] (Hrg.out.theory (by omega) (Nat.le_refl _) hn2 hW4 hcv) Rd.nil
          have hch : solveM (ringTh (m + 1) m) [] = List.replicate (m + 1) 10 := chain_solve (n := m + 1) (by omega)
          rw [givenErr_ok.2 ⟨ring_wf (by omega) hn2 (by omega), rfl⟩, hch] at hS2
          have HS2 := hid hS2
          have hcv0 : ¬ cv = 0 := by omega
          have hmcv : (m : Int) ≤ (cv : Int) := by omega
          have Hs2 := hid hs2
          have hbw : Below w2.heap.size w2 ((w3.setCell ⟨b, 2, none⟩ (.slice (some ⟨gv, 0, none⟩) m cv)).setCell ⟨b, 3, none⟩ (.slice (some ⟨gB, 0, none⟩) m (m + 1))) := ((ext_trans Hrg.out.old hb3).setCell (by have := Hrg.out.ne; dsimp only; omega) _).setCell (by have := Hrg.out.ne; dsimp only; omega) _
          have Hbw := hid hbw
          have Hgs : Hid (gs ≠ b ∧ gs < w3.heap.size) := hid ⟨by omega, hgs2⟩
          clear hS2 hs2 hcs ho h1 HS hbx hbx2 hbx3 hW4 hch hbw hgs hgs2 hb3
          go_wp2_with fail
          refine HS2.out.mono ?_
          rintro e w5 ⟨_, rfl, vu, rfl, h1, _, hb5⟩
          have ho := h1 trivial
          rw [List.length_replicate] at ho
          obtain ⟨gu, capu, rfl, _, _, hcu⟩ := own_all ho (by omega)
          have hu2 : ∀ i, i < m + 1 → w5.cell? ⟨gu, i, none⟩ = some (.int .u8 10) := fun i hi => hcu i _ (by simp [marksV, hi])
          have hs5 : ∀ i, i < m + 1 → w5.cell? ⟨gs, i, none⟩ = some (.int .u8 2) := fun i hi => by
            rw [← Hs2.out i hi]
            refine World.cell?_of_block ?_
            show w5.heap[gs]? = w3.heap[gs]?
            rw [hb5.block gs (by simp only [World.size_setCell]; exact Hgs.out.2), heap_setCell_other _ _ gs _ (by exact Hgs.out.1), heap_setCell_other _ _ gs _ (by exact Hgs.out.1)]
          have Hu := hid (And.intro hu2 hs5)
          have Hb5 := hid (ext_trans hb2 (ext_trans Hbw.out hb5))
          clear hcu ho h1 hu2 hs5 HS2 d0 d1 d2 d3 c2 c3 f2 f3 hb5
          go_wp2
          go_loopw [9] (fun v9 w6 => ∃ i : Nat, i ≤ m + 1 ∧ v9 = .int .i64 i ∧ Below w5.heap.size w5 w6) (fun v9 _ => m + 1 - (intOf v9).toNat)
          case atStart => exact ⟨0, Nat.zero_le _, rfl, Below.refl _ _⟩
          case round =>
            obtain ⟨i, hi, rfl, hbl⟩ := hrel
            by_cases hlt : i < m + 1
            · have cs := cell_ext hbl (Hu.out.2 i hlt)
              have cu := cell_ext hbl (Hu.out.1 i hlt)
              go_wp2
              go_roundw
              case rel => exact ⟨i + 1, by omega, by go_num, hbl⟩
              case measure => simp [intOf]; omega
            · go_wp2
              go_ret
              exact Fin HQ ⟨rfl, ext_trans Hb5.out hbl⟩
end Go.Proofs.Lx
