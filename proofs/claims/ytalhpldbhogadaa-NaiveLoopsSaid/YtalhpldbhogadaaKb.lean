/- NaiveCoherent: the walk. -/
import Derived.Test.YtalhpldbhogadaaQa
namespace Go.Proofs.Lx
open Go Go.RowKit
set_option linter.unusedSimpArgs false
set_option linter.unusedVariables false

/-- Solve's answer, to the law: an error and nothing, or the marks. -/
theorem solved (w : World) (V vl : Value) (T : Th) (l : List Int) (hT : RdTh w V T) (hl : RdI w vl l) :
    Calls Try.prog 20 #[V, vl] w (Ret fun r w' => (∃ c : Int, c ≠ 0 ∧ r = .tuple #[.slice none 0 0, .int .i64 c] ∧ Below w.heap.size w w') ∨
      (∃ A cap, r = .tuple #[.slice A (solveM T l).length cap, .int .i64 0] ∧ WfTh T ∧ risB l T.lits = true ∧ RdMk w' (.slice A (solveM T l).length cap) (solveM T l) ∧ w'.ownsRow w.heap.size 33 1 (.slice A (solveM T l).length cap) (solveM T l).length (marksV (solveM T l)) ∧ Below w.heap.size w w')) := by
  refine (solve_any w V vl T l hT hl).mono fun e w' h => h.mono ?_
  rintro _ w' ⟨v, rfl, h1, h2, hb⟩
  by_cases hc : givenErr T l = 0
  · right
    have ho := h1 hc
    obtain ⟨hwf, hr⟩ := givenErr_ok.1 hc
    have hlen : (solveM T l).length ≤ 140737488355328 := by rw [solve_length]; have := hwf.fl; have := hwf.l1; omega
    obtain ⟨A, cap, rfl, h3⟩ := own_marks ho hlen
    exact ⟨A, cap, by rw [hc], hwf, hr, ⟨A, cap, rfl, h3⟩, ho, hb⟩
  · left
    rw [h2 hc]
    exact ⟨_, hc, rfl, hb⟩

theorem and_nat (x m : Nat) (hx : x < 256) (hm : m < 256) : bits .and .u8 (x : Int) (m : Int) = ((x &&& m : Nat) : Int) := (bits_nat .u8 8 (by decide) wraps_u8 x m hx hm).1

set_option maxHeartbeats 1600000 in
theorem coherent_any (w : World) (V vl : Value) (T : Th) (l : List Int) (hT : RdTh w V T) (hl : RdI w vl l) :
    Calls Try.prog 3 #[V, vl] w (Ret fun v w' => v = .bool true ∧ Below w.heap.size w w') := by
  have HT := hid hT
  obtain ⟨vF, vR, vB, rfl, hF, hR, hB⟩ := hT
  have hbel := ext_alloc w (.cells #[.int .i64 T.lits, vF, vR, vB] 25)
  have Hal := hid (alive_any (w.alloc (.cells #[.int .i64 T.lits, vF, vR, vB] 25)))
  clear hF hR hB
  refine post_gen fun Q HQ => ?_
  go_enter Try.func3, Try.ntmps3
  go_wp2_with fail
  refine Hal.out.mono ?_
  rintro e w2 ⟨_, rfl, rfl, hb2'⟩
  obtain ⟨b0, b1, b2, b3⟩ := box4 hb2'
  have hb2 := ext_trans hbel hb2'
  have Hs := hid (solved w2 _ vl T l (HT.out.ext hb2) (hl.ext (scR_mono _) hb2))
  clear hb2'
  go_wp2_with fail
  refine Hs.out.mono ?_
  rintro e w3 ⟨_, rfl, hs⟩
  rcases hs with ⟨c, hc, rfl, hb3⟩ | ⟨A, cap, rfl, hwf, hr, hrd, _, hb3⟩
  · have hne : (c != 0) = true := by simp [hc]
    go_wp2
    go_ret
    exact Fin HQ ⟨rfl, ext_trans hb2 hb3⟩
  · have Hsix := hid (solve_six T l)
    have hlen : Hid ((solveM T l).length ≤ 4096) := by have := solve_length T l; have := hwf.fl; have := hwf.l1; exact hid (by omega)
    have Hbl := hid (ext_trans hb2 hb3)
    obtain ⟨A', c', e, hc1, hc2, hrc⟩ := hrd
    cases e
    clear hwf hr Hs hb2 hb3
    obtain ⟨n, Hn⟩ : ∃ n, Hid ((solveM T l).length = n) := ⟨_, hid rfl⟩
    rw [Hn.out]
    have hn := hlen.out
    rw [Hn.out] at hn
    go_wp2
    go_loopw [7] (fun v7 wr => ∃ k : Nat, k ≤ n ∧ v7 = .int .i64 k ∧ Below w3.heap.size w3 wr) (fun v7 _ => n - (intOf v7).toNat)
    case atStart => exact ⟨0, Nat.zero_le _, rfl, Below.refl _ _⟩
    case round =>
      obtain ⟨k, hk, rfl, hbl⟩ := hrel
      by_cases hlt : k < n
      · have Hm : Hid (∀ x m : Nat, x < 256 → m < 256 → bits .and .u8 (x : Int) (m : Int) = ((x &&& m : Nat) : Int)) := hid and_nat
        have hlt2 : k < (solveM T l).length := by rw [Hn.out]; exact hlt
        obtain ⟨ad, rfl, hcell⟩ := (hrc.ext (scR_mono _) hbl).at1 hlt2
        rcases Hsix.out k hlt2 with h | h | h | h | h | h
        case' inl => have a3 := Hm.out 0 3 (by decide) (by decide); have a12 := Hm.out 0 12 (by decide) (by decide); have a1 := Hm.out 0 1 (by decide) (by decide); have a4 := Hm.out 0 4 (by decide) (by decide); have a8 := Hm.out 0 8 (by decide) (by decide); have a2 := Hm.out 0 2 (by decide) (by decide)
        case' inr.inl => have a3 := Hm.out 2 3 (by decide) (by decide); have a12 := Hm.out 2 12 (by decide) (by decide); have a1 := Hm.out 2 1 (by decide) (by decide); have a4 := Hm.out 2 4 (by decide) (by decide); have a8 := Hm.out 2 8 (by decide) (by decide); have a2 := Hm.out 2 2 (by decide) (by decide)
        case' inr.inr.inl => have a3 := Hm.out 4 3 (by decide) (by decide); have a12 := Hm.out 4 12 (by decide) (by decide); have a1 := Hm.out 4 1 (by decide) (by decide); have a4 := Hm.out 4 4 (by decide) (by decide); have a8 := Hm.out 4 8 (by decide) (by decide); have a2 := Hm.out 4 2 (by decide) (by decide)
        case' inr.inr.inr.inl => have a3 := Hm.out 5 3 (by decide) (by decide); have a12 := Hm.out 5 12 (by decide) (by decide); have a1 := Hm.out 5 1 (by decide) (by decide); have a4 := Hm.out 5 4 (by decide) (by decide); have a8 := Hm.out 5 8 (by decide) (by decide); have a2 := Hm.out 5 2 (by decide) (by decide)
        case' inr.inr.inr.inr.inl => have a3 := Hm.out 6 3 (by decide) (by decide); have a12 := Hm.out 6 12 (by decide) (by decide); have a1 := Hm.out 6 1 (by decide) (by decide); have a4 := Hm.out 6 4 (by decide) (by decide); have a8 := Hm.out 6 8 (by decide) (by decide); have a2 := Hm.out 6 2 (by decide) (by decide)
        case' inr.inr.inr.inr.inr => have a3 := Hm.out 10 3 (by decide) (by decide); have a12 := Hm.out 10 12 (by decide) (by decide); have a1 := Hm.out 10 1 (by decide) (by decide); have a4 := Hm.out 10 4 (by decide) (by decide); have a8 := Hm.out 10 8 (by decide) (by decide); have a2 := Hm.out 10 2 (by decide) (by decide)
        all_goals
          rw [h] at hcell
          clear h
          simp at a3 a12 a1 a4 a8 a2
          go_wp2
          go_roundw
          case rel => exact ⟨k + 1, by omega, by go_num, hbl⟩
          case measure => simp [intOf]; omega
      · go_wp2
        go_ret
        exact Fin HQ ⟨rfl, ext_trans Hbl.out hbl⟩
end Go.Proofs.Lx
