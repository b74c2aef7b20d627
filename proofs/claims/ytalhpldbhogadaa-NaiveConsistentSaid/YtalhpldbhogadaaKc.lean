/- NaiveConsistent: the walk. -/
import Derived.Test.YtalhpldbhogadaaKb
namespace Go.Proofs.Lx
open Go Go.RowKit
set_option linter.unusedSimpArgs false
set_option linter.unusedVariables false

def Six (x : Nat) : Prop := x = 0 ∨ x = 2 ∨ x = 4 ∨ x = 5 ∨ x = 6 ∨ x = 10
theorem six_and4 {x : Nat} (h : Six x) : (x.testBit 2 = false ∧ x &&& 4 = 0) ∨ (x.testBit 2 = true ∧ x &&& 4 = 4) := by
  rcases h with rfl | rfl | rfl | rfl | rfl | rfl <;> decide
theorem six_and1 {x : Nat} (h : Six x) (hb : x.testBit 0 = true) : x &&& 1 = 1 := by
  rcases h with rfl | rfl | rfl | rfl | rfl | rfl <;> first | rfl | (revert hb; decide)
theorem six_lt {x : Nat} (h : Six x) : x < 256 := by rcases h with rfl | rfl | rfl | rfl | rfl | rfl <;> decide
/-- What the law asks of two foes' marks. -/
def Fit2 (x y : Nat) : Prop := bits .and .u8 (x : Int) 4 = 0 ∨ bits .and .u8 (x : Int) 4 = 4 ∧ bits .and .u8 (y : Int) 4 = 0 ∨ bits .and .u8 (x : Int) 4 = 4 ∧ bits .and .u8 (y : Int) 4 = 4 ∧ bits .and .u8 (x : Int) 1 = 1 ∧ bits .and .u8 (y : Int) 1 = 1
theorem fit2 {T : Th} {l : List Int} (hwf : WfTh T) {i j : Nat} (hi : i < T.foes.length) (hj : (j : Int) ∈ T.foes[i]) (hi2 : i < (solveM T l).length) (hj2 : j < (solveM T l).length) : Fit2 (solveM T l)[i] (solveM T l)[j] := by
  have s1 : Six (solveM T l)[i] := solve_six T l i hi2
  have s2 : Six (solveM T l)[j] := solve_six T l j hj2
  have e : ∀ (x m : Nat), x < 256 → m < 256 → bits .and .u8 (x : Int) (m : Int) = ((x &&& m : Nat) : Int) := and_nat
  have hh : ∀ k q (hq : q < (solveM T l).length), hasM (solveM T l) k (q : Int) = (solveM T l)[q].testBit k := by intro k q hq; unfold hasM; simp [hq]
  have e1 := e _ 4 (six_lt s1) (by decide)
  have e2 := e _ 4 (six_lt s2) (by decide)
  have e3 := e _ 1 (six_lt s1) (by decide)
  have e4 := e _ 1 (six_lt s2) (by decide)
  unfold Fit2
  rcases six_and4 s1 with ⟨_, h1⟩ | ⟨b1, h1⟩
  · left; rw [h1] at e1; exact e1
  · rcases six_and4 s2 with ⟨_, h2⟩ | ⟨b2, h2⟩
    · right; left; rw [h1] at e1; rw [h2] at e2; exact ⟨e1, e2⟩
    · right; right
      obtain ⟨c1, c2⟩ := consist (l := l) hwf hi hj (by rw [hh _ _ hi2]; exact b1) (by rw [hh _ _ hj2]; exact b2)
      rw [hh _ _ hi2] at c1
      rw [hh _ _ hj2] at c2
      rw [h1] at e1; rw [h2] at e2; rw [six_and1 s1 c1] at e3; rw [six_and1 s2 c2] at e4
      exact ⟨e1, e2, e3, e4⟩

set_option maxHeartbeats 1600000 in
theorem consistent_any (w : World) (V vl : Value) (T : Th) (l : List Int) (hT : RdTh w V T) (hl : RdI w vl l) :
    Calls Try.prog 4 #[V, vl] w (Ret fun v w' => v = .bool true ∧ Below w.heap.size w w') := by
  have HT := hid hT
  obtain ⟨vF, vR, vB, rfl, ⟨AF, cF, rfl, hcF, hbF, hrF⟩, hR, hB⟩ := hT
  have hbel := ext_alloc w (.cells #[.int .i64 T.lits, .slice AF T.foes.length cF, vR, vB] 25)
  have Hal := hid (alive_any (w.alloc (.cells #[.int .i64 T.lits, .slice AF T.foes.length cF, vR, vB] 25)))
  clear hR hB
  refine post_gen fun Q HQ => ?_
  go_enter Try.func4, Try.ntmps4
  go_wp2_with fail
  refine Hal.out.mono ?_
  rintro e w2 ⟨_, rfl, rfl, hb2'⟩
  obtain ⟨b0, b1, b2, b3⟩ := box4 hb2'
  have hb2 := ext_trans hbel hb2'
  have Hs := hid (solved w2 _ vl T l (HT.out.ext hb2) (hl.ext (scR_mono _) hb2))
  clear hb2'
  go_wp2_with fail
  refine Hs.out.mono ?_
  rintro e w3 ⟨_, rfl, hs⟩
  rcases hs with ⟨c, hc, rfl, hb3⟩ | ⟨A, cap, rfl, hwf, hr, hrd, _, hb3⟩
  · have hne : (c != 0) = true := by simp [hc]
    go_wp2
    go_ret
    exact Fin HQ ⟨rfl, ext_trans hb2 hb3⟩
  · have b1' := cell_ext hb3 b1
    have hlen : Hid ((solveM T l).length = T.foes.length) := hid (solve_length T l)
    have hn : T.foes.length ≤ 4096 := by have := hwf.fl; have := hwf.l1; omega
    have Hbl := hid (ext_trans hb2 hb3)
    have Hwf := hid hwf
    obtain ⟨A', c', e, hc1, hc2, hrc⟩ := hrd
    cases e
    have hrF3 := hrF.ext llR_mono Hbl.out
    clear hwf hr Hs hb2 hb3 b0 b1 b2 b3
    rw [hlen.out]
    rw [hlen.out] at hc1
    generalize hnn : T.foes.length = n at *
    have Hnn := hid hnn
    clear hnn
    go_wp2
    go_loopw [7] (fun v7 wr => ∃ k : Nat, k ≤ n ∧ v7 = .int .i64 k ∧ Below w3.heap.size w3 wr) (fun v7 _ => n - (intOf v7).toNat)
    case atStart => exact ⟨0, Nat.zero_le _, rfl, Below.refl _ _⟩
    case round =>
      obtain ⟨k, hk, rfl, hbl⟩ := hrel
      by_cases hlt : k < n
      · have hlt2 : k < (solveM T l).length := by rw [hlen.out]; exact hlt
        have hlt3 : k < T.foes.length := by rw [Hnn.out]; exact hlt
        obtain ⟨ad, rfl, hcell⟩ := (hrc.ext (scR_mono _) hbl).at1 hlt2
        obtain ⟨adF, B, cB, rfl, hcF2, hB1, hB2, hrB⟩ := (hrF3.ext llR_mono hbl).atRow hlt3
        have Hi := hid (And.intro hlt2 hlt3)
        have hfoe : Hid (∀ i (h : i < T.foes[k].length), ∃ j : Nat, T.foes[k][i] = (j : Int) ∧ ∃ hj : j < (solveM T l).length, Fit2 (solveM T l)[k] (solveM T l)[j]) := hid fun i h => by
          obtain ⟨j, hj, e, _⟩ := foe_in Hwf.out hlt3 (List.getElem_mem h)
          have hj2 : j < (solveM T l).length := by rw [hlen.out, ← Hnn.out]; exact hj
          exact ⟨j, e, hj2, fit2 Hwf.out hlt3 (by rw [← e]; exact List.getElem_mem h) hlt2 hj2⟩
        generalize hX : (solveM T l)[k] = x at *
        generalize hF : T.foes[k] = F at *
        clear hlt2 hlt3 hX hF
        have b1w := cell_ext hbl b1'
        obtain ⟨wo, rfl⟩ : ∃ wo : World, wo = wr := ⟨_, rfl⟩
        go_wp2
        go_loopw [8] (fun v8 w5 => ∃ m : Nat, m ≤ F.length ∧ v8 = .int .i64 m ∧ Below wo.heap.size wo w5) (fun v8 _ => F.length - (intOf v8).toNat)
        case atStart => exact ⟨0, Nat.zero_le _, rfl, Below.refl _ _⟩
        case round =>
          obtain ⟨m, hm, rfl, hbl5⟩ := hrel
          have c1 := cell_ext hbl5 b1w
          have c2 := cell_ext hbl5 hcF2
          have c3 := cell_ext hbl5 hcell
          by_cases hltm : m < F.length
          · obtain ⟨adB, rfl, hcB⟩ := (hrB.ext (scR_mono _) hbl5).at1 hltm
            obtain ⟨j, ej, hj, hfit⟩ := hfoe.out m hltm
            rw [ej] at hcB
            obtain ⟨ad', e', hcj⟩ := (hrc.ext (scR_mono _) (ext_trans hbl hbl5)).at1 hj
            cases e'
            have hjn : j < n := by rw [hlen.out] at hj; exact hj
            generalize hY : (solveM T l)[j] = y at *
            clear ej hj hY
            rcases hfit with h4 | ⟨h4, h5⟩ | ⟨h4, h5, h6, h7⟩
            all_goals
              go_wp2
              go_roundw
              case rel => exact ⟨m + 1, by omega, by go_num, hbl5⟩
              case measure => simp [intOf]; omega
          · go_wp2
            go_roundw
            case rel => exact ⟨k + 1, by omega, by go_num, ext_trans hbl hbl5⟩
            case measure => simp [intOf]; omega
      · go_wp2
        go_ret
        exact Fin HQ ⟨rfl, ext_trans Hbl.out hbl⟩
end Go.Proofs.Lx
