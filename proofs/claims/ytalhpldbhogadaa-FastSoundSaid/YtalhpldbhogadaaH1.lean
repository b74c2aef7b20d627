/- Parts of the proof: Wh. FastSound: the walk. -/
import Derived.Test.YtalhpldbhogadaaB47
import Derived.Test.YtalhpldbhogadaaB44
namespace Go.Proofs.Lx
open Go Go.RowKit Go.Proofs.Tj
set_option linter.unusedSimpArgs false
set_option linter.unusedVariables false
/-- Run's answer, to a law: an error and nothing, or the marks. -/
theorem fsolved (w : World) (V vl : Value) (T : Th) (l : List Int) (hT : RdTh w V T) (hl : RdI w vl l) :
    Calls Try.prog 36 #[V, vl] w (Ret fun r w' => (∃ c : Int, c ≠ 0 ∧ r = .tuple #[.slice none 0 0, .int .i64 c] ∧ Below w.heap.size w w') ∨
      (∃ A cap, r = .tuple #[.slice A (solveM T l).length cap, .int .i64 0] ∧ WfTh T ∧ risB l T.lits = true ∧ RdMk w' (.slice A (solveM T l).length cap) (solveM T l) ∧ Below w.heap.size w w')) := by
  refine (frunTop_any w V vl T l hT hl).mono fun e w' h => h.mono ?_
  rintro _ w' ⟨v, rfl, h1, h2, hb⟩
  by_cases hc : givenErr T l = 0
  · right
    have ho := h1 hc
    obtain ⟨hwf, hr⟩ := givenErr_ok.1 hc
    have hlen : (solveM T l).length ≤ 140737488355328 := by rw [solve_length]; have := hwf.fl; have := hwf.l1; omega
    obtain ⟨A, cap, rfl, h3⟩ := own_marks ho hlen
    exact ⟨A, cap, by rw [hc], hwf, hr, ⟨A, cap, rfl, h3⟩, hb⟩
  · left
    rw [h2 hc]
    exact ⟨_, hc, rfl, hb⟩
theorem and_nat16 (x m : Nat) (hx : x < 256) (hm : m < 256) : bits .and .u8 (x : Int) (m : Int) = ((x &&& m : Nat) : Int) := (bits_nat .u8 8 (by decide) wraps_u8 x m hx hm).1
def Six16 (x : Nat) : Prop := x = 0 ∨ x = 2 ∨ x = 4 ∨ x = 5 ∨ x = 6 ∨ x = 10
theorem six16_lt {x : Nat} (h : Six16 x) : x < 256 := by rcases h with rfl | rfl | rfl | rfl | rfl | rfl <;> decide
/-- What the law asks of a literal's marks. -/
def FitS (x : Nat) : Prop := x ≤ 15 ∧ (bits .and .u8 (x : Int) 3 == 3) = false ∧ (bits .and .u8 (x : Int) 12 == 12) = false ∧
  ((bits .and .u8 (x : Int) 1 == 1) = false ∨ (bits .and .u8 (x : Int) 1 == 1) = true ∧ (bits .and .u8 (x : Int) 4 == 0) = false) ∧
  ((bits .and .u8 (x : Int) 8 == 8) = false ∨ (bits .and .u8 (x : Int) 8 == 8) = true ∧ (bits .and .u8 (x : Int) 2 == 0) = false)
theorem fitS {x : Nat} (h : Six16 x) : FitS x := by
  have e : ∀ m : Nat, m < 256 → bits .and .u8 (x : Int) (m : Int) = ((x &&& m : Nat) : Int) := fun m hm => and_nat16 x m (six16_lt h) hm
  have e1 : bits .and .u8 (x : Int) 1 = _ := e 1 (by decide)
  have e2 : bits .and .u8 (x : Int) 2 = _ := e 2 (by decide)
  have e3 : bits .and .u8 (x : Int) 3 = _ := e 3 (by decide)
  have e4 : bits .and .u8 (x : Int) 4 = _ := e 4 (by decide)
  have e8 : bits .and .u8 (x : Int) 8 = _ := e 8 (by decide)
  have e12 : bits .and .u8 (x : Int) 12 = _ := e 12 (by decide)
  unfold FitS
  rw [e1, e2, e3, e4, e8, e12]
  rcases h with rfl | rfl | rfl | rfl | rfl | rfl <;> decide
/-- What the law asks of two foes' marks. -/
def FitT (x y : Nat) : Prop := (bits .and .u8 (x : Int) 4 == 4) = false ∨ (bits .and .u8 (x : Int) 4 == 4) = true ∧ (bits .and .u8 (y : Int) 4 == 4) = false ∨ (bits .and .u8 (x : Int) 4 == 4) = true ∧ (bits .and .u8 (y : Int) 4 == 4) = true ∧ (bits .and .u8 (x : Int) 1 == 0) = false
theorem fitT {T : Th} {l : List Int} (hwf : WfTh T) {i j : Nat} (hi : i < T.foes.length) (hj : (j : Int) ∈ T.foes[i]) (hi2 : i < (solveM T l).length) (hj2 : j < (solveM T l).length) : FitT (solveM T l)[i] (solveM T l)[j] := by
  have s1 : Six16 (solveM T l)[i] := solve_six T l i hi2
  have s2 : Six16 (solveM T l)[j] := solve_six T l j hj2
  have hh : ∀ k q (hq : q < (solveM T l).length), hasM (solveM T l) k (q : Int) = (solveM T l)[q].testBit k := by intro k q hq; unfold hasM; simp [hq]
  have hc := consist (l := l) hwf hi hj
  rw [hh _ _ hi2, hh _ _ hj2, hh _ _ hi2] at hc
  generalize (solveM T l)[i] = x at *
  generalize (solveM T l)[j] = y at *
  have e1 : bits .and .u8 (x : Int) 1 = _ := and_nat16 x 1 (six16_lt s1) (by decide)
  have e2 : bits .and .u8 (x : Int) 4 = _ := and_nat16 x 4 (six16_lt s1) (by decide)
  have e3 : bits .and .u8 (y : Int) 4 = _ := and_nat16 y 4 (six16_lt s2) (by decide)
  unfold FitT
  rw [e1, e2, e3]
  by_cases h1 : x.testBit 2 = true
  · by_cases h2 : y.testBit 2 = true
    · have h3 := (hc h1 h2).1
      right; right
      refine ⟨?_, ?_, ?_⟩
      · clear hc h3 e1 e2 e3; rcases s1 with rfl | rfl | rfl | rfl | rfl | rfl <;> revert h1 <;> decide
      · clear hc h3 e1 e2 e3; rcases s2 with rfl | rfl | rfl | rfl | rfl | rfl <;> revert h2 <;> decide
      · clear hc e1 e2 e3; rcases s1 with rfl | rfl | rfl | rfl | rfl | rfl <;> revert h3 <;> decide
    · right; left
      refine ⟨?_, ?_⟩
      · clear hc e1 e2 e3; rcases s1 with rfl | rfl | rfl | rfl | rfl | rfl <;> revert h1 <;> decide
      · clear hc e1 e2 e3; rcases s2 with rfl | rfl | rfl | rfl | rfl | rfl <;> revert h2 <;> decide
  · left
    clear hc e1 e2 e3; rcases s1 with rfl | rfl | rfl | rfl | rfl | rfl <;> revert h1 <;> decide
set_option maxRecDepth 100000 in
set_option maxHeartbeats 3200000 in
theorem lawSound_any (w : World) (V vl : Value) (T : Th) (l : List Int) (hT : RdTh w V T) (hl : RdI w vl l) :
    Calls Try.prog 11 #[V, vl] w (Ret fun v w' => v = .bool true ∧ Below w.heap.size w w') := by
  have HT := hid hT
  obtain ⟨vF, vR, vB, rfl, ⟨AF, cF, rfl, hcF, hbF, hrF⟩, hR, hB⟩ := hT
  have hbel := ext_alloc w (.cells #[.int .i64 T.lits, .slice AF T.foes.length cF, vR, vB] 25)
  have Hal := hid (works_any (w.alloc (.cells #[.int .i64 T.lits, .slice AF T.foes.length cF, vR, vB] 25)))
  clear hR hB
  refine post_gen fun Q HQ => ?_
  go_enter Try.func11, Try.ntmps11
  go_wp2_with fail
  refine Hal.out.mono ?_
  rintro e w2 ⟨_, rfl, rfl, hb2'⟩
  obtain ⟨b0, b1, b2, b3⟩ := box4 hb2'
  have hb2 := ext_trans hbel hb2'
  have Hs := hid (fsolved w2 _ vl T l (HT.out.ext hb2) (hl.ext (scR_mono _) hb2))
  clear hb2'
  go_wp2_with fail
  refine Hs.out.mono ?_
  rintro e w3 ⟨_, rfl, hs⟩
  rcases hs with ⟨c, hc, rfl, hb3⟩ | ⟨A, cap, rfl, hwf, hr, hrd, hb3⟩
  · have hne : (c != 0) = true := by simp [hc]
    go_wp2
    go_ret
    exact Fin HQ ⟨rfl, ext_trans hb2 hb3⟩
  · have b0' := cell_ext hb3 b0
    have b1' := cell_ext hb3 b1
    have hlen : Hid ((solveM T l).length = T.foes.length) := hid (solve_length T l)
    have hn : T.foes.length ≤ 4096 := by have := hwf.fl; have := hwf.l1; omega
    have hnl : ((T.foes.length : Int) != T.lits) = false := by have := hwf.fl; simp [this]
    have Hbl := hid (ext_trans hb2 hb3)
    have Hwf := hid hwf
    obtain ⟨A', c', e, hc1, hc2, hrc⟩ := hrd
    cases e
    have hrF3 := hrF.ext llR_mono Hbl.out
    clear hwf hr Hs hb2 hb3 b0 b1 b2 b3
    rw [hlen.out]
    rw [hlen.out] at hc1
    generalize hnn : T.foes.length = n at *
    have Hnn := hid hnn
    clear hnn
    go_wp2
    go_loopw [7] (fun v7 wr => ∃ k : Nat, k ≤ n ∧ v7 = .int .i64 k ∧ Below w3.heap.size w3 wr) (fun v7 _ => n - (intOf v7).toNat)
    case atStart => exact ⟨0, Nat.zero_le _, rfl, Below.refl _ _⟩
    case round =>
      obtain ⟨k, hk, rfl, hbl⟩ := hrel
      by_cases hlt : k < n
      · have hlt2 : k < (solveM T l).length := by rw [hlen.out]; exact hlt
        have hlt3 : k < T.foes.length := by rw [Hnn.out]; exact hlt
        obtain ⟨ad, rfl, hcell⟩ := (hrc.ext (scR_mono _) hbl).at1 hlt2
        obtain ⟨adF, B, cB, rfl, hcF2, hB1, hB2, hrB⟩ := (hrF3.ext llR_mono hbl).atRow hlt3
        have Hi := hid (And.intro hlt2 hlt3)
        have hfoe : Hid (∀ i (h : i < T.foes[k].length), ∃ j : Nat, T.foes[k][i] = (j : Int) ∧ ∃ hj : j < (solveM T l).length, FitT (solveM T l)[k] (solveM T l)[j]) := hid fun i h => by
          obtain ⟨j, hj, e, _⟩ := foe_in Hwf.out hlt3 (List.getElem_mem h)
          have hj2 : j < (solveM T l).length := by rw [hlen.out, ← Hnn.out]; exact hj
          exact ⟨j, e, hj2, fitT Hwf.out hlt3 (by rw [← e]; exact List.getElem_mem h) hlt2 hj2⟩
        obtain ⟨g15, g3, g12, g1, g8⟩ := fitS (solve_six T l k hlt2)
        generalize hX : (solveM T l)[k] = x at *
        generalize hF : T.foes[k] = F at *
        clear hlt2 hlt3 hX hF
        have b1w := cell_ext hbl b1'
        obtain ⟨wo, rfl⟩ : ∃ wo : World, wo = wr := ⟨_, rfl⟩
        rcases g1 with g1 | ⟨g1, g4⟩ <;> rcases g8 with g8 | ⟨g8, g2⟩
        all_goals
          go_wp2
          go_loopw [9] (fun v8 w5 => ∃ m : Nat, m ≤ F.length ∧ v8 = .int .i64 m ∧ Below wo.heap.size wo w5) (fun v8 _ => F.length - (intOf v8).toNat)
          case atStart => exact ⟨0, Nat.zero_le _, rfl, Below.refl _ _⟩
          case round =>
            clear g1 g8 g3 g12 g15
            try clear g4
            try clear g2
            obtain ⟨m, hm, rfl, hbl5⟩ := hrel
            have c1 := cell_ext hbl5 b1w
            have c2 := cell_ext hbl5 hcF2
            have c3 := cell_ext hbl5 hcell
            by_cases hltm : m < F.length
            · obtain ⟨adB, rfl, hcB⟩ := (hrB.ext (scR_mono _) hbl5).at1 hltm
              obtain ⟨j, ej, hj, hfit⟩ := hfoe.out m hltm
              rw [ej] at hcB
              obtain ⟨ad', e', hcj⟩ := (hrc.ext (scR_mono _) (ext_trans hbl hbl5)).at1 hj
              cases e'
              have hjn : j < n := by rw [hlen.out] at hj; exact hj
              generalize hY : (solveM T l)[j] = y at *
              clear ej hj hY
              rcases hfit with h4 | ⟨h4, h5⟩ | ⟨h4, h5, h6⟩
              all_goals
                go_wp2
                go_roundw
                case rel => exact ⟨m + 1, by omega, by go_num, hbl5⟩
                case measure => simp [intOf]; omega
            · go_wp2
              go_roundw
              case rel => exact ⟨k + 1, by omega, by go_num, ext_trans hbl hbl5⟩
              case measure => simp [intOf]; omega
      · go_wp2
        go_ret
        exact Fin HQ ⟨rfl, ext_trans Hbl.out hbl⟩
end Go.Proofs.Lx
