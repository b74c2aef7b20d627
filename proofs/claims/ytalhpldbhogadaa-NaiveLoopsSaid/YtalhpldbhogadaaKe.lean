/- NaiveLeast: the walk. -/
import Derived.Test.YtalhpldbhogadaaKd
import Derived.Test.YtalhpldbhogadaaPd
namespace Go.Proofs.Lx
open Go Go.RowKit
set_option linter.unusedSimpArgs false
set_option linter.unusedVariables false

set_option maxHeartbeats 800000 in
theorem in_any (w : World) (v1 v2 : Value) (X Y : List Nat) (h1 : RdMk w v1 X) (h2 : RdMk w v2 Y) (h81 : ∀ x ∈ X, x < 256) (h82 : ∀ x ∈ Y, x < 256) (hin : Inb X Y) :
    Calls Try.prog 25 #[v1, v2] w (Ret fun v w' => v = .bool true ∧ Below w.heap.size w w') := by
  obtain ⟨A, c, rfl, hc, hb, hr⟩ := h1
  obtain ⟨B, d, rfl, hd, hb2, hr2⟩ := h2
  have hl := hin.1
  have Hin := hid hin
  have H8 := hid (And.intro h81 h82)
  clear hin h81 h82
  refine post_gen fun Q HQ => ?_
  go_enter Try.func25, Try.ntmps25
  have HL := hid hl
  generalize hn : X.length = n at *
  have Hn := hid hn
  clear hn
  rw [← HL.out] at hd hb2
  rw [← HL.out]
  clear hl
  go_wp2
  go_loopw [5] (fun v5 wr => ∃ k : Nat, k ≤ n ∧ v5 = .int .i64 k ∧ Below w.heap.size w wr) (fun v5 _ => n - (intOf v5).toNat)
  case atStart => exact ⟨0, Nat.zero_le _, rfl, ext_refl _⟩
  case round =>
    obtain ⟨k, hk, rfl, hbl⟩ := hrel
    by_cases hlt : k < n
    · have hx : k < X.length := by rw [Hn.out]; exact hlt
      have hy : k < Y.length := by rw [← HL.out]; exact hlt
      obtain ⟨ad, rfl, hcX⟩ := (hr.ext (scR_mono _) hbl).at1 hx
      obtain ⟨ad2, rfl, hcY⟩ := (hr2.ext (scR_mono _) hbl).at1 hy
      have hz := andNot_zero X[k] Y[k] (H8.out.1 _ (List.getElem_mem hx)) (H8.out.2 _ (List.getElem_mem hy)) (Hin.out.2 k hx hy)
      generalize X[k] = x at *
      generalize Y[k] = y at *
      go_wp2
      go_quiet (fail)
      go_wp2
      go_roundw
      case rel => exact ⟨k + 1, by omega, by go_num, below_drewN hbl _⟩
      case measure => simp [intOf]; omega
    · go_wp2
      go_ret
      exact Fin HQ ⟨rfl, hbl⟩

/-- Round's answer over a list of the right length. -/
theorem rounded (w : World) (V vl vm : Value) (T : Th) (l : List Int) (M : List Nat) (hT : RdTh w V T) (hl : RdI w vl l) (hm : RdMk w vm M) (h8 : ∀ x ∈ M, x < 256) (hwf : WfTh T) (hr : risB l T.lits = true) (hlen : M.length = T.foes.length) :
    Calls Try.prog 22 #[V, vl, vm] w (Ret fun r w' => ∃ A cap, r = .tuple #[.slice A M.length cap, .int .i64 0] ∧ RdMk w' (.slice A M.length cap) (stepM T l M) ∧ w'.ownsRow w.heap.size 33 1 (.slice A M.length cap) M.length (marksV (stepM T l M)) ∧ Below w.heap.size w w') := by
  have hok : markedErr T l M.length = 0 := markedErr_ok.2 ⟨givenErr_ok.2 ⟨hwf, hr⟩, by rw [hlen]; exact hwf.fl⟩
  refine (roundTop_any w V vl vm T l M hT hl hm h8).mono fun e w' h => h.mono ?_
  rintro _ w' ⟨v, rfl, h1, _, hb⟩
  have ho := h1 hok
  have hsl := step_length T l M
  have ho2 := ho
  rw [← hsl] at ho2
  have hlen2 : (stepM T l M).length ≤ 140737488355328 := by rw [hsl, hlen]; have := hwf.fl; have := hwf.l1; omega
  obtain ⟨A, cap, rfl, h3⟩ := own_marks ho2 hlen2
  have hm2 : RdMk w' (.slice A (stepM T l M).length cap) (stepM T l M) := ⟨A, cap, rfl, h3⟩
  refine ⟨A, cap, by rw [hok, hsl], ?_, ?_, hb⟩
  · rw [hsl] at hm2; exact hm2
  · rw [hsl] at ho; exact ho

set_option maxHeartbeats 3200000 in
theorem least_any (w : World) (V vl vm vn : Value) (T : Th) (l : List Int) (M N : List Nat) (hT : RdTh w V T) (hl : RdI w vl l) (hm : RdMk w vm M) (h8 : ∀ x ∈ M, x < 256) (hn : RdMk w vn N) (h9 : ∀ x ∈ N, x < 256) :
    Calls Try.prog 6 #[V, vl, vm, vn] w (Ret fun v w' => v = .bool true ∧ Below w.heap.size w w') := by
  have HT := hid hT
  have Hm := hid hm
  have Hnn := hid hn
  have Hl := hid hl
  have H8 := hid h8
  have H9 := hid h9
  obtain ⟨vF, vR, vB, rfl, hF, hR, hB⟩ := hT
  obtain ⟨AM, cM, rfl, hcM, hbM, _⟩ := hm
  obtain ⟨AN, cN, rfl, hcN, hbN, hrN⟩ := hn
  have hbel := ext_alloc w (.cells #[.int .i64 T.lits, vF, vR, vB] 25)
  have Hal := hid (alive_any (w.alloc (.cells #[.int .i64 T.lits, vF, vR, vB] 25)))
  clear hF hR hB h8 h9 hl
  refine post_gen fun Q HQ => ?_
  go_enter Try.func6, Try.ntmps6
  go_wp2_with fail
  refine Hal.out.mono ?_
  rintro e w2 ⟨_, rfl, rfl, hb2'⟩
  obtain ⟨b0, b1, b2, b3⟩ := box4 hb2'
  have hb2 := ext_trans hbel hb2'
  have Hs := hid (solved w2 _ vl T l (HT.out.ext hb2) (Hl.out.ext (scR_mono _) hb2))
  clear hb2' Hal hbel
  go_wp2_with fail
  refine Hs.out.mono ?_
  rintro e w3 ⟨_, rfl, hs⟩
  rcases hs with ⟨c, hc, rfl, hb3⟩ | ⟨A, cap, rfl, hwf, hr, hrd, _, hb3⟩
  · have hne : (c != 0) = true := by simp [hc]
    go_wp2
    go_ret
    exact Fin HQ ⟨rfl, ext_trans hb2 hb3⟩
  · have hlen := solve_length T l
    have h8s : ∀ x ∈ solveM T l, x < 256 := it_lt T l (255 * T.foes.length)
    have b0 := cell_ext hb3 b0; have b1 := cell_ext hb3 b1; have b2 := cell_ext hb3 b2; have b3 := cell_ext hb3 b3
    have hb3' := ext_trans hb2 hb3
    have Hr := hid (rounded w3 _ vl _ T l (solveM T l) (HT.out.ext hb3') (Hl.out.ext (scR_mono _) hb3') hrd h8s hwf hr hlen)
    rw [solve_fix] at Hr
    have Hrd := hid hrd
    have Hwf := hid (And.intro hwf hr)
    have Hlen := hid hlen
    have H8s := hid h8s
    have hn4 : T.foes.length ≤ 4096 := by have := hwf.fl; have := hwf.l1; omega
    clear Hs hwf hr hrd h8s hb2 hb3 hlen
    rw [Hlen.out] at Hr
    rw [Hlen.out]
    have Hbx := hid (And.intro b0 (And.intro b1 (And.intro b2 b3)))
    go_wp2_with (first | (go_at_call 21; go_in))
    refine Hr.out.mono ?_
    rintro e w4 ⟨_, rfl, A2, cap2, rfl, hrd2, _, hb4⟩
    have b0 := cell_ext hb4 b0; have b1 := cell_ext hb4 b1; have b2 := cell_ext hb4 b2; have b3 := cell_ext hb4 b3
    have hs' := sameM_self w4 _ _ (solveM T l) hrd2 (Hrd.out.ext (scR_mono _) hb4)
    rw [Hlen.out] at hs'
    have Hs := hid hs'
    have hb4' := ext_trans hb3' hb4
    have Hrd4 := hid (Hrd.out.ext (scR_mono _) hb4)
    clear Hr hrd2 hs' Hrd
    go_wp2_with (first | (go_at_call 21; go_in))
    refine Hs.out.mono ?_
    rintro e w5 ⟨_, rfl, rfl, hb5⟩
    have b0 := cell_ext hb5 b0; have b1 := cell_ext hb5 b1; have b2 := cell_ext hb5 b2; have b3 := cell_ext hb5 b3
    have hb5' := ext_trans hb4' hb5
    have Hrd5 := hid (Hrd4.out.ext (scR_mono _) hb5)
    clear Hs Hrd4
    generalize hnn : T.foes.length = n at *
    have HnF := hid hnn
    clear hnn
    by_cases hlm : M.length = n
    case neg =>
      have hne : ((M.length : Int) != (n : Int)) = true := by simp; omega
      have Hlm := hid hlm
      clear hlm
      go_wp2
      go_ret
      exact Fin HQ ⟨rfl, hb5'⟩
    have Hlm := hid hlm
    rw [hlm] at hbM hcM
    rw [hlm]
    clear hlm
    by_cases hln : N.length = n
    case neg =>
      have hne : ((N.length : Int) != (n : Int)) = true := by simp; omega
      have Hln := hid hln
      clear hln
      go_wp2
      go_ret
      exact Fin HQ ⟨rfl, hb5'⟩
    have Hln := hid hln
    rw [hln] at hbN hcN
    rw [hln]
    clear hln
    have hcp := copyM_any w5 _ M (Hm.out.ext (scR_mono _) hb5')
    rw [Hlm.out] at hcp
    have Hcp := hid hcp
    clear hcp
    go_wp2_with fail
    refine Hcp.out.mono ?_
    rintro e w6 ⟨x, rfl, hown, hb6⟩
    obtain ⟨AX, cX, hxe, _⟩ := own_marks (by rw [Hlm.out]; exact hown : w6.ownsRow w5.heap.size _ 1 x M.length (marksV M)) (by rw [Hlm.out]; omega)
    rw [Hlm.out] at hxe
    subst hxe
    have hb6' := ext_trans hb5' hb6
    have Hown := hid hown
    have Hz : Hid (Below w5.heap.size w5 w6) := hid hb6
    have b0 := cell_ext hb6 b0; have b1 := cell_ext hb6 b1; have b2 := cell_ext hb6 b2; have b3 := cell_ext hb6 b3
    clear hown Hcp
    go_wp2
    go_loopw [14] (fun v14 wr => ∃ k : Nat, k ≤ n ∧ v14 = .int .i64 k ∧ Hid (wr.ownsRow w5.heap.size 33 1 (.slice AX n cX) n (marksV (orL M N k))) ∧ Below w5.heap.size w5 wr) (fun v14 _ => n - (intOf v14).toNat)
    case atStart => exact ⟨0, Nat.zero_le _, rfl, by rw [orL_zero]; exact Hown, Hz.out⟩
    case round =>
      clear Hown Hz
      obtain ⟨k, hk, rfl, hown, hbl⟩ := hrel
      by_cases hlt : k < n
      · have hkM : k < M.length := by rw [Hlm.out]; exact hlt
        have hkN : k < N.length := by rw [Hln.out]; exact hlt
        obtain ⟨g, cap', e, hg, hcell⟩ := own_at hown.out hlt (by simp [orL]; exact hkM)
        cases e
        have ec : (marksV (orL M N k))[k]'(by simp [orL]; exact hkM) = .int .u8 (M[k] : Int) := by
          rw [List.getElem_map, orL_at M N k (by rw [orL_length]; exact hkM) hkM]
        rw [ec] at hcell
        obtain ⟨adN, rfl, hcN2⟩ := (hrN.ext (scR_mono _) (ext_trans hb5' hbl)).at1 hkN
        have hor := (bits_nat .u8 8 (by decide) wraps_u8 M[k] N[k] (H8.out _ (List.getElem_mem hkM)) (H9.out _ (List.getElem_mem hkN))).2
        have hfr := own_free hown.out k
        have Hstep : Hid (orL M N (k + 1) = (orL M N k).set k (M[k] ||| N[k])) := hid (orL_step M N k hkM hkN)
        obtain ⟨y, Hy⟩ : ∃ y, Hid (M[k] = y) := ⟨_, hid rfl⟩
        obtain ⟨z, Hz⟩ : ∃ z, Hid (N[k] = z) := ⟨_, hid rfl⟩
        rw [Hy.out] at hcell hor
        rw [Hz.out] at hcN2 hor
        go_wp2
        go_region
        all_goals
          go_wp2
          go_roundw
          case rel =>
            refine ⟨k + 1, by omega, by go_num, ?_, (own_set_below hbl hown.out k _).drew⟩
            rw [Hstep.out, Hy.out, Hz.out]
            have h9 := own_set hown.out k (.int .u8 ((y ||| z : Nat) : Int))
            have e9 : (marksV (orL M N k)).set k (.int .u8 ((y ||| z : Nat) : Int)) = marksV ((orL M N k).set k (y ||| z)) := by rw [marksV, marksV, List.map_set]
            rw [e9] at h9
            exact hid h9
          case measure => simp [intOf]; omega
      · obtain rfl : k = n := by omega
        have hX0 := orL_length M N k
        have hX8 := orL_lt H8.out H9.out k
        have hXs := orL_sub M N k
        generalize orL M N k = X0 at *
        have hrdX := own_marks (by rw [hX0, Hlm.out]; exact hown.out : wr.ownsRow w5.heap.size _ 1 (.slice AX k cX) X0.length (marksV X0)) (by rw [hX0, Hlm.out]; omega)
        have hbw := ext_trans hb5' hbl
        have b0 := cell_ext hbl (cell_ext hb5 (cell_ext hb4 (Hbx.out.1))); have b1 := cell_ext hbl (cell_ext hb5 (cell_ext hb4 (Hbx.out.2.1))); have b2 := cell_ext hbl (cell_ext hb5 (cell_ext hb4 (Hbx.out.2.2.1))); have b3 := cell_ext hbl (cell_ext hb5 (cell_ext hb4 (Hbx.out.2.2.2)))
        have ha := rounded wr _ vl _ T l M (HT.out.ext hbw) (Hl.out.ext (scR_mono _) hbw) (Hm.out.ext (scR_mono _) hbw) H8.out Hwf.out.1 Hwf.out.2 (by rw [Hlm.out, HnF.out])
        rw [Hlm.out] at ha
        have Ha := hid ha
        have HX := hid (And.intro hX0 (And.intro hX8 (And.intro hXs hrdX)))
        have Hr5 := hid (Hrd5.out.ext (scR_mono _) hbl)
        clear ha hX0 hX8 hXs hrdX hown
        go_wp2_with fail
        refine Ha.out.mono ?_
        rintro e w7 ⟨_, rfl, A7, c7, rfl, hrd7, _, hb7⟩
        have hbw7 := ext_trans hbw hb7
        have b0 := cell_ext hb7 b0; have b1 := cell_ext hb7 b1; have b2 := cell_ext hb7 b2; have b3 := cell_ext hb7 b3
        have hX0 := HX.out.1
        have hX0k : X0.length = k := by rw [hX0, Hlm.out]
        have hbR := rounded w7 _ vl _ T l X0 (HT.out.ext hbw7) (Hl.out.ext (scR_mono _) hbw7) (HX.out.2.2.2.ext (scR_mono _) hb7) HX.out.2.1 Hwf.out.1 Hwf.out.2 (by rw [hX0k, HnF.out])
        rw [hX0k] at hbR
        have HbR := hid hbR
        have Hrd7 := hid hrd7
        have Hr7 := hid (Hr5.out.ext (scR_mono _) hb7)
        have HX7 := hid (And.intro hX0k (HX.out.2.2.2.ext (scR_mono _) hb7))
        clear Ha hbR hrd7 hX0 hX0k Hr5
        go_wp2_with fail
        refine HbR.out.mono ?_
        rintro e w8 ⟨_, rfl, A8, c8, rfl, hrd8, _, hb8⟩
        have hbw8 := ext_trans hbw7 hb8
        have b0 := cell_ext hb8 b0; have b1 := cell_ext hb8 b1; have b2 := cell_ext hb8 b2; have b3 := cell_ext hb8 b3
        have hin1 := in_any w8 _ _ (stepM T l M) (stepM T l X0) (Hrd7.out.ext (scR_mono _) hb8) hrd8 (step_lt T l M H8.out) (step_lt T l X0 HX.out.2.1) (sub_inb (by rw [step_length, step_length, HX.out.1]) (step_mono HX.out.1.symm HX.out.2.2.1))
        have Hin1 := hid hin1
        have Hr8 := hid (Hr7.out.ext (scR_mono _) hb8)
        have HX8 := hid (HX7.out.2.ext (scR_mono _) hb8)
        clear HbR hin1 hrd8 Hr7
        go_wp2_with fail
        refine Hin1.out.mono ?_
        rintro e w9 ⟨_, rfl, rfl, hb9⟩
        have Hbw9 := hid (ext_trans hbw8 hb9)
        have hb9c := And.intro (cell_ext hb9 b0) (And.intro (cell_ext hb9 b1) (And.intro (cell_ext hb9 b2) (cell_ext hb9 b3)))
        have Hbc := hid hb9c
        have Hr9 := hid (Hr8.out.ext (scR_mono _) hb9)
        have Hx9 := hid (HX8.out.ext (scR_mono _) hb9)
        have Hx8 := hid HX.out.2.1
        have Hxl := hid HX7.out.1
        clear Hin1 b0 b1 b2 b3 Hr8 HX8 HX hb9c Hrd7 HX7
        go_wp2
        go_loopw [13, 19] (fun v13 v19 wr => ∃ (i : Nat) (X : List Nat) (AX cX : _), i ≤ 4 * k + 1 ∧ v19 = .int .i64 i ∧ v13 = .slice AX k cX ∧ Hid (RdMk wr (.slice AX k cX) X) ∧ Hid (X.length = k ∧ (∀ x ∈ X, x < 256) ∧ i ≤ cnt4 X) ∧ Below w9.heap.size w9 wr) (fun _ v19 _ => 4 * k + 1 - (intOf v19).toNat)
        case atStart => exact ⟨0, X0, AX, cX, Nat.zero_le _, rfl, rfl, Hx9, ⟨Hxl.out, Hx8.out, Nat.zero_le _⟩, Below.refl _ _⟩
        case round =>
          clear Hx9 Hxl Hx8
          obtain ⟨i, X, AX, cX, hi, rfl, rfl, hrX, hXX, hbl⟩ := hrel
          by_cases hlt : i ≤ 4 * k
          case neg =>
            exfalso
            have := cnt4_le X
            have h7 := hXX.out
            rw [h7.1] at this
            omega
          have b0 := cell_ext hbl Hbc.out.1; have b1 := cell_ext hbl Hbc.out.2.1; have b2 := cell_ext hbl Hbc.out.2.2.1; have b3 := cell_ext hbl Hbc.out.2.2.2
          have hbwr := ext_trans Hbw9.out hbl
          have hR := rounded wr _ vl _ T l X (HT.out.ext hbwr) (Hl.out.ext (scR_mono _) hbwr) hrX.out hXX.out.2.1 Hwf.out.1 Hwf.out.2 (by rw [hXX.out.1, HnF.out])
          rw [hXX.out.1] at hR
          have HR := hid hR
          have Hbwr := hid hbwr
          clear hR
          go_wp2_with fail
          refine HR.out.mono ?_
          rintro e w10 ⟨_, rfl, A10, c10, rfl, hrd10, _, hb10⟩
          have hsm := sameM_any w10 _ _ (stepM T l X) X hrd10 (hrX.out.ext (scR_mono _) hb10)
          have Hsm := hid hsm
          have Hrd10 := hid hrd10
          clear HR hrd10 hsm
          go_wp2_with fail
          refine Hsm.out.mono ?_
          rintro e w11 ⟨_, rfl, rfl, hb11⟩
          have hb1011 := ext_trans hb10 hb11
          by_cases he : stepM T l X = X
          · have hd : decide (stepM T l X = X) = true := decide_eq_true he
            rw [hd]
            have hinS := in_any w11 _ _ (solveM T l) X (Hr9.out.ext (scR_mono _) (ext_trans hbl hb1011)) (hrX.out.ext (scR_mono _) hb1011) H8s.out hXX.out.2.1 (sub_inb (by rw [Hlen.out, hXX.out.1]) (solve_least (by rw [hXX.out.1, HnF.out]) he))
            rw [Hlen.out] at hinS
            have HinS := hid hinS
            clear hinS he hd Hsm
            go_wp2_with fail
            refine HinS.out.mono ?_
            rintro e w12 ⟨_, rfl, rfl, hb12⟩
            go_wp2
            go_ret
            exact Fin HQ ⟨rfl, ext_trans Hbwr.out (ext_trans hb1011 hb12)⟩
          · have hd : decide (stepM T l X = X) = false := decide_eq_false he
            rw [hd]
            have hsl := step_length T l X
            have hcnt := cnt4_step T l X
            have hinN := in_any w11 _ _ X (stepM T l X) (hrX.out.ext (scR_mono _) hb1011) (Hrd10.out.ext (scR_mono _) hb11) hXX.out.2.1 (step_lt T l X hXX.out.2.1) (sub_inb hsl.symm (step_sub T l X))
            have HinN := hid hinN
            have Hnew := hid (And.intro (hsl.trans hXX.out.1) (And.intro (step_lt T l X hXX.out.2.1) (show i + 1 ≤ cnt4 (stepM T l X) by
              have h7 := hXX.out.2.2
              have : cnt4 X ≠ cnt4 (stepM T l X) := fun e => he (hcnt.2 e)
              omega)))
            clear hinN hd hsl hcnt he Hsm
            go_wp2_with fail
            refine HinN.out.mono ?_
            rintro e w12 ⟨_, rfl, rfl, hb12⟩
            have Hfin := hid (Hrd10.out.ext (scR_mono _) (ext_trans hb11 hb12))
            go_wp2
            go_roundw
            case rel => exact ⟨i + 1, stepM T l X, A10, c10, by omega, by go_num, rfl, Hfin, Hnew, ext_trans hbl (ext_trans hb1011 hb12)⟩
            case measure => simp [intOf]; omega
end Go.Proofs.Lx
