/- Contract of theory.beats. -/
import Derived.Test.YtalhpldbhogadaaCe
namespace Go.Proofs.Lx
open Go Go.RowKit
set_option linter.unusedSimpArgs false
set_option linter.unusedVariables false

def headOf (T : Th) (i : Int) : Int := (T.rules.getD i.toNat default).head
def beatsOk (T : Th) (r : Nat) : Bool := risB (T.beats.getD r []) T.rules.length && (T.beats.getD r []).all fun s => memB (row T.foes (headOf T r)) (headOf T s)
def beatsAll (T : Th) : Bool := (List.range T.beats.length).all (beatsOk T)
theorem beatsAll_true {T : Th} : beatsAll T = true ↔ ∀ q, q < T.beats.length → beatsOk T q = true := by simp [beatsAll]
theorem beatsAll_false {T : Th} {q : Nat} (h : q < T.beats.length) (hf : beatsOk T q = false) : beatsAll T = false := by
  rw [Bool.eq_false_iff]; intro ht
  rw [beatsAll_true.1 ht q h] at hf; cases hf
theorem has_plain (w : World) (v : Value) (l : List Int) (x : Int) (hv : RdI w v l) (hs : l.Pairwise (· < ·)) :
   Calls Try.prog 153 #[v, .int .i64 x] w fun e w' => e = .returned (.bool (memB l x)) ∧ w' = w :=
  (has_any w v l x hv hs).mono fun e w' ⟨v, he, hv, hw⟩ => ⟨by rw [he, hv], hw⟩

set_option maxHeartbeats 1600000 in
theorem beats_any (w : World) (V : Value) (T : Th) (hT : RdTh w V T) (hl : (T.foes.length : Int) = T.lits) (hfo : foesAll T = true)
   (hrr : ∀ r ∈ T.rules, ruleOk T.lits r = true) (hbl : T.beats.length = T.rules.length) (h4 : T.rules.length ≤ 4096) :
   Calls Try.prog 110 #[V] w (Ret fun v w' => (∃ r : Int, v = .int .i64 r ∧ (r < 0 ↔ beatsAll T = true)) ∧ Below w.heap.size w w') := by
  obtain ⟨lits, foes, rules, beats⟩ := T
  obtain ⟨vF, vR, vB, rfl, ⟨A, c, rfl, hc, hb, hr⟩, ⟨AR, cR, rfl, hcR, hbR, hrR⟩, ⟨AB, cB, rfl, hcB, hbB, hrB⟩⟩ := hT
  dsimp only at *
  obtain rfl : lits = (foes.length : Int) := hl.symm
  clear hl
  have hbel := ext_alloc w (.cells #[.int .i64 foes.length, .slice A foes.length c, .slice AR rules.length cR, .slice AB beats.length cB] 25)
  have hr1 := hr.ext llR_mono hbel
  have hrR1 := hrR.ext ruleR_mono hbel
  have hrB1 := hrB.ext llR_mono hbel
  have Hfo := hid hfo
  have Hrr := hid hrr
  have Hbl := hid hbl
  have hbl1 : beats.length ≤ rules.length := by omega
  have hbl2 : rules.length ≤ beats.length := by omega
  clear hr hrR hrB hfo hrr hbl
  refine post_gen fun Q HQ => ?_
  go_enter Try.func110, Try.ntmps110
  go_wp2
  obtain ⟨W1, HW1⟩ : ∃ W1, Hid (W1 = w.alloc (.cells #[.int .i64 foes.length, .slice A foes.length c, .slice AR rules.length cR, .slice AB beats.length cB] 25)) := ⟨_, rfl⟩
  have b1 : W1.cell? ⟨w.heap.size, 1, none⟩ = some (.slice A foes.length c) := by rw [HW1.out]; exact box_cell (Below.refl _ _) 1
  have b2 : W1.cell? ⟨w.heap.size, 2, none⟩ = some (.slice AR rules.length cR) := by rw [HW1.out]; exact box_cell (Below.refl _ _) 2
  rw [← HW1.out] at hbel hr1 hrR1 hrB1 ⊢
  go_loopw [10] (fun v10 wr => ∃ k : Nat, k ≤ beats.length ∧ v10 = .int .i64 k ∧ Hid (∀ i, i < k → beatsOk ⟨foes.length, foes, rules, beats⟩ i = true) ∧ Below W1.heap.size W1 wr) (fun v10 _ => beats.length - (intOf v10).toNat)
  case atStart => exact ⟨0, Nat.zero_le _, rfl, fun i hk => absurd hk (by omega), ext_refl _⟩
  case round =>
    obtain ⟨k, hk, rfl, hno, hbl⟩ := hrel
    have b1' := cell_ext hbl b1
    have b2' := cell_ext hbl b2
    obtain ⟨wo, rfl⟩ : ∃ wo : World, wo = wr := ⟨_, rfl⟩
    by_cases hlt : k < beats.length
    · obtain ⟨ad, B, cL, rfl, hcell, hcL, hbL, hrL⟩ := (hrB1.ext llR_mono hbl).atRow hlt
      have Hg : Hid (beats.getD k [] = beats[k]) := by simp [Hid, hlt]
      have Hbad : ∀ r : Int, 0 ≤ r → beatsOk ⟨foes.length, foes, rules, beats⟩ k = false → ∃ r', Value.int .i64 r = .int .i64 r' ∧ (r' < 0 ↔ beatsAll ⟨foes.length, foes, rules, beats⟩ = true) := fun r h0 hf => ⟨r, rfl, by rw [beatsAll_false hlt hf]; simp; omega⟩
      have Hbad := hid Hbad
      generalize hL : beats[k] = L at *
      have HL := hid hL
      clear hL
      have hRL : RdI wo (.slice B L.length cL) L := ⟨B, cL, rfl, hcL, hbL, hrL⟩
      cases hris : risB L rules.length with
      | false =>
        have Hris := hid hris
        go_wp2_with (go_at_call 112; refine (rising_any _ _ _ _ hRL).mono ?_; rintro e w' ⟨_, rfl, rfl, rfl⟩)
        go_ret
        exact Fin HQ ⟨Hbad.out k (by omega) (by simp only [beatsOk, Hg.out]; rw [Hris.out]; simp), ext_trans hbel hbl⟩
      | true =>
        have Hris := hid hris
        have Hsp := hid (risB_spec hris)
        go_wp2_with (go_at_call 112; refine (rising_any _ _ _ _ hRL).mono ?_; rintro e w' ⟨_, rfl, rfl, rfl⟩)
        clear hris hcell b1' b2'
        go_loopw [24] (fun v24 w3 => ∃ j : Nat, j ≤ L.length ∧ v24 = .int .i64 j ∧ Hid (∀ i (h : i < L.length), i < j → memB (row foes (headOf ⟨foes.length, foes, rules, beats⟩ k)) (headOf ⟨foes.length, foes, rules, beats⟩ L[i]) = true) ∧ Below w'.heap.size w' w3) (fun v24 _ => L.length - (intOf v24).toNat)
        case atStart => exact ⟨0, Nat.zero_le _, rfl, fun i h hk => absurd hk (by omega), ext_refl _⟩
        case round =>
          obtain ⟨j, hj, rfl, hin, hbl3⟩ := hrel
          have hbl4 := ext_trans hbl hbl3
          have b1' := cell_ext hbl4 b1
          have b2' := cell_ext hbl4 b2
          by_cases hjl : j < L.length
          · obtain ⟨adL, rfl, hcj⟩ := (hrL.ext (scR_mono _) hbl3).at1 hjl
            have hrange := Hsp.out.1 j hjl
            have hkr : k < rules.length := by omega
            have hxr : L[j].toNat < rules.length := by omega
            obtain ⟨adR, B1, c1, rfl, p0, p1, p2, _, _, _⟩ := (hrR1.ext ruleR_mono hbl4).atRule hkr
            obtain ⟨adR', B2, c2, e2, q0, q1, q2, _, _, _⟩ := (hrR1.ext ruleR_mono hbl4).atRule hxr
            cases e2
            have hk0 := ruleOk_head (Hrr.out _ (List.getElem_mem hkr))
            have hfk : rules[k].head.toNat < foes.length := by omega
            obtain ⟨adF, CF, cF, rfl, hcF, hcF2, hbF, hrF⟩ := (hr1.ext llR_mono hbl4).atRow hfk
            have Hk1 : Hid (headOf ⟨foes.length, foes, rules, beats⟩ k = rules[k].head) := by simp [Hid, headOf, hkr]
            have Hx1 : Hid (headOf ⟨foes.length, foes, rules, beats⟩ L[j] = rules[L[j].toNat].head) := by simp [Hid, headOf, hxr]
            have Hrow : Hid (row foes rules[k].head = foes[rules[k].head.toNat]) := row_at hk0.1 (by omega)
            have Hps := hid (risB_spec (foesOk_spec Hfo.out rules[k].head.toNat hfk).2.1).2
            dsimp only at Hps
            have hRF : ∀ nq : Nat, RdI (wr.drewN nq) (.slice CF foes[rules[k].head.toNat].length cF) foes[rules[k].head.toNat] := fun nq => ⟨CF, cF, rfl, hcF2, hbF, hrF.ext (scR_mono _) (ext_drewN _ _)⟩
            have HRF := hid hRF
            clear hRF
            obtain ⟨hk00, hk01⟩ := hk0
            obtain ⟨hr00, hr01⟩ := hrange
            generalize hX : L[j] = X at *
            have HX := hid hX
            clear hX
            generalize hh : rules[k].head = hd at *
            have Hh := hid hh
            clear hh
            generalize hh2 : rules[X.toNat].head = hx at *
            have Hh2 := hid hh2
            clear hh2
            generalize hY : foes[hd.toNat] = Y at *
            have HY := hid hY
            clear hY
            cases hm : memB Y hx with
            | false =>
              have Hm := hid hm
              go_wp2
              go_quiet ((go_at_call 153; exact Calls.quiet_of_same (has_plain _ _ _ _ (HRF.out _) Hps.out)))
              go_wp2
              go_ret
              refine Fin HQ ⟨Hbad.out k (by omega) ?_, ext_trans hbel (ext_trans hbl4 (ext_drewN _ _))⟩
              simp only [beatsOk, Hg.out]
              rw [show (L.all fun s => memB (row foes (headOf ⟨foes.length, foes, rules, beats⟩ k)) (headOf ⟨foes.length, foes, rules, beats⟩ s)) = false from by
                rw [List.all_eq_false]; exact ⟨L[j], List.getElem_mem hjl, by rw [HX.out, Hx1.out, Hk1.out, Hrow.out, Hm.out]; simp⟩]
              simp
            | true =>
              have Hm := hid hm
              go_wp2
              go_quiet ((go_at_call 153; exact Calls.quiet_of_same (has_plain _ _ _ _ (HRF.out _) Hps.out)))
              go_wp2
              go_roundw
              case rel =>
                refine ⟨j + 1, by omega, by go_num, fun i h hi => ?_, below_drewN hbl3 _⟩
                by_cases e : i = j
                · subst e; rw [HX.out, Hx1.out, Hk1.out, Hrow.out, Hm.out]
                · exact hin.out i h (by omega)
              case measure => simp [intOf]; omega
          · go_wp2
            go_roundw
            case rel =>
              refine ⟨k + 1, by omega, by go_num, fun i hi => ?_, hbl4⟩
              by_cases e : i = k
              · subst e
                simp only [beatsOk, Hg.out, Hris.out, Bool.true_and]
                rw [List.all_eq_true]
                intro f hf
                obtain ⟨t, ht, rfl⟩ := List.getElem_of_mem hf
                exact hin.out t ht (by omega)
              · exact hno.out i (by omega)
            case measure => simp [intOf]; omega
    · go_wp2
      go_ret
      exact Fin HQ ⟨⟨-1, rfl, by simp only [show ((-1 : Int) < 0) by decide, true_iff]; exact beatsAll_true.2 fun q hq => hno.out q (by dsimp only at hq; omega)⟩, ext_trans hbel hbl⟩
end Go.Proofs.Lx
