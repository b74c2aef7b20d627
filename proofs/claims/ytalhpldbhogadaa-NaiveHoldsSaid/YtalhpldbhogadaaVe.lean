/- Contract of theory.Check. -/
import Derived.Test.YtalhpldbhogadaaVd
namespace Go.Proofs.Lx
open Go Go.RowKit
set_option linter.unusedSimpArgs false
set_option linter.unusedVariables false

/-- A theory that may be. -/
structure WfTh (T : Th) : Prop where
  l0 : 0 ≤ T.lits
  l1 : T.lits ≤ 4096
  fl : (T.foes.length : Int) = T.lits
  fo : foesAll T = true
  rl : T.rules.length ≤ 4096
  ru : ∀ r ∈ T.rules, ruleOk T.lits r = true
  pc : pairCount T ≤ 65536
  bl : T.beats.length = T.rules.length
  ba : beatsAll T = true
  nk : NoKnot T

open Classical in
/-- The error's number that Check answers. -/
noncomputable def checkErr (T : Th) : Int :=
  if T.lits < 0 ∨ 4096 < T.lits then 112 else if (T.foes.length : Int) ≠ T.lits then 121 else if foesAll T = false then 121 else if 4096 < T.rules.length then 111
  else if T.rules.all (ruleOk T.lits) = false then 122 else if 65536 < pairCount T then 113 else if T.beats.length ≠ T.rules.length then 123 else if beatsAll T = false then 123
  else if NoKnot T then 0 else 131
theorem checkErr_ok (T : Th) : checkErr T = 0 ↔ WfTh T := by
  unfold checkErr
  constructor
  · intro h
    by_cases h1 : T.lits < 0 ∨ 4096 < T.lits
    · rw [if_pos h1] at h; cases h
    rw [if_neg h1] at h
    by_cases h2 : (T.foes.length : Int) ≠ T.lits
    · rw [if_pos h2] at h; cases h
    rw [if_neg h2] at h
    by_cases h3 : foesAll T = false
    · rw [if_pos h3] at h; cases h
    rw [if_neg h3] at h
    by_cases h4 : 4096 < T.rules.length
    · rw [if_pos h4] at h; cases h
    rw [if_neg h4] at h
    by_cases h5 : T.rules.all (ruleOk T.lits) = false
    · rw [if_pos h5] at h; cases h
    rw [if_neg h5] at h
    by_cases h6 : 65536 < pairCount T
    · rw [if_pos h6] at h; cases h
    rw [if_neg h6] at h
    by_cases h7 : T.beats.length ≠ T.rules.length
    · rw [if_pos h7] at h; cases h
    rw [if_neg h7] at h
    by_cases h8 : beatsAll T = false
    · rw [if_pos h8] at h; cases h
    rw [if_neg h8] at h
    by_cases h9 : NoKnot T
    · exact ⟨by omega, by omega, by omega, by simpa using h3, by omega, List.all_eq_true.1 (by simpa using h5), by omega, by omega, by simpa using h8, h9⟩
    · rw [if_neg h9] at h; cases h
  · intro h
    rw [if_neg (by have := h.l0; have := h.l1; omega), if_neg (by have := h.fl; omega), if_neg (by rw [h.fo]; simp), if_neg (by have := h.rl; omega), if_neg (by rw [List.all_eq_true.2 h.ru]; simp),
      if_neg (by have := h.pc; omega), if_neg (by have := h.bl; omega), if_neg (by rw [h.ba]; simp), if_pos h.nk]

set_option maxRecDepth 1000000 in
set_option maxHeartbeats 6400000 in
theorem check_any (w : World) (V : Value) (T : Th) (hT : RdTh w V T) :
   Calls Try.prog 75 #[V] w (Ret fun v w' => (∃ i : Int, v = .tuple #[.int .i64 (checkErr T), .int .i64 i]) ∧ Below w.heap.size w w') := by
  have HT := hT
  obtain ⟨vF, vR, vB, rfl, ⟨A, c, rfl, hc, hb, hr⟩, ⟨AR, cR, rfl, hcR, hbR, hrR⟩, ⟨AB, cB, rfl, hcB, hbB, hrB⟩⟩ := hT
  have hbel := ext_alloc w (.cells #[.int .i64 T.lits, .slice A T.foes.length c, .slice AR T.rules.length cR, .slice AB T.beats.length cB] 25)
  obtain ⟨W1, HW1⟩ : ∃ W1, Hid (W1 = w.alloc (.cells #[.int .i64 T.lits, .slice A T.foes.length c, .slice AR T.rules.length cR, .slice AB T.beats.length cB] 25)) := ⟨_, rfl⟩
  have b0 : W1.cell? ⟨w.heap.size, 0, none⟩ = some (.int .i64 T.lits) := by rw [HW1.out]; exact box_cell (Below.refl _ _) 0
  have b1 : W1.cell? ⟨w.heap.size, 1, none⟩ = some (.slice A T.foes.length c) := by rw [HW1.out]; exact box_cell (Below.refl _ _) 1
  have b2 : W1.cell? ⟨w.heap.size, 2, none⟩ = some (.slice AR T.rules.length cR) := by rw [HW1.out]; exact box_cell (Below.refl _ _) 2
  have b3 : W1.cell? ⟨w.heap.size, 3, none⟩ = some (.slice AB T.beats.length cB) := by rw [HW1.out]; exact box_cell (Below.refl _ _) 3
  rw [← HW1.out] at hbel
  have hrR1 := hrR.ext ruleR_mono hbel
  have HT1 := hid (HT.ext hbel)
  have B := hid (And.intro b0 (And.intro b1 (And.intro b2 b3)))
  clear hr hrR hrB HT b0 b1 b2 b3
  refine post_gen fun Q HQ => ?_
  go_enter Try.func75, Try.ntmps75
  have hE : ∀ (x : Int) (w' : World), checkErr T = x → Below W1.heap.size W1 w' → ∀ i : Int, (∃ i' : Int, Value.tuple #[.int .i64 x, .int .i64 i] = .tuple #[.int .i64 (checkErr T), .int .i64 i']) ∧ Below w.heap.size w w' := fun x w' hx hb i => ⟨⟨i, by rw [hx]⟩, ext_trans hbel hb⟩
  have HE := hid hE
  clear hE
  by_cases h1 : T.lits < 0 ∨ 4096 < T.lits
  · have H1 := hid h1
    go_wp2_with fail
    all_goals try rw [← HW1.out]
    all_goals first
      | (go_ret2; exact Fin HQ (HE.out 112 _ (by unfold checkErr; rw [if_pos H1.out]) (ext_refl _) _))
      | (exfalso; omega)
  by_cases h2 : (T.foes.length : Int) = T.lits
  case neg =>
    have hb2 : ((T.foes.length : Int) != T.lits) = true := by simp [h2]
    have H2 := hid h2
    clear h2
    go_wp2_with fail
    try rw [← HW1.out]
    go_ret2
    exact Fin HQ (HE.out 121 _ (by unfold checkErr; rw [if_neg h1, if_pos H2.out]) (ext_refl _) _)
  have hb2 : ((T.foes.length : Int) != T.lits) = false := by simp [h2]
  have H2 := hid h2
  clear h2
  go_wp2_with fail
  rw [← HW1.out]
  refine (foes_any W1 _ T HT1.out H2.out).mono ?_
  rintro e w2 ⟨_, rfl, ⟨r, rfl, hr⟩, hbb2⟩
  have HR := hid hr
  have hbo := hbb2
  clear hr hb2
  have b2' := cell_ext hbb2 B.out.2.2.1
  cases h3 : foesAll T with
  | false =>
    have hr0 : 0 ≤ r := by have := HR.out; rw [h3] at this; simp at this; omega
    have H3 := hid h3
    clear h3
    go_wp2_with fail
    go_ret2
    exact Fin HQ (HE.out 121 _ (by unfold checkErr; rw [if_neg h1, if_neg (by simp [H2.out]), if_pos H3.out]) hbb2 _)
  | true =>
    have hr0 : r < 0 := HR.out.2 h3
    have H3 := hid h3
    clear h3
    by_cases h4 : 4096 < T.rules.length
    · go_wp2_with fail
      go_ret2
      exact Fin HQ (HE.out 111 _ (by unfold checkErr; rw [if_neg h1, if_neg (by simp [H2.out]), if_neg (by simp [H3.out]), if_pos h4]) hbb2 _)
    go_wp2
    clear hbb2 b2'
    go_loopw [35] (fun v35 wr => ∃ k : Nat, k ≤ T.rules.length ∧ v35 = .int .i64 k ∧ Hid (∀ i (h : i < T.rules.length), i < k → ruleOk T.lits T.rules[i] = true) ∧ Below W1.heap.size W1 wr) (fun v35 _ => T.rules.length - (intOf v35).toNat)
    case atStart => exact ⟨0, Nat.zero_le _, rfl, fun i h hk => absurd hk (by omega), hbo⟩
    case round =>
      clear hbo
      obtain ⟨k, hk, rfl, hno, hbl⟩ := hrel
      have c0 := cell_ext hbl B.out.1; have c1 := cell_ext hbl B.out.2.1; have c2 := cell_ext hbl B.out.2.2.1; have c3 := cell_ext hbl B.out.2.2.2
      have hbx : w.heap.size < wr.heap.size := World.block_lt_of_cell? _ _ c0
      obtain ⟨wo, rfl⟩ : ∃ wo : World, wo = wr := ⟨_, rfl⟩
      by_cases hlt : k < T.rules.length
      · obtain ⟨ad, C, cC, rfl, p0, p1, p2, q0, q1, q2⟩ := (hrR1.ext ruleR_mono hbl).atRule hlt
        have hRul : RdRule wo (.agg #[.int .i64 T.rules[k].kind, .int .i64 T.rules[k].head, .slice C T.rules[k].body.length cC]) T.rules[k] := ⟨_, rfl, C, cC, rfl, q0, q1, q2⟩
        obtain ⟨wx, HWX⟩ : ∃ wx, Hid (wx = wo.alloc (.cells #[.int .i64 T.rules[k].kind, .int .i64 T.rules[k].head, .slice C T.rules[k].body.length cC] 37)) := ⟨_, hid rfl⟩
        have hbx2 : Below wo.heap.size wo wx := by rw [HWX.out]; exact ext_alloc _ _
        have hRulX : RdRule wx (.agg #[.int .i64 T.rules[k].kind, .int .i64 T.rules[k].head, .slice C T.rules[k].body.length cC]) T.rules[k] := ⟨_, rfl, C, cC, rfl, q0, q1, q2.ext (scR_mono _) hbx2⟩
        have Hcall := hid (rule_any wx _ _ T T.rules[k] (HT1.out.ext (ext_trans hbl hbx2)) hRulX)
        clear hRul hRulX q2
        go_wp2_with fail
        rw [← HWX.out]
        refine Hcall.out.mono ?_
        rintro e w5 ⟨_, rfl, rfl, hb5⟩
        have hb6 := ext_trans hbx2 hb5
        clear Hcall hbx2
        cases hok : ruleOk T.lits T.rules[k] with
        | false =>
          have Hok := hid hok
          clear hok
          go_wp2
          go_ret2
          refine Fin HQ (HE.out 122 _ ?_ (ext_trans hbl hb6) _)
          unfold checkErr
          rw [if_neg h1, if_neg (by simp [H2.out]), if_neg (by simp [H3.out]), if_neg h4, if_pos]
          rw [List.all_eq_false]
          exact ⟨_, List.getElem_mem hlt, by rw [Hok.out]; simp⟩
        | true =>
          have Hok := hid hok
          clear hok
          go_wp2
          go_roundw
          case rel =>
            refine ⟨k + 1, by omega, by go_num, fun i h hi => ?_, ext_trans hbl hb6⟩
            by_cases e : i = k
            · subst e; exact Hok.out
            · exact hno.out i h (by omega)
          case measure => simp [intOf]; omega
      · have Hru : Hid (∀ r ∈ T.rules, ruleOk T.lits r = true) := fun r hr => by
          obtain ⟨i, hi, rfl⟩ := List.getElem_of_mem hr
          exact hno.out i hi (by omega)
        have Hru2 : Hid (¬ T.rules.all (ruleOk T.lits) = false) := by rw [Hid, List.all_eq_true.2 Hru.out]; simp
        clear hno
        go_wp2_with fail
        refine (pairs_any wo _ T (HT1.out.ext hbl) H2.out (by omega) H3.out (by omega) Hru.out).mono ?_
        rintro e w5 ⟨_, rfl, rfl, hb5⟩
        have hb5' := ext_trans hbl hb5
        clear c0 c1 c2 c3
        by_cases h6 : 65536 < pairCount T
        · go_wp2_with fail
          go_ret2
          exact Fin HQ (HE.out 113 _ (by unfold checkErr; rw [if_neg h1, if_neg (by simp [H2.out]), if_neg (by simp [H3.out]), if_neg h4, if_neg Hru2.out, if_pos h6]) hb5' _)
        have c0 := cell_ext hb5' B.out.1; have c1 := cell_ext hb5' B.out.2.1; have c2 := cell_ext hb5' B.out.2.2.1; have c3 := cell_ext hb5' B.out.2.2.2
        by_cases h7 : T.beats.length = T.rules.length
        case neg =>
          have hb7 : ((T.beats.length : Int) != (T.rules.length : Int)) = true := by simp; omega
          have H7 := hid h7
          have H6 := hid h6
          clear h7
          go_wp2_with fail
          go_ret2
          exact Fin HQ (HE.out 123 _ (by unfold checkErr; rw [if_neg h1, if_neg (by simp [H2.out]), if_neg (by simp [H3.out]), if_neg h4, if_neg Hru2.out, if_neg H6.out, if_pos H7.out]) hb5' _)
        have hb7 : ((T.beats.length : Int) != (T.rules.length : Int)) = false := by simp; omega
        have H7 := hid h7
        have H6 := hid h6
        clear h7
        go_wp2_with fail
        clear h6
        refine (beats_any w5 _ T (HT1.out.ext hb5') H2.out H3.out Hru.out H7.out (by omega)).mono ?_
        rintro e w6 ⟨_, rfl, ⟨r8, rfl, hr8⟩, hb6⟩
        have HR8 := hid hr8
        have hb6' := ext_trans hb5' hb6
        clear hr8 c0 c1 c2 c3
        have c0 := cell_ext hb6' B.out.1; have c1 := cell_ext hb6' B.out.2.1; have c2 := cell_ext hb6' B.out.2.2.1; have c3 := cell_ext hb6' B.out.2.2.2
        cases h8 : beatsAll T with
        | false =>
          have hr0 : 0 ≤ r8 := by have := HR8.out; rw [h8] at this; simp at this; omega
          have H8 := hid h8
          clear h8
          go_wp2_with fail
          go_ret2
          exact Fin HQ (HE.out 123 _ (by unfold checkErr; rw [if_neg h1, if_neg (by simp [H2.out]), if_neg (by simp [H3.out]), if_neg h4, if_neg Hru2.out, if_neg H6.out, if_neg (by simp [H7.out]), if_pos H8.out]) hb6' _)
        | true =>
          have hr0' : r8 < 0 := HR8.out.2 h8
          have H8 := hid h8
          clear h8
          go_wp2_with fail
          refine (circle_any w6 _ T (HT1.out.ext hb6') (by omega) H7.out H8.out).mono ?_
          rintro e w7 ⟨_, rfl, ⟨r9, rfl, hr9⟩, hb7'⟩
          have HR9 := hid hr9
          clear hr9
          by_cases h9 : 0 ≤ r9
          · go_wp2_with fail
            go_ret2
            exact Fin HQ (HE.out 131 _ (by unfold checkErr; rw [if_neg h1, if_neg (by simp [H2.out]), if_neg (by simp [H3.out]), if_neg h4, if_neg Hru2.out, if_neg H6.out, if_neg (by simp [H7.out]), if_neg (by simp [H8.out]), if_neg (fun h => by have := HR9.out.2 h; omega)]) (ext_trans hb6' hb7') _)
          · go_wp2_with fail
            go_ret2
            exact Fin HQ (HE.out 0 _ (by unfold checkErr; rw [if_neg h1, if_neg (by simp [H2.out]), if_neg (by simp [H3.out]), if_neg h4, if_neg Hru2.out, if_neg H6.out, if_neg (by simp [H7.out]), if_neg (by simp [H8.out]), if_pos (HR9.out.1 (by omega))]) (ext_trans hb6' hb7') _)
end Go.Proofs.Lx
