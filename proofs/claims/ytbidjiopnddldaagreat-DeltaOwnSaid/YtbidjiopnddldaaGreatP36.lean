/- Parts of the proof: Se, Sf. Contract of the reference's Check (layer 12). -/
import Derived.Test.YtbidjiopnddldaaGreatP35
import Derived.Test.YtbidjiopnddldaaGreatP8
namespace Go.Proofs.Lx
open Go Go.RowKit Go.Proofs.Tj
set_option linter.unusedSimpArgs false
set_option linter.unusedVariables false

/-- The theory is well but for knots. -/
structure Wf0 (T : Th) : Prop where
 l0 : 0 ≤ T.lits
 l1 : T.lits ≤ 4096
 fl : (T.foes.length : Int) = T.lits
 fo : foesAll T = true
 rl : T.rules.length ≤ 4096
 ru : ∀ r ∈ T.rules, ruleOk T.lits r = true
 bl : T.beats.length = T.rules.length
 ba : beatsAll T = true
theorem beats_row {T : Th} (h : Wf0 T) {i : Nat} (hi : i < T.beats.length) : (∀ y ∈ T.beats[i], 0 ≤ y ∧ y < (T.beats.length : Int)) ∧ ∀ s ∈ T.beats[i], memB (row T.foes (headOf T i)) (headOf T s) = true := by
 have h1 := beatsAll_true.1 h.ba i hi
 simp only [beatsOk, Bool.and_eq_true, List.getD_eq_getElem?_getD, List.getElem?_eq_getElem hi, Option.getD_some, List.all_eq_true] at h1
 refine ⟨fun y hy => ?_, h1.2⟩
 obtain ⟨j, hj, rfl⟩ := List.getElem_of_mem hy
 have := (risB_spec h1.1).1 j hj
 have := h.bl
 omega
theorem noKnot_iff {T : Th} (h : Wf0 T) : NoKnot T ↔ ∀ r, r < T.beats.length → ¬ Comes (adjB T.beats) r r := by
 have e : adjN (beatsAt T) = adjB T.beats := rfl
 unfold NoKnot
 rw [e]
 have hin : ∀ x, x < T.beats.length → ∀ y ∈ adjB T.beats x, y < T.beats.length := fun x hx y hy => by
  simp only [adjB, List.mem_map, List.getD_eq_getElem?_getD, List.getElem?_eq_getElem hx, Option.getD_some] at hy
  obtain ⟨z, hz, rfl⟩ := hy
  have := (beats_row h hx).1 z hz
  omega
 constructor
 ·rintro hk r hr ⟨z, hz, hl⟩
  have hzn := hin r hr z hz
  have := hk r z (by rw [← h.bl]; exact hr) (by rw [← h.bl]; exact hzn) (.step (.refl r) hz) hl
  subst this
  simp only [adjB, List.mem_map, List.getD_eq_getElem?_getD, List.getElem?_eq_getElem hr, Option.getD_some] at hz
  obtain ⟨z, hz, hzr⟩ := hz
  have h0 := (beats_row h hr).1 z hz
  obtain rfl : z = (r : Int) := by omega
  have h1 := (beats_row h hr).2 _ hz
  have hrr : r < T.rules.length := by rw [← h.bl]; exact hr
  have e2 : headOf T (r : Int) = T.rules[r].head := by simp [headOf, hrr]
  have hh := ruleOk_head (h.ru _ (List.getElem_mem hrr))
  have hq : T.rules[r].head.toNat < T.foes.length := by have := h.fl; omega
  have h2 := (foesOk_spec h.fo _ hq).2.2.1
  rw [e2] at h1
  rw [row_at hh.1 (by have := h.fl; omega)] at h1
  rw [show ((T.rules[r].head.toNat : Nat) : Int) = T.rules[r].head by omega] at h2
  rw [h1] at h2; cases h2
 ·intro hk x y hx hy h1 h2
  rcases leads_comes h1 with e | ⟨z, hz, hl⟩
  ·exact e
  ·exact absurd ⟨z, hz, hl.trans h2⟩ (hk x (by rw [h.bl]; exact hx))

set_option maxRecDepth 1000000 in
set_option maxHeartbeats 6400000 in
theorem check12_any (w : World) (V : Value) (T : Th) (hT : RdTh w V T) :
  Calls Tryz.prog 36 #[V] w (Ret fun v w' => (∃ i : Int, v = .tuple #[.int .i64 (checkErr T), .int .i64 i]) ∧ Below w.heap.size w w') := by
 have HT := hT
 obtain ⟨vF, vR, vB, rfl, ⟨A, c, rfl, hc, hb, hr⟩, ⟨AR, cR, rfl, hcR, hbR, hrR⟩, ⟨AB, cB, rfl, hcB, hbB, hrB⟩⟩ := hT
 have hbel := ext_alloc w (.cells #[.int .i64 T.lits, .slice A T.foes.length c, .slice AR T.rules.length cR, .slice AB T.beats.length cB] 25)
 obtain ⟨W1, HW1⟩ : ∃ W1, Hid (W1 = w.alloc (.cells #[.int .i64 T.lits, .slice A T.foes.length c, .slice AR T.rules.length cR, .slice AB T.beats.length cB] 25)) := ⟨_, rfl⟩
 have b0 : W1.cell? ⟨w.heap.size, 0, none⟩ = some (.int .i64 T.lits) := by rw [HW1.out]; exact box_cell (Below.refl _ _) 0
 have b1 : W1.cell? ⟨w.heap.size, 1, none⟩ = some (.slice A T.foes.length c) := by rw [HW1.out]; exact box_cell (Below.refl _ _) 1
 have b2 : W1.cell? ⟨w.heap.size, 2, none⟩ = some (.slice AR T.rules.length cR) := by rw [HW1.out]; exact box_cell (Below.refl _ _) 2
 have b3 : W1.cell? ⟨w.heap.size, 3, none⟩ = some (.slice AB T.beats.length cB) := by rw [HW1.out]; exact box_cell (Below.refl _ _) 3
 rw [← HW1.out] at hbel
 have hr1 := hr.ext llR_mono hbel
 have hrR1 := hrR.ext ruleR_mono hbel
 have hrB1 := hrB.ext llR_mono hbel
 have HT1 := hid (HT.ext hbel)
 have B := hid (And.intro b0 (And.intro b1 (And.intro b2 b3)))
 have hrd : ∀ W, Below W1.heap.size W1 W → W.cell? ⟨w.heap.size, 0, none⟩ = some (.int .i64 T.lits) ∧ W.cell? ⟨w.heap.size, 1, none⟩ = some (.slice A T.foes.length c) ∧ W.cell? ⟨w.heap.size, 2, none⟩ = some (.slice AR T.rules.length cR) ∧ W.cell? ⟨w.heap.size, 3, none⟩ = some (.slice AB T.beats.length cB) :=
  fun W h => ⟨cell_ext h B.out.1, cell_ext h B.out.2.1, cell_ext h B.out.2.2.1, cell_ext h B.out.2.2.2⟩
 have Hrd := hid hrd
 clear hr hrR hrB HT hrd b0 b1 b2 b3
 refine post_gen fun Q HQ => ?_
 go_enter Tryz.func36, Tryz.ntmps36
 have hE : ∀ (x : Int) (w' : World), checkErr T = x → Below W1.heap.size W1 w' → ∀ i : Int, (∃ i' : Int, Value.tuple #[.int .i64 x, .int .i64 i] = .tuple #[.int .i64 (checkErr T), .int .i64 i']) ∧ Below w.heap.size w w' := fun x w' e h i => ⟨⟨i, by rw [e]⟩, ext_trans hbel h⟩
 have HE := hid hE
 clear hE hbel
 by_cases h1 : T.lits < 0 ∨ 4096 < T.lits
 ·have H1 := hid h1
  go_wp2_with fail
  all_goals try rw [← HW1.out]
  all_goals first
   | (go_ret2; exact Fin HQ (HE.out 112 _ (by unfold checkErr; rw [if_pos H1.out]) (ext_refl _) _))
   | (exfalso; omega)
 by_cases h2 : (T.foes.length : Int) = T.lits
 case neg =>
  have hb2 : ((T.foes.length : Int) != T.lits) = true := by simp [h2]
  have H2 := hid h2
  clear h2
  go_wp2_with fail
  try rw [← HW1.out]
  go_ret2
  exact Fin HQ (HE.out 121 _ (by unfold checkErr; rw [if_neg h1, if_pos H2.out]) (ext_refl _) _)
 have hb2 : ((T.foes.length : Int) != T.lits) = false := by simp [h2]
 have H2 := hid h2
 have H1 := hid h1
 have hl0 : 0 ≤ T.lits := by omega
 have hl1 : T.lits ≤ 4096 := by omega
 clear h2 h1
 go_wp2_with fail
 rw [← HW1.out]
 clear hb2
 go_loopw [4] (fun v4 wr => ∃ k : Nat, (k : Int) ≤ T.lits ∧ v4 = .int .i64 k ∧ Hid (∀ i, i < k → foesOk T i = true) ∧ Below W1.heap.size W1 wr) (fun v4 _ => T.foes.length - (intOf v4).toNat)
 case atStart => exact ⟨0, by omega, rfl, fun i hk => absurd hk (by omega), ext_refl _⟩
 case round =>
  obtain ⟨k, hk, rfl, hno, hbl⟩ := hrel
  obtain ⟨c0, c1, c2, c3⟩ := Hrd.out _ hbl
  obtain ⟨wo, rfl⟩ : ∃ wo : World, wo = wr := ⟨_, rfl⟩
  by_cases hlt : (k : Int) < T.lits
  ·have hkf : k < T.foes.length := by have := H2.out; omega
   have Hcall := hid (foes12_any wo _ T k (HT1.out.ext hbl) H2.out hl1 hkf)
   go_wp2_with fail
   refine Hcall.out.mono ?_
   rintro e w2 ⟨_, rfl, rfl, hb2⟩
   have hbl2 := ext_trans hbl hb2
   clear Hcall c0 c1 c2 c3
   cases hok : foesOk T k with
   | false =>
    have Hok := hid hok
    clear hok
    go_wp2
    go_ret2
    exact Fin HQ (HE.out 121 _ (by unfold checkErr; rw [if_neg H1.out, if_neg (by simp [H2.out]), if_pos (foesAll_false hkf Hok.out)]) hbl2 _)
   | true =>
    have Hok := hid hok
    clear hok
    go_wp2
    go_roundw
    case rel =>
     refine ⟨k + 1, by omega, by go_num, fun i hi => ?_, hbl2⟩
     by_cases e : i = k
     ·subst e; exact Hok.out
     ·exact hno.out i (by omega)
    case measure => simp [intOf]; omega
  ·have h3 : Hid (foesAll T = true) := hid (foesAll_true.2 fun q hq => hno.out q (by have := H2.out; omega))
   by_cases h4 : 4096 < T.rules.length
   ·go_wp2_with fail
    go_ret2
    exact Fin HQ (HE.out 111 _ (by unfold checkErr; rw [if_neg H1.out, if_neg (by simp [H2.out]), if_neg (by simp [h3.out]), if_pos h4]) hbl _)
   go_wp2
   clear hno c0 c1 c2 c3
   go_loopw [5] (fun v5 wr => ∃ k : Nat, k ≤ T.rules.length ∧ v5 = .int .i64 k ∧ Hid (∀ i (h : i < T.rules.length), i < k → ruleOk T.lits T.rules[i] = true) ∧ Below W1.heap.size W1 wr) (fun v5 _ => T.rules.length - (intOf v5).toNat)
   case atStart => exact ⟨0, Nat.zero_le _, rfl, fun i h hk => absurd hk (by omega), hbl⟩
   case round =>
    clear hbl hk hlt
    obtain ⟨k, hk, rfl, hno, hbl⟩ := hrel
    obtain ⟨c0, c1, c2, c3⟩ := Hrd.out _ hbl
    have hbx : w.heap.size < wr.heap.size := World.block_lt_of_cell? _ _ c0
    obtain ⟨wo, rfl⟩ : ∃ wo : World, wo = wr := ⟨_, rfl⟩
    by_cases hlt : k < T.rules.length
    ·obtain ⟨ad, C, cC, rfl, p0, p1, p2, q0, q1, q2⟩ := (hrR1.ext ruleR_mono hbl).atRule hlt
     have hbx2 := ext_alloc wo (.cells #[.int .i64 T.rules[k].kind, .int .i64 T.rules[k].head, .slice C T.rules[k].body.length cC] 93)
     have Hcall := hid (rise12_any _ _ T.rules[k].body T.lits (⟨C, cC, rfl, q0, q1, q2.ext (scR_mono _) hbx2⟩ : RdI (wo.alloc (.cells #[.int .i64 T.rules[k].kind, .int .i64 T.rules[k].head, .slice C T.rules[k].body.length cC] 93)) _ T.rules[k].body))
     have Hbx3 := hid (ext_trans hbl hbx2)
     have Hok : Hid (ruleOk T.lits T.rules[k] = (decide (1 ≤ T.rules[k].kind) && decide (T.rules[k].kind ≤ 3) && decide (0 ≤ T.rules[k].head) && decide (T.rules[k].head < T.lits) && decide (T.rules[k].body.length ≤ 16) && risB T.rules[k].body T.lits)) := hid rfl
     have Hbad : Hid (ruleOk T.lits T.rules[k] = false → checkErr T = 122) := hid fun h => by
      unfold checkErr
      rw [if_neg H1.out, if_neg (by simp [H2.out]), if_neg (by simp [h3.out]), if_neg h4, if_pos]
      rw [List.all_eq_false]
      exact ⟨_, List.getElem_mem hlt, by rw [h]; simp⟩
     generalize hK : T.rules[k].kind = K at *
     generalize hH : T.rules[k].head = H at *
     generalize hBo : T.rules[k].body = Bo at *
     have HK := hid (And.intro hK (And.intro hH hBo))
     clear hK hH hBo q2 hbx2
     by_cases g1 : K < 1
     ·go_wp2_with fail
      go_ret2
      exact Fin HQ (HE.out 122 _ (Hbad.out (by rw [Hok.out, decide_eq_false (by omega)]; rfl)) Hbx3.out _)
     by_cases g2 : 3 < K
     ·go_wp2_with fail
      go_ret2
      exact Fin HQ (HE.out 122 _ (Hbad.out (by rw [Hok.out, decide_eq_false (show ¬ K ≤ 3 by omega)]; simp)) Hbx3.out _)
     by_cases g3 : H < 0
     ·go_wp2_with fail
      go_ret2
      exact Fin HQ (HE.out 122 _ (Hbad.out (by rw [Hok.out, decide_eq_false (show ¬ 0 ≤ H by omega)]; simp)) Hbx3.out _)
     by_cases g4 : T.lits ≤ H
     ·go_wp2_with fail
      go_ret2
      exact Fin HQ (HE.out 122 _ (Hbad.out (by rw [Hok.out, decide_eq_false (show ¬ H < T.lits by omega)]; simp)) Hbx3.out _)
     by_cases g5 : 16 < Bo.length
     ·have g6 : (16 : Int) < (Bo.length : Int) := by omega
      go_wp2_with fail
      go_ret2
      exact Fin HQ (HE.out 122 _ (Hbad.out (by rw [Hok.out, decide_eq_false (show ¬ Bo.length ≤ 16 by omega)]; simp)) Hbx3.out _)
     have g6 : ¬ (16 : Int) < (Bo.length : Int) := by omega
     have Hok2 : Hid (ruleOk T.lits T.rules[k] = risB Bo T.lits) := hid (by
      rw [Hok.out, decide_eq_true (show 1 ≤ K by omega), decide_eq_true (show K ≤ 3 by omega), decide_eq_true (show 0 ≤ H by omega), decide_eq_true (show H < T.lits by omega), decide_eq_true (show Bo.length ≤ 16 by omega)]; simp)
     go_wp2_with fail
     refine Hcall.out.mono ?_
     rintro e w5 ⟨_, rfl, rfl, hb5⟩
     have hb6 := ext_trans Hbx3.out hb5
     clear Hcall c0 c1 c2 c3 p0 p1 p2
     cases hok : risB Bo T.lits with
     | false =>
      have Hris := hid hok
      clear hok
      go_wp2
      go_ret2
      exact Fin HQ (HE.out 122 _ (Hbad.out (by rw [Hok2.out, Hris.out])) hb6 _)
     | true =>
      have Hris := hid hok
      clear hok
      go_wp2
      go_roundw
      case rel =>
       refine ⟨k + 1, by omega, by go_num, fun i h hi => ?_, hb6⟩
       by_cases e : i = k
       ·subst e; rw [Hok2.out, Hris.out]
       ·exact hno.out i h (by omega)
      case measure => simp [intOf]; omega
    ·have Hru : Hid (∀ r ∈ T.rules, ruleOk T.lits r = true) := fun r hr => by
      obtain ⟨i, hi, rfl⟩ := List.getElem_of_mem hr
      exact hno.out i hi (by omega)
     have Hru2 : Hid (¬ T.rules.all (ruleOk T.lits) = false) := by rw [Hid, List.all_eq_true.2 Hru.out]; simp
     have Hcall := hid (pairs12_any wo _ T (HT1.out.ext hbl) H2.out hl1 h3.out (by omega) Hru.out)
     clear hno
     go_wp2_with fail
     refine Hcall.out.mono ?_
     rintro e w5 ⟨_, rfl, ⟨s9, rfl, hs9⟩, hb5⟩
     have hb5' := ext_trans hbl hb5
     have Hs9 := hid hs9
     clear c0 c1 c2 c3 Hcall hs9
     by_cases h6 : 65536 < s9
     ·go_wp2_with fail
      go_ret2
      exact Fin HQ (HE.out 113 _ (by unfold checkErr; rw [if_neg H1.out, if_neg (by simp [H2.out]), if_neg (by simp [h3.out]), if_neg h4, if_neg Hru2.out, if_pos (Hs9.out.1 h6)]) hb5' _)
     obtain ⟨c0, c1, c2, c3⟩ := Hrd.out _ hb5'
     have H6 : Hid (¬ 65536 < pairCount T) := hid fun h => h6 (Hs9.out.2 h)
     by_cases h7 : T.beats.length = T.rules.length
     case neg =>
      have hb7 : ((T.beats.length : Int) != (T.rules.length : Int)) = true := by simp; omega
      have H7 := hid h7
      clear h7
      go_wp2_with fail
      go_ret2
      exact Fin HQ (HE.out 123 _ (by unfold checkErr; rw [if_neg H1.out, if_neg (by simp [H2.out]), if_neg (by simp [h3.out]), if_neg h4, if_neg Hru2.out, if_neg H6.out, if_pos H7.out]) hb5' _)
     have hb7 : ((T.beats.length : Int) != (T.rules.length : Int)) = false := by simp; omega
     have H7 := hid h7
     have h7a : T.beats.length ≤ T.rules.length := by omega
     have h7b : T.rules.length ≤ T.beats.length := by omega
     clear h7
     have Hbad : Hid (∀ i, i < T.beats.length → beatsOk T i = false → checkErr T = 123) := hid fun i hi h => by
      unfold checkErr
      rw [if_neg H1.out, if_neg (by simp [H2.out]), if_neg (by simp [h3.out]), if_neg h4, if_neg Hru2.out, if_neg H6.out, if_neg (by simp [H7.out]), if_pos (beatsAll_false hi h)]
     go_wp2_with fail
     clear h6 hb7 hlt hk c0 c1 c2 c3
     go_loopw [7] (fun v7 wr => ∃ k : Nat, k ≤ T.beats.length ∧ v7 = .int .i64 k ∧ Hid (∀ i, i < k → beatsOk T i = true) ∧ Below W1.heap.size W1 wr) (fun v7 _ => T.beats.length - (intOf v7).toNat)
     case atStart => exact ⟨0, Nat.zero_le _, rfl, fun i hk => absurd hk (by omega), hb5'⟩
     case round =>
      clear hb5' hb5 hbl
      obtain ⟨k, hk, rfl, hno, hbl⟩ := hrel
      obtain ⟨c0, c1, c2, c3⟩ := Hrd.out _ hbl
      obtain ⟨wo, rfl⟩ : ∃ wo : World, wo = wr := ⟨_, rfl⟩
      by_cases hlt : k < T.beats.length
      ·obtain ⟨ad, BB, cL, rfl, hcell, hcL, hbL, hrL⟩ := (hrB1.ext llR_mono hbl).atRow hlt
       have Hg : Hid (T.beats.getD k [] = T.beats[k]) := by simp [Hid, hlt]
       generalize hL : T.beats[k] = L at *
       have HL := hid hL
       clear hL
       have Hcall : Hid (∀ n, Calls Tryz.prog 61 #[.slice BB L.length cL, .int .i64 (T.rules.length : Int)] (wo.drewN n) (fun e w' => e = .returned (.bool (risB L T.rules.length)) ∧ ∃ m, w' = wo.drewN m)) := hid fun n => rise12_quiet wo _ L (T.rules.length : Int) (⟨BB, cL, rfl, hcL, hbL, hrL⟩ : RdI wo (.slice BB L.length cL) L) n
       cases hris : risB L T.rules.length with
       | false =>
        rw [hris] at Hcall
        have Hris := hid hris
        clear hris
        go_wp2_with fail
        go_quiet ((go_at_call 61; exact Hcall.out _))
        go_wp2
        go_ret2
        exact Fin HQ (HE.out 123 _ (Hbad.out k hlt (by simp only [beatsOk, Hg.out]; rw [Hris.out]; simp)) (below_drewN hbl _) _)
       | true =>
        rw [hris] at Hcall
        have Hris := hid hris
        clear hris
        go_wp2_with fail
        go_quiet ((go_at_call 61; exact Hcall.out _))
        go_wp2
        have hbl0 := below_drewN hbl
        clear hcell c0 c1 c2 c3 Hcall
        go_loopw [8] (fun v8 w3 => ∃ j : Nat, j ≤ L.length ∧ v8 = .int .i64 j ∧ Hid (∀ i (h : i < L.length), i < j → memB (row T.foes (headOf T k)) (headOf T L[i]) = true) ∧ Below wo.heap.size wo w3) (fun v8 _ => L.length - (intOf v8).toNat)
        case atStart => exact ⟨0, Nat.zero_le _, rfl, fun i h hk => absurd hk (by omega), ext_drewN _ _⟩
        case round =>
         obtain ⟨j, hj, rfl, hin, hbl3⟩ := hrel
         have hbl4 := ext_trans hbl hbl3
         obtain ⟨c0, c1, c2, c3⟩ := Hrd.out _ hbl4
         have hcell := ((hrB1.ext llR_mono hbl4).atRow hlt)
         rw [HL.out] at hcell
         obtain ⟨ad', B', cL', e', hcell, _, _, hrL'⟩ := hcell
         cases e'
         by_cases hjl : j < L.length
         ·obtain ⟨adL, rfl, hcj⟩ := hrL'.at1 hjl
          have hrange := (risB_spec Hris.out).1 j hjl
          have hkr : k < T.rules.length := by omega
          have hxr : L[j].toNat < T.rules.length := by omega
          obtain ⟨adR, B1, c1', rfl, p0, p1, p2, _, _, _⟩ := (hrR1.ext ruleR_mono hbl4).atRule hkr
          obtain ⟨adR', B2, c2', e2, q0, q1, q2, _, _, _⟩ := (hrR1.ext ruleR_mono hbl4).atRule hxr
          cases e2
          have hk0 := ruleOk_head (Hru.out _ (List.getElem_mem hkr))
          have hfk : T.rules[k].head.toNat < T.foes.length := by have := H2.out; omega
          obtain ⟨adF, CF, cF, rfl, hcF, hcF2, hbF, hrF⟩ := (hr1.ext llR_mono hbl4).atRow hfk
          have Hk1 : Hid (headOf T k = T.rules[k].head) := by simp [Hid, headOf, hkr]
          have Hx1 : Hid (headOf T L[j] = T.rules[L[j].toNat].head) := by simp [Hid, headOf, hxr]
          have Hrow : Hid (row T.foes T.rules[k].head = T.foes[T.rules[k].head.toNat]) := row_at hk0.1 (by have := H2.out; omega)
          obtain ⟨hk00, hk01⟩ := hk0
          obtain ⟨hr00, hr01⟩ := hrange
          have hk02 : T.rules[k].head < (T.foes.length : Int) := by have := H2.out; omega
          generalize hX : L[j] = X at *
          have HX := hid hX
          clear hX
          generalize hh : T.rules[k].head = hd at *
          have Hh := hid hh
          clear hh
          generalize hh2 : T.rules[X.toNat].head = hx at *
          have Hh2 := hid hh2
          clear hh2
          generalize hY : T.foes[hd.toNat] = Y at *
          have HY := hid hY
          clear hY
          have Hcall : Hid (∀ n, Calls Tryz.prog 63 #[.slice CF Y.length cF, .int .i64 hx] (wr.drewN n) (fun e w' => e = .returned (.bool (memB Y hx)) ∧ w' = wr.drewN n)) := hid fun n => in12_same _ _ Y hx (Rd.ext (scR_mono _) (⟨CF, cF, rfl, hcF2, hbF, hrF⟩ : RdI wr (.slice CF Y.length cF) Y) (ext_drewN wr n))
          clear hrF hrL'
          cases hm : memB Y hx with
          | false =>
           rw [hm] at Hcall
           have Hm := hid hm
           clear hm
           go_wp2
           go_quiet ((go_at_call 63; exact Calls.quiet_of_same (Hcall.out _)))
           go_wp2
           go_ret2
           refine Fin HQ (HE.out 123 _ (Hbad.out k hlt ?_) (below_drewN hbl4 _) _)
           simp only [beatsOk, Hg.out]
           rw [show (L.all fun s => memB (row T.foes (headOf T k)) (headOf T s)) = false from by
            rw [List.all_eq_false]; exact ⟨L[j], List.getElem_mem hjl, by rw [HX.out, Hx1.out, Hk1.out, Hrow.out, Hm.out]; simp⟩]
           simp
          | true =>
           rw [hm] at Hcall
           have Hm := hid hm
           clear hm
           go_wp2
           go_quiet ((go_at_call 63; exact Calls.quiet_of_same (Hcall.out _)))
           go_wp2
           go_roundw
           case rel =>
            refine ⟨j + 1, by omega, by go_num, fun i h hi => ?_, below_drewN hbl3 _⟩
            by_cases e : i = j
            ·subst e; rw [HX.out, Hx1.out, Hk1.out, Hrow.out, Hm.out]
            ·exact hin.out i h (by omega)
           case measure => simp [intOf]; omega
         ·have Hok : Hid (beatsOk T k = true) := hid (by
           simp only [beatsOk, Hg.out]; rw [Hris.out]
           simp only [Bool.true_and, List.all_eq_true]
           intro s hs
           obtain ⟨i, hi, rfl⟩ := List.getElem_of_mem hs
           exact hin.out i hi (by omega))
          go_wp2
          go_roundw
          case rel =>
           refine ⟨k + 1, by omega, by go_num, fun i hi => ?_, hbl4⟩
           by_cases e : i = k
           ·subst e; exact Hok.out
           ·exact hno.out i (by omega)
          case measure => simp [intOf]; omega
      ·have h8 : Hid (beatsAll T = true) := hid (beatsAll_true.2 fun q hq => hno.out q (by omega))
       have Hw0 : Hid (Wf0 T) := hid ⟨hl0, hl1, H2.out, h3.out, by omega, Hru.out, H7.out, h8.out⟩
       go_wp2
       clear hno c0 c1 c2 c3 hlt hk
       go_loopw [9] (fun v9 wr => ∃ k : Nat, k ≤ T.beats.length ∧ v9 = .int .i64 k ∧ Hid (∀ i, i < k → ¬ Comes (adjB T.beats) i i) ∧ Below W1.heap.size W1 wr) (fun v9 _ => T.beats.length - (intOf v9).toNat)
       case atStart => exact ⟨0, Nat.zero_le _, rfl, fun i hk => absurd hk (by omega), hbl⟩
       case round =>
        clear hbl
        obtain ⟨k, hk, rfl, hno, hbl⟩ := hrel
        obtain ⟨c0, c1, c2, c3⟩ := Hrd.out _ hbl
        obtain ⟨wo, rfl⟩ : ∃ wo : World, wo = wr := ⟨_, rfl⟩
        by_cases hlt : k < T.beats.length
        ·have Hcall := hid (back12_any wo _ T.beats ⟨AB, cB, rfl, hcB, hbB, hrB1.ext llR_mono hbl⟩ (by omega) (fun l hl y hy => by
          obtain ⟨i, hi, rfl⟩ := List.getElem_of_mem hl
          exact (beats_row Hw0.out hi).1 y hy) k hlt)
         obtain ⟨ad, BB, cL, rfl, hcell, hcL, hbL, hrL⟩ := (hrB1.ext llR_mono hbl).atRow hlt
         have Hg : Hid (adjB T.beats k = (T.beats[k]).map Int.toNat) := by simp [Hid, adjB, hlt]
         generalize hL : T.beats[k] = L at *
         clear hL hrL
         by_cases hz : L.length = 0
         ·have Hno : Hid (¬ Comes (adjB T.beats) k k) := hid fun ⟨z, hz1, _⟩ => by
           rw [Hg.out, List.length_eq_zero_iff.1 hz] at hz1; simp at hz1
          have hz2 : ¬ (0 : Int) < (L.length : Int) := by omega
          go_wp2_with fail
          go_roundw
          case rel =>
           refine ⟨k + 1, by omega, by go_num, fun i hi => ?_, hbl⟩
           by_cases e : i = k
           ·subst e; exact Hno.out
           ·exact hno.out i (by omega)
          case measure => simp [intOf]; omega
         ·have hz2 : (0 : Int) < (L.length : Int) := by omega
          clear hz
          go_wp2_with fail
          refine Hcall.out.mono ?_
          rintro e w5 ⟨_, rfl, ⟨bb, rfl, hbb⟩, hb5⟩
          have Hbb := hid hbb
          have hbl5 := ext_trans hbl hb5
          clear hbb Hcall c0 c1 c2 c3 hcell
          cases bb with
          | true =>
           go_wp2
           go_ret2
           exact Fin HQ (HE.out 131 _ (by unfold checkErr; rw [if_neg H1.out, if_neg (by simp [H2.out]), if_neg (by simp [h3.out]), if_neg h4, if_neg Hru2.out, if_neg H6.out, if_neg (by simp [H7.out]), if_neg (by simp [h8.out]), if_neg (fun h => (noKnot_iff Hw0.out).1 h k hlt (Hbb.out.1 (by simp)))]) hbl5 _)
          | false =>
           go_wp2
           go_roundw
           case rel =>
            refine ⟨k + 1, by omega, by go_num, fun i hi => ?_, hbl5⟩
            by_cases e : i = k
            ·subst e; exact fun h => by simpa using Hbb.out.2 h
            ·exact hno.out i (by omega)
           case measure => simp [intOf]; omega
        ·have Hnk : Hid (NoKnot T) := hid ((noKnot_iff Hw0.out).2 fun r hr => hno.out r (by omega))
         go_wp2
         go_ret2
         exact Fin HQ (HE.out 0 _ (by unfold checkErr; rw [if_neg H1.out, if_neg (by simp [H2.out]), if_neg (by simp [h3.out]), if_neg h4, if_neg Hru2.out, if_neg H6.out, if_neg (by simp [H7.out]), if_neg (by simp [h8.out]), if_pos Hnk.out]) hbl _)
end Go.Proofs.Lx

namespace Go.Proofs.Lx
open Go Go.RowKit
set_option linter.unusedSimpArgs false
set_option linter.unusedVariables false

structure NR (w : World) (b : Nat) (T : Th) (l : List Int) (RL : List (List Int)) : Prop where
 ex : ∃ vF vR vB vl vRu, w.heap[b]? = some (.cells #[.int .i64 T.lits, vF, vR, vB, vl, vRu] 125 (0, 0)) ∧ RdLL w vF T.foes ∧ RdRs w vR T.rules ∧ RdLL w vB T.beats ∧ RdI w vl l ∧ RdLL w vRu RL
theorem NR.ext {w w' : World} {b : Nat} {T : Th} {l : List Int} {RL : List (List Int)} (h : NR w b T l RL) (hb : Below w.heap.size w w') : NR w' b T l RL := by
 obtain ⟨vF, vR, vB, vl, vRu, hh, h1, h2, h3, h4, h5⟩ := h.ex
 exact ⟨vF, vR, vB, vl, vRu, (hb.block b (lt_of_block hh)).trans hh, h1.ext llR_mono hb, h2.ext ruleR_mono hb, h3.ext llR_mono hb, h4.ext (scR_mono _) hb, h5.ext llR_mono hb⟩

/-- A call that answers a bool and but draws. -/
def Dr (w : World) (B : Bool) (e : Ending) (w' : World) : Prop := e = .returned (.bool B) ∧ ∃ m, w' = w.drewN m
theorem dr_of {P : Program} {f : FuncId} {args : Array Value} {w : World} {B : Bool} (h : Calls P f args w (Ret fun v w' => v = .bool B ∧ ∃ m, w' = w.drewN m)) : Calls P f args w (Dr w B) :=
 h.mono fun e w' ⟨v, he, hv, hw⟩ => ⟨by rw [he, hv], hw⟩
theorem bit15_plain (tag : Int) (k : Nat) (hk : k < 4) (ht : tag = (k : Int) + 1) (w : World) : Calls Tryz.prog 82 #[.int .i64 tag] w fun e w' => e = .returned (.int .u8 ((2 ^ k : Nat) : Int)) ∧ w' = w := by
 refine Calls.mono (R := Ret fun v w' => v = .int .u8 ((2 ^ k : Nat) : Int) ∧ w' = w) ?_ (fun e w' ⟨v, he, hv, hw⟩ => ⟨by rw [he, hv], hw⟩)
 refine post_gen fun Q HQ => ?_
 rcases (show k = 0 ∨ k = 1 ∨ k = 2 ∨ k = 3 by omega) with rfl | rfl | rfl | rfl
 all_goals
  subst ht
  go_enter Tryz.func82, Tryz.ntmps82
  go_wp2
  go_ret
  exact Fin HQ ⟨rfl, rfl⟩

set_option maxHeartbeats 800000 in
theorem in15_same (w : World) (v : Value) (l : List Int) (x : Int) (hv : RdI w v l) :
  Calls Tryz.prog 23 #[v, .int .i64 x] w (fun e w' => e = .returned (.bool (memB l x)) ∧ w' = w) := by
 refine Calls.mono (R := Ret fun v w' => v = .bool (memB l x) ∧ w' = w) ?_ (fun e w' ⟨v, he, hv, hw⟩ => ⟨by rw [he, hv], hw⟩)
 obtain ⟨A, c, rfl, hc, hb, hr⟩ := hv
 refine post_gen fun Q HQ => ?_
 go_enter Tryz.func23, Tryz.ntmps23
 go_wp2
 go_loop [5] (fun v5 => ∃ k : Nat, k ≤ l.length ∧ v5 = .int .i64 k ∧ Hid (∀ i (h : i < l.length), i < k → l[i] ≠ x)) (fun v5 => l.length - (intOf v5).toNat)
 case atStart => exact ⟨0, Nat.zero_le _, rfl, fun i _ hk => absurd hk (by omega)⟩
 case round =>
  obtain ⟨k, hk, rfl, hno⟩ := hrel
  by_cases hlt : k < l.length
  ·obtain ⟨ad, rfl, hcell⟩ := hr.at1 hlt
   obtain ⟨y, Hy⟩ : ∃ y, Hid (l[k] = y) := ⟨_, hid rfl⟩
   have Hmem := hid (List.getElem_mem hlt)
   rw [Hy.out] at hcell Hmem
   by_cases he : y = x
   ·have hb1 : (y == x) = true := by simp [he]
    have hT : Hid (memB l x = true) := hid (memB_true.2 (by rw [← he]; exact Hmem.out))
    clear he
    go_wp2
    go_ret
    exact Fin HQ ⟨by rw [hT.out]; rfl, rfl⟩
   ·have hb1 : (y == x) = false := by simp [he]
    have He := hid he
    clear he
    go_wp2
    go_round
    case rel =>
     refine ⟨k + 1, by omega, by go_num, hid fun i h hi => ?_⟩
     by_cases e : i = k
     ·subst e; rw [Hy.out]; exact He.out
     ·exact hno.out i h (by omega)
    case measure => simp [intOf]; omega
  ·have hF : Hid (memB l x = false) := hid (memB_false.2 fun hm => by
    obtain ⟨i, hi, e⟩ := List.getElem_of_mem hm
    exact hno.out i hi (by omega) e)
   go_wp2
   go_ret
   exact Fin HQ ⟨by rw [hF.out]; rfl, rfl⟩

/-- A world that but drew. -/
def Drew (w w' : World) : Prop := ∃ m, w' = w.drewN m
theorem Drew.refl (w : World) : Drew w w := ⟨0, rfl⟩
theorem Drew.below {w w' : World} (h : Drew w w') : Below w.heap.size w w' := by obtain ⟨m, rfl⟩ := h; exact ext_drewN w m
theorem Drew.step {w w' : World} (h : Drew w w') (q : Nat) : Drew w (w'.drewN q) := by obtain ⟨m, rfl⟩ := h; exact ⟨m + q, World.drewN_drewN _ _ _⟩
theorem Drew.trans {a b c : World} (h : Drew a b) (k : Drew b c) : Drew a c := by obtain ⟨q, rfl⟩ := k; exact h.step q

def allM (M : List Nat) (k : Nat) (l : List Int) : Bool := !l.any fun x => !hasM M k x
def anyM (M : List Nat) (k : Nat) (l : List Int) : Bool := l.any fun x => hasM M k x

set_option maxRecDepth 100000 in
set_option maxHeartbeats 1600000 in
theorem all15_any (w : World) (vm v : Value) (M : List Nat) (l : List Int) (hm : RdMk w vm M) (hv : RdI w v l) (h8 : ∀ x ∈ M, x < 256) (hrg : ∀ x ∈ l, 0 ≤ x ∧ x < (M.length : Int)) (tag : Int) (k : Nat) (hk : k < 4) (ht : tag = (k : Int) + 1) :
  Calls Tryz.prog 115 #[vm, v, .int .i64 tag] w (Dr w (allM M k l)) := by
 refine dr_of ?_
 obtain ⟨A, c, rfl, hc, hb, hr⟩ := hv
 obtain ⟨AM, cM, rfl, hcM, hbM, hrM⟩ := hm
 have Hbit := hid (fun w => bit15_plain tag k hk ht w)
 have Hrg := hid hrg
 have H8 := hid h8
 clear ht hrg h8
 refine post_gen fun Q HQ => ?_
 go_enter Tryz.func115, Tryz.ntmps115
 go_wp2
 go_loopw [7] (fun v7 wr => ∃ j : Nat, j ≤ l.length ∧ v7 = .int .i64 j ∧ Hid (∀ i (h : i < l.length), i < j → hasM M k l[i] = true) ∧ Drew w wr) (fun v7 _ => l.length - (intOf v7).toNat)
 case atStart => exact ⟨0, Nat.zero_le _, rfl, fun i _ hk => absurd hk (by omega), Drew.refl w⟩
 case round =>
  obtain ⟨j, hj, rfl, hno, hdr⟩ := hrel
  have Hdr := hid hdr
  replace hr := hr.ext (scR_mono _) hdr.below
  replace hrM := hrM.ext (scR_mono _) hdr.below
  clear hdr
  by_cases hlt : j < l.length
  ·obtain ⟨ad, rfl, hcell⟩ := hr.at1 hlt
   obtain ⟨hx0, hx1⟩ := Hrg.out _ (List.getElem_mem hlt)
   have hxl : (l[j]).toNat < M.length := by omega
   obtain ⟨adM, rfl, hcm⟩ := hrM.at1 hxl
   have Hmm := hid (bit_mask M[(l[j]).toNat] (H8.out _ (List.getElem_mem hxl)) k hk)
   have Hr : Hid (hasM M k l[j] = M[(l[j]).toNat].testBit k) := by simp [Hid, hasM, hxl]
   generalize M[(l[j]).toNat] = y at *
   generalize hX : l[j] = X at *
   have HX := hid hX
   clear hX
   generalize hp : 2 ^ k = z at *
   clear hp
   cases hs : y.testBit k with
   | false =>
    have hb1 : (bits .and .u8 (y : Int) (z : Int) == 0) = true := by have := Hmm.out; rw [hs] at this; simpa using this
    have hF : Hid (allM M k l = false) := hid (by
     rw [allM, List.any_eq_true.2 ⟨l[j], List.getElem_mem hlt, by rw [HX.out, Hr.out, hs]; rfl⟩]; rfl)
    clear hs
    go_wp2
    go_quiet ((go_at_call 82; exact Calls.quiet_of_same (Hbit.out _)))
    go_wp2
    go_ret
    exact Fin HQ ⟨by rw [hF.out]; rfl, Hdr.out.step _⟩
   | true =>
    have hb1 : (bits .and .u8 (y : Int) (z : Int) == 0) = false := by have := Hmm.out; rw [hs] at this; simpa using this
    have Hs : Hid (hasM M k l[j] = true) := hid (by rw [HX.out, Hr.out, hs])
    clear hs
    go_wp2
    go_quiet ((go_at_call 82; exact Calls.quiet_of_same (Hbit.out _)))
    go_wp2
    go_roundw
    case rel =>
     refine ⟨j + 1, by omega, by go_num, hid fun i h hi => ?_, Hdr.out.step _⟩
     by_cases e : i = j
     ·subst e; exact Hs.out
     ·exact hno.out i h (by omega)
    case measure => simp [intOf]; omega
  ·have hT : Hid (allM M k l = true) := hid (by
    rw [allM, Bool.not_eq_true', List.any_eq_false]
    intro x hx
    obtain ⟨i, hi, rfl⟩ := List.getElem_of_mem hx
    rw [hno.out i hi (by omega)]; simp)
   go_wp2
   go_ret
   exact Fin HQ ⟨by rw [hT.out]; rfl, Hdr.out⟩

set_option maxRecDepth 100000 in
set_option maxHeartbeats 1600000 in
theorem any15_any (w : World) (vm v : Value) (M : List Nat) (l : List Int) (hm : RdMk w vm M) (hv : RdI w v l) (h8 : ∀ x ∈ M, x < 256) (hrg : ∀ x ∈ l, 0 ≤ x ∧ x < (M.length : Int)) (tag : Int) (k : Nat) (hk : k < 4) (ht : tag = (k : Int) + 1) :
  Calls Tryz.prog 116 #[vm, v, .int .i64 tag] w (Dr w (anyM M k l)) := by
 refine dr_of ?_
 obtain ⟨A, c, rfl, hc, hb, hr⟩ := hv
 obtain ⟨AM, cM, rfl, hcM, hbM, hrM⟩ := hm
 have Hbit := hid (fun w => bit15_plain tag k hk ht w)
 have Hrg := hid hrg
 have H8 := hid h8
 clear ht hrg h8
 refine post_gen fun Q HQ => ?_
 go_enter Tryz.func116, Tryz.ntmps116
 go_wp2
 go_loopw [7] (fun v7 wr => ∃ j : Nat, j ≤ l.length ∧ v7 = .int .i64 j ∧ Hid (∀ i (h : i < l.length), i < j → hasM M k l[i] = false) ∧ Drew w wr) (fun v7 _ => l.length - (intOf v7).toNat)
 case atStart => exact ⟨0, Nat.zero_le _, rfl, fun i _ hk => absurd hk (by omega), Drew.refl w⟩
 case round =>
  obtain ⟨j, hj, rfl, hno, hdr⟩ := hrel
  have Hdr := hid hdr
  replace hr := hr.ext (scR_mono _) hdr.below
  replace hrM := hrM.ext (scR_mono _) hdr.below
  clear hdr
  by_cases hlt : j < l.length
  ·obtain ⟨ad, rfl, hcell⟩ := hr.at1 hlt
   obtain ⟨hx0, hx1⟩ := Hrg.out _ (List.getElem_mem hlt)
   have hxl : (l[j]).toNat < M.length := by omega
   obtain ⟨adM, rfl, hcm⟩ := hrM.at1 hxl
   have Hmm := hid (bit_mask M[(l[j]).toNat] (H8.out _ (List.getElem_mem hxl)) k hk)
   have Hr : Hid (hasM M k l[j] = M[(l[j]).toNat].testBit k) := by simp [Hid, hasM, hxl]
   generalize M[(l[j]).toNat] = y at *
   generalize hX : l[j] = X at *
   have HX := hid hX
   clear hX
   generalize hp : 2 ^ k = z at *
   clear hp
   cases hs : y.testBit k with
   | true =>
    have hb1 : (bits .and .u8 (y : Int) (z : Int) != 0) = true := by have := Hmm.out; rw [hs] at this; exact this
    have hF : Hid (anyM M k l = true) := hid (List.any_eq_true.2 ⟨l[j], List.getElem_mem hlt, by rw [HX.out, Hr.out, hs]⟩)
    clear hs
    go_wp2
    go_quiet ((go_at_call 82; exact Calls.quiet_of_same (Hbit.out _)))
    go_wp2
    go_ret
    exact Fin HQ ⟨by rw [hF.out]; rfl, Hdr.out.step _⟩
   | false =>
    have hb1 : (bits .and .u8 (y : Int) (z : Int) != 0) = false := by have := Hmm.out; rw [hs] at this; exact this
    have Hs : Hid (hasM M k l[j] = false) := hid (by rw [HX.out, Hr.out, hs])
    clear hs
    go_wp2
    go_quiet ((go_at_call 82; exact Calls.quiet_of_same (Hbit.out _)))
    go_wp2
    go_roundw
    case rel =>
     refine ⟨j + 1, by omega, by go_num, hid fun i h hi => ?_, Hdr.out.step _⟩
     by_cases e : i = j
     ·subst e; exact Hs.out
     ·exact hno.out i h (by omega)
    case measure => simp [intOf]; omega
  ·have hT : Hid (anyM M k l = false) := hid (by
    rw [anyM, List.any_eq_false]
    intro x hx
    obtain ⟨i, hi, rfl⟩ := List.getElem_of_mem hx
    rw [hno.out i hi (by omega)]; simp)
   go_wp2
   go_ret
   exact Fin HQ ⟨by rw [hT.out]; rfl, Hdr.out⟩

theorem strict15_same (w : World) (b : Nat) (T : Th) (l : List Int) (RL : List (List Int)) (h : NR w b T l RL) (r : Int) (h0 : 0 ≤ r) (hr0 : r < T.rules.length) :
  Calls Tryz.prog 114 #[.pointer (some ⟨b, 0, none⟩), .int .i64 r] w (fun e w' => e = .returned (.bool (strictB T r)) ∧ w' = w) := by
 refine Calls.mono (R := Ret fun v w' => v = .bool (strictB T r) ∧ w' = w) ?_ (fun e w' ⟨v, he, hv, hw⟩ => ⟨by rw [he, hv], hw⟩)
 obtain ⟨vF, vR, vB, vl, vRu, hh, _, ⟨A, c, rfl, hc, hb, hr⟩, _, _, _⟩ := h.ex
 have hrl : r.toNat < T.rules.length := by omega
 obtain ⟨ad, B, cB, rfl, p0, p1, p2, _, _, _⟩ := hr.atRule hrl
 have c2 := cell_of_row w b 2 _ _ _ hh
 simp only [List.getElem?_toArray, List.getElem?_cons_zero, List.getElem?_cons_succ] at c2
 have Hr : Hid (strictB T r = (T.rules[r.toNat].kind == 1)) := by simp [Hid, strictB, kindAt, hrl]
 generalize T.rules[r.toNat].kind = x at *
 refine post_gen fun Q HQ => ?_
 go_enter Tryz.func114, Tryz.ntmps114
 go_wp2
 go_ret
 exact Fin HQ ⟨by rw [Hr.out]; rfl, rfl⟩
theorem support15_same (w : World) (b : Nat) (T : Th) (l : List Int) (RL : List (List Int)) (h : NR w b T l RL) (r : Int) (h0 : 0 ≤ r) (hr0 : r < T.rules.length) :
  Calls Tryz.prog 117 #[.pointer (some ⟨b, 0, none⟩), .int .i64 r] w (fun e w' => e = .returned (.bool (supB T r)) ∧ w' = w) := by
 refine Calls.mono (R := Ret fun v w' => v = .bool (supB T r) ∧ w' = w) ?_ (fun e w' ⟨v, he, hv, hw⟩ => ⟨by rw [he, hv], hw⟩)
 obtain ⟨vF, vR, vB, vl, vRu, hh, _, ⟨A, c, rfl, hc, hb, hr⟩, _, _, _⟩ := h.ex
 have hrl : r.toNat < T.rules.length := by omega
 obtain ⟨ad, B, cB, rfl, p0, p1, p2, _, _, _⟩ := hr.atRule hrl
 have c2 := cell_of_row w b 2 _ _ _ hh
 simp only [List.getElem?_toArray, List.getElem?_cons_zero, List.getElem?_cons_succ] at c2
 have Hr : Hid (supB T r = (T.rules[r.toNat].kind != 3)) := by simp [Hid, supB, kindAt, hrl]
 generalize T.rules[r.toNat].kind = x at *
 refine post_gen fun Q HQ => ?_
 go_enter Tryz.func117, Tryz.ntmps117
 go_wp2
 go_ret
 exact Fin HQ ⟨by rw [Hr.out]; rfl, rfl⟩
end Go.Proofs.Lx
