/- Parts of the proof: Se, Sf, Sg, Sh, Si, Sj, Sl, Pc, Qa. Contract of the reference's Check (layer 12). -/
import Derived.Test.YtalhpldbhogadaaM3
namespace Go.Proofs.Lx
open Go Go.RowKit Go.Proofs.Tj
set_option linter.unusedSimpArgs false
set_option linter.unusedVariables false

/-- The theory is well but for knots. -/
structure Wf0 (T : Th) : Prop where
  l0 : 0 ≤ T.lits
  l1 : T.lits ≤ 4096
  fl : (T.foes.length : Int) = T.lits
  fo : foesAll T = true
  rl : T.rules.length ≤ 4096
  ru : ∀ r ∈ T.rules, ruleOk T.lits r = true
  bl : T.beats.length = T.rules.length
  ba : beatsAll T = true
theorem beats_row {T : Th} (h : Wf0 T) {i : Nat} (hi : i < T.beats.length) : (∀ y ∈ T.beats[i], 0 ≤ y ∧ y < (T.beats.length : Int)) ∧ ∀ s ∈ T.beats[i], memB (row T.foes (headOf T i)) (headOf T s) = true := by
  have h1 := beatsAll_true.1 h.ba i hi
  simp only [beatsOk, Bool.and_eq_true, List.getD_eq_getElem?_getD, List.getElem?_eq_getElem hi, Option.getD_some, List.all_eq_true] at h1
  refine ⟨fun y hy => ?_, h1.2⟩
  obtain ⟨j, hj, rfl⟩ := List.getElem_of_mem hy
  have := (risB_spec h1.1).1 j hj
  have := h.bl
  omega
theorem noKnot_iff {T : Th} (h : Wf0 T) : NoKnot T ↔ ∀ r, r < T.beats.length → ¬ Comes (adjB T.beats) r r := by
  have e : adjN (beatsAt T) = adjB T.beats := rfl
  unfold NoKnot
  rw [e]
  have hin : ∀ x, x < T.beats.length → ∀ y ∈ adjB T.beats x, y < T.beats.length := fun x hx y hy => by
    simp only [adjB, List.mem_map, List.getD_eq_getElem?_getD, List.getElem?_eq_getElem hx, Option.getD_some] at hy
    obtain ⟨z, hz, rfl⟩ := hy
    have := (beats_row h hx).1 z hz
    omega
  constructor
  · rintro hk r hr ⟨z, hz, hl⟩
    have hzn := hin r hr z hz
    have := hk r z (by rw [← h.bl]; exact hr) (by rw [← h.bl]; exact hzn) (.step (.refl r) hz) hl
    subst this
    simp only [adjB, List.mem_map, List.getD_eq_getElem?_getD, List.getElem?_eq_getElem hr, Option.getD_some] at hz
    obtain ⟨z, hz, hzr⟩ := hz
    have h0 := (beats_row h hr).1 z hz
    obtain rfl : z = (r : Int) := by omega
    have h1 := (beats_row h hr).2 _ hz
    have hrr : r < T.rules.length := by rw [← h.bl]; exact hr
    have e2 : headOf T (r : Int) = T.rules[r].head := by simp [headOf, hrr]
    have hh := ruleOk_head (h.ru _ (List.getElem_mem hrr))
    have hq : T.rules[r].head.toNat < T.foes.length := by have := h.fl; omega
    have h2 := (foesOk_spec h.fo _ hq).2.2.1
    rw [e2] at h1
    rw [row_at hh.1 (by have := h.fl; omega)] at h1
    rw [show ((T.rules[r].head.toNat : Nat) : Int) = T.rules[r].head by omega] at h2
    rw [h1] at h2; cases h2
  · intro hk x y hx hy h1 h2
    rcases leads_comes h1 with e | ⟨z, hz, hl⟩
    · exact e
    · exact absurd ⟨z, hz, hl.trans h2⟩ (hk x (by rw [h.bl]; exact hx))

set_option maxRecDepth 1000000 in
set_option maxHeartbeats 6400000 in
theorem check12_any (w : World) (V : Value) (T : Th) (hT : RdTh w V T) :
   Calls Try.prog 92 #[V] w (Ret fun v w' => (∃ i : Int, v = .tuple #[.int .i64 (checkErr T), .int .i64 i]) ∧ Below w.heap.size w w') := by
  have HT := hT
  obtain ⟨vF, vR, vB, rfl, ⟨A, c, rfl, hc, hb, hr⟩, ⟨AR, cR, rfl, hcR, hbR, hrR⟩, ⟨AB, cB, rfl, hcB, hbB, hrB⟩⟩ := hT
  have hbel := ext_alloc w (.cells #[.int .i64 T.lits, .slice A T.foes.length c, .slice AR T.rules.length cR, .slice AB T.beats.length cB] 25)
  obtain ⟨W1, HW1⟩ : ∃ W1, Hid (W1 = w.alloc (.cells #[.int .i64 T.lits, .slice A T.foes.length c, .slice AR T.rules.length cR, .slice AB T.beats.length cB] 25)) := ⟨_, rfl⟩
  have b0 : W1.cell? ⟨w.heap.size, 0, none⟩ = some (.int .i64 T.lits) := by rw [HW1.out]; exact box_cell (Below.refl _ _) 0
  have b1 : W1.cell? ⟨w.heap.size, 1, none⟩ = some (.slice A T.foes.length c) := by rw [HW1.out]; exact box_cell (Below.refl _ _) 1
  have b2 : W1.cell? ⟨w.heap.size, 2, none⟩ = some (.slice AR T.rules.length cR) := by rw [HW1.out]; exact box_cell (Below.refl _ _) 2
  have b3 : W1.cell? ⟨w.heap.size, 3, none⟩ = some (.slice AB T.beats.length cB) := by rw [HW1.out]; exact box_cell (Below.refl _ _) 3
  rw [← HW1.out] at hbel
  have hr1 := hr.ext llR_mono hbel
  have hrR1 := hrR.ext ruleR_mono hbel
  have hrB1 := hrB.ext llR_mono hbel
  have HT1 := hid (HT.ext hbel)
  have B := hid (And.intro b0 (And.intro b1 (And.intro b2 b3)))
  have hrd : ∀ W, Below W1.heap.size W1 W → W.cell? ⟨w.heap.size, 0, none⟩ = some (.int .i64 T.lits) ∧ W.cell? ⟨w.heap.size, 1, none⟩ = some (.slice A T.foes.length c) ∧ W.cell? ⟨w.heap.size, 2, none⟩ = some (.slice AR T.rules.length cR) ∧ W.cell? ⟨w.heap.size, 3, none⟩ = some (.slice AB T.beats.length cB) :=
    fun W h => ⟨cell_ext h B.out.1, cell_ext h B.out.2.1, cell_ext h B.out.2.2.1, cell_ext h B.out.2.2.2⟩
  have Hrd := hid hrd
  clear hr hrR hrB HT hrd b0 b1 b2 b3
  refine post_gen fun Q HQ => ?_
  go_enter Try.func92, Try.ntmps92
  have hE : ∀ (x : Int) (w' : World), checkErr T = x → Below W1.heap.size W1 w' → ∀ i : Int, (∃ i' : Int, Value.tuple #[.int .i64 x, .int .i64 i] = .tuple #[.int .i64 (checkErr T), .int .i64 i']) ∧ Below w.heap.size w w' := fun x w' e h i => ⟨⟨i, by rw [e]⟩, ext_trans hbel h⟩
  have HE := hid hE
  clear hE hbel
  by_cases h1 : T.lits < 0 ∨ 4096 < T.lits
  · have H1 := hid h1
    go_wp2_with fail
    all_goals try rw [← HW1.out]
    all_goals first
      | (go_ret2; exact Fin HQ (HE.out 112 _ (by unfold checkErr; rw [if_pos H1.out]) (ext_refl _) _))
      | (exfalso; omega)
  by_cases h2 : (T.foes.length : Int) = T.lits
  case neg =>
    have hb2 : ((T.foes.length : Int) != T.lits) = true := by simp [h2]
    have H2 := hid h2
    clear h2
    go_wp2_with fail
    try rw [← HW1.out]
    go_ret2
    exact Fin HQ (HE.out 121 _ (by unfold checkErr; rw [if_neg h1, if_pos H2.out]) (ext_refl _) _)
  have hb2 : ((T.foes.length : Int) != T.lits) = false := by simp [h2]
  have H2 := hid h2
  have H1 := hid h1
  have hl0 : 0 ≤ T.lits := by omega
  have hl1 : T.lits ≤ 4096 := by omega
  clear h2 h1
  go_wp2_with fail
  rw [← HW1.out]
  clear hb2
  go_loopw [4] (fun v4 wr => ∃ k : Nat, (k : Int) ≤ T.lits ∧ v4 = .int .i64 k ∧ Hid (∀ i, i < k → foesOk T i = true) ∧ Below W1.heap.size W1 wr) (fun v4 _ => T.foes.length - (intOf v4).toNat)
  case atStart => exact ⟨0, by omega, rfl, fun i hk => absurd hk (by omega), ext_refl _⟩
  case round =>
    obtain ⟨k, hk, rfl, hno, hbl⟩ := hrel
    obtain ⟨c0, c1, c2, c3⟩ := Hrd.out _ hbl
    obtain ⟨wo, rfl⟩ : ∃ wo : World, wo = wr := ⟨_, rfl⟩
    by_cases hlt : (k : Int) < T.lits
    · have hkf : k < T.foes.length := by have := H2.out; omega
      have Hcall := hid (foes12_any wo _ T k (HT1.out.ext hbl) H2.out hl1 hkf)
      go_wp2_with fail
      refine Hcall.out.mono ?_
      rintro e w2 ⟨_, rfl, rfl, hb2⟩
      have hbl2 := ext_trans hbl hb2
      clear Hcall c0 c1 c2 c3
      cases hok : foesOk T k with
      | false =>
        have Hok := hid hok
        clear hok
        go_wp2
        go_ret2
        exact Fin HQ (HE.out 121 _ (by unfold checkErr; rw [if_neg H1.out, if_neg (by simp [H2.out]), if_pos (foesAll_false hkf Hok.out)]) hbl2 _)
      | true =>
        have Hok := hid hok
        clear hok
        go_wp2
        go_roundw
        case rel =>
          refine ⟨k + 1, by omega, by go_num, fun i hi => ?_, hbl2⟩
          by_cases e : i = k
          · subst e; exact Hok.out
          · exact hno.out i (by omega)
        case measure => simp [intOf]; omega
    · have h3 : Hid (foesAll T = true) := hid (foesAll_true.2 fun q hq => hno.out q (by have := H2.out; omega))
      by_cases h4 : 4096 < T.rules.length
      · go_wp2_with fail
        go_ret2
        exact Fin HQ (HE.out 111 _ (by unfold checkErr; rw [if_neg H1.out, if_neg (by simp [H2.out]), if_neg (by simp [h3.out]), if_pos h4]) hbl _)
      go_wp2
      clear hno c0 c1 c2 c3
      go_loopw [5] (fun v5 wr => ∃ k : Nat, k ≤ T.rules.length ∧ v5 = .int .i64 k ∧ Hid (∀ i (h : i < T.rules.length), i < k → ruleOk T.lits T.rules[i] = true) ∧ Below W1.heap.size W1 wr) (fun v5 _ => T.rules.length - (intOf v5).toNat)
      case atStart => exact ⟨0, Nat.zero_le _, rfl, fun i h hk => absurd hk (by omega), hbl⟩
      case round =>
        clear hbl hk hlt
        obtain ⟨k, hk, rfl, hno, hbl⟩ := hrel
        obtain ⟨c0, c1, c2, c3⟩ := Hrd.out _ hbl
        have hbx : w.heap.size < wr.heap.size := World.block_lt_of_cell? _ _ c0
        obtain ⟨wo, rfl⟩ : ∃ wo : World, wo = wr := ⟨_, rfl⟩
        by_cases hlt : k < T.rules.length
        · obtain ⟨ad, C, cC, rfl, p0, p1, p2, q0, q1, q2⟩ := (hrR1.ext ruleR_mono hbl).atRule hlt
          have hbx2 := ext_alloc wo (.cells #[.int .i64 T.rules[k].kind, .int .i64 T.rules[k].head, .slice C T.rules[k].body.length cC] 37)
          have Hcall := hid (rise12_any _ _ T.rules[k].body T.lits (⟨C, cC, rfl, q0, q1, q2.ext (scR_mono _) hbx2⟩ : RdI (wo.alloc (.cells #[.int .i64 T.rules[k].kind, .int .i64 T.rules[k].head, .slice C T.rules[k].body.length cC] 37)) _ T.rules[k].body))
          have Hbx3 := hid (ext_trans hbl hbx2)
          have Hok : Hid (ruleOk T.lits T.rules[k] = (decide (1 ≤ T.rules[k].kind) && decide (T.rules[k].kind ≤ 3) && decide (0 ≤ T.rules[k].head) && decide (T.rules[k].head < T.lits) && decide (T.rules[k].body.length ≤ 16) && risB T.rules[k].body T.lits)) := hid rfl
          have Hbad : Hid (ruleOk T.lits T.rules[k] = false → checkErr T = 122) := hid fun h => by
            unfold checkErr
            rw [if_neg H1.out, if_neg (by simp [H2.out]), if_neg (by simp [h3.out]), if_neg h4, if_pos]
            rw [List.all_eq_false]
            exact ⟨_, List.getElem_mem hlt, by rw [h]; simp⟩
          generalize hK : T.rules[k].kind = K at *
          generalize hH : T.rules[k].head = H at *
          generalize hBo : T.rules[k].body = Bo at *
          have HK := hid (And.intro hK (And.intro hH hBo))
          clear hK hH hBo q2 hbx2
          by_cases g1 : K < 1
          · go_wp2_with fail
            go_ret2
            exact Fin HQ (HE.out 122 _ (Hbad.out (by rw [Hok.out, decide_eq_false (by omega)]; rfl)) Hbx3.out _)
          by_cases g2 : 3 < K
          · go_wp2_with fail
            go_ret2
            exact Fin HQ (HE.out 122 _ (Hbad.out (by rw [Hok.out, decide_eq_false (show ¬ K ≤ 3 by omega)]; simp)) Hbx3.out _)
          by_cases g3 : H < 0
          · go_wp2_with fail
            go_ret2
            exact Fin HQ (HE.out 122 _ (Hbad.out (by rw [Hok.out, decide_eq_false (show ¬ 0 ≤ H by omega)]; simp)) Hbx3.out _)
          by_cases g4 : T.lits ≤ H
          · go_wp2_with fail
            go_ret2
            exact Fin HQ (HE.out 122 _ (Hbad.out (by rw [Hok.out, decide_eq_false (show ¬ H < T.lits by omega)]; simp)) Hbx3.out _)
          by_cases g5 : 16 < Bo.length
          · have g6 : (16 : Int) < (Bo.length : Int) := by omega
            go_wp2_with fail
            go_ret2
            exact Fin HQ (HE.out 122 _ (Hbad.out (by rw [Hok.out, decide_eq_false (show ¬ Bo.length ≤ 16 by omega)]; simp)) Hbx3.out _)
          have g6 : ¬ (16 : Int) < (Bo.length : Int) := by omega
          have Hok2 : Hid (ruleOk T.lits T.rules[k] = risB Bo T.lits) := hid (by
            rw [Hok.out, decide_eq_true (show 1 ≤ K by omega), decide_eq_true (show K ≤ 3 by omega), decide_eq_true (show 0 ≤ H by omega), decide_eq_true (show H < T.lits by omega), decide_eq_true (show Bo.length ≤ 16 by omega)]; simp)
          go_wp2_with fail
          refine Hcall.out.mono ?_
          rintro e w5 ⟨_, rfl, rfl, hb5⟩
          have hb6 := ext_trans Hbx3.out hb5
          clear Hcall c0 c1 c2 c3 p0 p1 p2
          cases hok : risB Bo T.lits with
          | false =>
            have Hris := hid hok
            clear hok
            go_wp2
            go_ret2
            exact Fin HQ (HE.out 122 _ (Hbad.out (by rw [Hok2.out, Hris.out])) hb6 _)
          | true =>
            have Hris := hid hok
            clear hok
            go_wp2
            go_roundw
            case rel =>
              refine ⟨k + 1, by omega, by go_num, fun i h hi => ?_, hb6⟩
              by_cases e : i = k
              · subst e; rw [Hok2.out, Hris.out]
              · exact hno.out i h (by omega)
            case measure => simp [intOf]; omega
        · have Hru : Hid (∀ r ∈ T.rules, ruleOk T.lits r = true) := fun r hr => by
            obtain ⟨i, hi, rfl⟩ := List.getElem_of_mem hr
            exact hno.out i hi (by omega)
          have Hru2 : Hid (¬ T.rules.all (ruleOk T.lits) = false) := by rw [Hid, List.all_eq_true.2 Hru.out]; simp
          have Hcall := hid (pairs12_any wo _ T (HT1.out.ext hbl) H2.out hl1 h3.out (by omega) Hru.out)
          clear hno
          go_wp2_with fail
          refine Hcall.out.mono ?_
          rintro e w5 ⟨_, rfl, ⟨s9, rfl, hs9⟩, hb5⟩
          have hb5' := ext_trans hbl hb5
          have Hs9 := hid hs9
          clear c0 c1 c2 c3 Hcall hs9
          by_cases h6 : 65536 < s9
          · go_wp2_with fail
            go_ret2
            exact Fin HQ (HE.out 113 _ (by unfold checkErr; rw [if_neg H1.out, if_neg (by simp [H2.out]), if_neg (by simp [h3.out]), if_neg h4, if_neg Hru2.out, if_pos (Hs9.out.1 h6)]) hb5' _)
          obtain ⟨c0, c1, c2, c3⟩ := Hrd.out _ hb5'
          have H6 : Hid (¬ 65536 < pairCount T) := hid fun h => h6 (Hs9.out.2 h)
          by_cases h7 : T.beats.length = T.rules.length
          case neg =>
            have hb7 : ((T.beats.length : Int) != (T.rules.length : Int)) = true := by simp; omega
            have H7 := hid h7
            clear h7
            go_wp2_with fail
            go_ret2
            exact Fin HQ (HE.out 123 _ (by unfold checkErr; rw [if_neg H1.out, if_neg (by simp [H2.out]), if_neg (by simp [h3.out]), if_neg h4, if_neg Hru2.out, if_neg H6.out, if_pos H7.out]) hb5' _)
          have hb7 : ((T.beats.length : Int) != (T.rules.length : Int)) = false := by simp; omega
          have H7 := hid h7
          have h7a : T.beats.length ≤ T.rules.length := by omega
          have h7b : T.rules.length ≤ T.beats.length := by omega
          clear h7
          have Hbad : Hid (∀ i, i < T.beats.length → beatsOk T i = false → checkErr T = 123) := hid fun i hi h => by
            unfold checkErr
            rw [if_neg H1.out, if_neg (by simp [H2.out]), if_neg (by simp [h3.out]), if_neg h4, if_neg Hru2.out, if_neg H6.out, if_neg (by simp [H7.out]), if_pos (beatsAll_false hi h)]
          go_wp2_with fail
          clear h6 hb7 hlt hk c0 c1 c2 c3
          go_loopw [7] (fun v7 wr => ∃ k : Nat, k ≤ T.beats.length ∧ v7 = .int .i64 k ∧ Hid (∀ i, i < k → beatsOk T i = true) ∧ Below W1.heap.size W1 wr) (fun v7 _ => T.beats.length - (intOf v7).toNat)
          case atStart => exact ⟨0, Nat.zero_le _, rfl, fun i hk => absurd hk (by omega), hb5'⟩
          case round =>
            clear hb5' hb5 hbl
            obtain ⟨k, hk, rfl, hno, hbl⟩ := hrel
            obtain ⟨c0, c1, c2, c3⟩ := Hrd.out _ hbl
            obtain ⟨wo, rfl⟩ : ∃ wo : World, wo = wr := ⟨_, rfl⟩
            by_cases hlt : k < T.beats.length
            · obtain ⟨ad, BB, cL, rfl, hcell, hcL, hbL, hrL⟩ := (hrB1.ext llR_mono hbl).atRow hlt
              have Hg : Hid (T.beats.getD k [] = T.beats[k]) := by simp [Hid, hlt]
              generalize hL : T.beats[k] = L at *
              have HL := hid hL
              clear hL
              have Hcall : Hid (∀ n, Calls Try.prog 133 #[.slice BB L.length cL, .int .i64 (T.rules.length : Int)] (wo.drewN n) (fun e w' => e = .returned (.bool (risB L T.rules.length)) ∧ ∃ m, w' = wo.drewN m)) := hid fun n => rise12_quiet wo _ L (T.rules.length : Int) (⟨BB, cL, rfl, hcL, hbL, hrL⟩ : RdI wo (.slice BB L.length cL) L) n
              cases hris : risB L T.rules.length with
              | false =>
                rw [hris] at Hcall
                have Hris := hid hris
                clear hris
                go_wp2_with fail
                go_quiet ((go_at_call 133; exact Hcall.out _))
                go_wp2
                go_ret2
                exact Fin HQ (HE.out 123 _ (Hbad.out k hlt (by simp only [beatsOk, Hg.out]; rw [Hris.out]; simp)) (below_drewN hbl _) _)
              | true =>
                rw [hris] at Hcall
                have Hris := hid hris
                clear hris
                go_wp2_with fail
                go_quiet ((go_at_call 133; exact Hcall.out _))
                go_wp2
                have hbl0 := below_drewN hbl
                clear hcell c0 c1 c2 c3 Hcall
                go_loopw [8] (fun v8 w3 => ∃ j : Nat, j ≤ L.length ∧ v8 = .int .i64 j ∧ Hid (∀ i (h : i < L.length), i < j → memB (row T.foes (headOf T k)) (headOf T L[i]) = true) ∧ Below wo.heap.size wo w3) (fun v8 _ => L.length - (intOf v8).toNat)
                case atStart => exact ⟨0, Nat.zero_le _, rfl, fun i h hk => absurd hk (by omega), ext_drewN _ _⟩
                case round =>
                  obtain ⟨j, hj, rfl, hin, hbl3⟩ := hrel
                  have hbl4 := ext_trans hbl hbl3
                  obtain ⟨c0, c1, c2, c3⟩ := Hrd.out _ hbl4
                  have hcell := ((hrB1.ext llR_mono hbl4).atRow hlt)
                  rw [HL.out] at hcell
                  obtain ⟨ad', B', cL', e', hcell, _, _, hrL'⟩ := hcell
                  cases e'
                  by_cases hjl : j < L.length
                  · obtain ⟨adL, rfl, hcj⟩ := hrL'.at1 hjl
                    have hrange := (risB_spec Hris.out).1 j hjl
                    have hkr : k < T.rules.length := by omega
                    have hxr : L[j].toNat < T.rules.length := by omega
                    obtain ⟨adR, B1, c1', rfl, p0, p1, p2, _, _, _⟩ := (hrR1.ext ruleR_mono hbl4).atRule hkr
                    obtain ⟨adR', B2, c2', e2, q0, q1, q2, _, _, _⟩ := (hrR1.ext ruleR_mono hbl4).atRule hxr
                    cases e2
                    have hk0 := ruleOk_head (Hru.out _ (List.getElem_mem hkr))
                    have hfk : T.rules[k].head.toNat < T.foes.length := by have := H2.out; omega
                    obtain ⟨adF, CF, cF, rfl, hcF, hcF2, hbF, hrF⟩ := (hr1.ext llR_mono hbl4).atRow hfk
                    have Hk1 : Hid (headOf T k = T.rules[k].head) := by simp [Hid, headOf, hkr]
                    have Hx1 : Hid (headOf T L[j] = T.rules[L[j].toNat].head) := by simp [Hid, headOf, hxr]
                    have Hrow : Hid (row T.foes T.rules[k].head = T.foes[T.rules[k].head.toNat]) := row_at hk0.1 (by have := H2.out; omega)
                    obtain ⟨hk00, hk01⟩ := hk0
                    obtain ⟨hr00, hr01⟩ := hrange
                    have hk02 : T.rules[k].head < (T.foes.length : Int) := by have := H2.out; omega
                    generalize hX : L[j] = X at *
                    have HX := hid hX
                    clear hX
                    generalize hh : T.rules[k].head = hd at *
                    have Hh := hid hh
                    clear hh
                    generalize hh2 : T.rules[X.toNat].head = hx at *
                    have Hh2 := hid hh2
                    clear hh2
                    generalize hY : T.foes[hd.toNat] = Y at *
                    have HY := hid hY
                    clear hY
                    have Hcall : Hid (∀ n, Calls Try.prog 135 #[.slice CF Y.length cF, .int .i64 hx] (wr.drewN n) (fun e w' => e = .returned (.bool (memB Y hx)) ∧ w' = wr.drewN n)) := hid fun n => in12_same _ _ Y hx (Rd.ext (scR_mono _) (⟨CF, cF, rfl, hcF2, hbF, hrF⟩ : RdI wr (.slice CF Y.length cF) Y) (ext_drewN wr n))
                    clear hrF hrL'
                    cases hm : memB Y hx with
                    | false =>
                      rw [hm] at Hcall
                      have Hm := hid hm
                      clear hm
                      go_wp2
                      go_quiet ((go_at_call 135; exact Calls.quiet_of_same (Hcall.out _)))
                      go_wp2
                      go_ret2
                      refine Fin HQ (HE.out 123 _ (Hbad.out k hlt ?_) (below_drewN hbl4 _) _)
                      simp only [beatsOk, Hg.out]
                      rw [show (L.all fun s => memB (row T.foes (headOf T k)) (headOf T s)) = false from by
                        rw [List.all_eq_false]; exact ⟨L[j], List.getElem_mem hjl, by rw [HX.out, Hx1.out, Hk1.out, Hrow.out, Hm.out]; simp⟩]
                      simp
                    | true =>
                      rw [hm] at Hcall
                      have Hm := hid hm
                      clear hm
                      go_wp2
                      go_quiet ((go_at_call 135; exact Calls.quiet_of_same (Hcall.out _)))
                      go_wp2
                      go_roundw
                      case rel =>
                        refine ⟨j + 1, by omega, by go_num, fun i h hi => ?_, below_drewN hbl3 _⟩
                        by_cases e : i = j
                        · subst e; rw [HX.out, Hx1.out, Hk1.out, Hrow.out, Hm.out]
                        · exact hin.out i h (by omega)
                      case measure => simp [intOf]; omega
                  · have Hok : Hid (beatsOk T k = true) := hid (by
                      simp only [beatsOk, Hg.out]; rw [Hris.out]
                      simp only [Bool.true_and, List.all_eq_true]
                      intro s hs
                      obtain ⟨i, hi, rfl⟩ := List.getElem_of_mem hs
                      exact hin.out i hi (by omega))
                    go_wp2
                    go_roundw
                    case rel =>
                      refine ⟨k + 1, by omega, by go_num, fun i hi => ?_, hbl4⟩
                      by_cases e : i = k
                      · subst e; exact Hok.out
                      · exact hno.out i (by omega)
                    case measure => simp [intOf]; omega
            · have h8 : Hid (beatsAll T = true) := hid (beatsAll_true.2 fun q hq => hno.out q (by omega))
              have Hw0 : Hid (Wf0 T) := hid ⟨hl0, hl1, H2.out, h3.out, by omega, Hru.out, H7.out, h8.out⟩
              go_wp2
              clear hno c0 c1 c2 c3 hlt hk
              go_loopw [9] (fun v9 wr => ∃ k : Nat, k ≤ T.beats.length ∧ v9 = .int .i64 k ∧ Hid (∀ i, i < k → ¬ Comes (adjB T.beats) i i) ∧ Below W1.heap.size W1 wr) (fun v9 _ => T.beats.length - (intOf v9).toNat)
              case atStart => exact ⟨0, Nat.zero_le _, rfl, fun i hk => absurd hk (by omega), hbl⟩
              case round =>
                clear hbl
                obtain ⟨k, hk, rfl, hno, hbl⟩ := hrel
                obtain ⟨c0, c1, c2, c3⟩ := Hrd.out _ hbl
                obtain ⟨wo, rfl⟩ : ∃ wo : World, wo = wr := ⟨_, rfl⟩
                by_cases hlt : k < T.beats.length
                · have Hcall := hid (back12_any wo _ T.beats ⟨AB, cB, rfl, hcB, hbB, hrB1.ext llR_mono hbl⟩ (by omega) (fun l hl y hy => by
                    obtain ⟨i, hi, rfl⟩ := List.getElem_of_mem hl
                    exact (beats_row Hw0.out hi).1 y hy) k hlt)
                  obtain ⟨ad, BB, cL, rfl, hcell, hcL, hbL, hrL⟩ := (hrB1.ext llR_mono hbl).atRow hlt
                  have Hg : Hid (adjB T.beats k = (T.beats[k]).map Int.toNat) := by simp [Hid, adjB, hlt]
                  generalize hL : T.beats[k] = L at *
                  clear hL hrL
                  by_cases hz : L.length = 0
                  · have Hno : Hid (¬ Comes (adjB T.beats) k k) := hid fun ⟨z, hz1, _⟩ => by
                      rw [Hg.out, List.length_eq_zero_iff.1 hz] at hz1; simp at hz1
                    have hz2 : ¬ (0 : Int) < (L.length : Int) := by omega
                    go_wp2_with fail
                    go_roundw
                    case rel =>
                      refine ⟨k + 1, by omega, by go_num, fun i hi => ?_, hbl⟩
                      by_cases e : i = k
                      · subst e; exact Hno.out
                      · exact hno.out i (by omega)
                    case measure => simp [intOf]; omega
                  · have hz2 : (0 : Int) < (L.length : Int) := by omega
                    clear hz
                    go_wp2_with fail
                    refine Hcall.out.mono ?_
                    rintro e w5 ⟨_, rfl, ⟨bb, rfl, hbb⟩, hb5⟩
                    have Hbb := hid hbb
                    have hbl5 := ext_trans hbl hb5
                    clear hbb Hcall c0 c1 c2 c3 hcell
                    cases bb with
                    | true =>
                      go_wp2
                      go_ret2
                      exact Fin HQ (HE.out 131 _ (by unfold checkErr; rw [if_neg H1.out, if_neg (by simp [H2.out]), if_neg (by simp [h3.out]), if_neg h4, if_neg Hru2.out, if_neg H6.out, if_neg (by simp [H7.out]), if_neg (by simp [h8.out]), if_neg (fun h => (noKnot_iff Hw0.out).1 h k hlt (Hbb.out.1 (by simp)))]) hbl5 _)
                    | false =>
                      go_wp2
                      go_roundw
                      case rel =>
                        refine ⟨k + 1, by omega, by go_num, fun i hi => ?_, hbl5⟩
                        by_cases e : i = k
                        · subst e; exact fun h => by simpa using Hbb.out.2 h
                        · exact hno.out i (by omega)
                      case measure => simp [intOf]; omega
                · have Hnk : Hid (NoKnot T) := hid ((noKnot_iff Hw0.out).2 fun r hr => hno.out r (by omega))
                  go_wp2
                  go_ret2
                  exact Fin HQ (HE.out 0 _ (by unfold checkErr; rw [if_neg H1.out, if_neg (by simp [H2.out]), if_neg (by simp [h3.out]), if_neg h4, if_neg Hru2.out, if_neg H6.out, if_neg (by simp [H7.out]), if_neg (by simp [h8.out]), if_pos Hnk.out]) hbl _)
end Go.Proofs.Lx

namespace Go.Proofs.Lx
open Go Go.RowKit
set_option linter.unusedSimpArgs false
set_option linter.unusedVariables false

structure NR (w : World) (b : Nat) (T : Th) (l : List Int) (RL : List (List Int)) : Prop where
  ex : ∃ vF vR vB vl vRu, w.heap[b]? = some (.cells #[.int .i64 T.lits, vF, vR, vB, vl, vRu] 127 (0, 0)) ∧ RdLL w vF T.foes ∧ RdRs w vR T.rules ∧ RdLL w vB T.beats ∧ RdI w vl l ∧ RdLL w vRu RL
theorem NR.ext {w w' : World} {b : Nat} {T : Th} {l : List Int} {RL : List (List Int)} (h : NR w b T l RL) (hb : Below w.heap.size w w') : NR w' b T l RL := by
  obtain ⟨vF, vR, vB, vl, vRu, hh, h1, h2, h3, h4, h5⟩ := h.ex
  exact ⟨vF, vR, vB, vl, vRu, (hb.block b (lt_of_block hh)).trans hh, h1.ext llR_mono hb, h2.ext ruleR_mono hb, h3.ext llR_mono hb, h4.ext (scR_mono _) hb, h5.ext llR_mono hb⟩

/-- A call that answers a bool and but draws. -/
def Dr (w : World) (B : Bool) (e : Ending) (w' : World) : Prop := e = .returned (.bool B) ∧ ∃ m, w' = w.drewN m
theorem dr_of {P : Program} {f : FuncId} {args : Array Value} {w : World} {B : Bool} (h : Calls P f args w (Ret fun v w' => v = .bool B ∧ ∃ m, w' = w.drewN m)) : Calls P f args w (Dr w B) :=
  h.mono fun e w' ⟨v, he, hv, hw⟩ => ⟨by rw [he, hv], hw⟩
theorem dr_quiet {P : Program} {f : FuncId} {args : Array Value} {w : World} {B : Bool} (h : ∀ q, Calls P f args (w.drewN q) (Dr (w.drewN q) B)) (q : Nat) : Calls P f args (w.drewN q) (fun e w' => e = .returned (.bool B) ∧ ∃ m, w' = w.drewN m) :=
  (h q).mono fun e w' ⟨he, m, hw⟩ => ⟨he, q + m, by rw [hw, World.drewN_drewN]⟩

theorem bit15_plain (tag : Int) (k : Nat) (hk : k < 4) (ht : tag = (k : Int) + 1) (w : World) : Calls Try.prog 74 #[.int .i64 tag] w fun e w' => e = .returned (.int .u8 ((2 ^ k : Nat) : Int)) ∧ w' = w := by
  refine Calls.mono (R := Ret fun v w' => v = .int .u8 ((2 ^ k : Nat) : Int) ∧ w' = w) ?_ (fun e w' ⟨v, he, hv, hw⟩ => ⟨by rw [he, hv], hw⟩)
  refine post_gen fun Q HQ => ?_
  rcases (show k = 0 ∨ k = 1 ∨ k = 2 ∨ k = 3 by omega) with rfl | rfl | rfl | rfl
  all_goals
    subst ht
    go_enter Try.func74, Try.ntmps74
    go_wp2
    go_ret
    exact Fin HQ ⟨rfl, rfl⟩

set_option maxHeartbeats 800000 in
theorem in15_same (w : World) (v : Value) (l : List Int) (x : Int) (hv : RdI w v l) :
    Calls Try.prog 137 #[v, .int .i64 x] w (fun e w' => e = .returned (.bool (memB l x)) ∧ w' = w) := by
  refine Calls.mono (R := Ret fun v w' => v = .bool (memB l x) ∧ w' = w) ?_ (fun e w' ⟨v, he, hv, hw⟩ => ⟨by rw [he, hv], hw⟩)
  obtain ⟨A, c, rfl, hc, hb, hr⟩ := hv
  refine post_gen fun Q HQ => ?_
  go_enter Try.func137, Try.ntmps137
  go_wp2
  go_loop [5] (fun v5 => ∃ k : Nat, k ≤ l.length ∧ v5 = .int .i64 k ∧ Hid (∀ i (h : i < l.length), i < k → l[i] ≠ x)) (fun v5 => l.length - (intOf v5).toNat)
  case atStart => exact ⟨0, Nat.zero_le _, rfl, fun i _ hk => absurd hk (by omega)⟩
  case round =>
    obtain ⟨k, hk, rfl, hno⟩ := hrel
    by_cases hlt : k < l.length
    · obtain ⟨ad, rfl, hcell⟩ := hr.at1 hlt
      obtain ⟨y, Hy⟩ : ∃ y, Hid (l[k] = y) := ⟨_, hid rfl⟩
      have Hmem := hid (List.getElem_mem hlt)
      rw [Hy.out] at hcell Hmem
      by_cases he : y = x
      · have hb1 : (y == x) = true := by simp [he]
        have hT : Hid (memB l x = true) := hid (memB_true.2 (by rw [← he]; exact Hmem.out))
        clear he
        go_wp2
        go_ret
        exact Fin HQ ⟨by rw [hT.out]; rfl, rfl⟩
      · have hb1 : (y == x) = false := by simp [he]
        have He := hid he
        clear he
        go_wp2
        go_round
        case rel =>
          refine ⟨k + 1, by omega, by go_num, hid fun i h hi => ?_⟩
          by_cases e : i = k
          · subst e; rw [Hy.out]; exact He.out
          · exact hno.out i h (by omega)
        case measure => simp [intOf]; omega
    · have hF : Hid (memB l x = false) := hid (memB_false.2 fun hm => by
        obtain ⟨i, hi, e⟩ := List.getElem_of_mem hm
        exact hno.out i hi (by omega) e)
      go_wp2
      go_ret
      exact Fin HQ ⟨by rw [hF.out]; rfl, rfl⟩

/-- A world that but drew. -/
def Drew (w w' : World) : Prop := ∃ m, w' = w.drewN m
theorem Drew.refl (w : World) : Drew w w := ⟨0, rfl⟩
theorem Drew.below {w w' : World} (h : Drew w w') : Below w.heap.size w w' := by obtain ⟨m, rfl⟩ := h; exact ext_drewN w m
theorem Drew.step {w w' : World} (h : Drew w w') (q : Nat) : Drew w (w'.drewN q) := by obtain ⟨m, rfl⟩ := h; exact ⟨m + q, World.drewN_drewN _ _ _⟩
theorem Drew.trans {a b c : World} (h : Drew a b) (k : Drew b c) : Drew a c := by obtain ⟨q, rfl⟩ := k; exact h.step q

def allM (M : List Nat) (k : Nat) (l : List Int) : Bool := !l.any fun x => !hasM M k x
def anyM (M : List Nat) (k : Nat) (l : List Int) : Bool := l.any fun x => hasM M k x

set_option maxRecDepth 100000 in
set_option maxHeartbeats 1600000 in
theorem all15_any (w : World) (vm v : Value) (M : List Nat) (l : List Int) (hm : RdMk w vm M) (hv : RdI w v l) (h8 : ∀ x ∈ M, x < 256) (hrg : ∀ x ∈ l, 0 ≤ x ∧ x < (M.length : Int)) (tag : Int) (k : Nat) (hk : k < 4) (ht : tag = (k : Int) + 1) :
    Calls Try.prog 139 #[vm, v, .int .i64 tag] w (Dr w (allM M k l)) := by
  refine dr_of ?_
  obtain ⟨A, c, rfl, hc, hb, hr⟩ := hv
  obtain ⟨AM, cM, rfl, hcM, hbM, hrM⟩ := hm
  have Hbit := hid (fun w => bit15_plain tag k hk ht w)
  have Hrg := hid hrg
  have H8 := hid h8
  clear ht hrg h8
  refine post_gen fun Q HQ => ?_
  go_enter Try.func139, Try.ntmps139
  go_wp2
  go_loopw [7] (fun v7 wr => ∃ j : Nat, j ≤ l.length ∧ v7 = .int .i64 j ∧ Hid (∀ i (h : i < l.length), i < j → hasM M k l[i] = true) ∧ Drew w wr) (fun v7 _ => l.length - (intOf v7).toNat)
  case atStart => exact ⟨0, Nat.zero_le _, rfl, fun i _ hk => absurd hk (by omega), Drew.refl w⟩
  case round =>
    obtain ⟨j, hj, rfl, hno, hdr⟩ := hrel
    have Hdr := hid hdr
    replace hr := hr.ext (scR_mono _) hdr.below
    replace hrM := hrM.ext (scR_mono _) hdr.below
    clear hdr
    by_cases hlt : j < l.length
    · obtain ⟨ad, rfl, hcell⟩ := hr.at1 hlt
      obtain ⟨hx0, hx1⟩ := Hrg.out _ (List.getElem_mem hlt)
      have hxl : (l[j]).toNat < M.length := by omega
      obtain ⟨adM, rfl, hcm⟩ := hrM.at1 hxl
      have Hmm := hid (bit_mask M[(l[j]).toNat] (H8.out _ (List.getElem_mem hxl)) k hk)
      have Hr : Hid (hasM M k l[j] = M[(l[j]).toNat].testBit k) := by simp [Hid, hasM, hxl]
      generalize M[(l[j]).toNat] = y at *
      generalize hX : l[j] = X at *
      have HX := hid hX
      clear hX
      generalize hp : 2 ^ k = z at *
      clear hp
      cases hs : y.testBit k with
      | false =>
        have hb1 : (bits .and .u8 (y : Int) (z : Int) == 0) = true := by have := Hmm.out; rw [hs] at this; simpa using this
        have hF : Hid (allM M k l = false) := hid (by
          rw [allM, List.any_eq_true.2 ⟨l[j], List.getElem_mem hlt, by rw [HX.out, Hr.out, hs]; rfl⟩]; rfl)
        clear hs
        go_wp2
        go_quiet ((go_at_call 74; exact Calls.quiet_of_same (Hbit.out _)))
        go_wp2
        go_ret
        exact Fin HQ ⟨by rw [hF.out]; rfl, Hdr.out.step _⟩
      | true =>
        have hb1 : (bits .and .u8 (y : Int) (z : Int) == 0) = false := by have := Hmm.out; rw [hs] at this; simpa using this
        have Hs : Hid (hasM M k l[j] = true) := hid (by rw [HX.out, Hr.out, hs])
        clear hs
        go_wp2
        go_quiet ((go_at_call 74; exact Calls.quiet_of_same (Hbit.out _)))
        go_wp2
        go_roundw
        case rel =>
          refine ⟨j + 1, by omega, by go_num, hid fun i h hi => ?_, Hdr.out.step _⟩
          by_cases e : i = j
          · subst e; exact Hs.out
          · exact hno.out i h (by omega)
        case measure => simp [intOf]; omega
    · have hT : Hid (allM M k l = true) := hid (by
        rw [allM, Bool.not_eq_true', List.any_eq_false]
        intro x hx
        obtain ⟨i, hi, rfl⟩ := List.getElem_of_mem hx
        rw [hno.out i hi (by omega)]; simp)
      go_wp2
      go_ret
      exact Fin HQ ⟨by rw [hT.out]; rfl, Hdr.out⟩

set_option maxRecDepth 100000 in
set_option maxHeartbeats 1600000 in
theorem any15_any (w : World) (vm v : Value) (M : List Nat) (l : List Int) (hm : RdMk w vm M) (hv : RdI w v l) (h8 : ∀ x ∈ M, x < 256) (hrg : ∀ x ∈ l, 0 ≤ x ∧ x < (M.length : Int)) (tag : Int) (k : Nat) (hk : k < 4) (ht : tag = (k : Int) + 1) :
    Calls Try.prog 140 #[vm, v, .int .i64 tag] w (Dr w (anyM M k l)) := by
  refine dr_of ?_
  obtain ⟨A, c, rfl, hc, hb, hr⟩ := hv
  obtain ⟨AM, cM, rfl, hcM, hbM, hrM⟩ := hm
  have Hbit := hid (fun w => bit15_plain tag k hk ht w)
  have Hrg := hid hrg
  have H8 := hid h8
  clear ht hrg h8
  refine post_gen fun Q HQ => ?_
  go_enter Try.func140, Try.ntmps140
  go_wp2
  go_loopw [7] (fun v7 wr => ∃ j : Nat, j ≤ l.length ∧ v7 = .int .i64 j ∧ Hid (∀ i (h : i < l.length), i < j → hasM M k l[i] = false) ∧ Drew w wr) (fun v7 _ => l.length - (intOf v7).toNat)
  case atStart => exact ⟨0, Nat.zero_le _, rfl, fun i _ hk => absurd hk (by omega), Drew.refl w⟩
  case round =>
    obtain ⟨j, hj, rfl, hno, hdr⟩ := hrel
    have Hdr := hid hdr
    replace hr := hr.ext (scR_mono _) hdr.below
    replace hrM := hrM.ext (scR_mono _) hdr.below
    clear hdr
    by_cases hlt : j < l.length
    · obtain ⟨ad, rfl, hcell⟩ := hr.at1 hlt
      obtain ⟨hx0, hx1⟩ := Hrg.out _ (List.getElem_mem hlt)
      have hxl : (l[j]).toNat < M.length := by omega
      obtain ⟨adM, rfl, hcm⟩ := hrM.at1 hxl
      have Hmm := hid (bit_mask M[(l[j]).toNat] (H8.out _ (List.getElem_mem hxl)) k hk)
      have Hr : Hid (hasM M k l[j] = M[(l[j]).toNat].testBit k) := by simp [Hid, hasM, hxl]
      generalize M[(l[j]).toNat] = y at *
      generalize hX : l[j] = X at *
      have HX := hid hX
      clear hX
      generalize hp : 2 ^ k = z at *
      clear hp
      cases hs : y.testBit k with
      | true =>
        have hb1 : (bits .and .u8 (y : Int) (z : Int) != 0) = true := by have := Hmm.out; rw [hs] at this; exact this
        have hF : Hid (anyM M k l = true) := hid (List.any_eq_true.2 ⟨l[j], List.getElem_mem hlt, by rw [HX.out, Hr.out, hs]⟩)
        clear hs
        go_wp2
        go_quiet ((go_at_call 74; exact Calls.quiet_of_same (Hbit.out _)))
        go_wp2
        go_ret
        exact Fin HQ ⟨by rw [hF.out]; rfl, Hdr.out.step _⟩
      | false =>
        have hb1 : (bits .and .u8 (y : Int) (z : Int) != 0) = false := by have := Hmm.out; rw [hs] at this; exact this
        have Hs : Hid (hasM M k l[j] = false) := hid (by rw [HX.out, Hr.out, hs])
        clear hs
        go_wp2
        go_quiet ((go_at_call 74; exact Calls.quiet_of_same (Hbit.out _)))
        go_wp2
        go_roundw
        case rel =>
          refine ⟨j + 1, by omega, by go_num, hid fun i h hi => ?_, Hdr.out.step _⟩
          by_cases e : i = j
          · subst e; exact Hs.out
          · exact hno.out i h (by omega)
        case measure => simp [intOf]; omega
    · have hT : Hid (anyM M k l = false) := hid (by
        rw [anyM, List.any_eq_false]
        intro x hx
        obtain ⟨i, hi, rfl⟩ := List.getElem_of_mem hx
        rw [hno.out i hi (by omega)]; simp)
      go_wp2
      go_ret
      exact Fin HQ ⟨by rw [hT.out]; rfl, Hdr.out⟩

theorem strict15_same (w : World) (b : Nat) (T : Th) (l : List Int) (RL : List (List Int)) (h : NR w b T l RL) (r : Int) (h0 : 0 ≤ r) (hr0 : r < T.rules.length) :
    Calls Try.prog 138 #[.pointer (some ⟨b, 0, none⟩), .int .i64 r] w (fun e w' => e = .returned (.bool (strictB T r)) ∧ w' = w) := by
  refine Calls.mono (R := Ret fun v w' => v = .bool (strictB T r) ∧ w' = w) ?_ (fun e w' ⟨v, he, hv, hw⟩ => ⟨by rw [he, hv], hw⟩)
  obtain ⟨vF, vR, vB, vl, vRu, hh, _, ⟨A, c, rfl, hc, hb, hr⟩, _, _, _⟩ := h.ex
  have hrl : r.toNat < T.rules.length := by omega
  obtain ⟨ad, B, cB, rfl, p0, p1, p2, _, _, _⟩ := hr.atRule hrl
  have c2 := cell_of_row w b 2 _ _ _ hh
  simp only [List.getElem?_toArray, List.getElem?_cons_zero, List.getElem?_cons_succ] at c2
  have Hr : Hid (strictB T r = (T.rules[r.toNat].kind == 1)) := by simp [Hid, strictB, kindAt, hrl]
  generalize T.rules[r.toNat].kind = x at *
  refine post_gen fun Q HQ => ?_
  go_enter Try.func138, Try.ntmps138
  go_wp2
  go_ret
  exact Fin HQ ⟨by rw [Hr.out]; rfl, rfl⟩
theorem support15_same (w : World) (b : Nat) (T : Th) (l : List Int) (RL : List (List Int)) (h : NR w b T l RL) (r : Int) (h0 : 0 ≤ r) (hr0 : r < T.rules.length) :
    Calls Try.prog 141 #[.pointer (some ⟨b, 0, none⟩), .int .i64 r] w (fun e w' => e = .returned (.bool (supB T r)) ∧ w' = w) := by
  refine Calls.mono (R := Ret fun v w' => v = .bool (supB T r) ∧ w' = w) ?_ (fun e w' ⟨v, he, hv, hw⟩ => ⟨by rw [he, hv], hw⟩)
  obtain ⟨vF, vR, vB, vl, vRu, hh, _, ⟨A, c, rfl, hc, hb, hr⟩, _, _, _⟩ := h.ex
  have hrl : r.toNat < T.rules.length := by omega
  obtain ⟨ad, B, cB, rfl, p0, p1, p2, _, _, _⟩ := hr.atRule hrl
  have c2 := cell_of_row w b 2 _ _ _ hh
  simp only [List.getElem?_toArray, List.getElem?_cons_zero, List.getElem?_cons_succ] at c2
  have Hr : Hid (supB T r = (T.rules[r.toNat].kind != 3)) := by simp [Hid, supB, kindAt, hrl]
  generalize T.rules[r.toNat].kind = x at *
  refine post_gen fun Q HQ => ?_
  go_enter Try.func141, Try.ntmps141
  go_wp2
  go_ret
  exact Fin HQ ⟨by rw [Hr.out]; rfl, rfl⟩
end Go.Proofs.Lx

namespace Go.Proofs.Lx
open Go Go.RowKit
set_option linter.unusedSimpArgs false
set_option linter.unusedVariables false

theorem NR.cells {w : World} {b : Nat} {T : Th} {l : List Int} {RL : List (List Int)} (h : NR w b T l RL) : ∃ AF cF AR cR AB cB Al cl ARu cRu,
    w.cell? ⟨b, 1, none⟩ = some (.slice AF T.foes.length cF) ∧ w.cell? ⟨b, 2, none⟩ = some (.slice AR T.rules.length cR) ∧ w.cell? ⟨b, 3, none⟩ = some (.slice AB T.beats.length cB) ∧ w.cell? ⟨b, 4, none⟩ = some (.slice Al l.length cl) ∧ w.cell? ⟨b, 5, none⟩ = some (.slice ARu RL.length cRu) ∧
    RcLL w AF T.foes ∧ RcRs w AR T.rules ∧ RcLL w AB T.beats ∧ RdI w (.slice Al l.length cl) l ∧ RcLL w ARu RL := by
  obtain ⟨_, _, _, _, _, hh, ⟨AF, cF, rfl, _, _, h1⟩, ⟨AR, cR, rfl, _, _, h2⟩, ⟨AB, cB, rfl, _, _, h3⟩, ⟨Al, cl, rfl, e1, e2, h4⟩, ⟨ARu, cRu, rfl, _, _, h5⟩⟩ := h.ex
  refine ⟨AF, cF, AR, cR, AB, cB, Al, cl, ARu, cRu, ?_, ?_, ?_, ?_, ?_, h1, h2, h3, ⟨Al, cl, rfl, e1, e2, h4⟩, h5⟩
  all_goals rw [cell_of_row w b _ _ _ _ hh]; rfl
theorem any_take_succ {α : Type} {p : α → Bool} {L : List α} {i : Nat} (h : i < L.length) : (L.take (i + 1)).any p = ((L.take i).any p || p L[i]) := by
  rw [List.take_succ_eq_append_getElem h, List.any_append]; simp
theorem any_take_all {α : Type} {p : α → Bool} {L : List α} {i : Nat} (h : L.length ≤ i) : (L.take i).any p = L.any p := by rw [List.take_of_length_le h]
theorem any_hit {α : Type} {p : α → Bool} {L : List α} {i : Nat} (h : i < L.length) (hp : p L[i] = true) : L.any p = true := List.any_eq_true.2 ⟨_, List.getElem_mem h, hp⟩
theorem bodyAt_at {T : Th} {r : Int} (h : r.toNat < T.rules.length) : bodyAt T r = T.rules[r.toNat].body := by simp [bodyAt, h]

set_option maxRecDepth 100000 in
set_option maxHeartbeats 3200000 in
theorem plusD15_any (w : World) (b : Nat) (T : Th) (F : List Bool) (l : List Int) (RL : List (List Int)) (M : List Nat) (vm : Value) (h : NR w b T l RL) (hm : RdMk w vm M) (hv : NVal T F RL M) (q : Int) (h0 : 0 ≤ q) (hq : q < T.foes.length) :
    Calls Try.prog 94 #[.pointer (some ⟨b, 0, none⟩), vm, .int .i64 q] w (Dr w (memB l q || (row RL q).any (pdR T M))) := by
  refine dr_of ?_
  have H := hid h
  have Hm := hid hm
  have Hv := hid hv
  have hqr : q.toNat < RL.length := by have := hv.nR; omega
  have hqr2 : q < (RL.length : Int) := by have := hv.nR; omega
  have hqf : q.toNat < T.foes.length := by omega
  have Hrow : Hid (row RL q = RL[q.toNat]) := hid (row_at h0 hqr2)
  have Hrl : Hid (∀ r ∈ RL[q.toNat], 0 ≤ r ∧ r < (T.rules.length : Int)) := hid (hv.rl _ hqr)
  have Hbody : Hid (∀ r (h : r < T.rules.length), ∀ x ∈ T.rules[r].body, 0 ≤ x ∧ x < (M.length : Int)) := hid (fun r h x hx => by rw [hv.nM]; exact hv.body r h x hx)
  have H8 := hid hv.m8
  clear h hm hv
  refine post_gen fun Q HQ => ?_
  go_enter Try.func94, Try.ntmps94
  obtain ⟨AF, cF, AR, cR, AB, cB, Al, cl, ARu, cRu, c1, c2, c3, c4, c5, hF, hR, hB, hl, hRu⟩ := H.out.cells
  have Hin := hid (in15_same w _ l q hl)
  have Hs : Hid ((memB l q || (row RL q).any (pdR T M)) = (memB l q || RL[q.toNat].any (pdR T M))) := hid (by rw [Hrow.out])
  rw [Hs.out] at HQ
  clear hF hR hB hl hRu
  cases hs : memB l q with
  | true =>
    rw [hs] at Hin HQ
    clear hs
    go_wp2_with (go_at_call 137; refine Hin.out.mono ?_; rintro e w' ⟨rfl, hw9⟩; rw [hw9]; clear hw9 w')
    go_ret
    exact Fin HQ ⟨rfl, 0, rfl⟩
  | false =>
  rw [hs] at Hin HQ
  clear hs
  go_wp2_with (go_at_call 137; refine Hin.out.mono ?_; rintro e w' ⟨rfl, hw9⟩; rw [hw9]; clear hw9 w')
  clear c1 c2 c3 c4 c5 Hin
  generalize hL : RL[q.toNat] = L at *
  have HL := hid hL
  clear hL
  go_loopw [7] (fun v7 wr => ∃ i : Nat, i ≤ L.length ∧ v7 = .int .i64 i ∧ Hid ((L.take i).any (pdR T M) = false) ∧ Drew w wr) (fun v7 _ => L.length - (intOf v7).toNat)
  case atStart => exact ⟨0, Nat.zero_le _, rfl, hid (by simp), Drew.refl w⟩
  case round =>
    obtain ⟨i, hi, rfl, hno, hdr⟩ := hrel
    have Hdr := hid hdr
    obtain ⟨AF, cF, AR, cR, AB, cB, Al, cl, ARu, cRu, c1, c2, c3, c4, c5, hF, hR, hB, hl, hRu⟩ := (H.out.ext hdr.below).cells
    obtain ⟨adQ, LB, LC, rfl, pq, l1, l2, hrow⟩ := hRu.atRow hqr
    rw [HL.out] at pq l1 l2 hrow
    clear hdr
    by_cases hlt : i < L.length
    · have Hi := hid (any_take_succ (p := pdR T M) hlt)
      have Hhit := hid (any_hit (p := pdR T M) hlt)
      obtain ⟨adL, rfl, pl⟩ := hrow.at1 hlt
      obtain ⟨hr0, hr1⟩ := Hrl.out _ (List.getElem_mem hlt)
      obtain ⟨r, Hr⟩ : ∃ r, Hid (L[i] = r) := ⟨_, hid rfl⟩
      rw [Hr.out] at pl hr0 hr1
      have hrl : r.toNat < T.rules.length := by omega
      have HbR := hid (Hbody.out _ hrl)
      have Hbo := hid (bodyAt_at hrl)
      obtain ⟨adR, C, cC, rfl, p0, p1, p2, d1, d2, hbody⟩ := hR.atRule hrl
      generalize T.rules[r.toNat].body = bo at *
      have Hst := hid (strict15_same _ b T l RL (H.out.ext Hdr.out.below) r hr0 hr1)
      have Hall := hid (all15_any wr vm (.slice C bo.length cC) M bo (Hm.out.ext (scR_mono _) Hdr.out.below) ⟨C, cC, rfl, d1, d2, hbody⟩ H8.out HbR.out 1 0 (by decide) (by decide))
      have Hp : Hid (pdR T M r = (strictB T r && allM M 0 bo)) := hid (by rw [← Hbo.out]; rfl)
      clear hF hR hB hl hRu hrow hbody
      cases hs : strictB T r with
      | false =>
        have Hp2 : Hid (pdR T M r = false) := hid (by rw [Hp.out, hs]; rfl)
        rw [hs] at Hst
        clear hs
        go_wp2_with (go_at_call 138; refine Hst.out.mono ?_; rintro e w' ⟨rfl, hw9⟩; rw [hw9]; clear hw9 w')
        go_roundw
        case rel => exact ⟨i + 1, by omega, by go_num, hid (by rw [Hi.out, hno.out, Hr.out, Hp2.out]; rfl), Hdr.out⟩
        case measure => simp [intOf]; omega
      | true =>
        rw [hs] at Hst
        cases ha : allM M 0 bo with
        | true =>
          have Hp2 : Hid (pdR T M r = true) := hid (by rw [Hp.out, hs, ha]; rfl)
          rw [ha] at Hall
          have Hany : Hid (L.any (pdR T M) = true) := hid (Hhit.out (by rw [Hr.out, Hp2.out]))
          rw [Hany.out] at HQ
          clear hs ha
          go_wp2_with (first | (go_at_call 138; refine Hst.out.mono ?_; rintro e w' ⟨rfl, hw9⟩; rw [hw9]; clear hw9 w') | (go_at_call 139; refine Hall.out.mono ?_; rintro e w' ⟨rfl, m, rfl⟩))
          go_ret
          exact Fin HQ ⟨rfl, Hdr.out.step _⟩
        | false =>
          have Hp2 : Hid (pdR T M r = false) := hid (by rw [Hp.out, hs, ha]; rfl)
          rw [ha] at Hall
          clear hs ha
          go_wp2_with (first | (go_at_call 138; refine Hst.out.mono ?_; rintro e w' ⟨rfl, hw9⟩; rw [hw9]; clear hw9 w') | (go_at_call 139; refine Hall.out.mono ?_; rintro e w' ⟨rfl, m, rfl⟩))
          go_roundw
          case rel => exact ⟨i + 1, by omega, by go_num, hid (by rw [Hi.out, hno.out, Hr.out, Hp2.out]; rfl), Hdr.out.step _⟩
          case measure => simp [intOf]; omega
    · have Hany : Hid (L.any (pdR T M) = false) := hid (by rw [← any_take_all (show L.length ≤ i by omega), hno.out])
      rw [Hany.out] at HQ
      clear hF hR hB hl hRu hrow
      go_wp2
      go_ret
      exact Fin HQ ⟨rfl, Hdr.out⟩

set_option maxRecDepth 100000 in
set_option maxHeartbeats 3200000 in
theorem minusD15_any (w : World) (b : Nat) (T : Th) (F : List Bool) (l : List Int) (RL : List (List Int)) (M : List Nat) (vm : Value) (h : NR w b T l RL) (hm : RdMk w vm M) (hv : NVal T F RL M) (q : Int) (h0 : 0 ≤ q) (hq : q < T.foes.length) :
    Calls Try.prog 95 #[.pointer (some ⟨b, 0, none⟩), vm, .int .i64 q] w (Dr w (!memB l q && !(row RL q).any (mdR T M))) := by
  refine dr_of ?_
  have H := hid h
  have Hm := hid hm
  have Hv := hid hv
  have hqr : q.toNat < RL.length := by have := hv.nR; omega
  have hqr2 : q < (RL.length : Int) := by have := hv.nR; omega
  have hqf : q.toNat < T.foes.length := by omega
  have Hrow : Hid (row RL q = RL[q.toNat]) := hid (row_at h0 hqr2)
  have Hrl : Hid (∀ r ∈ RL[q.toNat], 0 ≤ r ∧ r < (T.rules.length : Int)) := hid (hv.rl _ hqr)
  have Hbody : Hid (∀ r (h : r < T.rules.length), ∀ x ∈ T.rules[r].body, 0 ≤ x ∧ x < (M.length : Int)) := hid (fun r h x hx => by rw [hv.nM]; exact hv.body r h x hx)
  have H8 := hid hv.m8
  clear h hm hv
  refine post_gen fun Q HQ => ?_
  go_enter Try.func95, Try.ntmps95
  obtain ⟨AF, cF, AR, cR, AB, cB, Al, cl, ARu, cRu, c1, c2, c3, c4, c5, hF, hR, hB, hl, hRu⟩ := H.out.cells
  have Hin := hid (in15_same w _ l q hl)
  have Hs : Hid ((!memB l q && !(row RL q).any (mdR T M)) = (!memB l q && !RL[q.toNat].any (mdR T M))) := hid (by rw [Hrow.out])
  rw [Hs.out] at HQ
  clear hF hR hB hl hRu
  cases hs : memB l q with
  | true =>
    rw [hs] at Hin HQ
    clear hs
    go_wp2_with (go_at_call 137; refine Hin.out.mono ?_; rintro e w' ⟨rfl, hw9⟩; rw [hw9]; clear hw9 w')
    go_ret
    exact Fin HQ ⟨rfl, 0, rfl⟩
  | false =>
  rw [hs] at Hin HQ
  clear hs
  go_wp2_with (go_at_call 137; refine Hin.out.mono ?_; rintro e w' ⟨rfl, hw9⟩; rw [hw9]; clear hw9 w')
  clear c1 c2 c3 c4 c5 Hin
  generalize hL : RL[q.toNat] = L at *
  have HL := hid hL
  clear hL
  go_loopw [7] (fun v7 wr => ∃ i : Nat, i ≤ L.length ∧ v7 = .int .i64 i ∧ Hid ((L.take i).any (mdR T M) = false) ∧ Drew w wr) (fun v7 _ => L.length - (intOf v7).toNat)
  case atStart => exact ⟨0, Nat.zero_le _, rfl, hid (by simp), Drew.refl w⟩
  case round =>
    obtain ⟨i, hi, rfl, hno, hdr⟩ := hrel
    have Hdr := hid hdr
    obtain ⟨AF, cF, AR, cR, AB, cB, Al, cl, ARu, cRu, c1, c2, c3, c4, c5, hF, hR, hB, hl, hRu⟩ := (H.out.ext hdr.below).cells
    obtain ⟨adQ, LB, LC, rfl, pq, l1, l2, hrow⟩ := hRu.atRow hqr
    rw [HL.out] at pq l1 l2 hrow
    clear hdr
    by_cases hlt : i < L.length
    · have Hi := hid (any_take_succ (p := mdR T M) hlt)
      have Hhit := hid (any_hit (p := mdR T M) hlt)
      obtain ⟨adL, rfl, pl⟩ := hrow.at1 hlt
      obtain ⟨hr0, hr1⟩ := Hrl.out _ (List.getElem_mem hlt)
      obtain ⟨r, Hr⟩ : ∃ r, Hid (L[i] = r) := ⟨_, hid rfl⟩
      rw [Hr.out] at pl hr0 hr1
      have hrl : r.toNat < T.rules.length := by omega
      have HbR := hid (Hbody.out _ hrl)
      have Hbo := hid (bodyAt_at hrl)
      obtain ⟨adR, C, cC, rfl, p0, p1, p2, d1, d2, hbody⟩ := hR.atRule hrl
      generalize T.rules[r.toNat].body = bo at *
      have Hst := hid (strict15_same _ b T l RL (H.out.ext Hdr.out.below) r hr0 hr1)
      have Hall := hid (any15_any wr vm (.slice C bo.length cC) M bo (Hm.out.ext (scR_mono _) Hdr.out.below) ⟨C, cC, rfl, d1, d2, hbody⟩ H8.out HbR.out 2 1 (by decide) (by decide))
      have Hp : Hid (mdR T M r = (strictB T r && !anyM M 1 bo)) := hid (by rw [← Hbo.out]; rfl)
      clear hF hR hB hl hRu hrow hbody
      cases hs : strictB T r with
      | false =>
        have Hp2 : Hid (mdR T M r = false) := hid (by rw [Hp.out, hs]; rfl)
        rw [hs] at Hst
        clear hs
        go_wp2_with (go_at_call 138; refine Hst.out.mono ?_; rintro e w' ⟨rfl, hw9⟩; rw [hw9]; clear hw9 w')
        go_roundw
        case rel => exact ⟨i + 1, by omega, by go_num, hid (by rw [Hi.out, hno.out, Hr.out, Hp2.out]; rfl), Hdr.out⟩
        case measure => simp [intOf]; omega
      | true =>
        rw [hs] at Hst
        cases ha : anyM M 1 bo with
        | false =>
          have Hp2 : Hid (mdR T M r = true) := hid (by rw [Hp.out, hs, ha]; rfl)
          rw [ha] at Hall
          have Hany : Hid (L.any (mdR T M) = true) := hid (Hhit.out (by rw [Hr.out, Hp2.out]))
          rw [Hany.out] at HQ
          clear hs ha
          go_wp2_with (first | (go_at_call 138; refine Hst.out.mono ?_; rintro e w' ⟨rfl, hw9⟩; rw [hw9]; clear hw9 w') | (go_at_call 140; refine Hall.out.mono ?_; rintro e w' ⟨rfl, m, rfl⟩))
          go_ret
          exact Fin HQ ⟨rfl, Hdr.out.step _⟩
        | true =>
          have Hp2 : Hid (mdR T M r = false) := hid (by rw [Hp.out, hs, ha]; rfl)
          rw [ha] at Hall
          clear hs ha
          go_wp2_with (first | (go_at_call 138; refine Hst.out.mono ?_; rintro e w' ⟨rfl, hw9⟩; rw [hw9]; clear hw9 w') | (go_at_call 140; refine Hall.out.mono ?_; rintro e w' ⟨rfl, m, rfl⟩))
          go_roundw
          case rel => exact ⟨i + 1, by omega, by go_num, hid (by rw [Hi.out, hno.out, Hr.out, Hp2.out]; rfl), Hdr.out.step _⟩
          case measure => simp [intOf]; omega
    · have Hany : Hid (L.any (mdR T M) = false) := hid (by rw [← any_take_all (show L.length ≤ i by omega), hno.out])
      rw [Hany.out] at HQ
      clear hF hR hB hl hRu hrow
      go_wp2
      go_ret
      exact Fin HQ ⟨rfl, Hdr.out⟩

set_option maxRecDepth 100000 in
set_option maxHeartbeats 3200000 in
theorem beaten15_any (w : World) (b : Nat) (T : Th) (F : List Bool) (l : List Int) (RL : List (List Int)) (M : List Nat) (vm : Value) (h : NR w b T l RL) (hm : RdMk w vm M) (hv : NVal T F RL M) (q : Int) (h0 : 0 ≤ q) (hq : q < T.foes.length) (s : Int) :
    Calls Try.prog 142 #[.pointer (some ⟨b, 0, none⟩), vm, .int .i64 q, .int .i64 s] w (Dr w ((row RL q).any (ppB T M s))) := by
  refine dr_of ?_
  have H := hid h
  have Hm := hid hm
  have Hv := hid hv
  have hqr : q.toNat < RL.length := by have := hv.nR; omega
  have hqr2 : q < (RL.length : Int) := by have := hv.nR; omega
  have hqf : q.toNat < T.foes.length := by omega
  have Hrow : Hid (row RL q = RL[q.toNat]) := hid (row_at h0 hqr2)
  have Hrl : Hid (∀ r ∈ RL[q.toNat], 0 ≤ r ∧ r < (T.rules.length : Int)) := hid (hv.rl _ hqr)
  have Hbody : Hid (∀ r (h : r < T.rules.length), ∀ x ∈ T.rules[r].body, 0 ≤ x ∧ x < (M.length : Int)) := hid (fun r h x hx => by rw [hv.nM]; exact hv.body r h x hx)
  have H8 := hid hv.m8
  have Hbl := hid hv.bl
  clear h hm hv
  refine post_gen fun Q HQ => ?_
  go_enter Try.func142, Try.ntmps142
  have Hs : Hid (((row RL q).any (ppB T M s)) = RL[q.toNat].any (ppB T M s)) := hid (by rw [Hrow.out])
  rw [Hs.out] at HQ
  go_wp2
  generalize hL : RL[q.toNat] = L at *
  have HL := hid hL
  clear hL
  go_loopw [9] (fun v9 wr => ∃ i : Nat, i ≤ L.length ∧ v9 = .int .i64 i ∧ Hid ((L.take i).any (ppB T M s) = false) ∧ Drew w wr) (fun v9 _ => L.length - (intOf v9).toNat)
  case atStart => exact ⟨0, Nat.zero_le _, rfl, hid (by simp), Drew.refl w⟩
  case round =>
    obtain ⟨i, hi, rfl, hno, hdr⟩ := hrel
    have Hdr := hid hdr
    obtain ⟨AF, cF, AR, cR, AB, cB, Al, cl, ARu, cRu, c1, c2, c3, c4, c5, hF, hR, hB, hl, hRu⟩ := (H.out.ext hdr.below).cells
    obtain ⟨adQ, LB, LC, rfl, pq, l1, l2, hrow⟩ := hRu.atRow hqr
    rw [HL.out] at pq l1 l2 hrow
    clear hdr
    by_cases hlt : i < L.length
    · have Hi := hid (any_take_succ (p := ppB T M s) hlt)
      have Hhit := hid (any_hit (p := ppB T M s) hlt)
      obtain ⟨adL, rfl, pl⟩ := hrow.at1 hlt
      obtain ⟨hr0, hr1⟩ := Hrl.out _ (List.getElem_mem hlt)
      obtain ⟨r, Hr⟩ : ∃ r, Hid (L[i] = r) := ⟨_, hid rfl⟩
      rw [Hr.out] at pl hr0 hr1
      have hrl : r.toNat < T.rules.length := by omega
      have HbR := hid (Hbody.out _ hrl)
      have Hbo := hid (bodyAt_at hrl)
      obtain ⟨adR, C, cC, rfl, p0, p1, p2, d1, d2, hbody⟩ := hR.atRule hrl
      generalize T.rules[r.toNat].body = bo at *
      have hbi : r.toNat < T.beats.length := by rw [Hbl.out]; exact hrl
      have hbi2 : r < (T.beats.length : Int) := by rw [Hbl.out]; exact hr1
      have Hbe : Hid (row T.beats r = T.beats[r.toNat]) := hid (row_at hr0 hbi2)
      obtain ⟨adB, BB, cBB, rfl, pb, b1, b2, hbeat⟩ := hB.atRow hbi
      generalize T.beats[r.toNat] = be at *
      have Hst := hid (support15_same _ b T l RL (H.out.ext Hdr.out.below) r hr0 hr1)
      have Hall := hid (all15_any wr vm (.slice C bo.length cC) M bo (Hm.out.ext (scR_mono _) Hdr.out.below) ⟨C, cC, rfl, d1, d2, hbody⟩ H8.out HbR.out 3 2 (by decide) (by decide))
      have Hin : Hid (∀ n, Calls Try.prog 137 #[.slice BB be.length cBB, .int .i64 s] (wr.drewN n) (fun e w' => e = .returned (.bool (memB be s)) ∧ w' = wr.drewN n)) := hid fun n => in15_same _ _ be s (Rd.ext (scR_mono _) (⟨BB, cBB, rfl, b1, b2, hbeat⟩ : RdI wr (.slice BB be.length cBB) be) (ext_drewN wr n))
      have Hp : Hid (ppB T M s r = (supB T r && (memB be s && allM M 2 bo))) := hid (by rw [← Hbo.out, ← Hbe.out]; rfl)
      clear hF hR hB hl hRu hrow hbody hbeat
      cases hs : supB T r with
      | false =>
        have Hp2 : Hid (ppB T M s r = false) := hid (by rw [Hp.out, hs]; rfl)
        rw [hs] at Hst
        clear hs
        go_wp2_with (first | (go_at_call 141; refine Hst.out.mono ?_; rintro e w' ⟨rfl, hw9⟩; rw [hw9]; clear hw9 w'))
        go_roundw
        case rel => exact ⟨i + 1, by omega, by go_num, hid (by rw [Hi.out, hno.out, Hr.out, Hp2.out]; rfl), Hdr.out⟩
        case measure => simp [intOf]; omega
      | true =>
        rw [hs] at Hst
        cases ha : allM M 2 bo with
        | false =>
          have Hp2 : Hid (ppB T M s r = false) := hid (by rw [Hp.out, hs, ha]; simp)
          rw [ha] at Hall
          clear hs ha
          go_wp2_with (first | (go_at_call 141; refine Hst.out.mono ?_; rintro e w' ⟨rfl, hw9⟩; rw [hw9]; clear hw9 w') | (go_at_call 139; refine Hall.out.mono ?_; rintro e w' ⟨rfl, m9, rfl⟩))
          go_roundw
          case rel => exact ⟨i + 1, by omega, by go_num, hid (by rw [Hi.out, hno.out, Hr.out, Hp2.out]; rfl), Hdr.out.step _⟩
          case measure => simp [intOf]; omega
        | true =>
          rw [ha] at Hall
          cases hb : memB be s with
          | false =>
            have Hp2 : Hid (ppB T M s r = false) := hid (by rw [Hp.out, hs, ha, hb]; simp)
            rw [hb] at Hin
            clear hs ha hb
            go_wp2_with (first | (go_at_call 141; refine Hst.out.mono ?_; rintro e w' ⟨rfl, hw9⟩; rw [hw9]; clear hw9 w') | (go_at_call 139; refine Hall.out.mono ?_; rintro e w' ⟨rfl, m9, rfl⟩) | (go_at_call 137; refine (Hin.out _).mono ?_; rintro e w' ⟨rfl, hw9⟩; rw [hw9]; clear hw9 w'))
            go_roundw
            case rel => exact ⟨i + 1, by omega, by go_num, hid (by rw [Hi.out, hno.out, Hr.out, Hp2.out]; rfl), Hdr.out.step _⟩
            case measure => simp [intOf]; omega
          | true =>
            have Hp2 : Hid (ppB T M s r = true) := hid (by rw [Hp.out, hs, ha, hb]; rfl)
            have Hany : Hid (L.any (ppB T M s) = true) := hid (Hhit.out (by rw [Hr.out, Hp2.out]))
            rw [Hany.out] at HQ
            rw [hb] at Hin
            clear hs ha hb
            go_wp2_with (first | (go_at_call 141; refine Hst.out.mono ?_; rintro e w' ⟨rfl, hw9⟩; rw [hw9]; clear hw9 w') | (go_at_call 139; refine Hall.out.mono ?_; rintro e w' ⟨rfl, m9, rfl⟩) | (go_at_call 137; refine (Hin.out _).mono ?_; rintro e w' ⟨rfl, hw9⟩; rw [hw9]; clear hw9 w'))
            go_ret
            exact Fin HQ ⟨rfl, Hdr.out.step _⟩
    · have Hany : Hid (L.any (ppB T M s) = false) := hid (by rw [← any_take_all (show L.length ≤ i by omega), hno.out])
      rw [Hany.out] at HQ
      clear hF hR hB hl hRu hrow
      go_wp2
      go_ret
      exact Fin HQ ⟨rfl, Hdr.out⟩

set_option maxRecDepth 100000 in
set_option maxHeartbeats 3200000 in
theorem stands15_any (w : World) (b : Nat) (T : Th) (F : List Bool) (l : List Int) (RL : List (List Int)) (M : List Nat) (vm : Value) (h : NR w b T l RL) (hm : RdMk w vm M) (hv : NVal T F RL M) (q : Int) (h0 : 0 ≤ q) (hq : q < T.foes.length) (s : Int) (hs0 : 0 ≤ s) (hs1 : s < T.rules.length) :
    Calls Try.prog 143 #[.pointer (some ⟨b, 0, none⟩), vm, .int .i64 q, .int .i64 s] w (Dr w (wholeB T M 2 s && !(row RL q).any (mpB T M s))) := by
  refine dr_of ?_
  have H := hid h
  have Hm := hid hm
  have Hv := hid hv
  have hqr : q.toNat < RL.length := by have := hv.nR; omega
  have hqr2 : q < (RL.length : Int) := by have := hv.nR; omega
  have hqf : q.toNat < T.foes.length := by omega
  have Hrow : Hid (row RL q = RL[q.toNat]) := hid (row_at h0 hqr2)
  have Hrl : Hid (∀ r ∈ RL[q.toNat], 0 ≤ r ∧ r < (T.rules.length : Int)) := hid (hv.rl _ hqr)
  have Hbody : Hid (∀ r (h : r < T.rules.length), ∀ x ∈ T.rules[r].body, 0 ≤ x ∧ x < (M.length : Int)) := hid (fun r h x hx => by rw [hv.nM]; exact hv.body r h x hx)
  have H8 := hid hv.m8
  have Hbl := hid hv.bl
  clear h hm hv
  refine post_gen fun Q HQ => ?_
  go_enter Try.func143, Try.ntmps143
  have hsl : s.toNat < T.rules.length := by omega
  have HbS := hid (Hbody.out _ hsl)
  have Hs : Hid ((wholeB T M 2 s && !(row RL q).any (mpB T M s)) = (allM M 2 T.rules[s.toNat].body && !RL[q.toNat].any (mpB T M s))) := hid (by rw [Hrow.out, ← bodyAt_at hsl]; rfl)
  rw [Hs.out] at HQ
  obtain ⟨AF, cF, AR, cR, AB, cB, Al, cl, ARu, cRu, c1, c2, c3, c4, c5, hF, hR, hB, hl, hRu⟩ := H.out.cells
  obtain ⟨adR, C, cC, rfl, p0, p1, p2, d1, d2, hbody⟩ := hR.atRule hsl
  generalize T.rules[s.toNat].body = bo at *
  have Hall := hid (all15_any w vm (.slice C bo.length cC) M bo Hm.out ⟨C, cC, rfl, d1, d2, hbody⟩ H8.out HbS.out 3 2 (by decide) (by decide))
  clear hF hR hB hl hRu hbody
  cases ha : allM M 2 bo with
  | false =>
    rw [ha] at Hall HQ
    clear ha
    go_wp2_with (go_at_call 139; refine Hall.out.mono ?_; rintro e w' ⟨rfl, m, rfl⟩)
    go_ret
    exact Fin HQ ⟨rfl, _, rfl⟩
  | true =>
  rw [ha] at Hall HQ
  clear ha
  go_wp2_with (go_at_call 139; refine Hall.out.mono ?_; rintro e w' ⟨rfl, m, rfl⟩)
  clear c1 c2 c3 c4 c5 Hall p0 p1 p2
  generalize hL : RL[q.toNat] = L at *
  have HL := hid hL
  clear hL
  go_loopw [9] (fun v9 wr => ∃ i : Nat, i ≤ L.length ∧ v9 = .int .i64 i ∧ Hid ((L.take i).any (mpB T M s) = false) ∧ Drew w wr) (fun v9 _ => L.length - (intOf v9).toNat)
  case atStart => exact ⟨0, Nat.zero_le _, rfl, hid (by simp), ⟨m, rfl⟩⟩
  case round =>
    obtain ⟨i, hi, rfl, hno, hdr⟩ := hrel
    have Hdr := hid hdr
    obtain ⟨AF, cF, AR, cR, AB, cB, Al, cl, ARu, cRu, c1, c2, c3, c4, c5, hF, hR, hB, hl, hRu⟩ := (H.out.ext hdr.below).cells
    obtain ⟨adQ, LB, LC, rfl, pq, l1, l2, hrow⟩ := hRu.atRow hqr
    rw [HL.out] at pq l1 l2 hrow
    clear hdr
    by_cases hlt : i < L.length
    · have Hi := hid (any_take_succ (p := mpB T M s) hlt)
      have Hhit := hid (any_hit (p := mpB T M s) hlt)
      obtain ⟨adL, rfl, pl⟩ := hrow.at1 hlt
      obtain ⟨hr0, hr1⟩ := Hrl.out _ (List.getElem_mem hlt)
      obtain ⟨r, Hr⟩ : ∃ r, Hid (L[i] = r) := ⟨_, hid rfl⟩
      rw [Hr.out] at pl hr0 hr1
      have hrl : r.toNat < T.rules.length := by omega
      have HbR := hid (Hbody.out _ hrl)
      have Hbo := hid (bodyAt_at hrl)
      obtain ⟨adR, C, cC, rfl, p0, p1, p2, d1, d2, hbody⟩ := hR.atRule hrl
      generalize T.rules[r.toNat].body = bo at *
      have hbi : r.toNat < T.beats.length := by rw [Hbl.out]; exact hrl
      have hbi2 : r < (T.beats.length : Int) := by rw [Hbl.out]; exact hr1
      have Hbe : Hid (row T.beats r = T.beats[r.toNat]) := hid (row_at hr0 hbi2)
      obtain ⟨adB, BB, cBB, rfl, pb, b1, b2, hbeat⟩ := hB.atRow hbi
      generalize T.beats[r.toNat] = be at *
      have Hst := hid (support15_same _ b T l RL (H.out.ext Hdr.out.below) r hr0 hr1)
      have Hall := hid (any15_any wr vm (.slice C bo.length cC) M bo (Hm.out.ext (scR_mono _) Hdr.out.below) ⟨C, cC, rfl, d1, d2, hbody⟩ H8.out HbR.out 4 3 (by decide) (by decide))
      have Hin : Hid (∀ n, Calls Try.prog 137 #[.slice BB be.length cBB, .int .i64 s] (wr.drewN n) (fun e w' => e = .returned (.bool (memB be s)) ∧ w' = wr.drewN n)) := hid fun n => in15_same _ _ be s (Rd.ext (scR_mono _) (⟨BB, cBB, rfl, b1, b2, hbeat⟩ : RdI wr (.slice BB be.length cBB) be) (ext_drewN wr n))
      have Hp : Hid (mpB T M s r = (supB T r && (memB be s && !anyM M 3 bo))) := hid (by rw [← Hbo.out, ← Hbe.out]; rfl)
      clear hF hR hB hl hRu hrow hbody hbeat
      cases hs : supB T r with
      | false =>
        have Hp2 : Hid (mpB T M s r = false) := hid (by rw [Hp.out, hs]; rfl)
        rw [hs] at Hst
        clear hs
        go_wp2_with (first | (go_at_call 141; refine Hst.out.mono ?_; rintro e w' ⟨rfl, hw9⟩; rw [hw9]; clear hw9 w'))
        go_roundw
        case rel => exact ⟨i + 1, by omega, by go_num, hid (by rw [Hi.out, hno.out, Hr.out, Hp2.out]; rfl), Hdr.out⟩
        case measure => simp [intOf]; omega
      | true =>
        rw [hs] at Hst
        cases ha : anyM M 3 bo with
        | true =>
          have Hp2 : Hid (mpB T M s r = false) := hid (by rw [Hp.out, hs, ha]; simp)
          rw [ha] at Hall
          clear hs ha
          go_wp2_with (first | (go_at_call 141; refine Hst.out.mono ?_; rintro e w' ⟨rfl, hw9⟩; rw [hw9]; clear hw9 w') | (go_at_call 140; refine Hall.out.mono ?_; rintro e w' ⟨rfl, m9, rfl⟩))
          go_roundw
          case rel => exact ⟨i + 1, by omega, by go_num, hid (by rw [Hi.out, hno.out, Hr.out, Hp2.out]; rfl), Hdr.out.step _⟩
          case measure => simp [intOf]; omega
        | false =>
          rw [ha] at Hall
          cases hb : memB be s with
          | false =>
            have Hp2 : Hid (mpB T M s r = false) := hid (by rw [Hp.out, hs, ha, hb]; simp)
            rw [hb] at Hin
            clear hs ha hb
            go_wp2_with (first | (go_at_call 141; refine Hst.out.mono ?_; rintro e w' ⟨rfl, hw9⟩; rw [hw9]; clear hw9 w') | (go_at_call 140; refine Hall.out.mono ?_; rintro e w' ⟨rfl, m9, rfl⟩) | (go_at_call 137; refine (Hin.out _).mono ?_; rintro e w' ⟨rfl, hw9⟩; rw [hw9]; clear hw9 w'))
            go_roundw
            case rel => exact ⟨i + 1, by omega, by go_num, hid (by rw [Hi.out, hno.out, Hr.out, Hp2.out]; rfl), Hdr.out.step _⟩
            case measure => simp [intOf]; omega
          | true =>
            have Hp2 : Hid (mpB T M s r = true) := hid (by rw [Hp.out, hs, ha, hb]; rfl)
            have Hany : Hid (L.any (mpB T M s) = true) := hid (Hhit.out (by rw [Hr.out, Hp2.out]))
            rw [Hany.out] at HQ
            rw [hb] at Hin
            clear hs ha hb
            go_wp2_with (first | (go_at_call 141; refine Hst.out.mono ?_; rintro e w' ⟨rfl, hw9⟩; rw [hw9]; clear hw9 w') | (go_at_call 140; refine Hall.out.mono ?_; rintro e w' ⟨rfl, m9, rfl⟩) | (go_at_call 137; refine (Hin.out _).mono ?_; rintro e w' ⟨rfl, hw9⟩; rw [hw9]; clear hw9 w'))
            go_ret
            exact Fin HQ ⟨rfl, Hdr.out.step _⟩
    · have Hany : Hid (L.any (mpB T M s) = false) := hid (by rw [← any_take_all (show L.length ≤ i by omega), hno.out])
      rw [Hany.out] at HQ
      clear hF hR hB hl hRu hrow
      go_wp2
      go_ret
      exact Fin HQ ⟨rfl, Hdr.out⟩

end Go.Proofs.Lx

namespace Go.Proofs.Lx
open Go Go.RowKit
set_option linter.unusedSimpArgs false
set_option linter.unusedVariables false

theorem bit_masks (x : Nat) (hx : x < 256) (k : Nat) (hk : k < 4) : (bits .and .u8 (x : Int) ((2 ^ k : Nat) : Int) == 0) = !x.testBit k := by
  have := bit_mask x hx k hk
  rw [← this, bne]; simp

set_option maxRecDepth 100000 in
set_option maxHeartbeats 6400000 in
theorem plusd15_any (w : World) (b : Nat) (T : Th) (F : List Bool) (l : List Int) (RL : List (List Int)) (M : List Nat) (vm : Value) (h : NR w b T l RL) (hm : RdMk w vm M) (hv : NVal T F RL M) (q : Int) (h0 : 0 ≤ q) (hq : q < T.foes.length) :
    Calls Try.prog 96 #[.pointer (some ⟨b, 0, none⟩), vm, .int .i64 q] w (Dr w (plusPB T RL M q)) := by
  refine dr_of ?_
  have H := hid h
  have Hm := hid hm
  have Hv := hid hv
  have hqr : q.toNat < RL.length := by have := hv.nR; omega
  have hqr2 : q < (RL.length : Int) := by have := hv.nR; omega
  have hqf : q.toNat < T.foes.length := by omega
  have Hrow : Hid (row RL q = RL[q.toNat]) := hid (row_at h0 hqr2)
  have Hrl : Hid (∀ r ∈ RL[q.toNat], 0 ≤ r ∧ r < (T.rules.length : Int)) := hid (hv.rl _ hqr)
  have Hbody : Hid (∀ r (h : r < T.rules.length), ∀ x ∈ T.rules[r].body, 0 ≤ x ∧ x < (M.length : Int)) := hid (fun r h x hx => by rw [hv.nM]; exact hv.body r h x hx)
  have H8 := hid hv.m8
  refine post_gen fun Q HQ => ?_
  have Hfo : Hid (∀ x ∈ T.foes[q.toNat], 0 ≤ x ∧ x < (M.length : Int)) := hid (fun x hx => by have := hv.fo _ hqf x hx; rw [hv.nM]; exact this)
  have Hfr : Hid (∀ x ∈ T.foes[q.toNat], 0 ≤ x ∧ x < (RL.length : Int)) := hid (fun x hx => by have := hv.fo _ hqf x hx; rw [hv.nR]; exact this)
  have Hrlf : Hid (∀ f (h : f < RL.length), ∀ r ∈ RL[f], 0 ≤ r ∧ r < (T.rules.length : Int)) := hid hv.rl
  have hrowF : row T.foes q = T.foes[q.toNat] := row_at h0 hq
  have hqm : q.toNat < M.length := by have := hv.nM; omega
  have hqm2 : q < (M.length : Int) := by have := hv.nM; omega
  have Hbit := hid (fun w => bit15_plain 1 0 (by decide) (by decide) w)
  have Hmm := hid (bit_mask M[q.toNat] (hv.m8 _ (List.getElem_mem hqm)) 0 (by decide))
  have Hmn := hid (bit_masks M[q.toNat] (hv.m8 _ (List.getElem_mem hqm)) 0 (by decide))
  have Hme : Hid (hasM M 0 q = M[q.toNat].testBit 0) := by simp [Hid, hasM, hqm]
  obtain ⟨AM, cM, rfl, hcM, hbM, hrM⟩ := id hm
  obtain ⟨adM, rfl, pm⟩ := hrM.at1 hqm
  have Hs : Hid (plusPB T RL M q = (hasM M 0 q || (RL[q.toNat].any (ppR T M) && (allM M 1 T.foes[q.toNat] && !T.foes[q.toNat].any fun f => (row RL f).any (ppS T RL M q))))) := hid (by unfold plusPB; rw [hrowF, Hrow.out]; rfl)
  rw [Hs.out] at HQ
  clear hrM hrowF
  clear h hm hv
  go_enter Try.func96, Try.ntmps96
  generalize M[q.toNat] = y at *
  generalize hp : 2 ^ 0 = z at *
  clear hp
  cases hs : y.testBit 0 with
  | true =>
    have hb1 : (bits .and .u8 (y : Int) (z : Int) != 0) = true := by have := Hmm.out; rw [hs] at this; exact this
    rw [Hme.out, hs] at HQ
    clear hs
    go_wp2
    go_quiet ((go_at_call 74; exact Calls.quiet_of_same (Hbit.out _)))
    go_wp2
    go_ret
    exact Fin HQ ⟨rfl, _, rfl⟩
  | false =>
  have hb1 : (bits .and .u8 (y : Int) (z : Int) != 0) = false := by have := Hmm.out; rw [hs] at this; exact this
  rw [Hme.out, hs] at HQ
  clear hs
  simp only [Bool.false_or] at HQ
  go_wp2
  go_quiet ((go_at_call 74; exact Calls.quiet_of_same (Hbit.out _)))
  go_wp2
  clear hb1 Hbit Hmm Hmn Hme pm
  generalize hvm : Value.slice (some adM) M.length cM = vm at *
  clear hvm
  generalize hL : RL[q.toNat] = L at *
  have HL := hid hL
  clear hL
  generalize hFO : T.foes[q.toNat] = FO at *
  have HFO := hid hFO
  clear hFO
  go_loopw [8, 7] (fun v8 v7 wr => ∃ i : Nat, i ≤ L.length ∧ v8 = .int .i64 i ∧ v7 = .bool ((L.take i).any (ppR T M)) ∧ Drew w wr) (fun v8 _ _ => L.length - (intOf v8).toNat)
  case atStart => exact ⟨0, Nat.zero_le _, rfl, rfl, ⟨_, rfl⟩⟩
  case round =>
    obtain ⟨i, hi, rfl, rfl, hdr⟩ := hrel
    have Hdr := hid hdr
    obtain ⟨AF, cF, AR, cR, AB, cB, Al, cl, ARu, cRu, c1, c2, c3, c4, c5, hF, hR, hB, hl, hRu⟩ := (H.out.ext hdr.below).cells
    obtain ⟨adQ, LB, LC, rfl, pq, l1, l2, hrow⟩ := hRu.atRow hqr
    rw [HL.out] at pq l1 l2 hrow
    clear hdr
    by_cases hlt : i < L.length
    · have Hi := hid (any_take_succ (p := ppR T M) hlt)
      obtain ⟨adL, rfl, pl⟩ := hrow.at1 hlt
      obtain ⟨hr0, hr1⟩ := Hrl.out _ (List.getElem_mem hlt)
      obtain ⟨r, Hr⟩ : ∃ r, Hid (L[i] = r) := ⟨_, hid rfl⟩
      rw [Hr.out] at pl hr0 hr1
      have hrl : r.toNat < T.rules.length := by omega
      have HbR := hid (Hbody.out _ hrl)
      have Hbo := hid (bodyAt_at hrl)
      obtain ⟨adR, C, cC, rfl, p0, p1, p2, d1, d2, hbody⟩ := hR.atRule hrl
      generalize T.rules[r.toNat].body = bo at *
      have Hst := hid (support15_same _ b T l RL (H.out.ext Hdr.out.below) r hr0 hr1)
      have Hsq : Hid (∀ n, Calls Try.prog 141 #[.pointer (some ⟨b, 0, none⟩), .int .i64 r] (wr.drewN n) (fun e w' => e = .returned (.bool (supB T r)) ∧ w' = wr.drewN n)) := hid fun n => support15_same _ b T l RL ((H.out.ext Hdr.out.below).ext (ext_drewN wr n)) r hr0 hr1
      have Hall : Hid (∀ n, Calls Try.prog 139 #[vm, .slice C bo.length cC, .int .i64 3] (wr.drewN n) (fun e w' => e = .returned (.bool (allM M 2 bo)) ∧ ∃ m, w' = (wr.drewN n).drewN m)) := hid fun n => all15_any _ vm (.slice C bo.length cC) M bo ((Hm.out.ext (scR_mono _) Hdr.out.below).ext (scR_mono _) (ext_drewN wr n)) ⟨C, cC, rfl, d1, d2, hbody.ext (scR_mono _) (ext_drewN wr n)⟩ H8.out HbR.out 3 2 (by decide) (by decide)
      have Hp : Hid (ppR T M r = (supB T r && allM M 2 bo)) := hid (by rw [← Hbo.out]; rfl)
      clear hF hR hB hl hRu hrow hbody
      cases hd : (L.take i).any (ppR T M) with
      | true =>
        have Hd := hid hd
        clear hd
        go_wp2
        go_quiet (fail)
        go_wp2
        go_roundw
        case rel => exact ⟨i + 1, by omega, by go_num, by rw [Hi.out, Hd.out]; rfl, Hdr.out.step _⟩
        case measure => simp [intOf]; omega
      | false =>
      have Hd := hid hd
      clear hd
      cases hs : supB T r with
      | false =>
        have Hp2 : Hid (ppR T M r = false) := hid (by rw [Hp.out, hs]; rfl)
        rw [hs] at Hsq
        clear hs
        go_wp2
        go_quiet ((go_at_call 141; exact Calls.quiet_of_same (Hsq.out _)))
        go_wp2
        go_roundw
        case rel => exact ⟨i + 1, by omega, by go_num, by rw [Hi.out, Hd.out, Hr.out, Hp2.out]; rfl, Hdr.out.step _⟩
        case measure => simp [intOf]; omega
      | true =>
        rw [hs] at Hsq
        have Hp2 : Hid (ppR T M r = allM M 2 bo) := hid (by rw [Hp.out, hs]; rfl)
        clear hs
        generalize hal : allM M 2 bo = al at *
        clear hal
        go_wp2
        go_quiet ((first | (go_at_call 141; exact Calls.quiet_of_same (Hsq.out _)) | (go_at_call 139; exact Calls.quiet_of (Hall.out _))))
        go_wp2
        go_roundw
        case rel => exact ⟨i + 1, by omega, by go_num, by rw [Hi.out, Hd.out, Hr.out, Hp2.out]; cases al <;> rfl, Hdr.out.step _⟩
        case measure => simp [intOf]; omega
    · have Hany : Hid ((L.take i).any (ppR T M) = L.any (ppR T M)) := hid (any_take_all (show L.length ≤ i by omega))
      rw [Hany.out]
      obtain ⟨adF, FB, FC, rfl, pf, f1, f2, hfrow⟩ := hF.atRow hqf
      rw [HFO.out] at pf f1 f2 hfrow
      have Hall := hid (all15_any wr vm (.slice FB FO.length FC) M FO (Hm.out.ext (scR_mono _) Hdr.out.below) ⟨FB, FC, rfl, f1, f2, hfrow⟩ H8.out Hfo.out 2 1 (by decide) (by decide))
      clear hF hR hB hl hRu hrow hfrow Hany
      cases hd : L.any (ppR T M) with
      | false =>
        rw [hd] at HQ
        clear hd
        go_wp2_with fail
        go_ret
        exact Fin HQ ⟨rfl, Hdr.out⟩
      | true =>
      rw [hd] at HQ
      clear hd
      simp only [Bool.true_and] at HQ
      cases ha : allM M 1 FO with
      | false =>
        rw [ha] at HQ Hall
        clear ha
        go_wp2_with (go_at_call 139; refine Hall.out.mono ?_; rintro e w' ⟨rfl, m9, rfl⟩)
        go_ret
        exact Fin HQ ⟨rfl, Hdr.out.step _⟩
      | true =>
      rw [ha] at HQ Hall
      clear ha
      simp only [Bool.true_and] at HQ
      go_wp2_with (go_at_call 139; refine Hall.out.mono ?_; rintro e w' ⟨rfl, m9, rfl⟩)
      clear Hall pf pq c1 c2 c3 c4 c5
      go_loopw [9] (fun vo wr => ∃ i : Nat, i ≤ FO.length ∧ vo = .int .i64 i ∧ Hid ((FO.take i).any (fun f => (row RL f).any (ppS T RL M q)) = false) ∧ Drew w wr) (fun vo _ => FO.length - (intOf vo).toNat)
      case atStart => exact ⟨0, Nat.zero_le _, rfl, hid (by simp), Hdr.out.step _⟩
      case round =>
        clear Hdr
        obtain ⟨i, hi, rfl, hno, hdr⟩ := hrel
        have Hdr := hid hdr
        obtain ⟨AF, cF, AR, cR, AB, cB, Al, cl, ARu, cRu, c1, c2, c3, c4, c5, hF, hR, hB, hl, hRu⟩ := (H.out.ext hdr.below).cells
        obtain ⟨adQ, LB, LC, rfl, pq, l1, l2, hrow⟩ := hRu.atRow hqr
        obtain ⟨adF, FB, FC, rfl, pf, f1, f2, hfrow⟩ := hF.atRow hqf
        rw [HFO.out] at pf f1 f2 hfrow
        clear hdr
        by_cases hlt : i < FO.length
        · have Hi := hid (any_take_succ (p := (fun f => (row RL f).any (ppS T RL M q))) hlt)
          have Hhit := hid (any_hit (p := (fun f => (row RL f).any (ppS T RL M q))) hlt)
          obtain ⟨adX, rfl, px⟩ := hfrow.at1 hlt
          obtain ⟨hx0, hx1⟩ := Hfr.out _ (List.getElem_mem hlt)
          obtain ⟨x, Hx⟩ : ∃ x, Hid (FO[i] = x) := ⟨_, hid rfl⟩
          rw [Hx.out] at px hx0 hx1
          have hxl : x.toNat < RL.length := by omega
          have HrowX : Hid (row RL x = RL[x.toNat]) := hid (row_at hx0 hx1)
          have HrlX := hid (Hrlf.out _ hxl)
          obtain ⟨adQ', XB, XC, e', px2, x1, x2, hxrow⟩ := hRu.atRow hxl
          cases e'
          generalize hLX : RL[x.toNat] = LX at *
          have HLX := hid hLX
          clear hLX
          clear hF hR hB hl hRu hrow hfrow
          go_wp2
          go_quiet (fail)
          go_wp2
          obtain ⟨wo, rfl⟩ : ∃ wo : World, wo = wr := ⟨_, rfl⟩
          have hdr1 := Hdr.out.step
          clear c1 c2 c3 c4 c5 px px2 pf pq
          go_loopw [11] (fun vi wr => ∃ j : Nat, j ≤ LX.length ∧ vi = .int .i64 j ∧ Hid ((LX.take j).any (ppS T RL M q) = false) ∧ Drew wo wr) (fun vi _ => LX.length - (intOf vi).toNat)
          case atStart => exact ⟨0, Nat.zero_le _, rfl, hid (by simp), ⟨_, rfl⟩⟩
          case round =>
            obtain ⟨j, hj, rfl, hno2, hdr⟩ := hrel
            have Hdro := hid hdr
            replace hxrow := hxrow.ext (scR_mono _) hdr.below
            replace hdr := Hdr.out.trans hdr
            have Hdr2 := hid hdr
            obtain ⟨AF, cF, AR, cR, AB, cB, Al, cl, ARu, cRu, c1, c2, c3, c4, c5, hF, hR, hB, hl, hRu⟩ := (H.out.ext hdr.below).cells
            obtain ⟨adQ, LB, LC, rfl, pq, l1, l2, hrow⟩ := hRu.atRow hqr
            clear hdr
            by_cases hlt2 : j < LX.length
            · have Hj := hid (any_take_succ (p := ppS T RL M q) hlt2)
              have Hhit2 := hid (any_hit (p := ppS T RL M q) hlt2)
              obtain ⟨adL, rfl, pl⟩ := hxrow.at1 hlt2
              obtain ⟨hs0, hs1⟩ := HrlX.out _ (List.getElem_mem hlt2)
              obtain ⟨s, Hs9⟩ : ∃ s, Hid (LX[j] = s) := ⟨_, hid rfl⟩
              rw [Hs9.out] at pl hs0 hs1
              have hsl : s.toNat < T.rules.length := by omega
              have HbR := hid (Hbody.out _ hsl)
              have Hbo := hid (bodyAt_at hsl)
              obtain ⟨adR, C, cC, rfl, p0, p1, p2, d1, d2, hbody⟩ := hR.atRule hsl
              generalize T.rules[s.toNat].body = bo at *
              have Hany : Hid (∀ n, Calls Try.prog 140 #[vm, .slice C bo.length cC, .int .i64 4] (wr.drewN n) (fun e w' => e = .returned (.bool (anyM M 3 bo)) ∧ ∃ m, w' = (wr.drewN n).drewN m)) := hid fun n => any15_any _ vm (.slice C bo.length cC) M bo ((Hm.out.ext (scR_mono _) Hdr2.out.below).ext (scR_mono _) (ext_drewN wr n)) ⟨C, cC, rfl, d1, d2, hbody.ext (scR_mono _) (ext_drewN wr n)⟩ H8.out HbR.out 4 3 (by decide) (by decide)
              have Hbe : Hid (∀ n, Calls Try.prog 142 #[.pointer (some ⟨b, 0, none⟩), vm, .int .i64 q, .int .i64 s] (wr.drewN n) (fun e w' => e = .returned (.bool ((row RL q).any (ppB T M s))) ∧ ∃ m, w' = (wr.drewN n).drewN m)) := hid fun n => beaten15_any _ b T F l RL M vm ((H.out.ext Hdr2.out.below).ext (ext_drewN wr n)) ((Hm.out.ext (scR_mono _) Hdr2.out.below).ext (scR_mono _) (ext_drewN wr n)) Hv.out q h0 hq s
              have Hp : Hid (ppS T RL M q s = (!anyM M 3 bo && !(row RL q).any (ppB T M s))) := hid (by rw [← Hbo.out]; rfl)
              clear hF hR hB hl hRu hrow hxrow hbody
              cases ha : anyM M 3 bo with
              | true =>
                have Hp2 : Hid (ppS T RL M q s = false) := hid (by rw [Hp.out, ha]; rfl)
                rw [ha] at Hany
                clear ha
                go_wp2
                go_quiet ((go_at_call 140; exact Calls.quiet_of (Hany.out _)))
                go_wp2
                go_roundw
                case rel => exact ⟨j + 1, by omega, by go_num, hid (by rw [Hj.out, hno2.out, Hs9.out, Hp2.out]; rfl), Hdro.out.step _⟩
                case measure => simp [intOf]; omega
              | false =>
              rw [ha] at Hany
              cases hbb : (row RL q).any (ppB T M s) with
              | true =>
                have Hp2 : Hid (ppS T RL M q s = false) := hid (by rw [Hp.out, ha, hbb]; rfl)
                rw [hbb] at Hbe
                clear ha hbb
                go_wp2
                go_quiet ((first | (go_at_call 140; exact Calls.quiet_of (Hany.out _)) | (go_at_call 142; exact Calls.quiet_of (Hbe.out _))))
                go_wp2
                go_roundw
                case rel => exact ⟨j + 1, by omega, by go_num, hid (by rw [Hj.out, hno2.out, Hs9.out, Hp2.out]; rfl), Hdro.out.step _⟩
                case measure => simp [intOf]; omega
              | false =>
                have Hp2 : Hid (ppS T RL M q s = true) := hid (by rw [Hp.out, ha, hbb]; rfl)
                have Hfin : Hid (FO.any (fun f => (row RL f).any (ppS T RL M q)) = true) := hid (Hhit.out (by rw [Hx.out, HrowX.out]; exact Hhit2.out (by rw [Hs9.out, Hp2.out])))
                rw [Hfin.out] at HQ
                rw [hbb] at Hbe
                clear ha hbb
                go_wp2
                go_quiet ((first | (go_at_call 140; exact Calls.quiet_of (Hany.out _)) | (go_at_call 142; exact Calls.quiet_of (Hbe.out _))))
                go_wp2
                go_ret
                exact Fin HQ ⟨rfl, Hdr2.out.step _⟩
            · have Hany : Hid (LX.any (ppS T RL M q) = false) := hid (by rw [← any_take_all (show LX.length ≤ j by omega), hno2.out])
              clear hF hR hB hl hRu hrow hxrow
              go_wp2
              go_roundw
              case rel => exact ⟨i + 1, by omega, by go_num, hid (by rw [Hi.out, hno.out, Hx.out, HrowX.out, Hany.out]; rfl), Hdr2.out⟩
              case measure => simp [intOf]; omega
        · have Hany : Hid (FO.any (fun f => (row RL f).any (ppS T RL M q)) = false) := hid (by rw [← any_take_all (show FO.length ≤ i by omega), hno.out])
          rw [Hany.out] at HQ
          clear hF hR hB hl hRu hrow hfrow
          go_wp2
          go_ret
          exact Fin HQ ⟨rfl, Hdr.out⟩

set_option maxRecDepth 100000 in
set_option maxHeartbeats 6400000 in
theorem minusd15_any (w : World) (b : Nat) (T : Th) (F : List Bool) (l : List Int) (RL : List (List Int)) (M : List Nat) (vm : Value) (h : NR w b T l RL) (hm : RdMk w vm M) (hv : NVal T F RL M) (q : Int) (h0 : 0 ≤ q) (hq : q < T.foes.length) :
    Calls Try.prog 97 #[.pointer (some ⟨b, 0, none⟩), vm, .int .i64 q] w (Dr w (minusPB T RL M q)) := by
  refine dr_of ?_
  have H := hid h
  have Hm := hid hm
  have Hv := hid hv
  have hqr : q.toNat < RL.length := by have := hv.nR; omega
  have hqr2 : q < (RL.length : Int) := by have := hv.nR; omega
  have hqf : q.toNat < T.foes.length := by omega
  have Hrow : Hid (row RL q = RL[q.toNat]) := hid (row_at h0 hqr2)
  have Hrl : Hid (∀ r ∈ RL[q.toNat], 0 ≤ r ∧ r < (T.rules.length : Int)) := hid (hv.rl _ hqr)
  have Hbody : Hid (∀ r (h : r < T.rules.length), ∀ x ∈ T.rules[r].body, 0 ≤ x ∧ x < (M.length : Int)) := hid (fun r h x hx => by rw [hv.nM]; exact hv.body r h x hx)
  have H8 := hid hv.m8
  refine post_gen fun Q HQ => ?_
  have Hfo : Hid (∀ x ∈ T.foes[q.toNat], 0 ≤ x ∧ x < (M.length : Int)) := hid (fun x hx => by have := hv.fo _ hqf x hx; rw [hv.nM]; exact this)
  have Hfr : Hid (∀ x ∈ T.foes[q.toNat], 0 ≤ x ∧ x < (RL.length : Int)) := hid (fun x hx => by have := hv.fo _ hqf x hx; rw [hv.nR]; exact this)
  have Hrlf : Hid (∀ f (h : f < RL.length), ∀ r ∈ RL[f], 0 ≤ r ∧ r < (T.rules.length : Int)) := hid hv.rl
  have hrowF : row T.foes q = T.foes[q.toNat] := row_at h0 hq
  have hqm : q.toNat < M.length := by have := hv.nM; omega
  have hqm2 : q < (M.length : Int) := by have := hv.nM; omega
  have Hbit := hid (fun w => bit15_plain 2 1 (by decide) (by decide) w)
  have Hmm := hid (bit_mask M[q.toNat] (hv.m8 _ (List.getElem_mem hqm)) 1 (by decide))
  have Hmn := hid (bit_masks M[q.toNat] (hv.m8 _ (List.getElem_mem hqm)) 1 (by decide))
  have Hme : Hid (hasM M 1 q = M[q.toNat].testBit 1) := by simp [Hid, hasM, hqm]
  obtain ⟨AM, cM, rfl, hcM, hbM, hrM⟩ := id hm
  obtain ⟨adM, rfl, pm⟩ := hrM.at1 hqm
  have Hs : Hid (minusPB T RL M q = (hasM M 1 q && (!RL[q.toNat].any (mpR T M) || (anyM M 0 T.foes[q.toNat] || T.foes[q.toNat].any fun f => (row RL f).any (mpS T RL M q))))) := hid (by unfold minusPB; rw [hrowF, Hrow.out]; rfl)
  rw [Hs.out] at HQ
  clear hrM hrowF
  clear h hm hv
  go_enter Try.func97, Try.ntmps97
  generalize M[q.toNat] = y at *
  generalize hp : 2 ^ 1 = z at *
  clear hp
  cases hs : y.testBit 1 with
  | false =>
    have hb1 : (bits .and .u8 (y : Int) (z : Int) == 0) = true := by have := Hmn.out; rw [hs] at this; exact this
    rw [Hme.out, hs] at HQ
    clear hs
    go_wp2
    go_quiet ((go_at_call 74; exact Calls.quiet_of_same (Hbit.out _)))
    go_wp2
    go_ret
    exact Fin HQ ⟨rfl, _, rfl⟩
  | true =>
  have hb1 : (bits .and .u8 (y : Int) (z : Int) == 0) = false := by have := Hmn.out; rw [hs] at this; exact this
  rw [Hme.out, hs] at HQ
  clear hs
  simp only [Bool.true_and] at HQ
  go_wp2
  go_quiet ((go_at_call 74; exact Calls.quiet_of_same (Hbit.out _)))
  go_wp2
  clear hb1 Hbit Hmm Hmn Hme pm
  generalize hvm : Value.slice (some adM) M.length cM = vm at *
  clear hvm
  generalize hL : RL[q.toNat] = L at *
  have HL := hid hL
  clear hL
  generalize hFO : T.foes[q.toNat] = FO at *
  have HFO := hid hFO
  clear hFO
  go_loopw [8, 7] (fun v8 v7 wr => ∃ i : Nat, i ≤ L.length ∧ v8 = .int .i64 i ∧ v7 = .bool (!(L.take i).any (mpR T M)) ∧ Drew w wr) (fun v8 _ _ => L.length - (intOf v8).toNat)
  case atStart => exact ⟨0, Nat.zero_le _, rfl, rfl, ⟨_, rfl⟩⟩
  case round =>
    obtain ⟨i, hi, rfl, rfl, hdr⟩ := hrel
    have Hdr := hid hdr
    obtain ⟨AF, cF, AR, cR, AB, cB, Al, cl, ARu, cRu, c1, c2, c3, c4, c5, hF, hR, hB, hl, hRu⟩ := (H.out.ext hdr.below).cells
    obtain ⟨adQ, LB, LC, rfl, pq, l1, l2, hrow⟩ := hRu.atRow hqr
    rw [HL.out] at pq l1 l2 hrow
    clear hdr
    by_cases hlt : i < L.length
    · have Hi := hid (any_take_succ (p := mpR T M) hlt)
      obtain ⟨adL, rfl, pl⟩ := hrow.at1 hlt
      obtain ⟨hr0, hr1⟩ := Hrl.out _ (List.getElem_mem hlt)
      obtain ⟨r, Hr⟩ : ∃ r, Hid (L[i] = r) := ⟨_, hid rfl⟩
      rw [Hr.out] at pl hr0 hr1
      have hrl : r.toNat < T.rules.length := by omega
      have HbR := hid (Hbody.out _ hrl)
      have Hbo := hid (bodyAt_at hrl)
      obtain ⟨adR, C, cC, rfl, p0, p1, p2, d1, d2, hbody⟩ := hR.atRule hrl
      generalize T.rules[r.toNat].body = bo at *
      have Hst := hid (support15_same _ b T l RL (H.out.ext Hdr.out.below) r hr0 hr1)
      have Hall := hid (any15_any wr vm (.slice C bo.length cC) M bo (Hm.out.ext (scR_mono _) Hdr.out.below) ⟨C, cC, rfl, d1, d2, hbody⟩ H8.out HbR.out 4 3 (by decide) (by decide))
      have Hp : Hid (mpR T M r = (supB T r && !anyM M 3 bo)) := hid (by rw [← Hbo.out]; rfl)
      clear hF hR hB hl hRu hrow hbody
      cases hd : (L.take i).any (mpR T M) with
      | true =>
        have Hd := hid hd
        clear hd
        go_wp2_with fail
        go_roundw
        case rel => exact ⟨i + 1, by omega, by go_num, by rw [Hi.out, Hd.out]; rfl, Hdr.out⟩
        case measure => simp [intOf]; omega
      | false =>
      have Hd := hid hd
      clear hd
      cases hs : supB T r with
      | false =>
        have Hp2 : Hid (mpR T M r = false) := hid (by rw [Hp.out, hs]; rfl)
        rw [hs] at Hst
        clear hs
        go_wp2_with (go_at_call 141; refine Hst.out.mono ?_; rintro e w' ⟨rfl, hw9⟩; rw [hw9]; clear hw9 w')
        go_roundw
        case rel => exact ⟨i + 1, by omega, by go_num, by rw [Hi.out, Hd.out, Hr.out, Hp2.out]; rfl, Hdr.out⟩
        case measure => simp [intOf]; omega
      | true =>
        rw [hs] at Hst
        have Hp2 : Hid (mpR T M r = !anyM M 3 bo) := hid (by rw [Hp.out, hs]; rfl)
        clear hs
        generalize hal : anyM M 3 bo = al at *
        clear hal
        go_wp2_with (first | (go_at_call 141; refine Hst.out.mono ?_; rintro e w' ⟨rfl, hw9⟩; rw [hw9]; clear hw9 w') | (go_at_call 140; refine Hall.out.mono ?_; rintro e w' ⟨rfl, m9, rfl⟩))
        go_roundw
        case rel => exact ⟨i + 1, by omega, by go_num, by rw [Hi.out, Hd.out, Hr.out, Hp2.out]; cases al <;> rfl, Hdr.out.step _⟩
        case measure => simp [intOf]; omega
    · have Hany : Hid ((L.take i).any (mpR T M) = L.any (mpR T M)) := hid (any_take_all (show L.length ≤ i by omega))
      rw [Hany.out]
      obtain ⟨adF, FB, FC, rfl, pf, f1, f2, hfrow⟩ := hF.atRow hqf
      rw [HFO.out] at pf f1 f2 hfrow
      have Hall := hid (any15_any wr vm (.slice FB FO.length FC) M FO (Hm.out.ext (scR_mono _) Hdr.out.below) ⟨FB, FC, rfl, f1, f2, hfrow⟩ H8.out Hfo.out 1 0 (by decide) (by decide))
      clear hF hR hB hl hRu hrow hfrow Hany
      cases hd : L.any (mpR T M) with
      | false =>
        rw [hd] at HQ
        clear hd
        go_wp2_with fail
        go_ret
        exact Fin HQ ⟨rfl, Hdr.out⟩
      | true =>
      rw [hd] at HQ
      clear hd
      simp only [Bool.not_true, Bool.false_or] at HQ
      cases ha : anyM M 0 FO with
      | true =>
        rw [ha] at HQ Hall
        clear ha
        go_wp2_with (go_at_call 140; refine Hall.out.mono ?_; rintro e w' ⟨rfl, m9, rfl⟩)
        go_ret
        exact Fin HQ ⟨rfl, Hdr.out.step _⟩
      | false =>
      rw [ha] at HQ Hall
      clear ha
      simp only [Bool.false_or] at HQ
      go_wp2_with (go_at_call 140; refine Hall.out.mono ?_; rintro e w' ⟨rfl, m9, rfl⟩)
      clear Hall pf pq c1 c2 c3 c4 c5
      go_loopw [10] (fun vo wr => ∃ i : Nat, i ≤ FO.length ∧ vo = .int .i64 i ∧ Hid ((FO.take i).any (fun f => (row RL f).any (mpS T RL M q)) = false) ∧ Drew w wr) (fun vo _ => FO.length - (intOf vo).toNat)
      case atStart => exact ⟨0, Nat.zero_le _, rfl, hid (by simp), Hdr.out.step _⟩
      case round =>
        clear Hdr
        obtain ⟨i, hi, rfl, hno, hdr⟩ := hrel
        have Hdr := hid hdr
        obtain ⟨AF, cF, AR, cR, AB, cB, Al, cl, ARu, cRu, c1, c2, c3, c4, c5, hF, hR, hB, hl, hRu⟩ := (H.out.ext hdr.below).cells
        obtain ⟨adQ, LB, LC, rfl, pq, l1, l2, hrow⟩ := hRu.atRow hqr
        obtain ⟨adF, FB, FC, rfl, pf, f1, f2, hfrow⟩ := hF.atRow hqf
        rw [HFO.out] at pf f1 f2 hfrow
        clear hdr
        by_cases hlt : i < FO.length
        · have Hi := hid (any_take_succ (p := (fun f => (row RL f).any (mpS T RL M q))) hlt)
          have Hhit := hid (any_hit (p := (fun f => (row RL f).any (mpS T RL M q))) hlt)
          obtain ⟨adX, rfl, px⟩ := hfrow.at1 hlt
          obtain ⟨hx0, hx1⟩ := Hfr.out _ (List.getElem_mem hlt)
          obtain ⟨x, Hx⟩ : ∃ x, Hid (FO[i] = x) := ⟨_, hid rfl⟩
          rw [Hx.out] at px hx0 hx1
          have hxl : x.toNat < RL.length := by omega
          have HrowX : Hid (row RL x = RL[x.toNat]) := hid (row_at hx0 hx1)
          have HrlX := hid (Hrlf.out _ hxl)
          obtain ⟨adQ', XB, XC, e', px2, x1, x2, hxrow⟩ := hRu.atRow hxl
          cases e'
          generalize hLX : RL[x.toNat] = LX at *
          have HLX := hid hLX
          clear hLX
          clear hF hR hB hl hRu hrow hfrow
          go_wp2
          go_quiet (fail)
          go_wp2
          obtain ⟨wo, rfl⟩ : ∃ wo : World, wo = wr := ⟨_, rfl⟩
          have hdr1 := Hdr.out.step
          clear c1 c2 c3 c4 c5 px px2 pf pq
          go_loopw [12] (fun vi wr => ∃ j : Nat, j ≤ LX.length ∧ vi = .int .i64 j ∧ Hid ((LX.take j).any (mpS T RL M q) = false) ∧ Drew wo wr) (fun vi _ => LX.length - (intOf vi).toNat)
          case atStart => exact ⟨0, Nat.zero_le _, rfl, hid (by simp), ⟨_, rfl⟩⟩
          case round =>
            obtain ⟨j, hj, rfl, hno2, hdr⟩ := hrel
            have Hdro := hid hdr
            replace hxrow := hxrow.ext (scR_mono _) hdr.below
            replace hdr := Hdr.out.trans hdr
            have Hdr2 := hid hdr
            obtain ⟨AF, cF, AR, cR, AB, cB, Al, cl, ARu, cRu, c1, c2, c3, c4, c5, hF, hR, hB, hl, hRu⟩ := (H.out.ext hdr.below).cells
            obtain ⟨adQ, LB, LC, rfl, pq, l1, l2, hrow⟩ := hRu.atRow hqr
            clear hdr
            by_cases hlt2 : j < LX.length
            · have Hj := hid (any_take_succ (p := mpS T RL M q) hlt2)
              have Hhit2 := hid (any_hit (p := mpS T RL M q) hlt2)
              obtain ⟨adL, rfl, pl⟩ := hxrow.at1 hlt2
              obtain ⟨hs0, hs1⟩ := HrlX.out _ (List.getElem_mem hlt2)
              obtain ⟨s, Hs9⟩ : ∃ s, Hid (LX[j] = s) := ⟨_, hid rfl⟩
              rw [Hs9.out] at pl hs0 hs1
              have hsl : s.toNat < T.rules.length := by omega
              have Hbe := hid (stands15_any wr b T F l RL M vm (H.out.ext Hdr2.out.below) (Hm.out.ext (scR_mono _) Hdr2.out.below) Hv.out q h0 hq s hs0 hs1)
              have Hp : Hid (mpS T RL M q s = (wholeB T M 2 s && !(row RL q).any (mpB T M s))) := hid rfl
              rw [← Hp.out] at Hbe
              clear hF hR hB hl hRu hrow hxrow
              cases hbb : mpS T RL M q s with
              | false =>
                have Hp2 := hid hbb
                rw [hbb] at Hbe
                clear hbb
                go_wp2_with (go_at_call 143; refine Hbe.out.mono ?_; rintro e w' ⟨rfl, m9, rfl⟩)
                go_roundw
                case rel => exact ⟨j + 1, by omega, by go_num, hid (by rw [Hj.out, hno2.out, Hs9.out, Hp2.out]; rfl), Hdro.out.step _⟩
                case measure => simp [intOf]; omega
              | true =>
                have Hp2 := hid hbb
                have Hfin : Hid (FO.any (fun f => (row RL f).any (mpS T RL M q)) = true) := hid (Hhit.out (by rw [Hx.out, HrowX.out]; exact Hhit2.out (by rw [Hs9.out, Hp2.out])))
                rw [Hfin.out] at HQ
                rw [hbb] at Hbe
                clear hbb
                go_wp2_with (go_at_call 143; refine Hbe.out.mono ?_; rintro e w' ⟨rfl, m9, rfl⟩)
                go_ret
                exact Fin HQ ⟨rfl, Hdr2.out.step _⟩
            · have Hany : Hid (LX.any (mpS T RL M q) = false) := hid (by rw [← any_take_all (show LX.length ≤ j by omega), hno2.out])
              clear hF hR hB hl hRu hrow hxrow
              go_wp2
              go_roundw
              case rel => exact ⟨i + 1, by omega, by go_num, hid (by rw [Hi.out, hno.out, Hx.out, HrowX.out, Hany.out]; rfl), Hdr2.out⟩
              case measure => simp [intOf]; omega
        · have Hany : Hid (FO.any (fun f => (row RL f).any (mpS T RL M q)) = false) := hid (by rw [← any_take_all (show FO.length ≤ i by omega), hno.out])
          rw [Hany.out] at HQ
          clear hF hR hB hl hRu hrow hfrow
          go_wp2
          go_ret
          exact Fin HQ ⟨rfl, Hdr.out⟩

end Go.Proofs.Lx

namespace Go.Proofs.Lx
open Go Go.RowKit
set_option linter.unusedSimpArgs false
set_option linter.unusedVariables false

structure WR (W1 : World) (vals : Array Value) (b gR base : Nat) (vs : List Value) (xss : List (List Int)) (w : World) : Prop where
  blk : w.heap[b]? = some (.cells vals 127 (0, 0))
  rows : Rows w gR base 26 3 vs xss
  old : Below W1.heap.size W1 w
  h1 : W1.heap.size ≤ b ∧ b < base
  h3 : W1.heap.size ≤ gR ∧ gR < base
  hb : base ≤ w.heap.size
  d : b ≠ gR
section
variable {W1 : World} {vals : Array Value} {b gR base : Nat} {vs : List Value} {xss : List (List Int)} {w w' : World}
theorem WR.ext (h : WR W1 vals b gR base vs xss w) (hb : Below w.heap.size w w') : WR W1 vals b gR base vs xss w' :=
  ⟨(hb.block b (lt_of_block h.blk)).trans h.blk, h.rows.ext hb, h.old.trans (hb.mono h.old.size), h.h1, h.h3, Nat.le_trans h.hb hb.size, h.d⟩
theorem WR.append (h : WR W1 vals b gR base vs xss w) {q : Nat} (hq : q < vs.length) (hq' : q < xss.length) {v' : Value} {x : Int} (hgr : w.grownBy w' vs[q].ownBlock)
    (ho : w'.ownsRow base 3 1 v' (xss[q].length + 1) (intsV xss[q] ++ [.int .i64 x])) (hat : v'.ownBlock = vs[q].ownBlock ∨ v'.ownBlock = some w.heap.size) :
    WR W1 vals b gR base (vs.set q v') (xss.set q (xss[q] ++ [x])) (w'.setCell ⟨gR, q, none⟩ v') := by
  have hlt := (h.rows.own q hq hq').lt
  have hbk : ∀ g, g < base → w'.heap[g]? = w.heap[g]? := fun g hg => hgr.block g (Nat.lt_of_lt_of_le hg h.hb) (fun e => by have := hlt g e.symm; omega)
  refine ⟨(heap_setCell_other w' _ b _ h.d).trans ((hbk b h.h1.2).trans h.blk), h.rows.append h.hb hq hq' hgr ho (hat.imp id fun e => ⟨_, e, Nat.le_refl _⟩), ?_, h.h1, h.h3, by simp only [World.size_setCell]; exact Nat.le_trans h.hb hgr.size, h.d⟩
  exact (h.old.trans ⟨hgr.os, hgr.tape, hgr.output, hgr.size, fun k hk => hbk k (by have := h.h1; omega)⟩).setCell h.h3.1 _
theorem WR.cell (h : WR W1 vals b gR base vs xss w) (i : Nat) : w.cell? ⟨b, i, none⟩ = vals[i]? := cell_of_row w b i _ _ _ h.blk
theorem WR.blocks (h : WR W1 vals b gR base vs xss w) {q : Nat} (hq : q < vs.length) (hgr : w.grownBy w' vs[q].ownBlock) (g : Nat) (hg : g < base) : w'.heap[g]? = w.heap[g]? :=
  hgr.block g (Nat.lt_of_lt_of_le hg h.hb) (fun e => by have := (h.rows.own q hq (by rw [← h.rows.len]; exact hq)).lt g e.symm; omega)
theorem cell_heap {a : Addr} (h : w'.heap[a.block]? = w.heap[a.block]?) : w'.cell? a = w.cell? a := by unfold World.cell?; rw [h]
theorem WR.start (W1 : World) (vals : Array Value) (n s : Nat) (hs : W1.heap.size = s) :
    WR W1 vals (s + 1) s (s + 1 + 1) (List.replicate n (.slice none 0 0)) (List.replicate n [])
      (((W1.alloc (.cells (madeCells #[Value.slice none 0 0] n) 26)).alloc (.cells vals 127)).drew) := by
  subst hs
  have h0 : ((W1.alloc (.cells (madeCells #[Value.slice none 0 0] n) 26)).alloc (.cells vals 127)).drew.heap.size = W1.heap.size + 2 := by simp only [World.alloc, World.drew, Array.size_push]
  have h1 : ((W1.alloc (.cells (madeCells #[Value.slice none 0 0] n) 26)).alloc (.cells vals 127)).drew.heap[W1.heap.size]? = some (.cells (madeCells #[Value.slice none 0 0] n) 26) := by
    simp only [World.alloc, World.drew, Array.getElem?_push, Array.size_push]; rw [if_neg (by omega), if_pos trivial]
  have h2 : ((W1.alloc (.cells (madeCells #[Value.slice none 0 0] n) 26)).alloc (.cells vals 127)).drew.heap[W1.heap.size + 1]? = some (.cells vals 127) := by
    simp only [World.alloc, World.drew, Array.getElem?_push, Array.size_push]; rw [if_pos trivial]
  refine ⟨h2, Rows.made _ _ _ _ _ _ (by omega) (h1.trans ?_), ?_, by omega, by omega, by omega, by omega⟩
  · congr 2
    rw [← Array.toList_inj, toList_madeCells_one]
  · exact Below.drew (Below.alloc (ext_alloc W1 _) (by simp) _)
end
noncomputable def newR5 : Code := blkS (fstS (sndS (loopS (blkS (sndS (fstS (sndS (sndS ((Try.f62.body).getD .skip)))))))))

set_option maxRecDepth 1000000 in
set_option maxHeartbeats 60000000 in
theorem newWorld15_R5 (W1 wx : World) (a0 a1 a2 a3 a4 : Value) (n nr : Nat) (b gR base tb : Nat) (adR : Addr) (cR : Nat) (us : List Value) (xss : List (List Int)) (q k : Nat)
    (hws1 : WR W1 #[a0, a1, a2, a3, a4, .slice (some ⟨gR, 0, none⟩) n n] b gR base us xss wx) (hqn : q < us.length) (hqr : q < xss.length) (hqf : q < n) (hkr : k < nr) (hnr : nr ≤ 4096)
    (y1 : wx.cell? ⟨tb, 2, none⟩ = some (.slice (some adR) nr cR)) (htb : tb < W1.heap.size) (x1 : wx.cell? ⟨(adR.add (k * 3)).block, (adR.add (k * 3)).off + 1, none⟩ = some (.int .i64 (q : Int))) (hxb : (adR.add (k * 3)).block < W1.heap.size)
    (hnq : xss[q].length ≤ 4096) (K : Act → World → Prop) (Q' : Exit → Act → World → Prop)
    (u0 u1 u3 u4 u7 u8 u9 u10 u11 u12 u13 u14 u15 u16 u17 u18 u19 u20 u21 u22 u23 u24 u25 u26 u27 u28 u29 u30 u31 u32 u33 u34 u35 u36 u37 u38 u39 u40 u41 u42 u43 u44 u45 u46 u47 : Value)
    (hK : ∀ (x21 x22 x23 x24 x25 x26 x27 x28 x29 x30 x31 x32 x33 x34 x35 x36 x37 x38 x39 x40 x41 x42 x43 x44 x45 x46 : Value) (wy : World) (v' : Value), WR W1 #[a0, a1, a2, a3, a4, .slice (some ⟨gR, 0, none⟩) n n] b gR base (us.set q v') (xss.set q (xss[q] ++ [(k : Int)])) wy → K ⟨#[u0, u1, .pointer (some ⟨tb, 0, none⟩), u3, u4, .pointer (some ⟨b, 0, none⟩), .int .i64 (k : Int), u7, u8, u9, u10, u11, u12, u13, u14, u15, u16, u17, u18, u19, u20, x21, x22, x23, x24, x25, x26, x27, x28, x29, x30, x31, x32, x33, x34, x35, x36, x37, x38, x39, x40, x41, x42, x43, x44, x45, x46, u47], []⟩ wy) :
    Code.wp Try.prog newR5 (Exit.inBlock 1 (Exit.then K Q')) ⟨#[u0, u1, .pointer (some ⟨tb, 0, none⟩), u3, u4, .pointer (some ⟨b, 0, none⟩), .int .i64 (k : Int), u7, u8, u9, u10, u11, u12, u13, u14, u15, u16, u17, u18, u19, u20, u21, u22, u23, u24, u25, u26, u27, u28, u29, u30, u31, u32, u33, u34, u35, u36, u37, u38, u39, u40, u41, u42, u43, u44, u45, u46, u47], []⟩ wx := by
  have HK := hid hK
  clear hK
  conv => arg 2; whnf
  have e5 := hws1.cell 5
  simp only [List.getElem?_toArray, List.getElem?_cons_zero, List.getElem?_cons_succ] at e5
  have hst := hws1.rows.own q hqn hqr
  have hcq := hws1.rows.cell hqn
  have hfq := hws1.rows.free q
  have hbs := hws1.hb
  have hRlt := hws1.rows.lt
  have hblt := lt_of_block hws1.blk
  have hb3 := hws1.h3
  have hob := hws1.old.size
  have Hoa : Hid (∀ (cs : Array Value) (w' : World), ((wx.alloc (.cells cs 3)).drew).grownBy w' us[q].ownBlock → ∀ a : Addr, a.block < base → w'.cell? a = wx.cell? a) := by
    intro cs w' hgrow a ha
    have hws2 := hws1.ext ((ext_alloc wx (.cells cs 3)).drew)
    exact (cell_heap (hws2.blocks hqn hgrow a.block ha)).trans ((ext_alloc wx (.cells cs 3)).drew.cell (Nat.lt_of_lt_of_le ha hws1.hb))
  have Haft : Hid (∀ (cs : Array Value) (w' : World), ((wx.alloc (.cells cs 3)).drew).grownBy w' us[q].ownBlock → (w'.cell? ⟨b, 5, none⟩ = some (.slice (some ⟨gR, 0, none⟩) n n) ∧ w'.cell? ⟨tb, 2, none⟩ = some (.slice (some adR) nr cR) ∧ w'.cell? ⟨(adR.add (k * 3)).block, (adR.add (k * 3)).off + 1, none⟩ = some (.int .i64 (q : Int))) ∧ w'.cell? ⟨gR, q, none⟩ = some us[q] ∧ w'.frozen? ⟨gR, q, none⟩ = false) := by
    intro cs w' hgrow
    have hws2 := hws1.ext ((ext_alloc wx (.cells cs 3)).drew)
    have k2 := (hws2.blocks hqn hgrow gR hws2.h3.2).trans hws2.rows.blk
    have oa := Hoa.out cs w' hgrow
    exact ⟨⟨(oa _ hws1.h1.2).trans e5, (oa _ (by dsimp only; omega)).trans y1, (oa _ (by dsimp only; omega)).trans x1⟩, (oa _ hws1.h3.2).trans hcq, frozen_of_row w' gR q _ _ k2⟩
  have hi0 : (0 : Int) ≤ (q : Int) := by omega
  have hi1 : (q : Int) < (n : Int) := by omega
  have hk0 : (0 : Int) ≤ (k : Int) := by omega
  have hk1 : (k : Int) < (nr : Int) := by omega
  have Hkeep : Hid (∀ cs : Array Value, ((wx.alloc (.cells cs 3)).drew).cell? ⟨b, 5, none⟩ = some (.slice (some ⟨gR, 0, none⟩) n n) ∧ ((wx.alloc (.cells cs 3)).drew).cell? ⟨tb, 2, none⟩ = some (.slice (some adR) nr cR) ∧ ((wx.alloc (.cells cs 3)).drew).cell? ⟨(adR.add (k * 3)).block, (adR.add (k * 3)).off + 1, none⟩ = some (.int .i64 (q : Int))) := fun cs =>
    ⟨cell_ext (ext_alloc wx (.cells cs 3)).drew e5, cell_ext (ext_alloc wx (.cells cs 3)).drew y1, cell_ext (ext_alloc wx (.cells cs 3)).drew x1⟩
  have hne1 : b ≠ gR := hws1.d
  have hne2 : tb ≠ gR := by omega
  have hne3 : (adR.add (k * 3)).block ≠ gR := by omega
  have Hst : Hid (∀ (w' : World) (v : Value), (w'.cell? ⟨b, 5, none⟩ = some (.slice (some ⟨gR, 0, none⟩) n n) ∧ w'.cell? ⟨tb, 2, none⟩ = some (.slice (some adR) nr cR) ∧ w'.cell? ⟨(adR.add (k * 3)).block, (adR.add (k * 3)).off + 1, none⟩ = some (.int .i64 (q : Int))) → (w'.setCell ⟨gR, q, none⟩ v).cell? ⟨b, 5, none⟩ = some (.slice (some ⟨gR, 0, none⟩) n n) ∧ (w'.setCell ⟨gR, q, none⟩ v).cell? ⟨tb, 2, none⟩ = some (.slice (some adR) nr cR) ∧ (w'.setCell ⟨gR, q, none⟩ v).cell? ⟨(adR.add (k * 3)).block, (adR.add (k * 3)).off + 1, none⟩ = some (.int .i64 (q : Int))) := fun w' v ⟨h1, h2, h3⟩ => ⟨by rw [World.cell?_setCell_far _ _ _ _ (Ne.symm hne1)]; exact h1, by rw [World.cell?_setCell_far _ _ _ _ (Ne.symm hne2)]; exact h2, by rw [World.cell?_setCell_far _ _ _ _ (Ne.symm hne3)]; exact h3⟩
  have Hws := hid hws1
  clear hws1
  refine wp_region_noPanic ?_
  refine wp_region_held_drew (S := (fun w' => w'.cell? ⟨b, 5, none⟩ = some (.slice (some ⟨gR, 0, none⟩) n n) ∧ w'.cell? ⟨tb, 2, none⟩ = some (.slice (some adR) nr cR) ∧ w'.cell? ⟨(adR.add (k * 3)).block, (adR.add (k * 3)).off + 1, none⟩ = some (.int .i64 (q : Int)))) (by kernel_rfl) ?_ (fun hHeld => ?_)
  · exact ⟨e5, y1, x1⟩
  refine wpAnyH_take (i := 0) (v := ?v1) rfl (by kernel_rfl) (by kernel_rfl) (by kernel_rfl) (fun _ _ _ h => h) (Or.inl ⟨by rfl, ?hy1⟩) (by assumption) ?rest1
  case hy1 => (intro w hSw; (try dsimp only at hSw); go_simp) <;> try with_reducible rfl
  simp only [Act.put, List.setIfInBounds_toArray, List.set_cons_zero, List.set_cons_succ]
  refine wpAnyH_take (i := 1) (v := ?v2) rfl (by kernel_rfl) (by kernel_rfl) (by kernel_rfl) (fun _ _ _ h => h) (Or.inl ⟨by rfl, ?hy2⟩) (by assumption) ?rest2
  case hy2 => (intro w hSw; (try dsimp only at hSw); go_simp) <;> try with_reducible rfl
  simp only [Act.put, List.setIfInBounds_toArray, List.set_cons_zero, List.set_cons_succ]
  refine wpAnyH_take (i := 2) (v := ?v3) rfl (by kernel_rfl) (by kernel_rfl) (by kernel_rfl) (fun _ _ _ h => h) (Or.inl ⟨by rfl, ?hy3⟩) (by assumption) ?rest3
  case hy3 => (intro w hSw; (try dsimp only at hSw); go_simp) <;> try with_reducible rfl
  simp only [Act.put, List.setIfInBounds_toArray, List.set_cons_zero, List.set_cons_succ]
  refine wpAnyH_take (i := 3) (v := ?v4) rfl (by kernel_rfl) (by kernel_rfl) (by kernel_rfl) (fun _ _ _ h => h) (Or.inl ⟨by rfl, ?hy4⟩) (by assumption) ?rest4
  case hy4 => (intro w hSw; (try dsimp only at hSw); go_simp) <;> try with_reducible rfl
  simp only [Act.put, List.setIfInBounds_toArray, List.set_cons_zero, List.set_cons_succ]
  refine wpAnyH_take (i := 4) (v := ?v5) rfl (by kernel_rfl) (by kernel_rfl) (by kernel_rfl) (fun _ _ _ h => h) (Or.inl ⟨by rfl, ?hy5⟩) (by assumption) ?rest5
  case hy5 => (intro w hSw; (try dsimp only at hSw); go_simp) <;> try with_reducible rfl
  simp only [Act.put, List.setIfInBounds_toArray, List.set_cons_zero, List.set_cons_succ]
  refine wpAnyH_take (i := 5) (v := ?v6) rfl (by kernel_rfl) (by kernel_rfl) (by kernel_rfl) (fun _ _ _ h => h) (Or.inl ⟨by rfl, ?hy6⟩) (by assumption) ?rest6
  case hy6 => (intro w hSw; (try dsimp only at hSw); go_simp) <;> try with_reducible rfl
  simp only [Act.put, List.setIfInBounds_toArray, List.set_cons_zero, List.set_cons_succ]
  refine wpAnyH_take (i := 6) (v := ?v7) rfl (by kernel_rfl) (by kernel_rfl) (by kernel_rfl) (fun _ _ _ h => h) (Or.inl ⟨by rfl, ?hy7⟩) (by assumption) ?rest7
  case hy7 => (intro w hSw; (try dsimp only at hSw); go_simp) <;> try with_reducible rfl
  simp only [Act.put, List.setIfInBounds_toArray, List.set_cons_zero, List.set_cons_succ]
  refine wpAnyH_take (i := 7) (v := ?v8) rfl (by kernel_rfl) (by kernel_rfl) (by kernel_rfl) (fun _ _ _ h => h) (Or.inl ⟨by rfl, ?hy8⟩) (by assumption) ?rest8
  case hy8 => (intro w hSw; (try dsimp only at hSw); go_simp) <;> try with_reducible rfl
  simp only [Act.put, List.setIfInBounds_toArray, List.set_cons_zero, List.set_cons_succ]
  refine wpAnyH_take (i := 8) (v := ?v9) rfl (by kernel_rfl) (by kernel_rfl) (by kernel_rfl) (fun _ _ _ h => h) (Or.inl ⟨by rfl, ?hy9⟩) (by assumption) ?rest9
  case hy9 => (intro w hSw; (try dsimp only at hSw); go_simp) <;> try with_reducible rfl
  simp only [Act.put, List.setIfInBounds_toArray, List.set_cons_zero, List.set_cons_succ]
  refine wpAnyH_take (i := 9) (v := ?v10) rfl (by kernel_rfl) (by kernel_rfl) (by kernel_rfl) (fun _ _ _ h => h) (Or.inl ⟨by rfl, ?hy10⟩) (by assumption) ?rest10
  case hy10 => (intro w hSw; (try dsimp only at hSw); go_simp) <;> try with_reducible rfl
  simp only [Act.put, List.setIfInBounds_toArray, List.set_cons_zero, List.set_cons_succ]
  refine wpAnyH_take (i := 10) (v := ?v11) rfl (by kernel_rfl) (by kernel_rfl) (by kernel_rfl) (fun _ _ _ h => h) (Or.inl ⟨by rfl, ?hy11⟩) (by assumption) ?rest11
  case hy11 => (intro w hSw; (try dsimp only at hSw); go_simp) <;> try with_reducible rfl
  simp only [Act.put, List.setIfInBounds_toArray, List.set_cons_zero, List.set_cons_succ]
  refine wpAnyH_take (i := 11) (v := ?v12) rfl (by kernel_rfl) (by kernel_rfl) (by kernel_rfl) (fun _ _ _ h => h) (Or.inl ⟨by rfl, ?hy12⟩) (by assumption) ?rest12
  case hy12 => (intro w hSw; (try dsimp only at hSw); go_simp) <;> try with_reducible rfl
  simp only [Act.put, List.setIfInBounds_toArray, List.set_cons_zero, List.set_cons_succ]
  refine wpAnyH_take (i := 12) (v := ?v13) rfl (by kernel_rfl) (by kernel_rfl) (by kernel_rfl) (fun _ _ _ h => h) (Or.inl ⟨by rfl, ?hy13⟩) (by assumption) ?rest13
  case hy13 => (intro w hSw; (try dsimp only at hSw); go_simp) <;> try with_reducible rfl
  simp only [Act.put, List.setIfInBounds_toArray, List.set_cons_zero, List.set_cons_succ]
  refine wpAnyH_take (i := 13) (v := ?v14) rfl (by kernel_rfl) (by kernel_rfl) (by kernel_rfl) (fun _ _ _ h => h) (Or.inl ⟨by rfl, ?hy14⟩) (by assumption) ?rest14
  case hy14 => (intro w hSw; (try dsimp only at hSw); go_simp) <;> try with_reducible rfl
  simp only [Act.put, List.setIfInBounds_toArray, List.set_cons_zero, List.set_cons_succ]
  refine wpAnyH_take (i := 14) (v := ?v15) rfl (by kernel_rfl) (by kernel_rfl) (by kernel_rfl) (fun _ _ _ h => h) (Or.inl ⟨by rfl, ?hy15⟩) (by assumption) ?rest15
  case hy15 => (intro w hSw; (try dsimp only at hSw); go_simp) <;> try with_reducible rfl
  simp only [Act.put, List.setIfInBounds_toArray, List.set_cons_zero, List.set_cons_succ]
  refine wpAnyH_take (i := 15) (v := ?v16) rfl (by kernel_rfl) (by kernel_rfl) (by kernel_rfl) (fun _ _ _ h => h) (Or.inl ⟨by rfl, ?hy16⟩) (by assumption) ?rest16
  case hy16 => (intro w hSw; (try dsimp only at hSw); go_simp) <;> try with_reducible rfl
  simp only [Act.put, List.setIfInBounds_toArray, List.set_cons_zero, List.set_cons_succ]
  refine wpAnyH_take (i := 16) (v := ?v17) rfl (by kernel_rfl) (by kernel_rfl) (by kernel_rfl) (fun _ _ _ h => h) (Or.inl ⟨by rfl, ?hy17⟩) (by assumption) ?rest17
  case hy17 => (intro w hSw; (try dsimp only at hSw); go_simp) <;> try with_reducible rfl
  simp only [Act.put, List.setIfInBounds_toArray, List.set_cons_zero, List.set_cons_succ]
  refine wpAnyH_take (i := 17) (v := ?v18) rfl (by kernel_rfl) (by kernel_rfl) (by kernel_rfl) (fun _ _ _ h => h) (Or.inl ⟨by rfl, ?hy18⟩) (by assumption) ?rest18
  case hy18 => (intro w hSw; (try dsimp only at hSw); go_simp) <;> try with_reducible rfl
  simp only [Act.put, List.setIfInBounds_toArray, List.set_cons_zero, List.set_cons_succ]
  refine wpAnyH_take (i := 18) (v := ?v19) rfl (by kernel_rfl) (by kernel_rfl) (by kernel_rfl) (fun _ _ _ h => h) (Or.inl ⟨by rfl, ?hy19⟩) (by assumption) ?rest19
  case hy19 => (intro w hSw; (try dsimp only at hSw); go_simp) <;> try with_reducible rfl
  simp only [Act.put, List.setIfInBounds_toArray, List.set_cons_zero, List.set_cons_succ]
  refine wpAnyH_take (i := 19) (v := ?v20) rfl (by kernel_rfl) (by kernel_rfl) (by kernel_rfl) (fun _ _ _ h => h) (Or.inl ⟨by rfl, ?hy20⟩) (by assumption) ?rest20
  case hy20 => (intro w hSw; (try dsimp only at hSw); go_simp) <;> try with_reducible rfl
  simp only [Act.put, List.setIfInBounds_toArray, List.set_cons_zero, List.set_cons_succ]
  refine wpAnyH_take (i := 20) (v := ?v21) rfl (by kernel_rfl) (by kernel_rfl) (by kernel_rfl) (fun _ _ _ h => h) (Or.inl ⟨by rfl, ?hy21⟩) (by assumption) ?rest21
  case hy21 => (intro w hSw; (try dsimp only at hSw); go_simp) <;> try with_reducible rfl
  simp only [Act.put, List.setIfInBounds_toArray, List.set_cons_zero, List.set_cons_succ]
  refine wpAnyH_take (i := 22) (v := ?v22) rfl (by kernel_rfl) (by kernel_rfl) (by kernel_rfl) (fun _ _ _ h => h) (Or.inl ⟨by rfl, ?hy22⟩) (by assumption) ?rest22
  case hy22 => (intro w hSw; (try dsimp only at hSw); go_simp) <;> try with_reducible rfl
  simp only [Act.put, List.setIfInBounds_toArray, List.set_cons_zero, List.set_cons_succ]
  refine wpAnyH_ready (rs := [21, 23]) (by kernel_rfl) (by simp) ?_
  refine AllReadyH.cons rfl (fun K9 hK9 => ?_) (AllReadyH.cons rfl (fun K9 hK9 => ?_) AllReadyH.nil)
  · go_simp
    refine hK9.out _ _ ?_ (fun hHeld => ?_)
    · exact ⟨e5, y1, x1⟩
    clear hK9 K9
    try simp only [Act.put, List.setIfInBounds_toArray, List.set_cons_zero, List.set_cons_succ]
    refine wpAnyH_ready (rs := [23]) (by kernel_rfl) (by simp) ?_
    refine AllReadyH.cons rfl (fun K9 hK9 => ?_) AllReadyH.nil
    go_simp
    refine hK9.out _ _ ?_ (fun hHeld => ?_)
    · exact Hkeep.out _
    clear hK9 K9
    try simp only [Act.put, List.setIfInBounds_toArray, List.set_cons_zero, List.set_cons_succ]
    refine wpAnyH_ready (rs := [24]) (by kernel_rfl) (by simp) ?_
    refine AllReadyH.cons rfl (fun K9 hK9 => ?_) AllReadyH.nil
    (refine step_append_own_at rfl (.tmp 42) (.tmp 44) 26 rfl base 3 (.int .i64 0) 8 Try.underlying26 infoI rfl us[q] _ _ rfl (hst.alloc _) _ (.int .i64 k) rfl (by simp [go_sem]) rfl (by unfold maxLen; omega) (by omega) (by simp; omega) ?_; intro v' w' hown hgrow hat; obtain ⟨gn, cn, rfl⟩ := own_form hown; obtain ⟨hq5, hqR, hqF⟩ := Haft.out _ w' hgrow)
    refine hK9.out _ _ ?_ (fun hHeld => ?_)
    · exact hq5
    clear hK9 K9
    try simp only [Act.put, List.setIfInBounds_toArray, List.set_cons_zero, List.set_cons_succ]
    refine wpAnyH_take (i := 25) (v := ?v23) rfl (by kernel_rfl) (by kernel_rfl) (by kernel_rfl) (fun _ _ _ h => h) (Or.inl ⟨by rfl, ?hy23⟩) (by assumption) ?rest23
    case hy23 => (intro w hSw; (try dsimp only at hSw); go_simp) <;> try with_reducible rfl
    simp only [Act.put, List.setIfInBounds_toArray, List.set_cons_zero, List.set_cons_succ]
    refine wpAnyH_ready (rs := [26]) (by kernel_rfl) (by simp) ?_
    refine AllReadyH.cons rfl (fun K9 hK9 => ?_) AllReadyH.nil
    go_simp
    refine hK9.out _ _ ?_ (fun hHeld => ?_)
    · exact Hst.out _ _ hq5
    clear hK9 K9
    try simp only [Act.put, List.setIfInBounds_toArray, List.set_cons_zero, List.set_cons_succ]
    refine wpAnyH_done (by kernel_rfl) (NoPanic.normal ?_) _
    clear hq5 hqR hqF e5 x1 y1 hst hcq hfq
    go_wp2_with fail
    exact HK.out _ _ _ _ _ _ _ _ _ _ _ _ _ _ _ _ _ _ _ _ _ _ _ _ _ _ _ _ ((Hws.out.ext ((ext_alloc wx (.cells #[.int .i64 (k : Int)] 3)).drew)).append hqn hqr hgrow hown hat)
  · go_simp
    refine hK9.out _ _ ?_ (fun hHeld => ?_)
    · exact Hkeep.out _
    clear hK9 K9
    try simp only [Act.put, List.setIfInBounds_toArray, List.set_cons_zero, List.set_cons_succ]
    refine wpAnyH_ready (rs := [21]) (by kernel_rfl) (by simp) ?_
    refine AllReadyH.cons rfl (fun K9 hK9 => ?_) AllReadyH.nil
    go_simp
    refine hK9.out _ _ ?_ (fun hHeld => ?_)
    · exact Hkeep.out _
    clear hK9 K9
    try simp only [Act.put, List.setIfInBounds_toArray, List.set_cons_zero, List.set_cons_succ]
    refine wpAnyH_ready (rs := [24]) (by kernel_rfl) (by simp) ?_
    refine AllReadyH.cons rfl (fun K9 hK9 => ?_) AllReadyH.nil
    (refine step_append_own_at rfl (.tmp 42) (.tmp 44) 26 rfl base 3 (.int .i64 0) 8 Try.underlying26 infoI rfl us[q] _ _ rfl (hst.alloc _) _ (.int .i64 k) rfl (by simp [go_sem]) rfl (by unfold maxLen; omega) (by omega) (by simp; omega) ?_; intro v' w' hown hgrow hat; obtain ⟨gn, cn, rfl⟩ := own_form hown; obtain ⟨hq5, hqR, hqF⟩ := Haft.out _ w' hgrow)
    refine hK9.out _ _ ?_ (fun hHeld => ?_)
    · exact hq5
    clear hK9 K9
    try simp only [Act.put, List.setIfInBounds_toArray, List.set_cons_zero, List.set_cons_succ]
    refine wpAnyH_take (i := 25) (v := ?v24) rfl (by kernel_rfl) (by kernel_rfl) (by kernel_rfl) (fun _ _ _ h => h) (Or.inl ⟨by rfl, ?hy24⟩) (by assumption) ?rest24
    case hy24 => (intro w hSw; (try dsimp only at hSw); go_simp) <;> try with_reducible rfl
    simp only [Act.put, List.setIfInBounds_toArray, List.set_cons_zero, List.set_cons_succ]
    refine wpAnyH_ready (rs := [26]) (by kernel_rfl) (by simp) ?_
    refine AllReadyH.cons rfl (fun K9 hK9 => ?_) AllReadyH.nil
    go_simp
    refine hK9.out _ _ ?_ (fun hHeld => ?_)
    · exact Hst.out _ _ hq5
    clear hK9 K9
    try simp only [Act.put, List.setIfInBounds_toArray, List.set_cons_zero, List.set_cons_succ]
    refine wpAnyH_done (by kernel_rfl) (NoPanic.normal ?_) _
    clear hq5 hqR hqF e5 x1 y1 hst hcq hfq
    go_wp2_with fail
    exact HK.out _ _ _ _ _ _ _ _ _ _ _ _ _ _ _ _ _ _ _ _ _ _ _ _ _ _ _ _ ((Hws.out.ext ((ext_alloc wx (.cells #[.int .i64 (k : Int)] 3)).drew)).append hqn hqr hgrow hown hat)
end Go.Proofs.Lx

namespace Go.Proofs.Lx
open Go Go.RowKit
set_option linter.unusedSimpArgs false
set_option linter.unusedVariables false

set_option maxRecDepth 100000 in
set_option maxHeartbeats 6400000 in
theorem newWorld15_any (w : World) (V vl : Value) (T : Th) (l : List Int) (hT : RdTh w V T) (hwf : WfTh T) (hl : RdI w vl l) :
    Calls Try.prog 62 #[V, vl] w (Ret fun r w' => ∃ b, r = .pointer (some ⟨b, 0, none⟩) ∧ NR w' b T l (rulesRows T.rules T.foes.length T.rules.length) ∧ Below w.heap.size w w') := by
  have Hwf := hid hwf
  have HT := hid hT
  obtain ⟨lits, foes, rules, beats⟩ := T
  obtain ⟨vF, vR, vB, rfl, hF, ⟨AR, cR, rfl, hcR, hbR, hrR⟩, hB⟩ := hT
  obtain ⟨Al, cl, hvl, _⟩ := id hl
  subst hvl
  have hl1 := hwf.l1; have hfl := hwf.fl; have hrl := hwf.rl
  dsimp only at *
  obtain rfl : lits = (foes.length : Int) := hfl.symm
  clear hwf hfl
  have hbel := ext_alloc w (.cells #[.int .i64 foes.length, vF, .slice AR rules.length cR, vB] 25)
  obtain ⟨W1, HW1⟩ : ∃ W1, Hid (W1 = w.alloc (.cells #[.int .i64 foes.length, vF, .slice AR rules.length cR, vB] 25)) := ⟨_, hid rfl⟩
  rw [← HW1.out] at hbel
  have hsz : W1.heap.size = w.heap.size + 1 := by rw [HW1.out]; simp
  have hrR1 := hrR.ext ruleR_mono hbel
  have hmL := mkL foes.length (by omega) (by omega)
  rw [Int.toNat_natCast] at hmL
  have Hrest := hid (And.intro (hF.ext llR_mono hbel) (And.intro (hB.ext llR_mono hbel) (hl.ext (scR_mono _) hbel)))
  have B2 : W1.cell? ⟨w.heap.size, 2, none⟩ = some (.slice AR rules.length cR) := by rw [HW1.out]; exact box_cell (Below.refl _ _) 2
  have Hbel := hid hbel
  clear hl hrR hF hB hbel
  refine post_gen fun Q HQ => ?_
  go_enter Try.func62, Try.ntmps62
  go_wp2
  go_cut [5] (fun v5 wx => ∃ b gR base vs, v5 = .pointer (some ⟨b, 0, none⟩) ∧ Hid (vs.length = foes.length) ∧ WR W1 #[.int .i64 foes.length, vF, .slice AR rules.length cR, vB, .slice Al l.length cl, .slice (some ⟨gR, 0, none⟩) foes.length foes.length] b gR base vs (rulesRows rules foes.length 0) wx)
  case first =>
    go_region
    all_goals
      go_wp2_with fail
      go_meet
      rw [HW1.out, rulesRows_zero]
      exact ⟨_, _, _, _, rfl, hid (by simp), WR.start _ _ _ _ (World.size_alloc _ _)⟩
  case rest =>
    obtain ⟨b, gR, base, vs, rfl, hvs, hws⟩ := hcut
    go_wp2
    go_loopw [6] (fun v6 wr => ∃ (k : Nat) (vs : List Value), k ≤ rules.length ∧ v6 = .int .i64 k ∧ Hid (vs.length = foes.length) ∧ WR W1 #[.int .i64 foes.length, vF, .slice AR rules.length cR, vB, .slice Al l.length cl, .slice (some ⟨gR, 0, none⟩) foes.length foes.length] b gR base vs (rulesRows rules foes.length k) wr) (fun v6 _ => rules.length - (intOf v6).toNat)
    case atStart => exact ⟨0, vs, Nat.zero_le _, rfl, hvs, hws⟩
    case round =>
      clear hws hvs
      obtain ⟨k, us, hk, rfl, hus, hws⟩ := hrel
      have c2 := cell_ext hws.old B2
      obtain ⟨wo, rfl⟩ : ∃ wo : World, wo = wr := ⟨_, rfl⟩
      by_cases hlt : k < rules.length
      · have hx0 := hrR1.atRule hlt
        obtain ⟨ad, C, cC, rfl, p0, p1', _, _, _, _⟩ := (hrR1.ext ruleR_mono hws.old).atRule hlt
        obtain ⟨ad1, C1, cC1, e1, p10, _⟩ := hx0
        have e2 := Option.some.inj e1
        subst e2
        obtain ⟨hh0, hhn⟩ : 0 ≤ rules[k].head ∧ rules[k].head < foes.length := ruleOk_head (Hwf.out.ru _ (List.getElem_mem hlt))
        obtain ⟨q, hq⟩ := Int.eq_ofNat_of_zero_le hh0
        have hqn : q < us.length := by rw [hus.out]; omega
        have hqf : q < foes.length := by omega
        have hqr : q < (rulesRows rules foes.length k).length := by rw [rulesRows_length]; omega
        have Hsucc : Hid (rulesRows rules foes.length (k + 1) = (rulesRows rules foes.length k).set q ((rulesRows rules foes.length k)[q] ++ [(k : Int)])) := by
          have := rulesRows_succ rules foes.length k hlt hh0 hhn
          rw [hq, Int.toNat_natCast] at this
          rw [Hid, this, rulesRows_at _ _ _ hqf]
        rw [hq] at p1'
        have hnq : (rulesRows rules foes.length k)[q].length ≤ 4096 := by rw [rulesRows_at _ _ _ (by omega)]; exact Nat.le_trans (rulesUpto_length _ _ _) (by omega)
        have hxb : (ad.add (k * 3)).block < W1.heap.size := World.block_lt_of_cell? _ _ p10
        go_wp2_with fail
        refine newWorld15_R5 W1 wo _ _ _ _ _ foes.length rules.length b gR base w.heap.size ad cR us _ q k hws hqn hqr hqf hlt (by omega) c2 (by omega) p1' hxb hnq _ _ _ _ _ _ _ _ _ _ _ _ _ _ _ _ _ _ _ _ _ _ _ _ _ _ _ _ _ _ _ _ _ _ _ _ _ _ _ _ _ _ _ _ _ _ _ ?_
        intro x21 x22 x23 x24 x25 x26 x27 x28 x29 x30 x31 x32 x33 x34 x35 x36 x37 x38 x39 x40 x41 x42 x43 x44 x45 x46 wy v' hnx
        go_wp2
        go_roundw
        case rel => exact ⟨k + 1, us.set q v', by omega, by (try simp), hid (by rw [List.length_set]; exact hus.out), by rw [Hsucc.out]; exact hnx⟩
        case measure => simp [intOf]; omega
      · obtain rfl : k = rules.length := by omega
        go_wp2
        go_ret
        have hrd := Hrest.out
        refine Fin HQ ⟨b, rfl, ⟨_, _, _, _, _, hws.blk, hrd.1.ext llR_mono hws.old, ⟨AR, cR, rfl, hcR, hbR, hrR1.ext ruleR_mono hws.old⟩, hrd.2.1.ext llR_mono hws.old, hrd.2.2.ext (scR_mono _) hws.old, ?_⟩, ext_trans Hbel.out hws.old⟩
        have := hws.rows.reads (by rw [rulesRows_length]; omega) (fun q hq => by rw [rulesRows_at _ _ _ (by rw [rulesRows_length] at hq; omega)]; exact Nat.le_trans (rulesUpto_length _ _ _) (by omega)) foes.length (by rw [rulesRows_length]; omega)
        rw [rulesRows_length] at this
        exact this

theorem factsB_at {n : Nat} {l : List Int} {q : Int} (h0 : 0 ≤ q) (hq : q < (n : Int)) : (factsB n l).getD q.toNat false = memB l q := by
  have h : q.toNat < (factsB n l).length := by rw [factsB_length]; omega
  rw [List.getD_eq_getElem?_getD, List.getElem?_eq_getElem h, Option.getD_some]
  simp only [factsB, List.getElem_map, List.getElem_range]
  rw [show ((q.toNat : Nat) : Int) = q by omega]
theorem drew_quiet {P : Program} {f : FuncId} {args : Array Value} {w : World} {B : Bool} (h : Calls P f args w (Dr w B)) : Calls P f args w (Ret fun v w' => v = .bool B ∧ ∃ m, w' = w.drewN m) :=
  h.mono fun e w' ⟨he, hw⟩ => ⟨_, he, rfl, hw⟩

set_option maxHeartbeats 1600000 in
theorem wholds15_any (w : World) (b : Nat) (T : Th) (l : List Int) (RL : List (List Int)) (M : List Nat) (vm : Value) (h : NR w b T l RL) (hm : RdMk w vm M) (hv : NVal T (factsB T.foes.length l) RL M) (q : Int) (h0 : 0 ≤ q) (hq : q < T.foes.length) (tag : Int) (k : Nat) (hk : k < 4) (ht : tag = (k : Int) + 1) :
    Calls Try.prog 63 #[.pointer (some ⟨b, 0, none⟩), vm, .int .i64 tag, .int .i64 q] w (Dr w (cnd T (factsB T.foes.length l) RL M k q)) := by
  have H0 := hid (plusD15_any w b T _ l RL M vm h hm hv q h0 hq)
  have H1 := hid (minusD15_any w b T _ l RL M vm h hm hv q h0 hq)
  have H2 := hid (plusd15_any w b T _ l RL M vm h hm hv q h0 hq)
  have H3 := hid (minusd15_any w b T _ l RL M vm h hm hv q h0 hq)
  rw [← factsB_at h0 hq] at H0 H1
  clear h hm hv
  refine dr_of ?_
  refine post_gen fun Q HQ => ?_
  rcases (show k = 0 ∨ k = 1 ∨ k = 2 ∨ k = 3 by omega) with rfl | rfl | rfl | rfl
  · subst ht
    simp only [cnd, plusDB] at HQ
    go_enter Try.func63, Try.ntmps63
    go_wp2_with (go_at_call 94; refine H0.out.mono ?_; rintro e w' ⟨rfl, m, rfl⟩)
    go_ret
    exact Fin HQ ⟨rfl, _, rfl⟩
  · subst ht
    simp only [cnd, minusDB] at HQ
    go_enter Try.func63, Try.ntmps63
    go_wp2_with (go_at_call 95; refine H1.out.mono ?_; rintro e w' ⟨rfl, m, rfl⟩)
    go_ret
    exact Fin HQ ⟨rfl, _, rfl⟩
  · subst ht
    simp only [cnd] at HQ
    go_enter Try.func63, Try.ntmps63
    go_wp2_with (go_at_call 96; refine H2.out.mono ?_; rintro e w' ⟨rfl, m, rfl⟩)
    go_ret
    exact Fin HQ ⟨rfl, _, rfl⟩
  · subst ht
    simp only [cnd] at HQ
    go_enter Try.func63, Try.ntmps63
    go_wp2_with (go_at_call 97; refine H3.out.mono ?_; rintro e w' ⟨rfl, m, rfl⟩)
    go_ret
    exact Fin HQ ⟨rfl, _, rfl⟩

set_option maxHeartbeats 800000 in
theorem given15_any (w : World) (V vl : Value) (T : Th) (l : List Int) (hT : RdTh w V T) (hl : RdI w vl l) :
    Calls Try.prog 61 #[V, vl] w (Ret fun v w' => v = .int .i64 (givenErr T l) ∧ Below w.heap.size w w') := by
  have HT := hid hT
  obtain ⟨vF, vR, vB, rfl, hF, hR, hB⟩ := hT
  have Hgiv : Hid (∀ c, checkErr T = c → givenErr T l = if c = 0 then factsErr T l else c) := fun c hc => by rw [givenErr, hc]
  obtain ⟨c, Hc⟩ : ∃ c, Hid (checkErr T = c) := ⟨_, hid rfl⟩
  have hbel := ext_alloc w (.cells #[.int .i64 T.lits, vF, vR, vB] 25)
  have hch := check12_any (w.alloc (.cells #[.int .i64 T.lits, vF, vR, vB] 25)) _ T (HT.out.ext hbel)
  rw [Hc.out] at hch
  have Hch := hid hch
  clear hch hF hR hB
  refine post_gen fun Q HQ => ?_
  rw [Hgiv.out c Hc.out] at HQ
  go_enter Try.func61, Try.ntmps61
  go_wp2_with fail
  refine Hch.out.mono ?_
  rintro e w2 ⟨_, rfl, ⟨i, rfl⟩, hb2'⟩
  obtain ⟨b0, b1, b2, b3⟩ := box4 hb2'
  have hb2 := ext_trans hbel hb2'
  clear hb2'
  by_cases h : c = 0
  · rw [if_pos h] at HQ
    subst h
    have Hf := hid (facts12_any w2 _ vl T l (HT.out.ext hb2) (hl.ext (scR_mono _) hb2))
    unfold factsErr at HQ
    cases h : risB l T.lits with
    | true =>
      rw [h] at HQ Hf
      clear h
      go_wp2_with fail
      refine Hf.out.mono ?_
      rintro e w3 ⟨_, rfl, rfl, hb3⟩
      go_wp2_with fail
      go_ret
      exact Fin HQ ⟨rfl, ext_trans hb2 hb3⟩
    | false =>
      rw [h] at HQ Hf
      clear h
      go_wp2_with fail
      refine Hf.out.mono ?_
      rintro e w3 ⟨_, rfl, rfl, hb3⟩
      go_wp2_with fail
      go_ret
      exact Fin HQ ⟨rfl, ext_trans hb2 hb3⟩
  · rw [if_neg h] at HQ
    have hne : (c != 0) = true := by simp [h]
    go_wp2_with fail
    go_ret
    exact Fin HQ ⟨rfl, hb2⟩
end Go.Proofs.Lx

namespace Go.Proofs.Lx
open Go Go.RowKit
set_option linter.unusedSimpArgs false
set_option linter.unusedVariables false

/-- The list while place q is under way: those below are done, q stands at x. -/
def outL (C : Nat → Int → Bool) (M : List Nat) (q : Nat) : List Nat := (List.range M.length).map fun i => if i < q then orM (fun k => C k (i : Int)) (M.getD i 0) 4 else 0
theorem outL_length (C : Nat → Int → Bool) (M : List Nat) (q : Nat) : (outL C M q).length = M.length := by simp [outL]
theorem outL_zero (C : Nat → Int → Bool) (M : List Nat) : outL C M 0 = List.replicate M.length 0 := by
  apply List.ext_getElem <;> simp [outL]
theorem outL_succ (C : Nat → Int → Bool) (M : List Nat) (q : Nat) : outL C M (q + 1) = (outL C M q).set q (orM (fun k => C k (q : Int)) (M.getD q 0) 4) := by
  apply List.ext_getElem
  · simp [outL]
  · intro i h1 h2
    rw [List.getElem_set]
    simp only [outL, List.getElem_map, List.getElem_range]
    by_cases e : q = i
    · subst e; rw [if_pos (by omega), if_pos rfl]
    · rw [if_neg e]
      by_cases e2 : i < q
      · rw [if_pos e2, if_pos (by omega)]
      · rw [if_neg e2, if_neg (by omega)]
theorem outL_all (C : Nat → Int → Bool) (M : List Nat) : outL C M M.length = rnd C M 4 0 := by
  apply List.ext_getElem
  · simp [outL, rnd]
  · intro i h1 h2
    rw [outL_length] at h1
    simp [outL, rnd, h1]
theorem orM_skip {C : Nat → Bool} {x j : Nat} (h : (orM C x j).testBit j = true ∨ C j = false) : orM C x (j + 1) = orM C x j := by
  rw [orM]
  split
  · rename_i hc
    rcases h with h | h
    · apply Nat.eq_of_testBit_eq
      intro i
      rw [Nat.testBit_or, Nat.testBit_two_pow]
      by_cases e : j = i
      · subst e; simp [h]
      · simp [e]
    · rw [hc] at h; cases h
  · rfl
theorem orM_hit {C : Nat → Bool} {x j : Nat} (h : C j = true) : orM C x (j + 1) = orM C x j ||| 2 ^ j := by rw [orM, if_pos h]
theorem arr_own {w : World} {base g : Nat} {X : List Nat} (h : Arr (fun x : Nat => Value.int .u8 (x : Int)) 33 w g X) (hb : base ≤ g) (hl : X.length ≤ maxLen) : w.ownsRow base 33 1 (.slice (some ⟨g, 0, none⟩) X.length X.length) X.length (marksV X) :=
  ⟨by simp [marksV], .inr ⟨g, X.length, _, rfl, hb, h, Nat.le_refl _, hl, by simp, by simp only [marksV, Nat.mul_one]; exact List.take_of_length_le (by simp)⟩⟩

set_option maxRecDepth 100000 in
set_option maxHeartbeats 6400000 in
theorem wround15_any (w : World) (b : Nat) (T : Th) (l : List Int) (RL : List (List Int)) (M : List Nat) (vm : Value) (h : NR w b T l RL) (hm : RdMk w vm M) (hv : NVal T (factsB T.foes.length l) RL M) (h4 : M.length ≤ 4096) :
    Calls Try.prog 66 #[.pointer (some ⟨b, 0, none⟩), vm] w (Ret fun v w' => w'.ownsRow w.heap.size 33 1 v M.length (marksV (roundM T (factsB T.foes.length l) RL M)) ∧ Below w.heap.size w w') := by
  have H := hid h
  have Hm := hid hm
  have Hv := hid hv
  obtain ⟨AM, cM, rfl, hcM, hbM, hrM⟩ := id hm
  have hmk := mkM M.length (by omega) (by omega)
  rw [Int.toNat_natCast] at hmk
  have Hst : Hid (Arr (fun x : Nat => Value.int .u8 (x : Int)) 33 (w.alloc (.cells (madeCells #[.int .u8 0] M.length) 33)) w.heap.size (outL (cnd T (factsB T.foes.length l) RL M) M 0)) := hid (by
    rw [outL_zero]; exact made_arr (fun x : Nat => Value.int .u8 (x : Int)) 0 33 w M.length)
  have Hst2 := hid (ext_alloc w (.cells (madeCells #[.int .u8 0] M.length) 33))
  have Hres : Hid (roundM T (factsB T.foes.length l) RL M = outL (cnd T (factsB T.foes.length l) RL M) M M.length) := hid (outL_all _ _).symm
  rw [Hres.out]
  clear h hm hv Hres
  generalize hC : cnd T (factsB T.foes.length l) RL M = C at *
  have HC := hid hC
  clear hC
  generalize hn : M.length = n at *
  have Hn := hid hn
  clear hn
  refine post_gen fun Q HQ => ?_
  go_enter Try.func66, Try.ntmps66
  go_wp2
  go_loopw [6] (fun v6 wr => ∃ q : Nat, q ≤ n ∧ v6 = .int .i64 q ∧ Arr (fun x : Nat => Value.int .u8 (x : Int)) 33 wr w.heap.size (outL C M q) ∧ Below w.heap.size w wr) (fun v6 _ => n - (intOf v6).toNat)
  case atStart => exact ⟨0, Nat.zero_le _, rfl, Hst.out, Hst2.out⟩
  case round =>
    clear Hst Hst2
    obtain ⟨q, hq, rfl, harr, hbl⟩ := hrel
    by_cases hlt : q < n
    · have hqm : q < M.length := by rw [Hn.out]; exact hlt
      obtain ⟨adM, rfl, pm⟩ := (hrM.ext (scR_mono _) hbl).at1 hqm
      have Hx8 : Hid (M[q] < 256) := hid (Hv.out.m8 _ (List.getElem_mem hqm))
      have Hgd : Hid (M.getD q 0 = M[q]) := hid (by simp [hqm])
      have hfr := harr.free q
      have hc0 := harr.cell (i := q) (by rw [outL_length]; exact hqm)
      obtain ⟨x, Hx⟩ : ∃ x, Hid (M[q] = x) := ⟨_, hid rfl⟩
      rw [Hx.out] at pm Hx8 Hgd
      have harr1 := harr.set q x
      have hbl1 : Below w.heap.size w (wr.setCell ⟨w.heap.size, q, none⟩ (.int .u8 (x : Int))) := hbl.setCell (Nat.le_refl _) _
      have Ha0 : Hid (Arr (fun x : Nat => Value.int .u8 (x : Int)) 33 (wr.setCell ⟨w.heap.size, q, none⟩ (.int .u8 (x : Int))) w.heap.size ((outL C M q).set q (orM (fun k => C k (q : Int)) x 0)) ∧ Below w.heap.size w (wr.setCell ⟨w.heap.size, q, none⟩ (.int .u8 (x : Int)))) := hid ⟨harr1, hbl1⟩
      have Hol : Hid (q < (outL C M q).length) := hid (by rw [outL_length]; exact hqm)
      clear harr1 hbl1
      go_wp2
      obtain ⟨wo, rfl⟩ : ∃ wo : World, wo = wr := ⟨_, rfl⟩
      clear harr hbl pm hfr hc0
      go_loopw [7] (fun v7 wr => ∃ j : Nat, j ≤ 4 ∧ v7 = .int .i64 ((j + 1 : Nat) : Int) ∧ Arr (fun x : Nat => Value.int .u8 (x : Int)) 33 wr w.heap.size ((outL C M q).set q (orM (fun k => C k (q : Int)) x j)) ∧ Below w.heap.size w wr) (fun v7 _ => 5 - (intOf v7).toNat)
      case atStart => exact ⟨0, by omega, rfl, Ha0.out.1, Ha0.out.2⟩
      case round =>
        clear Ha0
        obtain ⟨j, hj, rfl, harr, hbl⟩ := hrel
        by_cases hj4 : j < 4
        · have hcell := harr.cell (i := q) (by rw [List.length_set]; exact Hol.out)
          rw [List.getElem_set_self] at hcell
          have Hset : Hid (∀ y, ((outL C M q).set q (orM (fun k => C k (q : Int)) x j)).set q y = (outL C M q).set q y) := hid fun y => by rw [List.set_set]
          have hfr := harr.free q
          have hy8 : orM (fun k => C k (q : Int)) x j < 256 := orM_lt Hx8.out j (by omega)
          have Hskip := hid (@orM_skip (fun k => C k (q : Int)) x j)
          have Hhit := hid (@orM_hit (fun k => C k (q : Int)) x j)
          have Harr := hid harr
          generalize orM (fun k => C k (q : Int)) x j = y at *
          have Hmm := hid (bit_mask y hy8 j hj4)
          have hmz : (bits .and .u8 (y : Int) ((2 ^ j : Nat) : Int) == 0) = !y.testBit j := by
            have := Hmm.out; rw [← this, bne]; simp
          have hor := bit_or y hy8 j hj4
          have Hbit := hid (fun w => bit15_plain ((j + 1 : Nat) : Int) j hj4 (by omega) w)
          have Hcall : Hid (∀ m, Calls Try.prog 63 #[.pointer (some ⟨b, 0, none⟩), .slice (some adM) n cM, .int .i64 ((j + 1 : Nat) : Int), .int .i64 (q : Int)] (wr.drewN m) (fun e w' => e = .returned (.bool (C j (q : Int))) ∧ ∃ k, w' = (wr.drewN m).drewN k)) := hid fun m => by
            have hb9 := ext_trans hbl (ext_drewN wr m)
            have := wholds15_any (wr.drewN m) b T l RL M _ (H.out.ext hb9) (Hm.out.ext (scR_mono _) hb9) Hv.out (q : Int) (by omega) (by have := Hv.out.nM; omega) ((j + 1 : Nat) : Int) j hj4 (by omega)
            rw [HC.out] at this
            exact this
          clear harr
          generalize hp : 2 ^ j = z at *
          have Hp := hid hp
          clear hp
          cases hs : y.testBit j with
          | true =>
            have hb1 : (bits .and .u8 (y : Int) (z : Int) == 0) = false := by rw [hmz, hs]; rfl
            have Hs := hid (Hskip.out (.inl hs))
            clear hs hmz hor
            go_wp2
            go_quiet ((go_at_call 74; exact Calls.quiet_of_same (Hbit.out _)))
            go_wp2
            go_roundw
            case rel => exact ⟨j + 1, by omega, by go_num, by rw [Hs.out]; exact Arr.drewN Harr.out _, below_drewN hbl _⟩
            case measure => simp [intOf]; omega
          | false =>
            have hb1 : (bits .and .u8 (y : Int) (z : Int) == 0) = true := by rw [hmz, hs]; rfl
            clear hs hmz
            cases hc : C j (q : Int) with
            | false =>
              have Hs := hid (Hskip.out (.inr hc))
              rw [hc] at Hcall
              clear hc hor
              go_wp2
              go_quiet ((first | (go_at_call 74; exact Calls.quiet_of_same (Hbit.out _)) | (go_at_call 63; exact Calls.quiet_of (Hcall.out _))))
              go_wp2
              go_roundw
              case rel => exact ⟨j + 1, by omega, by go_num, by rw [Hs.out]; exact Arr.drewN Harr.out _, below_drewN hbl _⟩
              case measure => simp [intOf]; omega
            | true =>
              have Hs := hid (Hhit.out hc)
              rw [hc] at Hcall
              clear hc
              rw [show ((y ||| z : Nat) : Int) = ((y ||| z : Nat) : Int) from rfl] at hor
              go_wp2
              go_quiet ((first | (go_at_call 74; exact Calls.quiet_of_same (Hbit.out _)) | (go_at_call 63; exact Calls.quiet_of (Hcall.out _))))
              go_wp2
              go_region_with (go_at_call 74; refine (Hbit.out _).mono ?_; rintro e w' ⟨rfl, rfl⟩)
              all_goals
                go_wp2_with fail
                go_roundw
                case rel =>
                  refine ⟨j + 1, by omega, by go_num, ?_, ?_⟩
                  · rw [Hs.out, ← Hset.out]
                    exact (Arr.drewN Harr.out _).set q _
                  · exact (below_drewN hbl _).setCell (Nat.le_refl _) _
                case measure => simp [intOf]; omega
        · obtain rfl : j = 4 := by omega
          have Hsucc := hid (outL_succ C M q)
          rw [Hgd.out] at Hsucc
          go_wp2
          go_roundw
          case rel => exact ⟨q + 1, by omega, by go_num, by rw [Hsucc.out]; exact harr, hbl⟩
          case measure => simp [intOf]; omega
    · obtain rfl : q = n := by omega
      have Hl : Hid ((outL C M q).length = q) := hid (by rw [outL_length]; exact Hn.out)
      go_wp2
      go_ret
      refine Fin HQ ⟨?_, hbl⟩
      have := arr_own harr (Nat.le_refl _) (by rw [Hl.out]; unfold maxLen; omega)
      rw [Hl.out] at this
      exact this
end Go.Proofs.Lx

namespace Go.Proofs.Lx
open Go Go.RowKit Go.Proofs.Tj
set_option linter.unusedSimpArgs false
set_option linter.unusedVariables false

def exA : Th := ⟨3, [[1], [0], []], [⟨2, 0, [2]⟩, ⟨2, 1, []⟩], [[1], []]⟩
def exB : Th := ⟨3, [[1], [0], []], [⟨2, 0, [2]⟩, ⟨2, 1, []⟩], [[], []]⟩
theorem exA_edge {y z : Nat} (h : z ∈ adjN (beatsAt exA) y) : y = 0 ∧ z = 1 := by
  match y with
  | 0 => simpa [adjN, beatsAt, exA] using h
  | 1 => simp [adjN, beatsAt, exA] at h
  | y + 2 => simp [adjN, beatsAt, exA] at h
theorem exB_edge {y z : Nat} (h : z ∈ adjN (beatsAt exB) y) : False := by
  match y with
  | 0 => simp [adjN, beatsAt, exB] at h
  | 1 => simp [adjN, beatsAt, exB] at h
  | y + 2 => simp [adjN, beatsAt, exB] at h
theorem exA_leads {x y : Nat} (h : Leads (adjN (beatsAt exA)) x y) : x = y ∨ x = 0 ∧ y = 1 := by
  induction h with
  | refl => exact .inl rfl
  | step _ hz ih =>
    obtain ⟨rfl, rfl⟩ := exA_edge hz
    omega
theorem exB_leads {x y : Nat} (h : Leads (adjN (beatsAt exB)) x y) : x = y := by
  induction h with
  | refl => rfl
  | step _ hz ih => exact (exB_edge hz).elim
theorem exA_wf : WfTh exA := by
  refine ⟨by decide, by decide, by decide, by decide +kernel, by decide, ?_, by decide +kernel, by decide, by decide +kernel, fun x y _ _ h1 h2 => ?_⟩
  · exact List.all_eq_true.1 (by decide +kernel)
  · have := exA_leads h1; have := exA_leads h2; omega
theorem exB_wf : WfTh exB := by
  refine ⟨by decide, by decide, by decide, by decide +kernel, by decide, ?_, by decide +kernel, by decide, by decide +kernel, fun x y _ _ h1 h2 => exB_leads h1⟩
  exact List.all_eq_true.1 (by decide +kernel)
theorem exA_solve : solveM exA [2] = [6, 10, 5] := by
  rw [← solve_eq (k := 4) (by decide +kernel) (by decide)]
  decide +kernel
theorem exB_solve : solveM exB [2] = [10, 10, 5] := by
  rw [← solve_eq (k := 4) (by decide +kernel) (by decide)]
  decide +kernel
end Go.Proofs.Lx

namespace Go.Proofs.Lx
open Go Go.RowKit
set_option linter.unusedSimpArgs false
set_option linter.unusedVariables false

theorem num_any (x : Int) (w : World) : Calls Try.prog 21 #[.int .i64 x] w (Ret fun v w' => v = .int .i64 x ∧ w' = w) := by
  refine post_gen fun Q HQ => ?_
  go_enter Try.func21, Try.ntmps21
  go_wp2
  go_ret
  exact Fin HQ ⟨rfl, rfl⟩

/-- The example's blocks. -/
def exBlocks (h : Nat) : List Obj :=
  [.cells #[.int .i64 1] 3, .cells #[.int .i64 0] 3,
   .cells #[.slice (some ⟨h, 0, none⟩) 1 1, .slice (some ⟨h + 1, 0, none⟩) 1 1, .slice none 0 0] 26,
   .cells #[.int .i64 2] 3,
   .cells #[.int .i64 2, .int .i64 0, .slice (some ⟨h + 1 + 1 + 1, 0, none⟩) 1 1, .int .i64 2, .int .i64 1, .slice none 0 0] 37,
   .cells #[.int .i64 1] 3,
   .cells #[.slice (some ⟨h + 1 + 1 + 1 + 1 + 1, 0, none⟩) 1 1, .slice none 0 0] 26,
   .cells #[.int .i64 3, .slice (some ⟨h + 1 + 1, 0, none⟩) 3 3, .slice (some ⟨h + 1 + 1 + 1 + 1, 0, none⟩) 2 2, .slice (some ⟨h + 1 + 1 + 1 + 1 + 1 + 1, 0, none⟩) 2 2] 25,
   .cells #[.int .i64 2] 3]
def exW (w : World) : World := (exBlocks w.heap.size).foldl World.alloc w
theorem ex_rd (W : World) (h : Nat) (vB : Value) (X : List (List Int)) (hh : ∀ i o, i < 5 → (exBlocks h)[i]? = some o → W.heap[h + i]? = some o) (hB : RdLL W vB X) :
    RdTh W (.agg #[.int .i64 3, .slice (some ⟨h + 1 + 1, 0, none⟩) 3 3, .slice (some ⟨h + 1 + 1 + 1 + 1, 0, none⟩) 2 2, vB]) ⟨3, [[1], [0], []], [⟨2, 0, [2]⟩, ⟨2, 1, []⟩], X⟩ := by
  have h0 := hh 0 _ (by omega) rfl
  have h1 := hh 1 _ (by omega) rfl
  have h2 := hh 2 _ (by omega) rfl
  have h3 := hh 3 _ (by omega) rfl
  have h4 := hh 4 _ (by omega) rfl
  refine ⟨_, _, _, rfl, ?_, ?_, hB⟩
  · refine rd_lit1 h2 rfl (by simp) fun i hi => ?_
    match i, hi with
    | 0, _ => exact ⟨_, rfl, _, rfl, rd_int1 h0⟩
    | 1, _ => exact ⟨_, rfl, _, rfl, rd_int1 h1⟩
    | 2, _ => exact ⟨_, rfl, _, rfl, Rd.nil⟩
  · refine rd_lit3 h4 rfl (by simp) fun i hi => ?_
    match i, hi with
    | 0, _ => exact ⟨_, _, _, rfl, rfl, rfl, _, rfl, rd_int1 h3⟩
    | 1, _ => exact ⟨_, _, _, rfl, rfl, rfl, _, rfl, Rd.nil⟩
theorem exA_rd (w : World) : RdTh (exW w) (.agg #[.int .i64 3, .slice (some ⟨w.heap.size + 1 + 1, 0, none⟩) 3 3, .slice (some ⟨w.heap.size + 1 + 1 + 1 + 1, 0, none⟩) 2 2, .slice (some ⟨w.heap.size + 1 + 1 + 1 + 1 + 1 + 1, 0, none⟩) 2 2]) exA := by
  obtain ⟨_, ha, _⟩ := allocs (exBlocks w.heap.size) w
  refine ex_rd (exW w) w.heap.size _ _ (fun i o _ h => ha i o h) ?_
  refine rd_lit1 (ha 6 _ rfl) rfl (by simp) fun i hi => ?_
  match i, hi with
  | 0, _ => exact ⟨_, rfl, _, rfl, rd_int1 (ha 5 _ rfl)⟩
  | 1, _ => exact ⟨_, rfl, _, rfl, Rd.nil⟩
theorem exA_facts (w : World) : RdI (exW w) (.slice (some ⟨w.heap.size + 1 + 1 + 1 + 1 + 1 + 1 + 1 + 1, 0, none⟩) 1 1) [2] := rd_int1 ((allocs (exBlocks w.heap.size) w).2.1 8 _ rfl)
/-- Behind the first call the theory's last field is written anew. -/
def exW2 (w w2 : World) : World :=
  (((w2.alloc (.cells #[.slice none 0 0, .slice none 0 0] 26)).setCell ⟨w.heap.size + 1 + 1 + 1 + 1 + 1 + 1 + 1, 3, none⟩ (.slice (some ⟨w2.heap.size, 0, none⟩) 2 2)).alloc (.cells #[.int .i64 2] 3))
theorem exW2_heap (w w2 : World) (hb : Below (exW w).heap.size (exW w) w2) : (∀ k, k < w2.heap.size → k ≠ w.heap.size + 7 → (exW2 w w2).heap[k]? = w2.heap[k]?) ∧ (exW2 w w2).heap[w2.heap.size]? = some (.cells #[.slice none 0 0, .slice none 0 0] 26 (0, 0)) ∧ (exW2 w w2).heap[w2.heap.size + 1]? = some (.cells #[.int .i64 2] 3 (0, 0)) ∧ (exW2 w w2).heap.size = w2.heap.size + 2 := by
  obtain ⟨hs, _, _⟩ := allocs (exBlocks w.heap.size) w
  have hs2 : (exW w).heap.size = w.heap.size + 9 := hs
  have hle := hb.size
  unfold exW2
  refine ⟨fun k hk hne => ?_, ?_, ?_, ?_⟩
  · rw [heap_alloc_old _ _ (by simp; omega), heap_setCell_other _ _ k _ (by simpa using hne), heap_alloc_old _ _ hk]
  · rw [heap_alloc_old _ _ (by simp), heap_setCell_other _ _ _ _ (by dsimp only; omega), heap_alloc_new]
  · have : w2.heap.size + 1 = ((w2.alloc (.cells #[.slice none 0 0, .slice none 0 0] 26)).setCell ⟨w.heap.size + 1 + 1 + 1 + 1 + 1 + 1 + 1, 3, none⟩ (.slice (some ⟨w2.heap.size, 0, none⟩) 2 2)).heap.size := by simp
    rw [this, heap_alloc_new]
  · simp
theorem exB_rd (w w2 : World) (hb : Below (exW w).heap.size (exW w) w2) : RdTh (exW2 w w2) (.agg #[.int .i64 3, .slice (some ⟨w.heap.size + 1 + 1, 0, none⟩) 3 3, .slice (some ⟨w.heap.size + 1 + 1 + 1 + 1, 0, none⟩) 2 2, .slice (some ⟨w2.heap.size, 0, none⟩) 2 2]) exB := by
  obtain ⟨hs, ha, _⟩ := allocs (exBlocks w.heap.size) w
  have hs2 : (exW w).heap.size = w.heap.size + 9 := hs
  have hle := hb.size
  obtain ⟨h1, h2, _, _⟩ := exW2_heap w w2 hb
  refine ex_rd (exW2 w w2) w.heap.size _ _ (fun i o hi h => ?_) ?_
  · rw [h1 _ (by omega) (by omega), hb.block _ (by omega)]
    exact ha i o h
  · refine rd_lit1 h2 rfl (by simp) fun i hi => ?_
    match i, hi with
    | 0, _ => exact ⟨_, rfl, _, rfl, Rd.nil⟩
    | 1, _ => exact ⟨_, rfl, _, rfl, Rd.nil⟩
theorem exB_facts (w w2 : World) (hb : Below (exW w).heap.size (exW w) w2) : RdI (exW2 w w2) (.slice (some ⟨w2.heap.size + 1, 0, none⟩) 1 1) [2] := rd_int1 (exW2_heap w w2 hb).2.2.1

set_option maxHeartbeats 1600000 in
theorem alive_any (w : World) : Calls Try.prog 19 #[] w (Ret fun v w' => v = .bool true ∧ Below w.heap.size w w') := by
  have hsA := hid (allocs (exBlocks w.heap.size) w)
  have HcA := hid (solve_any (exW w) _ _ exA [2] (exA_rd w) (exA_facts w))
  have HcB := hid (fun w2 hb => solve_any (exW2 w w2) _ _ exB [2] (exB_rd w w2 hb) (exB_facts w w2 hb))
  have HeA := hid (givenErr_ok.2 ⟨exA_wf, (by decide : risB [2] exA.lits = true)⟩)
  have HeB := hid (givenErr_ok.2 ⟨exB_wf, (by decide : risB [2] exB.lits = true)⟩)
  refine post_gen fun Q HQ => ?_
  go_enter Try.func19, Try.ntmps19
  go_wp2_with fail
  refine HcA.out.mono ?_
  rintro e w2 ⟨_, rfl, v, rfl, h1, _, hb2⟩
  have o1 := h1 HeA.out
  rw [HeA.out]
  clear h1
  rw [exA_solve] at o1
  obtain ⟨g, cap, rfl, hg, hg2, hc⟩ := own_all o1 (by decide)
  have c0 := hc 0 _ rfl; have c1 := hc 1 _ rfl; have c2 := hc 2 _ rfl
  clear hc o1
  have hbox : w2.heap[w.heap.size + 1 + 1 + 1 + 1 + 1 + 1 + 1]? = some (.cells #[.int .i64 3, .slice (some ⟨w.heap.size + 1 + 1, 0, none⟩) 3 3, .slice (some ⟨w.heap.size + 1 + 1 + 1 + 1, 0, none⟩) 2 2, .slice (some ⟨w.heap.size + 1 + 1 + 1 + 1 + 1 + 1, 0, none⟩) 2 2] 25 (0, 0)) := by
    rw [hb2.block _ (by have := hsA.out.1; show _ < ((exBlocks w.heap.size).foldl World.alloc w).heap.size; rw [this]; show _ < w.heap.size + 9; omega)]
    exact hsA.out.2.1 7 _ rfl
  have hs2 : w.heap.size + 9 ≤ w2.heap.size := by have h1 := hsA.out.1; have h2 := hb2.size; rw [show (exW w).heap.size = w.heap.size + 9 from h1] at h2; exact h2
  have hs3 : w.heap.size + 9 ≤ g := by have h1 := hsA.out.1; rw [show (exW w).heap.size = w.heap.size + 9 from h1] at hg; exact hg
  have hbo : ∀ o : Obj, (w2.alloc o).heap[w.heap.size + 1 + 1 + 1 + 1 + 1 + 1 + 1]? = _ := fun o => (heap_alloc_old w2 o (by omega)).trans hbox
  have s3 : ∀ o : Obj, (w2.alloc o).cell? ⟨w.heap.size + 1 + 1 + 1 + 1 + 1 + 1 + 1, 3, none⟩ = some (.slice (some ⟨w.heap.size + 1 + 1 + 1 + 1 + 1 + 1, 0, none⟩) 2 2) := fun o => cell_of_row _ _ 3 _ _ _ (hbo o)
  have sf : ∀ o : Obj, (w2.alloc o).frozen? ⟨w.heap.size + 1 + 1 + 1 + 1 + 1 + 1 + 1, 3, none⟩ = false := fun o => frozen_of_row _ _ 3 _ _ (hbo o)
  have hbs : ∀ (o : Obj) (u : Value), ((w2.alloc o).setCell ⟨w.heap.size + 1 + 1 + 1 + 1 + 1 + 1 + 1, 3, none⟩ u).heap[w.heap.size + 1 + 1 + 1 + 1 + 1 + 1 + 1]? = some (.cells #[.int .i64 3, .slice (some ⟨w.heap.size + 1 + 1, 0, none⟩) 3 3, .slice (some ⟨w.heap.size + 1 + 1 + 1 + 1, 0, none⟩) 2 2, u] 25 (0, 0)) := fun o u => by
    rw [heap_setCell_same _ _ 3 _ _ _ (hbo o)]; rfl
  have t0 : ∀ (o : Obj) (u : Value), ((w2.alloc o).setCell ⟨w.heap.size + 1 + 1 + 1 + 1 + 1 + 1 + 1, 3, none⟩ u).cell? ⟨w.heap.size + 1 + 1 + 1 + 1 + 1 + 1 + 1, 0, none⟩ = some (.int .i64 3) := fun o u => cell_of_row _ _ 0 _ _ _ (hbs o u)
  have t1 : ∀ (o : Obj) (u : Value), ((w2.alloc o).setCell ⟨w.heap.size + 1 + 1 + 1 + 1 + 1 + 1 + 1, 3, none⟩ u).cell? ⟨w.heap.size + 1 + 1 + 1 + 1 + 1 + 1 + 1, 1, none⟩ = some (.slice (some ⟨w.heap.size + 1 + 1, 0, none⟩) 3 3) := fun o u => cell_of_row _ _ 1 _ _ _ (hbs o u)
  have t2 : ∀ (o : Obj) (u : Value), ((w2.alloc o).setCell ⟨w.heap.size + 1 + 1 + 1 + 1 + 1 + 1 + 1, 3, none⟩ u).cell? ⟨w.heap.size + 1 + 1 + 1 + 1 + 1 + 1 + 1, 2, none⟩ = some (.slice (some ⟨w.heap.size + 1 + 1 + 1 + 1, 0, none⟩) 2 2) := fun o u => cell_of_row _ _ 2 _ _ _ (hbs o u)
  have t3 : ∀ (o : Obj) (u : Value), ((w2.alloc o).setCell ⟨w.heap.size + 1 + 1 + 1 + 1 + 1 + 1 + 1, 3, none⟩ u).cell? ⟨w.heap.size + 1 + 1 + 1 + 1 + 1 + 1 + 1, 3, none⟩ = some u := fun o u => cell_of_row _ _ 3 _ _ _ (hbs o u)
  clear hbo hbs
  have Hb2 := hid hb2
  have Hg := hid (And.intro hg hg2)
  clear hbox hg hg2 hb2
  have hcb := HcB.out w2 Hb2.out
  rw [HeB.out] at hcb
  have HcB2 := hid hcb
  clear hcb HcB
  go_wp2_with fail
  refine HcB2.out.mono ?_
  rintro e w3 ⟨_, rfl, v, rfl, h1, _, hb3⟩
  have o1 := h1 trivial
  clear h1 s3 sf t0 t1 t2 t3 HcB2
  rw [exB_solve] at o1
  obtain ⟨gn, capn, rfl, hgn, hgn2, hc⟩ := own_all o1 (by decide)
  have n0 := hc 0 _ rfl; have n1 := hc 1 _ rfl; have n2 := hc 2 _ rfl
  obtain ⟨hk, _, _, hz⟩ := exW2_heap w w2 Hb2.out
  have hm : ∀ i, w3.cell? ⟨g, i, none⟩ = w2.cell? ⟨g, i, none⟩ := fun i => by
    refine World.cell?_of_block ?_
    show w3.heap[g]? = w2.heap[g]?
    rw [hb3.block g (by rw [hz]; have := Hg.out.2; omega)]
    exact hk g Hg.out.2 (by have := Hg.out.1; omega)
  rw [← hm] at c0 c1 c2
  have hfin : Below w.heap.size w w3 := by
    have h1 : Below w.heap.size w w2 := ext_trans (allocs (exBlocks w.heap.size) w).2.2 Hb2.out
    have h2 : Below w.heap.size w (exW2 w w2) := ((h1.alloc (by omega) _).setCell (by show w.heap.size ≤ w.heap.size + 1 + 1 + 1 + 1 + 1 + 1 + 1; omega) _).alloc (by simp; omega) _
    exact ext_trans h2 hb3
  clear hk hz hm hc o1 hb3
  go_wp2
  go_ret
  exact Fin HQ ⟨rfl, hfin⟩
end Go.Proofs.Lx
