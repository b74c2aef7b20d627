/- Contract of naive.newWorld. -/
import Derived.Test.YtalhpldbhogadaaNr
namespace Go.Proofs.Lx
open Go Go.RowKit
set_option linter.unusedSimpArgs false
set_option linter.unusedVariables false

set_option maxRecDepth 100000 in
set_option maxHeartbeats 6400000 in
theorem newWorld_any (w : World) (V vl vm : Value) (T : Th) (l : List Int) (M : List Nat) (hT : RdTh w V T) (hwf : WfTh T) (hl : RdI w vl l) (hlr : risB l T.lits = true) (hm : RdMk w vm M) :
    Calls Try.prog 58 #[V, vl, vm] w (Ret fun r w' => ∃ b, r = .pointer (some ⟨b, 0, none⟩) ∧ w.heap.size ≤ b ∧ NWS w' b T (factsB T.foes.length l) (rulesRows T.rules T.foes.length T.rules.length) M ∧ Below w.heap.size w w') := by
  have Hwf := hid hwf
  obtain ⟨lits, foes, rules, beats⟩ := T
  obtain ⟨vF, vR, vB, rfl, hF, ⟨AR, cR, rfl, hcR, hbR, hrR⟩, hB⟩ := hT
  obtain ⟨AM, cM, hvm, hcM, hbM, hrM⟩ := id hm
  subst hvm
  have hbM' := hid (And.intro hcM hbM)
  clear hcM hbM hrM
  generalize hnM : M.length = nM at *
  have HnM := hid hnM
  clear hnM
  have hl0 := hwf.l0; have hl1 := hwf.l1; have hfl := hwf.fl; have hrl := hwf.rl
  dsimp only at *
  obtain rfl : lits = (foes.length : Int) := hfl.symm
  clear hwf hfl hl0
  have hbel := ext_alloc w (.cells #[.int .i64 foes.length, vF, .slice AR rules.length cR, vB] 25)
  obtain ⟨W1, HW1⟩ : ∃ W1, Hid (W1 = w.alloc (.cells #[.int .i64 foes.length, vF, .slice AR rules.length cR, vB] 25)) := ⟨_, hid rfl⟩
  rw [← HW1.out] at hbel
  have hl1' := hl.ext (scR_mono _) hbel
  obtain ⟨A, c, rfl, hc, hb, hr⟩ := hl1'
  have Hsp := hid (risB_spec hlr).1
  have hrR1 := hrR.ext ruleR_mono hbel
  have hmB := mkB foes.length (by omega) (by omega)
  have hmL := mkL foes.length (by omega) (by omega)
  rw [Int.toNat_natCast] at hmB hmL
  have Hrest := hid (And.intro (hF.ext llR_mono hbel) (And.intro (RdTh.ext ⟨vF, _, vB, rfl, hF, ⟨AR, cR, rfl, hcR, hbR, hrR⟩, hB⟩ hbel : RdTh W1 (.agg #[.int .i64 foes.length, vF, .slice AR rules.length cR, vB]) ⟨foes.length, foes, rules, beats⟩) (hm.ext (scR_mono _) hbel)))
  clear hl hlr hrR hF hB hm
  refine post_gen fun Q HQ => ?_
  go_enter Try.func58, Try.ntmps58
  go_wp2
  go_cut [7] (fun v7 wx => ∃ b gA gR base vs, v7 = .pointer (some ⟨b, 0, none⟩) ∧ Hid (vs.length = foes.length) ∧ WS W1 #[.int .i64 foes.length, vF, .slice AR rules.length cR, vB, .slice (some ⟨gA, 0, none⟩) foes.length foes.length, .slice (some ⟨gR, 0, none⟩) foes.length foes.length, .slice AM nM cM] b gA gR base (factsUpto foes.length 0 l) vs (rulesRows rules foes.length 0) wx)
  case first =>
    go_region
    all_goals
      go_wp2_with fail
      go_meet
      rw [HW1.out, factsUpto_zero, rulesRows_zero]
      first
        | exact ⟨_, _, _, _, _, rfl, hid (by simp), WS.startA _ _ _ _ (World.size_alloc _ _)⟩
        | exact ⟨_, _, _, _, _, rfl, hid (by simp), WS.startB _ _ _ _ (World.size_alloc _ _)⟩
  case rest =>
    obtain ⟨b, gA, gR, base, vs, rfl, hvs, hws⟩ := hcut
    go_wp2
    have B2 : W1.cell? ⟨w.heap.size, 2, none⟩ = some (.slice AR rules.length cR) := by rw [HW1.out]; exact box_cell (Below.refl _ _) 2
    go_loopw [24] (fun v24 wr => ∃ k : Nat, k ≤ l.length ∧ v24 = .int .i64 k ∧ WS W1 #[.int .i64 foes.length, vF, .slice AR rules.length cR, vB, .slice (some ⟨gA, 0, none⟩) foes.length foes.length, .slice (some ⟨gR, 0, none⟩) foes.length foes.length, .slice AM nM cM] b gA gR base (factsUpto foes.length k l) vs (rulesRows rules foes.length 0) wr) (fun v24 _ => l.length - (intOf v24).toNat)
    case atStart => exact ⟨0, Nat.zero_le _, rfl, hws⟩
    case round =>
      clear hws
      obtain ⟨k, hk, rfl, hws⟩ := hrel
      have e1 := hws.cell 4
      simp only [List.getElem?_toArray, List.getElem?_cons_zero, List.getElem?_cons_succ] at e1
      by_cases hkl : k < l.length
      · obtain ⟨ad, rfl, hcell⟩ := (hr.ext (scR_mono _) hws.old).at1 hkl
        obtain ⟨hx0, hxn⟩ := Hsp.out k hkl
        obtain ⟨q, hq⟩ := Int.eq_ofNat_of_zero_le hx0
        have hfr := hws.aA.free q
        have hcq := hws.aA.cell (i := q) (by rw [factsUpto, factsB_length]; omega)
        have hnx := hws.fact q
        have Hsucc := hid (factsUpto_succ foes.length k l hkl hx0)
        rw [hq] at hcell
        go_wp2
        go_roundw
        case rel => exact ⟨k + 1, by omega, by simp, by rw [Hsucc.out, hq]; exact hnx⟩
        case measure => simp [intOf]; omega
      · obtain rfl : k = l.length := by omega
        have c2 := cell_ext hws.old B2
        clear e1
        go_wp2
        go_loopw [38] (fun v38 wr => ∃ (k : Nat) (vs : List Value), k ≤ rules.length ∧ v38 = .int .i64 k ∧ Hid (vs.length = foes.length) ∧ WS W1 #[.int .i64 foes.length, vF, .slice AR rules.length cR, vB, .slice (some ⟨gA, 0, none⟩) foes.length foes.length, .slice (some ⟨gR, 0, none⟩) foes.length foes.length, .slice AM nM cM] b gA gR base (factsUpto foes.length l.length l) vs (rulesRows rules foes.length k) wr) (fun v38 _ => rules.length - (intOf v38).toNat)
        case atStart => exact ⟨0, vs, Nat.zero_le _, rfl, hvs, hws⟩
        case round =>
          clear hws c2 hvs
          obtain ⟨k, us, hk, rfl, hus, hws⟩ := hrel
          have c2 := cell_ext hws.old B2
          obtain ⟨wo, rfl⟩ : ∃ wo : World, wo = wr := ⟨_, rfl⟩
          by_cases hlt : k < rules.length
          · obtain ⟨ad, C, cC, rfl, p0, p1, p2, q0, q1, q2⟩ := (hrR1.ext ruleR_mono hws.old).atRule hlt
            obtain ⟨hh0, hhn⟩ : 0 ≤ rules[k].head ∧ rules[k].head < foes.length := ruleOk_head (Hwf.out.ru _ (List.getElem_mem hlt))
            obtain ⟨q, hq⟩ := Int.eq_ofNat_of_zero_le hh0
            have hqn : q < us.length := by rw [hus.out]; omega
            have hqf : q < foes.length := by omega
            have hqr : q < (rulesRows rules foes.length k).length := by rw [rulesRows_length]; omega
            have Hsucc : Hid (rulesRows rules foes.length (k + 1) = (rulesRows rules foes.length k).set q ((rulesRows rules foes.length k)[q] ++ [(k : Int)])) := by
              have := rulesRows_succ rules foes.length k hlt hh0 hhn
              rw [hq, Int.toNat_natCast] at this
              rw [Hid, this, rulesRows_at _ _ _ hqf]
            rw [hq] at p1
            obtain ⟨wx, HWX⟩ : ∃ wx, Hid (wx = wo.alloc (.cells #[.int .i64 rules[k].kind, .int .i64 q, .slice C rules[k].body.length cC] 37)) := ⟨_, hid rfl⟩
            go_wp2_with fail
            rw [← HWX.out]
            have hbx : Below wo.heap.size wo wx := by rw [HWX.out]; exact ext_alloc _ _
            have hws1 := hws.ext hbx
            have hrb : wx.heap[wo.heap.size]? = some (.cells #[.int .i64 rules[k].kind, .int .i64 q, .slice C rules[k].body.length cC] 37 (0, 0)) := by rw [HWX.out]; exact heap_alloc_new wo _
            have hnq : (rulesRows rules foes.length k)[q].length ≤ 4096 := by rw [rulesRows_at _ _ _ (by omega)]; exact Nat.le_trans (rulesUpto_length _ _ _) (by omega)
            refine newWorld_R10 W1 wx _ _ _ _ _ _ _ _ foes.length b gA gR base wo.heap.size _ us _ q k hws1 hqn hqr hqf hrb hws.hb (fun e => by have := (hws.rows.own q hqn hqr).lt _ e; omega) hnq _ _ _ _ _ _ _ _ _ _ _ _ _ _ _ _ _ _ _ _ _ _ _ _ _ _ _ _ _ _ _ _ _ _ _ _ _ _ _ _ _ _ _ _ _ _ _ _ _ _ _ _ _ _ _ _ _ _ _ _ _ _ ?_
            intro x43 x44 x45 x46 x47 x48 x49 x50 x51 x52 x53 x54 x55 x56 x57 x58 x59 x60 wy v' hnx
            go_wp2
            go_roundw
            case rel => exact ⟨k + 1, us.set q v', by omega, by (try simp), hid (by rw [List.length_set]; exact hus.out), by rw [Hsucc.out]; exact hnx⟩
            case measure => simp [intOf]; omega
          · obtain rfl : k = rules.length := by omega
            go_wp2
            go_ret
            have hrd := Hrest.out
            have hgb : ∀ w', wo.grownBy w' (some b) → Below W1.heap.size W1 w' := fun w' hg => hws.old.trans ⟨hg.os, hg.tape, hg.output, hg.size, fun k hk => hg.block k (Nat.lt_of_lt_of_le hk hws.old.size) (fun e => by cases e; have := hws.h1.1; omega)⟩
            refine Fin HQ ⟨b, rfl, Nat.le_trans hbel.size hws.h1.1, ⟨_, _, _, _, _, _, hws.blk, fun w' hg => ⟨hrd.1.ext llR_mono (hgb w' hg), ?_, ?_, ?_, ?_, ?_⟩⟩, ext_trans hbel hws.old⟩
            · obtain ⟨xF, xR, xB, hx, _, h2, _⟩ := hrd.2.1
              cases hx; exact h2.ext ruleR_mono (hgb w' hg)
            · obtain ⟨xF, xR, xB, hx, _, _, h3⟩ := hrd.2.1
              cases hx; exact h3.ext llR_mono (hgb w' hg)
            · have ha : Arr Value.bool 4 w' gA (factsUpto foes.length l.length l) := (hg.block gA hws.aA.lt (fun e => by cases e; exact hws.d.1 rfl)).trans hws.aA
              have := ha.reads (by rw [factsUpto, factsB_length]; omega) foes.length (by rw [factsUpto, factsB_length]; omega)
              rw [factsUpto_all, factsB_length] at this
              exact this
            · have hr2 : Rows w' gR base 26 3 us (rulesRows rules foes.length rules.length) := ⟨(hg.block gR hws.rows.lt (fun e => by cases e; exact hws.d.2.1 rfl)).trans hws.rows.blk, hws.rows.len, fun q h1 h2 => (hws.rows.own q h1 h2).kept hg (by
                cases ho : us[q].ownBlock with
                | none => exact .inl rfl
                | some k => right; intro e; cases e; have := ((hws.rows.own q h1 h2).lt _ ho).1; have := hws.h1.2; omega), hws.rows.ne, hws.rows.hg⟩
              have := hr2.reads (by rw [rulesRows_length]; omega) (fun q hq => by rw [rulesRows_at _ _ _ (by rw [rulesRows_length] at hq; omega)]; exact Nat.le_trans (rulesUpto_length _ _ _) (by omega)) foes.length (by rw [rulesRows_length]; omega)
              rw [rulesRows_length] at this
              exact this
            · exact hrd.2.2.ext (scR_mono _) (hgb w' hg)
end Go.Proofs.Lx
