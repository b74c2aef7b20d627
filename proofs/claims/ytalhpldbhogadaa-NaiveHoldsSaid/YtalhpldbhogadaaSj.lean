/- Contracts of the reference's NewWorld, World.Holds, given (layer 15). -/
import Derived.Test.YtalhpldbhogadaaSi
import Derived.Test.YtalhpldbhogadaaNk
namespace Go.Proofs.Lx
open Go Go.RowKit
set_option linter.unusedSimpArgs false
set_option linter.unusedVariables false

set_option maxRecDepth 100000 in
set_option maxHeartbeats 6400000 in
theorem newWorld15_any (w : World) (V vl : Value) (T : Th) (l : List Int) (hT : RdTh w V T) (hwf : WfTh T) (hl : RdI w vl l) :
    Calls Try.prog 62 #[V, vl] w (Ret fun r w' => ∃ b, r = .pointer (some ⟨b, 0, none⟩) ∧ NR w' b T l (rulesRows T.rules T.foes.length T.rules.length) ∧ Below w.heap.size w w') := by
  have Hwf := hid hwf
  have HT := hid hT
  obtain ⟨lits, foes, rules, beats⟩ := T
  obtain ⟨vF, vR, vB, rfl, hF, ⟨AR, cR, rfl, hcR, hbR, hrR⟩, hB⟩ := hT
  obtain ⟨Al, cl, hvl, _⟩ := id hl
  subst hvl
  have hl1 := hwf.l1; have hfl := hwf.fl; have hrl := hwf.rl
  dsimp only at *
  obtain rfl : lits = (foes.length : Int) := hfl.symm
  clear hwf hfl
  have hbel := ext_alloc w (.cells #[.int .i64 foes.length, vF, .slice AR rules.length cR, vB] 25)
  obtain ⟨W1, HW1⟩ : ∃ W1, Hid (W1 = w.alloc (.cells #[.int .i64 foes.length, vF, .slice AR rules.length cR, vB] 25)) := ⟨_, hid rfl⟩
  rw [← HW1.out] at hbel
  have hsz : W1.heap.size = w.heap.size + 1 := by rw [HW1.out]; simp
  have hrR1 := hrR.ext ruleR_mono hbel
  have hmL := mkL foes.length (by omega) (by omega)
  rw [Int.toNat_natCast] at hmL
  have Hrest := hid (And.intro (hF.ext llR_mono hbel) (And.intro (hB.ext llR_mono hbel) (hl.ext (scR_mono _) hbel)))
  have B2 : W1.cell? ⟨w.heap.size, 2, none⟩ = some (.slice AR rules.length cR) := by rw [HW1.out]; exact box_cell (Below.refl _ _) 2
  have Hbel := hid hbel
  clear hl hrR hF hB hbel
  refine post_gen fun Q HQ => ?_
  go_enter Try.func62, Try.ntmps62
  go_wp2
  go_cut [5] (fun v5 wx => ∃ b gR base vs, v5 = .pointer (some ⟨b, 0, none⟩) ∧ Hid (vs.length = foes.length) ∧ WR W1 #[.int .i64 foes.length, vF, .slice AR rules.length cR, vB, .slice Al l.length cl, .slice (some ⟨gR, 0, none⟩) foes.length foes.length] b gR base vs (rulesRows rules foes.length 0) wx)
  case first =>
    go_region
    all_goals
      go_wp2_with fail
      go_meet
      rw [HW1.out, rulesRows_zero]
      exact ⟨_, _, _, _, rfl, hid (by simp), WR.start _ _ _ _ (World.size_alloc _ _)⟩
  case rest =>
    obtain ⟨b, gR, base, vs, rfl, hvs, hws⟩ := hcut
    go_wp2
    go_loopw [6] (fun v6 wr => ∃ (k : Nat) (vs : List Value), k ≤ rules.length ∧ v6 = .int .i64 k ∧ Hid (vs.length = foes.length) ∧ WR W1 #[.int .i64 foes.length, vF, .slice AR rules.length cR, vB, .slice Al l.length cl, .slice (some ⟨gR, 0, none⟩) foes.length foes.length] b gR base vs (rulesRows rules foes.length k) wr) (fun v6 _ => rules.length - (intOf v6).toNat)
    case atStart => exact ⟨0, vs, Nat.zero_le _, rfl, hvs, hws⟩
    case round =>
      clear hws hvs
      obtain ⟨k, us, hk, rfl, hus, hws⟩ := hrel
      have c2 := cell_ext hws.old B2
      obtain ⟨wo, rfl⟩ : ∃ wo : World, wo = wr := ⟨_, rfl⟩
      by_cases hlt : k < rules.length
      · have hx0 := hrR1.atRule hlt
        obtain ⟨ad, C, cC, rfl, p0, p1', _, _, _, _⟩ := (hrR1.ext ruleR_mono hws.old).atRule hlt
        obtain ⟨ad1, C1, cC1, e1, p10, _⟩ := hx0
        have e2 := Option.some.inj e1
        subst e2
        obtain ⟨hh0, hhn⟩ : 0 ≤ rules[k].head ∧ rules[k].head < foes.length := ruleOk_head (Hwf.out.ru _ (List.getElem_mem hlt))
        obtain ⟨q, hq⟩ := Int.eq_ofNat_of_zero_le hh0
        have hqn : q < us.length := by rw [hus.out]; omega
        have hqf : q < foes.length := by omega
        have hqr : q < (rulesRows rules foes.length k).length := by rw [rulesRows_length]; omega
        have Hsucc : Hid (rulesRows rules foes.length (k + 1) = (rulesRows rules foes.length k).set q ((rulesRows rules foes.length k)[q] ++ [(k : Int)])) := by
          have := rulesRows_succ rules foes.length k hlt hh0 hhn
          rw [hq, Int.toNat_natCast] at this
          rw [Hid, this, rulesRows_at _ _ _ hqf]
        rw [hq] at p1'
        have hnq : (rulesRows rules foes.length k)[q].length ≤ 4096 := by rw [rulesRows_at _ _ _ (by omega)]; exact Nat.le_trans (rulesUpto_length _ _ _) (by omega)
        have hxb : (ad.add (k * 3)).block < W1.heap.size := World.block_lt_of_cell? _ _ p10
        go_wp2_with fail
        refine newWorld15_R5 W1 wo _ _ _ _ _ foes.length rules.length b gR base w.heap.size ad cR us _ q k hws hqn hqr hqf hlt (by omega) c2 (by omega) p1' hxb hnq _ _ _ _ _ _ _ _ _ _ _ _ _ _ _ _ _ _ _ _ _ _ _ _ _ _ _ _ _ _ _ _ _ _ _ _ _ _ _ _ _ _ _ _ _ _ _ ?_
        intro x21 x22 x23 x24 x25 x26 x27 x28 x29 x30 x31 x32 x33 x34 x35 x36 x37 x38 x39 x40 x41 x42 x43 x44 x45 x46 wy v' hnx
        go_wp2
        go_roundw
        case rel => exact ⟨k + 1, us.set q v', by omega, by (try simp), hid (by rw [List.length_set]; exact hus.out), by rw [Hsucc.out]; exact hnx⟩
        case measure => simp [intOf]; omega
      · obtain rfl : k = rules.length := by omega
        go_wp2
        go_ret
        have hrd := Hrest.out
        refine Fin HQ ⟨b, rfl, ⟨_, _, _, _, _, hws.blk, hrd.1.ext llR_mono hws.old, ⟨AR, cR, rfl, hcR, hbR, hrR1.ext ruleR_mono hws.old⟩, hrd.2.1.ext llR_mono hws.old, hrd.2.2.ext (scR_mono _) hws.old, ?_⟩, ext_trans Hbel.out hws.old⟩
        have := hws.rows.reads (by rw [rulesRows_length]; omega) (fun q hq => by rw [rulesRows_at _ _ _ (by rw [rulesRows_length] at hq; omega)]; exact Nat.le_trans (rulesUpto_length _ _ _) (by omega)) foes.length (by rw [rulesRows_length]; omega)
        rw [rulesRows_length] at this
        exact this

theorem factsB_at {n : Nat} {l : List Int} {q : Int} (h0 : 0 ≤ q) (hq : q < (n : Int)) : (factsB n l).getD q.toNat false = memB l q := by
  have h : q.toNat < (factsB n l).length := by rw [factsB_length]; omega
  rw [List.getD_eq_getElem?_getD, List.getElem?_eq_getElem h, Option.getD_some]
  simp only [factsB, List.getElem_map, List.getElem_range]
  rw [show ((q.toNat : Nat) : Int) = q by omega]
theorem drew_quiet {P : Program} {f : FuncId} {args : Array Value} {w : World} {B : Bool} (h : Calls P f args w (Dr w B)) : Calls P f args w (Ret fun v w' => v = .bool B ∧ ∃ m, w' = w.drewN m) :=
  h.mono fun e w' ⟨he, hw⟩ => ⟨_, he, rfl, hw⟩

set_option maxHeartbeats 1600000 in
theorem wholds15_any (w : World) (b : Nat) (T : Th) (l : List Int) (RL : List (List Int)) (M : List Nat) (vm : Value) (h : NR w b T l RL) (hm : RdMk w vm M) (hv : NVal T (factsB T.foes.length l) RL M) (q : Int) (h0 : 0 ≤ q) (hq : q < T.foes.length) (tag : Int) (k : Nat) (hk : k < 4) (ht : tag = (k : Int) + 1) :
    Calls Try.prog 63 #[.pointer (some ⟨b, 0, none⟩), vm, .int .i64 tag, .int .i64 q] w (Dr w (cnd T (factsB T.foes.length l) RL M k q)) := by
  have H0 := hid (plusD15_any w b T _ l RL M vm h hm hv q h0 hq)
  have H1 := hid (minusD15_any w b T _ l RL M vm h hm hv q h0 hq)
  have H2 := hid (plusd15_any w b T _ l RL M vm h hm hv q h0 hq)
  have H3 := hid (minusd15_any w b T _ l RL M vm h hm hv q h0 hq)
  rw [← factsB_at h0 hq] at H0 H1
  clear h hm hv
  refine dr_of ?_
  refine post_gen fun Q HQ => ?_
  rcases (show k = 0 ∨ k = 1 ∨ k = 2 ∨ k = 3 by omega) with rfl | rfl | rfl | rfl
  · subst ht
    simp only [cnd, plusDB] at HQ
    go_enter Try.func63, Try.ntmps63
    go_wp2_with (go_at_call 94; refine H0.out.mono ?_; rintro e w' ⟨rfl, m, rfl⟩)
    go_ret
    exact Fin HQ ⟨rfl, _, rfl⟩
  · subst ht
    simp only [cnd, minusDB] at HQ
    go_enter Try.func63, Try.ntmps63
    go_wp2_with (go_at_call 95; refine H1.out.mono ?_; rintro e w' ⟨rfl, m, rfl⟩)
    go_ret
    exact Fin HQ ⟨rfl, _, rfl⟩
  · subst ht
    simp only [cnd] at HQ
    go_enter Try.func63, Try.ntmps63
    go_wp2_with (go_at_call 96; refine H2.out.mono ?_; rintro e w' ⟨rfl, m, rfl⟩)
    go_ret
    exact Fin HQ ⟨rfl, _, rfl⟩
  · subst ht
    simp only [cnd] at HQ
    go_enter Try.func63, Try.ntmps63
    go_wp2_with (go_at_call 97; refine H3.out.mono ?_; rintro e w' ⟨rfl, m, rfl⟩)
    go_ret
    exact Fin HQ ⟨rfl, _, rfl⟩

set_option maxHeartbeats 800000 in
theorem given15_any (w : World) (V vl : Value) (T : Th) (l : List Int) (hT : RdTh w V T) (hl : RdI w vl l) :
    Calls Try.prog 61 #[V, vl] w (Ret fun v w' => v = .int .i64 (givenErr T l) ∧ Below w.heap.size w w') := by
  have HT := hid hT
  obtain ⟨vF, vR, vB, rfl, hF, hR, hB⟩ := hT
  have Hgiv : Hid (∀ c, checkErr T = c → givenErr T l = if c = 0 then factsErr T l else c) := fun c hc => by rw [givenErr, hc]
  obtain ⟨c, Hc⟩ : ∃ c, Hid (checkErr T = c) := ⟨_, hid rfl⟩
  have hbel := ext_alloc w (.cells #[.int .i64 T.lits, vF, vR, vB] 25)
  have hch := check12_any (w.alloc (.cells #[.int .i64 T.lits, vF, vR, vB] 25)) _ T (HT.out.ext hbel)
  rw [Hc.out] at hch
  have Hch := hid hch
  clear hch hF hR hB
  refine post_gen fun Q HQ => ?_
  rw [Hgiv.out c Hc.out] at HQ
  go_enter Try.func61, Try.ntmps61
  go_wp2_with fail
  refine Hch.out.mono ?_
  rintro e w2 ⟨_, rfl, ⟨i, rfl⟩, hb2'⟩
  obtain ⟨b0, b1, b2, b3⟩ := box4 hb2'
  have hb2 := ext_trans hbel hb2'
  clear hb2'
  by_cases h : c = 0
  · rw [if_pos h] at HQ
    subst h
    have Hf := hid (facts12_any w2 _ vl T l (HT.out.ext hb2) (hl.ext (scR_mono _) hb2))
    unfold factsErr at HQ
    cases h : risB l T.lits with
    | true =>
      rw [h] at HQ Hf
      clear h
      go_wp2_with fail
      refine Hf.out.mono ?_
      rintro e w3 ⟨_, rfl, rfl, hb3⟩
      go_wp2_with fail
      go_ret
      exact Fin HQ ⟨rfl, ext_trans hb2 hb3⟩
    | false =>
      rw [h] at HQ Hf
      clear h
      go_wp2_with fail
      refine Hf.out.mono ?_
      rintro e w3 ⟨_, rfl, rfl, hb3⟩
      go_wp2_with fail
      go_ret
      exact Fin HQ ⟨rfl, ext_trans hb2 hb3⟩
  · rw [if_neg h] at HQ
    have hne : (c != 0) = true := by simp [h]
    go_wp2_with fail
    go_ret
    exact Fin HQ ⟨rfl, hb2⟩
end Go.Proofs.Lx
