/- Parts of the proof: Po. Contracts of lexpriorplain's SameInts, SameIntLists, SameRule, SameRules, SameTheory: of what reads as one. -/
import Derived.Test.YtbidjiopnddldaaGreatP42
import Derived.Test.YtbidjiopnddldaaGreatP36
import Derived.Deep.DeepCutAuto
namespace Go.Proofs.Lx
open Go Go.RowKit
set_option linter.unusedSimpArgs false
set_option linter.unusedVariables false

set_option maxHeartbeats 800000 in
theorem sameI_self (w : World) (v1 v2 : Value) (X : List Int) (h1 : RdI w v1 X) (h2 : RdI w v2 X) :
  Calls Tryz.prog 20 #[v1, v2] w (Dr w true) := by
 refine dr_of ?_
 obtain ⟨A, c, rfl, hc, hb, hr⟩ := h1
 obtain ⟨B, d, rfl, hd, hb2, hr2⟩ := h2
 refine post_gen fun Q HQ => ?_
 go_enter Tryz.func20, Tryz.ntmps20
 generalize hn : X.length = n at *
 have Hn := hid hn
 clear hn
 go_wp2
 go_loopw [5] (fun v5 wr => ∃ k : Nat, k ≤ n ∧ v5 = .int .i64 k ∧ Drew w wr) (fun v5 _ => n - (intOf v5).toNat)
 case atStart => exact ⟨0, Nat.zero_le _, rfl, Drew.refl w⟩
 case round =>
  obtain ⟨k, hk, rfl, hdr⟩ := hrel
  have Hdr := hid hdr
  by_cases hlt : k < n
  ·have hx : k < X.length := by rw [Hn.out]; exact hlt
   obtain ⟨ad, rfl, hcX⟩ := (hr.ext (scR_mono _) hdr.below).at1 hx
   obtain ⟨ad2, rfl, hcY⟩ := (hr2.ext (scR_mono _) hdr.below).at1 hx
   generalize X[k] = x at *
   have hne : (x != x) = false := by simp
   clear hdr hr hr2 hx
   go_wp2
   go_quiet (fail)
   go_wp2
   go_roundw
   case rel => exact ⟨k + 1, by omega, by go_num, Hdr.out.step _⟩
   case measure => simp [intOf]; omega
  ·go_wp2
   go_ret
   exact Fin HQ ⟨rfl, Hdr.out⟩

set_option maxHeartbeats 800000 in
theorem sameLL_self (w : World) (v1 v2 : Value) (X : List (List Int)) (h1 : RdLL w v1 X) (h2 : RdLL w v2 X) :
  Calls Tryz.prog 54 #[v1, v2] w (Dr w true) := by
 refine dr_of ?_
 obtain ⟨A, c, rfl, hc, hb, hr⟩ := h1
 obtain ⟨B, d, rfl, hd, hb2, hr2⟩ := h2
 refine post_gen fun Q HQ => ?_
 go_enter Tryz.func54, Tryz.ntmps54
 generalize hn : X.length = n at *
 have Hn := hid hn
 clear hn
 go_wp2
 go_loopw [5] (fun v5 wr => ∃ k : Nat, k ≤ n ∧ v5 = .int .i64 k ∧ Drew w wr) (fun v5 _ => n - (intOf v5).toNat)
 case atStart => exact ⟨0, Nat.zero_le _, rfl, Drew.refl w⟩
 case round =>
  obtain ⟨k, hk, rfl, hdr⟩ := hrel
  have Hdr := hid hdr
  by_cases hlt : k < n
  ·have hx : k < X.length := by rw [Hn.out]; exact hlt
   obtain ⟨ad, C1, c1, rfl, hcX, p1, p2, hr3⟩ := (hr.ext llR_mono hdr.below).atRow hx
   obtain ⟨ad2, C2, c2, rfl, hcY, q1, q2, hr4⟩ := (hr2.ext llR_mono hdr.below).atRow hx
   have Hcall : Hid (∀ m, Calls Tryz.prog 20 #[.slice C1 X[k].length c1, .slice C2 X[k].length c2] (wr.drewN m) (fun e w' => e = .returned (.bool true) ∧ ∃ j, w' = (wr.drewN m).drewN j)) := hid fun m =>
    sameI_self _ _ _ X[k] ⟨C1, c1, rfl, p1, p2, hr3.ext (scR_mono _) (ext_drewN wr m)⟩ ⟨C2, c2, rfl, q1, q2, hr4.ext (scR_mono _) (ext_drewN wr m)⟩
   generalize X[k] = x at *
   clear hdr hr hr2 hx hr3 hr4
   go_wp2
   go_quiet ((go_at_call 20; exact Calls.quiet_of (Hcall.out _)))
   go_wp2
   go_roundw
   case rel => exact ⟨k + 1, by omega, by go_num, Hdr.out.step _⟩
   case measure => simp [intOf]; omega
  ·go_wp2
   go_ret
   exact Fin HQ ⟨rfl, Hdr.out⟩

set_option maxHeartbeats 800000 in
theorem sameRule_self (w : World) (kd hd : Int) (C1 C2 : Option Addr) (c1 c2 : Nat) (bo : List Int) (h1 : RdI w (.slice C1 bo.length c1) bo) (h2 : RdI w (.slice C2 bo.length c2) bo) :
  Calls Tryz.prog 76 #[.agg #[.int .i64 kd, .int .i64 hd, .slice C1 bo.length c1], .agg #[.int .i64 kd, .int .i64 hd, .slice C2 bo.length c2]] w (Ret fun v w' => v = .bool true ∧ Below w.heap.size w w') := by
 have hb1 := ext_alloc w (.cells #[.int .i64 kd, .int .i64 hd, .slice C1 bo.length c1] 93)
 have hb2 := ext_trans hb1 (ext_alloc _ (.cells #[.int .i64 kd, .int .i64 hd, .slice C2 bo.length c2] 93))
 have Hcall := hid (sameI_self _ _ _ bo (h1.ext (scR_mono _) hb2) (h2.ext (scR_mono _) hb2))
 have hk : (kd == kd) = true := by simp
 have hh : (hd == hd) = true := by simp
 refine post_gen fun Q HQ => ?_
 go_enter Tryz.func76, Tryz.ntmps76
 go_wp2_with fail
 refine Hcall.out.mono ?_
 rintro e w5 ⟨rfl, m, rfl⟩
 go_wp2
 go_ret
 exact Fin HQ ⟨rfl, ext_trans hb2 (ext_drewN _ _)⟩

set_option maxHeartbeats 1600000 in
theorem sameRules_self (w : World) (v1 v2 : Value) (X : List Rule) (h1 : RdRs w v1 X) (h2 : RdRs w v2 X) :
  Calls Tryz.prog 55 #[v1, v2] w (Ret fun v w' => v = .bool true ∧ Below w.heap.size w w') := by
 obtain ⟨A, c, rfl, hc, hb, hr⟩ := h1
 obtain ⟨B, d, rfl, hd, hb2, hr2⟩ := h2
 refine post_gen fun Q HQ => ?_
 go_enter Tryz.func55, Tryz.ntmps55
 generalize hn : X.length = n at *
 have Hn := hid hn
 clear hn
 go_wp2
 go_loopw [5] (fun v5 wr => ∃ k : Nat, k ≤ n ∧ v5 = .int .i64 k ∧ Below w.heap.size w wr) (fun v5 _ => n - (intOf v5).toNat)
 case atStart => exact ⟨0, Nat.zero_le _, rfl, ext_refl w⟩
 case round =>
  obtain ⟨k, hk, rfl, hbl⟩ := hrel
  by_cases hlt : k < n
  ·have hx : k < X.length := by rw [Hn.out]; exact hlt
   obtain ⟨ad, C1, c1, rfl, a0, a1, a2, p1, p2, hr3⟩ := (hr.ext ruleR_mono hbl).atRule hx
   obtain ⟨ad2, C2, c2, rfl, b0, b1, b2, q1, q2, hr4⟩ := (hr2.ext ruleR_mono hbl).atRule hx
   have Hcall := hid (sameRule_self wr.drew X[k].kind X[k].head C1 C2 c1 c2 X[k].body ⟨C1, c1, rfl, p1, p2, hr3.ext (scR_mono _) (ext_refl wr).drew⟩ ⟨C2, c2, rfl, q1, q2, hr4.ext (scR_mono _) (ext_refl wr).drew⟩)
   have hbd := ext_trans hbl (ext_refl wr).drew
   generalize X[k].kind = kd at *
   generalize X[k].head = hd at *
   generalize X[k].body = bo at *
   clear hr hr2 hx hr3 hr4
   go_wp2
   go_region_with (go_at_call 76; refine Hcall.out.mono ?_; rintro e w5 ⟨_, rfl, rfl, hb5⟩)
   all_goals
    go_wp2
    go_roundw
    case rel => exact ⟨k + 1, by omega, by go_num, ext_trans hbd hb5⟩
    case measure => simp [intOf]; omega
  ·go_wp2
   go_ret
   exact Fin HQ ⟨rfl, hbl⟩

set_option maxHeartbeats 1600000 in
theorem sameTh_self (w : World) (V1 V2 : Value) (T : Th) (h1 : RdTh w V1 T) (h2 : RdTh w V2 T) :
  Calls Tryz.prog 30 #[V1, V2] w (Ret fun v w' => v = .bool true ∧ Below w.heap.size w w') := by
 have H1 := hid h1
 have H2 := hid h2
 obtain ⟨vF, vR, vB, rfl, hF, hR, hB⟩ := h1
 obtain ⟨uF, uR, uB, rfl, gF, gR, gB⟩ := h2
 have hb1 := ext_alloc w (.cells #[.int .i64 T.lits, vF, vR, vB] 25)
 have hb2 := ext_trans hb1 (ext_alloc _ (.cells #[.int .i64 T.lits, uF, uR, uB] 25))
 obtain ⟨W, HW⟩ : ∃ W, Hid (W = (w.alloc (.cells #[.int .i64 T.lits, vF, vR, vB] 25)).alloc (.cells #[.int .i64 T.lits, uF, uR, uB] 25)) := ⟨_, hid rfl⟩
 rw [← HW.out] at hb2
 have k1 : W.heap[w.heap.size]? = some (.cells #[.int .i64 T.lits, vF, vR, vB] 25 (0, 0)) := by
  rw [HW.out]; exact ((ext_alloc _ _).block _ (by simp)).trans (heap_alloc_new w _)
 have k2 : W.heap[w.heap.size + 1]? = some (.cells #[.int .i64 T.lits, uF, uR, uB] 25 (0, 0)) := by
  rw [HW.out]
  have := heap_alloc_new (w.alloc (.cells #[.int .i64 T.lits, vF, vR, vB] 25)) (.cells #[.int .i64 T.lits, uF, uR, uB] 25)
  rwa [World.size_alloc] at this
 have Hbox : Hid (∀ W', Below W.heap.size W W' → W'.cell? ⟨w.heap.size, 0, none⟩ = some (.int .i64 T.lits) ∧ W'.cell? ⟨w.heap.size, 1, none⟩ = some vF ∧ W'.cell? ⟨w.heap.size, 2, none⟩ = some vR ∧ W'.cell? ⟨w.heap.size, 3, none⟩ = some vB ∧
   W'.cell? ⟨w.heap.size + 1, 0, none⟩ = some (.int .i64 T.lits) ∧ W'.cell? ⟨w.heap.size + 1, 1, none⟩ = some uF ∧ W'.cell? ⟨w.heap.size + 1, 2, none⟩ = some uR ∧ W'.cell? ⟨w.heap.size + 1, 3, none⟩ = some uB) := hid fun W' hb => by
  have e1 := (hb.block _ (lt_of_block k1)).trans k1
  have e2 := (hb.block _ (lt_of_block k2)).trans k2
  refine ⟨?_, ?_, ?_, ?_, ?_, ?_, ?_, ?_⟩
  all_goals first
   | (rw [cell_of_row W' w.heap.size _ _ _ _ e1]; rfl)
   | (rw [cell_of_row W' (w.heap.size + 1) _ _ _ _ e2]; rfl)
 have Hc1 := hid (sameLL_self W vF uF T.foes (hF.ext llR_mono hb2) (gF.ext llR_mono hb2))
 have Hc2 := hid (fun W' (hb : Below W.heap.size W W') => sameRules_self W' vR uR T.rules (hR.ext ruleR_mono (ext_trans hb2 hb)) (gR.ext ruleR_mono (ext_trans hb2 hb)))
 have Hc3 := hid (fun W' (hb : Below W.heap.size W W') => sameLL_self W' vB uB T.beats (hB.ext llR_mono (ext_trans hb2 hb)) (gB.ext llR_mono (ext_trans hb2 hb)))
 have hk : (T.lits == T.lits) = true := by simp
 obtain ⟨a0, a1, a2, a3, c0, c1, c2, c3⟩ := Hbox.out W (ext_refl W)
 have Hb2 := hid hb2
 clear hF hR hB gF gR gB k1 k2 hb1 hb2
 refine post_gen fun Q HQ => ?_
 go_enter Tryz.func30, Tryz.ntmps30
 go_wp2_with fail
 rw [← HW.out]
 refine Hc1.out.mono ?_
 rintro e w5 ⟨rfl, m, rfl⟩
 clear a0 a1 a2 a3 c0 c1 c2 c3
 have hb5 := ext_drewN W m
 obtain ⟨a0, a1, a2, a3, c0, c1, c2, c3⟩ := Hbox.out _ hb5
 have Hc2' := hid (Hc2.out _ hb5)
 generalize W.drewN m = W5 at *
 go_wp2_with fail
 refine Hc2'.out.mono ?_
 rintro e w6 ⟨_, rfl, rfl, hb6⟩
 clear a0 a1 a2 a3 c0 c1 c2 c3
 have hb56 := ext_trans hb5 hb6
 obtain ⟨a0, a1, a2, a3, c0, c1, c2, c3⟩ := Hbox.out _ hb56
 have Hc3' := hid (Hc3.out _ hb56)
 go_wp2_with fail
 refine Hc3'.out.mono ?_
 rintro e w7 ⟨rfl, m7, rfl⟩
 go_wp2
 go_ret
 exact Fin HQ ⟨rfl, ext_trans Hb2.out (ext_trans hb56 (ext_drewN _ _))⟩
end Go.Proofs.Lx
