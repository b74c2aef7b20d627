/- Contracts of theory.rule, pairs, CheckFacts; make of slices. -/
import Derived.Test.YtalhpldbhogadaaCc
import Derived.Test.YtalhpldbhogadaaLb
namespace Go.Proofs.Lx
open Go Go.RowKit
set_option linter.unusedSimpArgs false
set_option linter.unusedVariables false

theorem infoI : (Try.prog.info? 3).map (fun i => (i.zero, i.size, i.bytes)) = some (some (.int .i64 0), 1, 8) := by kernel_rfl
theorem infoB : (Try.prog.info? 4).map (fun i => (i.zero, i.size, i.bytes)) = some (some (.bool false), 1, 1) := by kernel_rfl
theorem infoM : (Try.prog.info? 33).map (fun i => (i.zero, i.size, i.bytes)) = some (some (.int .u8 0), 1, 1) := by kernel_rfl
theorem infoL : (Try.prog.info? 26).map (fun i => (i.zero, i.size, i.bytes)) = some (some (.slice none 0 0), 1, 24) := by kernel_rfl
section
variable (n : Int) (h0 : 0 ≤ n) (hn : n ≤ 140737488355)
include h0 hn
theorem mkI : ∀ W : World, (Instr.makeSlice 26 (.int .i64 n) (.int .i64 n)).run Try.prog W = .ok (.slice (some ⟨W.heap.size, 0, none⟩) n.toNat n.toNat) (W.alloc (.cells (madeCells #[.int .i64 0] n.toNat) 3)) := by
  intro W; obtain ⟨m, rfl⟩ := Int.eq_ofNat_of_zero_le h0
  exact run_make_row' _ _ _ 8 Try.underlying26 infoI rfl .i64 .i64 m (by omega) (by omega) W
theorem mkB : ∀ W : World, (Instr.makeSlice 86 (.int .i64 n) (.int .i64 n)).run Try.prog W = .ok (.slice (some ⟨W.heap.size, 0, none⟩) n.toNat n.toNat) (W.alloc (.cells (madeCells #[.bool false] n.toNat) 4)) := by
  intro W; obtain ⟨m, rfl⟩ := Int.eq_ofNat_of_zero_le h0
  exact run_make_row' _ _ _ 1 Try.underlying86 infoB rfl .i64 .i64 m (by omega) (by omega) W
theorem mkM : ∀ W : World, (Instr.makeSlice 28 (.int .i64 n) (.int .i64 n)).run Try.prog W = .ok (.slice (some ⟨W.heap.size, 0, none⟩) n.toNat n.toNat) (W.alloc (.cells (madeCells #[.int .u8 0] n.toNat) 33)) := by
  intro W; obtain ⟨m, rfl⟩ := Int.eq_ofNat_of_zero_le h0
  exact run_make_row' _ _ _ 1 Try.underlying28 infoM rfl .i64 .i64 m (by omega) (by omega) W
theorem mkL : ∀ W : World, (Instr.makeSlice 22 (.int .i64 n) (.int .i64 n)).run Try.prog W = .ok (.slice (some ⟨W.heap.size, 0, none⟩) n.toNat n.toNat) (W.alloc (.cells (madeCells #[.slice none 0 0] n.toNat) 26)) := by
  intro W; obtain ⟨m, rfl⟩ := Int.eq_ofNat_of_zero_le h0
  exact run_make_row' _ _ _ 24 Try.underlying22 infoL rfl .i64 .i64 m (by omega) (by omega) W
end

theorem checkFacts_any (w : World) (V v : Value) (T : Th) (l : List Int) (hT : RdTh w V T) (hv : RdI w v l) :
   Calls Try.prog 84 #[V, v] w (Ret fun v w' => v = .int .i64 (bif risB l T.lits then 0 else 181) ∧ Below w.heap.size w w') := by
  obtain ⟨vF, vR, vB, rfl, _, _, _⟩ := hT
  have hbel := ext_alloc w (.cells #[.int .i64 T.lits, vF, vR, vB] 25)
  have hv1 := hv.ext (scR_mono _) hbel
  refine post_gen fun Q HQ => ?_
  cases hr : risB l T.lits with
  | false =>
    have Hr := hid hr
    go_enter Try.func84, Try.ntmps84
    go_wp2_with (go_at_call 112; refine (rising_any _ _ _ _ hv1).mono ?_; rintro e w' ⟨_, rfl, rfl, rfl⟩)
    go_ret
    exact Fin HQ ⟨by rw [Hr.out]; rfl, hbel⟩
  | true =>
    have Hr := hid hr
    go_enter Try.func84, Try.ntmps84
    go_wp2_with (go_at_call 112; refine (rising_any _ _ _ _ hv1).mono ?_; rintro e w' ⟨_, rfl, rfl, rfl⟩)
    go_ret
    exact Fin HQ ⟨by rw [Hr.out]; rfl, hbel⟩

def RdRule (w : World) (v : Value) (r : Rule) : Prop := ∃ u, v = .agg #[.int .i64 r.kind, .int .i64 r.head, u] ∧ RdI w u r.body
def ruleOk (lits : Int) (r : Rule) : Bool := decide (1 ≤ r.kind) && decide (r.kind ≤ 3) && decide (0 ≤ r.head) && decide (r.head < lits) && decide (r.body.length ≤ 16) && risB r.body lits

set_option maxHeartbeats 800000 in
theorem rule_any (w : World) (V v : Value) (T : Th) (r : Rule) (hT : RdTh w V T) (hv : RdRule w v r) :
   Calls Try.prog 109 #[V, v] w (Ret fun v w' => v = .bool (ruleOk T.lits r) ∧ Below w.heap.size w w') := by
  obtain ⟨vF, vR, vB, rfl, _, _, _⟩ := hT
  obtain ⟨u, rfl, B, cB, rfl, hcB, hbB, hrB⟩ := hv
  have hbel := ext_alloc w (.cells #[.int .i64 T.lits, vF, vR, vB] 25)
  have hbel2 := ext_alloc (w.alloc (.cells #[.int .i64 T.lits, vF, vR, vB] 25)) (.cells #[.int .i64 r.kind, .int .i64 r.head, .slice B r.body.length cB] 37)
  have hbe := ext_trans hbel hbel2
  have hv1 : RdI ((w.alloc (.cells #[.int .i64 T.lits, vF, vR, vB] 25)).alloc (.cells #[.int .i64 r.kind, .int .i64 r.head, .slice B r.body.length cB] 37)) (.slice B r.body.length cB) r.body := ⟨B, cB, rfl, hcB, hbB, hrB.ext (scR_mono _) hbe⟩
  refine post_gen fun Q HQ => ?_
  by_cases h1 : 1 ≤ r.kind ∧ r.kind ≤ 3 ∧ 0 ≤ r.head ∧ r.head < T.lits ∧ r.body.length ≤ 16
  · obtain ⟨a1, a2, a3, a4, a5⟩ := h1
    have Hok : Hid (ruleOk T.lits r = risB r.body T.lits) := by simp [Hid, ruleOk, a1, a2, a3, a4, a5]
    cases hr : risB r.body T.lits with
    | false =>
      have Hr := hid hr
      go_enter Try.func109, Try.ntmps109
      go_wp2_with (go_at_call 112; refine (rising_any _ _ _ _ hv1).mono ?_; rintro e w' ⟨_, rfl, rfl, rfl⟩)
      go_ret
      exact Fin HQ ⟨by rw [Hok.out, Hr.out]; rfl, hbe⟩
    | true =>
      have Hr := hid hr
      go_enter Try.func109, Try.ntmps109
      go_wp2_with (go_at_call 112; refine (rising_any _ _ _ _ hv1).mono ?_; rintro e w' ⟨_, rfl, rfl, rfl⟩)
      go_ret
      exact Fin HQ ⟨by rw [Hok.out, Hr.out]; rfl, hbe⟩
  · have Hok : Hid (ruleOk T.lits r = false) := by
      simp only [Hid, ruleOk]
      rw [Bool.eq_false_iff]; intro h
      simp at h
      omega
    go_enter Try.func109, Try.ntmps109
    go_wp2_with (go_at_call 112; refine (rising_any _ _ _ _ hv1).mono ?_; rintro e w' ⟨_, rfl, rfl, rfl⟩)
    all_goals (go_ret; exact Fin HQ ⟨by rw [Hok.out]; rfl, hbe⟩)
end Go.Proofs.Lx
