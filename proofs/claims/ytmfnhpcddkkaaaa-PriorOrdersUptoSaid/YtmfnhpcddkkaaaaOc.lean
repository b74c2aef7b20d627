/- Contract of slices.Index over []int; makes of []int. -/
import Derived.Test.YtmfnhpcddkkaaaaProg
import Derived.Test.YtmfnhpcddkkaaaaLb
import Derived.Test.YtmfnhpcddkkaaaaOb
import Derived.Lib.JoinLaws
namespace Go.Proofs.Lx
open Go Go.RowKit Go.Proofs.Tj
set_option linter.unusedSimpArgs false
set_option linter.unusedVariables false

def idxOf (p : Int → Bool) (xs : List Int) : Int := match xs.findIdx? p with | some i => i | none => -1
theorem index_any (w : World) (v : Value) (xs : List Int) (x : Int) (hv : RdI w v xs) :
   Calls Try.prog 12 #[v, .int .i64 x] w (Ret fun v w' => v = .int .i64 (idxOf (fun y => x == y) xs) ∧ w' = w) := by
  obtain ⟨A, c, rfl, hc, hb, hr⟩ := hv
  go_enter Try.func12, Try.ntmps12
  go_wp2
  go_loop [8] (fun v8 => ∃ k : Nat, k ≤ xs.length ∧ v8 = .int .i64 k ∧ Hid (∀ i (h : i < xs.length), i < k → (x == xs[i]) = false)) (fun v8 => xs.length - (intOf v8).toNat)
  case atStart => exact ⟨0, Nat.zero_le _, rfl, fun i h hk => absurd hk (by omega)⟩
  case round =>
    obtain ⟨k, hk, rfl, hno⟩ := hrel
    by_cases hlt : k < xs.length
    · obtain ⟨ad, rfl, hcell⟩ := hr.at1 hlt
      cases hp : (x == xs[k]) with
      | true =>
        go_wp2
        go_ret
        refine ⟨_, rfl, ?_, rfl⟩
        have : xs.findIdx? (fun y => x == y) = some k := by
          rw [List.findIdx?_eq_some_iff_getElem]
          exact ⟨hlt, hp, fun j hj => by simp only [hno.out j (by omega) hj]; simp⟩
        simp [idxOf, this]
      | false =>
        go_wp2
        go_round
        case rel =>
          refine ⟨k + 1, by omega, by go_num, ?_⟩
          intro i h hi
          by_cases e : i = k
          · subst e; exact hp
          · exact hno.out i h (by omega)
        case measure => simp [intOf]; omega
    · go_wp2
      go_ret
      refine ⟨_, rfl, ?_, rfl⟩
      have : xs.findIdx? (fun y => x == y) = none := by
        rw [List.findIdx?_eq_none_iff]
        intro y hx
        obtain ⟨i, hi, rfl⟩ := List.getElem_of_mem hx
        exact hno.out i hi (by omega)
      simp [idxOf, this]
theorem infoI : (Try.prog.info? 3).map (fun i => (i.zero, i.size, i.bytes)) = some (some (.int .i64 0), 1, 8) := by kernel_rfl
theorem mkN (m : Nat) (hn : m ≤ 1048576) : ∀ W : World, (Instr.makeSlice 24 (.int .i64 (m : Int)) (.int .i64 (m : Int))).run Try.prog W = .ok (.slice (some ⟨W.heap.size, 0, none⟩) m m) (W.alloc (.cells (madeCells #[.int .i64 0] m) 3)) := fun W =>
  run_make_row' _ _ _ 8 Try.underlying24 infoI rfl .i64 .i64 m (by omega) (by omega) W
theorem mkO (m : Nat) (hn : m ≤ 1048576) : ∀ W : World, (Instr.makeSlice 24 (.int .i64 0) (.int .i64 (m : Int))).run Try.prog W = .ok (.slice (some ⟨W.heap.size, 0, none⟩) 0 m) (W.alloc (.cells (madeCells #[.int .i64 0] m) 3)) := fun W =>
  run_make_room _ _ _ 8 Try.underlying24 infoI rfl .i64 .i64 m (by omega) (by omega) W
/-- The first place with x. -/
theorem idxOf_cases (x : Int) (xs : List Int) : (idxOf (fun y => x == y) xs = -1 ∧ ∀ i (h : i < xs.length), xs[i] ≠ x) ∨ ∃ (i : Nat) (h : i < xs.length), idxOf (fun y => x == y) xs = i ∧ xs[i] = x := by
  unfold idxOf
  cases h : xs.findIdx? (fun y => x == y) with
  | none =>
    left
    rw [List.findIdx?_eq_none_iff] at h
    refine ⟨rfl, fun i hi e => ?_⟩
    have := h _ (List.getElem_mem hi)
    rw [e] at this; simp at this
  | some i =>
    right
    rw [List.findIdx?_eq_some_iff_getElem] at h
    obtain ⟨hi, hp, _⟩ := h
    exact ⟨i, hi, rfl, by rw [beq_iff_eq] at hp; exact hp.symm⟩
theorem info_parts {P : Program} {e : TypeId} {z : Value} {b : Nat} (h : (P.info? e).map (fun i => (i.zero, i.size, i.bytes)) = some (some z, 1, b)) : ∃ i, P.info? e = some i ∧ i.zero = some z ∧ i.size = 1 ∧ i.bytes = b := by
  obtain ⟨i, hi, hz⟩ := Option.map_eq_some_iff.1 h
  simp only [Prod.mk.injEq] at hz
  exact ⟨i, hi, hz.1, hz.2.1, hz.2.2⟩
end Go.Proofs.Lx
