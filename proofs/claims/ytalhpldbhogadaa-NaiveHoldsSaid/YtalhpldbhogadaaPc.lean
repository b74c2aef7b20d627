/- The page's examples for naive, plain. -/
import Derived.Test.YtalhpldbhogadaaPb
namespace Go.Proofs.Lx
open Go Go.RowKit Go.Proofs.Tj
set_option linter.unusedSimpArgs false
set_option linter.unusedVariables false

def exA : Th := ⟨3, [[1], [0], []], [⟨2, 0, [2]⟩, ⟨2, 1, []⟩], [[1], []]⟩
def exB : Th := ⟨3, [[1], [0], []], [⟨2, 0, [2]⟩, ⟨2, 1, []⟩], [[], []]⟩
theorem exA_edge {y z : Nat} (h : z ∈ adjN (beatsAt exA) y) : y = 0 ∧ z = 1 := by
  match y with
  | 0 => simpa [adjN, beatsAt, exA] using h
  | 1 => simp [adjN, beatsAt, exA] at h
  | y + 2 => simp [adjN, beatsAt, exA] at h
theorem exB_edge {y z : Nat} (h : z ∈ adjN (beatsAt exB) y) : False := by
  match y with
  | 0 => simp [adjN, beatsAt, exB] at h
  | 1 => simp [adjN, beatsAt, exB] at h
  | y + 2 => simp [adjN, beatsAt, exB] at h
theorem exA_leads {x y : Nat} (h : Leads (adjN (beatsAt exA)) x y) : x = y ∨ x = 0 ∧ y = 1 := by
  induction h with
  | refl => exact .inl rfl
  | step _ hz ih =>
    obtain ⟨rfl, rfl⟩ := exA_edge hz
    omega
theorem exB_leads {x y : Nat} (h : Leads (adjN (beatsAt exB)) x y) : x = y := by
  induction h with
  | refl => rfl
  | step _ hz ih => exact (exB_edge hz).elim
theorem exA_wf : WfTh exA := by
  refine ⟨by decide, by decide, by decide, by decide +kernel, by decide, ?_, by decide +kernel, by decide, by decide +kernel, fun x y _ _ h1 h2 => ?_⟩
  · exact List.all_eq_true.1 (by decide +kernel)
  · have := exA_leads h1; have := exA_leads h2; omega
theorem exB_wf : WfTh exB := by
  refine ⟨by decide, by decide, by decide, by decide +kernel, by decide, ?_, by decide +kernel, by decide, by decide +kernel, fun x y _ _ h1 h2 => exB_leads h1⟩
  exact List.all_eq_true.1 (by decide +kernel)
theorem exA_solve : solveM exA [2] = [6, 10, 5] := by
  rw [← solve_eq (k := 4) (by decide +kernel) (by decide)]
  decide +kernel
theorem exB_solve : solveM exB [2] = [10, 10, 5] := by
  rw [← solve_eq (k := 4) (by decide +kernel) (by decide)]
  decide +kernel
end Go.Proofs.Lx
