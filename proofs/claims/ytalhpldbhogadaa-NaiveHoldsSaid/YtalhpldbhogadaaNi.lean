/- Contract of naive.run. -/
import Derived.Test.YtalhpldbhogadaaNh
import Derived.Test.YtalhpldbhogadaaNe
namespace Go.Proofs.Lx
open Go Go.RowKit
set_option linter.unusedSimpArgs false
set_option linter.unusedVariables false

def itM (f : List Nat → List Nat) : Nat → List Nat → List Nat
  | 0, M => M
  | k + 1, M => f (itM f k M)
/-- One round over a theory and its facts. -/
def stepM (T : Th) (l : List Int) : List Nat → List Nat := roundM T (factsB T.foes.length l) (rulesRows T.rules T.foes.length T.rules.length)
def startM (T : Th) : List Nat := List.replicate T.foes.length 0
theorem roundM_length (T : Th) (F : List Bool) (RL : List (List Int)) (M : List Nat) : (roundM T F RL M).length = M.length := rnd_length _ _
theorem orM_ge {C : Nat → Bool} {x : Nat} : ∀ k, x ≤ orM C x k
  | 0 => Nat.le_refl _
  | k + 1 => by
    have ih := orM_ge (C := C) (x := x) k
    unfold orM
    split
    · exact Nat.le_trans ih Nat.left_le_or
    · exact ih
theorem sum_le : ∀ (X Y : List Nat), X.length = Y.length → (∀ i (h : i < X.length) (h' : i < Y.length), X[i] ≤ Y[i]) → X.sum ≤ Y.sum ∧ (X.sum = Y.sum → X = Y)
  | [], [], _, _ => ⟨Nat.le_refl _, fun _ => rfl⟩
  | x :: X, y :: Y, hl, h => by
    have h0 := h 0 (by simp) (by simp)
    have ih := sum_le X Y (by simpa using hl) (fun i h1 h2 => by have := h (i + 1) (by simp; omega) (by simp; omega); simpa using this)
    simp at h0
    simp only [List.sum_cons]
    refine ⟨by omega, fun e => ?_⟩
    have h1 : X.sum = Y.sum := by omega
    have h2 : x = y := by omega
    rw [h2, ih.2 h1]
theorem sum_bound : ∀ (X : List Nat), (∀ x ∈ X, x < 256) → X.sum ≤ 255 * X.length
  | [], _ => by simp
  | x :: X, h => by
    have := sum_bound X (fun y hy => h y (by simp [hy]))
    have := h x (by simp)
    simp only [List.sum_cons, List.length_cons]; omega
theorem roundM_grows (T : Th) (F : List Bool) (RL : List (List Int)) (M : List Nat) : M.sum ≤ (roundM T F RL M).sum ∧ (M.sum = (roundM T F RL M).sum → M = roundM T F RL M) := by
  refine sum_le _ _ (roundM_length _ _ _ _).symm (fun i h h' => ?_)
  have : M[i] = M.getD i 0 := by simp [h]
  rw [this]
  simp only [roundM, rnd, List.getElem_map, List.getElem_range]
  exact orM_ge _
theorem roundM_lt (T : Th) (F : List Bool) (RL : List (List Int)) (M : List Nat) (h : ∀ x ∈ M, x < 256) : ∀ x ∈ roundM T F RL M, x < 256 := rnd_lt h (by omega)
theorem nval {T : Th} (hwf : WfTh T) (l : List Int) (M : List Nat) (hM : M.length = T.foes.length) (h8 : ∀ x ∈ M, x < 256) : NVal T (factsB T.foes.length l) (rulesRows T.rules T.foes.length T.rules.length) M := by
  refine ⟨?_, factsB_length _ _, rulesRows_length _ _ _, hM, ?_, ?_, hwf.bl, h8⟩
  · intro q hq f hf
    obtain ⟨i, hi, rfl⟩ := List.getElem_of_mem hf
    have := (risB_spec (foesOk_spec hwf.fo q hq).2.1).1 i hi
    have h2 := hwf.fl; omega
  · intro q hq r hr
    rw [rulesRows_length] at hq
    rw [rulesRows_at _ _ _ hq] at hr
    obtain ⟨i, hi, rfl, _⟩ := mem_rulesUpto.1 hr
    omega
  · intro r hr x hx
    obtain ⟨i, hi, rfl⟩ := List.getElem_of_mem hx
    have h1 := hwf.ru _ (List.getElem_mem hr)
    simp only [ruleOk, Bool.and_eq_true] at h1
    have := (risB_spec h1.2).1 i hi
    have h2 := hwf.fl; omega
end Go.Proofs.Lx
