/- naive's round, plain: and its contract. -/
import Derived.Test.YtalhpldbhogadaaNf
namespace Go.Proofs.Lx
open Go Go.RowKit
set_option linter.unusedSimpArgs false
set_option linter.unusedVariables false

def cnd (T : Th) (F : List Bool) (RL : List (List Int)) (M : List Nat) : Nat → Int → Bool
  | 0 => plusDB T F RL M
  | 1 => minusDB T F RL M
  | 2 => plusPB T RL M
  | _ => minusPB T RL M
def orM (C : Nat → Bool) (x : Nat) : Nat → Nat
  | 0 => x
  | k + 1 => if C k then orM C x k ||| 2 ^ k else orM C x k
def rnd (C : Nat → Int → Bool) (M : List Nat) (i j : Nat) : List Nat := (List.range M.length).map fun (q : Nat) => orM (fun k => C k (q : Int)) (M.getD q 0) (if q < j then i + 1 else i)
def roundM (T : Th) (F : List Bool) (RL : List (List Int)) (M : List Nat) : List Nat := rnd (cnd T F RL M) M 4 0
section
variable {C : Nat → Int → Bool} {M : List Nat}
theorem rnd_length (i j : Nat) : (rnd C M i j).length = M.length := by simp [rnd]
theorem rnd_zero : rnd C M 0 0 = M := by
  apply List.ext_getElem
  · simp [rnd]
  · intro q h1 h2; simp [rnd, orM, h2]
theorem rnd_next (i : Nat) : rnd C M i M.length = rnd C M (i + 1) 0 := by
  apply List.ext_getElem
  · simp [rnd]
  · intro q h1 h2
    rw [rnd_length] at h1
    simp [rnd, h1]
theorem rnd_skip {i j : Nat} (h : C i (j : Int) = false) : rnd C M i (j + 1) = rnd C M i j := by
  apply List.ext_getElem
  · simp [rnd]
  · intro q h1 h2
    rw [rnd_length] at h1
    simp only [rnd, List.getElem_map, List.getElem_range]
    by_cases e : q = j
    · subst e
      rw [if_pos (by omega), if_neg (by omega), orM, h]; rfl
    · by_cases e2 : q < j
      · rw [if_pos (by omega), if_pos e2]
      · rw [if_neg (by omega), if_neg e2]
theorem rnd_hit {i j : Nat} (h : C i (j : Int) = true) (hj : j < (rnd C M i j).length) : rnd C M i (j + 1) = (rnd C M i j).set j ((rnd C M i j)[j] ||| 2 ^ i) := by
  apply List.ext_getElem
  · simp [rnd]
  · intro q h1 h2
    rw [List.getElem_set]
    by_cases e : j = q
    · subst e
      rw [if_pos rfl]
      simp only [rnd, List.getElem_map, List.getElem_range]
      rw [if_pos (by omega), if_neg (by omega), orM, h]; rfl
    · rw [if_neg e]
      simp only [rnd, List.getElem_map, List.getElem_range]
      by_cases e2 : q < j
      · rw [if_pos (by omega), if_pos e2]
      · rw [if_neg (by omega), if_neg e2]
theorem orM_lt {C : Nat → Bool} {x : Nat} (hx : x < 256) : ∀ k, k ≤ 8 → orM C x k < 256
  | 0, _ => hx
  | k + 1, h => by
    have ih := orM_lt (C := C) hx k (by omega)
    unfold orM
    split
    · exact Nat.or_lt_two_pow (n := 8) ih (Nat.pow_lt_pow_right (by decide) (by omega))
    · exact ih
theorem rnd_lt (h : ∀ x ∈ M, x < 256) {i j : Nat} (hi : i < 8) : ∀ x ∈ rnd C M i j, x < 256 := by
  intro x hx
  obtain ⟨q, hq, rfl⟩ := List.mem_map.1 hx
  have hq := List.mem_range.1 hq
  refine orM_lt ?_ _ (by split <;> omega)
  have : M.getD q 0 = M[q] := by simp [hq]
  rw [this]; exact h _ (List.getElem_mem hq)
end
theorem bit_or (x : Nat) (hx : x < 256) (k : Nat) (hk : k < 4) : bits .or .u8 (x : Int) ((2 ^ k : Nat) : Int) = ((x ||| 2 ^ k : Nat) : Int) := by
  have h2 : 2 ^ k < 2 ^ 8 := Nat.pow_lt_pow_right (by decide) (by omega)
  exact (bits_nat .u8 8 (by decide) wraps_u8 x (2 ^ k) hx h2).2
end Go.Proofs.Lx
