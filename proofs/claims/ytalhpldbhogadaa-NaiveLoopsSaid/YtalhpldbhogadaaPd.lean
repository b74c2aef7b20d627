/- Plain: the least list of marks; counts of marks. -/
import Derived.Test.YtalhpldbhogadaaPa
namespace Go.Proofs.Lx
open Go Go.RowKit
set_option linter.unusedSimpArgs false
set_option linter.unusedVariables false

theorem itM_sub {T : Th} {l : List Int} {X : List Nat} (hlen : X.length = T.foes.length) (hX : stepM T l X = X) : ∀ k, Sub (itM (stepM T l) k (startM T)) X
  | 0 => fun k q h => by rw [itM, hasM_start] at h; cases h
  | k + 1 => by
    have h := round_mono (T := T) (F := factsB T.foes.length l) (RL := rulesRows T.rules T.foes.length T.rules.length) (by rw [it_length, hlen]) (itM_sub hlen hX k)
    intro j q hq
    have := h j q hq
    have e : roundM T (factsB T.foes.length l) (rulesRows T.rules T.foes.length T.rules.length) X = X := hX
    rwa [e] at this
theorem solve_least {T : Th} {l : List Int} {X : List Nat} (hlen : X.length = T.foes.length) (hX : stepM T l X = X) : Sub (solveM T l) X := itM_sub hlen hX _
/-- One list's marks are the other's, place by place. -/
def Inb (X Y : List Nat) : Prop := X.length = Y.length ∧ ∀ i (h1 : i < X.length) (h2 : i < Y.length), X[i] &&& Y[i] = X[i]
theorem sub_inb {X Y : List Nat} (hl : X.length = Y.length) (h : Sub X Y) : Inb X Y := by
  refine ⟨hl, fun i h1 h2 => Nat.eq_of_testBit_eq fun j => ?_⟩
  rw [Nat.testBit_and]
  have e1 : hasM X j (i : Int) = X[i].testBit j := by unfold hasM; simp [h1]
  have e2 : hasM Y j (i : Int) = Y[i].testBit j := by unfold hasM; simp [h2]
  cases hb : X[i].testBit j with
  | false => rfl
  | true =>
    have := h j (i : Int) (by rw [e1]; exact hb)
    rw [e2] at this
    rw [this]; rfl
/-- How many of the four. -/
def cntB (x : Nat) : Nat := (if x.testBit 0 then 1 else 0) + (if x.testBit 1 then 1 else 0) + (if x.testBit 2 then 1 else 0) + (if x.testBit 3 then 1 else 0)
theorem cntB_or (C : Nat → Bool) (x : Nat) : cntB x ≤ cntB (orM C x 4) ∧ (cntB x = cntB (orM C x 4) → orM C x 4 = x) := by
  have hb := orM_bit C x 4
  have key : ∀ j, j < 4 → (if x.testBit j then 1 else 0) ≤ (if (orM C x 4).testBit j then 1 else 0) ∧ ((if x.testBit j then 1 else 0) = (if (orM C x 4).testBit j then 1 else 0) → (orM C x 4).testBit j = x.testBit j) := by
    intro j hj
    rw [hb j]
    cases x.testBit j <;> cases C j <;> simp [hj]
  have k0 := key 0 (by omega); have k1 := key 1 (by omega); have k2 := key 2 (by omega); have k3 := key 3 (by omega)
  unfold cntB
  refine ⟨by omega, fun e => Nat.eq_of_testBit_eq fun j => ?_⟩
  by_cases hj : j < 4
  · rcases (by omega : j = 0 ∨ j = 1 ∨ j = 2 ∨ j = 3) with rfl | rfl | rfl | rfl
    · exact k0.2 (by omega)
    · exact k1.2 (by omega)
    · exact k2.2 (by omega)
    · exact k3.2 (by omega)
  · rw [hb j]; simp [hj]
def cnt4 (X : List Nat) : Nat := (X.map cntB).sum
theorem cnt4_le : ∀ X : List Nat, cnt4 X ≤ 4 * X.length
  | [] => by simp [cnt4]
  | x :: X => by
    have := cnt4_le X
    have h : cntB x ≤ 4 := by unfold cntB; split <;> split <;> split <;> split <;> omega
    simp only [cnt4, List.map_cons, List.sum_cons, List.length_cons] at this ⊢; omega
theorem cnt4_lt : ∀ (X Y : List Nat), X.length = Y.length → (∀ i (h : i < X.length) (h' : i < Y.length), cntB X[i] ≤ cntB Y[i] ∧ (cntB X[i] = cntB Y[i] → Y[i] = X[i])) → cnt4 X ≤ cnt4 Y ∧ (cnt4 X = cnt4 Y → Y = X)
  | [], [], _, _ => ⟨Nat.le_refl _, fun _ => rfl⟩
  | x :: X, y :: Y, hl, h => by
    have h0 := h 0 (by simp) (by simp)
    have ih := cnt4_lt X Y (by simpa using hl) (fun i h1 h2 => by have := h (i + 1) (by simp; omega) (by simp; omega); simpa using this)
    simp only [List.getElem_cons_zero] at h0
    simp only [cnt4, List.map_cons, List.sum_cons] at ih ⊢
    refine ⟨by omega, fun e => ?_⟩
    rw [ih.2 (by omega), h0.2 (by omega)]
theorem cnt4_step (T : Th) (l : List Int) (X : List Nat) : cnt4 X ≤ cnt4 (stepM T l X) ∧ (cnt4 X = cnt4 (stepM T l X) → stepM T l X = X) := by
  refine cnt4_lt X _ (roundM_length _ _ _ _).symm fun i h h' => ?_
  have e : X[i] = X.getD i 0 := by simp [h]
  have e2 : (stepM T l X)[i] = orM (fun k => cnd T (factsB T.foes.length l) (rulesRows T.rules T.foes.length T.rules.length) X k (i : Int)) X[i] 4 := by
    rw [e]; simp [stepM, roundM, rnd]
  rw [e2]
  exact cntB_or _ _
theorem step_length (T : Th) (l : List Int) (X : List Nat) : (stepM T l X).length = X.length := roundM_length _ _ _ _
theorem step_lt (T : Th) (l : List Int) (X : List Nat) (h : ∀ x ∈ X, x < 256) : ∀ x ∈ stepM T l X, x < 256 := roundM_lt _ _ _ _ h
theorem step_sub (T : Th) (l : List Int) (X : List Nat) : Sub X (stepM T l X) := sub_round
theorem step_mono {T : Th} {l : List Int} {X Y : List Nat} (hl : X.length = Y.length) (h : Sub X Y) : Sub (stepM T l X) (stepM T l Y) := round_mono hl h
theorem andNot_zero (x y : Nat) (hx : x < 256) (hy : y < 256) (h : x &&& y = x) : bits .andNot .u8 (x : Int) (y : Int) = 0 := by
  have hz : (BitVec.ofNat 8 x &&& ~~~ BitVec.ofNat 8 y) = 0#8 := by
    apply BitVec.eq_of_getLsbD_eq
    intro i hi
    have h1 : (x &&& y).testBit i = x.testBit i := by rw [h]
    rw [Nat.testBit_and] at h1
    rw [BitVec.getLsbD_and, BitVec.getLsbD_not, BitVec.getLsbD_ofNat, BitVec.getLsbD_ofNat]
    cases hb : x.testBit i with
    | false => simp
    | true =>
      rw [hb] at h1
      have h2 : y.testBit i = true := by simpa using h1
      rw [h2]; simp [hi]
  have e : bits .andNot .u8 (x : Int) (y : Int) = IntKind.u8.wrap ((BitVec.ofNat 8 x &&& ~~~ BitVec.ofNat 8 y).toNat : Int) := by
    simp only [bits, BitVec.ofInt_natCast]; rfl
  rw [e, hz]; decide
/-- All the marks of two lists. -/
def orL (X Y : List Nat) (k : Nat) : List Nat := (List.range X.length).map fun q => if q < k then X.getD q 0 ||| Y.getD q 0 else X.getD q 0
theorem orL_length (X Y : List Nat) (k : Nat) : (orL X Y k).length = X.length := by simp [orL]
theorem orL_zero (X Y : List Nat) : orL X Y 0 = X := by
  apply List.ext_getElem
  · simp [orL]
  · intro i h1 h2; simp [orL, h2]
theorem orL_step (X Y : List Nat) (k : Nat) (hX : k < X.length) (hY : k < Y.length) : orL X Y (k + 1) = (orL X Y k).set k (X[k] ||| Y[k]) := by
  apply List.ext_getElem
  · simp [orL]
  · intro i h1 h2
    rw [orL_length] at h1
    rw [List.getElem_set]
    simp only [orL, List.getElem_map, List.getElem_range]
    by_cases e : k = i
    · subst e
      rw [if_pos rfl, if_pos (by omega)]; simp [hX, hY]
    · rw [if_neg e]
      by_cases e2 : i < k
      · rw [if_pos (by omega), if_pos e2]
      · rw [if_neg (by omega), if_neg e2]
theorem orL_at (X Y : List Nat) (k : Nat) (hX : k < (orL X Y k).length) (hX' : k < X.length) : (orL X Y k)[k] = X[k] := by simp [orL, hX']
theorem orL_lt {X Y : List Nat} (h1 : ∀ x ∈ X, x < 256) (h2 : ∀ x ∈ Y, x < 256) (k : Nat) : ∀ x ∈ orL X Y k, x < 256 := by
  intro x hx
  obtain ⟨q, hq, rfl⟩ := List.mem_map.1 hx
  have hq := List.mem_range.1 hq
  have hg : ∀ Z : List Nat, (∀ x ∈ Z, x < 256) → Z.getD q 0 < 256 := by
    intro Z hZ
    by_cases h : q < Z.length
    · have : Z.getD q 0 = Z[q] := by simp [h]
      rw [this]; exact hZ _ (List.getElem_mem h)
    · rw [List.getD_eq_getElem?_getD, List.getElem?_eq_none (by omega)]; simp
  split
  · exact Nat.or_lt_two_pow (n := 8) (hg X h1) (hg Y h2)
  · exact hg X h1
theorem orL_sub (X Y : List Nat) (k : Nat) : Sub X (orL X Y k) := by
  intro j q h
  by_cases hq : q.toNat < X.length
  · have e : hasM (orL X Y k) j q = ((orL X Y k)[q.toNat]'(by rw [orL_length]; exact hq)).testBit j := by unfold hasM; rw [List.getD_eq_getElem?_getD, List.getElem?_eq_getElem (by rw [orL_length]; exact hq), Option.getD_some]
    rw [e]
    have e1 : hasM X j q = (X.getD q.toNat 0).testBit j := rfl
    rw [e1] at h
    simp only [orL, List.getElem_map, List.getElem_range]
    split
    · rw [Nat.testBit_or, h]; rfl
    · exact h
  · rw [hasM_far (by omega)] at h; cases h
end Go.Proofs.Lx
