/- Plain: counts of edges, as Order keeps them. -/
import Derived.Test.YtmfnhpcddkkaaaaOa
namespace Go.Proofs.Tj
set_option linter.unusedVariables false

def occ (l : List Int) (q : Nat) : Nat := l.countP fun x => x == (q : Int)
def total (B : List (List Int)) : Nat := (B.map List.length).sum
theorem occ_le (l : List Int) (q : Nat) : occ l q ≤ l.length := List.countP_le_length
theorem occ_snoc (l : List Int) (x : Int) (q : Nat) : occ (l ++ [x]) q = occ l q + if x = (q : Int) then 1 else 0 := by
  unfold occ
  rw [List.countP_append]
  congr 1
  by_cases h : x = (q : Int)
  · rw [if_pos h, List.countP_cons_of_pos (by simp [h])]; rfl
  · rw [if_neg h, List.countP_cons_of_neg (by simp [h])]; rfl
theorem occ_take (l : List Int) (j : Nat) (h : j < l.length) (q : Nat) : occ (l.take (j + 1)) q = occ (l.take j) q + if l[j] = (q : Int) then 1 else 0 := by
  rw [List.take_succ_eq_append_getElem h, occ_snoc]
theorem occ_pos {l : List Int} {q : Nat} : 0 < occ l q ↔ (q : Int) ∈ l := by
  unfold occ
  rw [List.countP_pos_iff]
  constructor
  · rintro ⟨x, hx, h⟩; rw [beq_iff_eq] at h; rw [← h]; exact hx
  · intro h; exact ⟨_, h, by simp⟩
/-- Σ over y < n. -/
def sumTo (n : Nat) (f : Nat → Nat) : Nat := match n with | 0 => 0 | n + 1 => sumTo n f + f n
theorem sumTo_congr {n : Nat} {f g : Nat → Nat} (h : ∀ y, y < n → f y = g y) : sumTo n f = sumTo n g := by
  induction n with
  | zero => rfl
  | succ n ih => rw [sumTo, sumTo, ih fun y hy => h y (by omega), h n (by omega)]
theorem sumTo_mono {n : Nat} {f g : Nat → Nat} (h : ∀ y, y < n → f y ≤ g y) : sumTo n f ≤ sumTo n g := by
  induction n with
  | zero => exact Nat.le_refl _
  | succ n ih => rw [sumTo, sumTo]; have := ih fun y hy => h y (by omega); have := h n (by omega); omega
theorem sumTo_one {n : Nat} {f : Nat → Nat} {x : Nat} (hx : x < n) : sumTo n f = sumTo n (fun y => if y = x then 0 else f y) + f x := by
  induction n with
  | zero => omega
  | succ n ih =>
    rw [sumTo, sumTo]
    by_cases e : n = x
    · subst e
      rw [if_pos rfl, sumTo_congr (g := fun y => if y = n then 0 else f y) (fun y hy => by rw [if_neg (by omega)])]
      omega
    · rw [if_neg e, ih (by omega)]; omega
theorem sumTo_zero {n : Nat} {f : Nat → Nat} : sumTo n f = 0 ↔ ∀ y, y < n → f y = 0 := by
  induction n with
  | zero => simp [sumTo]
  | succ n ih =>
    rw [sumTo]
    constructor
    · intro h y hy
      by_cases e : y = n
      · subst e; omega
      · exact ih.1 (by omega) y (by omega)
    · intro h
      have := ih.2 fun y hy => h y (by omega)
      have := h n (by omega); omega
theorem sumTo_le_total (B : List (List Int)) : ∀ k, k ≤ B.length → sumTo k (fun y => (B.getD y []).length) + ((B.drop k).map List.length).sum = total B
  | 0, _ => by simp [sumTo, total]
  | k + 1, h => by
    have ih := sumTo_le_total B k (by omega)
    have hd : B.drop k = B[k] :: B.drop (k + 1) := by rw [List.drop_eq_getElem_cons (by omega)]
    rw [hd, List.map_cons, List.sum_cons] at ih
    have hg : B.getD k [] = B[k] := by simp [show k < B.length by omega]
    rw [sumTo, hg]; omega
/-- What the first loops have counted of q behind i rows. -/
def pre (B : List (List Int)) (i q : Nat) : Nat := sumTo i fun y => occ (B.getD y []) q
/-- What waits of q: edges from what is not taken. -/
def cntR (B : List (List Int)) (R : List Nat) (q : Nat) : Nat := sumTo B.length fun y => if y ∈ R then 0 else occ (B.getD y []) q
theorem pre_le (B : List (List Int)) {i q : Nat} (hi : i < B.length) (l : List Int) (hl : l.length ≤ (B.getD i []).length) : pre B i q + occ l q ≤ total B := by
  have h1 : pre B i q ≤ sumTo i fun y => (B.getD y []).length := sumTo_mono fun y _ => occ_le _ _
  have h2 := sumTo_le_total B (i + 1) hi
  rw [sumTo] at h2
  have h3 := occ_le l q
  omega
theorem cntR_le (B : List (List Int)) (R : List Nat) (q : Nat) : cntR B R q ≤ total B := by
  have h1 : cntR B R q ≤ sumTo B.length fun y => (B.getD y []).length := sumTo_mono fun y _ => by
    split
    · exact Nat.zero_le _
    · exact occ_le _ _
  have h2 := sumTo_le_total B B.length (Nat.le_refl _)
  omega
theorem cntR_nil (B : List (List Int)) (q : Nat) : cntR B [] q = pre B B.length q := by
  unfold cntR pre
  exact sumTo_congr fun y _ => by simp
theorem cntR_snoc (B : List (List Int)) (R : List Nat) {x : Nat} (hx : x < B.length) (hn : x ∉ R) (q : Nat) : cntR B R q = cntR B (R ++ [x]) q + occ (B.getD x []) q := by
  unfold cntR
  rw [sumTo_one hx, if_neg hn]
  congr 1
  refine sumTo_congr fun y _ => ?_
  by_cases e : y = x
  · subst e; simp
  · simp [e]
theorem cntR_zero {B : List (List Int)} {R : List Nat} {q : Nat} (hq : q < B.length) : cntR B R q = 0 ↔ ∀ y, y ∉ R → ¬ EdgeB B y q := by
  unfold cntR
  rw [sumTo_zero]
  constructor
  · intro h y hy he
    have := h y he.1
    rw [if_neg hy] at this
    have := occ_pos.2 he.2.2; omega
  · intro h y hy
    split
    · rfl
    · rename_i hn
      have := h y hn
      rcases Nat.eq_zero_or_pos (occ (B.getD y []) q) with h0 | h0
      · exact h0
      · exact absurd ⟨hy, hq, occ_pos.1 h0⟩ this
/-- The list of f's values. -/
def tabI (n : Nat) (f : Nat → Int) : List Int := (List.range n).map f
theorem tabI_length (n : Nat) (f : Nat → Int) : (tabI n f).length = n := by simp [tabI]
theorem tabI_at {n : Nat} (f : Nat → Int) {q : Nat} (h : q < (tabI n f).length) : (tabI n f)[q] = f q := by simp [tabI]
theorem tabI_set {n : Nat} (f : Nat → Int) (m : Nat) (v : Int) : (tabI n f).set m v = tabI n fun q => if q = m then v else f q := by
  apply List.ext_getElem
  · simp [tabI]
  · intro q h1 h2
    rw [List.getElem_set, tabI_at (fun q => if q = m then v else f q)]
    by_cases e : m = q
    · rw [if_pos e, if_pos e.symm]
    · rw [if_neg e, if_neg (fun x : q = m => e x.symm), tabI_at]
theorem tabI_congr {n : Nat} {f g : Nat → Int} (h : ∀ q, q < n → f q = g q) : tabI n f = tabI n g := by
  apply List.ext_getElem
  · simp [tabI]
  · intro q h1 h2
    rw [tabI_at, tabI_at]
    exact h q (by simpa [tabI] using h1)
end Go.Proofs.Tj
