/- Contract of the reference's back (layer 12): does a rule come back to itself? -/
import Derived.Test.YtalhpldbhogadaaSb
import Derived.Test.YtalhpldbhogadaaPb
import Derived.WalkSmall
namespace Go.Proofs.Lx
open Go Go.RowKit Go.Proofs.Tj
set_option linter.unusedSimpArgs false
set_option linter.unusedVariables false

/-- Over one edge or more. -/
def Comes (adj : Nat → List Nat) (x y : Nat) : Prop := ∃ z, z ∈ adj x ∧ Leads adj z y
theorem leads_comes {adj : Nat → List Nat} {x y : Nat} (h : Leads adj x y) : x = y ∨ Comes adj x y := by
  induction h with
  | refl => exact .inl rfl
  | @step y z h1 hz ih =>
    right
    rcases ih with rfl | ⟨u, hu, h2⟩
    · exact ⟨z, hz, .refl z⟩
    · exact ⟨u, hu, .step h2 hz⟩
/-- The walk's state: seen, todo (Nat), the one that is being looked at. -/
structure BK (adj : Nat → List Nat) (n r : Nat) (seen : Nat → Bool) (todo : List Nat) : Prop where
  lt : ∀ x ∈ todo, x < n
  td : ∀ x ∈ todo, x = r ∨ seen x = true
  fr : ∀ x, x < n → seen x = true → Comes adj r x
  cl : ∀ x, x < n → (x = r ∨ seen x = true) → x ∉ todo → ∀ y ∈ adj x, y ≠ r ∧ seen y = true
theorem BK.none {adj : Nat → List Nat} {n r : Nat} {seen : Nat → Bool} (h : BK adj n r seen []) (hr : r < n) (hadj : ∀ x, x < n → ∀ y ∈ adj x, y < n) : ¬ Comes adj r r := by
  have key : ∀ x y, Leads adj x y → x < n → seen x = true → y < n ∧ seen y = true := by
    intro x y hl hx hs
    induction hl with
    | refl => exact ⟨hx, hs⟩
    | step h1 hz ih => exact ⟨hadj _ ih.1 _ hz, (h.cl _ ih.1 (.inr ih.2) (by simp) _ hz).2⟩
  rintro ⟨z, hz, hl⟩
  have hzn := hadj r hr z hz
  have hzs := (h.cl r hr (.inl rfl) (by simp) z hz).2
  -- the last step comes from a seen one
  have last : ∀ x y, Leads adj x y → x ≠ y → ∃ u, Leads adj x u ∧ y ∈ adj u := by
    intro x y hl hne
    cases hl with
    | refl => exact absurd rfl hne
    | step h1 h2 => exact ⟨_, h1, h2⟩
  by_cases e : z = r
  · exact (h.cl r hr (.inl rfl) (by simp) z hz).1 e
  · obtain ⟨u, hu, hru⟩ := last z r hl e
    obtain ⟨hun, hus⟩ := key z u hu hzn hzs
    exact (h.cl u hun (.inr hus) (by simp) r hru).1 rfl
def unseen (n : Nat) (seen : Nat → Bool) : Nat := (List.range n).countP fun x => !seen x
theorem unseen_lt {n : Nat} {seen : Nat → Bool} {y : Nat} (hy : y < n) (hs : seen y = false) : unseen n (fun x => if x = y then true else seen x) < unseen n seen := by
  refine countP_lt (x := y) (fun x _ hx => ?_) (List.mem_range.2 hy) (by simp [hs]) (by simp)
  by_cases e : x = y
  · subst e; simp at hx
  · simpa [e] using hx
end Go.Proofs.Lx
