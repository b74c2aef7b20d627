/- Parts of the proof: Pa, Pb, Pd, Wz, Xk. Plain laws of naive's rounds: coherent, consistent, monotone. -/
import Derived.Test.YtbidjiopnddldaaGreatP10
import Derived.Test.YtbidjiopnddldaaGreatP6
namespace Go.Proofs.Lx
open Go Go.RowKit
set_option linter.unusedSimpArgs false
set_option linter.unusedVariables false

theorem orM_bit (C : Nat → Bool) (x : Nat) : ∀ k j, (orM C x k).testBit j = (x.testBit j || (decide (j < k) && C j))
 | 0, j => by simp [orM]
 | k + 1, j => by
  unfold orM
  by_cases e : k = j
  ·subst e
   cases hc : C k with
   | true => rw [if_pos rfl, Nat.testBit_or, Nat.testBit_two_pow_self]; simp
   | false => rw [if_neg (by simp), orM_bit C x k k]; simp
  ·have h1 : decide (j < k + 1) = decide (j < k) := decide_eq_decide.2 (by omega)
   rw [h1]
   cases hc : C k with
   | true => rw [if_pos rfl, Nat.testBit_or, orM_bit C x k j, Nat.testBit_two_pow_of_ne e]; simp
   | false => rw [if_neg (by simp), orM_bit C x k j]
section
variable {T : Th} {F : List Bool} {RL : List (List Int)} {M M' : List Nat}
theorem hasM_nat (M : List Nat) (k : Nat) (q : Int) : hasM M k q = hasM M k (q.toNat : Int) := by unfold hasM; rw [Int.toNat_natCast]
theorem hasM_far {k : Nat} {q : Int} (h : M.length ≤ q.toNat) : hasM M k q = false := by
 unfold hasM; rw [List.getD_eq_getElem?_getD, List.getElem?_eq_none h]; simp
theorem hasM_round {k : Nat} {q : Int} (hq : q.toNat < M.length) : hasM (roundM T F RL M) k q = (hasM M k q || (decide (k < 4) && cnd T F RL M k (q.toNat : Int))) := by
 have : (roundM T F RL M).getD q.toNat 0 = orM (fun k => cnd T F RL M k (q.toNat : Int)) (M.getD q.toNat 0) 4 := by
  rw [List.getD_eq_getElem?_getD, List.getElem?_eq_getElem (by rw [roundM_length]; exact hq)]
  simp [roundM, rnd]
 unfold hasM
 rw [this, orM_bit]
/-- All the marks of one list are in another. -/
def Sub (M M' : List Nat) : Prop := ∀ k q, hasM M k q = true → hasM M' k q = true
theorem sub_round : Sub M (roundM T F RL M) := by
 intro k q h
 by_cases hq : q.toNat < M.length
 ·rw [hasM_round hq, h]; rfl
 ·rw [hasM_far (by omega)] at h; cases h
theorem whole_true {k : Nat} {r : Int} : wholeB T M k r = true ↔ ∀ x ∈ bodyAt T r, hasM M k x = true := by simp [wholeB]
theorem some_true {k : Nat} {r : Int} : someB T M k r = true ↔ ∃ x ∈ bodyAt T r, hasM M k x = true := by simp [someB]
theorem whole_mono (h : Sub M M') {k : Nat} {r : Int} (hr : wholeB T M k r = true) : wholeB T M' k r = true := whole_true.2 fun x hx => h _ _ (whole_true.1 hr x hx)
theorem some_mono (h : Sub M M') {k : Nat} {r : Int} (hr : someB T M k r = true) : someB T M' k r = true := by
 obtain ⟨x, hx, e⟩ := some_true.1 hr
 exact some_true.2 ⟨x, hx, h _ _ e⟩
theorem plusD_iff {q : Int} : cnd T F RL M 0 q = true ↔ F.getD q.toNat false = true ∨ ∃ r ∈ row RL q, strictB T r = true ∧ wholeB T M 0 r = true := by
 simp only [cnd, plusDB, pdR, Bool.or_eq_true, Bool.and_eq_true, List.any_eq_true]
theorem minusD_iff {q : Int} : cnd T F RL M 1 q = true ↔ F.getD q.toNat false = false ∧ ∀ r ∈ row RL q, strictB T r = true → someB T M 1 r = true := by
 simp only [cnd, minusDB, mdR, Bool.and_eq_true, Bool.not_eq_true', List.any_eq_false, Bool.not_eq_true, Bool.and_eq_false_iff, Bool.not_eq_false']
 refine and_congr Iff.rfl (forall₂_congr fun r _ => ?_)
 cases strictB T r <;> simp
theorem plusP_iff {q : Int} : cnd T F RL M 2 q = true ↔ hasM M 0 q = true ∨ ((∃ r ∈ row RL q, supB T r = true ∧ wholeB T M 2 r = true) ∧ (∀ f ∈ row T.foes q, hasM M 1 f = true) ∧
  ∀ f ∈ row T.foes q, ∀ s ∈ row RL f, someB T M 3 s = true ∨ ∃ r ∈ row RL q, supB T r = true ∧ beatsB T r s = true ∧ wholeB T M 2 r = true) := by
 simp only [cnd, plusPB, ppR, Bool.or_eq_true, Bool.and_eq_true, Bool.not_eq_true', List.any_eq_false, List.any_eq_true, Bool.not_eq_true, Bool.not_eq_false']
 refine or_congr Iff.rfl (and_congr Iff.rfl (and_congr (forall₂_congr fun f _ => by simp) (forall₂_congr fun f _ => ?_)))
 constructor
 ·intro h s hs
  cases h3 : someB T M 3 s with
  | true => exact .inl rfl
  | false =>
   refine .inr ?_
   cases ha : (row RL q).any (ppB T M s) with
   | true =>
    obtain ⟨r, hr, e⟩ := List.any_eq_true.1 ha
    simp only [ppB, Bool.and_eq_true] at e
    exact ⟨r, hr, e.1, e.2.1, e.2.2⟩
   | false => exact absurd ⟨s, hs, by simp [ppS, h3, ha]⟩ h
 ·rintro h ⟨s, hs, e⟩
  simp only [ppS, Bool.and_eq_true, Bool.not_eq_true'] at e
  rcases h s hs with h | ⟨r, hr, h1, h2, h3⟩
  ·rw [e.1] at h; cases h
  ·have := List.any_eq_false.1 e.2 r hr
   simp [ppB, h1, h2, h3] at this
theorem minusP_iff {q : Int} : cnd T F RL M 3 q = true ↔ hasM M 1 q = true ∧ ((∀ r ∈ row RL q, supB T r = true → someB T M 3 r = true) ∨ (∃ f ∈ row T.foes q, hasM M 0 f = true) ∨
  ∃ f ∈ row T.foes q, ∃ s ∈ row RL f, wholeB T M 2 s = true ∧ ∀ r ∈ row RL q, supB T r = true → beatsB T r s = true → someB T M 3 r = true) := by
 simp only [cnd, minusPB, Bool.or_eq_true, Bool.and_eq_true, Bool.not_eq_true', List.any_eq_true]
 refine and_congr Iff.rfl (or_congr ?_ (or_congr Iff.rfl ?_))
 ·rw [List.any_eq_false]
  refine forall₂_congr fun r _ => ?_
  simp only [mpR]
  cases supB T r <;> cases someB T M 3 r <;> simp
 ·refine exists_congr fun f => and_congr Iff.rfl (exists_congr fun s => and_congr Iff.rfl ?_)
  simp only [mpS, Bool.and_eq_true, Bool.not_eq_true']
  refine and_congr Iff.rfl ?_
  rw [List.any_eq_false]
  refine forall₂_congr fun r _ => ?_
  simp only [mpB]
  cases supB T r <;> cases beatsB T r s <;> cases someB T M 3 r <;> simp
theorem cnd_three (k : Nat) : cnd T F RL M (k + 3) = cnd T F RL M 3 := rfl
theorem cnd_mono (h : Sub M M') {k : Nat} {q : Int} (hc : cnd T F RL M k q = true) : cnd T F RL M' k q = true := by
 match k with
 | 0 =>
  rw [plusD_iff] at hc ⊢
  exact hc.imp id fun ⟨r, hr, h1, h2⟩ => ⟨r, hr, h1, whole_mono h h2⟩
 | 1 =>
  rw [minusD_iff] at hc ⊢
  exact ⟨hc.1, fun r hr h1 => some_mono h (hc.2 r hr h1)⟩
 | 2 =>
  rw [plusP_iff] at hc ⊢
  refine hc.imp (h _ _) fun ⟨⟨r, hr, h1, h2⟩, h3, h4⟩ => ⟨⟨r, hr, h1, whole_mono h h2⟩, fun f hf => h _ _ (h3 f hf), fun f hf s hs => ?_⟩
  exact (h4 f hf s hs).imp (some_mono h) fun ⟨r, hr, h1, h2, h3⟩ => ⟨r, hr, h1, h2, whole_mono h h3⟩
 | k + 3 =>
  rw [cnd_three, minusP_iff] at hc ⊢
  refine ⟨h _ _ hc.1, hc.2.imp (fun h1 r hr hs => some_mono h (h1 r hr hs)) (Or.imp (fun ⟨f, hf, h1⟩ => ⟨f, hf, h _ _ h1⟩) fun ⟨f, hf, s, hs, h1, h2⟩ => ⟨f, hf, s, hs, whole_mono h h1, fun r hr h3 h4 => some_mono h (h2 r hr h3 h4)⟩)⟩
theorem round_mono (hl : M.length = M'.length) (h : Sub M M') : Sub (roundM T F RL M) (roundM T F RL M') := by
 intro k q hq
 by_cases hlt : q.toNat < M.length
 ·rw [hasM_round hlt, Bool.or_eq_true, Bool.and_eq_true] at hq
  rw [hasM_round (by omega), Bool.or_eq_true, Bool.and_eq_true]
  exact hq.imp (h _ _) fun ⟨h1, h2⟩ => ⟨h1, cnd_mono h h2⟩
 ·rw [hasM_far (by rw [roundM_length]; omega)] at hq; cases hq
/-- What has a mark has its condition. -/
def Sup (T : Th) (F : List Bool) (RL : List (List Int)) (M : List Nat) : Prop := ∀ k q, k < 4 → hasM M k q = true → cnd T F RL M k (q.toNat : Int) = true
def Coh (M : List Nat) : Prop := ∀ q, ¬ (hasM M 0 q = true ∧ hasM M 1 q = true) ∧ ¬ (hasM M 2 q = true ∧ hasM M 3 q = true)
theorem whole_some (hc : Coh M) {r : Int} : (wholeB T M 0 r = true → someB T M 1 r = true → False) ∧ (wholeB T M 2 r = true → someB T M 3 r = true → False) :=
 ⟨fun h1 h2 => let ⟨x, hx, e⟩ := some_true.1 h2; (hc x).1 ⟨whole_true.1 h1 x hx, e⟩, fun h1 h2 => let ⟨x, hx, e⟩ := some_true.1 h2; (hc x).2 ⟨whole_true.1 h1 x hx, e⟩⟩
theorem coh_cnd (hc : Coh M) (q : Int) : ¬ (cnd T F RL M 0 q = true ∧ cnd T F RL M 1 q = true) ∧ ¬ (cnd T F RL M 2 q = true ∧ cnd T F RL M 3 q = true) := by
 constructor
 ·rintro ⟨h0, h1⟩
  rw [plusD_iff] at h0
  rw [minusD_iff] at h1
  rcases h0 with h0 | ⟨r, hr, hs, hw⟩
  ·rw [h1.1] at h0; cases h0
  ·exact (whole_some hc).1 hw (h1.2 r hr hs)
 ·rintro ⟨h0, h1⟩
  rw [plusP_iff] at h0
  rw [minusP_iff] at h1
  obtain ⟨h1, h3⟩ := h1
  rcases h0 with h0 | ⟨⟨r, hr, hs, hw⟩, hf, ha⟩
  ·exact (hc q).1 ⟨h0, h1⟩
  ·rcases h3 with h3 | ⟨f, hff, h3⟩ | ⟨f, hff, s, hs', hw', h3⟩
   ·exact (whole_some hc).2 hw (h3 r hr hs)
   ·exact (hc f).1 ⟨h3, hf f hff⟩
   ·rcases ha f hff s hs' with h4 | ⟨r', hr', h5, h6, h7⟩
    ·exact (whole_some hc).2 hw' h4
    ·exact (whole_some hc).2 h7 (h3 r' hr' h5 h6)
/-- Such as rounds make. -/
structure Made (T : Th) (F : List Bool) (RL : List (List Int)) (M : List Nat) : Prop where
 sup : Sup T F RL M
 coh : Coh M
 low : ∀ k q, hasM M k q = true → k < 4
 dd : ∀ q, hasM M 3 q = true → hasM M 1 q = true
theorem Made.round (h : Made T F RL M) : Made T F RL (roundM T F RL M) := by
 have key : ∀ k q, hasM (roundM T F RL M) k q = true → k < 4 ∧ cnd T F RL M k (q.toNat : Int) = true := by
  intro k q hq
  by_cases hlt : q.toNat < M.length
  ·rw [hasM_round hlt, Bool.or_eq_true, Bool.and_eq_true, decide_eq_true_eq] at hq
   rcases hq with hq | hq
   ·exact ⟨h.low _ _ hq, h.sup _ _ (h.low _ _ hq) hq⟩
   ·exact hq
  ·rw [hasM_far (by rw [roundM_length]; omega)] at hq; cases hq
 refine ⟨fun k q hk hq => cnd_mono sub_round (key k q hq).2, fun q => ⟨fun ⟨h1, h2⟩ => ?_, fun ⟨h1, h2⟩ => ?_⟩, fun k q hq => (key k q hq).1, fun q hq => ?_⟩
 ·exact (coh_cnd h.coh _).1 ⟨(key _ _ h1).2, (key _ _ h2).2⟩
 ·exact (coh_cnd h.coh _).2 ⟨(key _ _ h1).2, (key _ _ h2).2⟩
 ·have := (minusP_iff.1 (key _ _ hq).2).1
  rw [← hasM_nat] at this
  exact sub_round _ _ this
end
theorem hasM_start (T : Th) (k : Nat) (q : Int) : hasM (startM T) k q = false := by
 unfold hasM startM
 rw [List.getD_eq_getElem?_getD, List.getElem?_replicate]
 split <;> simp
theorem made_start (T : Th) (F : List Bool) (RL : List (List Int)) : Made T F RL (startM T) :=
 ⟨fun k q _ h => (by rw [hasM_start] at h; cases h), fun q => ⟨fun h => (by rw [hasM_start] at h; cases h.1), fun h => (by rw [hasM_start] at h; cases h.1)⟩, fun k q h => (by rw [hasM_start] at h; cases h), fun q h => (by rw [hasM_start] at h; cases h)⟩
theorem made_it (T : Th) (l : List Int) : ∀ k, Made T (factsB T.foes.length l) (rulesRows T.rules T.foes.length T.rules.length) (itM (stepM T l) k (startM T))
 | 0 => made_start _ _ _
 | k + 1 => (made_it T l k).round
theorem it_length (T : Th) (l : List Int) : ∀ k, (itM (stepM T l) k (startM T)).length = T.foes.length
 | 0 => by simp [itM, startM]
 | k + 1 => (roundM_length _ _ _ _).trans (it_length T l k)
theorem it_lt (T : Th) (l : List Int) : ∀ k, ∀ x ∈ itM (stepM T l) k (startM T), x < 256
 | 0 => fun x hx => by simp [itM, startM] at hx; omega
 | k + 1 => roundM_lt _ _ _ _ (it_lt T l k)
theorem it_sum (T : Th) (l : List Int) : ∀ k, (∀ j, j < k → itM (stepM T l) (j + 1) (startM T) ≠ itM (stepM T l) j (startM T)) → k ≤ (itM (stepM T l) k (startM T)).sum
 | 0, _ => Nat.zero_le _
 | k + 1, h => by
  have ih := it_sum T l k fun j hj => h j (by omega)
  have h1 := roundM_grows T (factsB T.foes.length l) (rulesRows T.rules T.foes.length T.rules.length) (itM (stepM T l) k (startM T))
  have h2 := h k (by omega)
  have h3 : (itM (stepM T l) k (startM T)).sum ≠ (roundM T (factsB T.foes.length l) (rulesRows T.rules T.foes.length T.rules.length) (itM (stepM T l) k (startM T))).sum := fun e => h2 (h1.2 e).symm
  show k + 1 ≤ (roundM T (factsB T.foes.length l) (rulesRows T.rules T.foes.length T.rules.length) (itM (stepM T l) k (startM T))).sum
  omega
/-- All that holds. -/
def solveM (T : Th) (l : List Int) : List Nat := itM (stepM T l) (255 * T.foes.length) (startM T)
theorem it_stay {f : List Nat → List Nat} {X : List Nat} {k : Nat} (h : f (itM f k X) = itM f k X) : ∀ d, itM f (k + d) X = itM f k X
 | 0 => rfl
 | d + 1 => by
  show f (itM f (k + d) X) = _
  rw [it_stay h d, h]
theorem solve_eq {T : Th} {l : List Int} {k : Nat} (h : stepM T l (itM (stepM T l) k (startM T)) = itM (stepM T l) k (startM T)) (hk : k ≤ 255 * T.foes.length) : itM (stepM T l) k (startM T) = solveM T l := by
 have := it_stay h (255 * T.foes.length - k)
 rw [show k + (255 * T.foes.length - k) = 255 * T.foes.length by omega] at this
 exact this.symm
theorem solve_run {T : Th} {l : List Int} {k : Nat} (h : stepM T l (itM (stepM T l) k (startM T)) = itM (stepM T l) k (startM T)) (hn : ∀ j, j < k → itM (stepM T l) (j + 1) (startM T) ≠ itM (stepM T l) j (startM T)) : itM (stepM T l) k (startM T) = solveM T l := by
 refine solve_eq h ?_
 have h1 := it_sum T l k hn
 have h2 := sum_bound _ (it_lt T l k)
 rw [it_length] at h2; omega
open Classical in
theorem solve_fix (T : Th) (l : List Int) : stepM T l (solveM T l) = solveM T l := by
 by_cases h : ∃ k, k ≤ 255 * T.foes.length ∧ stepM T l (itM (stepM T l) k (startM T)) = itM (stepM T l) k (startM T)
 ·obtain ⟨k, hk, h⟩ := h
  rw [← solve_eq h hk]; exact h
 ·exfalso
  have hn : ∀ j, j < 255 * T.foes.length + 1 → itM (stepM T l) (j + 1) (startM T) ≠ itM (stepM T l) j (startM T) := fun j hj e => h ⟨j, by omega, e⟩
  have h1 := it_sum T l _ hn
  have h2 := sum_bound _ (it_lt T l (255 * T.foes.length + 1))
  rw [it_length] at h2; omega
theorem solve_length (T : Th) (l : List Int) : (solveM T l).length = T.foes.length := it_length _ _ _
theorem solve_made (T : Th) (l : List Int) : Made T (factsB T.foes.length l) (rulesRows T.rules T.foes.length T.rules.length) (solveM T l) := made_it _ _ _
/-- At the end a condition that holds has its mark. -/
theorem solve_shut (T : Th) (l : List Int) {k : Nat} (hk : k < 4) {q : Nat} (hq : q < T.foes.length) (h : cnd T (factsB T.foes.length l) (rulesRows T.rules T.foes.length T.rules.length) (solveM T l) k (q : Int) = true) : hasM (solveM T l) k (q : Int) = true := by
 have e := solve_fix T l
 have := hasM_round (T := T) (F := factsB T.foes.length l) (RL := rulesRows T.rules T.foes.length T.rules.length) (M := solveM T l) (k := k) (q := (q : Int)) (by rw [solve_length]; simpa using hq)
 unfold stepM at e
 rw [e] at this
 rw [this, show ((q : Int).toNat : Int) = q by omega, h]; simp [hk]
def sixB (x : Nat) : Bool := ((List.range 8).any fun k => x.testBit k && decide (4 ≤ k)) || (x.testBit 0 && x.testBit 1) || (x.testBit 2 && x.testBit 3) || (x.testBit 3 && !x.testBit 1) || (x.testBit 0 && !x.testBit 2) || (x == 0 || x == 2 || x == 4 || x == 5 || x == 6 || x == 10)
theorem sixB_all : ∀ x : _root_.Fin 256, sixB x.val = true := by decide +kernel
theorem six (x : Nat) (hx : x < 256) (h0 : ∀ k, x.testBit k = true → k < 4) (h1 : ¬ (x.testBit 0 = true ∧ x.testBit 1 = true)) (h2 : ¬ (x.testBit 2 = true ∧ x.testBit 3 = true)) (h3 : x.testBit 3 = true → x.testBit 1 = true) (h4 : x.testBit 0 = true → x.testBit 2 = true) :
  x = 0 ∨ x = 2 ∨ x = 4 ∨ x = 5 ∨ x = 6 ∨ x = 10 := by
 have h := sixB_all ⟨x, hx⟩
 simp only [sixB, Bool.or_eq_true, beq_iff_eq] at h
 rcases h with ((((h | h) | h) | h) | h) | h
 ·obtain ⟨k, _, hk⟩ := List.any_eq_true.1 h
  rw [Bool.and_eq_true, decide_eq_true_eq] at hk
  have := h0 k hk.1; omega
 ·rw [Bool.and_eq_true] at h; exact absurd h h1
 ·rw [Bool.and_eq_true] at h; exact absurd h h2
 ·rw [Bool.and_eq_true, Bool.not_eq_true'] at h; have := h3 h.1; rw [h.2] at this; cases this
 ·rw [Bool.and_eq_true, Bool.not_eq_true'] at h; have := h4 h.1; rw [h.2] at this; cases this
 ·omega
theorem solve_six (T : Th) (l : List Int) (q : Nat) (hq : q < (solveM T l).length) : (solveM T l)[q] = 0 ∨ (solveM T l)[q] = 2 ∨ (solveM T l)[q] = 4 ∨ (solveM T l)[q] = 5 ∨ (solveM T l)[q] = 6 ∨ (solveM T l)[q] = 10 := by
 have hm := solve_made T l
 have h8 := it_lt T l (255 * T.foes.length) _ (List.getElem_mem hq)
 have hg : (solveM T l).getD ((q : Int).toNat) 0 = (solveM T l)[q] := by simp [hq]
 have hh : ∀ k, hasM (solveM T l) k (q : Int) = (solveM T l)[q].testBit k := by intro k; unfold hasM; rw [hg]
 have hc := hm.coh (q : Int)
 rw [hh, hh, hh, hh] at hc
 refine six _ h8 (fun k hk => hm.low k (q : Int) (by rw [hh]; exact hk)) hc.1 hc.2 (fun h => by have := hm.dd (q : Int) (by rw [hh]; exact h); rwa [hh] at this) (fun h => ?_)
 have := solve_shut T l (k := 2) (by omega) (q := q) (by rw [← solve_length T l]; exact hq) (plusP_iff.2 (.inl (by rw [hh]; exact h)))
 rwa [hh] at this
end Go.Proofs.Lx

namespace Go.Proofs.Lx
open Go Go.RowKit Go.Proofs.Tj
set_option linter.unusedSimpArgs false
set_option linter.unusedVariables false

theorem countP_lt {α : Type} {p q : α → Bool} : ∀ {l : List α} {x : α}, (∀ y ∈ l, p y = true → q y = true) → x ∈ l → q x = true → p x = false → l.countP p < l.countP q
 | [], x, _, hx, _, _ => by simp at hx
 | y :: l, x, h, hx, h1, h2 => by
  rw [List.countP_cons, List.countP_cons]
  have hle : l.countP p ≤ l.countP q := List.countP_mono_left fun z hz => h z (List.mem_cons_of_mem _ hz)
  by_cases e : x = y
  ·subst e
   rw [h1, h2]; simp; omega
  ·have hx' : x ∈ l := by simpa [e] using hx
   have ih := countP_lt (fun z hz => h z (List.mem_cons_of_mem _ hz)) hx' h1 h2
   have hy := h y List.mem_cons_self
   cases hp : p y with
   | false => simp; split <;> omega
   | true => rw [hy hp]; simp; omega

section
variable {T : Th} {l : List Int}
theorem row_nat (xs : List (List Int)) (q : Nat) (hq : q < xs.length) : row xs (q : Int) = xs[q] := by simp [row, hq]
theorem mem_heads {q : Nat} {r : Int} (hq : q < T.foes.length) : r ∈ row (rulesRows T.rules T.foes.length T.rules.length) (q : Int) ↔ ∃ i : Nat, i < T.rules.length ∧ r = i ∧ (T.rules.getD i default).head = q := by
 rw [row_nat _ _ (by rw [rulesRows_length]; exact hq), rulesRows_at _ _ _ hq]
 exact mem_rulesUpto
theorem foe_in (hwf : WfTh T) {i : Nat} (hi : i < T.foes.length) {f : Int} (hf : f ∈ T.foes[i]) : ∃ j : Nat, j < T.foes.length ∧ f = j ∧ j ≠ i ∧ (i : Int) ∈ row T.foes (j : Int) := by
 obtain ⟨h1, h2, h3, h4⟩ := foesOk_spec hwf.fo i hi
 obtain ⟨a, ha, e⟩ := List.getElem_of_mem hf
 have hb := (risB_spec h2).1 a ha
 rw [e] at hb
 have hfl := hwf.fl
 refine ⟨f.toNat, by omega, by omega, ?_, ?_⟩
 ·intro e2
  apply memB_false.1 h3
  have : (i : Int) = f := by omega
  rw [this]; exact hf
 ·have := memB_true.1 (h4 f hf)
  rw [show ((f.toNat : Nat) : Int) = f by omega]
  exact this
end
end Go.Proofs.Lx

namespace Go.Proofs.Lx
open Go Go.RowKit
set_option linter.unusedSimpArgs false
set_option linter.unusedVariables false

theorem itM_sub {T : Th} {l : List Int} {X : List Nat} (hlen : X.length = T.foes.length) (hX : stepM T l X = X) : ∀ k, Sub (itM (stepM T l) k (startM T)) X
 | 0 => fun k q h => by rw [itM, hasM_start] at h; cases h
 | k + 1 => by
  have h := round_mono (T := T) (F := factsB T.foes.length l) (RL := rulesRows T.rules T.foes.length T.rules.length) (by rw [it_length, hlen]) (itM_sub hlen hX k)
  intro j q hq
  have := h j q hq
  have e : roundM T (factsB T.foes.length l) (rulesRows T.rules T.foes.length T.rules.length) X = X := hX
  rwa [e] at this
theorem solve_least {T : Th} {l : List Int} {X : List Nat} (hlen : X.length = T.foes.length) (hX : stepM T l X = X) : Sub (solveM T l) X := itM_sub hlen hX _
end Go.Proofs.Lx

namespace Go.Proofs.Lx
open Go Go.RowKit
set_option linter.unusedVariables false
def pickL (p : Nat → Bool) (k : Nat) : List Int := ((List.range k).filter p).map fun (q : Nat) => (q : Int)
theorem pickL_succ (p : Nat → Bool) (k : Nat) : pickL p (k + 1) = pickL p k ++ if p k = true then [(k : Int)] else [] := by
 unfold pickL
 rw [List.range_succ, List.filter_append, List.map_append]
 congr 1
 cases h : p k <;> simp [h]
theorem pickL_le (p : Nat → Bool) (k : Nat) : (pickL p k).length ≤ k := by
 unfold pickL
 rw [List.length_map]
 have := List.length_filter_le p (List.range k)
 rwa [List.length_range] at this
theorem pickL_congr {p p' : Nat → Bool} {k : Nat} (h : ∀ q, q < k → p q = p' q) : pickL p k = pickL p' k := by
 unfold pickL
 rw [List.filter_congr fun q hq => h q (List.mem_range.1 hq)]
def IntsPost (w : World) (L : List Int) (c : Int) (r : Value) (w' : World) : Prop := ∃ v, r = .tuple #[v, .int .i64 c] ∧ w'.ownsRow w.heap.size 3 1 v L.length (intsV L) ∧ Below w.heap.size w w'
end Go.Proofs.Lx

namespace Go.Proofs.Lx
open Go Go.RowKit Go.Proofs.Tj
set_option linter.unusedSimpArgs false
set_option linter.unusedVariables false
/-- The cone of some literals: with a literal its foes and the heads of the rules in whose bodies it stands. -/
inductive InCone (T : Th) (o : List Int) : Nat → Prop
 | base {x : Nat} : (x : Int) ∈ o → InCone T o x
 | foe {q f : Nat} : InCone T o q → (f : Int) ∈ row T.foes (q : Int) → InCone T o f
 | head {i x h : Nat} : i < T.rules.length → (x : Int) ∈ (T.rules.getD i default).body → InCone T o x → (T.rules.getD i default).head = (h : Int) → InCone T o h
open Classical in
/-- The cone as a list. -/
noncomputable def coneL (T : Th) (o : List Int) : List Int := pickL (fun q => decide (InCone T o q)) T.foes.length
theorem ris_ge {l : List Int} (hp : l.Pairwise (· < ·)) (h0 : ∀ i (hi : i < l.length), 0 ≤ l[i]) : ∀ i (hi : i < l.length), (i : Int) ≤ l[i]
 | 0, hi => by simpa using h0 0 hi
 | i + 1, hi => by
  have h1 := List.pairwise_iff_getElem.1 hp i (i + 1) (by omega) hi (by omega)
  have h2 := ris_ge hp h0 i (by omega)
  omega
theorem ris_len {l : List Int} {n : Nat} (h : risB l (n : Int) = true) : l.length ≤ n := by
 obtain ⟨h1, h2⟩ := risB_spec h
 by_cases hl : l.length = 0
 ·omega
 ·have := ris_ge h2 (fun i hi => (h1 i hi).1) (l.length - 1) (by omega)
  have := (h1 (l.length - 1) (by omega)).2
  omega
theorem any_cong {α : Type} {l : List α} {f g : α → Bool} (h : ∀ x ∈ l, f x = g x) : l.any f = l.any g := by
 rw [Bool.eq_iff_iff, List.any_eq_true, List.any_eq_true]
 exact exists_congr fun x => and_congr_right fun hx => by rw [h x hx]
section
variable {T : Th} {o : List Int} {M M' : List Nat} {F F' : List Bool}
theorem cone_body (hwf : WfTh T) (hM : ∀ x : Nat, x < T.foes.length → ¬ InCone T o x → M.getD x 0 = M'.getD x 0) {p : Nat} (hp : p < T.foes.length) (hn : ¬ InCone T o p) {r : Int}
  (hr : r ∈ row (rulesRows T.rules T.foes.length T.rules.length) (p : Int)) (k : Nat) : wholeB T M k r = wholeB T M' k r ∧ someB T M k r = someB T M' k r := by
 obtain ⟨i, hi, rfl, hh⟩ := (mem_heads hp).1 hr
 have hok := hwf.ru _ (List.getElem_mem hi)
 simp only [ruleOk, Bool.and_eq_true, decide_eq_true_eq] at hok
 have hx : ∀ x ∈ bodyAt T (i : Int), hasM M k x = hasM M' k x := by
  intro x hx
  have e : bodyAt T (i : Int) = T.rules[i].body := by simp [bodyAt, hi]
  rw [e] at hx
  obtain ⟨j, hj, rfl⟩ := List.getElem_of_mem hx
  have hb := (risB_spec hok.2).1 j hj
  have hfl := hwf.fl
  unfold hasM
  rw [hM _ (by omega) fun hc => hn (.head hi (x := (T.rules[i].body[j]).toNat) ?_ hc hh)]
  rw [show ((T.rules[i].body[j].toNat : Nat) : Int) = T.rules[i].body[j] by omega]
  have e2 : T.rules.getD i default = T.rules[i] := by simp [hi]
  rw [e2]; exact hx
 refine ⟨?_, ?_⟩
 ·unfold wholeB
  rw [any_cong fun x h => by rw [hx x h]]
 ·exact any_cong fun x h => hx x h
theorem cone_cnd (hwf : WfTh T) (hM : ∀ x : Nat, x < T.foes.length → ¬ InCone T o x → M.getD x 0 = M'.getD x 0) (hF : ∀ x : Nat, x < T.foes.length → ¬ InCone T o x → F.getD x false = F'.getD x false) (k : Nat) {q : Nat} (hq : q < T.foes.length) (hn : ¬ InCone T o q) :
  cnd T F (rulesRows T.rules T.foes.length T.rules.length) M k (q : Int) = cnd T F' (rulesRows T.rules T.foes.length T.rules.length) M' k (q : Int) := by
 have hfoe : ∀ f ∈ row T.foes (q : Int), ∃ j : Nat, j < T.foes.length ∧ f = j ∧ ¬ InCone T o j := fun f hf => by
  rw [row_nat _ _ hq] at hf
  obtain ⟨j, h1, h2, _, h4⟩ := foe_in hwf hq hf
  exact ⟨j, h1, h2, fun hc => hn (.foe hc h4)⟩
 have hq1 : ∀ r ∈ row (rulesRows T.rules T.foes.length T.rules.length) (q : Int), ∀ k, wholeB T M k r = wholeB T M' k r ∧ someB T M k r = someB T M' k r := fun r hr k => cone_body hwf hM hq hn hr k
 have hf1 : ∀ f ∈ row T.foes (q : Int), ∀ r ∈ row (rulesRows T.rules T.foes.length T.rules.length) f, ∀ k, wholeB T M k r = wholeB T M' k r ∧ someB T M k r = someB T M' k r := fun f hf r hr k => by
  obtain ⟨j, hj, rfl, hjn⟩ := hfoe f hf
  exact cone_body hwf hM hj hjn hr k
 have hqm : ∀ k, hasM M k (q : Int) = hasM M' k (q : Int) := fun k => by unfold hasM; rw [Int.toNat_natCast, hM q hq hn]
 have hfm : ∀ f ∈ row T.foes (q : Int), ∀ k, hasM M k f = hasM M' k f := fun f hf k => by
  obtain ⟨j, hj, rfl, hjn⟩ := hfoe f hf
  unfold hasM; rw [Int.toNat_natCast, hM j hj hjn]
 have hqf : F.getD (q : Int).toNat false = F'.getD (q : Int).toNat false := by rw [Int.toNat_natCast]; exact hF q hq hn
 match k with
 | 0 =>
  rw [Bool.eq_iff_iff, plusD_iff, plusD_iff, hqf]
  exact or_congr Iff.rfl (exists_congr fun r => and_congr_right fun hr => by rw [(hq1 r hr 0).1])
 | 1 =>
  rw [Bool.eq_iff_iff, minusD_iff, minusD_iff, hqf]
  exact and_congr Iff.rfl (forall₂_congr fun r hr => by rw [(hq1 r hr 1).2])
 | 2 =>
  rw [Bool.eq_iff_iff, plusP_iff, plusP_iff, hqm 0]
  refine or_congr Iff.rfl (and_congr (exists_congr fun r => and_congr_right fun hr => by rw [(hq1 r hr 2).1]) (and_congr (forall₂_congr fun f hf => by rw [hfm f hf 1]) (forall₂_congr fun f hf => forall₂_congr fun s hs => ?_)))
  rw [(hf1 f hf s hs 3).2]
  exact or_congr Iff.rfl (exists_congr fun r => and_congr_right fun hr => by rw [(hq1 r hr 2).1])
 | k + 3 =>
  show cnd T F _ M 3 (q : Int) = cnd T F' _ M' 3 (q : Int)
  rw [Bool.eq_iff_iff, minusP_iff, minusP_iff, hqm 1]
  refine and_congr Iff.rfl (or_congr (forall₂_congr fun r hr => by rw [(hq1 r hr 3).2]) (or_congr (exists_congr fun f => and_congr_right fun hf => by rw [hfm f hf 0]) (exists_congr fun f => and_congr_right fun hf => exists_congr fun s => and_congr_right fun hs => ?_)))
  rw [(hf1 f hf s hs 2).1]
  exact and_congr Iff.rfl (forall₂_congr fun r hr => by rw [(hq1 r hr 3).2])
theorem cone_orM {C C' : Nat → Bool} (h : ∀ k, C k = C' k) (x : Nat) : ∀ n, orM C x n = orM C' x n
 | 0 => rfl
 | n + 1 => by simp only [orM, cone_orM h x n, h n]
theorem cone_step (hwf : WfTh T) {a b : List Int} (hodd : ∀ x : Nat, x < T.foes.length → ¬ InCone T o x → ((x : Int) ∈ a ↔ (x : Int) ∈ b)) (hl : M.length = T.foes.length) (hl' : M'.length = T.foes.length)
  (hM : ∀ x : Nat, x < T.foes.length → ¬ InCone T o x → M.getD x 0 = M'.getD x 0) {x : Nat} (hx : x < T.foes.length) (hn : ¬ InCone T o x) : (stepM T a M).getD x 0 = (stepM T b M').getD x 0 := by
 unfold stepM roundM rnd
 simp only [List.getD_eq_getElem?_getD, List.getElem?_map]
 rw [List.getElem?_range (by omega), List.getElem?_range (by omega)]
 simp only [Option.map_some, Option.getD_some]
 have h1 := hM x hx hn
 simp only [List.getD_eq_getElem?_getD] at h1
 rw [h1]
 refine cone_orM (fun k => cone_cnd hwf hM (fun y hy hny => ?_) k hx hn) _ _
 simp only [factsB, List.getD_eq_getElem?_getD, List.getElem?_map]
 rw [List.getElem?_range hy]
 simp only [Option.map_some, Option.getD_some]
 rw [Bool.eq_iff_iff, memB_true, memB_true]
 exact hodd y hy hny
theorem cone_solve (hwf : WfTh T) {a b : List Int} (hodd : ∀ x : Nat, x < T.foes.length → ¬ InCone T o x → ((x : Int) ∈ a ↔ (x : Int) ∈ b)) {x : Nat} (hx : x < T.foes.length) (hn : ¬ InCone T o x) :
  (solveM T a).getD x 0 = (solveM T b).getD x 0 := by
 have h : ∀ k, ∀ y : Nat, y < T.foes.length → ¬ InCone T o y → (itM (stepM T a) k (startM T)).getD y 0 = (itM (stepM T b) k (startM T)).getD y 0 := by
  intro k
  induction k with
  | zero => intro y _ _; rfl
  | succ k ih => intro y hy hny; exact cone_step hwf hodd (it_length T a k) (it_length T b k) ih hy hny
 exact h _ x hx hn
end
end Go.Proofs.Lx
