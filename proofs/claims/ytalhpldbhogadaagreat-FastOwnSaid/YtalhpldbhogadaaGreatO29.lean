/- Parts of the proof: Ni, Nj, Pa, Nk, Ep. Contract of naive.run. -/
import Derived.Test.YtalhpldbhogadaaGreatO28
import Derived.Deep.DeepCutAuto
import Derived.Test.YtalhpldbhogadaaGreatO14
namespace Go.Proofs.Lx
open Go Go.RowKit
set_option linter.unusedSimpArgs false
set_option linter.unusedVariables false

def itM (f : List Nat → List Nat) : Nat → List Nat → List Nat
 | 0, M => M
 | k + 1, M => f (itM f k M)
/-- One round over a theory and its facts. -/
def stepM (T : Th) (l : List Int) : List Nat → List Nat := roundM T (factsB T.foes.length l) (rulesRows T.rules T.foes.length T.rules.length)
def startM (T : Th) : List Nat := List.replicate T.foes.length 0
theorem roundM_length (T : Th) (F : List Bool) (RL : List (List Int)) (M : List Nat) : (roundM T F RL M).length = M.length := rnd_length _ _
theorem orM_ge {C : Nat → Bool} {x : Nat} : ∀ k, x ≤ orM C x k
 | 0 => Nat.le_refl _
 | k + 1 => by
  have ih := orM_ge (C := C) (x := x) k
  unfold orM
  split
  ·exact Nat.le_trans ih Nat.left_le_or
  ·exact ih
theorem sum_le : ∀ (X Y : List Nat), X.length = Y.length → (∀ i (h : i < X.length) (h' : i < Y.length), X[i] ≤ Y[i]) → X.sum ≤ Y.sum ∧ (X.sum = Y.sum → X = Y)
 | [], [], _, _ => ⟨Nat.le_refl _, fun _ => rfl⟩
 | x :: X, y :: Y, hl, h => by
  have h0 := h 0 (by simp) (by simp)
  have ih := sum_le X Y (by simpa using hl) (fun i h1 h2 => by have := h (i + 1) (by simp; omega) (by simp; omega); simpa using this)
  simp at h0
  simp only [List.sum_cons]
  refine ⟨by omega, fun e => ?_⟩
  have h1 : X.sum = Y.sum := by omega
  have h2 : x = y := by omega
  rw [h2, ih.2 h1]
theorem sum_bound : ∀ (X : List Nat), (∀ x ∈ X, x < 256) → X.sum ≤ 255 * X.length
 | [], _ => by simp
 | x :: X, h => by
  have := sum_bound X (fun y hy => h y (by simp [hy]))
  have := h x (by simp)
  simp only [List.sum_cons, List.length_cons]; omega
theorem roundM_grows (T : Th) (F : List Bool) (RL : List (List Int)) (M : List Nat) : M.sum ≤ (roundM T F RL M).sum ∧ (M.sum = (roundM T F RL M).sum → M = roundM T F RL M) := by
 refine sum_le _ _ (roundM_length _ _ _ _).symm (fun i h h' => ?_)
 have : M[i] = M.getD i 0 := by simp [h]
 rw [this]
 simp only [roundM, rnd, List.getElem_map, List.getElem_range]
 exact orM_ge _
theorem roundM_lt (T : Th) (F : List Bool) (RL : List (List Int)) (M : List Nat) (h : ∀ x ∈ M, x < 256) : ∀ x ∈ roundM T F RL M, x < 256 := rnd_lt h (by omega)
theorem nval {T : Th} (hwf : WfTh T) (l : List Int) (M : List Nat) (hM : M.length = T.foes.length) (h8 : ∀ x ∈ M, x < 256) : NVal T (factsB T.foes.length l) (rulesRows T.rules T.foes.length T.rules.length) M := by
 refine ⟨?_, factsB_length _ _, rulesRows_length _ _ _, hM, ?_, ?_, hwf.bl, h8⟩
 ·intro q hq f hf
  obtain ⟨i, hi, rfl⟩ := List.getElem_of_mem hf
  have := (risB_spec (foesOk_spec hwf.fo q hq).2.1).1 i hi
  have h2 := hwf.fl; omega
 ·intro q hq r hr
  rw [rulesRows_length] at hq
  rw [rulesRows_at _ _ _ hq] at hr
  obtain ⟨i, hi, rfl, _⟩ := mem_rulesUpto.1 hr
  omega
 ·intro r hr x hx
  obtain ⟨i, hi, rfl⟩ := List.getElem_of_mem hx
  have h1 := hwf.ru _ (List.getElem_mem hr)
  simp only [ruleOk, Bool.and_eq_true] at h1
  have := (risB_spec h1.2).1 i hi
  have h2 := hwf.fl; omega
end Go.Proofs.Lx

namespace Go.Proofs.Lx
open Go Go.RowKit
set_option linter.unusedSimpArgs false
set_option linter.unusedVariables false

theorem own_mono {w : World} {base base' e size n : Nat} {v : Value} {xs : List Value} (h : w.ownsRow base e size v n xs) (hb : base' ≤ base) : w.ownsRow base' e size v n xs :=
 ⟨h.1, h.2.imp id fun ⟨g, cap, cur, h1, h2, h3⟩ => ⟨g, cap, cur, h1, Nat.le_trans hb h2, h3⟩⟩

end Go.Proofs.Lx

namespace Go.Proofs.Lx
open Go Go.RowKit
set_option linter.unusedSimpArgs false
set_option linter.unusedVariables false

theorem orM_bit (C : Nat → Bool) (x : Nat) : ∀ k j, (orM C x k).testBit j = (x.testBit j || (decide (j < k) && C j))
 | 0, j => by simp [orM]
 | k + 1, j => by
  unfold orM
  by_cases e : k = j
  ·subst e
   cases hc : C k with
   | true => rw [if_pos rfl, Nat.testBit_or, Nat.testBit_two_pow_self]; simp
   | false => rw [if_neg (by simp), orM_bit C x k k]; simp
  ·have h1 : decide (j < k + 1) = decide (j < k) := decide_eq_decide.2 (by omega)
   rw [h1]
   cases hc : C k with
   | true => rw [if_pos rfl, Nat.testBit_or, orM_bit C x k j, Nat.testBit_two_pow_of_ne e]; simp
   | false => rw [if_neg (by simp), orM_bit C x k j]
section
variable {T : Th} {F : List Bool} {RL : List (List Int)} {M M' : List Nat}
theorem hasM_nat (M : List Nat) (k : Nat) (q : Int) : hasM M k q = hasM M k (q.toNat : Int) := by unfold hasM; rw [Int.toNat_natCast]
theorem hasM_far {k : Nat} {q : Int} (h : M.length ≤ q.toNat) : hasM M k q = false := by
 unfold hasM; rw [List.getD_eq_getElem?_getD, List.getElem?_eq_none h]; simp
theorem hasM_round {k : Nat} {q : Int} (hq : q.toNat < M.length) : hasM (roundM T F RL M) k q = (hasM M k q || (decide (k < 4) && cnd T F RL M k (q.toNat : Int))) := by
 have : (roundM T F RL M).getD q.toNat 0 = orM (fun k => cnd T F RL M k (q.toNat : Int)) (M.getD q.toNat 0) 4 := by
  rw [List.getD_eq_getElem?_getD, List.getElem?_eq_getElem (by rw [roundM_length]; exact hq)]
  simp [roundM, rnd]
 unfold hasM
 rw [this, orM_bit]
/-- All the marks of one list are in another. -/
def Sub (M M' : List Nat) : Prop := ∀ k q, hasM M k q = true → hasM M' k q = true
theorem sub_round : Sub M (roundM T F RL M) := by
 intro k q h
 by_cases hq : q.toNat < M.length
 ·rw [hasM_round hq, h]; rfl
 ·rw [hasM_far (by omega)] at h; cases h
theorem whole_true {k : Nat} {r : Int} : wholeB T M k r = true ↔ ∀ x ∈ bodyAt T r, hasM M k x = true := by simp [wholeB]
theorem some_true {k : Nat} {r : Int} : someB T M k r = true ↔ ∃ x ∈ bodyAt T r, hasM M k x = true := by simp [someB]
theorem whole_mono (h : Sub M M') {k : Nat} {r : Int} (hr : wholeB T M k r = true) : wholeB T M' k r = true := whole_true.2 fun x hx => h _ _ (whole_true.1 hr x hx)
theorem some_mono (h : Sub M M') {k : Nat} {r : Int} (hr : someB T M k r = true) : someB T M' k r = true := by
 obtain ⟨x, hx, e⟩ := some_true.1 hr
 exact some_true.2 ⟨x, hx, h _ _ e⟩
theorem plusD_iff {q : Int} : cnd T F RL M 0 q = true ↔ F.getD q.toNat false = true ∨ ∃ r ∈ row RL q, strictB T r = true ∧ wholeB T M 0 r = true := by
 simp only [cnd, plusDB, pdR, Bool.or_eq_true, Bool.and_eq_true, List.any_eq_true]
theorem minusD_iff {q : Int} : cnd T F RL M 1 q = true ↔ F.getD q.toNat false = false ∧ ∀ r ∈ row RL q, strictB T r = true → someB T M 1 r = true := by
 simp only [cnd, minusDB, mdR, Bool.and_eq_true, Bool.not_eq_true', List.any_eq_false, Bool.not_eq_true, Bool.and_eq_false_iff, Bool.not_eq_false']
 refine and_congr Iff.rfl (forall₂_congr fun r _ => ?_)
 cases strictB T r <;> simp
theorem plusP_iff {q : Int} : cnd T F RL M 2 q = true ↔ hasM M 0 q = true ∨ ((∃ r ∈ row RL q, supB T r = true ∧ wholeB T M 2 r = true) ∧ (∀ f ∈ row T.foes q, hasM M 1 f = true) ∧
  ∀ f ∈ row T.foes q, ∀ s ∈ row RL f, someB T M 3 s = true ∨ ∃ r ∈ row RL q, supB T r = true ∧ beatsB T r s = true ∧ wholeB T M 2 r = true) := by
 simp only [cnd, plusPB, ppR, Bool.or_eq_true, Bool.and_eq_true, Bool.not_eq_true', List.any_eq_false, List.any_eq_true, Bool.not_eq_true, Bool.not_eq_false']
 refine or_congr Iff.rfl (and_congr Iff.rfl (and_congr (forall₂_congr fun f _ => by simp) (forall₂_congr fun f _ => ?_)))
 constructor
 ·intro h s hs
  cases h3 : someB T M 3 s with
  | true => exact .inl rfl
  | false =>
   refine .inr ?_
   cases ha : (row RL q).any (ppB T M s) with
   | true =>
    obtain ⟨r, hr, e⟩ := List.any_eq_true.1 ha
    simp only [ppB, Bool.and_eq_true] at e
    exact ⟨r, hr, e.1, e.2.1, e.2.2⟩
   | false => exact absurd ⟨s, hs, by simp [ppS, h3, ha]⟩ h
 ·rintro h ⟨s, hs, e⟩
  simp only [ppS, Bool.and_eq_true, Bool.not_eq_true'] at e
  rcases h s hs with h | ⟨r, hr, h1, h2, h3⟩
  ·rw [e.1] at h; cases h
  ·have := List.any_eq_false.1 e.2 r hr
   simp [ppB, h1, h2, h3] at this
theorem minusP_iff {q : Int} : cnd T F RL M 3 q = true ↔ hasM M 1 q = true ∧ ((∀ r ∈ row RL q, supB T r = true → someB T M 3 r = true) ∨ (∃ f ∈ row T.foes q, hasM M 0 f = true) ∨
  ∃ f ∈ row T.foes q, ∃ s ∈ row RL f, wholeB T M 2 s = true ∧ ∀ r ∈ row RL q, supB T r = true → beatsB T r s = true → someB T M 3 r = true) := by
 simp only [cnd, minusPB, Bool.or_eq_true, Bool.and_eq_true, Bool.not_eq_true', List.any_eq_true]
 refine and_congr Iff.rfl (or_congr ?_ (or_congr Iff.rfl ?_))
 ·rw [List.any_eq_false]
  refine forall₂_congr fun r _ => ?_
  simp only [mpR]
  cases supB T r <;> cases someB T M 3 r <;> simp
 ·refine exists_congr fun f => and_congr Iff.rfl (exists_congr fun s => and_congr Iff.rfl ?_)
  simp only [mpS, Bool.and_eq_true, Bool.not_eq_true']
  refine and_congr Iff.rfl ?_
  rw [List.any_eq_false]
  refine forall₂_congr fun r _ => ?_
  simp only [mpB]
  cases supB T r <;> cases beatsB T r s <;> cases someB T M 3 r <;> simp
theorem cnd_three (k : Nat) : cnd T F RL M (k + 3) = cnd T F RL M 3 := rfl
theorem cnd_mono (h : Sub M M') {k : Nat} {q : Int} (hc : cnd T F RL M k q = true) : cnd T F RL M' k q = true := by
 match k with
 | 0 =>
  rw [plusD_iff] at hc ⊢
  exact hc.imp id fun ⟨r, hr, h1, h2⟩ => ⟨r, hr, h1, whole_mono h h2⟩
 | 1 =>
  rw [minusD_iff] at hc ⊢
  exact ⟨hc.1, fun r hr h1 => some_mono h (hc.2 r hr h1)⟩
 | 2 =>
  rw [plusP_iff] at hc ⊢
  refine hc.imp (h _ _) fun ⟨⟨r, hr, h1, h2⟩, h3, h4⟩ => ⟨⟨r, hr, h1, whole_mono h h2⟩, fun f hf => h _ _ (h3 f hf), fun f hf s hs => ?_⟩
  exact (h4 f hf s hs).imp (some_mono h) fun ⟨r, hr, h1, h2, h3⟩ => ⟨r, hr, h1, h2, whole_mono h h3⟩
 | k + 3 =>
  rw [cnd_three, minusP_iff] at hc ⊢
  refine ⟨h _ _ hc.1, hc.2.imp (fun h1 r hr hs => some_mono h (h1 r hr hs)) (Or.imp (fun ⟨f, hf, h1⟩ => ⟨f, hf, h _ _ h1⟩) fun ⟨f, hf, s, hs, h1, h2⟩ => ⟨f, hf, s, hs, whole_mono h h1, fun r hr h3 h4 => some_mono h (h2 r hr h3 h4)⟩)⟩
theorem round_mono (hl : M.length = M'.length) (h : Sub M M') : Sub (roundM T F RL M) (roundM T F RL M') := by
 intro k q hq
 by_cases hlt : q.toNat < M.length
 ·rw [hasM_round hlt, Bool.or_eq_true, Bool.and_eq_true] at hq
  rw [hasM_round (by omega), Bool.or_eq_true, Bool.and_eq_true]
  exact hq.imp (h _ _) fun ⟨h1, h2⟩ => ⟨h1, cnd_mono h h2⟩
 ·rw [hasM_far (by rw [roundM_length]; omega)] at hq; cases hq
/-- What has a mark has its condition. -/
def Sup (T : Th) (F : List Bool) (RL : List (List Int)) (M : List Nat) : Prop := ∀ k q, k < 4 → hasM M k q = true → cnd T F RL M k (q.toNat : Int) = true
def Coh (M : List Nat) : Prop := ∀ q, ¬ (hasM M 0 q = true ∧ hasM M 1 q = true) ∧ ¬ (hasM M 2 q = true ∧ hasM M 3 q = true)
theorem whole_some (hc : Coh M) {r : Int} : (wholeB T M 0 r = true → someB T M 1 r = true → False) ∧ (wholeB T M 2 r = true → someB T M 3 r = true → False) :=
 ⟨fun h1 h2 => let ⟨x, hx, e⟩ := some_true.1 h2; (hc x).1 ⟨whole_true.1 h1 x hx, e⟩, fun h1 h2 => let ⟨x, hx, e⟩ := some_true.1 h2; (hc x).2 ⟨whole_true.1 h1 x hx, e⟩⟩
theorem coh_cnd (hc : Coh M) (q : Int) : ¬ (cnd T F RL M 0 q = true ∧ cnd T F RL M 1 q = true) ∧ ¬ (cnd T F RL M 2 q = true ∧ cnd T F RL M 3 q = true) := by
 constructor
 ·rintro ⟨h0, h1⟩
  rw [plusD_iff] at h0
  rw [minusD_iff] at h1
  rcases h0 with h0 | ⟨r, hr, hs, hw⟩
  ·rw [h1.1] at h0; cases h0
  ·exact (whole_some hc).1 hw (h1.2 r hr hs)
 ·rintro ⟨h0, h1⟩
  rw [plusP_iff] at h0
  rw [minusP_iff] at h1
  obtain ⟨h1, h3⟩ := h1
  rcases h0 with h0 | ⟨⟨r, hr, hs, hw⟩, hf, ha⟩
  ·exact (hc q).1 ⟨h0, h1⟩
  ·rcases h3 with h3 | ⟨f, hff, h3⟩ | ⟨f, hff, s, hs', hw', h3⟩
   ·exact (whole_some hc).2 hw (h3 r hr hs)
   ·exact (hc f).1 ⟨h3, hf f hff⟩
   ·rcases ha f hff s hs' with h4 | ⟨r', hr', h5, h6, h7⟩
    ·exact (whole_some hc).2 hw' h4
    ·exact (whole_some hc).2 h7 (h3 r' hr' h5 h6)
/-- Such as rounds make. -/
structure Made (T : Th) (F : List Bool) (RL : List (List Int)) (M : List Nat) : Prop where
 sup : Sup T F RL M
 coh : Coh M
 low : ∀ k q, hasM M k q = true → k < 4
 dd : ∀ q, hasM M 3 q = true → hasM M 1 q = true
theorem Made.round (h : Made T F RL M) : Made T F RL (roundM T F RL M) := by
 have key : ∀ k q, hasM (roundM T F RL M) k q = true → k < 4 ∧ cnd T F RL M k (q.toNat : Int) = true := by
  intro k q hq
  by_cases hlt : q.toNat < M.length
  ·rw [hasM_round hlt, Bool.or_eq_true, Bool.and_eq_true, decide_eq_true_eq] at hq
   rcases hq with hq | hq
   ·exact ⟨h.low _ _ hq, h.sup _ _ (h.low _ _ hq) hq⟩
   ·exact hq
  ·rw [hasM_far (by rw [roundM_length]; omega)] at hq; cases hq
 refine ⟨fun k q hk hq => cnd_mono sub_round (key k q hq).2, fun q => ⟨fun ⟨h1, h2⟩ => ?_, fun ⟨h1, h2⟩ => ?_⟩, fun k q hq => (key k q hq).1, fun q hq => ?_⟩
 ·exact (coh_cnd h.coh _).1 ⟨(key _ _ h1).2, (key _ _ h2).2⟩
 ·exact (coh_cnd h.coh _).2 ⟨(key _ _ h1).2, (key _ _ h2).2⟩
 ·have := (minusP_iff.1 (key _ _ hq).2).1
  rw [← hasM_nat] at this
  exact sub_round _ _ this
end
theorem hasM_start (T : Th) (k : Nat) (q : Int) : hasM (startM T) k q = false := by
 unfold hasM startM
 rw [List.getD_eq_getElem?_getD, List.getElem?_replicate]
 split <;> simp
theorem made_start (T : Th) (F : List Bool) (RL : List (List Int)) : Made T F RL (startM T) :=
 ⟨fun k q _ h => (by rw [hasM_start] at h; cases h), fun q => ⟨fun h => (by rw [hasM_start] at h; cases h.1), fun h => (by rw [hasM_start] at h; cases h.1)⟩, fun k q h => (by rw [hasM_start] at h; cases h), fun q h => (by rw [hasM_start] at h; cases h)⟩
theorem made_it (T : Th) (l : List Int) : ∀ k, Made T (factsB T.foes.length l) (rulesRows T.rules T.foes.length T.rules.length) (itM (stepM T l) k (startM T))
 | 0 => made_start _ _ _
 | k + 1 => (made_it T l k).round
theorem it_length (T : Th) (l : List Int) : ∀ k, (itM (stepM T l) k (startM T)).length = T.foes.length
 | 0 => by simp [itM, startM]
 | k + 1 => (roundM_length _ _ _ _).trans (it_length T l k)
theorem it_lt (T : Th) (l : List Int) : ∀ k, ∀ x ∈ itM (stepM T l) k (startM T), x < 256
 | 0 => fun x hx => by simp [itM, startM] at hx; omega
 | k + 1 => roundM_lt _ _ _ _ (it_lt T l k)
theorem it_sum (T : Th) (l : List Int) : ∀ k, (∀ j, j < k → itM (stepM T l) (j + 1) (startM T) ≠ itM (stepM T l) j (startM T)) → k ≤ (itM (stepM T l) k (startM T)).sum
 | 0, _ => Nat.zero_le _
 | k + 1, h => by
  have ih := it_sum T l k fun j hj => h j (by omega)
  have h1 := roundM_grows T (factsB T.foes.length l) (rulesRows T.rules T.foes.length T.rules.length) (itM (stepM T l) k (startM T))
  have h2 := h k (by omega)
  have h3 : (itM (stepM T l) k (startM T)).sum ≠ (roundM T (factsB T.foes.length l) (rulesRows T.rules T.foes.length T.rules.length) (itM (stepM T l) k (startM T))).sum := fun e => h2 (h1.2 e).symm
  show k + 1 ≤ (roundM T (factsB T.foes.length l) (rulesRows T.rules T.foes.length T.rules.length) (itM (stepM T l) k (startM T))).sum
  omega
/-- All that holds. -/
def solveM (T : Th) (l : List Int) : List Nat := itM (stepM T l) (255 * T.foes.length) (startM T)
theorem it_stay {f : List Nat → List Nat} {X : List Nat} {k : Nat} (h : f (itM f k X) = itM f k X) : ∀ d, itM f (k + d) X = itM f k X
 | 0 => rfl
 | d + 1 => by
  show f (itM f (k + d) X) = _
  rw [it_stay h d, h]
theorem solve_eq {T : Th} {l : List Int} {k : Nat} (h : stepM T l (itM (stepM T l) k (startM T)) = itM (stepM T l) k (startM T)) (hk : k ≤ 255 * T.foes.length) : itM (stepM T l) k (startM T) = solveM T l := by
 have := it_stay h (255 * T.foes.length - k)
 rw [show k + (255 * T.foes.length - k) = 255 * T.foes.length by omega] at this
 exact this.symm
theorem solve_run {T : Th} {l : List Int} {k : Nat} (h : stepM T l (itM (stepM T l) k (startM T)) = itM (stepM T l) k (startM T)) (hn : ∀ j, j < k → itM (stepM T l) (j + 1) (startM T) ≠ itM (stepM T l) j (startM T)) : itM (stepM T l) k (startM T) = solveM T l := by
 refine solve_eq h ?_
 have h1 := it_sum T l k hn
 have h2 := sum_bound _ (it_lt T l k)
 rw [it_length] at h2; omega
open Classical in
theorem solve_fix (T : Th) (l : List Int) : stepM T l (solveM T l) = solveM T l := by
 by_cases h : ∃ k, k ≤ 255 * T.foes.length ∧ stepM T l (itM (stepM T l) k (startM T)) = itM (stepM T l) k (startM T)
 ·obtain ⟨k, hk, h⟩ := h
  rw [← solve_eq h hk]; exact h
 ·exfalso
  have hn : ∀ j, j < 255 * T.foes.length + 1 → itM (stepM T l) (j + 1) (startM T) ≠ itM (stepM T l) j (startM T) := fun j hj e => h ⟨j, by omega, e⟩
  have h1 := it_sum T l _ hn
  have h2 := sum_bound _ (it_lt T l (255 * T.foes.length + 1))
  rw [it_length] at h2; omega
theorem solve_length (T : Th) (l : List Int) : (solveM T l).length = T.foes.length := it_length _ _ _
theorem solve_made (T : Th) (l : List Int) : Made T (factsB T.foes.length l) (rulesRows T.rules T.foes.length T.rules.length) (solveM T l) := made_it _ _ _
/-- At the end a condition that holds has its mark. -/
theorem solve_shut (T : Th) (l : List Int) {k : Nat} (hk : k < 4) {q : Nat} (hq : q < T.foes.length) (h : cnd T (factsB T.foes.length l) (rulesRows T.rules T.foes.length T.rules.length) (solveM T l) k (q : Int) = true) : hasM (solveM T l) k (q : Int) = true := by
 have e := solve_fix T l
 have := hasM_round (T := T) (F := factsB T.foes.length l) (RL := rulesRows T.rules T.foes.length T.rules.length) (M := solveM T l) (k := k) (q := (q : Int)) (by rw [solve_length]; simpa using hq)
 unfold stepM at e
 rw [e] at this
 rw [this, show ((q : Int).toNat : Int) = q by omega, h]; simp [hk]
def sixB (x : Nat) : Bool := ((List.range 8).any fun k => x.testBit k && decide (4 ≤ k)) || (x.testBit 0 && x.testBit 1) || (x.testBit 2 && x.testBit 3) || (x.testBit 3 && !x.testBit 1) || (x.testBit 0 && !x.testBit 2) || (x == 0 || x == 2 || x == 4 || x == 5 || x == 6 || x == 10)
theorem sixB_all : ∀ x : _root_.Fin 256, sixB x.val = true := by decide +kernel
theorem six (x : Nat) (hx : x < 256) (h0 : ∀ k, x.testBit k = true → k < 4) (h1 : ¬ (x.testBit 0 = true ∧ x.testBit 1 = true)) (h2 : ¬ (x.testBit 2 = true ∧ x.testBit 3 = true)) (h3 : x.testBit 3 = true → x.testBit 1 = true) (h4 : x.testBit 0 = true → x.testBit 2 = true) :
  x = 0 ∨ x = 2 ∨ x = 4 ∨ x = 5 ∨ x = 6 ∨ x = 10 := by
 have h := sixB_all ⟨x, hx⟩
 simp only [sixB, Bool.or_eq_true, beq_iff_eq] at h
 rcases h with ((((h | h) | h) | h) | h) | h
 ·obtain ⟨k, _, hk⟩ := List.any_eq_true.1 h
  rw [Bool.and_eq_true, decide_eq_true_eq] at hk
  have := h0 k hk.1; omega
 ·rw [Bool.and_eq_true] at h; exact absurd h h1
 ·rw [Bool.and_eq_true] at h; exact absurd h h2
 ·rw [Bool.and_eq_true, Bool.not_eq_true'] at h; have := h3 h.1; rw [h.2] at this; cases this
 ·rw [Bool.and_eq_true, Bool.not_eq_true'] at h; have := h4 h.1; rw [h.2] at this; cases this
 ·omega
theorem solve_six (T : Th) (l : List Int) (q : Nat) (hq : q < (solveM T l).length) : (solveM T l)[q] = 0 ∨ (solveM T l)[q] = 2 ∨ (solveM T l)[q] = 4 ∨ (solveM T l)[q] = 5 ∨ (solveM T l)[q] = 6 ∨ (solveM T l)[q] = 10 := by
 have hm := solve_made T l
 have h8 := it_lt T l (255 * T.foes.length) _ (List.getElem_mem hq)
 have hg : (solveM T l).getD ((q : Int).toNat) 0 = (solveM T l)[q] := by simp [hq]
 have hh : ∀ k, hasM (solveM T l) k (q : Int) = (solveM T l)[q].testBit k := by intro k; unfold hasM; rw [hg]
 have hc := hm.coh (q : Int)
 rw [hh, hh, hh, hh] at hc
 refine six _ h8 (fun k hk => hm.low k (q : Int) (by rw [hh]; exact hk)) hc.1 hc.2 (fun h => by have := hm.dd (q : Int) (by rw [hh]; exact h); rwa [hh] at this) (fun h => ?_)
 have := solve_shut T l (k := 2) (by omega) (q := q) (by rw [← solve_length T l]; exact hq) (plusP_iff.2 (.inl (by rw [hh]; exact h)))
 rwa [hh] at this
end Go.Proofs.Lx

namespace Go.Proofs.Lx
open Go Go.RowKit
set_option linter.unusedSimpArgs false
set_option linter.unusedVariables false

def factsErr (T : Th) (l : List Int) : Int := if risB l T.lits = true then 0 else 181
/-- The first error of a theory and facts. -/
noncomputable def givenErr (T : Th) (l : List Int) : Int := if checkErr T = 0 then factsErr T l else checkErr T
theorem givenErr_ok {T : Th} {l : List Int} : givenErr T l = 0 ↔ WfTh T ∧ risB l T.lits = true := by
 unfold givenErr factsErr
 rw [← checkErr_ok]
 by_cases h : checkErr T = 0
 ·rw [if_pos h]
  by_cases h2 : risB l T.lits = true
  ·simp [h, h2]
  ·rw [if_neg h2]; simp [h2]
 ·rw [if_neg h]; simp [h]

set_option maxHeartbeats 800000 in
theorem facts_any (w : World) (V vl : Value) (T : Th) (l : List Int) (hT : RdTh w V T) (hl : RdI w vl l) :
  Calls Tryz.prog 48 #[V, vl] w (Ret fun v w' => v = .int .i64 (factsErr T l) ∧ Below w.heap.size w w') := by
 obtain ⟨vF, vR, vB, rfl, hF, hR, hB⟩ := hT
 have hl' := hl.ext (scR_mono _) (ext_alloc w (.cells #[.int .i64 T.lits, vF, vR, vB] 25))
 have hcall := hid (rising_any _ vl l T.lits hl')
 have hbel := ext_alloc w (.cells #[.int .i64 T.lits, vF, vR, vB] 25)
 clear hl'
 refine post_gen fun Q HQ => ?_
 go_enter Tryz.func48, Tryz.ntmps48
 go_wp2_with fail
 refine hcall.out.mono ?_
 rintro e w2 ⟨_, rfl, rfl, rfl⟩
 unfold factsErr at HQ
 cases h : risB l T.lits with
 | true =>
  rw [h] at HQ
  go_wp2_with fail
  go_ret
  exact Fin HQ ⟨rfl, hbel⟩
 | false =>
  rw [h] at HQ
  go_wp2_with fail
  go_ret
  exact Fin HQ ⟨rfl, hbel⟩

theorem box4 {w w2 : World} {v0 v1 v2 v3 : Value} {ty : TypeId} (hb : Below (w.alloc (.cells #[v0, v1, v2, v3] ty)).heap.size (w.alloc (.cells #[v0, v1, v2, v3] ty)) w2) :
  w2.cell? ⟨w.heap.size, 0, none⟩ = some v0 ∧ w2.cell? ⟨w.heap.size, 1, none⟩ = some v1 ∧ w2.cell? ⟨w.heap.size, 2, none⟩ = some v2 ∧ w2.cell? ⟨w.heap.size, 3, none⟩ = some v3 := by
 rw [World.size_alloc] at hb
 exact ⟨box_cell hb 0, box_cell hb 1, box_cell hb 2, box_cell hb 3⟩

/-- .. and of a mark list. -/
noncomputable def markedErr (T : Th) (l : List Int) (n : Nat) : Int := if givenErr T l = 0 then (if (n : Int) = T.lits then 0 else 3) else givenErr T l
theorem markedErr_ok {T : Th} {l : List Int} {n : Nat} : markedErr T l n = 0 ↔ givenErr T l = 0 ∧ (n : Int) = T.lits := by
 unfold markedErr
 by_cases h : givenErr T l = 0
 ·rw [if_pos h]
  by_cases h2 : (n : Int) = T.lits
  ·simp [h, h2]
  ·rw [if_neg h2]; simp [h2]
 ·rw [if_neg h]; simp [h]

/-- What a slice of marks of the call's own reads as. -/
theorem own_marks {w : World} {base : Nat} {v : Value} {M : List Nat} (h : w.ownsRow base 77 1 v M.length (marksV M)) (hl : M.length ≤ 140737488355328) : RdMk w v M := own_rdS h hl

end Go.Proofs.Lx

namespace Go.Proofs.Lx
open Go Go.RowKit Go.Proofs.Tj Go.Shelf
set_option linter.unusedVariables false
set_option linter.unusedSimpArgs false

section
variable {w w' W0 : World} {G : Gh} {S : Stc} {T : Th} {D : Dyn} {vT : Value}
theorem Agr.of_alloc (w : World) (o : Obj) (F : Nat → Prop) : Agr F w (w.alloc o) := Agr.of_below (ext_alloc w o) F
theorem Agr.of_put (w : World) (l : Nat) (o : Obj) : Agr (fun k => k = l) w (w.putObj l o) := ⟨rfl, rfl, rfl, by simp, fun k _ hk => World.putObj_heap_other hk⟩
/-- A new block is laid beside the engine. -/
theorem EngV.addX1 (h : EngV w W0 G S T D vT) {l : List (Nat × Obj)} (hx : G.x1 = .blks l) (o : Obj) : EngV (w.alloc o) W0 { G with x1 := .blks ((w.heap.size, o) :: l) } S T D vT := by
 refine ⟨h.sp.step (C' := contE { G with x1 := .blks ((w.heap.size, o) :: l) } S D vT) .x1 (fun j hj => by cases j <;> first | rfl | exact absurd rfl hj) (Agr.of_alloc w o _) ?_ ?_, h.st, h.rF, h.rR, h.rB⟩
 ·have hok : (contE G S D vT .x1).ok W0.heap.size w := h.sp.ok .x1
  have hok : Cont.ok W0.heap.size w (.blks l) := hx ▸ hok
  intro k o' hm
  rcases List.mem_cons.1 hm with e | e
  ·cases e; exact ⟨h.sp.old.size, heap_alloc_new w o⟩
  ·exact ⟨(hok k o' e).1, (Below.heap_alloc w o k (lt_of_obj (hok k o' e).2)).trans (hok k o' e).2⟩
 ·rintro g ⟨o', hm⟩
  rcases List.mem_cons.1 hm with e | e
  ·cases e; exact .inr (Nat.le_refl _)
  ·refine .inl ?_
   show (contE G S D vT .x1).fp g
   have : (contE G S D vT .x1) = .blks l := hx
   rw [this]; exact ⟨o', e⟩
theorem EngV.startX1 (h : EngV w W0 G S T D vT) (hx : G.x1 = .no) : EngV w W0 { G with x1 := .blks [] } S T D vT := by
 refine ⟨h.sp.step (C' := contE { G with x1 := .blks [] } S D vT) .x1 (fun j hj => by cases j <;> first | rfl | exact absurd rfl hj) (Agr.of_below (ext_refl w) _) (fun k o' hm => absurd hm (by simp)) ?_, h.st, h.rF, h.rR, h.rB⟩
 rintro g ⟨o', hm⟩; simp at hm
theorem EngV.getX1 (h : EngV w W0 G S T D vT) {l : List (Nat × Obj)} (hx : G.x1 = .blks l) {k : Nat} {o : Obj} (hm : (k, o) ∈ l) : w.heap[k]? = some o := by
 have hok : (contE G S D vT .x1).ok W0.heap.size w := h.sp.ok .x1
 have hok : Cont.ok W0.heap.size w (.blks l) := hx ▸ hok
 exact (hok k o hm).2
theorem EngV.getX2 (h : EngV w W0 G S T D vT) {l : List (Nat × Obj)} (hx : G.x2 = .blks l) {k : Nat} {o : Obj} (hm : (k, o) ∈ l) : w.heap[k]? = some o := by
 have hok : (contE G S D vT .x2).ok W0.heap.size w := h.sp.ok .x2
 have hok : Cont.ok W0.heap.size w (.blks l) := hx ▸ hok
 exact (hok k o hm).2
/-- The loop's two blocks are laid beside the engine. -/
theorem EngV.addX2 (h : EngV w W0 G S T D vT) (hx : G.x2 = .no) (o1 o2 : Obj) : EngV ((w.alloc o1).alloc o2) W0 { G with x2 := .blks [(w.heap.size, o1), (w.heap.size + 1, o2)] } S T D vT := by
 have hb : Below w.heap.size w ((w.alloc o1).alloc o2) := ext_trans (ext_alloc w o1) (ext_alloc _ o2)
 refine ⟨h.sp.step (C' := contE { G with x2 := .blks [(w.heap.size, o1), (w.heap.size + 1, o2)] } S D vT) .x2 (fun j hj => by cases j <;> first | rfl | exact absurd rfl hj) (Agr.of_below hb _) ?_ ?_, h.st, h.rF, h.rR, h.rB⟩
 ·intro k o' hm
  simp only [List.mem_cons, Prod.mk.injEq, List.not_mem_nil, or_false] at hm
  rcases hm with ⟨rfl, rfl⟩ | ⟨rfl, rfl⟩
  ·exact ⟨h.sp.old.size, (Below.heap_alloc _ _ _ (by simp)).trans (heap_alloc_new w _)⟩
  ·refine ⟨Nat.le_succ_of_le h.sp.old.size, ?_⟩
   have := heap_alloc_new (w.alloc o1) o'
   rwa [World.size_alloc] at this
 ·rintro g ⟨o', hm⟩
  simp only [List.mem_cons, Prod.mk.injEq, List.not_mem_nil, or_false] at hm
  rcases hm with ⟨rfl, rfl⟩ | ⟨rfl, rfl⟩
  ·exact .inr (Nat.le_refl _)
  ·exact .inr (Nat.le_succ _)
/-- The second of them turns. -/
theorem EngV.turnX2 (h : EngV w W0 G S T D vT) {d l : Nat} {o1 o2 : Obj} (hx : G.x2 = .blks [(d, o1), (l, o2)]) (hdl : d ≠ l) (o : Obj) : EngV (w.putObj l o) W0 { G with x2 := .blks [(d, o1), (l, o)] } S T D vT := by
 have hok : (contE G S D vT .x2).ok W0.heap.size w := h.sp.ok .x2
 have hok : Cont.ok W0.heap.size w (.blks [(d, o1), (l, o2)]) := hx ▸ hok
 have hC : contE G S D vT .x2 = .blks [(d, o1), (l, o2)] := hx
 refine ⟨h.sp.step (C' := contE { G with x2 := .blks [(d, o1), (l, o)] } S D vT) .x2 (fun j hj => by cases j <;> first | rfl | exact absurd rfl hj) ((Agr.of_put w l o).mono fun k e => by rw [hC]; exact ⟨o2, by rw [e]; simp⟩) ?_ ?_, h.st, h.rF, h.rR, h.rB⟩
 ·intro k o' hm
  simp only [List.mem_cons, Prod.mk.injEq, List.not_mem_nil, or_false] at hm
  rcases hm with ⟨rfl, rfl⟩ | ⟨rfl, rfl⟩
  ·have := hok k o' (by simp)
   exact ⟨this.1, (World.putObj_heap_other hdl).trans this.2⟩
  ·have := hok k o2 (by simp)
   exact ⟨this.1, World.putObj_heap_same (lt_of_obj this.2)⟩
 ·rintro g ⟨o', hm⟩
  refine .inl ?_
  rw [hC]
  simp only [List.mem_cons, Prod.mk.injEq, List.not_mem_nil, or_false] at hm
  rcases hm with ⟨rfl, rfl⟩ | ⟨rfl, rfl⟩
  ·exact ⟨o', by simp⟩
  ·exact ⟨o2, by simp⟩
end
/-- The first of them turns. -/
theorem EngV.turnX2a {w W0 : World} {G : Gh} {S : Stc} {T : Th} {D : Dyn} {vT : Value} (h : EngV w W0 G S T D vT) {d l : Nat} {o1 o2 : Obj} (hx : G.x2 = .blks [(d, o1), (l, o2)]) (hdl : d ≠ l) (o : Obj) : EngV (w.putObj d o) W0 { G with x2 := .blks [(d, o), (l, o2)] } S T D vT := by
 have hok : (contE G S D vT .x2).ok W0.heap.size w := h.sp.ok .x2
 have hok : Cont.ok W0.heap.size w (.blks [(d, o1), (l, o2)]) := hx ▸ hok
 have hC : contE G S D vT .x2 = .blks [(d, o1), (l, o2)] := hx
 refine ⟨h.sp.step (C' := contE { G with x2 := .blks [(d, o), (l, o2)] } S D vT) .x2 (fun j hj => by cases j <;> first | rfl | exact absurd rfl hj) ((Agr.of_put w d o).mono fun k e => by rw [hC]; exact ⟨o1, by rw [e]; simp⟩) ?_ ?_, h.st, h.rF, h.rR, h.rB⟩
 ·intro k o' hm
  simp only [List.mem_cons, Prod.mk.injEq, List.not_mem_nil, or_false] at hm
  rcases hm with ⟨rfl, rfl⟩ | ⟨rfl, rfl⟩
  ·have := hok k o1 (by simp)
   exact ⟨this.1, World.putObj_heap_same (lt_of_obj this.2)⟩
  ·have := hok k o' (by simp)
   exact ⟨this.1, (World.putObj_heap_other (fun e => hdl e.symm)).trans this.2⟩
 ·rintro g ⟨o', hm⟩
  refine .inl ?_
  rw [hC]
  simp only [List.mem_cons, Prod.mk.injEq, List.not_mem_nil, or_false] at hm
  rcases hm with ⟨rfl, rfl⟩ | ⟨rfl, rfl⟩
  ·exact ⟨o1, by simp⟩
  ·exact ⟨o', by simp⟩

/-- The frame of a round of run. -/
def engFr (t : Array Value) (k q tag B : Nat) : Act := { tmps := (((t.setIfInBounds 33 (.int .i64 (k : Int))).setIfInBounds 34 (.agg #[.int .i64 (q : Int), .int .i64 (tag : Int)])).setIfInBounds 8 (.int .i64 (k : Int))).setIfInBounds 9 (.pointer (some ⟨B, 0, none⟩)), defers := [] }
/-- How a round's body is left. -/
def RoundEnd (R : World → Prop) : Exit → Act → World → Prop
 | .normal, _, w => R w
 | _, _, _ => False
theorem erange {g : Operand} {ps : Array Tmp} {assign body : Code} {Q : Exit → Act → World → Prop} {a : Act} {w : World} (n : Nat) (hn : 4 ≤ n) {bn : Nat} {W0 : World} {G : Gh} {S : Stc} {T : Th} {D0 : Dyn}
  (hg : a.eval g = .func (.func 95) #[] #[.pointer (some ⟨bn, 0, none⟩)]) (hps : ps.size = 2)
  (h0 : Eng w W0 G S T D0) (hx2 : G.x2 = .no) (hbn : bn ≠ G.b) (hti : ∀ k, TI S.n (iterD S D0 k))
  (hbox : ∀ (X2 : Cont) w, (∃ D, Eng w W0 { G with x2 := X2 } S T D) → w.cell? ⟨bn, 0, none⟩ = some (.pointer (some ⟨G.b, 0, none⟩)))
  (hround : ∀ (l : Nat) (X2 : Cont) (W : World) (k q tag : Nat), Eng W W0 { G with x2 := X2 } S T (tick (iterD S D0 k) 1) → (iterD S D0 k).told[k]? = some (q, tag) →
   assign.wpIn (Fence.wide.inRound l) (n - 1 - 1) Tryz.prog (Exit.then (fun a₁ W₁ => Eng W₁ W0 { G with x2 := X2 } S T (tick (iterD S D0 k) 1) ∧ ∃ B, a₁ = engFr a.tmps k q tag B ∧ W₁.heap[B]? = some (.cells #[.int .i64 (q : Int), .int .i64 (tag : Int)] 98 (0, 0))) (fun _ _ _ => False))
    { tmps := (ps.zip #[.int .i64 (k : Int), .agg #[.int .i64 (q : Int), .int .i64 (tag : Int)]]).foldl (fun t (p, v) => t.setIfInBounds p v) a.tmps, defers := [] } W)
  (hbody : ∀ (l : Nat) (X2 : Cont) (W : World) (k q tag B : Nat), Eng W W0 { G with x2 := X2 } S T (tick (iterD S D0 k) 1) → (iterD S D0 k).told[k]? = some (q, tag) → W.heap[B]? = some (.cells #[.int .i64 (q : Int), .int .i64 (tag : Int)] 98 (0, 0)) →
   body.wpIn (Fence.wide.inRound l) (n - 1 - 1) Tryz.prog (RoundEnd fun W' => Eng W' W0 { G with x2 := X2 } S T (iterD S D0 (k + 1))) (engFr a.tmps k q tag B) W)
  (hdone : ∀ (d l : Nat) (o : Obj) (W : World) (k : Nat), d ≠ l → (iterD S D0 k).told.length ≤ k → (∀ j, j < k → j < (iterD S D0 j).told.length) → Eng W W0 { G with x2 := .blks [(d, .deferred (some [])), (l, o)] } S T (iterD S D0 k) →
   Q .normal { a with defers := { target := .collected d, args := #[] } :: a.defers } W) :
  (Code.rangeFunc g ps assign body).wpIn Fence.wide n Tryz.prog Q a w := by
 refine wpIn_rangeFunc ?_
 intro fn hfn
 obtain ⟨rec, hrec⟩ : ∃ rec : LoopState → Option Code → Loop, rec = fun st pe => { state := st, pending := pe, fn, tmps := a.tmps, params := ps, assign, body, defers := w.heap.size } := ⟨_, rfl⟩
 obtain ⟨W1, hW1⟩ : ∃ W1, (w.alloc (.deferred (some []))).alloc (.loop (rec .ready none)) = W1 := ⟨_, rfl⟩
 obtain ⟨vT, h0⟩ := h0
 have h1 := h0.addX2 hx2 (.deferred (some [])) (.loop (rec .ready none))
 rw [hW1] at h1
 refine ⟨w.heap.size + 1, [{ target := .collected w.heap.size, args := #[] }], W1, { target := .fn (.func 95) #[.pointer (some ⟨bn, 0, none⟩)], args := #[.func (.yield (w.heap.size + 1)) #[] #[]] }, W1, 95,
  #[.func (.yield (w.heap.size + 1)) #[] #[], .pointer (some ⟨bn, 0, none⟩)], W1, ?_, ?_, ?_, ?_, fun _ => by omega, ?_⟩
 ·rw [← hW1, hrec]; exact run_enterLoop_outer _ _ _ _ _
 ·simp only [resolve, hg]
  simp [go_sem]
 ·intro f' hf'; trivial
 ·simp [invoke, go_sem, enters_of Tryz.func95 (by kernel_rfl) rfl _ _]
 ·refine (work1_in (n - 1) (w.heap.size + 1) bn (by omega) W1 W0 { G with x2 := .blks [(w.heap.size, .deferred (some [])), (w.heap.size + 1, .loop (rec .ready none))] } S T D0 hti (hbox _) hbn ?_ ⟨vT, h1⟩).mono ?_
  ·-- one round
   rintro k W q tag ⟨v2, h2⟩ hx
   have hl : W.heap[w.heap.size + 1]? = some (.loop (rec .ready none)) := h2.getX2 rfl (by simp)
   have hy := run_yield (P := Tryz.prog) (args := #[.int .i64 (k : Int), .agg #[.int .i64 (q : Int), .int .i64 (tag : Int)]]) hl (by rw [hrec]; exact hps.symm)
   rw [hrec] at hy
   refine ⟨fn, _, assign, body, hy, roundIn_of_wpIn trivial (wpIn_mono (hround _ _ W k q tag ⟨v2, h2⟩ hx) ?_)⟩
   clear hy
   intro e a1 Wa hp
   cases e with
   | normal =>
    obtain ⟨⟨v3, h3⟩, B, rfl, hB⟩ := hp
    have hl3 : Wa.heap[w.heap.size + 1]? = some (.loop (rec .ready none)) := h3.getX2 rfl (by simp)
    refine ⟨_, run_beginRound hl3 (by rw [hrec]), ?_⟩
    have h4 := h3.turnX2 rfl (by omega) (.loop { rec .ready none with state := .busy })
    have hBne : B ≠ w.heap.size + 1 := fun e => by rw [e, hl3] at hB; cases hB
    refine wpIn_mono (hbody _ _ _ k q tag B ⟨v3, h4⟩ hx ((World.putObj_heap_other hBne).trans hB)) ?_
    intro e a3 W3 hp
    cases e with
    | normal =>
     obtain ⟨v5, h5⟩ := hp
     have hl5 : W3.heap[w.heap.size + 1]? = some (.loop { rec .ready none with state := .busy }) := h5.getX2 rfl (by simp)
     refine ⟨_, _, run_endRound none hl5, rfl, v5, ?_⟩
     have h6 := h5.turnX2 rfl (by omega) (.loop { { rec .ready none with state := .busy } with state := .ready, pending := none })
     have hre : ({ { rec .ready none with state := .busy } with state := .ready, pending := none } : Loop) = rec .ready none := by rw [hrec]
     rw [hre] at h6
     simp only [Option.isNone, if_true]
     rw [hre]
     exact h6
    | ret => exact hp.elim
    | exit id => exact hp.elim
    | goto t => exact hp.elim
    | panic ch => exact hp.elim
    | outgrown => exact hp.elim
   | ret => exact hp.elim
   | exit id => exact hp.elim
   | goto t => exact hp.elim
   | panic ch => exact hp.elim
   | outgrown => exact hp.elim
  ·rintro e W2 ⟨⟨v, rfl⟩, k, hk1, hk2, v2, h2⟩
   have hl : W2.heap[w.heap.size + 1]? = some (.loop (rec .ready none)) := h2.getX2 rfl (by simp)
   refine ⟨none, _, by have := run_endLoop (P := Tryz.prog) hl (by rw [hrec]; simp); rw [hrec] at this; exact this, ?_⟩
   refine hdone w.heap.size (w.heap.size + 1) _ _ k (by omega) hk1 hk2 ⟨v2, h2.turnX2 rfl (by omega) _⟩
end Go.Proofs.Lx
