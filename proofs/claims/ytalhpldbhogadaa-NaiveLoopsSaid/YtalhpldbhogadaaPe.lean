/- Plain: a ring of defeasible rules, and the ring without its last rule. -/
import Derived.Test.YtalhpldbhogadaaPb
namespace Go.Proofs.Lx
open Go Go.RowKit Go.Proofs.Tj
set_option linter.unusedSimpArgs false
set_option linter.unusedVariables false

/-- Rule i: from i to i + 1, round at n. -/
def ringRule (n i : Nat) : Rule := ⟨2, (((i + 1) % n : Nat) : Int), [(i : Int)]⟩
/-- n literals, the first m rules of the ring. -/
def ringTh (n m : Nat) : Th := ⟨(n : Int), List.replicate n [], (List.range m).map (ringRule n), List.replicate m []⟩
section
variable {n m : Nat}
theorem ring_foes (q : Nat) : row (ringTh n m).foes (q : Int) = [] := by
  simp only [row, ringTh, Int.toNat_natCast, List.getD_eq_getElem?_getD, List.getElem?_replicate]
  split <;> rfl
theorem ring_beats (x : Nat) : beatsAt (ringTh n m) x = [] := by
  simp only [beatsAt, ringTh, List.getD_eq_getElem?_getD, List.getElem?_replicate]
  split <;> rfl
theorem ring_rule {i : Nat} (hi : i < m) : (ringTh n m).rules.getD i default = ringRule n i := by
  simp [ringTh, hi]
theorem ring_flen : (ringTh n m).foes.length = n := by simp [ringTh]
theorem ring_rlen : (ringTh n m).rules.length = m := by simp [ringTh]
theorem ring_wf (h0 : 0 < n) (h1 : n ≤ 50) (hm : m ≤ n) : WfTh (ringTh n m) := by
  have hfo : foesAll (ringTh n m) = true := by
    rw [foesAll, List.all_eq_true]
    intro q hq
    have hq' : q < n := by rw [List.mem_range, ring_flen] at hq; exact hq
    have e : (ringTh n m).foes.getD q [] = [] := by simp [ringTh, hq']
    rw [foesOk, e]; rfl
  refine ⟨by simp [ringTh], by simp [ringTh]; omega, by simp [ringTh], hfo, by rw [ring_rlen]; omega, ?_, ?_, by simp [ringTh], ?_, ?_⟩
  · intro r hr
    obtain ⟨i, hi, rfl⟩ := List.mem_map.1 hr
    have hi := List.mem_range.1 hi
    have hmod : (i + 1) % n < n := Nat.mod_lt _ h0
    have hris : risB [(i : Int)] (n : Int) = true := by
      rw [risB_true]
      intro j hj
      have : j = 0 := by simpa using hj
      subst this
      simp [risOk]; omega
    unfold ringRule ringTh
    generalize (i + 1) % n = x at *
    unfold ruleOk
    dsimp only
    rw [hris]
    simp; omega
  · have : pairCount (ringTh n m) = 0 := by
      have key : ∀ k, k ≤ n → pSum (ringTh n m).rules (ringTh n m).foes k = 0 := by
        intro k hk
        have hz : ∀ q ∈ List.range k, pRow (ringTh n m).rules ((ringTh n m).foes.getD q []) q ((ringTh n m).foes.getD q []).length = 0 := by
          intro q hq
          have e : (ringTh n m).foes.getD q [] = [] := by have := List.mem_range.1 hq; simp [ringTh, show q < n by omega]
          rw [e]; simp [pRow]
        have hs : ∀ l : List Nat, (l.map fun _ => 0).sum = 0 := by
          intro l
          induction l with
          | nil => rfl
          | cons x l ih => rw [List.map_cons, List.sum_cons, ih]
        unfold pSum
        rw [List.map_congr_left (g := fun _ => 0) hz]
        exact hs _
      rw [pairCount, ring_flen]
      exact key n (Nat.le_refl _)
    rw [this]; omega
  · rw [beatsAll, List.all_eq_true]
    intro r hr
    have hr' : r < m := by simpa [ringTh] using hr
    have e : (ringTh n m).beats.getD r [] = [] := by simp [ringTh, hr']
    rw [beatsOk, e]; rfl
  · intro x y _ _ h1 _
    induction h1 with
    | refl => rfl
    | step _ hz _ => rw [adjN, ring_beats] at hz; simp at hz
theorem ring_facts (q : Int) : (factsB (ringTh n m).foes.length []).getD q.toNat false = false := by
  rw [List.getD_eq_getElem?_getD]
  by_cases h : q.toNat < (factsB (ringTh n m).foes.length []).length
  · rw [List.getElem?_eq_getElem h]; simp [factsB, memB]
  · rw [List.getElem?_eq_none (by omega)]; rfl
theorem ring_heads {q : Nat} (hq : q < n) {r : Int} : r ∈ row (rulesRows (ringTh n m).rules (ringTh n m).foes.length (ringTh n m).rules.length) (q : Int) ↔ ∃ i : Nat, i < m ∧ r = i ∧ (i + 1) % n = q := by
  rw [mem_heads (by rw [ring_flen]; exact hq), ring_rlen]
  constructor
  · rintro ⟨i, hi, rfl, h⟩
    rw [ring_rule hi] at h
    exact ⟨i, hi, rfl, by simp only [ringRule] at h; omega⟩
  · rintro ⟨i, hi, rfl, h⟩
    exact ⟨i, hi, rfl, by rw [ring_rule hi]; simp only [ringRule]; omega⟩
theorem ring_kind {i : Nat} (hi : i < m) : strictB (ringTh n m) (i : Int) = false ∧ supB (ringTh n m) (i : Int) = true ∧ bodyAt (ringTh n m) (i : Int) = [(i : Int)] := by
  have h := ring_rule (n := n) hi
  simp only [strictB, supB, kindAt, bodyAt, Int.toNat_natCast, h, ringRule]
  exact ⟨rfl, rfl, trivial⟩
/-- What a round makes of a list without +D, +d. -/
theorem ring_step {M : List Nat} (hM : M.length = n) (h0 : ∀ q : Nat, hasM M 0 (q : Int) = false) (h2 : ∀ q : Nat, hasM M 2 (q : Int) = false) {q : Nat} (hq : q < n) :
    (stepM (ringTh n m) [] M).getD q 0 = (if hasM M 1 (q : Int) = true ∧ ∀ i, i < m → (i + 1) % n = q → hasM M 3 (i : Int) = true then (M.getD q 0 ||| 2) ||| 8 else M.getD q 0 ||| 2) := by
  have hq' : q < M.length := by omega
  have e : (stepM (ringTh n m) [] M).getD q 0 = orM (fun k => cnd (ringTh n m) (factsB (ringTh n m).foes.length []) (rulesRows (ringTh n m).rules (ringTh n m).foes.length (ringTh n m).rules.length) M k (q : Int)) (M.getD q 0) 4 := by
    rw [List.getD_eq_getElem?_getD, List.getElem?_eq_getElem (by rw [stepM, roundM_length]; exact hq')]
    simp [stepM, roundM, rnd]
  have c0 : cnd (ringTh n m) (factsB (ringTh n m).foes.length []) (rulesRows (ringTh n m).rules (ringTh n m).foes.length (ringTh n m).rules.length) M 0 (q : Int) = false := by
    rw [← Bool.not_eq_true, plusD_iff]
    rintro (h | ⟨r, hr, hs, _⟩)
    · rw [ring_facts] at h; cases h
    · obtain ⟨i, hi, rfl, _⟩ := (ring_heads hq).1 hr
      rw [(ring_kind hi).1] at hs; cases hs
  have c1 : cnd (ringTh n m) (factsB (ringTh n m).foes.length []) (rulesRows (ringTh n m).rules (ringTh n m).foes.length (ringTh n m).rules.length) M 1 (q : Int) = true := by
    rw [minusD_iff]
    refine ⟨ring_facts _, fun r hr hs => ?_⟩
    obtain ⟨i, hi, rfl, _⟩ := (ring_heads hq).1 hr
    rw [(ring_kind hi).1] at hs; cases hs
  have c2 : cnd (ringTh n m) (factsB (ringTh n m).foes.length []) (rulesRows (ringTh n m).rules (ringTh n m).foes.length (ringTh n m).rules.length) M 2 (q : Int) = false := by
    rw [← Bool.not_eq_true, plusP_iff]
    rintro (h | ⟨⟨r, hr, _, hw⟩, _⟩)
    · rw [h0] at h; cases h
    · obtain ⟨i, hi, rfl, _⟩ := (ring_heads hq).1 hr
      have := whole_true.1 hw (i : Int) (by rw [(ring_kind hi).2.2]; simp)
      rw [h2] at this; cases this
  have c3 : cnd (ringTh n m) (factsB (ringTh n m).foes.length []) (rulesRows (ringTh n m).rules (ringTh n m).foes.length (ringTh n m).rules.length) M 3 (q : Int) = true ↔ (hasM M 1 (q : Int) = true ∧ ∀ i, i < m → (i + 1) % n = q → hasM M 3 (i : Int) = true) := by
    rw [minusP_iff]
    refine and_congr Iff.rfl ⟨fun h i hi hiq => ?_, fun h => .inl fun r hr hs => ?_⟩
    · rcases h with h | ⟨f, hf, _⟩ | ⟨f, hf, _⟩
      · obtain ⟨x, hx, e⟩ := some_true.1 (h (i : Int) ((ring_heads hq).2 ⟨i, hi, rfl, hiq⟩) (ring_kind hi).2.1)
        rw [(ring_kind hi).2.2] at hx
        rw [List.mem_singleton.1 hx] at e; exact e
      · rw [ring_foes] at hf; simp at hf
      · rw [ring_foes] at hf; simp at hf
    · obtain ⟨i, hi, rfl, hiq⟩ := (ring_heads hq).1 hr
      exact some_true.2 ⟨(i : Int), by rw [(ring_kind hi).2.2]; simp, h i hi hiq⟩
  rw [e]
  simp only [orM, c0, c1, c2]
  by_cases h : hasM M 1 (q : Int) = true ∧ ∀ i, i < m → (i + 1) % n = q → hasM M 3 (i : Int) = true
  · rw [if_pos h, if_pos (c3.2 h)]; rfl
  · rw [if_neg h, if_neg (fun hc => h (c3.1 hc))]; rfl
/-- The first j have come to -d, all to -D. -/
def ringM (n j : Nat) : List Nat := (List.range n).map fun q => if q < j then 10 else 2
theorem ringM_has (n j q k : Nat) (hq : q < n) : hasM (ringM n j) k (q : Int) = ((if q < j then 10 else 2 : Nat)).testBit k := by simp [hasM, ringM, hq]
theorem ringM_far (n j q k : Nat) (hq : ¬ q < n) : hasM (ringM n j) k (q : Int) = false := hasM_far (by simp [ringM]; omega)
theorem ringM_low (n j : Nat) (k : Nat) (hk : k = 0 ∨ k = 2) (q : Nat) : hasM (ringM n j) k (q : Int) = false := by
  by_cases h : q < n
  · rw [ringM_has n j q k h]
    rcases hk with rfl | rfl <;> split <;> decide
  · exact ringM_far n j q k h
theorem ext_getD {X Y : List Nat} (hl : X.length = Y.length) (h : ∀ q, q < X.length → X.getD q 0 = Y.getD q 0) : X = Y := by
  apply List.ext_getElem hl
  intro i h1 h2
  have := h i h1
  simpa [h1, h2] using this
theorem ring_first : stepM (ringTh n m) [] (startM (ringTh n m)) = ringM n 0 := by
  have hs : (startM (ringTh n m)).length = n := by simp [startM, ring_flen]
  refine ext_getD (by rw [stepM, roundM_length, hs]; simp [ringM]) fun q hq => ?_
  rw [stepM, roundM_length, hs] at hq
  rw [ring_step hs (fun q => hasM_start _ _ _) (fun q => hasM_start _ _ _) hq, if_neg (by rw [hasM_start]; simp)]
  simp [startM, ringM, ring_flen, hq]
theorem ring_next (j : Nat) (hc : ∀ q, q < n → ((∀ i, i < m → (i + 1) % n = q → i < j) ↔ q < j + 1)) (hmn : m ≤ n) (hmono : ∀ q, q < n → q < j → q < j + 1) : stepM (ringTh n m) [] (ringM n j) = ringM n (j + 1) := by
  have hl : (ringM n j).length = n := by simp [ringM]
  refine ext_getD (by rw [stepM, roundM_length, hl]; simp [ringM]) fun q hq => ?_
  rw [stepM, roundM_length, hl] at hq
  rw [ring_step hl (ringM_low n j 0 (.inl rfl)) (ringM_low n j 2 (.inr rfl)) hq]
  have h1 : hasM (ringM n j) 1 (q : Int) = true := by rw [ringM_has n j q 1 hq]; split <;> decide
  have h3 : (∀ i, i < m → (i + 1) % n = q → hasM (ringM n j) 3 (i : Int) = true) ↔ q < j + 1 := by
    rw [← hc q hq]
    refine forall_congr' fun i => ?_
    refine ⟨fun h hi hiq => ?_, fun h hi hiq => ?_⟩
    · have := h hi hiq
      rw [ringM_has n j i 3 (by omega)] at this
      by_cases hij : i < j
      · exact hij
      · rw [if_neg hij] at this; exact absurd this (by decide)
    · rw [ringM_has n j i 3 (by omega), if_pos (h hi hiq)]; decide
  have hg : (ringM n j).getD q 0 = if q < j then 10 else 2 := by simp [ringM, hq]
  have hg2 : (ringM n (j + 1)).getD q 0 = if q < j + 1 then 10 else 2 := by simp [ringM, hq]
  rw [hg, hg2]
  by_cases h : q < j + 1
  · rw [if_pos h, if_pos ⟨h1, h3.2 h⟩]
    by_cases h4 : q < j
    · rw [if_pos h4]; decide
    · rw [if_neg h4]; decide
  · rw [if_neg h, if_neg (fun hh => h (h3.1 hh.2)), if_neg (fun hh => h (by omega))]; decide
theorem ring_stay (j : Nat) (hmn : m ≤ n) (hc : ∀ q, q < n → ((∀ i, i < m → (i + 1) % n = q → i < j) ↔ q < j)) : stepM (ringTh n m) [] (ringM n j) = ringM n j := by
  have hl : (ringM n j).length = n := by simp [ringM]
  refine ext_getD (by rw [stepM, roundM_length, hl]) fun q hq => ?_
  rw [stepM, roundM_length, hl] at hq
  rw [ring_step hl (ringM_low n j 0 (.inl rfl)) (ringM_low n j 2 (.inr rfl)) hq]
  have h1 : hasM (ringM n j) 1 (q : Int) = true := by rw [ringM_has n j q 1 hq]; split <;> decide
  have h3 : (∀ i, i < m → (i + 1) % n = q → hasM (ringM n j) 3 (i : Int) = true) ↔ q < j := by
    rw [← hc q hq]
    refine forall_congr' fun i => ?_
    refine ⟨fun h hi hiq => ?_, fun h hi hiq => ?_⟩
    · have := h hi hiq
      rw [ringM_has n j i 3 (by omega)] at this
      by_cases hij : i < j
      · exact hij
      · rw [if_neg hij] at this; exact absurd this (by decide)
    · rw [ringM_has n j i 3 (by omega), if_pos (h hi hiq)]; decide
  have hg : (ringM n j).getD q 0 = if q < j then 10 else 2 := by simp [ringM, hq]
  rw [hg]
  by_cases h : q < j
  · rw [if_pos h, if_pos ⟨h1, h3.2 h⟩]; decide
  · rw [if_neg h, if_neg (fun hh => h (h3.1 hh.2))]; decide
end
/-- The whole ring: all -D, and no more. -/
theorem ring_solve {n : Nat} (h0 : 0 < n) : solveM (ringTh n n) [] = List.replicate n 2 := by
  have h1 : itM (stepM (ringTh n n) []) 1 (startM (ringTh n n)) = ringM n 0 := ring_first
  have hst : stepM (ringTh n n) [] (ringM n 0) = ringM n 0 := ring_stay 0 (Nat.le_refl _) fun q hq => by
    refine ⟨fun h => ?_, fun h => by omega⟩
    by_cases e : q = 0
    · have := h (n - 1) (by omega) (by rw [show n - 1 + 1 = n by omega, Nat.mod_self, e]); omega
    · have := h (q - 1) (by omega) (by rw [show q - 1 + 1 = q by omega, Nat.mod_eq_of_lt hq]); omega
  rw [← solve_eq (k := 1) (by rw [h1]; exact hst) (by rw [ring_flen]; omega), h1]
  apply List.ext_getElem
  · simp [ringM]
  · intro i h1 h2; simp [ringM]
/-- Without the last rule: all -d too. -/
theorem chain_solve {n : Nat} (h0 : 0 < n) : solveM (ringTh n (n - 1)) [] = List.replicate n 10 := by
  have hc : ∀ j q, q < n → ((∀ i, i < n - 1 → (i + 1) % n = q → i < j) ↔ q < j + 1) := by
    intro j q hq
    constructor
    · intro h
      by_cases e : q = 0
      · omega
      · have := h (q - 1) (by omega) (by rw [show q - 1 + 1 = q by omega, Nat.mod_eq_of_lt hq]); omega
    · intro h i hi hiq
      rw [Nat.mod_eq_of_lt (by omega)] at hiq; omega
  have hit : ∀ j, itM (stepM (ringTh n (n - 1)) []) (j + 1) (startM (ringTh n (n - 1))) = ringM n j := by
    intro j
    induction j with
    | zero => exact ring_first
    | succ j ih =>
      show stepM _ _ (itM _ (j + 1) _) = _
      rw [ih]
      exact ring_next j (hc j) (by omega) fun q _ h => by omega
  have hst : stepM (ringTh n (n - 1)) [] (ringM n n) = ringM n n := ring_stay n (by omega) fun q hq => ⟨fun _ => hq, fun _ i hi _ => by omega⟩
  rw [← solve_eq (k := n + 1) (by rw [hit]; exact hst) (by rw [ring_flen]; omega), hit]
  apply List.ext_getElem
  · simp [ringM]
  · intro i h1 h2
    have : i < n := by simpa [ringM] using h1
    simp [ringM, this]
end Go.Proofs.Lx
