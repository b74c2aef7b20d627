/- Parts of the proof: Us, Ut, Wa, Qb, Pl, Pm, Wb. The fast engine's plain law: its conditions are the naive ones. No program in sight. No condition. -/
import Derived.Test.YtalhpldbhogadaaGreatO33
import Derived.Test.YtalhpldbhogadaaGreatO29
import Derived.Test.YtalhpldbhogadaaGreatO1
import Derived.Test.YtalhpldbhogadaaGreatO9
import Derived.Test.YtalhpldbhogadaaGreatO28
import Derived.Maps.AppendAt
import Derived.WalkMore
import Derived.Test.YtalhpldbhogadaaGreatO30
namespace Go.Proofs.Lx
open Go Go.RowKit Go.Proofs.Tj
set_option linter.unusedVariables false
set_option linter.unusedSectionVars false
section
variable {T : Th} {fl : List Nat} {M : List Nat}
theorem whole_nat {k r : Nat} : wholeB T M k (r : Int) = true ↔ ∀ b ∈ bdyT T r, hasM M k (b : Int) = true := by
 rw [whole_true]
 show (∀ x ∈ (T.rules.getD r default).body, hasM M k x = true) ↔ ∀ b ∈ (T.rules.getD r default).body.map Int.toNat, hasM M k (b : Int) = true
 constructor
 ·intro h b hb
  obtain ⟨x, hx, rfl⟩ := List.mem_map.1 hb
  rw [← hasM_nat]; exact h x hx
 ·intro h x hx
  rw [hasM_nat]; exact h _ (List.mem_map.2 ⟨x, hx, rfl⟩)
theorem some_nat {k r : Nat} : someB T M k (r : Int) = true ↔ ∃ b ∈ bdyT T r, hasM M k (b : Int) = true := by
 rw [some_true]
 show (∃ x ∈ (T.rules.getD r default).body, hasM M k x = true) ↔ ∃ b ∈ (T.rules.getD r default).body.map Int.toNat, hasM M k (b : Int) = true
 constructor
 ·rintro ⟨x, hx, h⟩
  exact ⟨_, List.mem_map.2 ⟨x, hx, rfl⟩, by rw [← hasM_nat]; exact h⟩
 ·rintro ⟨b, hb, h⟩
  obtain ⟨x, hx, rfl⟩ := List.mem_map.1 hb
  exact ⟨x, hx, by rw [hasM_nat]; exact h⟩
section
variable (hwf : WfTh T)
include hwf
theorem foe_row_nat {q : Nat} (hq : q < T.foes.length) {x : Int} : x ∈ row T.foes (q : Int) ↔ ∃ f ∈ (stc0 T).foes q, x = (f : Int) := by
 rw [row_nat _ _ hq]
 constructor
 ·intro h
  have := (ris_nat (foesOk_spec hwf.fo q hq).2.1).2.2.2 x h
  exact ⟨x.toNat, (mem_foes hwf hq).2 (by rw [show ((x.toNat : Nat) : Int) = x by omega]; exact h), by omega⟩
 ·rintro ⟨f, hf, rfl⟩; exact (mem_foes hwf hq).1 hf
theorem head_row_nat {q : Nat} (hq : q < T.foes.length) {x : Int} : x ∈ row (rulesRows T.rules T.foes.length T.rules.length) (q : Int) ↔ ∃ r, r < T.rules.length ∧ (stc0 T).head r = q ∧ x = (r : Int) := by
 rw [mem_heads hq]
 constructor
 ·rintro ⟨i, hi, rfl, h⟩
  exact ⟨i, hi, by show (T.rules.getD i default).head.toNat = q; omega, rfl⟩
 ·rintro ⟨r, hr, h, rfl⟩
  have hh := rule_head hwf hr
  have h : (T.rules.getD r default).head.toNat = q := h
  exact ⟨r, hr, rfl, by omega⟩
theorem beats_nat {t s : Nat} (ht : t < T.rules.length) : beatsB T (t : Int) (s : Int) = true ↔ s ∈ btT T t := by
 constructor
 ·intro h
  have := memB_true.1 h
  exact List.mem_map.2 ⟨_, this, by simp⟩
 ·intro h
  exact memB_true.2 (mem_btT hwf ht h).2.2
theorem fact_nat {q : Nat} (hq : q < T.foes.length) : (factsB T.foes.length (fl.map fun (x : Nat) => (x : Int))).getD (q : Int).toNat false = factF fl q := by
 rw [Int.toNat_natCast]
 unfold factsB factF
 rw [List.getD_eq_getElem?_getD, List.getElem?_eq_getElem (by simpa using hq), Option.getD_some, List.getElem_map, List.getElem_range]
 by_cases h : q ∈ fl
 ·rw [memB_true.2 (List.mem_map.2 ⟨q, h, rfl⟩)]; simp [h]
 ·rw [memB_false.2 (fun k => by obtain ⟨x, hx, e⟩ := List.mem_map.1 k; exact h (by rw [show q = x by omega]; exact hx))]; simp [h]
theorem cn_cnd {q : Nat} (hq : q < T.foes.length) {tag : Nat} (h1 : 1 ≤ tag) (h4 : tag ≤ 4) : CN (lS3 T fl) (bdyT T) (btT T) (factF fl) (fun q t => hasM M (t - 1) (q : Int) = true) tag q ↔ cnd T (factsB T.foes.length (fl.map fun (x : Nat) => (x : Int))) (rulesRows T.rules T.foes.length T.rules.length) M (tag - 1) (q : Int) = true := by
 have hfo : ∀ f ∈ (stc0 T).foes q, f < T.foes.length := fun f hf => (foe_back hwf hq hf).1
 match tag, h1, h4 with
 | 1, _, _ =>
  show (factF fl q = true ∨ ∃ r, r < T.rules.length ∧ (stc0 T).head r = q ∧ strR (stc0 T) r = true ∧ ∀ b ∈ bdyT T r, hasM M 0 (b : Int) = true) ↔ cnd T _ _ M 0 (q : Int) = true
  rw [plusD_iff, fact_nat hwf hq]
  refine or_congr Iff.rfl ⟨?_, ?_⟩
  ·rintro ⟨r, hr, hh, hs, hb⟩
   exact ⟨r, (head_row_nat hwf hq).2 ⟨r, hr, hh, rfl⟩, hs, whole_nat.2 hb⟩
  ·rintro ⟨x, hx, hs, hb⟩
   obtain ⟨r, hr, hh, rfl⟩ := (head_row_nat hwf hq).1 hx
   exact ⟨r, hr, hh, hs, whole_nat.1 hb⟩
 | 2, _, _ =>
  show (factF fl q = false ∧ ∀ r, r < T.rules.length → (stc0 T).head r = q → strR (stc0 T) r = true → ∃ b ∈ bdyT T r, hasM M 1 (b : Int) = true) ↔ cnd T _ _ M 1 (q : Int) = true
  rw [minusD_iff, fact_nat hwf hq]
  refine and_congr Iff.rfl ⟨?_, ?_⟩
  ·intro h x hx hs
   obtain ⟨r, hr, hh, rfl⟩ := (head_row_nat hwf hq).1 hx
   exact some_nat.2 (h r hr hh hs)
  ·intro h r hr hh hs
   exact some_nat.1 (h r ((head_row_nat hwf hq).2 ⟨r, hr, hh, rfl⟩) hs)
 | 3, _, _ =>
  show (hasM M 0 (q : Int) = true ∨ ((∃ r, r < T.rules.length ∧ (stc0 T).head r = q ∧ supR (stc0 T) r = true ∧ ∀ b ∈ bdyT T r, hasM M 2 (b : Int) = true) ∧ (∀ f ∈ (stc0 T).foes q, hasM M 1 (f : Int) = true) ∧ ∀ f ∈ (stc0 T).foes q, ∀ s, s < T.rules.length → (stc0 T).head s = f → (∃ b ∈ bdyT T s, hasM M 3 (b : Int) = true) ∨ ∃ t, t < T.rules.length ∧ (stc0 T).head t = q ∧ supR (stc0 T) t = true ∧ s ∈ btT T t ∧ ∀ b ∈ bdyT T t, hasM M 2 (b : Int) = true)) ↔ cnd T _ _ M 2 (q : Int) = true
  rw [plusP_iff]
  refine or_congr Iff.rfl (and_congr ⟨?_, ?_⟩ (and_congr ⟨?_, ?_⟩ ⟨?_, ?_⟩))
  ·rintro ⟨r, hr, hh, hs, hb⟩
   exact ⟨r, (head_row_nat hwf hq).2 ⟨r, hr, hh, rfl⟩, hs, whole_nat.2 hb⟩
  ·rintro ⟨x, hx, hs, hb⟩
   obtain ⟨r, hr, hh, rfl⟩ := (head_row_nat hwf hq).1 hx
   exact ⟨r, hr, hh, hs, whole_nat.1 hb⟩
  ·intro h x hx
   obtain ⟨f, hf, rfl⟩ := (foe_row_nat hwf hq).1 hx
   exact h f hf
  ·intro h f hf
   exact h f ((foe_row_nat hwf hq).2 ⟨f, hf, rfl⟩)
  ·intro h x hx y hy
   obtain ⟨f, hf, rfl⟩ := (foe_row_nat hwf hq).1 hx
   obtain ⟨s, hs, hh, rfl⟩ := (head_row_nat hwf (hfo f hf)).1 hy
   rcases h f hf s hs hh with h | ⟨t, ht, a, b, c, d⟩
   ·exact .inl (some_nat.2 h)
   ·exact .inr ⟨t, (head_row_nat hwf hq).2 ⟨t, ht, a, rfl⟩, b, (beats_nat hwf ht).2 c, whole_nat.2 d⟩
  ·intro h f hf s hs hh
   rcases h f ((foe_row_nat hwf hq).2 ⟨f, hf, rfl⟩) s ((head_row_nat hwf (hfo f hf)).2 ⟨s, hs, hh, rfl⟩) with h | ⟨x, hx, b, c, d⟩
   ·exact .inl (some_nat.1 h)
   ·obtain ⟨t, ht, a, rfl⟩ := (head_row_nat hwf hq).1 hx
    exact .inr ⟨t, ht, a, b, (beats_nat hwf ht).1 c, whole_nat.1 d⟩
 | 4, _, _ =>
  show (hasM M 1 (q : Int) = true ∧ ((∀ r, r < T.rules.length → (stc0 T).head r = q → supR (stc0 T) r = true → ∃ b ∈ bdyT T r, hasM M 3 (b : Int) = true) ∨ (∃ f ∈ (stc0 T).foes q, hasM M 0 (f : Int) = true) ∨ ∃ f ∈ (stc0 T).foes q, ∃ s, s < T.rules.length ∧ (stc0 T).head s = f ∧ (∀ b ∈ bdyT T s, hasM M 2 (b : Int) = true) ∧ ∀ t, t < T.rules.length → (stc0 T).head t = q → supR (stc0 T) t = true → s ∈ btT T t → ∃ b ∈ bdyT T t, hasM M 3 (b : Int) = true)) ↔ cnd T _ _ M 3 (q : Int) = true
  rw [minusP_iff]
  refine and_congr Iff.rfl (or_congr ⟨?_, ?_⟩ (or_congr ⟨?_, ?_⟩ ⟨?_, ?_⟩))
  ·intro h x hx hs
   obtain ⟨r, hr, hh, rfl⟩ := (head_row_nat hwf hq).1 hx
   exact some_nat.2 (h r hr hh hs)
  ·intro h r hr hh hs
   exact some_nat.1 (h r ((head_row_nat hwf hq).2 ⟨r, hr, hh, rfl⟩) hs)
  ·rintro ⟨f, hf, h⟩
   exact ⟨f, (foe_row_nat hwf hq).2 ⟨f, hf, rfl⟩, h⟩
  ·rintro ⟨x, hx, h⟩
   obtain ⟨f, hf, rfl⟩ := (foe_row_nat hwf hq).1 hx
   exact ⟨f, hf, h⟩
  ·rintro ⟨f, hf, s, hs, hh, hw, h⟩
   refine ⟨f, (foe_row_nat hwf hq).2 ⟨f, hf, rfl⟩, s, (head_row_nat hwf (hfo f hf)).2 ⟨s, hs, hh, rfl⟩, whole_nat.2 hw, fun x hx hsu hb => ?_⟩
   obtain ⟨t, ht, a, rfl⟩ := (head_row_nat hwf hq).1 hx
   exact some_nat.2 (h t ht a hsu ((beats_nat hwf ht).1 hb))
  ·rintro ⟨x, hx, y, hy, hw, h⟩
   obtain ⟨f, hf, rfl⟩ := (foe_row_nat hwf hq).1 hx
   obtain ⟨s, hs, hh, rfl⟩ := (head_row_nat hwf (hfo f hf)).1 hy
   exact ⟨f, hf, s, hs, hh, whole_nat.1 hw, fun t ht a hsu hb => some_nat.1 (h t ((head_row_nat hwf hq).2 ⟨t, ht, a, rfl⟩) hsu ((beats_nat hwf ht).2 hb))⟩
/-- Whatever was told in an order in which it follows is in the naive engine's answer. -/
theorem ord_solve {D : Dyn} {g : Gs} (h : SI (lS3 T fl) (bdyT T) (btT T) (factF fl) D g) : ∀ (i q tag : Nat), D.told[i]? = some (q, tag) → hasM (solveM T (fl.map fun (x : Nat) => (x : Int))) (tag - 1) (q : Int) = true := by
 intro i
 induction i using Nat.strongRecOn with
 | _ i ih =>
  intro q tag hi
  obtain ⟨hq, h1, h4⟩ := h.ti.mem q tag (List.mem_of_getElem? hi)
  have hq : q < T.foes.length := hq
  refine solve_shut T _ (by omega) hq ((cn_cnd hwf hq h1 h4).1 ((h.ord i q tag hi).mono fun q' t' hm => ?_))
  obtain ⟨j, hj, e⟩ := List.getElem_of_mem hm
  rw [List.length_take] at hj
  rw [List.getElem_take] at e
  exact ih j (by omega) q' t' (by rw [List.getElem?_eq_getElem (by omega), e])
theorem si_solve {D : Dyn} {g : Gs} (h : SI (lS3 T fl) (bdyT T) (btT T) (factF fl) D g) {q t : Nat} (h1 : 1 ≤ t) (h4 : t ≤ 4) (hh : HT D q t) : hasM (solveM T (fl.map fun (x : Nat) => (x : Int))) (t - 1) (q : Int) = true := by
 obtain ⟨i, hi, e⟩ := List.getElem_of_mem ((h.ti.has q t h1 h4).2 hh)
 exact ord_solve hwf h i q t (by rw [List.getElem?_eq_getElem hi, e])
theorem si_coh {D : Dyn} {g : Gs} (h : SI (lS3 T fl) (bdyT T) (btT T) (factF fl) D g) (b : Nat) : ¬ (HT D b 3 ∧ HT D b 4) := fun ⟨h3, h4⟩ =>
 ((solve_made T (fl.map fun (x : Nat) => (x : Int))).coh _).2 ⟨si_solve hwf h (by omega) (by omega) h3, si_solve hwf h (by omega) (by omega) h4⟩
end
end
/-- The engine at its end. -/
structure FastEnd (T : Th) (fl : List Nat) (D : Dyn) : Prop where
 si : ∃ g, SI (lS3 T fl) (bdyT T) (btT T) (factF fl) D g
 has : ∀ q t, q < T.foes.length → 1 ≤ t → t ≤ 4 → (HT D q t ↔ hasM (solveM T (fl.map fun (x : Nat) => (x : Int))) (t - 1) (q : Int) = true)
theorem sok3 {T : Th} {fl : List Nat} (hwf : WfTh T) (hfl : ∀ x ∈ fl, x < T.foes.length) : SOk (lS3 T fl) :=
 have h := (layIn_of hwf hfl).so
 ⟨h.inn, h.ofs, h.beats, h.pq, h.ps⟩
theorem fast_end {T : Th} {fl : List Nat} (hwf : WfTh T) (hfl : ∀ x ∈ fl, x < T.foes.length) {k : Nat} (hk : ∀ j, j < k → j < (iterD (lS3 T fl) (looksD (lD8 T fl) T.foes.length) j).told.length) (he : (iterD (lS3 T fl) (looksD (lD8 T fl) T.foes.length) k).told.length ≤ k) :
  FastEnd T fl (iterD (lS3 T fl) (looksD (lD8 T fl) T.foes.length) k) := by
 have c := ctx_of hwf hfl
 obtain ⟨b1, b2, b3⟩ := bi_first hwf hfl
 obtain ⟨⟨g, hsi⟩, _, hcl⟩ := BI.final c (sok3 hwf hfl) (fun D' g' h b => si_coh hwf h b) b2 b1 (fun q _ hq => b3 q hq) hk he
 generalize iterD (lS3 T fl) (looksD (lD8 T fl) T.foes.length) k = D at *
 refine ⟨⟨g, hsi⟩, fun q t hq h1 h4 => ⟨si_solve hwf hsi h1 h4, fun h => ?_⟩⟩
 -- the marks as a list that a round leaves
 let X : List Nat := (List.range T.foes.length).map fun q => D.marks q
 have hXl : X.length = T.foes.length := by simp [X]
 have hX : ∀ q, q < T.foes.length → ∀ k, hasM X k (q : Int) = (D.marks q).testBit k := fun q hq k => by
  unfold hasM
  rw [Int.toNat_natCast, List.getD_eq_getElem?_getD, List.getElem?_eq_getElem (by rw [hXl]; exact hq), Option.getD_some]
  simp [X]
 have hrd : stepM T (fl.map fun (x : Nat) => (x : Int)) X = X := by
  apply List.ext_getElem
  ·unfold stepM; rw [roundM_length]
  ·intro i a b
   apply Nat.eq_of_testBit_eq
   intro j
   have hi : i < T.foes.length := by rw [← hXl]; exact b
   have e1 : (stepM T (fl.map fun (x : Nat) => (x : Int)) X)[i].testBit j = hasM (stepM T (fl.map fun (x : Nat) => (x : Int)) X) j (i : Int) := by
    unfold hasM; rw [Int.toNat_natCast, List.getD_eq_getElem?_getD, List.getElem?_eq_getElem a, Option.getD_some]
   have e2 : X[i].testBit j = hasM X j (i : Int) := by
    unfold hasM; rw [Int.toNat_natCast, List.getD_eq_getElem?_getD, List.getElem?_eq_getElem b, Option.getD_some]
   rw [e1, e2]
   unfold stepM
   rw [hasM_round (by rw [Int.toNat_natCast, hXl]; exact hi)]
   cases hh : hasM X j (i : Int) with
   | true => simp
   | false =>
    rw [Bool.false_or]
    by_cases hj : j < 4
    ·rw [decide_eq_true hj, Bool.true_and, Int.toNat_natCast, Bool.eq_false_iff]
     intro hc
     have hc := (cn_cnd (fl := fl) (tag := j + 1) hwf hi (by omega) (by omega)).2 (by simpa using hc)
     have := hcl i (j + 1) hi (by omega) (by omega) (hc.mono fun q' t' hm => ?_)
     ·rw [hX i hi] at hh
      have this : (D.marks i).testBit j = true := this
      rw [hh] at this; cases this
     ·have hm : hasM X (t' - 1) (q' : Int) = true := hm
      by_cases hq' : q' < T.foes.length
      ·rw [hX q' hq'] at hm; exact hm
      ·rw [hasM_far (by rw [Int.toNat_natCast, hXl]; omega)] at hm; cases hm
    ·rw [decide_eq_false hj, Bool.false_and]
 have hsub := solve_least hXl hrd _ _ h
 rw [hX q hq] at hsub
 exact hsub
end Go.Proofs.Lx

namespace Go.Proofs.Lx
open Go Go.RowKit Go.Proofs.Tj
set_option linter.unusedVariables false
theorem Steps.queued {n : Nat} {D E : Dyn} (ti : TI n D) (hn : n ≤ 4096) (h0 : D.queued = (D.told.length : Int)) (k : Steps n D E) : E.queued = (E.told.length : Int) := by
 induction k with
 | refl => exact h0
 | other _ _ h2 ih =>
  have e1 := congrArg Prod.snd h2
  have e2 := congrArg (fun x => (List.length x.1 : Int)) h2
  exact e1.trans (ih.trans e2.symm)
 | @tell E q tag hs h1 h2 h3 ih =>
  have tE := ti.steps hs
  by_cases hh : hasT E q tag = true
  ·rw [tell_has hh]; exact ih
  ·have hl := told_length_le tE
   rw [tell_told hh, List.length_append, List.length_singleton]
   have : (tellD E q tag).queued = addW E.queued 1 := by unfold tellD; rw [if_neg hh]
   rw [this, ih, addW_small (by omega) (by omega)]; omega
/-- How many tags a number of marks has. -/
def tagsN (x : Nat) : Nat := (if x.testBit 0 = true then 1 else 0) + (if x.testBit 1 = true then 1 else 0) + (if x.testBit 2 = true then 1 else 0) + if x.testBit 3 = true then 1 else 0
def totalN (X : List Nat) : Nat := (X.map tagsN).sum
theorem told_tags {n : Nat} {D : Dyn} (h : TI n D) : D.told.length = totalN ((List.range n).map D.marks) := by
 let one := fun q t : Nat => if hasT D q t = true then [(q, t)] else ([] : List (Nat × Nat))
 let L := (List.range n).flatMap fun q => one q 1 ++ one q 2 ++ one q 3 ++ one q 4
 have hone : ∀ q t x, x ∈ one q t ↔ x = (q, t) ∧ hasT D q t = true := fun q t x => by
  show x ∈ (if hasT D q t = true then [(q, t)] else []) ↔ _
  split
  ·next h => simp [h]
  ·next h => simp [h]
 have hmem : ∀ x, x ∈ L ↔ x ∈ D.told := fun ⟨q, t⟩ => by
  constructor
  ·intro hx
   obtain ⟨q', hq, hx⟩ := List.mem_flatMap.1 hx
   simp only [List.mem_append, hone] at hx
   rcases hx with ((⟨e, hh⟩ | ⟨e, hh⟩) | ⟨e, hh⟩) | ⟨e, hh⟩ <;> (cases e; exact (h.has _ _ (by omega) (by omega)).2 hh)
  ·intro hx
   obtain ⟨h1, h2, h3⟩ := h.mem q t hx
   have hh := (h.has q t h2 h3).1 hx
   refine List.mem_flatMap.2 ⟨q, List.mem_range.2 h1, ?_⟩
   simp only [List.mem_append, hone]
   have : t = 1 ∨ t = 2 ∨ t = 3 ∨ t = 4 := by omega
   rcases this with rfl | rfl | rfl | rfl
   ·exact .inl (.inl (.inl ⟨rfl, hh⟩))
   ·exact .inl (.inl (.inr ⟨rfl, hh⟩))
   ·exact .inl (.inr ⟨rfl, hh⟩)
   ·exact .inr ⟨rfl, hh⟩
 have hnd1 : ∀ q t, (one q t).Nodup := fun q t => by
  show (if hasT D q t = true then [(q, t)] else []).Nodup
  split <;> simp
 have happ : ∀ {A B : List (Nat × Nat)}, A.Nodup → B.Nodup → (∀ x ∈ A, ∀ y ∈ B, x ≠ y) → (A ++ B).Nodup := fun a b c => List.nodup_append.2 ⟨a, b, c⟩
 have hrow : ∀ q, (one q 1 ++ one q 2 ++ one q 3 ++ one q 4).Nodup := fun q => by
  refine happ (happ (happ (hnd1 q 1) (hnd1 q 2) ?_) (hnd1 q 3) ?_) (hnd1 q 4) ?_ <;> intro x hx y hy e <;> simp only [List.mem_append, hone] at hx hy <;> subst e
  ·rw [hx.1] at hy; simp at hy
  ·rcases hx with hx | hx <;> rw [hx.1] at hy <;> simp at hy
  ·rcases hx with (hx | hx) | hx <;> rw [hx.1] at hy <;> simp at hy
 have hnd : L.Nodup := by
  have : ∀ k, ((List.range k).flatMap fun q => one q 1 ++ one q 2 ++ one q 3 ++ one q 4).Nodup ∧ ∀ x ∈ ((List.range k).flatMap fun q => one q 1 ++ one q 2 ++ one q 3 ++ one q 4), x.1 < k := by
   intro k
   induction k with
   | zero => simp
   | succ k ih =>
    rw [List.range_succ, List.flatMap_append]
    have e : List.flatMap (fun q => one q 1 ++ one q 2 ++ one q 3 ++ one q 4) [k] = one k 1 ++ one k 2 ++ one k 3 ++ one k 4 := by simp
    rw [e]
    have hk : ∀ x ∈ one k 1 ++ one k 2 ++ one k 3 ++ one k 4, x.1 = k := fun x hx => by
     simp only [List.mem_append, hone] at hx
     rcases hx with ((hx | hx) | hx) | hx <;> rw [hx.1]
    refine ⟨happ ih.1 (hrow k) fun x hx y hy e => ?_, fun x hx => ?_⟩
    ·have := ih.2 x hx; have := hk y hy; rw [e] at *; omega
    ·rcases List.mem_append.1 hx with hx | hx
     ·have := ih.2 x hx; omega
     ·have := hk x hx; omega
  exact (this n).1
 have hlen : L.length = totalN ((List.range n).map D.marks) := by
  show ((List.range n).flatMap _).length = _
  rw [List.length_flatMap]
  unfold totalN
  rw [List.map_map]
  congr 1
  refine List.map_congr_left fun q _ => ?_
  have h1 : ∀ t, (one q t).length = if (D.marks q).testBit (t - 1) = true then 1 else 0 := fun t => by
   show (if (D.marks q).testBit (t - 1) = true then [(q, t)] else []).length = _
   split <;> rfl
  show (one q 1 ++ one q 2 ++ one q 3 ++ one q 4).length = _
  rw [List.length_append, List.length_append, List.length_append, h1, h1, h1, h1]; rfl
 rw [← hlen]
 exact Nat.le_antisymm (h.nd.length_le_of_subset fun x hx => (hmem x).2 hx) (hnd.length_le_of_subset fun x hx => (hmem x).1 hx)
/-- What the run has come to. -/
def FEnd (T : Th) (fl : List Nat) (S : Stc) (D : Dyn) : Prop := S = lS3 T fl ∧ ∃ k, D = iterD (lS3 T fl) (looksD (lD8 T fl) T.foes.length) k ∧ (∀ j, j < k → j < (iterD (lS3 T fl) (looksD (lD8 T fl) T.foes.length) j).told.length) ∧ (iterD (lS3 T fl) (looksD (lD8 T fl) T.foes.length) k).told.length ≤ k
section
variable {T : Th} {l : List Int}
theorem facts_nat (hwf : WfTh T) (hl : risB l T.lits = true) : (∀ x ∈ l.map Int.toNat, x < T.foes.length) ∧ l = (l.map Int.toNat).map fun (x : Nat) => (x : Int) := by
 obtain ⟨_, h2, h3, _⟩ := ris_nat hl
 exact ⟨fun x hx => by have := h2 x hx; have := hwf.fl; omega, h3⟩
/-- The fast engine's answer. -/
structure FRes (T : Th) (l : List Int) (D : Dyn) : Prop where
 ti : TI T.foes.length D
 mks : (List.range T.foes.length).map D.marks = solveM T l
 qd : D.queued = (totalN (solveM T l) : Int)
 len : D.told.length = totalN (solveM T l)
 ord : ∀ (i q tag : Nat), D.told[i]? = some (q, tag) → ∀ M : List Nat, (∀ q' t', (q', t') ∈ D.told.take i → hasM M (t' - 1) (q' : Int) = true) → cnd T (factsB T.foes.length l) (rulesRows T.rules T.foes.length T.rules.length) M (tag - 1) (q : Int) = true
theorem lay_queued (hwf : WfTh T) {fl : List Nat} (hfl : ∀ x ∈ fl, x < T.foes.length) : TI T.foes.length (lD8 T fl) ∧ (lD8 T fl).queued = ((lD8 T fl).told.length : Int) := by
 have hl := lay_ok hwf
 have t1 : Steps T.foes.length dyn0 (lD1 T) := steps_layD1 T _ _
 have t2 : Steps T.foes.length dyn0 (lD2 T fl) := t1.trans (steps_tells fl _ hfl)
 have t3 : Steps T.foes.length dyn0 (lD3 T fl) := t2.trans (steps_foldl _ _ fun r hr D => steps_tellR (hl.st.hdn r (List.mem_range.1 hr)) D)
 have t4 : Steps T.foes.length dyn0 (lD4 T fl) := t3.trans (steps_foldl _ _ fun r hr D => steps_strD (List.mem_range.1 hr) D)
 have t5 : Steps T.foes.length dyn0 (lD5 T fl) := t4.trans (steps_foldl _ _ fun r hr D => steps_foesD (lS1 T) D r)
 have hs := (r0_lay hwf hfl).more.1
 have hm : (lD7 T fl).marks = (lD5 T fl).marks := by rw [hs]; rfl
 have hq : ((lD7 T fl).told, (lD7 T fl).queued) = ((lD5 T fl).told, (lD5 T fl).queued) := by rw [hs]; rfl
 have t8 : Steps T.foes.length dyn0 (lD8 T fl) := t5.other hm hq
 exact ⟨(ti_dyn0 _).steps t8, t8.queued (ti_dyn0 _) (lay_ok hwf).st.n4 rfl⟩
theorem fres_of (hwf : WfTh T) (hl : risB l T.lits = true) {S : Stc} {D : Dyn} (h : FEnd T (l.map Int.toNat) S D) : FRes T l D := by
 obtain ⟨hfl, el⟩ := facts_nat hwf hl
 obtain ⟨rfl, k, rfl, h1, h2⟩ := h
 obtain ⟨⟨g, hsi⟩, hh⟩ := fast_end hwf hfl h1 h2
 obtain ⟨tq, qq⟩ := lay_queued hwf hfl
 have c := ctx_of hwf hfl
 have hst0 : Steps T.foes.length (lD8 T (l.map Int.toNat)) (looksD (lD8 T (l.map Int.toNat)) T.foes.length) := steps_looks _ _ (Nat.le_refl _)
 have hst : ∀ j, Steps T.foes.length (lD8 T (l.map Int.toNat)) (iterD (lS3 T (l.map Int.toNat)) (looksD (lD8 T (l.map Int.toNat)) T.foes.length) j) := by
  intro j
  induction j with
  | zero => exact hst0
  | succ j ih => exact ih.trans (steps_one c (sok3 hwf hfl) (tq.steps ih) j)
 have q2 := (hst k).queued tq (lay_ok hwf).st.n4 qq
 have ti := tq.steps (hst k)
 generalize iterD (lS3 T (l.map Int.toNat)) (looksD (lD8 T (l.map Int.toNat)) T.foes.length) k = D at *
 rw [← el] at hh
 have hmk : (List.range T.foes.length).map D.marks = solveM T l := by
  apply List.ext_getElem
  ·rw [solve_length]; simp
  ·intro i a b
   have hi : i < T.foes.length := by simpa using a
   rw [List.getElem_map, List.getElem_range]
   apply Nat.eq_of_testBit_eq
   intro j
   have e : hasM (solveM T l) j (i : Int) = (solveM T l)[i].testBit j := by
    unfold hasM; rw [Int.toNat_natCast, List.getD_eq_getElem?_getD, List.getElem?_eq_getElem b, Option.getD_some]
   rw [← e]
   by_cases hj : j < 4
   ·have := hh i (j + 1) hi (by omega) (by omega)
    have this : (D.marks i).testBit j = true ↔ hasM (solveM T l) j (i : Int) = true := this
    exact Bool.eq_iff_iff.2 this
   ·have h3 : hasM (solveM T l) j (i : Int) = false := by
     rw [Bool.eq_false_iff]; intro h; exact hj ((solve_made T l).low _ _ h)
    rw [h3]
    refine Nat.testBit_lt_two_pow (Nat.lt_of_lt_of_le (ti.lt i) ?_)
    exact Nat.le_trans (by decide : 16 ≤ 2 ^ 4) (Nat.pow_le_pow_right (by omega) (by omega))
 have hlen := told_tags ti
 rw [hmk] at hlen
 refine ⟨ti, hmk, by rw [q2, hlen], hlen, fun i q tag hi M hM => ?_⟩
 obtain ⟨hq, h1, h4⟩ := ti.mem q tag (List.mem_of_getElem? hi)
 rw [el]
 exact (cn_cnd hwf hq h1 h4).1 ((hsi.ord i q tag hi).mono fun q' t' hm => hM q' t' hm)
end
end Go.Proofs.Lx

namespace Go.Proofs.Lx
open Go Go.RowKit
set_option linter.unusedSimpArgs false
set_option linter.unusedVariables false
/-- The first error of some lists of facts. -/
def factsErrs (T : Th) : List (List Int) → Int
 | [] => 0
 | l :: ls => if factsErr T l = 0 then factsErrs T ls else factsErr T l
theorem factsErrs_cons (T : Th) (l : List Int) (ls : List (List Int)) : factsErrs T (l :: ls) = if factsErr T l = 0 then factsErrs T ls else factsErr T l := rfl
noncomputable def givenErrs (T : Th) (ls : List (List Int)) : Int := if checkErr T = 0 then factsErrs T ls else checkErr T
theorem givenErrs_one (T : Th) (l : List Int) : givenErrs T [l] = givenErr T l := by
 unfold givenErrs givenErr
 split
 ·show (if factsErr T l = 0 then 0 else factsErr T l) = _
  split
  ·next h => exact h.symm
  ·rfl
 ·rfl
theorem givenErrs_ok {T : Th} {ls : List (List Int)} : givenErrs T ls = 0 ↔ WfTh T ∧ ∀ l ∈ ls, risB l T.lits = true := by
 have hf : ∀ ls, factsErrs T ls = 0 ↔ ∀ l ∈ ls, risB l T.lits = true := fun ls => by
  induction ls with
  | nil => simp [factsErrs]
  | cons l ls ih =>
   unfold factsErrs factsErr
   by_cases h : risB l T.lits = true
   ·simp [h, ih]
   ·simp [h]
 unfold givenErrs
 rw [← checkErr_ok]
 by_cases h : checkErr T = 0
 ·rw [if_pos h, hf]; simp [h]
 ·rw [if_neg h]; simp [h]
set_option maxHeartbeats 1600000 in
theorem fgiven_any (w : World) (V vl : Value) (T : Th) (ls : List (List Int)) (hT : RdTh w V T) (hl : RdLL w vl ls) :
  Calls Tryz.prog 16 #[V, vl] w (Ret fun v w' => v = .int .i64 (givenErrs T ls) ∧ Below w.heap.size w w') := by
 have HT := hid hT
 obtain ⟨AL, cL, rfl, hcL, hbL, hrl0⟩ := hl
 have hrl : ∀ w', Below w.heap.size w w' → RcLL w' AL ls := fun w' hb => hrl0.ext llR_mono hb
 have HL := hid hrl
 clear hrl hrl0
 obtain ⟨vF, vR, vB, rfl, hF, hR, hB⟩ := hT
 have Hgiv : Hid (∀ c, checkErr T = c → givenErrs T ls = if c = 0 then factsErrs T ls else c) := fun c hc => by rw [givenErrs, hc]
 obtain ⟨c, Hc⟩ : ∃ c, Hid (checkErr T = c) := ⟨_, hid rfl⟩
 have hbel := ext_alloc w (.cells #[.int .i64 T.lits, vF, vR, vB] 25)
 have hch := check_any (w.alloc (.cells #[.int .i64 T.lits, vF, vR, vB] 25)) _ T (HT.out.ext hbel)
 rw [Hc.out] at hch
 have Hch := hid hch
 have Hbel := hid hbel
 have Hbox : Hid (∀ W, Below (w.alloc (.cells #[.int .i64 T.lits, vF, vR, vB] 25)).heap.size (w.alloc (.cells #[.int .i64 T.lits, vF, vR, vB] 25)) W → W.cell? ⟨w.heap.size, 0, none⟩ = some (.int .i64 T.lits) ∧ W.cell? ⟨w.heap.size, 1, none⟩ = some vF ∧ W.cell? ⟨w.heap.size, 2, none⟩ = some vR ∧ W.cell? ⟨w.heap.size, 3, none⟩ = some vB) := hid fun W h => box4 h
 clear hch hF hR hB hbel
 generalize hn : ls.length = n at *
 have Hn := hid hn
 clear hn
 refine post_gen fun Q HQ => ?_
 rw [Hgiv.out c Hc.out] at HQ
 go_enter Tryz.func16, Tryz.ntmps16
 go_wp2_with fail
 refine Hch.out.mono ?_
 rintro e w2 ⟨_, rfl, ⟨i, rfl⟩, hb2⟩
 obtain ⟨W1, HW1⟩ : ∃ W1, Hid (W1 = w.alloc (.cells #[.int .i64 T.lits, vF, vR, vB] 25)) := ⟨_, hid rfl⟩
 rw [← HW1.out] at hb2 Hbel Hbox
 by_cases h : c = 0
 ·rw [if_pos h] at HQ
  subst h
  go_wp2_with fail
  go_loopw [20] (fun v wr => ∃ k : Nat, k ≤ n ∧ v = .int .i64 k ∧ Hid (factsErrs T ls = factsErrs T (ls.drop k)) ∧ Below W1.heap.size W1 wr) (fun v _ => n - (intOf v).toNat)
  case atStart => exact ⟨0, Nat.zero_le _, rfl, hid rfl, hb2⟩
  case round =>
   obtain ⟨k, hk, rfl, heq, hbl⟩ := hrel
   by_cases hlt : k < n
   ·have hx : k < ls.length := by rw [Hn.out]; exact hlt
    have hbw := ext_trans Hbel.out hbl
    obtain ⟨ad, v, rfl, hcv, hrv⟩ := (HL.out wr hbw).atRowV hx
    obtain ⟨b0, b1, b2, b3⟩ := Hbox.out wr hbl
    have Hx := hid hx
    have Hbw := hid hbw
    have hdr := List.drop_eq_getElem_cons hx
    generalize hXX : ls[k] = x at hrv hdr
    clear hXX
    have Hcall : Hid (Calls Tryz.prog 48 #[.agg #[.int .i64 T.lits, vF, vR, vB], v] wr (Ret fun v w' => v = .int .i64 (factsErr T x) ∧ Below wr.heap.size wr w')) := hid (facts_any wr _ v T x (HT.out.ext Hbw.out) hrv)
    have Hdrop : Hid (ls.drop k = x :: ls.drop (k + 1)) := hid hdr
    clear hdr
    have Hbl := hid hbl
    clear hrv hx hbw hbl
    obtain ⟨d, Hd⟩ : ∃ d, Hid (factsErr T x = d) := ⟨_, hid rfl⟩
    rw [Hd.out] at Hcall
    have Heq := hid heq
    clear heq
    go_wp2_with fail
    refine Hcall.out.mono ?_
    rintro e w3 ⟨_, rfl, rfl, hb3⟩
    have hb3' := ext_trans Hbl.out hb3
    by_cases hd : d = 0
    ·subst hd
     go_wp2_with fail
     go_roundw
     case rel =>
      refine ⟨k + 1, by omega, by go_num, hid ?_, hb3'⟩
      rw [Heq.out.out, Hdrop.out, factsErrs_cons, if_pos Hd.out]
     case measure => simp [intOf]; omega
    ·have hne : (d != 0) = true := by simp [hd]
     have Hnd := hid hd
     clear hd
     go_wp2_with fail
     go_ret
     refine Fin HQ ⟨?_, ext_trans Hbel.out hb3'⟩
     show Value.int .i64 d = _
     rw [Heq.out.out, Hdrop.out, factsErrs_cons, if_neg (by rw [Hd.out]; exact Hnd.out), Hd.out]
   ·go_wp2_with fail
    go_ret
    refine Fin HQ ⟨?_, ext_trans Hbel.out hbl⟩
    rw [heq.out, List.drop_eq_nil_of_le (by rw [Hn.out]; omega)]; rfl
 ·rw [if_neg h] at HQ
  have hne : (c != 0) = true := by simp [h]
  go_wp2_with fail
  go_ret
  exact Fin HQ ⟨rfl, ext_trans Hbel.out hb2⟩
end Go.Proofs.Lx

namespace Go.Proofs.Lx
open Go Go.RowKit
set_option linter.unusedSimpArgs false
set_option linter.unusedVariables false

theorem allocs (os : List Obj) : ∀ w : World, (os.foldl World.alloc w).heap.size = w.heap.size + os.length ∧ (∀ i o, os[i]? = some o → (os.foldl World.alloc w).heap[w.heap.size + i]? = some o) ∧ Below w.heap.size w (os.foldl World.alloc w) := by
 induction os with
 | nil => intro w; exact ⟨rfl, fun i o h => by simp at h, Below.refl _ _⟩
 | cons o os ih =>
  intro w
  obtain ⟨h1, h2, h3⟩ := ih (w.alloc o)
  rw [World.size_alloc] at h1 h2
  have hb : Below w.heap.size w (os.foldl World.alloc (w.alloc o)) := ext_trans (ext_alloc w o) h3
  refine ⟨by rw [List.foldl_cons, h1, List.length_cons]; omega, fun i x hi => ?_, hb⟩
  match i, hi with
  | 0, hi =>
   simp at hi; subst hi
   rw [List.foldl_cons, Nat.add_zero]
   exact (h3.block w.heap.size (by rw [World.size_alloc]; omega)).trans (heap_alloc_new w _)
  | i + 1, hi =>
   rw [List.foldl_cons, show w.heap.size + (i + 1) = w.heap.size + 1 + i by omega]
   exact h2 i x (by simpa using hi)
theorem rd_lit1 {α : Type} {R : World → α → List Value → Prop} {W : World} {g n : Nat} {e : TypeId} {cur : Array Value} {xs : List α} (hh : W.heap[g]? = some (.cells cur e (0, 0))) (hn : n = xs.length) (hb : xs.length ≤ 140737488355328)
  (hr : ∀ i (h : i < xs.length), ∃ v, cur[i]? = some v ∧ R W xs[i] [v]) : Rd 1 R W (.slice (some ⟨g, 0, none⟩) n n) xs := by
 subst hn
 refine ⟨_, _, rfl, Nat.le_refl _, hb, fun i hi => ?_⟩
 obtain ⟨v, h1, h2⟩ := hr i hi
 refine ⟨_, [v], rfl, h2, rfl, fun j u hu => ?_⟩
 match j, hu with
 | 0, hu =>
  simp at hu; subst hu
  rw [show i * 1 + 0 = i by omega, add_plain, cell_of_row W g i cur e _ hh]
  exact h1
theorem rd_lit3 {α : Type} {R : World → α → List Value → Prop} {W : World} {g n : Nat} {e : TypeId} {cur : Array Value} {xs : List α} (hh : W.heap[g]? = some (.cells cur e (0, 0))) (hn : n = xs.length) (hb : xs.length ≤ 140737488355328)
  (hr : ∀ i (h : i < xs.length), ∃ a b c, cur[i * 3]? = some a ∧ cur[i * 3 + 1]? = some b ∧ cur[i * 3 + 2]? = some c ∧ R W xs[i] [a, b, c]) : Rd 3 R W (.slice (some ⟨g, 0, none⟩) n n) xs := by
 subst hn
 refine ⟨_, _, rfl, Nat.le_refl _, hb, fun i hi => ?_⟩
 obtain ⟨a, b, c, h1, h2, h3, h4⟩ := hr i hi
 refine ⟨_, [a, b, c], rfl, h4, rfl, fun j u hu => ?_⟩
 rw [add_plain, cell_of_row W g _ cur e _ hh]
 match j, hu with
 | 0, hu => simp at hu; subst hu; exact h1
 | 1, hu => simp at hu; subst hu; exact h2
 | 2, hu => simp at hu; subst hu; exact h3
theorem rd_int1 {W : World} {g : Nat} {e : TypeId} {x : Int} (hh : W.heap[g]? = some (.cells #[.int .i64 x] e (0, 0))) : RdI W (.slice (some ⟨g, 0, none⟩) 1 1) [x] := by
 refine rd_lit1 hh rfl (by simp) fun i hi => ?_
 simp at hi; subst hi
 exact ⟨_, rfl, rfl⟩
/-- All cells of a slice of the call's own. -/
theorem own_all {w : World} {base e n : Nat} {v : Value} {xs : List Value} (h : w.ownsRow base e 1 v n xs) (hn : 0 < n) : ∃ g cap, v = .slice (some ⟨g, 0, none⟩) n cap ∧ base ≤ g ∧ g < w.heap.size ∧ ∀ i x, xs[i]? = some x → w.cell? ⟨g, i, none⟩ = some x := by
 rcases h.2 with ⟨h1, h2⟩ | ⟨gg, cp, cur, h1, h2, h3, h4, h5, h6, h7⟩
 ·omega
 ·subst h1
  refine ⟨gg, cp, rfl, h2, (Array.getElem?_eq_some_iff.1 h3).1, fun i x hx => ?_⟩
  have := h.cells (g := gg) rfl i x hx
  rwa [add_plain] at this
end Go.Proofs.Lx

namespace Go.Proofs.Lx
open Go Go.RowKit
set_option linter.unusedSimpArgs false
set_option linter.unusedVariables false

theorem list_eq_of {X Y : List Nat} (hl : X.length = Y.length) (h : ∀ i (h1 : i < X.length) (h2 : i < Y.length), X[i] = Y[i]) : X = Y := List.ext_getElem hl h

end Go.Proofs.Lx

namespace Go.Proofs.Lx
open Go Go.RowKit
set_option linter.unusedSimpArgs false
set_option linter.unusedVariables false

/-- Within the reach, told by bytes. -/
structure Small (T : Th) : Prop where
 f : T.foes.length * 24 ≤ 140737488355328
 fr : ∀ l ∈ T.foes, l.length * 8 ≤ 140737488355328
 r : T.rules.length * 40 ≤ 140737488355328
 rb : ∀ r ∈ T.rules, r.body.length * 8 ≤ 140737488355328
 b : T.beats.length * 24 ≤ 140737488355328
 br : ∀ l ∈ T.beats, l.length * 8 ≤ 140737488355328

theorem own_ext {w w' : World} {base e size n : Nat} {v : Value} {xs : List Value} (h : w.ownsRow base e size v n xs) (hb : Below w.heap.size w w') : w'.ownsRow base e size v n xs :=
 h.kept (row := none) ⟨hb.os, hb.tape, hb.output, hb.size, fun k hk _ => hb.block k hk⟩ (by cases v.ownBlock <;> simp)
theorem grown_any {w w' : World} (hb : Below w.heap.size w w') (row : Option Nat) : w.grownBy w' row := ⟨hb.os, hb.tape, hb.output, hb.size, fun k hk _ => hb.block k hk⟩
/-- Growth of a row of the call's own leaves what lies below. -/
theorem below_grown {B : Nat} {w wr w' : World} {row : Option Nat} (hb : Below B w wr) (hB : B ≤ wr.heap.size) (hg : wr.grownBy w' row) (hr : ∀ g, row = some g → B ≤ g) : Below B w w' :=
 hb.trans ⟨hg.os, hg.tape, hg.output, hg.size, fun g hgl => hg.block g (by omega) (fun e => by have := hr g e.symm; omega)⟩

theorem own_form0 {w : World} {base e size n : Nat} {v : Value} {xs : List Value} (h : w.ownsRow base e size v n xs) : ∃ A c, v = .slice A n c := by
 rcases h.2 with ⟨h1, h2⟩ | ⟨g, cap, cur, h1, _⟩
 ·exact ⟨none, 0, by rw [h1, h2]⟩
 ·exact ⟨_, _, h1⟩
/-- Rows of the call's own, apart from the list of them. -/
def KeptRows (base : Nat) (wr : World) (v3 : Value) (vs : List Value) (L : List (List Int)) : Prop :=
 vs.length = L.length ∧ ∀ i (h1 : i < vs.length) (h2 : i < L.length), wr.ownsRow base 3 1 vs[i] L[i].length (intsV L[i]) ∧ (vs[i].ownBlock = none ∨ vs[i].ownBlock ≠ v3.ownBlock)
theorem own_lower {w : World} {base base' e size n : Nat} {v : Value} {xs : List Value} (h : w.ownsRow base e size v n xs) (hb : base' ≤ base) : w.ownsRow base' e size v n xs :=
 ⟨h.1, h.2.imp id fun ⟨g, cap, cur, h1, h2, h3⟩ => ⟨g, cap, cur, h1, Nat.le_trans hb h2, h3⟩⟩
theorem KeptRows.push {wr w1 w2 w3 : World} {base : Nat} {v3 v' : Value} {vs : List Value} {L : List (List Int)} {x : Value} {l : List Int} (h : KeptRows base wr v3 vs L) (hbs : base ≤ wr.heap.size) (hv3 : ∀ g, v3.ownBlock = some g → g < wr.heap.size)
  (hx : w1.ownsRow wr.heap.size 3 1 x l.length (intsV l)) (hb1 : Below wr.heap.size wr w1) (hb2 : Below w1.heap.size w1 w2) (hg : w2.grownBy w3 v3.ownBlock) (hat : v'.ownBlock = v3.ownBlock ∨ v'.ownBlock = some w2.heap.size) : KeptRows base w3 v' (vs ++ [x]) (L ++ [l]) := by
 refine ⟨by simp [h.1], fun i h1 h2 => ?_⟩
 have hle1 := hb1.size
 have hle2 := hb2.size
 by_cases e : i < vs.length
 ·rw [List.getElem_append_left e]
  have e2 : (L ++ [l])[i] = L[i]'(by rw [← h.1]; exact e) := List.getElem_append_left (by rw [← h.1]; exact e)
  rw [e2]
  obtain ⟨k1, k2⟩ := h.2 i e (by rw [← h.1]; exact e)
  refine ⟨((own_ext (own_ext k1 hb1) hb2).kept hg k2), ?_⟩
  cases ho : vs[i].ownBlock with
  | none => exact .inl rfl
  | some g =>
   right
   rcases hat with h6 | h6
   ·rw [h6, ← ho]; exact k2.resolve_left (by rw [ho]; simp)
   ·rw [h6]; intro e3
    have e4 := Option.some.inj e3
    have := (k1.lt g ho).2; omega
 ·obtain rfl : i = vs.length := by simp at h1; omega
  have e2 : (vs ++ [x])[vs.length]'(by simp) = x := by simp
  have e3 : (L ++ [l])[vs.length]'(by simp [h.1]) = l := by simp [h.1]
  rw [e2, e3]
  refine ⟨own_lower ((own_ext hx hb2).kept hg (by
   cases ho : x.ownBlock with
   | none => exact .inl rfl
   | some k => right; intro e4; have := (hx.lt k ho).1; have := hv3 k e4.symm; omega)) hbs, ?_⟩
  cases ho : x.ownBlock with
  | none => exact .inl rfl
  | some k =>
   right; intro e4
   have h5 := hx.lt k ho
   rcases hat with h6 | h6
   ·have := hv3 k (by rw [← h6, ← e4]); omega
   ·rw [h6] at e4; cases e4; omega
theorem own_heap {w w' : World} {base e size n : Nat} {v : Value} {xs : List Value} (h : w.ownsRow base e size v n xs) (hk : ∀ g, base ≤ g → g < w.heap.size → w'.heap[g]? = w.heap[g]?) : w'.ownsRow base e size v n xs := by
 refine ⟨h.1, ?_⟩
 rcases h.2 with h1 | ⟨g, cap, cur, h1, h2, h3, h4⟩
 ·exact .inl h1
 ·exact .inr ⟨g, cap, cur, h1, h2, (hk g h2 (lt_of_block h3)).trans h3, h4⟩
/-- A list of rows, all of the call's own. -/
def OwnLL (base : Nat) (w : World) (v : Value) (L : List (List Int)) : Prop :=
 ∃ vs : List Value, vs.length = L.length ∧ w.ownsRow base 26 1 v L.length vs ∧ ∀ i (h1 : i < vs.length) (h2 : i < L.length), w.ownsRow base 3 1 vs[i] L[i].length (intsV L[i])
theorem OwnLL.keep {base : Nat} {w w' : World} {v : Value} {L : List (List Int)} (h : OwnLL base w v L) (hk : ∀ g, base ≤ g → g < w.heap.size → w'.heap[g]? = w.heap[g]?) : OwnLL base w' v L := by
 obtain ⟨vs, h1, h2, h3⟩ := h
 exact ⟨vs, h1, own_heap h2 hk, fun i a b => own_heap (h3 i a b) hk⟩

theorem own_rows {w : World} {base eS : Nat} {v : Value} {vs : List Value} {L : List (List Int)} (h : w.ownsRow base eS 1 v vs.length vs) (hk : vs.length = L.length) (hl : L.length ≤ 140737488355328)
  (hr : ∀ i (h1 : i < vs.length) (h2 : i < L.length), RdI w vs[i] L[i]) : RdLL w v L := by
 rcases h.2 with ⟨rfl, h0⟩ | ⟨gg, cap, cur, rfl, _, _, hc, _⟩
 ·exact ⟨none, 0, by rw [← hk, h0], by omega, hl, fun i hi => absurd hi (by omega)⟩
 ·refine ⟨_, cap, by rw [hk], by omega, hl, fun i hi => ⟨_, [vs[i]'(by omega)], rfl, ⟨_, rfl, hr i (by omega) hi⟩, rfl, fun j u hu => ?_⟩⟩
  match j, hu with
  | 0, hu =>
   simp at hu; subst hu
   have := h.cells (g := gg) rfl i (vs[i]'(by omega)) (by simp [show i < vs.length by omega])
   rw [Nat.add_zero, Nat.mul_one]; exact this

theorem OwnLL.rd {base : Nat} {w : World} {v : Value} {L : List (List Int)} (h : OwnLL base w v L) (hl : L.length ≤ 140737488355328) (hr : ∀ l ∈ L, l.length ≤ 140737488355328) : RdLL w v L := by
 obtain ⟨vs, h1, h2, h3⟩ := h
 rw [← h1] at h2
 exact own_rows h2 h1 hl fun i a b => own_rdI (h3 i a b) (hr _ (List.getElem_mem b))

end Go.Proofs.Lx

namespace Go.Proofs.Lx
open Go Go.RowKit Go.Proofs.Tj
set_option linter.unusedSimpArgs false
set_option linter.unusedVariables false
/-- What run answers: the engine, and what it says. -/
def RunRes (w : World) (T : Th) (l : List Int) (v : Value) (w' : World) : Prop := ∃ (G : Gh) (S : Stc) (D : Dyn) (W0 : World) (vT : Value), v = .pointer (some ⟨G.b, 0, none⟩) ∧ FEnd T (l.map Int.toNat) S D ∧ S.n = T.foes.length ∧ FRes T l D ∧ Below w.heap.size w W0 ∧ EngV w' W0 G S T D vT
theorem frun_any (w : World) (V vl : Value) (T : Th) (l : List Int) (hT : RdTh w V T) (hl : RdI w vl l) (hwf : WfTh T) (hr : risB l T.lits = true) :
  Calls Tryz.prog 17 #[V, vl] w (Ret (RunRes w T l)) := by
 obtain ⟨hfl, el⟩ := facts_nat hwf hr
 have hin := layIn_of hwf hfl
 have h := erun_any w V vl T (fun S D => S = lS3 T (l.map Int.toNat) ∧ D = lD8 T (l.map Int.toNat)) hT (fun w1 V1 hb h1 => (elay_any w1 V1 vl T (l.map Int.toNat) h1 (by rw [← el]; exact hl.ext (scR_mono _) hb) hin).mono fun e w' h => h.mono fun v w' ⟨W0, G, hv, x1, x2, hb, he⟩ =>
  ⟨W0, G, _, _, ⟨rfl, rfl⟩, hv, x1, x2, sok3 hwf hfl, hin.sP, (lay_queued hwf hfl).1, hb, he⟩)
 refine h.mono fun e w' h => h.mono ?_
 rintro v w' ⟨G, S, D, W0, k, ⟨rfl, rfl⟩, hv, h1, h2, hti, hb, vT, he⟩
 have hf : FEnd T (l.map Int.toNat) (lS3 T (l.map Int.toNat)) (iterD (lS3 T (l.map Int.toNat)) (looksD (lD8 T (l.map Int.toNat)) T.foes.length) k) := ⟨rfl, k, rfl, h2, h1⟩
 exact ⟨G, _, _, W0, vT, hv, hf, rfl, fres_of hwf hr hf, hb, he⟩
/-- The cells that are read of it. -/
structure EndAt (w w' : World) (T : Th) (l : List Int) (D : Dyn) (b : Nat) (vM vT : Value) : Prop where
 bel : Below w.heap.size w w'
 c4 : w'.cell? ⟨b, 4, none⟩ = some vM
 c5 : w'.cell? ⟨b, 5, none⟩ = some vT
 c7 : w'.cell? ⟨b, 7, none⟩ = some (.int .i64 D.queued)
 c8 : w'.cell? ⟨b, 8, none⟩ = some (.int .i64 D.upd)
 mo : w'.ownsRow w.heap.size 77 1 vM T.foes.length (marksV (solveM T l))
 tow : w'.ownsRow w.heap.size 98 2 vT D.told.length (toldV D.told)
 bge : w.heap.size ≤ b
theorem RunRes.flat {w w' : World} {T : Th} {l : List Int} {v : Value} (h : RunRes w T l v w') : ∃ b D vM vT, v = .pointer (some ⟨b, 0, none⟩) ∧ EndAt w w' T l D b vM vT ∧ FRes T l D ∧ ∃ S, FEnd T (l.map Int.toNat) S D := by
 obtain ⟨G, S, D, W0, vT, rfl, hf, hn, hres, hb, he⟩ := h
 have h4 := he.hMarks
 have hm : w'.ownsRow W0.heap.size 77 1 (sl (G.g .marks) S.n) S.n (tab S.n fun q => Value.int .u8 (D.marks q : Int)) := he.sp.ok .marks
 rw [hn] at h4 hm
 refine ⟨G.b, D, _, vT, rfl, ⟨ext_trans hb he.sp.old, h4, he.hTold, he.hQueued, he.hUpd, ?_, own_lower he.toldOwn hb.size, Nat.le_trans hb.size he.sp.hb⟩, hres, S, hf⟩
 have e : marksV (solveM T l) = tab T.foes.length fun q => Value.int .u8 (D.marks q : Int) := by
  rw [← hres.mks]; unfold tab marksV; rw [List.map_map]; rfl
 rw [e]
 exact own_lower hm hb.size
theorem rd_row1 {W : World} {g : Nat} {e : TypeId} {v : Value} {x : List Int} (hh : W.heap[g]? = some (.cells #[v] e (0, 0))) (hv : RdI W v x) : RdLL W (.slice (some ⟨g, 0, none⟩) 1 1) [x] := by
 refine rd_lit1 hh rfl (by simp) fun i hi => ?_
 simp at hi; subst hi
 exact ⟨_, rfl, _, rfl, hv⟩
theorem rd_row2 {W : World} {g : Nat} {e : TypeId} {v u : Value} {x y : List Int} (hh : W.heap[g]? = some (.cells #[v, u] e (0, 0))) (hv : RdI W v x) (hu : RdI W u y) : RdLL W (.slice (some ⟨g, 0, none⟩) 2 2) [x, y] := by
 refine rd_lit1 hh rfl (by simp) fun i hi => ?_
 match i, hi with
 | 0, _ => exact ⟨_, rfl, _, rfl, hv⟩
 | 1, _ => exact ⟨_, rfl, _, rfl, hu⟩
end Go.Proofs.Lx
