/- Parts of the proof: Xq, Nj. Plain: a part of a theory (a cone, with what lies ahead of it told by rules) comes to the same marks. -/
import Derived.Test.YtbidjiopnddldaaGreatP11
import Derived.Test.YtbidjiopnddldaaGreatP10
import Derived.Deep.DeepCutAuto
namespace Go.Proofs.Lx
open Go Go.RowKit Go.Proofs.Tj
set_option linter.unusedSimpArgs false
set_option linter.unusedVariables false
/-- Marks that hold all that follows from them stay as they are in a round. -/
theorem closed_fix {T : Th} {l : List Int} {X : List Nat} (hlen : X.length = T.foes.length)
  (h : ∀ k, k < 4 → ∀ q, q < T.foes.length → cnd T (factsB T.foes.length l) (rulesRows T.rules T.foes.length T.rules.length) X k (q : Int) = true → hasM X k (q : Int) = true) : stepM T l X = X := by
 apply List.ext_getElem
 ·unfold stepM; rw [roundM_length]
 ·intro i a b
  apply Nat.eq_of_testBit_eq
  intro j
  have hi : i < T.foes.length := by rw [← hlen]; exact b
  have e1 : (stepM T l X)[i].testBit j = hasM (stepM T l X) j (i : Int) := by
   unfold hasM; rw [Int.toNat_natCast, List.getD_eq_getElem?_getD, List.getElem?_eq_getElem a, Option.getD_some]
  have e2 : X[i].testBit j = hasM X j (i : Int) := by
   unfold hasM; rw [Int.toNat_natCast, List.getD_eq_getElem?_getD, List.getElem?_eq_getElem b, Option.getD_some]
  rw [e1, e2]
  unfold stepM
  rw [hasM_round (by rw [Int.toNat_natCast, hlen]; exact hi)]
  cases hh : hasM X j (i : Int) with
  | true => simp
  | false =>
   rw [Bool.false_or]
   by_cases hj : j < 4
   ·rw [decide_eq_true hj, Bool.true_and, Int.toNat_natCast, Bool.eq_false_iff]
    intro hc
    have := h j hj i hi hc
    rw [hh] at this; cases this
   ·rw [decide_eq_false hj, Bool.false_and]
theorem closed_sub {T : Th} {l : List Int} {X : List Nat} (hlen : X.length = T.foes.length)
  (h : ∀ k, k < 4 → ∀ q, q < T.foes.length → cnd T (factsB T.foes.length l) (rulesRows T.rules T.foes.length T.rules.length) X k (q : Int) = true → hasM X k (q : Int) = true) : Sub (solveM T l) X :=
 solve_least hlen (closed_fix hlen h)
/-- P is the part of T whose first n literals are a cone; what lies ahead has the marks that S says. -/
structure PartOf (T P : Th) (F l o : List Int) (ol : List Nat) (n : Nat) (mv : Nat → Nat) : Prop where
 lt : ∀ j (h : j < ol.length), ol[j] < T.foes.length
 inj : ∀ i j (hi : i < ol.length) (hj : j < ol.length), ol[i] = ol[j] → i = j
 nl : n ≤ ol.length
 inC : ∀ j (h : j < ol.length), (InCone T o ol[j] ↔ j < n)
 all : ∀ q : Nat, q < T.foes.length → InCone T o q → ∃ j, ∃ h : j < ol.length, ol[j] = q
 fl : P.foes.length = ol.length
 foesC : ∀ j (h : j < ol.length), j < n → ∀ i : Nat, (i : Int) ∈ row P.foes (j : Int) ↔ ∃ h' : i < ol.length, ((ol[i] : Nat) : Int) ∈ row T.foes ((ol[j] : Nat) : Int)
 foesO : ∀ j : Nat, n ≤ j → row P.foes (j : Int) = []
 mvlt : ∀ i q : Nat, i < T.rules.length → (T.rules.getD i default).head = (q : Int) → InCone T o q → mv i < P.rules.length ∧ (P.rules.getD (mv i) default).kind = (T.rules.getD i default).kind ∧
  ∃ j, ∃ h : j < ol.length, ol[j] = q ∧ (P.rules.getD (mv i) default).head = (j : Int)
 body : ∀ i q : Nat, i < T.rules.length → (T.rules.getD i default).head = (q : Int) → InCone T o q → ∀ x : Nat, (x : Int) ∈ (P.rules.getD (mv i) default).body ↔ ∃ h : x < ol.length, ((ol[x] : Nat) : Int) ∈ (T.rules.getD i default).body
 bodyAll : ∀ i q : Nat, i < T.rules.length → (T.rules.getD i default).head = (q : Int) → InCone T o q → ∀ y : Nat, (y : Int) ∈ (T.rules.getD i default).body → ∃ x, ∃ h : x < ol.length, ol[x] = y
 mvon : ∀ r j : Nat, r < P.rules.length → j < n → (P.rules.getD r default).head = (j : Int) → ∃ i q : Nat, i < T.rules.length ∧ (T.rules.getD i default).head = (q : Int) ∧ InCone T o q ∧ mv i = r
 beats : ∀ i s q q' : Nat, i < T.rules.length → s < T.rules.length → (T.rules.getD i default).head = (q : Int) → InCone T o q → (T.rules.getD s default).head = (q' : Int) → InCone T o q' → beatsB P (mv i : Nat) (mv s : Nat) = beatsB T (i : Int) (s : Int)
 facts : ∀ j (h : j < ol.length), j < n → ((j : Int) ∈ l ↔ ((ol[j] : Nat) : Int) ∈ F)
 outF : ∀ j (h : j < ol.length), n ≤ j → ((j : Int) ∈ l ↔ hasM (solveM T F) 0 ((ol[j] : Nat) : Int) = true)
 outR : ∀ j (h : j < ol.length) (r : Nat), n ≤ j → r < P.rules.length → (P.rules.getD r default).head = (j : Int) →
  hasM (solveM T F) 0 ((ol[j] : Nat) : Int) = false ∧ (((P.rules.getD r default).kind = 1 ∧ (P.rules.getD r default).body = [(j : Int)] ∧ hasM (solveM T F) 1 ((ol[j] : Nat) : Int) = false) ∨
  ((P.rules.getD r default).kind = 2 ∧ (P.rules.getD r default).body = [] ∧ hasM (solveM T F) 2 ((ol[j] : Nat) : Int) = true) ∨
  ((P.rules.getD r default).kind = 2 ∧ (P.rules.getD r default).body = [(j : Int)] ∧ hasM (solveM T F) 2 ((ol[j] : Nat) : Int) = false ∧ hasM (solveM T F) 3 ((ol[j] : Nat) : Int) = false))
 outS : ∀ j (h : j < ol.length), n ≤ j → hasM (solveM T F) 0 ((ol[j] : Nat) : Int) = false → hasM (solveM T F) 1 ((ol[j] : Nat) : Int) = false → ∃ r, r < P.rules.length ∧ (P.rules.getD r default).head = (j : Int) ∧ (P.rules.getD r default).kind = 1 ∧ (P.rules.getD r default).body = [(j : Int)]
 outE : ∀ j (h : j < ol.length), n ≤ j → hasM (solveM T F) 0 ((ol[j] : Nat) : Int) = false → hasM (solveM T F) 2 ((ol[j] : Nat) : Int) = true → ∃ r, r < P.rules.length ∧ (P.rules.getD r default).head = (j : Int) ∧ (P.rules.getD r default).kind = 2 ∧ (P.rules.getD r default).body = []
 outL : ∀ j (h : j < ol.length), n ≤ j → hasM (solveM T F) 0 ((ol[j] : Nat) : Int) = false → hasM (solveM T F) 2 ((ol[j] : Nat) : Int) = false → hasM (solveM T F) 3 ((ol[j] : Nat) : Int) = false → ∃ r, r < P.rules.length ∧ (P.rules.getD r default).head = (j : Int) ∧ (P.rules.getD r default).kind = 2 ∧ (P.rules.getD r default).body = [(j : Int)]
section
variable {T P : Th} {F l o : List Int} {ol : List Nat} {n : Nat} {mv : Nat → Nat} {MT MP : List Nat}
/-- The marks of the part are those of the whole, place by place. -/
def Corr (ol : List Nat) (MT MP : List Nat) : Prop := ∀ j (h : j < ol.length) k, hasM MP k (j : Int) = hasM MT k ((ol[j] : Nat) : Int)
theorem PartOf.rules (hwT : WfTh T) (hwP : WfTh P) (h : PartOf T P F l o ol n mv) (hc : Corr ol MT MP) {i q : Nat} (hi : i < T.rules.length) (hq : (T.rules.getD i default).head = (q : Int)) (hC : InCone T o q) (k : Nat) :
  wholeB P MP k (mv i : Nat) = wholeB T MT k (i : Int) ∧ someB P MP k (mv i : Nat) = someB T MT k (i : Int) := by
 have hm := (h.mvlt i q hi hq hC).1
 have eP : bodyAt P ((mv i : Nat) : Int) = (P.rules.getD (mv i) default).body := by simp [bodyAt]
 have eT : bodyAt T (i : Int) = (T.rules.getD i default).body := by simp [bodyAt]
 have rP : ∀ x ∈ (P.rules.getD (mv i) default).body, ∃ y : Nat, x = y := fun x hx => by
  have h1 := hwP.ru _ (List.getElem_mem hm)
  have e : P.rules.getD (mv i) default = P.rules[mv i] := by simp [hm]
  rw [e] at hx
  simp only [ruleOk, Bool.and_eq_true, decide_eq_true_eq] at h1
  obtain ⟨a, ha, rfl⟩ := List.getElem_of_mem hx
  have := (risB_spec h1.2).1 a ha
  exact ⟨_, (Int.toNat_of_nonneg this.1).symm⟩
 have rT : ∀ x ∈ (T.rules.getD i default).body, ∃ y : Nat, x = y := fun x hx => by
  have h1 := hwT.ru _ (List.getElem_mem hi)
  have e : T.rules.getD i default = T.rules[i] := by simp [hi]
  rw [e] at hx
  simp only [ruleOk, Bool.and_eq_true, decide_eq_true_eq] at h1
  obtain ⟨a, ha, rfl⟩ := List.getElem_of_mem hx
  have := (risB_spec h1.2).1 a ha
  exact ⟨_, (Int.toNat_of_nonneg this.1).symm⟩
 refine ⟨?_, ?_⟩
 ·rw [Bool.eq_iff_iff, whole_true, whole_true, eP, eT]
  constructor
  ·intro hx x hxm
   obtain ⟨y, rfl⟩ := rT x hxm
   obtain ⟨a, ha, rfl⟩ := h.bodyAll i q hi hq hC y hxm
   rw [← hc a ha k]
   exact hx _ ((h.body i q hi hq hC a).2 ⟨ha, hxm⟩)
  ·intro hx x hxm
   obtain ⟨y, rfl⟩ := rP x hxm
   obtain ⟨hy, hm2⟩ := (h.body i q hi hq hC y).1 hxm
   rw [hc y hy k]
   exact hx _ hm2
 ·rw [Bool.eq_iff_iff, some_true, some_true, eP, eT]
  constructor
  ·rintro ⟨x, hxm, hx⟩
   obtain ⟨y, rfl⟩ := rP x hxm
   obtain ⟨hy, hm2⟩ := (h.body i q hi hq hC y).1 hxm
   rw [hc y hy k] at hx
   exact ⟨_, hm2, hx⟩
  ·rintro ⟨x, hxm, hx⟩
   obtain ⟨y, rfl⟩ := rT x hxm
   obtain ⟨a, ha, rfl⟩ := h.bodyAll i q hi hq hC y hxm
   rw [← hc a ha k] at hx
   exact ⟨_, (h.body i q hi hq hC a).2 ⟨ha, hxm⟩, hx⟩
theorem PartOf.heads (h : PartOf T P F l o ol n mv) {j : Nat} (hj : j < ol.length) (hjn : j < n) {Q : Int → Prop} {Q' : Int → Prop} (hQ : ∀ i : Nat, i < T.rules.length → (T.rules.getD i default).head = ((ol[j] : Nat) : Int) → (Q ((mv i : Nat) : Int) ↔ Q' (i : Int))) :
  ((∃ r ∈ row (rulesRows P.rules P.foes.length P.rules.length) (j : Int), Q r) ↔ ∃ r ∈ row (rulesRows T.rules T.foes.length T.rules.length) ((ol[j] : Nat) : Int), Q' r) ∧
  ((∀ r ∈ row (rulesRows P.rules P.foes.length P.rules.length) (j : Int), Q r) ↔ ∀ r ∈ row (rulesRows T.rules T.foes.length T.rules.length) ((ol[j] : Nat) : Int), Q' r) := by
 have hC := (h.inC j hj).2 hjn
 have m1 : ∀ r : Int, r ∈ row (rulesRows P.rules P.foes.length P.rules.length) (j : Int) → ∃ i : Nat, i < T.rules.length ∧ (T.rules.getD i default).head = ((ol[j] : Nat) : Int) ∧ r = ((mv i : Nat) : Int) := fun r hr => by
  obtain ⟨r', h1, rfl, h2⟩ := (mem_heads (by rw [h.fl]; exact hj)).1 hr
  obtain ⟨i, q, h3, h4, h5, h6⟩ := h.mvon r' j h1 hjn h2
  subst h6
  obtain ⟨_, _, j', hj', h7, h8⟩ := h.mvlt i q h3 h4 h5
  rw [h2] at h8
  have : j = j' := by omega
  subst this
  exact ⟨i, h3, by rw [h4, h7], rfl⟩
 have m2 : ∀ i : Nat, i < T.rules.length → (T.rules.getD i default).head = ((ol[j] : Nat) : Int) → ((mv i : Nat) : Int) ∈ row (rulesRows P.rules P.foes.length P.rules.length) (j : Int) := fun i hi hh => by
  obtain ⟨h1, _, j', hj', h7, h8⟩ := h.mvlt i _ hi hh hC
  have := h.inj _ _ hj' hj h7
  subst this
  exact (mem_heads (by rw [h.fl]; exact hj)).2 ⟨_, h1, rfl, h8⟩
 have m3 : ∀ r : Int, r ∈ row (rulesRows T.rules T.foes.length T.rules.length) ((ol[j] : Nat) : Int) ↔ ∃ i : Nat, i < T.rules.length ∧ r = i ∧ (T.rules.getD i default).head = ((ol[j] : Nat) : Int) := fun r => mem_heads (h.lt j hj)
 constructor
 ·constructor
  ·rintro ⟨r, hr, hq⟩
   obtain ⟨i, h1, h2, rfl⟩ := m1 r hr
   exact ⟨_, (m3 _).2 ⟨i, h1, rfl, h2⟩, (hQ i h1 h2).1 hq⟩
  ·rintro ⟨r, hr, hq⟩
   obtain ⟨i, h1, rfl, h2⟩ := (m3 r).1 hr
   exact ⟨_, m2 i h1 h2, (hQ i h1 h2).2 hq⟩
 ·constructor
  ·intro hp r hr
   obtain ⟨i, h1, rfl, h2⟩ := (m3 r).1 hr
   exact (hQ i h1 h2).1 (hp _ (m2 i h1 h2))
  ·intro hp r hr
   obtain ⟨i, h1, h2, rfl⟩ := m1 r hr
   exact (hQ i h1 h2).2 (hp _ ((m3 _).2 ⟨i, h1, rfl, h2⟩))
/-- A condition of a literal of the cone is the same in the part. -/
theorem PartOf.cnd (hwT : WfTh T) (hwP : WfTh P) (h : PartOf T P F l o ol n mv) (hc : Corr ol MT MP) {j : Nat} (hj : j < ol.length) (hjn : j < n) (k : Nat) :
  Lx.cnd P (factsB P.foes.length l) (rulesRows P.rules P.foes.length P.rules.length) MP k (j : Int) = Lx.cnd T (factsB T.foes.length F) (rulesRows T.rules T.foes.length T.rules.length) MT k ((ol[j] : Nat) : Int) := by
 have hC := (h.inC j hj).2 hjn
 have hlt := h.lt j hj
 have hfP : (factsB P.foes.length l).getD (j : Int).toNat false = memB l (j : Int) := by
  have : j < P.foes.length := by rw [h.fl]; exact hj
  simp [factsB, this]
 have hfT : (factsB T.foes.length F).getD ((ol[j] : Nat) : Int).toNat false = memB F ((ol[j] : Nat) : Int) := by simp [factsB, hlt]
 have hff : memB l (j : Int) = memB F ((ol[j] : Nat) : Int) := by rw [Bool.eq_iff_iff, memB_true, memB_true]; exact h.facts j hj hjn
 have hst : ∀ i q : Nat, i < T.rules.length → (T.rules.getD i default).head = (q : Int) → InCone T o q → strictB P ((mv i : Nat) : Int) = strictB T (i : Int) ∧ supB P ((mv i : Nat) : Int) = supB T (i : Int) := fun i q h1 h2 h3 => by
  have := (h.mvlt i q h1 h2 h3).2.1
  simp only [strictB, supB, kindAt, Int.toNat_natCast, this]
  exact ⟨trivial, trivial⟩
 -- the foes of a literal of the cone
 have hfoe : ∀ {Q Q' : Int → Prop}, (∀ i (hi : i < ol.length), i < n → (Q (i : Int) ↔ Q' ((ol[i] : Nat) : Int))) → ((∀ f ∈ row P.foes (j : Int), Q f) ↔ ∀ f ∈ row T.foes ((ol[j] : Nat) : Int), Q' f) ∧ ((∃ f ∈ row P.foes (j : Int), Q f) ↔ ∃ f ∈ row T.foes ((ol[j] : Nat) : Int), Q' f) := by
  intro Q Q' hQ
  have p1 : ∀ f ∈ row P.foes (j : Int), ∃ i, ∃ hi : i < ol.length, i < n ∧ f = (i : Int) ∧ ((ol[i] : Nat) : Int) ∈ row T.foes ((ol[j] : Nat) : Int) := fun f hf => by
   have hf0 := hf
   rw [row_nat _ _ (by rw [h.fl]; exact hj)] at hf0
   obtain ⟨i, hi, rfl, _⟩ := foe_in hwP (by rw [h.fl]; exact hj) hf0
   obtain ⟨hi2, hm⟩ := (h.foesC j hj hjn i).1 hf
   exact ⟨i, hi2, (h.inC i hi2).1 (.foe hC hm), rfl, hm⟩
  have p2 : ∀ f ∈ row T.foes ((ol[j] : Nat) : Int), ∃ i, ∃ hi : i < ol.length, i < n ∧ f = ((ol[i] : Nat) : Int) ∧ (i : Int) ∈ row P.foes (j : Int) := fun f hf => by
   have hf0 := hf
   rw [row_nat _ _ hlt] at hf0
   obtain ⟨y, hy, rfl, _⟩ := foe_in hwT hlt hf0
   obtain ⟨i, hi, rfl⟩ := h.all y hy (.foe hC hf)
   exact ⟨i, hi, (h.inC i hi).1 (.foe hC hf), rfl, (h.foesC j hj hjn i).2 ⟨hi, hf⟩⟩
  constructor
  ·constructor
   ·intro hp f hf
    obtain ⟨i, hi, hin, rfl, hm⟩ := p2 f hf
    exact (hQ i hi hin).1 (hp _ hm)
   ·intro hp f hf
    obtain ⟨i, hi, hin, rfl, hm⟩ := p1 f hf
    exact (hQ i hi hin).2 (hp _ hm)
  ·constructor
   ·rintro ⟨f, hf, hq⟩
    obtain ⟨i, hi, hin, rfl, hm⟩ := p1 f hf
    exact ⟨_, hm, (hQ i hi hin).1 hq⟩
   ·rintro ⟨f, hf, hq⟩
    obtain ⟨i, hi, hin, rfl, hm⟩ := p2 f hf
    exact ⟨_, hm, (hQ i hi hin).2 hq⟩
 have hR := fun {i q : Nat} (h1 : i < T.rules.length) (h2 : (T.rules.getD i default).head = (q : Int)) (h3 : InCone T o q) k => h.rules hwT hwP hc h1 h2 h3 k
 match k with
 | 0 =>
  rw [Bool.eq_iff_iff, plusD_iff, plusD_iff, hfP, hfT, hff]
  exact or_congr Iff.rfl (h.heads hj hjn fun i h1 h2 => by rw [(hst i _ h1 h2 hC).1, (hR h1 h2 hC 0).1]).1
 | 1 =>
  rw [Bool.eq_iff_iff, minusD_iff, minusD_iff, hfP, hfT, hff]
  exact and_congr Iff.rfl (h.heads hj hjn fun i h1 h2 => by rw [(hst i _ h1 h2 hC).1, (hR h1 h2 hC 1).2]).2
 | 2 =>
  rw [Bool.eq_iff_iff, plusP_iff, plusP_iff, hc j hj 0]
  refine or_congr Iff.rfl (and_congr (h.heads hj hjn fun i h1 h2 => by rw [(hst i _ h1 h2 hC).2, (hR h1 h2 hC 2).1]).1 (and_congr (hfoe fun i hi _ => by rw [hc i hi 1]).1 (hfoe fun f hf hfn => ?_).1))
  refine (h.heads hf hfn fun s h1 h2 => ?_).2
  have hCf := (h.inC f hf).2 hfn
  rw [(hR h1 h2 hCf 3).2]
  refine or_congr Iff.rfl (h.heads hj hjn fun i h3 h4 => ?_).1
  rw [(hst i _ h3 h4 hC).2, (hR h3 h4 hC 2).1, h.beats i s _ _ h3 h1 h4 hC h2 hCf]
 | k + 3 =>
  show Lx.cnd P (factsB P.foes.length l) (rulesRows P.rules P.foes.length P.rules.length) MP 3 (j : Int) = Lx.cnd T (factsB T.foes.length F) (rulesRows T.rules T.foes.length T.rules.length) MT 3 ((ol[j] : Nat) : Int)
  rw [Bool.eq_iff_iff, minusP_iff, minusP_iff, hc j hj 1]
  refine and_congr Iff.rfl (or_congr (h.heads hj hjn fun i h1 h2 => by rw [(hst i _ h1 h2 hC).2, (hR h1 h2 hC 3).2]).2 (or_congr (hfoe fun i hi _ => by rw [hc i hi 0]).2 (hfoe fun f hf hfn => ?_).2))
  refine (h.heads hf hfn fun s h1 h2 => ?_).1
  have hCf := (h.inC f hf).2 hfn
  rw [(hR h1 h2 hCf 2).1]
  refine and_congr Iff.rfl (h.heads hj hjn fun i h3 h4 => ?_).2
  rw [(hst i _ h3 h4 hC).2, (hR h3 h4 hC 3).2, h.beats i s _ _ h3 h1 h4 hC h2 hCf]
/-- The whole's marks, brought over. -/
def bring (ol : List Nat) (S : List Nat) : List Nat := ol.map fun q => S.getD q 0
theorem bring_corr (ol S : List Nat) : Corr ol S (bring ol S) := fun j h k => by
 unfold hasM bring
 simp [h]
theorem made_bits (T : Th) (F : List Int) (q : Nat) (hq : q < T.foes.length) : (hasM (solveM T F) 0 (q : Int) = true → hasM (solveM T F) 1 (q : Int) = false) ∧ (hasM (solveM T F) 2 (q : Int) = true → hasM (solveM T F) 3 (q : Int) = false) ∧ (hasM (solveM T F) 0 (q : Int) = true → hasM (solveM T F) 2 (q : Int) = true) ∧ (hasM (solveM T F) 3 (q : Int) = true → hasM (solveM T F) 1 (q : Int) = true) := by
 have hm := solve_made T F
 refine ⟨fun h => ?_, fun h => ?_, fun h => ?_, fun h => hm.dd _ h⟩
 ·rw [Bool.eq_false_iff]; intro h2; exact (hm.coh (q : Int)).1 ⟨h, h2⟩
 ·rw [Bool.eq_false_iff]; intro h2; exact (hm.coh (q : Int)).2 ⟨h, h2⟩
 ·exact solve_shut T F (by omega) hq (plusP_iff.2 (.inl h))
/-- What lies ahead: a condition that holds in the part of the marks brought over has its mark. -/
theorem PartOf.outUp (h : PartOf T P F l o ol n mv) {j : Nat} (hj : j < ol.length) (hjn : n ≤ j) {k : Nat} (hk : k < 4)
  (hcn : Lx.cnd P (factsB P.foes.length l) (rulesRows P.rules P.foes.length P.rules.length) (bring ol (solveM T F)) k (j : Int) = true) : hasM (solveM T F) k ((ol[j] : Nat) : Int) = true := by
 obtain ⟨m1, m2, m3, m4⟩ := made_bits T F ol[j] (h.lt j hj)
 have hc := bring_corr ol (solveM T F)
 have hjP : j < P.foes.length := by rw [h.fl]; exact hj
 have hfP : (factsB P.foes.length l).getD (j : Int).toNat false = memB l (j : Int) := by simp [factsB, hjP]
 have hfo := h.foesO j hjn
 have hb : ∀ r : Nat, bodyAt P (r : Int) = (P.rules.getD r default).body := fun r => by simp [bodyAt]
 match k, hk with
 | 0, _ =>
  rw [plusD_iff, hfP, memB_true] at hcn
  rcases hcn with h1 | ⟨r, hr, hs, hw⟩
  ·exact (h.outF j hj hjn).1 h1
  ·obtain ⟨i, hi, rfl, hh⟩ := (mem_heads hjP).1 hr
   obtain ⟨h0, h1 | h1 | h1⟩ := h.outR j hj i hjn hi hh
   ·have := whole_true.1 hw (j : Int) (by rw [hb, h1.2.1]; simp)
    rwa [hc j hj] at this
   ·simp only [strictB, kindAt, Int.toNat_natCast, h1.1] at hs; simp at hs
   ·simp only [strictB, kindAt, Int.toNat_natCast, h1.1] at hs; simp at hs
 | 1, _ =>
  rw [minusD_iff, hfP] at hcn
  obtain ⟨h1, h2⟩ := hcn
  refine Classical.byContradiction fun hn => ?_
  rw [Bool.not_eq_true] at hn
  have h0 : hasM (solveM T F) 0 ((ol[j] : Nat) : Int) = false := by
   rw [Bool.eq_false_iff]; intro h3
   rw [memB_true.2 ((h.outF j hj hjn).2 h3)] at h1; cases h1
  obtain ⟨r, hr, hh, hk1, hbd⟩ := h.outS j hj hjn h0 hn
  have h4 := h2 (r : Int) ((mem_heads hjP).2 ⟨r, hr, rfl, hh⟩) (by simp only [strictB, kindAt, Int.toNat_natCast, hk1]; rfl)
  obtain ⟨x, hx, hm⟩ := some_true.1 h4
  rw [hb, hbd, List.mem_singleton] at hx
  subst hx
  rw [hc j hj, hn] at hm; cases hm
 | 2, _ =>
  rw [plusP_iff] at hcn
  rcases hcn with h1 | ⟨⟨r, hr, hs, hw⟩, _⟩
  ·rw [hc j hj] at h1; exact m3 h1
  ·obtain ⟨i, hi, rfl, hh⟩ := (mem_heads hjP).1 hr
   obtain ⟨h0, h1 | h1 | h1⟩ := h.outR j hj i hjn hi hh
   ·have := whole_true.1 hw (j : Int) (by rw [hb, h1.2.1]; simp)
    rwa [hc j hj] at this
   ·exact h1.2.2
   ·have := whole_true.1 hw (j : Int) (by rw [hb, h1.2.1]; simp)
    rwa [hc j hj] at this
 | 3, _ =>
  rw [minusP_iff, hfo] at hcn
  obtain ⟨h1, h2 | ⟨f, hf, _⟩ | ⟨f, hf, _⟩⟩ := hcn
  ·rw [hc j hj] at h1
   refine Classical.byContradiction fun hn => ?_
   rw [Bool.not_eq_true] at hn
   have h0 : hasM (solveM T F) 0 ((ol[j] : Nat) : Int) = false := by
    rw [Bool.eq_false_iff]; intro h3
    rw [m1 h3] at h1; cases h1
   cases h5 : hasM (solveM T F) 2 ((ol[j] : Nat) : Int) with
   | true =>
    obtain ⟨r, hr, hh, hk1, hbd⟩ := h.outE j hj hjn h0 h5
    have h4 := h2 (r : Int) ((mem_heads hjP).2 ⟨r, hr, rfl, hh⟩) (by simp only [supB, kindAt, Int.toNat_natCast, hk1]; rfl)
    obtain ⟨x, hx, hm⟩ := some_true.1 h4
    rw [hb, hbd] at hx; simp at hx
   | false =>
    obtain ⟨r, hr, hh, hk1, hbd⟩ := h.outL j hj hjn h0 h5 hn
    have h4 := h2 (r : Int) ((mem_heads hjP).2 ⟨r, hr, rfl, hh⟩) (by simp only [supB, kindAt, Int.toNat_natCast, hk1]; rfl)
    obtain ⟨x, hx, hm⟩ := some_true.1 h4
    rw [hb, hbd, List.mem_singleton] at hx
    subst hx
    rw [hc j hj, hn] at hm; cases hm
  ·simp at hf
  ·simp at hf
/-- The part has no mark that the whole lacks. -/
theorem PartOf.le (hwT : WfTh T) (hwP : WfTh P) (h : PartOf T P F l o ol n mv) {j : Nat} (hj : j < ol.length) {k : Nat} (hm : hasM (solveM P l) k (j : Int) = true) : hasM (solveM T F) k ((ol[j] : Nat) : Int) = true := by
 have hlen : (bring ol (solveM T F)).length = P.foes.length := by rw [h.fl]; simp [bring]
 have hs := closed_sub (T := P) (l := l) hlen fun k hk q hq hcn => by
  have hq' : q < ol.length := by rw [← h.fl]; exact hq
  rw [bring_corr ol (solveM T F) q hq' k]
  by_cases hqn : q < n
  ·rw [h.cnd hwT hwP (bring_corr ol (solveM T F)) hq' hqn k] at hcn
   exact solve_shut T F hk (h.lt q hq') hcn
  ·exact h.outUp hq' (by omega) hk hcn
 have := hs k (j : Int) hm
 rwa [bring_corr ol (solveM T F) j hj k] at this
/-- What lies ahead has its marks in the part. -/
theorem PartOf.outDown (hwT : WfTh T) (hwP : WfTh P) (h : PartOf T P F l o ol n mv) {j : Nat} (hj : j < ol.length) (hjn : n ≤ j) {k : Nat} (hm : hasM (solveM T F) k ((ol[j] : Nat) : Int) = true) : hasM (solveM P l) k (j : Int) = true := by
 obtain ⟨m1, m2, m3, m4⟩ := made_bits T F ol[j] (h.lt j hj)
 have hjP : j < P.foes.length := by rw [h.fl]; exact hj
 have hfP : (factsB P.foes.length l).getD (j : Int).toNat false = memB l (j : Int) := by simp [factsB, hjP]
 have hfo := h.foesO j hjn
 have hb : ∀ r : Nat, bodyAt P (r : Int) = (P.rules.getD r default).body := fun r => by simp [bodyAt]
 have b0 : hasM (solveM T F) 0 ((ol[j] : Nat) : Int) = true → hasM (solveM P l) 0 (j : Int) = true := fun h1 =>
  solve_shut P l (by omega) hjP (plusD_iff.2 (.inl (by rw [hfP, memB_true]; exact (h.outF j hj hjn).2 h1)))
 have b1 : hasM (solveM T F) 1 ((ol[j] : Nat) : Int) = true → hasM (solveM P l) 1 (j : Int) = true := fun h1 => by
  refine solve_shut P l (by omega) hjP (minusD_iff.2 ⟨?_, fun r hr hs => ?_⟩)
  ·rw [hfP, Bool.eq_false_iff]
   intro h2
   rw [m1 ((h.outF j hj hjn).1 (memB_true.1 h2))] at h1; cases h1
  ·obtain ⟨i, hi, rfl, hh⟩ := (mem_heads hjP).1 hr
   obtain ⟨h0, h3 | h3 | h3⟩ := h.outR j hj i hjn hi hh
   ·rw [h3.2.2] at h1; cases h1
   ·simp only [strictB, kindAt, Int.toNat_natCast, h3.1] at hs; simp at hs
   ·simp only [strictB, kindAt, Int.toNat_natCast, h3.1] at hs; simp at hs
 have hk4 : k < 4 := (solve_made T F).low _ _ hm
 match k, hk4 with
 | 0, _ => exact b0 hm
 | 1, _ => exact b1 hm
 | 2, _ =>
  by_cases h0 : hasM (solveM T F) 0 ((ol[j] : Nat) : Int) = true
  ·exact solve_shut P l (by omega) hjP (plusP_iff.2 (.inl (b0 h0)))
  ·rw [Bool.not_eq_true] at h0
   obtain ⟨r, hr, hh, hk1, hbd⟩ := h.outE j hj hjn h0 hm
   refine solve_shut P l (by omega) hjP (plusP_iff.2 (.inr ⟨⟨(r : Int), (mem_heads hjP).2 ⟨r, hr, rfl, hh⟩, by simp only [supB, kindAt, Int.toNat_natCast, hk1]; rfl, whole_true.2 fun x hx => by rw [hb, hbd] at hx; simp at hx⟩, ?_, ?_⟩))
   ·rw [hfo]; simp
   ·rw [hfo]; simp
 | 3, _ =>
  refine solve_shut P l (by omega) hjP (minusP_iff.2 ⟨b1 (m4 hm), .inl fun r hr hs => ?_⟩)
  obtain ⟨i, hi, rfl, hh⟩ := (mem_heads hjP).1 hr
  obtain ⟨h0, h3 | h3 | h3⟩ := h.outR j hj i hjn hi hh
  ·rw [m4 hm] at h3; exact absurd h3.2.2 (by simp)
  ·rw [m2 h3.2.2] at hm; cases hm
  ·rw [h3.2.2.2] at hm; cases hm
open Classical in
/-- The part comes to the whole's marks. -/
theorem PartOf.same (hwT : WfTh T) (hwP : WfTh P) (h : PartOf T P F l o ol n mv) {j : Nat} (hj : j < ol.length) (k : Nat) : hasM (solveM P l) k (j : Int) = hasM (solveM T F) k ((ol[j] : Nat) : Int) := by
 rw [Bool.eq_iff_iff]
 refine ⟨h.le hwT hwP hj, fun hm => ?_⟩
 -- the part's marks in place of the whole's, where the part has a place
 let X : List Nat := (List.range T.foes.length).map fun q => if hq : ∃ j, ∃ hj : j < ol.length, ol[j] = q then (solveM P l).getD hq.choose 0 else (solveM T F).getD q 0
 have hXl : X.length = T.foes.length := by simp [X]
 have hXo : Corr ol X (solveM P l) := fun i hi k => by
  have hlt := h.lt i hi
  have hex : ∃ j, ∃ hj : j < ol.length, ol[j] = ol[i] := ⟨i, hi, rfl⟩
  have he : hex.choose = i := by
   obtain ⟨h1, h2⟩ := hex.choose_spec
   exact h.inj _ _ h1 hi h2
  have : X.getD ol[i] 0 = (solveM P l).getD i 0 := by
   have e0 : X[ol[i]]'(by rw [hXl]; exact hlt) = (solveM P l).getD i 0 := by
    simp only [X, List.getElem_map, List.getElem_range]
    rw [dif_pos hex, he]
   rw [List.getD_eq_getElem?_getD, List.getElem?_eq_getElem (by rw [hXl]; exact hlt), Option.getD_some, e0]
  unfold hasM
  rw [Int.toNat_natCast, Int.toNat_natCast, this]
 have hXn : ∀ q, q < T.foes.length → ¬ InCone T o q → ∀ k, hasM X k (q : Int) = hasM (solveM T F) k (q : Int) := fun q hq hn k => by
  by_cases hex : ∃ j, ∃ hj : j < ol.length, ol[j] = q
  ·obtain ⟨i, hi, rfl⟩ := hex
   rw [← hXo i hi k, Bool.eq_iff_iff]
   exact ⟨h.le hwT hwP hi, h.outDown hwT hwP hi (by have := mt (h.inC i hi).2 hn; omega)⟩
  ·unfold hasM
   rw [Int.toNat_natCast, List.getD_eq_getElem?_getD, List.getElem?_eq_getElem (by rw [hXl]; exact hq), Option.getD_some]
   simp only [X, List.getElem_map, List.getElem_range]
   rw [dif_neg hex]
 have hs := closed_sub (T := T) (l := F) hXl fun k hk q hq hcn => by
  by_cases hC : InCone T o q
  ·obtain ⟨i, hi, rfl⟩ := h.all q hq hC
   rw [← h.cnd hwT hwP hXo hi ((h.inC i hi).1 hC) k] at hcn
   have := solve_shut P l hk (by rw [h.fl]; exact hi) hcn
   rwa [hXo i hi k] at this
  ·have hMeq : ∀ x : Nat, x < T.foes.length → ¬ InCone T o x → X.getD x 0 = (solveM T F).getD x 0 := fun x hx hn => Nat.eq_of_testBit_eq fun k => by
    have := hXn x hx hn k
    unfold hasM at this
    rwa [Int.toNat_natCast] at this
   have hcc := cone_cnd hwT (F := factsB T.foes.length F) (F' := factsB T.foes.length F) hMeq (fun _ _ _ => rfl) k hq hC
   rw [hcc] at hcn
   rw [hXn q hq hC k]
   exact solve_shut T F hk hq hcn
 have := hs k _ hm
 rwa [← hXo j hj k] at this
end
end Go.Proofs.Lx

namespace Go.Proofs.Lx
open Go Go.RowKit
set_option linter.unusedSimpArgs false
set_option linter.unusedVariables false

theorem own_mono {w : World} {base base' e size n : Nat} {v : Value} {xs : List Value} (h : w.ownsRow base e size v n xs) (hb : base' ≤ base) : w.ownsRow base' e size v n xs :=
 ⟨h.1, h.2.imp id fun ⟨g, cap, cur, h1, h2, h3⟩ => ⟨g, cap, cur, h1, Nat.le_trans hb h2, h3⟩⟩

set_option maxRecDepth 100000 in
set_option maxHeartbeats 6400000 in
theorem run_any (w : World) (V vl : Value) (T : Th) (l : List Int) (hT : RdTh w V T) (hwf : WfTh T) (hl : RdI w vl l) (hlr : risB l T.lits = true) :
  Calls Tryz.prog 58 #[V, vl] w (Ret fun r w' => ∃ (k : Nat) (v : Value), r = .tuple #[v, .int .i64 k] ∧ w'.ownsRow w.heap.size 58 1 v T.foes.length (marksV (itM (stepM T l) k (startM T))) ∧ stepM T l (itM (stepM T l) k (startM T)) = itM (stepM T l) k (startM T) ∧ (∀ j, j < k → itM (stepM T l) (j + 1) (startM T) ≠ itM (stepM T l) j (startM T)) ∧ Below w.heap.size w w') := by
 have Hwf := hid hwf
 have HT := hid hT
 obtain ⟨vF, vR, vB, rfl, hF, ⟨AR, cR, rfl, hcR, hbR, hrR⟩, ⟨AB, cB, rfl, hcB, hbB, hrB⟩⟩ := hT
 obtain ⟨A, c, rfl, hc, hb, hr⟩ := hF
 have hl0 := hwf.l0; have hl1 := hwf.l1; have hfl := hwf.fl
 obtain ⟨W1, HW1⟩ : ∃ W1, Hid (W1 = w.alloc (.cells #[.int .i64 T.lits, .slice A T.foes.length c, .slice AR T.rules.length cR, .slice AB T.beats.length cB] 25)) := ⟨_, hid rfl⟩
 have hmM := mkM T.lits hl0 (by omega)
 have hln : T.lits.toNat = T.foes.length := by omega
 rw [hln] at hmM
 have hcall : ∀ (W : World) (vm : Value), Below (w.alloc (.cells #[.int .i64 T.lits, .slice A T.foes.length c, .slice AR T.rules.length cR, .slice AB T.beats.length cB] 25)).heap.size (w.alloc (.cells #[.int .i64 T.lits, .slice A T.foes.length c, .slice AR T.rules.length cR, .slice AB T.beats.length cB] 25)) W → RdMk W vm (startM T) →
   Calls Tryz.prog 78 #[.agg #[.int .i64 T.lits, .slice A T.foes.length c, .slice AR T.rules.length cR, .slice AB T.beats.length cB], vl, vm] W (Ret fun r w' => ∃ b, r = .pointer (some ⟨b, 0, none⟩) ∧ w.heap.size ≤ b ∧ NWS w' b T (factsB T.foes.length l) (rulesRows T.rules T.foes.length T.rules.length) (startM T) ∧ Below w.heap.size w w') := by
  intro W vm hb hm
  have hb0 := ext_trans (ext_alloc w _) hb
  refine (newWorld_any W _ _ vm T l (startM T) (HT.out.ext hb0) Hwf.out (hl.ext (scR_mono _) hb0) hlr hm).mono ?_
  rintro e w' ⟨_, rfl, b, rfl, h1, h2, h3⟩
  exact ⟨_, rfl, b, rfl, Nat.le_trans hb0.size h1, h2, ext_trans hb0 h3⟩
 have hst : ∀ (W : World), RdMk (W.alloc (.cells (madeCells #[Value.int .u8 0] T.foes.length) 58)) (.slice (some ⟨W.heap.size, 0, none⟩) T.foes.length T.foes.length) (startM T) := by
  intro W
  have h1 := made_arr (fun x : Nat => Value.int .u8 (x : Int)) 0 58 W T.foes.length
  have h2 := h1.reads (by simp; omega) T.foes.length (by simp)
  simpa [startM] using h2
 have hst2 : RdMk ((w.alloc (.cells #[.int .i64 T.lits, .slice A T.foes.length c, .slice AR T.rules.length cR, .slice AB T.beats.length cB] 25)).alloc (.cells (madeCells #[Value.int .u8 0] T.foes.length) 58)) (.slice (some ⟨w.heap.size + 1, 0, none⟩) T.foes.length T.foes.length) (startM T) := by
  have := hst (w.alloc (.cells #[.int .i64 T.lits, .slice A T.foes.length c, .slice AR T.rules.length cR, .slice AB T.beats.length cB] 25))
  rw [World.size_alloc] at this
  exact this
 have Hst := hid (hst2.ext (scR_mono _) ((Below.refl _ _).drew))
 have Hcall := hid hcall
 clear hst hst2 hcall
 refine post_gen fun Q HQ => ?_
 go_enter Tryz.func58, Tryz.ntmps58
 go_wp2
 go_cut [6] (fun v6 wx => ∃ b, v6 = .pointer (some ⟨b, 0, none⟩) ∧ w.heap.size ≤ b ∧ NWS wx b T (factsB T.foes.length l) (rulesRows T.rules T.foes.length T.rules.length) (startM T) ∧ Below w.heap.size w wx)
 case first =>
  go_region_with (go_at_call 78; refine (Hcall.out _ _ (ext_alloc _ _).drew Hst.out).mono ?_; rintro e w' ⟨_, rfl, b, rfl, hbw, hnw, hbl⟩)
  all_goals
   go_wp2_with fail
   go_meet
   exact ⟨b, rfl, hbw, hnw, hbl⟩
 case rest =>
  obtain ⟨b, rfl, hbw, hnw, hbl⟩ := hcut
  go_wp2
  go_loopw [7] (fun v7 wr => ∃ k : Nat, v7 = .int .i64 k ∧ NWS wr b T (factsB T.foes.length l) (rulesRows T.rules T.foes.length T.rules.length) (itM (stepM T l) k (startM T)) ∧ Hid (∀ j, j < k → itM (stepM T l) (j + 1) (startM T) ≠ itM (stepM T l) j (startM T)) ∧ k ≤ (itM (stepM T l) k (startM T)).sum ∧ Hid (∀ x ∈ itM (stepM T l) k (startM T), x < 256) ∧ (itM (stepM T l) k (startM T)).length = T.foes.length ∧ Below w.heap.size w wr) (fun v7 _ => 255 * T.foes.length + 1 - (intOf v7).toNat)
  case atStart => exact ⟨0, rfl, hnw, fun j h => absurd h (by omega), Nat.zero_le _, by intro x hx; simp [itM, startM] at hx; omega, by simp [itM, startM], hbl⟩
  case round =>
   clear hnw hbl
   obtain ⟨k, rfl, hnw, hno, hks, h8, hlen, hbl⟩ := hrel
   have hkb : k ≤ 255 * T.foes.length := by have := sum_bound _ h8.out; rw [hlen] at this; omega
   have hrd := round_any wr b T _ _ _ hnw.nw (nval Hwf.out l _ hlen h8.out)
   have hlt : T.foes.length ≤ 4096 := by omega
   generalize hM : itM (stepM T l) k (startM T) = M at *
   have HM := hid hM
   have Hgr := hid (roundM_grows T (factsB T.foes.length l) (rulesRows T.rules T.foes.length T.rules.length) M)
   have H8 := hid (roundM_lt T (factsB T.foes.length l) (rulesRows T.rules T.foes.length T.rules.length) M h8.out)
   clear hM
   go_wp2_with fail
   refine hrd.mono ?_
   rintro e w5 ⟨v, rfl, hown, hb5⟩
   have hn5 := hnw.ext hb5
   obtain ⟨xF, xR, xB, xFa, xRu, xM, hh, hrr⟩ := hn5.ex
   have c6 := cell_of_row w5 b 6 _ _ _ hh
   simp only [List.getElem?_toArray, List.getElem?_cons_zero, List.getElem?_cons_succ] at c6
   have hfr := frozen_of_row w5 b 6 _ _ hh
   obtain ⟨f, Hf⟩ : ∃ f, Hid (roundM T (factsB T.foes.length l) (rulesRows T.rules T.foes.length T.rules.length) M = f) := ⟨_, rfl⟩
   rw [Hf.out] at hown Hgr H8
   have hfl2 : f.length = M.length := by rw [← Hf.out]; exact roundM_length _ _ _ _
   have heq := eqM_any w5 v xM f M (own_rdS (by rw [hfl2]; exact hown) (by omega)) (hrr w5 (grown_refl _ _)).2.2.2.2.2
   go_wp2_with fail
   refine heq.mono ?_
   rintro e w6 ⟨_, rfl, rfl, hb6⟩
   have hown6 := hown.kept (row := none) ⟨hb6.os, hb6.tape, hb6.output, hb6.size, fun k hk _ => hb6.block k hk⟩ (by cases v.ownBlock <;> simp)
   obtain ⟨Av, nv, cv, rfl⟩ : ∃ A n c, v = .slice A n c := by
    obtain ⟨A, c, e, _⟩ := own_rdS (by rw [hfl2]; exact hown : w5.ownsRow wr.heap.size _ 1 v f.length _) (by omega)
    exact ⟨A, _, c, e⟩
   have hbv : ∀ g, (Value.slice Av nv cv).ownBlock = some g → g ≠ b := by
    intro g hg e
    have h1 := hown.lt g hg
    have h2 := lt_of_block hnw.ex.choose_spec.choose_spec.choose_spec.choose_spec.choose_spec.choose_spec.1
    omega
   have Hbv := hid hbv
   clear hbv
   by_cases he : f = M
   ·have hd : decide (f = M) = true := decide_eq_true he
    rw [hd]
    have Hown := hid hown6
    clear hown6
    go_wp2_with fail
    go_ret2
    refine Fin HQ ⟨k, .slice Av nv cv, rfl, ?_, ?_, hno.out, ext_trans hbl (ext_trans hb5 hb6)⟩
    ·have h1 := own_mono Hown.out hbl.size
     rw [he, hlen] at h1
     rw [HM.out]; exact h1
    ·rw [HM.out]
     show roundM _ _ _ M = M
     rw [Hf.out]; exact he
   ·have hd : decide (f = M) = false := decide_eq_false he
    rw [hd]
    have c6' := cell_ext hb6 c6
    have hfr' : w6.frozen? ⟨b, 6, none⟩ = false := frozen_of_row w6 b 6 _ _ ((hb6.block b (lt_of_block hh)).trans hh)
    have hn6 := hn5.ext hb6
    have hput := hn6.put (v' := .slice Av nv cv) (M' := f) (fun w' hg => by
     have h1 := hown6.kept hg (.inr (fun e => Hbv.out _ e rfl))
     exact own_rdS (by rw [hfl2]; exact h1) (by omega))
    have Hput := hid hput
    clear hput hn6 hn5 hh hrr
    have Hgr2 : Hid (M.sum < f.sum) := by
     have h1 := Hgr.out
     have : M.sum ≠ f.sum := fun e => he (h1.2 e).symm
     exact hid (by omega)
    go_wp2_with fail
    go_roundw
    case rel =>
     have hit : itM (stepM T l) (k + 1) (startM T) = f := by
      show stepM T l (itM (stepM T l) k (startM T)) = f
      rw [HM.out]; exact Hf.out
     have h0 := Hgr2.out
     refine ⟨k + 1, by go_num, ?_, fun j hj => ?_, ?_, ?_, ?_, ?_⟩
     ·rw [hit]; exact Hput.out
     ·by_cases e : j = k
      ·subst e; rw [hit, HM.out]; exact he
      ·exact hno.out j (by omega)
     ·rw [hit]; omega
     ·rw [hit]; exact H8.out
     ·rw [hit, hfl2]; exact hlen
     ·exact (ext_trans hbl (ext_trans hb5 hb6)).setCell hbw _
    case measure => simp [intOf]; omega
end Go.Proofs.Lx
