/- Parts of the proof: Yd, Ye, Yf. The fast engine's work at its end: no more than four times what there is. No program in sight. No condition. -/
import Derived.Test.YtalhpldbhogadaaL1
namespace Go.Proofs.Lx
open Go Go.RowKit Go.Proofs.Tj
set_option linter.unusedVariables false
set_option linter.unusedSectionVars false
theorem map_fst_nodup {l : List (Nat × Nat)} (hn : l.Nodup) (h : ∀ x ∈ l, ∀ y ∈ l, x.1 = y.1 → x = y) : (l.map fun x => x.1).Nodup := by
  rw [List.nodup_iff_pairwise_ne, List.pairwise_map]
  rw [List.nodup_iff_pairwise_ne] at hn
  refine (List.Pairwise.and_mem.1 hn).imp ?_
  rintro a b ⟨ha, hb, hab⟩ e
  exact hab (h a ha b hb e)
/-- What is asked of the engine at its end. -/
structure LinIn (S : Stc) (B bt : Nat → List Nat) (fact : Nat → Bool) (D : Dyn) (g : Gs) (bk8 : Nat → Bool) (PC : Nat) : Prop where
  c : Ctx S B bt
  si : SI S B bt fact D g
  c1 : ∀ b, ¬ (HT D b 1 ∧ HT D b 2)
  c3 : ∀ b, ¬ (HT D b 3 ∧ HT D b 4)
  fl : S.first ≤ D.told.length
  ini : ∀ i q t, i < S.first → D.told[i]? = some (q, t) → t ≤ 2
  l1 : ∀ i q, S.first ≤ i → D.told[i]? = some (q, 1) → ∃ r, r < S.m ∧ S.head r = q ∧ strR S r = true ∧ B r ≠ [] ∧ ∀ b ∈ B r, HT D b 1
  l2 : ∀ i q, S.first ≤ i → D.told[i]? = some (q, 2) → ∃ r, r < S.m ∧ S.head r = q ∧ strR S r = true ∧ D.deadD r = true
  st : ∀ q, q < S.n → D.standing q = true → ∃ p, p < S.P ∧ S.pq p = q
  sup0 : ∀ p, p < S.P → ∀ q, S.pq p = q → ∃ t, t < S.m ∧ supR S t = true ∧ S.head t = q
  pr : ((List.range S.m).map fun s => cO S (S.head s)).sum ≤ S.P
  bt : ((List.range S.m).map fun t => if supR S t = true then (S.beats t).length else 0).sum ≤ PC
  pc : S.P ≤ PC
  bk : ∀ q, q < S.n → D.backed q = true → bk8 q = true ∨ ∃ r, r < S.m ∧ S.head r = q ∧ supR S r = true ∧ B r ≠ [] ∧ ∀ b ∈ B r, HT D b 3
section
variable {S : Stc} {B bt : Nat → List Nat} {fact : Nat → Bool} {D : Dyn} {g : Gs} {bk8 : Nat → Bool} {PC : Nat}
/-- How many of a rule's body have a tag. -/
def cT (B : Nat → List Nat) (D : Dyn) (t r : Nat) : Nat := (B r).countP fun b => hasT D b t
open Classical in
noncomputable def bkR (S : Stc) (B : Nat → List Nat) (D : Dyn) (r : Nat) : Nat := if supR S r = true ∧ B r ≠ [] ∧ ∀ b ∈ B r, HT D b 3 then 1 else 0
open Classical in
noncomputable def ltR (S : Stc) (B : Nat → List Nat) (D : Dyn) (r : Nat) : Nat := if strR S r = true ∧ ((B r ≠ [] ∧ ∀ b ∈ B r, HT D b 1) ∨ D.deadD r = true) then 1 else 0
variable (h : LinIn S B bt fact D g bk8 PC)
include h
theorem lin_tag (t : Nat) (w : Nat → Nat) (hs : ∀ r, w r ≤ lowC S r) (h1 : 1 ≤ t) (h4 : t ≤ 4) : (D.told.map fun x => if x.2 = t then ((S.inn x.1).map w).sum else 0).sum ≤ ((List.range S.m).map fun r => w r * cT B D t r).sum := by
  have c := h.c
  have e : (D.told.map fun x => if x.2 = t then ((S.inn x.1).map w).sum else 0).sum = (D.told.map fun x => ((List.range S.m).map fun r => if (decide (x.2 = t) && decide (x.1 ∈ B r)) = true then w r else 0).sum).sum := by
    congr 1
    refine List.map_congr_left fun x hx => ?_
    obtain ⟨q, t'⟩ := x
    obtain ⟨hq, _, _⟩ := h.si.ti.mem q t' hx
    by_cases e : t' = t
    · subst e
      rw [if_pos rfl, nodup_sum (c.innd q hq) fun r hr => ((c.inn q hq r).1 hr).1]
      congr 1
      refine List.map_congr_left fun r hr => ?_
      have hr := List.mem_range.1 hr
      by_cases k : q ∈ B r
      · rw [if_pos ((c.inn q hq r).2 ⟨hr, k⟩), if_pos (by simp [k])]
      · rw [if_neg (fun a => k ((c.inn q hq r).1 a).2), if_neg (by simp [k])]
    · rw [if_neg e]
      have : ∀ m, ((List.range m).map fun r => if (decide ((q, t').2 = t) && decide ((q, t').1 ∈ B r)) = true then w r else 0).sum = 0 := fun m => by
        induction m with
        | zero => rfl
        | succ m ih => rw [List.range_succ, sum_append2, ih]; simp [e]
      exact (this _).symm
  rw [e, sum_swap (fun (x : Nat × Nat) (r : Nat) => if (decide (x.2 = t) && decide (x.1 ∈ B r)) = true then w r else 0) S.m D.told]
  refine range_sum_le fun r hr => ?_
  rw [sum_ite (fun x : Nat × Nat => decide (x.2 = t) && decide (x.1 ∈ B r))]
  refine Nat.mul_le_mul_left _ ?_
  unfold cT
  rw [List.countP_eq_length_filter, List.countP_eq_length_filter, ← List.length_map (f := fun x : Nat × Nat => x.1)]
  refine len_sub (map_fst_nodup (h.si.ti.nd.filter _) fun x hx y hy e => ?_) fun b hb => ?_
  · obtain ⟨_, kx⟩ := List.mem_filter.1 hx
    obtain ⟨_, ky⟩ := List.mem_filter.1 hy
    simp only [Bool.and_eq_true, decide_eq_true_eq] at kx ky
    exact Prod.ext e (by rw [kx.1, ky.1])
  · obtain ⟨x, hx, rfl⟩ := List.mem_map.1 hb
    obtain ⟨hm, k⟩ := List.mem_filter.1 hx
    simp only [Bool.and_eq_true, decide_eq_true_eq] at k
    obtain ⟨q, t'⟩ := x
    obtain ⟨rfl, kb⟩ := k
    exact List.mem_filter.2 ⟨kb, (h.si.ti.has q t' h1 h4).1 hm⟩
/-- The late ones of the strict tags. -/
def lateL (S : Stc) (D : Dyn) : List (Nat × Nat) := (D.told.drop S.first).filter fun x => decide (x.2 ≤ 2)
theorem lin_late : ((lateL S D).map fun x => x.1).Nodup ∧ ∀ q ∈ (lateL S D).map fun x => x.1, ∃ r, r < S.m ∧ S.head r = q ∧ strR S r = true ∧ ((B r ≠ [] ∧ ∀ b ∈ B r, HT D b 1) ∨ D.deadD r = true) := by
  have hmem : ∀ x ∈ lateL S D, x ∈ D.told ∧ (x.2 = 1 ∨ x.2 = 2) := fun x hx => by
    obtain ⟨a, b⟩ := List.mem_filter.1 hx
    have a := List.mem_of_mem_drop a
    obtain ⟨q, t⟩ := x
    obtain ⟨_, h1, _⟩ := h.si.ti.mem q t a
    have b : t ≤ 2 := by simpa using b
    exact ⟨a, by show t = 1 ∨ t = 2; omega⟩
  refine ⟨map_fst_nodup ((h.si.ti.nd.sublist (List.drop_sublist _ _)).filter _) fun x hx y hy e => ?_, fun q hq => ?_⟩
  · obtain ⟨ax, bx⟩ := hmem x hx
    obtain ⟨ay, by'⟩ := hmem y hy
    obtain ⟨q, t⟩ := x
    obtain ⟨q', t'⟩ := y
    have e : q = q' := e
    subst e
    have hx := fun (k : 1 ≤ t) (k4 : t ≤ 4) => (h.si.ti.has q t k k4).1 ax
    have hy := fun (k : 1 ≤ t') (k4 : t' ≤ 4) => (h.si.ti.has q t' k k4).1 ay
    rcases bx with bx | bx <;> rcases by' with by' | by' <;> (have bx : t = _ := bx; have by' : t' = _ := by'; subst bx; subst by')
    · rfl
    · exact absurd ⟨hx (by omega) (by omega), hy (by omega) (by omega)⟩ (h.c1 q)
    · exact absurd ⟨hy (by omega) (by omega), hx (by omega) (by omega)⟩ (h.c1 q)
    · rfl
  · obtain ⟨x, hx, rfl⟩ := List.mem_map.1 hq
    have ht := (hmem x hx).2
    obtain ⟨a, _⟩ := List.mem_filter.1 hx
    obtain ⟨i, hi, e⟩ := List.getElem_of_mem a
    rw [List.getElem_drop] at e
    have hi2 : S.first + i < D.told.length := by rw [List.length_drop] at hi; omega
    obtain ⟨q, t⟩ := x
    have e2 : D.told[S.first + i]? = some (q, t) := by rw [List.getElem?_eq_getElem hi2, e]
    rcases ht with ht | ht <;> (have ht : t = _ := ht; subst ht)
    · obtain ⟨r, a, b, c, d, k⟩ := h.l1 _ q (by omega) e2
      exact ⟨r, a, b, c, .inl ⟨d, k⟩⟩
    · obtain ⟨r, a, b, c, d⟩ := h.l2 _ q (by omega) e2
      exact ⟨r, a, b, c, .inr d⟩
theorem lin_lateC : ((D.told.drop S.first).map (wl S)).sum ≤ S.P := by
  have e : ((D.told.drop S.first).map (wl S)).sum = (((lateL S D).map fun x => x.1).map (cO S)).sum := by
    have hall : ∀ x ∈ D.told.drop S.first, 1 ≤ x.2 := fun x hx => (h.si.ti.mem x.1 x.2 (List.mem_of_mem_drop hx)).2.1
    unfold lateL
    generalize D.told.drop S.first = l at *
    clear h
    induction l with
    | nil => rfl
    | cons x l ih =>
      have ih := ih fun y hy => hall y (List.mem_cons_of_mem _ hy)
      have hx := hall x List.mem_cons_self
      rw [List.map_cons, List.sum_cons, ih]
      by_cases k : x.2 ≤ 2
      · rw [List.filter_cons_of_pos (by simpa using k), List.map_cons, List.map_cons, List.sum_cons]
        congr 1
        unfold wl; rw [if_pos (by omega)]
      · rw [List.filter_cons_of_neg (by simpa using k)]
        unfold wl; rw [if_neg (by omega)]; omega
  obtain ⟨hn, hh⟩ := lin_late h
  rw [e]
  refine Nat.le_trans (heads_le S.head (cO S) S.m hn fun q hq => let ⟨r, a, b, _⟩ := hh q hq; ⟨r, a, b⟩) (Nat.le_trans (range_sum_le fun s _ => ?_) h.pr)
  split
  · exact Nat.le_refl _
  · exact Nat.zero_le _
open Classical in
theorem lin_lateN : (lateL S D).length ≤ ((List.range S.m).map (ltR S B D)).sum := by
  obtain ⟨hn, hh⟩ := lin_late h
  have e : ((List.range S.m).map (ltR S B D)).sum = ((List.range S.m).filter fun r => decide (strR S r = true ∧ ((B r ≠ [] ∧ ∀ b ∈ B r, HT D b 1) ∨ D.deadD r = true))).length := by
    rw [← List.countP_eq_length_filter]
    have := sum_ite (fun r => decide (strR S r = true ∧ ((B r ≠ [] ∧ ∀ b ∈ B r, HT D b 1) ∨ D.deadD r = true))) 1 (List.range S.m)
    rw [Nat.one_mul] at this
    rw [← this]
    congr 1
    refine List.map_congr_left fun r _ => ?_
    unfold ltR; simp only [decide_eq_true_eq]
  rw [e, ← List.length_map (f := fun x : Nat × Nat => x.1)]
  refine inj_count (f := S.head) hn fun q hq => ?_
  obtain ⟨r, a, b, c, d⟩ := hh q hq
  exact ⟨r, List.mem_filter.2 ⟨List.mem_range.2 a, by simpa using ⟨c, d⟩⟩, b⟩
open Classical in
theorem lin_backed : flagN S.n D.backed ≤ flagN S.n bk8 + ((List.range S.m).map (bkR S B D)).sum := by
  have e : ((List.range S.m).map (bkR S B D)).sum = ((List.range S.m).filter fun r => decide (supR S r = true ∧ B r ≠ [] ∧ ∀ b ∈ B r, HT D b 3)).length := by
    rw [← List.countP_eq_length_filter]
    have := sum_ite (fun r => decide (supR S r = true ∧ B r ≠ [] ∧ ∀ b ∈ B r, HT D b 3)) 1 (List.range S.m)
    rw [Nat.one_mul] at this
    rw [← this]
    congr 1
    refine List.map_congr_left fun r _ => ?_
    unfold bkR; simp only [decide_eq_true_eq]
  rw [e]
  have h1 : ((List.range S.n).filter fun q => D.backed q && !bk8 q).length ≤ ((List.range S.m).filter fun r => decide (supR S r = true ∧ B r ≠ [] ∧ ∀ b ∈ B r, HT D b 3)).length := by
    refine inj_count (f := S.head) (List.nodup_range.filter _) fun q hq => ?_
    obtain ⟨a, b⟩ := List.mem_filter.1 hq
    rw [Bool.and_eq_true, Bool.not_eq_true'] at b
    rcases h.bk q (List.mem_range.1 a) b.1 with k | ⟨r, k1, k2, k3, k4, k5⟩
    · rw [b.2] at k; cases k
    · exact ⟨r, List.mem_filter.2 ⟨List.mem_range.2 k1, by simpa using ⟨k3, k4, k5⟩⟩, k2⟩
  rw [← List.countP_eq_length_filter] at h1
  unfold flagN
  have h2 : ∀ l : List Nat, l.countP D.backed ≤ l.countP bk8 + l.countP fun q => D.backed q && !bk8 q := fun l => by
    induction l with
    | nil => simp
    | cons x l ih =>
      rw [List.countP_cons, List.countP_cons, List.countP_cons]
      cases D.backed x <;> cases bk8 x <;> simp <;> omega
  exact Nat.le_trans (h2 _) (by omega)
theorem lin_pairs : 2 * flagN S.P D.settled + flagN S.n D.standing ≤ 2 * S.P := by
  have c := h.c
  have h1 : flagN S.n D.standing ≤ ((List.range S.P).filter fun p => !D.settled p).length := by
    unfold flagN
    rw [List.countP_eq_length_filter]
    refine inj_count (f := S.pq) (List.nodup_range.filter _) fun q hq => ?_
    obtain ⟨a, b⟩ := List.mem_filter.1 hq
    have hq := List.mem_range.1 a
    obtain ⟨f, hf, s, hs, he, hw, hb⟩ := h.si.sd q hq b
    obtain ⟨p0, hp0, e0⟩ := h.st q hq b
    -- a rule for q that supports
    have hfs : q ∈ S.foes (S.head s) := by rw [he]; exact c.fs q hq f hf
    obtain ⟨t0, ht0, hst0, het0⟩ : ∃ t, t < S.m ∧ supR S t = true ∧ S.head t = q := h.sup0 p0 hp0 q e0
    obtain ⟨p, hp, e1, e2⟩ := c.pall t0 ht0 hst0 s hs (by rw [het0]; exact hfs)
    refine ⟨p, List.mem_filter.2 ⟨List.mem_range.2 hp, ?_⟩, by rw [e1, het0]⟩
    rw [Bool.not_eq_true', Bool.eq_false_iff]
    intro hse
    rcases h.si.se p hp hse with ⟨x, hx, k⟩ | ⟨t, ht, k1, k2, k3, k4⟩
    · rw [e2] at hx; exact h.c3 x ⟨hw x hx, k⟩
    · obtain ⟨x, hx, k⟩ := hb t ht (by rw [k1, e1, het0]) k2 (by rw [e2] at k3; exact k3)
      exact h.c3 x ⟨k4 x hx, k⟩
  have h2 : ∀ l : List Nat, l.countP D.settled + (l.filter fun p => !D.settled p).length = l.length := fun l => by
    induction l with
    | nil => rfl
    | cons x l ih =>
      rw [List.countP_cons, List.length_cons]
      cases hx : D.settled x
      · rw [List.filter_cons_of_pos (by simp [hx]), List.length_cons]; simp; omega
      · rw [List.filter_cons_of_neg (by simp [hx])]; simp; omega
  have h3 := h2 (List.range S.P)
  rw [List.length_range] at h3
  have h4 : flagN S.P D.settled = (List.range S.P).countP D.settled := rfl
  omega
end
end Go.Proofs.Lx

namespace Go.Proofs.Lx
open Go Go.RowKit Go.Proofs.Tj
set_option linter.unusedVariables false
set_option linter.unusedSectionVars false
theorem countP_short {p : Nat → Bool} : ∀ {l : List Nat} {x : Nat}, x ∈ l → p x = false → l.countP p + 1 ≤ l.length
  | [], _, h, _ => by cases h
  | a :: l, x, h, hp => by
    rw [List.countP_cons, List.length_cons]
    rcases List.mem_cons.1 h with rfl | h
    · rw [hp]; have := List.countP_le_length (p := p) (l := l); simp; omega
    · have := countP_short h hp
      split <;> omega
section
variable {S : Stc} {B bt : Nat → List Nat} {fact : Nat → Bool} {D : Dyn} {g : Gs} {bk8 : Nat → Bool} {PC : Nat}
/-- A rule's death, but for the pairs that it beats. -/
def rD (S : Stc) (D : Dyn) (r : Nat) : Nat := (if D.dead r = true then lowC S r + (if supR S r = true then 1 else 0) else 0) + (if D.deadD r = true then lowC S r + 1 else 0)
def sW (S : Stc) (r : Nat) : Nat := if strR S r = true then lowC S r else 0
theorem rW_le (S : Stc) (D : Dyn) (r : Nat) : rW S D r ≤ rD S D r + if supR S r = true then (S.beats r).length else 0 := by
  unfold rW rD lowC
  by_cases h1 : D.dead r = true <;> by_cases h2 : supR S r = true <;> simp only [h1, h2] <;> simp <;> omega
variable (h : LinIn S B bt fact D g bk8 PC)
include h
theorem lin_rule {r : Nat} (hr : r < S.m) : rD S D r + lowC S r * cT B D 3 r + sW S r * cT B D 1 r + bkR S B D r + 2 * ltR S B D r ≤ 4 * (B r).length := by
  have c := h.c
  have hlen := c.blen r hr
  have hk3 : cT B D 3 r ≤ (B r).length := List.countP_le_length
  have hk1 : cT B D 1 r ≤ (B r).length := List.countP_le_length
  have hd : D.dead r = true → cT B D 3 r + 1 ≤ (B r).length ∧ bkR S B D r = 0 := fun k => by
    obtain ⟨b, hb, hh⟩ := h.si.k r hr k
    have h3 : hasT D b 3 = false := by rw [Bool.eq_false_iff]; intro k3; exact h.c3 b ⟨k3, hh⟩
    refine ⟨countP_short hb h3, ?_⟩
    unfold bkR; rw [if_neg]
    rintro ⟨_, _, k⟩
    have : hasT D b 3 = true := k b hb
    rw [h3] at this; cases this
  have hdD : D.deadD r = true → cT B D 1 r + 1 ≤ (B r).length := fun k => by
    obtain ⟨b, hb, hh⟩ := h.si.kD r hr k
    have h3 : hasT D b 1 = false := by rw [Bool.eq_false_iff]; intro k3; exact h.c1 b ⟨k3, hh⟩
    exact countP_short hb h3
  have hbk : bkR S B D r ≤ 1 := by unfold bkR; split <;> omega
  have hlt : ltR S B D r ≤ 1 := by unfold ltR; split <;> omega
  have hsw : sW S r ≤ lowC S r := by unfold sW; split <;> omega
  have hz : (B r).length = 0 → D.dead r = false ∧ D.deadD r = false ∧ bkR S B D r = 0 ∧ ltR S B D r = 0 := fun k => by
    have hB := List.length_eq_zero_iff.1 k
    have a : D.dead r = false := by
      rw [Bool.eq_false_iff]; intro k; obtain ⟨b, hb, _⟩ := h.si.k r hr k; rw [hB] at hb; cases hb
    have b : D.deadD r = false := by
      rw [Bool.eq_false_iff]; intro k; obtain ⟨b, hb, _⟩ := h.si.kD r hr k; rw [hB] at hb; cases hb
    refine ⟨a, b, ?_, ?_⟩
    · unfold bkR; rw [if_neg]; rintro ⟨_, k, _⟩; exact k hB
    · unfold ltR; rw [if_neg]; rintro ⟨_, ⟨k, _⟩ | k⟩
      · exact k hB
      · rw [b] at k; cases k
  have hlow : lowC S r = if 1 < (B r).length then 1 else 0 := by unfold lowC; rw [hlen]
  generalize (B r).length = k at *
  generalize cT B D 3 r = x3 at *
  generalize cT B D 1 r = x1 at *
  generalize bkR S B D r = y at *
  generalize ltR S B D r = z at *
  generalize sW S r = s at *
  unfold rD
  generalize lowC S r = w at *
  by_cases k0 : k = 0
  · obtain ⟨a, b, e1, e2⟩ := hz k0
    have hw : w = 0 := by rw [hlow, if_neg (by omega)]
    subst hw
    have hs0 : s = 0 := by omega
    subst hs0
    simp [a, b, e1, e2]
  by_cases k1 : k = 1
  · have hw : w = 0 := by rw [hlow, if_neg (by omega)]
    subst hw
    have hs0 : s = 0 := by omega
    subst hs0
    subst k1
    by_cases d1 : D.dead r = true <;> by_cases d2 : D.deadD r = true <;> by_cases d3 : supR S r = true <;> simp [d1, d2, d3] <;> (try have q1 := (hd d1).2) <;> omega
  · have hw : w = 1 := by rw [hlow, if_pos (by omega)]
    subst hw
    have hs1 : s * x1 ≤ x1 := by
      have : s = 0 ∨ s = 1 := by omega
      rcases this with rfl | rfl <;> simp
    generalize s * x1 = u at *
    by_cases d1 : D.dead r = true <;> by_cases d2 : D.deadD r = true <;> by_cases d3 : supR S r = true <;> simp [d1, d2, d3] <;> (try have q1 := hd d1) <;> (try have q2 := hdD d2) <;> omega
theorem lin_lits : 3 * D.told.length ≤ 4 * S.n + 2 * S.first + 2 * (lateL S D).length := by
  have hh : ∀ q t, (q, t) ∈ D.told → 1 ≤ t → t ≤ 4 → HT D q t := fun q t hm h1 h4 => (h.si.ti.has q t h1 h4).1 hm
  have h1 : (D.told.filter fun x => decide (x.2 ≤ 2)).length ≤ S.n := by
    rw [← List.length_map (f := fun x : Nat × Nat => x.1), ← List.length_range (n := S.n)]
    refine len_sub (map_fst_nodup (h.si.ti.nd.filter _) fun x hx y hy e => ?_) fun q hq => ?_
    · obtain ⟨ax, bx⟩ := List.mem_filter.1 hx
      obtain ⟨ay, by'⟩ := List.mem_filter.1 hy
      obtain ⟨q, t⟩ := x
      obtain ⟨q', t'⟩ := y
      have e : q = q' := e
      subst e
      obtain ⟨_, x1, x4⟩ := h.si.ti.mem q t ax
      obtain ⟨_, y1, y4⟩ := h.si.ti.mem q t' ay
      have bx : t ≤ 2 := by simpa using bx
      have by' : t' ≤ 2 := by simpa using by'
      have kx := hh q t ax x1 x4
      have ky := hh q t' ay y1 y4
      by_cases e : t = t'
      · rw [e]
      · exfalso
        have : (t = 1 ∧ t' = 2) ∨ (t = 2 ∧ t' = 1) := by omega
        rcases this with ⟨rfl, rfl⟩ | ⟨rfl, rfl⟩
        · exact h.c1 q ⟨kx, ky⟩
        · exact h.c1 q ⟨ky, kx⟩
    · obtain ⟨x, hx, rfl⟩ := List.mem_map.1 hq
      exact List.mem_range.2 (h.si.ti.mem x.1 x.2 (List.mem_filter.1 hx).1).1
  have h2 : (D.told.filter fun x => !decide (x.2 ≤ 2)).length ≤ S.n := by
    rw [← List.length_map (f := fun x : Nat × Nat => x.1), ← List.length_range (n := S.n)]
    refine len_sub (map_fst_nodup (h.si.ti.nd.filter _) fun x hx y hy e => ?_) fun q hq => ?_
    · obtain ⟨ax, bx⟩ := List.mem_filter.1 hx
      obtain ⟨ay, by'⟩ := List.mem_filter.1 hy
      obtain ⟨q, t⟩ := x
      obtain ⟨q', t'⟩ := y
      have e : q = q' := e
      subst e
      obtain ⟨_, x1, x4⟩ := h.si.ti.mem q t ax
      obtain ⟨_, y1, y4⟩ := h.si.ti.mem q t' ay
      have bx : 2 < t := by simpa using bx
      have by' : 2 < t' := by simpa using by'
      have kx := hh q t ax x1 x4
      have ky := hh q t' ay y1 y4
      by_cases e : t = t'
      · rw [e]
      · exfalso
        have : (t = 3 ∧ t' = 4) ∨ (t = 4 ∧ t' = 3) := by omega
        rcases this with ⟨rfl, rfl⟩ | ⟨rfl, rfl⟩
        · exact h.c3 q ⟨kx, ky⟩
        · exact h.c3 q ⟨ky, kx⟩
    · obtain ⟨x, hx, rfl⟩ := List.mem_map.1 hq
      exact List.mem_range.2 (h.si.ti.mem x.1 x.2 (List.mem_filter.1 hx).1).1
  have h3 : ∀ l : List (Nat × Nat), l.length = (l.filter fun x => decide (x.2 ≤ 2)).length + (l.filter fun x => !decide (x.2 ≤ 2)).length := fun l => by
    induction l with
    | nil => rfl
    | cons x l ih =>
      rw [List.length_cons]
      by_cases k : x.2 ≤ 2
      · rw [List.filter_cons_of_pos (by simpa using k), List.filter_cons_of_neg (by simpa using k), List.length_cons]; omega
      · rw [List.filter_cons_of_neg (by simpa using k), List.filter_cons_of_pos (by simpa using k), List.length_cons]; omega
  have h4 : (D.told.filter fun x => decide (x.2 ≤ 2)).length = S.first + (lateL S D).length := by
    conv => lhs; rw [← List.take_append_drop S.first D.told]
    rw [List.filter_append, List.length_append]
    congr 1
    have : (D.told.take S.first).filter (fun x => decide (x.2 ≤ 2)) = D.told.take S.first := List.filter_eq_self.2 fun x hx => by
      obtain ⟨i, hi, e⟩ := List.getElem_of_mem hx
      rw [List.length_take] at hi
      rw [List.getElem_take] at e
      have := h.ini i x.1 x.2 (by omega) (by rw [List.getElem?_eq_getElem (by omega), e])
      simpa using this
    rw [this, List.length_take, Nat.min_eq_left h.fl]
  have h5 := h3 D.told
  omega
theorem lin_all : Fl S D + 2 * D.told.length + evsum S D.told ≤ flagN S.n bk8 + 2 * S.first + 4 * (S.n + ((List.range S.m).map fun r => (B r).length).sum + PC) := by
  have e := evsum_part S D.told.length D.told rfl
  have a3 := lin_tag h 3 (lowC S) (fun r => Nat.le_refl _) (by omega) (by omega)
  have a1 := lin_tag h 1 (sW S) (fun r => by unfold sW; split <;> omega) (by omega) (by omega)
  have b := lin_lateC h
  have bn := lin_lateN h
  have bb := lin_backed h
  have bp := lin_pairs h
  have bl := lin_lits h
  have hrs : rS S D ≤ ((List.range S.m).map (rD S D)).sum + PC := by
    unfold rS
    refine Nat.le_trans (range_sum_le fun r _ => rW_le S D r) ?_
    rw [sum_add]
    have := h.bt
    omega
  have hr : ((List.range S.m).map fun r => rD S D r + lowC S r * cT B D 3 r + sW S r * cT B D 1 r + bkR S B D r + 2 * ltR S B D r).sum ≤ ((List.range S.m).map fun r => 4 * (B r).length).sum := range_sum_le fun r hr => lin_rule h hr
  rw [sum_add, sum_add, sum_add, sum_add, sum_mul, sum_mul] at hr
  have hpc := h.pc
  have ew3 : (D.told.map (w3 S)).sum = (D.told.map fun x => if x.2 = 3 then ((S.inn x.1).map (lowC S)).sum else 0).sum := rfl
  have ew1 : (D.told.map (w1 S)).sum = (D.told.map fun x => if x.2 = 1 then ((S.inn x.1).map (sW S)).sum else 0).sum := rfl
  have efl : Fl S D = 2 * flagN S.P D.settled + flagN S.n D.standing + flagN S.n D.backed + rS S D := rfl
  rw [e, ew3, ew1, efl]
  generalize ((List.range S.m).map fun r => (B r).length).sum = zB at *
  generalize ((List.range S.m).map (ltR S B D)).sum = zL at *
  generalize ((List.range S.m).map (bkR S B D)).sum = zK at *
  generalize ((List.range S.m).map (rD S D)).sum = zD at *
  generalize ((List.range S.m).map fun r => lowC S r * cT B D 3 r).sum = z3 at *
  generalize ((List.range S.m).map fun r => sW S r * cT B D 1 r).sum = z1 at *
  omega
end
end Go.Proofs.Lx

namespace Go.Proofs.Lx
open Go Go.RowKit Go.Proofs.Tj
set_option linter.unusedVariables false
set_option linter.unusedSectionVars false
theorem tags_tell {D : Dyn} (h : ∀ x ∈ D.told, x.2 ≤ 2) {q t : Nat} (ht : t ≤ 2) : ∀ x ∈ (tellD D q t).told, x.2 ≤ 2 := by
  by_cases hh : hasT D q t = true
  · rw [tell_has hh]; exact h
  · rw [tell_told hh]
    intro x hx
    rcases List.mem_append.1 hx with hx | hx
    · exact h x hx
    · rw [List.mem_singleton] at hx; rw [hx]; exact ht
theorem tags_fold {α : Type} {f : Dyn → α → Dyn} (hf : ∀ D x, (∀ y ∈ D.told, y.2 ≤ 2) → ∀ y ∈ (f D x).told, y.2 ≤ 2) : ∀ (l : List α) (D : Dyn), (∀ y ∈ D.told, y.2 ≤ 2) → ∀ y ∈ (l.foldl f D).told, y.2 ≤ 2
  | [], D, h => h
  | x :: l, D, h => tags_fold hf l _ (hf D x h)
/-- What stands has a pair. -/
def StP (S : Stc) (D : Dyn) : Prop := ∀ q, D.standing q = true → ∃ p, p < S.P ∧ S.pq p = q
theorem stp_fold {S : Stc} {α : Type} {f : Dyn → α → Dyn} : ∀ (l : List α) (D : Dyn), (∀ x ∈ l, ∀ D, StP S D → StP S (f D x)) → StP S D → StP S (l.foldl f D)
  | [], D, _, h => h
  | x :: l, D, hf, h => stp_fold l _ (fun y hy => hf y (List.mem_cons_of_mem _ hy)) (hf x List.mem_cons_self D h)
section
variable {T : Th} {fl : List Nat}
theorem lay_tags : ∀ x ∈ (lD5 T fl).told, x.2 ≤ 2 := by
  have h1 : (lD1 T).told = [] := by
    obtain ⟨a, b, c, d, e⟩ := layD1_rest T T.rules.length
    unfold lD1; rw [e]; rfl
  have h2 : ∀ x ∈ (lD2 T fl).told, x.2 ≤ 2 := tags_fold (fun D x h => tags_tell h (by omega)) fl _ (by rw [h1]; intro x hx; cases hx)
  have h3 : ∀ x ∈ (lD3 T fl).told, x.2 ≤ 2 := tags_fold (fun D x h => by
    unfold tellR; split
    · exact tags_tell h (by omega)
    · exact h) _ _ h2
  have h4 : ∀ x ∈ (lD4 T fl).told, x.2 ≤ 2 := tags_fold (fun D x h => by
    unfold strD; split
    · exact h
    split
    · exact tags_tell h (by omega)
    · exact h) _ _ h3
  refine tags_fold (fun D q h => ?_) _ _ h4
  unfold foesD
  refine tags_fold (fun D f h => ?_) _ _ h
  unfold foeD; split <;> exact h
theorem headsPair (hwf : WfTh T) : ((List.range T.rules.length).map fun s => ((T.foes.getD ((stc0 T).head s) []).map fun f => hcnt T.rules f).sum).sum = pairCount T := by
  have h3 : ((List.range T.rules.length).map fun s => ((T.foes.getD ((stc0 T).head s) []).map fun f => hcnt T.rules f).sum) = T.rules.map fun r => ((T.foes.getD r.head.toNat []).map fun f => hcnt T.rules f).sum := by
    apply List.ext_getElem
    · simp
    · intro i a b
      simp only [List.length_map, List.length_range] at a
      simp only [List.getElem_map, List.getElem_range]
      show ((T.foes.getD (T.rules.getD i default).head.toNat []).map _).sum = _
      rw [rule_get a]
  rw [h3, heads_sum (fun h => ((T.foes.getD h []).map fun f => hcnt T.rules f).sum) T.foes.length T.rules fun r hr => by have := ruleOk_head (hwf.ru r hr); have := hwf.fl; omega]
  unfold pairCount pSum
  congr 1
  refine List.map_congr_left fun q _ => ?_
  unfold pRow
  rw [List.take_length, sum_mul]
theorem hcnt_range (f : Nat) (hwf : WfTh T) : hcnt T.rules (f : Int) = (List.range T.rules.length).countP fun s => decide ((stc0 T).head s = f) := by
  unfold hcnt
  have e : T.rules = (List.range T.rules.length).map fun s => T.rules.getD s default := by
    apply List.ext_getElem
    · simp
    · intro i a b
      simp only [List.getElem_map, List.getElem_range]
      rw [rule_get a]
  conv => lhs; rw [e]
  rw [List.countP_map]
  refine countP_same fun s hs => ?_
  have hh := rule_head hwf (List.mem_range.1 hs)
  show ((T.rules.getD s default).head == (f : Int)) = decide ((T.rules.getD s default).head.toNat = f)
  rw [Bool.eq_iff_iff, beq_iff_eq, decide_eq_true_eq]
  constructor <;> intro k <;> omega
theorem beats_le (hwf : WfTh T) {t : Nat} (ht : t < T.rules.length) : (btT T t).length ≤ ((T.foes.getD ((stc0 T).head t) []).map fun f => hcnt T.rules f).sum := by
  have h1 : (btT T t).length ≤ ((List.range T.rules.length).filter fun s => decide ((stc0 T).head s ∈ (stc0 T).foes ((stc0 T).head t))).length := by
    refine len_sub (btT_nodup hwf ht) fun s hs => ?_
    obtain ⟨a, b, _⟩ := mem_btT hwf ht hs
    have hh := rule_head hwf a
    refine List.mem_filter.2 ⟨List.mem_range.2 a, ?_⟩
    rw [decide_eq_true_eq]
    exact (foe_back hwf (by show (T.rules.getD s default).head.toNat < _; omega) b).2
  rw [← List.countP_eq_length_filter] at h1
  have hh := rule_head hwf ht
  have hq : (stc0 T).head t < T.foes.length := by show (T.rules.getD t default).head.toNat < _; omega
  have h2 : ∀ F : List Int, (∀ f ∈ F, 0 ≤ f) → (List.range T.rules.length).countP (fun s => decide ((stc0 T).head s ∈ F.map Int.toNat)) ≤ (F.map fun f => hcnt T.rules f).sum := fun F => by
    induction F with
    | nil => intro _; rw [List.countP_eq_zero.2]; · exact Nat.zero_le _
             intro a _; simp
    | cons f F ih =>
      intro h0
      have ih := ih fun x hx => h0 x (List.mem_cons_of_mem _ hx)
      have hf := h0 f List.mem_cons_self
      rw [List.map_cons, List.map_cons, List.sum_cons]
      have e := hcnt_range (T := T) f.toNat hwf
      rw [show ((f.toNat : Nat) : Int) = f by omega] at e
      rw [e]
      have : ∀ l : List Nat, l.countP (fun s => decide ((stc0 T).head s ∈ f.toNat :: F.map Int.toNat)) ≤ l.countP (fun s => decide ((stc0 T).head s = f.toNat)) + l.countP fun s => decide ((stc0 T).head s ∈ F.map Int.toNat) := fun l => by
        induction l with
        | nil => simp
        | cons x l ih =>
          rw [List.countP_cons, List.countP_cons, List.countP_cons]
          by_cases k1 : (stc0 T).head x = f.toNat
          · rw [if_pos (show decide ((stc0 T).head x ∈ f.toNat :: F.map Int.toNat) = true from by rw [decide_eq_true_eq, k1]; exact List.mem_cons_self), if_pos (show decide ((stc0 T).head x = f.toNat) = true from by rw [decide_eq_true_eq]; exact k1)]
            split <;> omega
          · by_cases k2 : (stc0 T).head x ∈ F.map Int.toNat
            · have : (stc0 T).head x ∈ f.toNat :: F.map Int.toNat := List.mem_cons_of_mem _ k2
              rw [if_pos (by simpa using this), if_pos (show decide ((stc0 T).head x ∈ F.map Int.toNat) = true from by rw [decide_eq_true_eq]; exact k2)]
              omega
            · have : ¬ (stc0 T).head x ∈ f.toNat :: F.map Int.toNat := fun a => (List.mem_cons.1 a).elim k1 k2
              rw [if_neg (by rw [decide_eq_true_eq]; exact this)]
              omega
      have := this (List.range T.rules.length)
      omega
  refine Nat.le_trans h1 (h2 _ fun f hf => ?_)
  rw [show T.foes.getD ((stc0 T).head t) [] = T.foes[(stc0 T).head t] by simp [hq]] at hf
  exact ((ris_nat (foesOk_spec hwf.fo _ hq).2.1).2.2.2 f hf).1
/-- B: how long all bodies are. -/
def bodyN (T : Th) : Nat := (T.rules.map fun r => r.body.length).sum
theorem bodyN_range (T : Th) : ((List.range T.rules.length).map fun r => (bdyT T r).length).sum = bodyN T := by
  unfold bodyN
  congr 1
  apply List.ext_getElem
  · simp
  · intro i a b
    simp only [List.getElem_map, List.getElem_range]
    unfold bdyT
    rw [List.length_map, rule_get (by simpa using b)]
theorem lin_upd (hwf : WfTh T) (hfl : ∀ x ∈ fl, x < T.foes.length) {k : Nat} (hk : ∀ j, j < k → j < (iterD (lS3 T fl) (looksD (lD8 T fl) T.foes.length) j).told.length) (he : (iterD (lS3 T fl) (looksD (lD8 T fl) T.foes.length) k).told.length ≤ k) :
    ∃ c : Nat, (iterD (lS3 T fl) (looksD (lD8 T fl) T.foes.length) k).upd = (c : Int) ∧ c ≤ 4 * (T.foes.length + bodyN T + pairCount T) := by
  have c := ctx_of hwf hfl
  have hok := sok3 hwf hfl
  have h5 := l5_of hwf hfl
  have r0 := r0_lay hwf hfl
  obtain ⟨b1, b2, b3⟩ := bi_first hwf hfl
  have hco : ∀ D' g', SI (lS3 T fl) (bdyT T) (btT T) (factF fl) D' g' → ∀ b, ¬ (HT D' b 3 ∧ HT D' b 4) := fun D' g' h b => si_coh hwf h b
  obtain ⟨hst, g, h⟩ := BI.iter c hok hco b2 b1 k hk
  have hcost := cost_iter c hok hco b2 b1 k hk
  have hlk : Cost (lS3 T fl) (lD8 T fl) (looksD (lD8 T fl) T.foes.length) 0 := cost_fold _ _ fun q _ D => cost_look D q
  have hall := hlk.zero hcost
  obtain ⟨l0, el0⟩ := (steps_looks (n := (lS3 T fl).n) (lD8 T fl) T.foes.length (Nat.le_refl _)).told
  obtain ⟨l1, el1⟩ := hst.told
  generalize hD : iterD (lS3 T fl) (looksD (lD8 T fl) T.foes.length) k = D at *
  rw [List.take_of_length_le he] at h hall
  have hpre : D.told = (lD7 T fl).told ++ (l0 ++ l1) := by rw [el1, el0, List.append_assoc]; rfl
  have hfirst : (lS3 T fl).first = (lD7 T fl).told.length := rfl
  have t75 : (lD7 T fl).told = (lD5 T fl).told := by rw [r0.more.1]; rfl
  have m75 : (lD7 T fl).marks = (lD5 T fl).marks := by rw [r0.more.1]; rfl
  have hc1 : ∀ b, ¬ (HT D b 1 ∧ HT D b 2) := fun b ⟨k1, k2⟩ =>
    ((solve_made T (fl.map fun (x : Nat) => (x : Int))).coh _).1 ⟨si_solve hwf h.si (by omega) (by omega) k1, si_solve hwf h.si (by omega) (by omega) k2⟩
  -- what was told at the beginning stands ahead
  have hearly : ∀ i q t, (lS3 T fl).first ≤ i → D.told[i]? = some (q, t) → 1 ≤ t → t ≤ 4 → ¬ HT (lD5 T fl) q t := fun i q t hi hx h1 h4 hh => by
    have hh7 : HT (lD7 T fl) q t := by show hasT _ q t = true; rw [hasT_like m75]; exact hh
    have hm := (r0.si.ti.has q t h1 h4).2 hh7
    have := not_before h.si.ti.nd hx hi
    rw [hfirst, hpre, List.take_left' rfl] at this
    exact this hm
  have hbk8 : ∀ q, (lD8 T fl).backed q = (lD7 T fl).backed q := fun q => rfl
  have hlin : LinIn (lS3 T fl) (bdyT T) (btT T) (factF fl) D g (lD8 T fl).backed (pairCount T) := by
    refine ⟨c, h.si, hc1, hco D g h.si, ?_, fun i q t hi hx => ?_, fun i q hi hx => ?_, fun i q hi hx => ?_, fun q hq hs => ?_, fun p hp q e => ?_, ?_, ?_, ?_, fun q hq hb => ?_⟩
    · rw [hfirst, hpre, List.length_append]; omega
    · rw [hfirst] at hi
      rw [hpre, List.getElem?_append_left hi, t75] at hx
      exact lay_tags _ (List.mem_of_getElem? hx)
    · obtain ⟨hq, _, _⟩ := h.si.ti.mem q 1 (List.mem_of_getElem? hx)
      have hno := hearly i q 1 hi hx (by omega) (by omega)
      rcases h.si.ord i q 1 hx with hf | ⟨r, hr, e, hs, hb⟩
      · exact absurd (h5.fa q hf) hno
      · refine ⟨r, hr, e, hs, fun hB => ?_, fun b hb2 => ?_⟩
        · have := h5.ru r hr hs hB
          have e : (lS1 T).head r = q := e
          rw [e] at this; exact hno this
        · exact (h.si.ti.has b 1 (by omega) (by omega)).1 (List.mem_of_mem_take (hb b hb2))
    · obtain ⟨hq, _, _⟩ := h.si.ti.mem q 2 (List.mem_of_getElem? hx)
      have hno := hearly i q 2 hi hx (by omega) (by omega)
      obtain ⟨hf, hall2⟩ := h.si.ord i q 2 hx
      have hne : cStr (lS1 T) (lS1 T).m q ≠ 0 := fun h0 => hno (h5.no q hq hf h0)
      obtain ⟨r, hr, hrr⟩ := List.countP_pos_iff.1 (by omega : 0 < cStr (lS1 T) (lS1 T).m q)
      simp only [Bool.and_eq_true, decide_eq_true_eq] at hrr
      have hr : r < (lS3 T fl).m := List.mem_range.1 hr
      obtain ⟨b, hb, hm⟩ := hall2 r hr hrr.2 hrr.1
      exact ⟨r, hr, hrr.2, hrr.1, h.ci.c2 r hr hrr.1 b hb (List.mem_of_mem_take hm)⟩
    · rcases hall.2 q hs with k | k
      · have z6 : StP (lS3 T fl) (lD6 T fl) := fun q hq => by
          have hq : (lD5 T fl).standing q = true := hq
          rw [(h5.z2 q).2.1] at hq; cases hq
        have z7 : StP (lS3 T fl) (lD7 T fl) := by
          refine stp_fold _ _ (fun r hr D hD => ?_) z6
          have hr : r < (lS3 T fl).m := List.mem_range.1 hr
          show StP (lS3 T fl) (rule0 (lS3 T fl) D r)
          unfold rule0; split
          · refine stp_fold _ _ (fun p hp D hD => ?_) ?_
            · have hp := ((c.ofs r hr p).1 hp).1
              unfold stn; split
              · intro q hq
                have hq : Tj.upd D.standing ((lS3 T fl).pq p) true q = true := hq
                by_cases e : q = (lS3 T fl).pq p
                · exact ⟨p, hp, e.symm⟩
                · rw [Tj.upd_ne e] at hq; exact hD q hq
              · exact hD
            · unfold fire0; split
              · refine stp_fold _ _ (fun p hp D hD => ?_) ?_
                · unfold setl; split <;> exact hD
                · exact hD
              · exact hD
          · exact hD
        exact z7 q k
      · exact k
    · have hcs : (lD5 T fl).backs q ≠ 0 := by
        have pf := pf_of hwf h5
        have hp : p < (pairX (lS1 T) (lD5 T fl)).P := hp
        rw [pf.f.P] at hp
        have a1 := pf.f.at1 p hp
        have a2 := (pf.mem _).1 (List.getElem_mem hp)
        have e : (pairX (lS1 T) (lD5 T fl)).pq p = q := e
        rw [a1.2] at e
        rw [← e]; exact a2.2.2
      rw [h5.bk] at hcs
      obtain ⟨t, ht, k⟩ := List.countP_pos_iff.1 (by omega : 0 < cSup (lS1 T) (lS1 T).m q)
      simp only [Bool.and_eq_true, decide_eq_true_eq] at k
      exact ⟨t, List.mem_range.1 ht, k.1, k.2⟩
    · have pf := pf_of hwf h5
      have e : (lS3 T fl).P = (prL (lS1 T) (lD5 T fl) T.rules.length).length := pf.f.P
      rw [e]
      unfold prL
      rw [List.length_flatMap]
      refine Nat.le_of_eq ?_
      congr 1
      refine List.map_congr_left fun s _ => ?_
      rw [List.length_map]
      unfold cO
      rw [List.countP_eq_length_filter]
      congr 1
      refine List.filter_congr fun f _ => ?_
      rw [h5.bk f]
      show decide (cSup (lS3 T fl) (lS3 T fl).m f ≠ 0) = decide ((cSup (lS1 T) (lS1 T).m f : Int) ≠ 0)
      have : cSup (lS3 T fl) (lS3 T fl).m f = cSup (lS1 T) (lS1 T).m f := rfl
      rw [this]
      by_cases z : cSup (lS1 T) (lS1 T).m f = 0
      · simp [z]
      · have : (cSup (lS1 T) (lS1 T).m f : Int) ≠ 0 := by omega
        simp [z]
    · rw [← headsPair hwf]
      refine range_sum_le fun t ht => ?_
      have ht : t < T.rules.length := ht
      split
      · next hs =>
        have e : (lS3 T fl).beats t = rowB (lS1 T) T (pairX (lS1 T) (lD5 T fl)).A t := by
          have := (layY (fl := fl) hwf).1 t
          rw [if_pos ht] at this; exact this
        rw [e]
        unfold rowB
        have hs : supR (lS1 T) t = true := hs
        rw [if_pos hs, List.length_map]
        exact beats_le hwf ht
      · exact Nat.zero_le _
    · have e : (lS3 T fl).P = (prL (lS1 T) (lD5 T fl) T.rules.length).length := (pf_of hwf h5).f.P
      rw [e]; exact pr_count hwf h5.bk
    · obtain ⟨r, hr, e, hs, hw⟩ := h.si.bd q hq hb
      by_cases hB : bdyT T r = []
      · left
        rw [hbk8]
        have := (r0.y1 r hr hs hB).1
        rw [← e]; exact this
      · exact .inr ⟨r, hr, e, hs, hB, hw⟩
  have hfin := lin_all hlin
  obtain ⟨⟨cc, hup, hle⟩, _⟩ := hall
  have h0 := hup 0 (by show (0 : Int) = wrap64 0; unfold wrap64; omega)
  have hF8 : flagN (lS3 T fl).n (lD8 T fl).backed ≤ Fl (lS3 T fl) (lD8 T fl) := by unfold Fl; omega
  have e8 : (lD8 T fl).told.length = (lS3 T fl).first := rfl
  have eB : ((List.range (lS3 T fl).m).map fun r => (bdyT T r).length).sum = bodyN T := bodyN_range T
  have en : (lS3 T fl).n = T.foes.length := rfl
  rw [eB] at hfin
  rw [e8] at hle
  rw [en] at hF8 hfin
  have hcc : cc ≤ 4 * (T.foes.length + bodyN T + pairCount T) := by omega
  have hb : bodyN T ≤ 65536 := by
    have h1 : bodyN T ≤ (T.rules.map fun _ => 16).sum := sum_le_map _ fun r hr => by
      have := hwf.ru r hr
      simp only [ruleOk, Bool.and_eq_true, decide_eq_true_eq] at this
      omega
    have h2 : (T.rules.map fun _ => 16).sum = 16 * T.rules.length := by
      generalize T.rules = rs
      induction rs with
      | nil => rfl
      | cons r rs ih => rw [List.map_cons, List.sum_cons, ih, List.length_cons]; omega
    have := hwf.rl; omega
  have hn : T.foes.length ≤ 4096 := by have := hwf.fl; have := hwf.l1; omega
  have hp := hwf.pc
  refine ⟨cc, ?_, hcc⟩
  rw [h0]; unfold wrap64; omega
end
end Go.Proofs.Lx
