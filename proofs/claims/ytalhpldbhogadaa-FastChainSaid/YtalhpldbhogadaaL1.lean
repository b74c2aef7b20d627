/- Parts of the proof: Ya, Yb, Yc. The fast engine's work: what each step costs. No program in sight. No condition. -/
import Derived.Test.YtalhpldbhogadaaB45
namespace Go.Proofs.Lx
open Go Go.RowKit Go.Proofs.Tj
set_option linter.unusedVariables false
set_option linter.unusedSectionVars false
/-- The count of updates went up by c. -/
def Up (D E : Dyn) (c : Nat) : Prop := ∀ a : Int, D.upd = wrap64 a → E.upd = wrap64 (a + (c : Int))
theorem Up.same {D E : Dyn} (h : E.upd = D.upd) : Up D E 0 := fun a ha => by rw [h, ha]; simp
theorem Up.trans {D E F : Dyn} {c d : Nat} (h : Up D E c) (k : Up E F d) : Up D F (c + d) := fun a ha => by
  have := k _ (h a ha)
  rw [this]; congr 1; omega
theorem Up.add {D E : Dyn} (k : Nat) (h : E.upd = addW D.upd (k : Int)) : Up D E k := fun a ha => by
  rw [h, ha]; unfold addW wrap64; omega
def flagN (n : Nat) (f : Nat → Bool) : Nat := (List.range n).countP f
theorem flagN_set {n : Nat} {f : Nat → Bool} {x : Nat} (hx : x < n) (h : f x = false) : flagN n (Tj.upd f x true) = flagN n f + 1 :=
  (countP_less (p := Tj.upd f x true) (p' := f) (List.nodup_range (n := n)) (List.mem_range.2 hx) (Tj.upd_same _ _ _) h (fun y _ hy => by rw [Tj.upd_ne hy])).symm
section
variable (S : Stc)
/-- What a rule's death costs. -/
def rW (D : Dyn) (r : Nat) : Nat := (if D.dead r = true then (if 1 < S.bodyLen r then 1 else 0) + (if supR S r = true then 1 + (S.beats r).length else 0) else 0) + (if D.deadD r = true then (if 1 < S.bodyLen r then 1 else 0) + 1 else 0)
def rS (D : Dyn) : Nat := ((List.range S.m).map (rW S D)).sum
def Fl (D : Dyn) : Nat := 2 * flagN S.P D.settled + flagN S.n D.standing + flagN S.n D.backed + rS S D
theorem sum_point {f g : Nat → Nat} {x d : Nat} (hx : g x = f x + d) (ho : ∀ y, y ≠ x → g y = f y) : ∀ m, x < m → ((List.range m).map g).sum = ((List.range m).map f).sum + d
  | 0, h => absurd h (by omega)
  | m + 1, h => by
    rw [List.range_succ, List.map_append, List.map_append, List.sum_append, List.sum_append]
    simp only [List.map_cons, List.map_nil, List.sum_cons, List.sum_nil]
    by_cases e : x = m
    · subst e
      have : ((List.range x).map g).sum = ((List.range x).map f).sum := by
        congr 1
        refine List.map_congr_left fun y hy => ho y ?_
        have := List.mem_range.1 hy; omega
      rw [this, hx]; omega
    · rw [sum_point hx ho m (by omega), ho m (fun k => e k.symm)]; omega
/-- From D to E it cost no more than what came to be, and e. -/
def Cost (D E : Dyn) (e : Int) : Prop := (∃ c : Nat, Up D E c ∧ ((c + Fl S D + 2 * D.told.length : Nat) : Int) ≤ ((Fl S E + 2 * E.told.length : Nat) : Int) + e) ∧ ∀ q, E.standing q = true → D.standing q = true ∨ ∃ p, p < S.P ∧ S.pq p = q
variable {S}
theorem Cost.refl (D : Dyn) : Cost S D D 0 := ⟨⟨0, Up.same rfl, by omega⟩, fun q h => .inl h⟩
theorem Cost.trans {D E F : Dyn} {a b : Int} (h : Cost S D E a) (k : Cost S E F b) : Cost S D F (a + b) := by
  obtain ⟨⟨c, h1, h2⟩, h3⟩ := h
  obtain ⟨⟨d, k1, k2⟩, k3⟩ := k
  exact ⟨⟨c + d, h1.trans k1, by omega⟩, fun q hq => (k3 q hq).elim (h3 q) .inr⟩
theorem Cost.le {D E : Dyn} {a b : Int} (h : Cost S D E a) (hl : a ≤ b) : Cost S D E b := by
  obtain ⟨⟨c, h1, h2⟩, h3⟩ := h
  exact ⟨⟨c, h1, by omega⟩, h3⟩
theorem Cost.zero {D E F : Dyn} {b : Int} (h : Cost S D E 0) (k : Cost S E F b) : Cost S D F b := (h.trans k).le (by omega)
/-- What turns no flag and tells nothing. -/
theorem Cost.flat {D E : Dyn} (k : Nat) (hu : Up D E k) (h1 : E.settled = D.settled) (h2 : E.standing = D.standing) (h3 : E.backed = D.backed) (h4 : E.dead = D.dead) (h5 : E.deadD = D.deadD) (ht : E.told = D.told) : Cost S D E k := by
  have : Fl S E = Fl S D := by unfold Fl rS rW; rw [h1, h2, h3, h4, h5]
  exact ⟨⟨k, hu, by rw [this, ht]; omega⟩, fun q hq => .inl (by rw [← h2]; exact hq)⟩
theorem cost_tell (D : Dyn) (q tag : Nat) : Cost S D (tellD D q tag) 0 := by
  by_cases h : hasT D q tag = true
  · rw [tell_has h]; exact Cost.refl D
  · have e : tellD D q tag = { D with marks := Tj.upd D.marks q (D.marks q ||| 2 ^ (tag - 1)), told := D.told ++ [(q, tag)], queued := addW D.queued 1, upd := addW D.upd 2 } := by unfold tellD; rw [if_neg h]
    rw [e]
    refine ⟨⟨2, Up.add 2 rfl, ?_⟩, fun q hq => .inl hq⟩
    show ((2 + Fl S D + 2 * D.told.length : Nat) : Int) ≤ ((Fl S D + 2 * (D.told ++ [(q, tag)]).length : Nat) : Int) + 0
    rw [List.length_append, List.length_singleton]; omega
theorem cost_look (D : Dyn) (q : Nat) : Cost S D (lookD D q) 0 := by
  have h1 : ∀ D, Cost S D (look1 D q) 0 := fun D => by
    unfold look1; split
    · exact cost_tell D q 3
    · exact Cost.refl D
  have h2 : ∀ D, Cost S D (look2 D q) 0 := fun D => by
    unfold look2; split
    · exact cost_tell D q 4
    · exact Cost.refl D
  exact (h1 D).zero (h2 _)
theorem cost_fold {α : Type} {f : Dyn → α → Dyn} : ∀ (l : List α) (D : Dyn), (∀ x ∈ l, ∀ D, Cost S D (f D x) 0) → Cost S D (l.foldl f D) 0
  | [], D, _ => Cost.refl D
  | x :: l, D, h => (h x List.mem_cons_self D).zero (cost_fold l _ fun y hy => h y (List.mem_cons_of_mem _ hy))
theorem cost_settle {D : Dyn} {p : Nat} (hp : p < S.P) : Cost S D (settleD S D p) 0 := by
  unfold settleD; split
  · exact Cost.refl D
  · next h =>
    refine Cost.zero ?_ (cost_look _ _)
    have hs : D.settled p = false := by simpa using h
    refine ⟨⟨2, Up.add 2 rfl, ?_⟩, fun q hq => .inl hq⟩
    have : Fl S (tick (decAttacks (setSettled D p) (S.pq p)) 2) = Fl S D + 2 := by
      show 2 * flagN S.P (Tj.upd D.settled p true) + flagN S.n D.standing + flagN S.n D.backed + rS S D = Fl S D + 2
      rw [flagN_set hp hs]; unfold Fl; omega
    rw [this]
    show ((2 + Fl S D + 2 * D.told.length : Nat) : Int) ≤ ((Fl S D + 2 + 2 * D.told.length : Nat) : Int) + 0
    omega
theorem cost_stand (hpq : ∀ p, p < S.P → S.pq p < S.n) {D : Dyn} {p : Nat} (hp : p < S.P) : Cost S D (standD S D p) 0 := by
  unfold standD; split
  · next h =>
    refine Cost.zero ?_ (cost_look _ _)
    unfold standB at h
    rw [Bool.and_eq_true, Bool.not_eq_true'] at h
    refine ⟨⟨1, Up.add 1 rfl, ?_⟩, fun q hq => ?_⟩
    · have : Fl S (tick (setStanding D (S.pq p)) 1) = Fl S D + 1 := by
        show 2 * flagN S.P D.settled + flagN S.n (Tj.upd D.standing (S.pq p) true) + flagN S.n D.backed + rS S D = Fl S D + 1
        rw [flagN_set (hpq p hp) h.2]; unfold Fl; omega
      rw [this]
      show ((1 + Fl S D + 2 * D.told.length : Nat) : Int) ≤ ((Fl S D + 1 + 2 * D.told.length : Nat) : Int) + 0
      omega
    · have hq : Tj.upd D.standing (S.pq p) true q = true := hq
      by_cases e : q = S.pq p
      · exact .inr ⟨p, hp, e.symm⟩
      · rw [Tj.upd_ne e] at hq; exact .inl hq
  · exact Cost.refl D
/-- What a step down of a rule's counter costs. -/
def lowC (S : Stc) (r : Nat) : Nat := if 1 < S.bodyLen r then 1 else 0
theorem cost_tickB (D : Dyn) (r : Nat) : Cost S D (tickB S D r) (lowC S r : Int) := by
  unfold tickB lowC; split
  · exact Cost.flat 1 (Up.add 1 rfl) rfl rfl rfl rfl rfl rfl
  · exact Cost.refl D
theorem cost_tick (D : Dyn) : Cost S D (tick D 1) 1 := Cost.flat 1 (Up.add 1 rfl) rfl rfl rfl rfl rfl rfl
section
variable (hok : SOk S) (hhd : ∀ r, r < S.m → S.head r < S.n)
include hok hhd
theorem cost_fire {D : Dyn} {r : Nat} (hr : r < S.m) : Cost S D (fireD S D r) 0 := by
  unfold fireD
  refine Cost.zero ?_ (cost_fold _ _ fun p hp D => cost_stand hok.pq (hok.ofs r hr p hp))
  unfold fire1; split
  · refine Cost.zero (Cost.zero ?_ (cost_fold _ _ fun p hp D => cost_settle (hok.beats r hr p hp))) (cost_look _ _)
    split
    · exact Cost.refl D
    · next h =>
      have hs : D.backed (S.head r) = false := by simpa using h
      refine ⟨⟨1, Up.add 1 rfl, ?_⟩, fun q hq => .inl hq⟩
      have : Fl S (tick (setBacked D (S.head r)) 1) = Fl S D + 1 := by
        show 2 * flagN S.P D.settled + flagN S.n D.standing + flagN S.n (Tj.upd D.backed (S.head r) true) + rS S D = Fl S D + 1
        rw [flagN_set (hhd r hr) hs]; unfold Fl; omega
      rw [this]
      show ((1 + Fl S D + 2 * D.told.length : Nat) : Int) ≤ ((Fl S D + 1 + 2 * D.told.length : Nat) : Int) + 0
      omega
  · exact Cost.refl D
theorem cost_plusr {D : Dyn} {r : Nat} (hr : r < S.m) : Cost S D (plusr S D r) (lowC S r) := by
  have h1 : Cost S D (lowerN S D r) (lowC S r) := Cost.zero (Cost.flat (D := D) (E := decNeed D r) 0 (Up.same rfl) rfl rfl rfl rfl rfl rfl) (cost_tickB _ r)
  unfold plusr; split
  · exact (h1.trans (cost_fire hok hhd hr)).le (by omega)
  · exact h1
end
theorem cost_fold1 {α : Type} {f : Dyn → α → Dyn} : ∀ (l : List α) (D : Dyn), (∀ x ∈ l, ∀ D, Cost S D (f D x) 1) → Cost S D (l.foldl f D) (l.length : Int)
  | [], D, _ => Cost.refl D
  | x :: l, D, h => ((h x List.mem_cons_self D).trans (cost_fold1 l _ fun y hy => h y (List.mem_cons_of_mem _ hy))).le (by rw [List.length_cons]; omega)
theorem rS_set {D E : Dyn} {r d : Nat} (hr : r < S.m) (h1 : rW S E r = rW S D r + d) (h2 : ∀ y, y ≠ r → rW S E y = rW S D y) : rS S E = rS S D + d := sum_point h1 h2 S.m hr
theorem cost_killN {D : Dyn} {r : Nat} (hr : r < S.m) (hd : D.dead r = false) : Cost S D (killN S D r) (-((if supR S r = true then 1 + (S.beats r).length else 0 : Nat) : Int)) := by
  have h0 : Cost S D (setDead D r) (-((lowC S r + if supR S r = true then 1 + (S.beats r).length else 0 : Nat) : Int)) := by
    refine ⟨⟨0, Up.same rfl, ?_⟩, fun q hq => .inl hq⟩
    have e : rS S (setDead D r) = rS S D + (lowC S r + if supR S r = true then 1 + (S.beats r).length else 0) := by
      refine rS_set hr ?_ fun y hy => ?_
      · unfold rW
        have h1 : (setDead D r).dead r = true := Tj.upd_same _ _ _
        have h2 : (setDead D r).deadD = D.deadD := rfl
        rw [h1, h2, hd, if_pos rfl, if_neg Bool.false_ne_true]
        unfold lowC; omega
      · unfold rW
        have h1 : (setDead D r).dead y = D.dead y := Tj.upd_ne hy
        have h2 : (setDead D r).deadD = D.deadD := rfl
        rw [h1, h2]
    have : Fl S (setDead D r) = Fl S D + (lowC S r + if supR S r = true then 1 + (S.beats r).length else 0) := by
      show 2 * flagN S.P D.settled + flagN S.n D.standing + flagN S.n D.backed + rS S (setDead D r) = _
      rw [e]; unfold Fl; omega
    rw [this]
    show ((0 + Fl S D + 2 * D.told.length : Nat) : Int) ≤ ((Fl S D + (lowC S r + if supR S r = true then 1 + (S.beats r).length else 0) + 2 * D.told.length : Nat) : Int) + _
    omega
  exact (h0.trans (cost_tickB _ r)).le (by omega)
theorem cost_killS {D : Dyn} {r : Nat} (hr : r < S.m) (hd : D.deadD r = false) : Cost S D (killS S D r) (-1) := by
  have h0 : Cost S D (setDeadD D r) (-((lowC S r + 1 : Nat) : Int)) := by
    refine ⟨⟨0, Up.same rfl, ?_⟩, fun q hq => .inl hq⟩
    have e : rS S (setDeadD D r) = rS S D + (lowC S r + 1) := by
      refine rS_set hr ?_ fun y hy => ?_
      · unfold rW
        have h1 : (setDeadD D r).deadD r = true := Tj.upd_same _ _ _
        have h2 : (setDeadD D r).dead = D.dead := rfl
        rw [h1, h2, hd, if_pos rfl, if_neg Bool.false_ne_true]
        unfold lowC; omega
      · unfold rW
        have h1 : (setDeadD D r).deadD y = D.deadD y := Tj.upd_ne hy
        have h2 : (setDeadD D r).dead = D.dead := rfl
        rw [h1, h2]
    have : Fl S (setDeadD D r) = Fl S D + (lowC S r + 1) := by
      show 2 * flagN S.P D.settled + flagN S.n D.standing + flagN S.n D.backed + rS S (setDeadD D r) = _
      rw [e]; unfold Fl; omega
    rw [this]
    show ((0 + Fl S D + 2 * D.told.length : Nat) : Int) ≤ ((Fl S D + (lowC S r + 1) + 2 * D.told.length : Nat) : Int) + _
    omega
  exact (h0.trans (cost_tickB _ r)).le (by omega)
section
variable (hok : SOk S) (hhd : ∀ r, r < S.m → S.head r < S.n)
include hok hhd
theorem cost_minusr {D : Dyn} {r : Nat} (hr : r < S.m) : Cost S D (minusr S D r) 0 := by
  unfold minusr; split
  · exact Cost.refl D
  · next h =>
    have hd : D.dead r = false := by simpa using h
    have h1 : Cost S D ((S.ofs r).foldl (settleD S) (killN S D r)) (-((if supR S r = true then 1 + (S.beats r).length else 0 : Nat) : Int)) :=
      ((cost_killN hr hd).trans (cost_fold _ _ fun p hp D => cost_settle (hok.ofs r hr p hp))).le (by omega)
    unfold minusr2
    generalize (S.ofs r).foldl (settleD S) (killN S D r) = E at *
    by_cases hs : supR S r = true
    · rw [if_pos hs]
      rw [if_pos hs] at h1
      have h2 : Cost S E (tick (decBacks E (S.head r)) 1) 1 := Cost.flat 1 (Up.add 1 rfl) rfl rfl rfl rfl rfl rfl
      have h3 : Cost S (tick (decBacks E (S.head r)) 1) ((S.beats r).foldl (leftD S) (tick (decBacks E (S.head r)) 1)) ((S.beats r).length : Int) := by
        refine cost_fold1 _ _ fun p hp D => ?_
        have a : Cost S D (tick (decLeft D p) 1) 1 := Cost.flat 1 (Up.add 1 rfl) rfl rfl rfl rfl rfl rfl
        exact (a.trans (cost_stand hok.pq (hok.beats r hr p hp))).le (by omega)
      exact (((h1.trans h2).trans h3).trans (cost_look _ _)).le (by omega)
    · rw [if_neg hs]
      rw [if_neg hs] at h1
      exact h1.le (by omega)
theorem cost_onMinus {D : Dyn} {q : Nat} (hq : q < S.n) : Cost S D (onMinusT S D q) 0 := cost_fold _ _ fun r hr D => cost_minusr hok hhd (hok.inn q hq r hr)
end
theorem cost_plusDr {D : Dyn} {r : Nat} : Cost S D (plusDr S D r) (if strR S r = true then (lowC S r : Int) else 0) := by
  unfold plusDr
  by_cases hs : strR S r = true
  · rw [if_pos hs, if_pos hs]
    have h1 : Cost S D (lowerS S D r) (lowC S r) := Cost.zero (Cost.flat (D := D) (E := decNeedD D r) 0 (Up.same rfl) rfl rfl rfl rfl rfl rfl) (cost_tickB _ r)
    split
    · exact (h1.trans (cost_tell _ _ 1)).le (by omega)
    · exact h1
  · rw [if_neg hs, if_neg hs]; exact Cost.refl D
theorem cost_noDr {D : Dyn} {r : Nat} (hr : r < S.m) : Cost S D (noDr S D r) 0 := by
  unfold noDr; split
  · next h =>
    rw [Bool.and_eq_true, Bool.not_eq_true'] at h
    have h1 := cost_killS (S := S) hr h.2
    generalize killS S D r = E at *
    have h2 : Cost S E (tick (decStrict E (S.head r)) 1) 1 := Cost.flat 1 (Up.add 1 rfl) rfl rfl rfl rfl rfl rfl
    have h3 := (h1.trans h2).le (show (-1 : Int) + 1 ≤ 0 by omega)
    generalize tick (decStrict E (S.head r)) 1 = F at *
    refine h3.zero ?_
    unfold noDr2; split
    · exact cost_tell _ _ 2
    · exact Cost.refl _
  · exact Cost.refl D
/-- Costs one by one. -/
theorem cost_sum {α : Type} {f : Dyn → α → Dyn} {g : α → Nat} : ∀ (l : List α) (D : Dyn), (∀ x ∈ l, ∀ D, Cost S D (f D x) (g x : Int)) → Cost S D (l.foldl f D) ((l.map g).sum : Nat)
  | [], D, _ => Cost.refl D
  | x :: l, D, h => ((h x List.mem_cons_self D).trans (cost_sum l _ fun y hy => h y (List.mem_cons_of_mem _ hy))).le (by rw [List.map_cons, List.sum_cons]; omega)
end
end Go.Proofs.Lx

namespace Go.Proofs.Lx
open Go Go.RowKit Go.Proofs.Tj
set_option linter.unusedVariables false
set_option linter.unusedSectionVars false
def cO (S : Stc) (q : Nat) : Nat := (S.foes q).countP fun f => decide (cSup S S.m f ≠ 0)
def lowN (S : Stc) (q : Nat) : Nat := ((S.inn q).map (lowC S)).sum
def lowS (S : Stc) (q : Nat) : Nat := ((S.inn q).map fun r => if strR S r = true then lowC S r else 0).sum
def evC (S : Stc) (i : Nat) (x : Nat × Nat) : Nat :=
  1 + if x.2 = 3 then lowN S x.1 else if x.2 = 1 then lowS S x.1 + (if S.first ≤ i then cO S x.1 else 0) else if x.2 = 2 then (if S.first ≤ i then cO S x.1 else 0) else 0
theorem evC1 (S : Stc) (i q : Nat) : evC S i (q, 1) = 1 + (lowS S q + if S.first ≤ i then cO S q else 0) := by simp [evC]
theorem evC2 (S : Stc) (i q : Nat) : evC S i (q, 2) = 1 + if S.first ≤ i then cO S q else 0 := by simp [evC]
theorem evC3 (S : Stc) (i q : Nat) : evC S i (q, 3) = 1 + lowN S q := by simp [evC]
theorem evC4 (S : Stc) (i q : Nat) : evC S i (q, 4) = 1 := by simp [evC]
def evsum (S : Stc) (l : List (Nat × Nat)) : Nat := ((List.range l.length).map fun i => evC S i (l.getD i (0, 0))).sum
theorem evsum_snoc (S : Stc) (l : List (Nat × Nat)) (x : Nat × Nat) : evsum S (l ++ [x]) = evsum S l + evC S l.length x := by
  unfold evsum
  rw [List.length_append, List.length_singleton, List.range_succ, List.map_append, List.sum_append]
  congr 1
  · congr 1
    refine List.map_congr_left fun i hi => ?_
    have := List.mem_range.1 hi
    rw [List.getD_eq_getElem?_getD, List.getD_eq_getElem?_getD, List.getElem?_append_left this]
  · simp
section
variable {S : Stc} {B bt : Nat → List Nat} {fact : Nat → Bool} {g : Gs}
theorem clash_keep (D : Dyn) (f : Nat) : (clashD D f).backs = D.backs := by
  unfold clashD; split
  · rw [look_shape]; rfl
  · rfl
theorem cost_clash1 (D : Dyn) (f : Nat) : Cost S D (clashD D f) (if 0 < D.backs f then 1 else 0) := by
  unfold clashD clashB
  by_cases h : (decide (0 < D.backs f) && !D.clash f) = true
  · rw [if_pos h]
    rw [Bool.and_eq_true, decide_eq_true_eq] at h
    rw [if_pos h.1]
    have h1 : Cost S D (tick (setClash D f) 1) 1 := Cost.flat 1 (Up.add 1 rfl) rfl rfl rfl rfl rfl rfl
    exact (h1.trans (cost_look _ _)).le (by omega)
  · rw [if_neg h]; exact (Cost.refl D).le (by split <;> omega)
theorem cost_clashes (b : Nat → Int) : ∀ (l : List Nat) (D : Dyn), D.backs = b → Cost S D (l.foldl clashD D) ((l.countP fun f => decide (0 < b f) : Nat) : Int)
  | [], D, _ => Cost.refl D
  | f :: l, D, h => by
    have h1 := cost_clash1 (S := S) D f
    have h2 := cost_clashes b l (clashD D f) (by rw [clash_keep, h])
    rw [h] at h1
    refine (h1.trans h2).le ?_
    rw [List.countP_cons]
    by_cases hb : 0 < b f
    · rw [if_pos hb]; simp [hb]; omega
    · rw [if_neg hb]; simp [hb]
theorem clash_none : ∀ (l : List Nat) (D : Dyn), (∀ f ∈ l, 0 < D.backs f → D.clash f = true) → l.foldl clashD D = D
  | [], D, _ => rfl
  | f :: l, D, h => by
    have : clashD D f = D := by
      unfold clashD clashB
      rw [if_neg]
      intro k
      rw [Bool.and_eq_true, decide_eq_true_eq, Bool.not_eq_true'] at k
      rw [h f List.mem_cons_self k.1] at k
      exact absurd k.2 (by simp)
    rw [List.foldl_cons, this]
    exact clash_none l D fun x hx => h x (List.mem_cons_of_mem _ hx)
theorem open_keep (D : Dyn) (f : Nat) : (openD D f).backs = D.backs ∧ (openD D f).backed = D.backed := by
  unfold openD; split
  · rw [look_shape]; exact ⟨rfl, rfl⟩
  · exact ⟨rfl, rfl⟩
theorem cost_open1 (D : Dyn) (f : Nat) : Cost S D (openD D f) (if openB D f = true then 1 else 0) := by
  unfold openD
  by_cases h : openB D f = true
  · rw [if_pos h, if_pos h]
    have h1 : Cost S D (tick (decOpn D f) 1) 1 := Cost.flat 1 (Up.add 1 rfl) rfl rfl rfl rfl rfl rfl
    exact (h1.trans (cost_look _ _)).le (by omega)
  · rw [if_neg h, if_neg h]; exact Cost.refl D
theorem cost_opens (b : Nat → Int) (k : Nat → Bool) : ∀ (l : List Nat) (D : Dyn), D.backs = b → D.backed = k → Cost S D (l.foldl openD D) ((l.countP fun f => decide (0 < b f) || k f : Nat) : Int)
  | [], D, _, _ => Cost.refl D
  | f :: l, D, h, h' => by
    have h1 := cost_open1 (S := S) D f
    have h2 := cost_opens b k l (openD D f) (by rw [(open_keep D f).1, h]) (by rw [(open_keep D f).2, h'])
    unfold openB at h1
    rw [h, h'] at h1
    refine (h1.trans h2).le ?_
    rw [List.countP_cons]
    split <;> omega
theorem plusDr_keep (S : Stc) (D : Dyn) (r : Nat) : (plusDr S D r).backs = D.backs ∧ (plusDr S D r).clash = D.clash := by
  have h1 : (lowerS S D r).backs = D.backs ∧ (lowerS S D r).clash = D.clash := by
    unfold lowerS tickB; split <;> exact ⟨rfl, rfl⟩
  unfold plusDr; split
  · split
    · rw [tell_shape]; exact h1
    · exact h1
  · exact ⟨rfl, rfl⟩
theorem plusDrs_keep (S : Stc) : ∀ (l : List Nat) (D : Dyn), (l.foldl (plusDr S) D).backs = D.backs ∧ (l.foldl (plusDr S) D).clash = D.clash
  | [], D => ⟨rfl, rfl⟩
  | r :: l, D => by
    obtain ⟨a, b⟩ := plusDrs_keep S l (plusDr S D r)
    obtain ⟨c, d⟩ := plusDr_keep S D r
    exact ⟨a.trans c, b.trans d⟩
theorem cSup_of {D : Dyn} (h : SI S B bt fact D g) {f : Nat} (hf : f < S.n) (hb : 0 < D.backs f ∨ D.backed f = true) : cSup S S.m f ≠ 0 := by
  rcases hb with hb | hb
  · rw [h.bk f hf] at hb
    have : cBk S g f ≤ cSup S S.m f := List.countP_mono_left fun r _ hr => by
      rw [Bool.and_eq_true] at hr; exact hr.1
    omega
  · obtain ⟨r, hr, he, hs, _⟩ := h.bd f hf hb
    have : 0 < cSup S S.m f := List.countP_pos_iff.2 ⟨r, List.mem_range.2 hr, by rw [Bool.and_eq_true, decide_eq_true_eq]; exact ⟨hs, he⟩⟩
    omega
theorem cost_event (c : Ctx S B bt) (hok : SOk S) {D : Dyn} {I L : List (Nat × Nat)} {K : Nat → Nat → Prop} {i q tag : Nat} (h : BI S B bt fact D g (Pc I L) noE K) (hq : q < S.n) (h1 : 1 ≤ tag) (h4 : tag ≤ 4) (hI : i < S.first → (q, tag) ∈ I) (hi : D.told[i]? = some (q, tag)) : Cost S D (oneD S D i) (evC S i (q, tag) : Nat) := by
  have e : oneD S D i = dispD S (tick D 1) i q tag := by unfold oneD; rw [hi]
  rw [e]
  have ht := cost_tick (S := S) D
  have hle : ∀ (p : Nat → Bool), (∀ f ∈ S.foes q, p f = true → 0 < D.backs f ∨ D.backed f = true) → (S.foes q).countP p ≤ cO S q := fun p hp => by
    have : (S.foes q).countP p = (S.foes q).countP fun f => p f && decide (cSup S S.m f ≠ 0) := by
      refine countP_same fun f hf => ?_
      cases hpf : p f with
      | false => rfl
      | true =>
        have := cSup_of h.si (c.fq q hq f hf) (hp f hf hpf)
        simp [this]
    rw [this]
    exact List.countP_mono_left fun f _ hf => by rw [Bool.and_eq_true] at hf; exact hf.2
  match tag, h1, h4 with
  | 1, _, _ =>
    show Cost S D (onPlusDD S (tick D 1) q) _
    unfold onPlusDD
    have a : Cost S (tick D 1) ((S.inn q).foldl (plusDr S) (tick D 1)) (lowS S q : Nat) := cost_sum _ _ fun r _ D => (cost_plusDr (D := D) (r := r)).le (by split <;> simp)
    obtain ⟨k1, k2⟩ := plusDrs_keep S (S.inn q) (tick D 1)
    generalize (S.inn q).foldl (plusDr S) (tick D 1) = E at *
    have k1 : E.backs = D.backs := k1
    have k2 : E.clash = D.clash := k2
    have b : Cost S E ((S.foes q).foldl clashD E) ((if S.first ≤ i then cO S q else 0 : Nat) : Int) := by
      by_cases hf : S.first ≤ i
      · rw [if_pos hf]
        refine (cost_clashes D.backs (S.foes q) E k1).le ?_
        have := hle (fun f => decide (0 < D.backs f)) (fun f _ hp => .inl (by simpa using hp))
        omega
      · rw [if_neg hf]
        rw [clash_none (S.foes q) E fun f hf2 hb => ?_]
        · exact Cost.refl E
        · rw [k2]
          rw [k1] at hb
          exact h.ci.cC f (c.fq q hq f hf2) (by omega) q (c.fs q hq f hf2) (.inl (hI (by omega)))
    refine ((ht.trans a).trans (b.trans (cost_look _ q))).le ?_
    rw [evC1]
    generalize (if S.first ≤ i then cO S q else 0) = z
    omega
  | 2, _, _ =>
    by_cases hf : S.first ≤ i
    · show Cost S D (if S.first ≤ i then onLateD S (tick D 1) q else onNoDD S (tick D 1) q) _
      rw [if_pos hf]
      unfold onLateD onNoDD
      have a := cost_opens (S := S) D.backs D.backed (S.foes q) (tick D 1) rfl rfl
      have b := hle (fun f => decide (0 < D.backs f) || D.backed f) (fun f _ hp => by rw [Bool.or_eq_true, decide_eq_true_eq] at hp; exact hp)
      generalize (S.foes q).foldl openD (tick D 1) = E at *
      have d : Cost S E ((S.inn q).foldl (noDr S) E) 0 := cost_fold _ _ fun r hr D => cost_noDr (hok.inn q hq r hr)
      refine ((ht.trans a).trans (d.trans (cost_look _ q))).le ?_
      rw [evC2, if_pos hf]
      omega
    · show Cost S D (if S.first ≤ i then onLateD S (tick D 1) q else onNoDD S (tick D 1) q) _
      rw [if_neg hf]
      unfold onNoDD
      have d : Cost S (tick D 1) ((S.inn q).foldl (noDr S) (tick D 1)) 0 := cost_fold _ _ fun r hr D => cost_noDr (hok.inn q hq r hr)
      refine (ht.trans (d.trans (cost_look _ q))).le ?_
      rw [evC2, if_neg hf]
      omega
  | 3, _, _ =>
    show Cost S D (onPlusT S (tick D 1) q) _
    have a : Cost S (tick D 1) (onPlusT S (tick D 1) q) (lowN S q : Nat) := cost_sum _ _ fun r hr D => cost_plusr hok c.hd (hok.inn q hq r hr)
    refine (ht.trans a).le ?_
    rw [evC3]; omega
  | 4, _, _ =>
    show Cost S D (onMinusT S (tick D 1) q) _
    refine (ht.trans (cost_onMinus hok c.hd hq)).le ?_
    rw [evC4]; omega
theorem cost_iter (c : Ctx S B bt) (hok : SOk S) (hco : ∀ D' g', SI S B bt fact D' g' → ∀ b, ¬ (HT D' b 3 ∧ HT D' b 4)) {D0 : Dyn} {g0 : Gs} (hf : S.first ≤ D0.told.length) (h0 : BI S B bt fact D0 g0 (Pc (D0.told.take S.first) []) noE (Kl [])) :
    ∀ k, (∀ j, j < k → j < (iterD S D0 j).told.length) → Cost S D0 (iterD S D0 k) (evsum S ((iterD S D0 k).told.take k) : Nat) := by
  intro k
  induction k with
  | zero => intro _; rw [List.take_zero]; exact Cost.refl D0
  | succ k ih =>
    intro hk
    have ih := ih fun j hj => hk j (by omega)
    obtain ⟨hst, g, h⟩ := BI.iter c hok hco hf h0 k fun j hj => hk j (by omega)
    have hlt := hk k (by omega)
    obtain ⟨l0, e0⟩ := hst.told
    have hs1 := steps_one c hok h.si.ti k
    obtain ⟨l1, e1⟩ := hs1.told
    obtain ⟨x, hx⟩ : ∃ x, (iterD S D0 k).told[k]? = some x := ⟨_, List.getElem?_eq_getElem hlt⟩
    obtain ⟨q, tag⟩ := x
    have eI : D0.told.take S.first = (iterD S D0 k).told.take S.first := by rw [e0, List.take_append_of_le_length hf]
    have eL : (oneD S (iterD S D0 k) k).told.take (k + 1) = (iterD S D0 k).told.take k ++ [(q, tag)] := by
      rw [e1, List.take_append_of_le_length (by omega), List.take_add_one, hx]; rfl
    show Cost S D0 (oneD S (iterD S D0 k) k) _
    show Cost S D0 (oneD S (iterD S D0 k) k) (evsum S ((oneD S (iterD S D0 k) k).told.take (k + 1)) : Nat)
    rw [eL, evsum_snoc, List.length_take, Nat.min_eq_left (by omega)]
    obtain ⟨hq, ht1, ht4⟩ := h.si.ti.mem q tag (List.mem_of_getElem? hx)
    have hev := cost_event c hok h hq ht1 ht4 (i := k) (fun hfk => by
      rw [eI]
      refine List.mem_iff_getElem?.2 ⟨k, ?_⟩
      rw [List.getElem?_take_of_lt (by omega)]; exact hx) hx
    exact (ih.trans hev).le (by omega)
end
end Go.Proofs.Lx

namespace Go.Proofs.Lx
open Go Go.RowKit Go.Proofs.Tj
set_option linter.unusedVariables false
theorem len_sub {l1 l2 : List Nat} (hn : l1.Nodup) (h : ∀ x ∈ l1, x ∈ l2) : l1.length ≤ l2.length := hn.length_le_of_subset h
theorem inj_count {l1 l2 : List Nat} {f : Nat → Nat} (hn : l1.Nodup) (h : ∀ x ∈ l1, ∃ y ∈ l2, f y = x) : l1.length ≤ l2.length := by
  have := len_sub (l2 := l2.map f) hn fun x hx => by
    obtain ⟨y, hy, e⟩ := h x hx
    exact List.mem_map.2 ⟨y, hy, e⟩
  rwa [List.length_map] at this
theorem sum_append2 (f : Nat → Nat) (l l' : List Nat) : ((l ++ l').map f).sum = (l.map f).sum + (l'.map f).sum := by rw [List.map_append, List.sum_append]
/-- A list each once, as a sum over all numbers. -/
theorem nodup_sum {g : Nat → Nat} {m : Nat} : ∀ {l : List Nat}, l.Nodup → (∀ r ∈ l, r < m) → (l.map g).sum = ((List.range m).map fun r => if r ∈ l then g r else 0).sum
  | [], _, _ => by
    have : ∀ m, ((List.range m).map fun r => if r ∈ ([] : List Nat) then g r else 0).sum = 0 := fun m => by
      induction m with
      | zero => rfl
      | succ m ih => rw [List.range_succ, sum_append2, ih]; simp
    rw [this]; rfl
  | a :: l, hn, h => by
    rw [List.nodup_cons] at hn
    have ih := nodup_sum (g := g) hn.2 fun r hr => h r (List.mem_cons_of_mem _ hr)
    have ha := h a List.mem_cons_self
    rw [sum_point (f := fun r => if r ∈ l then g r else 0) (g := fun r => if r ∈ a :: l then g r else 0) (x := a) (d := g a) ?_ ?_ m ha, ← ih, List.map_cons, List.sum_cons]
    · omega
    · show (if a ∈ a :: l then g a else 0) = (if a ∈ l then g a else 0) + g a
      rw [if_pos List.mem_cons_self, if_neg hn.1]; omega
    · intro y hy
      show (if y ∈ a :: l then g y else 0) = if y ∈ l then g y else 0
      by_cases e : y ∈ l
      · rw [if_pos e, if_pos (List.mem_cons_of_mem _ e)]
      · rw [if_neg e, if_neg (fun k => (List.mem_cons.1 k).elim hy e)]
theorem sum_swap {α : Type} (f : α → Nat → Nat) (m : Nat) : ∀ l : List α, (l.map fun x => ((List.range m).map (f x)).sum).sum = ((List.range m).map fun r => (l.map fun x => f x r).sum).sum
  | [] => by
    have : ∀ m, ((List.range m).map fun r => (([] : List α).map fun x => f x r).sum).sum = 0 := fun m => by
      induction m with
      | zero => rfl
      | succ m ih => rw [List.range_succ, sum_append2, ih]; simp
    rw [this]; rfl
  | x :: l => by
    rw [List.map_cons, List.sum_cons, sum_swap f m l, ← sum_add]
    simp only [List.map_cons, List.sum_cons]
theorem sum_ite {α : Type} (p : α → Bool) (c : Nat) : ∀ l : List α, (l.map fun x => if p x = true then c else 0).sum = c * l.countP p
  | [] => by simp
  | x :: l => by
    rw [List.map_cons, List.sum_cons, sum_ite p c l, List.countP_cons]
    split
    · rw [Nat.mul_add, Nat.mul_one, Nat.add_comm]
    · rw [Nat.mul_add]; simp
theorem range_sum_le {f g : Nat → Nat} {m : Nat} (h : ∀ r, r < m → f r ≤ g r) : ((List.range m).map f).sum ≤ ((List.range m).map g).sum := sum_le_map _ fun r hr => h r (List.mem_range.1 hr)
theorem le_range_sum {f : Nat → Nat} : ∀ {m x : Nat}, x < m → f x ≤ ((List.range m).map f).sum
  | 0, _, h => absurd h (by omega)
  | m + 1, x, h => by
    rw [List.range_succ, sum_append2]
    simp only [List.map_cons, List.map_nil, List.sum_cons, List.sum_nil]
    by_cases e : x = m
    · subst e; omega
    · have := le_range_sum (f := f) (m := m) (x := x) (by omega); omega
/-- Literals that are heads, each once: what they weigh the rules weigh. -/
theorem heads_le (head g : Nat → Nat) (m : Nat) : ∀ {Q : List Nat}, Q.Nodup → (∀ q ∈ Q, ∃ s, s < m ∧ head s = q) → (Q.map g).sum ≤ ((List.range m).map fun s => if head s ∈ Q then g (head s) else 0).sum
  | [], _, _ => by simp
  | q :: Q, hn, h => by
    rw [List.nodup_cons] at hn
    have ih := heads_le head g m hn.2 fun x hx => h x (List.mem_cons_of_mem _ hx)
    obtain ⟨s, hs, e⟩ := h q List.mem_cons_self
    have e1 : (fun s => if head s ∈ q :: Q then g (head s) else 0) = fun s => (if head s ∈ Q then g (head s) else 0) + if head s = q then g q else 0 := by
      funext s
      by_cases k : head s = q
      · rw [if_pos k, k, if_pos List.mem_cons_self, if_neg hn.1]; omega
      · rw [if_neg k]
        by_cases k2 : head s ∈ Q
        · rw [if_pos k2, if_pos (List.mem_cons_of_mem _ k2)]; omega
        · rw [if_neg k2, if_neg (fun a => (List.mem_cons.1 a).elim k k2)]
    rw [e1, sum_add, List.map_cons, List.sum_cons]
    have := le_range_sum (f := fun s => if head s = q then g q else 0) hs
    rw [if_pos e] at this
    omega
/-- What all events cost, parted. -/
def w3 (S : Stc) (x : Nat × Nat) : Nat := if x.2 = 3 then lowN S x.1 else 0
def w1 (S : Stc) (x : Nat × Nat) : Nat := if x.2 = 1 then lowS S x.1 else 0
def wl (S : Stc) (x : Nat × Nat) : Nat := if x.2 = 1 ∨ x.2 = 2 then cO S x.1 else 0
theorem evC_part (S : Stc) (i : Nat) (x : Nat × Nat) : evC S i x = 1 + w3 S x + w1 S x + if S.first ≤ i then wl S x else 0 := by
  obtain ⟨q, t⟩ := x
  unfold evC w3 w1 wl
  dsimp only
  by_cases h3 : t = 3
  · subst h3; simp
  · by_cases h1 : t = 1
    · subst h1; simp; omega
    · by_cases h2 : t = 2
      · subst h2; simp
      · simp [h1, h2, h3]
theorem evsum_part (S : Stc) : ∀ (k : Nat) (l : List (Nat × Nat)), l.length = k → evsum S l = l.length + (l.map (w3 S)).sum + (l.map (w1 S)).sum + ((l.drop S.first).map (wl S)).sum
  | 0, l, h => by
    rw [List.length_eq_zero_iff] at h
    subst h; simp [evsum]
  | k + 1, l, h => by
    obtain ⟨l', x, rfl⟩ : ∃ l' x, l = l' ++ [x] := ⟨l.dropLast, l.getLast (by intro e; rw [e] at h; simp at h), (List.dropLast_concat_getLast _).symm⟩
    have hl : l'.length = k := by rw [List.length_append, List.length_singleton] at h; omega
    rw [evsum_snoc, evsum_part S k l' hl, evC_part, List.length_append, List.length_singleton, List.map_append, List.map_append, List.sum_append, List.sum_append]
    simp only [List.map_cons, List.map_nil, List.sum_cons, List.sum_nil]
    by_cases hf : S.first ≤ l'.length
    · rw [if_pos hf, List.drop_append_of_le_length hf, List.map_append, List.sum_append]
      simp only [List.map_cons, List.map_nil, List.sum_cons, List.sum_nil]
      omega
    · rw [if_neg hf, List.drop_eq_nil_of_le (show l'.length ≤ S.first by omega), List.drop_eq_nil_of_le (show (l' ++ [x]).length ≤ S.first by rw [List.length_append, List.length_singleton]; omega)]
      simp only [List.map_nil, List.sum_nil]
      omega
end Go.Proofs.Lx
