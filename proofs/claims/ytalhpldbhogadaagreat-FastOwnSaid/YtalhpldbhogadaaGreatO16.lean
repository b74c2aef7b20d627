/- Parts of the proof: Ud, Ue, Uf, Ug. The fast engine's plain law: settle, stand, fire. No program in sight. No condition. -/
import Derived.Test.YtalhpldbhogadaaGreatO15
namespace Go.Proofs.Lx
open Go Go.RowKit Go.Proofs.Tj
set_option linter.unusedVariables false
/-- Both at once, and the tags that are known to stay. -/
structure BI (S : Stc) (B bt : Nat → List Nat) (fact : Nat → Bool) (D : Dyn) (g : Gs) (pc : Prc) (ex : Exc) (K : Nat → Nat → Prop) : Prop where
 si : SI S B bt fact D g
 ci : CI S B D g pc ex
 kp : ∀ q t, K q t → HT D q t
 k1 : ∀ q t, K q t → 1 ≤ t
 l1 : ∀ q, pc.l1 q → K q 1
 l2 : ∀ q, pc.l2 q → K q 2
section
variable {S : Stc} {B bt : Nat → List Nat} {fact : Nat → Bool} {D : Dyn} {g : Gs} {pc : Prc} {ex : Exc} {K : Nat → Nat → Prop}
theorem BI.tell (h : BI S B bt fact D g pc ex K) {q tag : Nat} (hq : q < S.n) (h1 : 1 ≤ tag) (h4 : tag ≤ 4) (hv : CN S B bt fact (HT D) tag q) : BI S B bt fact (tellD D q tag) g pc ex K :=
 ⟨h.si.tell hq h1 h4 hv, h.ci.tell h1, fun q' t' k => HT.tell h1 (h.k1 _ _ k) (h.kp _ _ k), h.k1, h.l1, h.l2⟩
theorem BI.look (c : Ctx S B bt) (h : BI S B bt fact D g pc ex K) {q : Nat} (hq : q < S.n) : BI S B bt fact (lookD D q) g pc { ex with e7 := fun x => ex.e7 x ∧ x ≠ q, e8 := fun x => ex.e8 x ∧ x ≠ q } K :=
 ⟨h.si.look c hq, h.ci.look (fun k => h.kp _ _ (h.l1 _ k)) (fun k => h.kp _ _ (h.l2 _ k)), fun q' t' k => HT.look (h.k1 _ _ k) (h.kp _ _ k), h.k1, h.l1, h.l2⟩
theorem BI.tick (h : BI S B bt fact D g pc ex K) (k : Int) : BI S B bt fact (tick D k) g pc ex K := ⟨h.si.tick k, h.ci.tick k, h.kp, h.k1, h.l1, h.l2⟩
theorem BI.upd (h : BI S B bt fact D g pc ex K) (x : Int) : BI S B bt fact { D with upd := x } g pc ex K := ⟨h.si.upd x, h.ci.upd x, h.kp, h.k1, h.l1, h.l2⟩
theorem BI.tickB (h : BI S B bt fact D g pc ex K) (r : Nat) : BI S B bt fact (tickB S D r) g pc ex K := by
 unfold Lx.tickB; split
 ·exact h.tick 1
 ·exact h
/-- Weaker, by one word. -/
def Exc.le (a b : Exc) : Prop := (∀ x, a.e1 x → b.e1 x) ∧ (∀ x, a.e2 x → b.e2 x) ∧ (∀ x, a.e3 x → b.e3 x) ∧ (∀ x, a.e4 x → b.e4 x) ∧ (∀ x y, a.e5 x y → b.e5 x y) ∧ (∀ x, a.e6 x → b.e6 x) ∧ (∀ x, a.e7 x → b.e7 x) ∧ (∀ x, a.e8 x → b.e8 x) ∧ (∀ x y, a.eL x y → b.eL x y) ∧ (∀ x, a.eB x → b.eB x)
theorem BI.weak (h : BI S B bt fact D g pc ex K) {ex' : Exc} (hl : ex.le ex') : BI S B bt fact D g pc ex' K :=
 ⟨h.si, h.ci.weaken hl.1 hl.2.1 hl.2.2.1 hl.2.2.2.1 hl.2.2.2.2.1 hl.2.2.2.2.2.1 hl.2.2.2.2.2.2.1 hl.2.2.2.2.2.2.2.1 hl.2.2.2.2.2.2.2.2.1 hl.2.2.2.2.2.2.2.2.2, h.kp, h.k1, h.l1, h.l2⟩
/-- A pair is settled: what stays. -/
theorem CI.settle0 (h : CI S B D g pc ex) {p : Nat} : CI S B (decAttacks (setSettled D p) (S.pq p)) g pc { ex with e4 := fun x => ex.e4 x ∧ x ≠ p, e5 := fun t x => ex.e5 t x ∧ x ≠ p, e7 := fun x => ex.e7 x ∨ x = S.pq p } := by
 refine { h with x4 := fun a ha hn hd => ?_, x5 := fun t ht a ha hn hd => ?_, x7 := fun a ha hn hc => ?_ }
 ·show Tj.upd D.settled p true a = true
  by_cases e : a = p
  ·rw [e, Tj.upd_same]
  ·rw [Tj.upd_ne e]; exact h.x4 a ha (fun k => hn ⟨k, e⟩) hd
 ·show Tj.upd D.settled p true a = true
  by_cases e : a = p
  ·rw [e, Tj.upd_same]
  ·rw [Tj.upd_ne e]; exact h.x5 t ht a ha (fun k => hn ⟨k, e⟩) hd
 ·have e : a ≠ S.pq p := fun e => hn (.inr e)
  refine h.x7 a ha (fun k => hn (.inl k)) (hc.imp id fun ⟨x, y, z⟩ => ⟨x, y, ?_⟩)
  have z : Tj.upd D.attacks (S.pq p) _ a = 0 := z
  rw [Tj.upd_ne e] at z; exact z
theorem BI.settle (c : Ctx S B bt) (h : BI S B bt fact D g pc ex K) {p : Nat} (hp : p < S.P)
  (hw : (∃ b ∈ B (S.ps p), HT D b 4) ∨ ∃ t, t < S.m ∧ S.head t = S.pq p ∧ supR S t = true ∧ S.ps p ∈ bt t ∧ ∀ b ∈ B t, HT D b 3) :
  BI S B bt fact (settleD S D p) g pc { ex with e4 := fun x => ex.e4 x ∧ x ≠ p, e5 := fun t x => ex.e5 t x ∧ x ≠ p } K := by
 unfold settleD; split
 ·next hs =>
  refine ⟨h.si, { h.ci with x4 := fun a ha hn hd => ?_, x5 := fun t ht a ha hn hd => ?_ }, h.kp, h.k1, h.l1, h.l2⟩
  ·by_cases e : a = p
   ·rw [e]; exact hs
   ·exact h.ci.x4 a ha (fun k => hn ⟨k, e⟩) hd
  ·by_cases e : a = p
   ·rw [e]; exact hs
   ·exact h.ci.x5 t ht a ha (fun k => hn ⟨k, e⟩) hd
 ·next hs =>
  have h1 : BI S B bt fact (decAttacks (setSettled D p) (S.pq p)) g pc _ K := ⟨h.si.settle0 c hp (by simpa using hs) hw, h.ci.settle0 (p := p), h.kp, h.k1, h.l1, h.l2⟩
  refine ((h1.tick 2).look c (c.pqn p hp)).weak ⟨fun _ k => k, fun _ k => k, fun _ k => k, fun _ k => k, fun _ _ k => k, fun _ k => k, fun x k => ?_, fun x k => k.1, fun _ _ k => k, fun _ k => k⟩
  rcases k with ⟨k | k, k2⟩
  ·exact k
  ·exact absurd k k2
/-- A rule for a foe stands, or does not yet. -/
theorem BI.stand (c : Ctx S B bt) (h : BI S B bt fact D g pc ex K) {p : Nat} (hp : p < S.P) : BI S B bt fact (standD S D p) g pc { ex with e6 := fun x => ex.e6 x ∧ x ≠ p } K := by
 unfold standD; split
 ·next hs =>
  unfold standB at hs
  simp only [Bool.and_eq_true, beq_iff_eq] at hs
  obtain ⟨⟨hn, hl⟩, _⟩ := hs
  have h1 : BI S B bt fact (setStanding D (S.pq p)) g pc { ex with e6 := fun x => ex.e6 x ∧ x ≠ p, e8 := fun x => ex.e8 x ∨ x = S.pq p } K := by
   refine ⟨h.si.setStanding (h.si.stands c hp hn hl), { h.ci with x6 := fun a ha he h1 h2 => ?_, x8 := fun a ha he hl hc => ?_ }, h.kp, h.k1, h.l1, h.l2⟩
   ·show Tj.upd D.standing (S.pq p) true (S.pq a) = true
    by_cases e : S.pq a = S.pq p
    ·rw [e, Tj.upd_same]
    ·rw [Tj.upd_ne e]; exact h.ci.x6 a ha (fun k => he ⟨k, fun e2 => e (by rw [e2])⟩) h1 h2
   ·have e : a ≠ S.pq p := fun e => he (.inr e)
    refine h.ci.x8 a ha (fun k => he (.inl k)) hl (hc.imp id fun hc => hc.imp id fun z => ?_)
    have z : Tj.upd D.standing (S.pq p) true a = true := z
    rw [Tj.upd_ne e] at z; exact z
  refine ((h1.tick 1).look c (c.pqn p hp)).weak ⟨fun _ k => k, fun _ k => k, fun _ k => k, fun _ k => k, fun _ _ k => k, fun _ k => k, fun x k => k.1, fun x k => ?_, fun _ _ k => k, fun _ k => k⟩
  rcases k with ⟨k | k, k2⟩
  ·exact k
  ·exact absurd k k2
 ·next hs =>
  refine ⟨h.si, { h.ci with x6 := fun a ha he h1 h2 => ?_ }, h.kp, h.k1, h.l1, h.l2⟩
  by_cases e : a = p
  ·subst e
   unfold standB at hs
   rw [h1, h2] at hs
   simpa using hs
  ·exact h.ci.x6 a ha (fun k => he ⟨k, e⟩) h1 h2
theorem BI.settles (c : Ctx S B bt) : ∀ (l : List Nat) {D : Dyn} {ex : Exc}, BI S B bt fact D g pc ex K → (∀ p ∈ l, p < S.P) →
  (∀ p ∈ l, (∃ b ∈ B (S.ps p), K b 4) ∨ ∃ t, t < S.m ∧ S.head t = S.pq p ∧ supR S t = true ∧ S.ps p ∈ bt t ∧ ∀ b ∈ B t, K b 3) →
  BI S B bt fact (l.foldl (settleD S) D) g pc { ex with e4 := fun x => ex.e4 x ∧ x ∉ l, e5 := fun t x => ex.e5 t x ∧ x ∉ l } K
 | [], D, ex, h, _, _ => h.weak ⟨fun _ k => k, fun _ k => k, fun _ k => k, fun _ k => ⟨k, by simp⟩, fun _ _ k => ⟨k, by simp⟩, fun _ k => k, fun _ k => k, fun _ k => k, fun _ _ k => k, fun _ k => k⟩
 | p :: l, D, ex, h, hp, hw => by
  have h1 := h.settle c (hp p List.mem_cons_self) ((hw p List.mem_cons_self).imp (fun ⟨b, a, k⟩ => ⟨b, a, h.kp _ _ k⟩) fun ⟨t, a, b, d, e, f⟩ => ⟨t, a, b, d, e, fun b hb => h.kp _ _ (f b hb)⟩)
  refine (BI.settles c l h1 (fun x hx => hp x (List.mem_cons_of_mem _ hx)) (fun x hx => hw x (List.mem_cons_of_mem _ hx))).weak ⟨fun _ k => k, fun _ k => k, fun _ k => k, fun x k => ⟨k.1.1, ?_⟩, fun t x k => ⟨k.1.1, ?_⟩, fun _ k => k, fun _ k => k, fun _ k => k, fun _ _ k => k, fun _ k => k⟩
  ·rw [List.mem_cons, not_or]; exact ⟨k.1.2, k.2⟩
  ·rw [List.mem_cons, not_or]; exact ⟨k.1.2, k.2⟩
theorem BI.stands (c : Ctx S B bt) : ∀ (l : List Nat) {D : Dyn} {ex : Exc}, BI S B bt fact D g pc ex K → (∀ p ∈ l, p < S.P) → BI S B bt fact (l.foldl (standD S) D) g pc { ex with e6 := fun x => ex.e6 x ∧ x ∉ l } K
 | [], D, ex, h, _ => h.weak ⟨fun _ k => k, fun _ k => k, fun _ k => k, fun _ k => k, fun _ _ k => k, fun _ k => ⟨k, by simp⟩, fun _ k => k, fun _ k => k, fun _ _ k => k, fun _ k => k⟩
 | p :: l, D, ex, h, hp => by
  have h1 := h.stand c (hp p List.mem_cons_self)
  refine (BI.stands c l h1 (fun x hx => hp x (List.mem_cons_of_mem _ hx))).weak ⟨fun _ k => k, fun _ k => k, fun _ k => k, fun _ k => k, fun _ _ k => k, fun x k => ⟨k.1.1, ?_⟩, fun _ k => k, fun _ k => k, fun _ _ k => k, fun _ k => k⟩
  rw [List.mem_cons, not_or]; exact ⟨k.1.2, k.2⟩
/-- A rule that is whole has its head's counter above zero. -/
theorem SI.backs_ne (h : SI S B bt fact D g) (hco : ∀ b, ¬ (HT D b 3 ∧ HT D b 4)) (c : Ctx S B bt) {r : Nat} (hr : r < S.m) (hs : supR S r = true) (hw : ∀ b ∈ B r, HT D b 3) : D.backs (S.head r) ≠ 0 := fun h0 => by
 rw [h.bk _ (c.hd r hr)] at h0
 have hz := countP_zero (by unfold cBk at h0; omega : (List.range S.m).countP (fun x => supR S x && decide (S.head x = S.head r) && !g.dB x) = 0) (List.mem_range.2 hr)
 obtain ⟨b, hb, hb4⟩ := h.k r hr (h.bkh r hr (by simpa [hs] using hz))
 exact hco b ⟨hw b hb, hb4⟩
theorem BI.backed (c : Ctx S B bt) (h : BI S B bt fact D g pc ex K) (hco : ∀ b, ¬ (HT D b 3 ∧ HT D b 4)) {r : Nat} (hr : r < S.m) (hs : supR S r = true) (hw : ∀ b ∈ B r, HT D b 3) :
  BI S B bt fact (setBacked D (S.head r)) g pc { ex with e3 := fun x => ex.e3 x ∧ S.head x ≠ S.head r, e7 := fun x => ex.e7 x ∨ x = S.head r } K := by
 have hne := h.si.backs_ne hco c hr hs hw
 have hup : ∀ a, a ≠ S.head r → (setBacked D (S.head r)).backed a = D.backed a := fun a e => Tj.upd_ne e
 refine ⟨h.si.setBacked hr hs hw, { h.ci with cOb := fun f hf hc => ?_, x3 := fun a ha hsa he h0 => ?_, x7 := fun a ha he hc => ?_ }, h.kp, h.k1, h.l1, h.l2⟩
 ·refine h.ci.cOb f hf ?_
  by_cases e : f = S.head r
  ·rw [e]; exact .inl hne
  ·rw [hup f e] at hc; exact hc
 ·show Tj.upd D.backed (S.head r) true (S.head a) = true
  by_cases e : S.head a = S.head r
  ·rw [e, Tj.upd_same]
  ·rw [Tj.upd_ne e]; exact h.ci.x3 a ha hsa (fun k => he ⟨k, e⟩) h0
 ·have e : a ≠ S.head r := fun e => he (.inr e)
  rw [hup a e] at hc
  exact h.ci.x7 a ha (fun k => he (.inl k)) hc
end
end Go.Proofs.Lx

namespace Go.Proofs.Lx
open Go Go.RowKit Go.Proofs.Tj
set_option linter.unusedVariables false
def orP (P : Nat → Nat → Prop) (r q : Nat) : Nat → Nat → Prop := fun a b => P a b ∨ (a = r ∧ b = q)
theorem or1_iff {d : Nat → Nat → Bool} {P : Nat → Nat → Prop} {r q a b : Nat} (h : d a b = true ↔ P a b) : or1 d r q a b = true ↔ orP P r q a b := by
 unfold or1 orP
 rw [Bool.or_eq_true, h, Bool.and_eq_true, decide_eq_true_iff, decide_eq_true_iff]
section
variable {S : Stc} {B bt : Nat → List Nat} {fact : Nat → Bool} {D : Dyn} {g : Gs} {pc : Prc} {ex : Exc} {K : Nat → Nat → Prop}
theorem BI.moreK (h : BI S B bt fact D g pc ex K) (K' : Nat → Nat → Prop) (hK : ∀ q t, K' q t → HT D q t ∧ 1 ≤ t) : BI S B bt fact D g pc ex (fun q t => K q t ∨ K' q t) :=
 ⟨h.si, h.ci, fun q t k => k.elim (h.kp q t) fun k => (hK q t k).1, fun q t k => k.elim (h.k1 q t) fun k => (hK q t k).2, fun q k => .inl (h.l1 q k), fun q k => .inl (h.l2 q k)⟩
theorem BI.lessK {K' : Nat → Nat → Prop} (h : BI S B bt fact D g pc ex K') (hK : ∀ q t, K q t → K' q t) (h1 : ∀ q, pc.l1 q → K q 1) (h2 : ∀ q, pc.l2 q → K q 2) : BI S B bt fact D g pc ex K :=
 ⟨h.si, h.ci, fun q t k => h.kp q t (hK q t k), fun q t k => h.k1 q t (hK q t k), h1, h2⟩
theorem BI.fire (c : Ctx S B bt) (hco : ∀ D' g', SI S B bt fact D' g' → ∀ b, ¬ (HT D' b 3 ∧ HT D' b 4)) (h : BI S B bt fact D g pc ex K) {r : Nat} (hr : r < S.m) (h0 : D.need r = 0) :
  BI S B bt fact (fireD S D r) g pc { ex with e3 := fun x => ex.e3 x ∧ x ≠ r, e5 := fun t x => ex.e5 t x ∧ t ≠ r, e6 := fun x => ex.e6 x ∧ S.ps x ≠ r } K := by
 have hw := h.si.need0 hr h0
 have hbp : ∀ p ∈ S.beats r, p < S.P := fun p hp => ((c.bts r hr p).1 hp).2.1
 have hop : ∀ p ∈ S.ofs r, p < S.P := fun p hp => ((c.ofs r hr p).1 hp).1
 have hmid : BI S B bt fact (fire1 S D r) g pc { ex with e3 := fun x => ex.e3 x ∧ x ≠ r, e5 := fun t x => ex.e5 t x ∧ t ≠ r } K := by
  unfold fire1; split
  ·next hs =>
   have h1 : BI S B bt fact (if D.backed (S.head r) = true then D else Lx.tick (setBacked D (S.head r)) 1) g pc { ex with e3 := fun x => ex.e3 x ∧ S.head x ≠ S.head r, e7 := fun x => ex.e7 x ∨ x = S.head r } K := by
    split
    ·next hb =>
     refine ⟨h.si, { h.ci with x3 := fun a ha hsa he h0 => ?_, x7 := fun a ha he => h.ci.x7 a ha fun k => he (.inl k) }, h.kp, h.k1, h.l1, h.l2⟩
     by_cases e : S.head a = S.head r
     ·rw [e]; exact hb
     ·exact h.ci.x3 a ha hsa (fun k => he ⟨k, e⟩) h0
    ·exact (h.backed c (hco D g h.si) hr hs hw).tick 1
   have hw1 : ∀ b ∈ B r, HT (if D.backed (S.head r) = true then D else Lx.tick (setBacked D (S.head r)) 1) b 3 := by split <;> exact hw
   generalize (if D.backed (S.head r) = true then D else Lx.tick (setBacked D (S.head r)) 1) = D1 at *
   have h2 := BI.settles c (S.beats r) (h1.moreK (fun q t => q ∈ B r ∧ t = 3) (fun q t k => by rw [k.2]; exact ⟨hw1 q k.1, by omega⟩)) hbp (fun p hp => .inr ⟨r, hr, ((c.bts r hr p).1 hp).2.2.1.symm, hs, ((c.bts r hr p).1 hp).2.2.2, fun b hb => .inr ⟨hb, rfl⟩⟩)
   have h3 := (h2.look c (c.hd r hr)).lessK (K := K) (fun q t k => .inl k) h.l1 h.l2
   refine ⟨h3.si, { h3.ci with x3 := fun a ha hsa he => h3.ci.x3 a ha hsa fun k => he ⟨k.1, fun e => k.2 (by rw [e])⟩, x4 := fun p hp he => h3.ci.x4 p hp fun k => he k.1, x5 := fun t ht p hp he => h3.ci.x5 t ht p hp fun k => ?_, x7 := fun a ha he => h3.ci.x7 a ha fun k => ?_, x8 := fun a ha he => h3.ci.x8 a ha fun k => he k.1 }, h3.kp, h3.k1, h3.l1, h3.l2⟩
   ·by_cases e : t = r
    ·subst e; exact k.2 hp
    ·exact he ⟨k.1, e⟩
   ·rcases k with ⟨k | k, k2⟩
    ·exact he k
    ·exact k2 k
  ·next hs =>
   refine ⟨h.si, { h.ci with x3 := fun a ha hsa he => h.ci.x3 a ha hsa fun k => he ⟨k, fun e => hs (by rw [← e]; exact hsa)⟩, x5 := fun t ht p hp he => h.ci.x5 t ht p hp fun k => he ⟨k, fun e => hs (by rw [← e]; exact ((c.bts t ht p).1 hp).1)⟩ }, h.kp, h.k1, h.l1, h.l2⟩
 unfold fireD
 have h4 := BI.stands c (S.ofs r) hmid hop
 refine ⟨h4.si, { h4.ci with x6 := fun p hp he => h4.ci.x6 p hp fun k => he ⟨k.1, fun e => k.2 ((c.ofs r hr p).2 ⟨hp, e⟩)⟩ }, h4.kp, h4.k1, h4.l1, h4.l2⟩
/-- A counter of +d goes down. -/
theorem BI.lowerN (c : Ctx S B bt) (h : BI S B bt fact D g pc noE K) {r q : Nat} (hr : r < S.m) (hb : q ∈ B r) (hq : K q 3) (hd : ¬ pc.a3 r q) :
  BI S B bt fact (lowerN S D r) { g with d3 := or1 g.d3 r q } { pc with a3 := orP pc.a3 r q } { noE with e3 := fun x => x = r, e5 := fun t _ => t = r, e6 := fun p => S.ps p = r } K := by
 have hdf : g.d3 r q = false := by
  cases hx : g.d3 r q with
  | false => rfl
  | true => exact absurd ((h.ci.c3 r hr q hb).1 hx) hd
 have hne : ∀ a, a ≠ r → (decNeed D r).need a = D.need a := fun a e => Tj.upd_ne e
 have h1 : BI S B bt fact (decNeed D r) { g with d3 := or1 g.d3 r q } { pc with a3 := orP pc.a3 r q } { noE with e3 := fun x => x = r, e5 := fun t _ => t = r, e6 := fun p => S.ps p = r } K := by
  refine ⟨h.si.decNeed c hr hb (h.kp _ _ hq) hdf, { h.ci with c3 := fun a ha b hb2 => or1_iff (h.ci.c3 a ha b hb2), x3 := fun a ha hs he h0 => ?_, x5 := fun t ht p hp he h0 => ?_, x6 := fun p hp he h0 hl => ?_ }, h.kp, h.k1, h.l1, h.l2⟩
  ·rw [hne a he] at h0; exact h.ci.x3 a ha hs (fun k => k) h0
  ·rw [hne t he] at h0; exact h.ci.x5 t ht p hp (fun k => k) h0
  ·rw [hne _ he] at h0; exact h.ci.x6 p hp (fun k => k) h0 hl
 exact h1.tickB r
theorem lowerN_need (S : Stc) (D : Dyn) (r : Nat) : (lowerN S D r).need = (decNeed D r).need := by
 unfold lowerN tickB; split <;> rfl
theorem BI.plusr (c : Ctx S B bt) (hco : ∀ D' g', SI S B bt fact D' g' → ∀ b, ¬ (HT D' b 3 ∧ HT D' b 4)) (h : BI S B bt fact D g pc noE K) {r q : Nat} (hr : r < S.m) (hb : q ∈ B r) (hq : K q 3) (hd : ¬ pc.a3 r q) :
  BI S B bt fact (plusr S D r) { g with d3 := or1 g.d3 r q } { pc with a3 := orP pc.a3 r q } noE K := by
 have h1 := h.lowerN c hr hb hq hd
 unfold Lx.plusr; split
 ·next h0 =>
  have h2 := h1.fire c hco hr h0
  exact h2.weak ⟨fun _ k => k, fun _ k => k, fun _ k => k.2 k.1, fun _ k => k, fun _ _ k => k.2 k.1, fun _ k => k.2 k.1, fun _ k => k, fun _ k => k, fun _ _ k => k, fun _ k => k⟩
 ·next h0 =>
  refine ⟨h1.si, { h1.ci with x3 := fun a ha hs _ h9 => ?_, x5 := fun t ht p hp _ h9 => ?_, x6 := fun p hp _ h9 hl => ?_ }, h1.kp, h1.k1, h1.l1, h1.l2⟩
  ·exact h1.ci.x3 a ha hs (fun e => h0 (by have e : a = r := e; rw [e] at h9; exact h9)) h9
  ·exact h1.ci.x5 t ht p hp (fun e => h0 (by have e : t = r := e; rw [e] at h9; exact h9)) h9
  ·exact h1.ci.x6 p hp (fun e => h0 (by have e : S.ps p = r := e; rw [e] at h9; exact h9)) h9 hl
theorem BI.plusrs (c : Ctx S B bt) (hco : ∀ D' g', SI S B bt fact D' g' → ∀ b, ¬ (HT D' b 3 ∧ HT D' b 4)) {q : Nat} (hq : K q 3) : ∀ (l : List Nat) {D : Dyn} {g : Gs} {pc : Prc}, BI S B bt fact D g pc noE K → l.Nodup → (∀ r ∈ l, r < S.m ∧ q ∈ B r ∧ ¬ pc.a3 r q) →
  ∃ g' a, BI S B bt fact (l.foldl (Lx.plusr S) D) g' { pc with a3 := a } noE K ∧ ∀ x y, a x y ↔ pc.a3 x y ∨ (x ∈ l ∧ y = q)
 | [], D, g, pc, h, _, _ => ⟨g, pc.a3, h, fun x y => by simp⟩
 | r :: l, D, g, pc, h, hn, hl => by
  rw [List.nodup_cons] at hn
  obtain ⟨hr, hb, hd⟩ := hl r List.mem_cons_self
  obtain ⟨g', a, h1, h2⟩ := BI.plusrs c hco hq l (h.plusr c hco hr hb hq hd) hn.2 (fun x hx => by
   obtain ⟨k1, k2, k3⟩ := hl x (List.mem_cons_of_mem _ hx)
   exact ⟨k1, k2, fun k => k.elim k3 fun k => hn.1 (k.1 ▸ hx)⟩)
  refine ⟨g', a, h1, fun x y => ?_⟩
  rw [h2 x y, List.mem_cons]
  show (pc.a3 x y ∨ (x = r ∧ y = q)) ∨ _ ↔ _
  constructor
  ·rintro ((k | k) | k)
   ·exact .inl k
   ·exact .inr ⟨.inl k.1, k.2⟩
   ·exact .inr ⟨.inr k.1, k.2⟩
  ·rintro (k | ⟨k | k, k2⟩)
   ·exact .inl (.inl k)
   ·exact .inl (.inr ⟨k, k2⟩)
   ·exact .inr ⟨k, k2⟩
end
end Go.Proofs.Lx

namespace Go.Proofs.Lx
open Go Go.RowKit Go.Proofs.Tj
set_option linter.unusedVariables false
section
variable {S : Stc} {B bt : Nat → List Nat} {fact : Nat → Bool} {D : Dyn} {g : Gs} {pc : Prc} {ex : Exc} {K : Nat → Nat → Prop}
theorem look_dead (D : Dyn) (q : Nat) : (lookD D q).dead = D.dead := by rw [look_shape]
theorem settle_dead (S : Stc) (D : Dyn) (p : Nat) : (settleD S D p).dead = D.dead := by
 unfold settleD; split
 ·rfl
 ·rw [look_dead]; rfl
theorem settles_dead (S : Stc) : ∀ (l : List Nat) (D : Dyn), (l.foldl (settleD S) D).dead = D.dead
 | [], _ => rfl
 | p :: l, D => by rw [List.foldl_cons, settles_dead S l, settle_dead]
theorem stand_dead (S : Stc) (D : Dyn) (p : Nat) : (standD S D p).dead = D.dead := by
 unfold standD; split
 ·rw [look_dead]; rfl
 ·rfl
theorem left_dead (S : Stc) (D : Dyn) (p : Nat) : (leftD S D p).dead = D.dead := by unfold leftD; rw [stand_dead]; rfl
theorem tickB_dead (S : Stc) (D : Dyn) (r : Nat) : (tickB S D r).dead = D.dead := by unfold tickB; split <;> rfl
theorem BI.killN (c : Ctx S B bt) (h : BI S B bt fact D g pc noE K) {r q : Nat} (hr : r < S.m) (hb : q ∈ B r) (hq : K q 4) :
  BI S B bt fact (killN S D r) g { pc with a4 := orP pc.a4 r q } { noE with e4 := fun p => S.ps p = r, eL := fun t _ => t = r, eB := fun x => x = r } K := by
 have hne : ∀ a, a ≠ r → (setDead D r).dead a = D.dead a := fun a e => Tj.upd_ne e
 have hs : (setDead D r).dead r = true := Tj.upd_same _ _ _
 have h1 : BI S B bt fact (setDead D r) g { pc with a4 := orP pc.a4 r q } { noE with e4 := fun p => S.ps p = r, eL := fun t _ => t = r, eB := fun x => x = r } K := by
  refine ⟨h.si.setDead hb (h.kp _ _ hq), { h.ci with c4 := fun a ha b hb2 k => ?_, cL := fun t ht p hp he => ?_, cB := fun a ha hsa he => ?_, x4 := fun p hp he hd => ?_ }, h.kp, h.k1, h.l1, h.l2⟩
  ·by_cases e : a = r
   ·rw [e]; exact hs
   ·rw [hne a e]
    exact h.ci.c4 a ha b hb2 (k.elim id fun k => absurd k.1 e)
  ·rw [hne t he]; exact h.ci.cL t ht p hp (fun k => k)
  ·rw [hne a he]; exact h.ci.cB a ha hsa (fun k => k)
  ·rw [hne _ he] at hd; exact h.ci.x4 p hp (fun k => k) hd
 exact h1.tickB r
theorem BI.leftOne (c : Ctx S B bt) (h : BI S B bt fact D g pc ex K) {r p : Nat} (hr : r < S.m) (hp : p ∈ S.beats r) (hdead : D.dead r = true) (hd : g.dL r p = false) :
  BI S B bt fact (leftD S D p) { g with dL := or1 g.dL r p } pc { ex with eL := fun t x => ex.eL t x ∧ ¬ (t = r ∧ x = p) } K := by
 have hpP := ((c.bts r hr p).1 hp).2.1
 have hne : ∀ a, a ≠ p → (decLeft D p).left a = D.left a := fun a e => Tj.upd_ne e
 have h1 : BI S B bt fact (decLeft D p) { g with dL := or1 g.dL r p } pc { ex with eL := fun t x => ex.eL t x ∧ ¬ (t = r ∧ x = p), e6 := fun x => ex.e6 x ∨ x = p } K := by
  refine ⟨h.si.decLeft c hr hp hdead hd, { h.ci with cL := fun t ht x hx he => ?_, x6 := fun a ha he h0 hl => ?_ }, h.kp, h.k1, h.l1, h.l2⟩
  ·by_cases e : t = r ∧ x = p
   ·obtain ⟨rfl, rfl⟩ := e
    exact ⟨fun _ => hdead, fun _ => or1_same _ _ _⟩
   ·have e1 : or1 g.dL r p t x = g.dL t x := by
     unfold or1
     rcases Decidable.em (t = r) with e2 | e2
     ·have e3 : x ≠ p := fun e3 => e ⟨e2, e3⟩
      simp [e3]
     ·simp [e2]
    show or1 g.dL r p t x = true ↔ _
    rw [e1]
    exact h.ci.cL t ht x hx fun k => he ⟨k, e⟩
  ·rw [hne a (fun e => he (.inr e))] at hl
   exact h.ci.x6 a ha (fun k => he (.inl k)) h0 hl
 unfold leftD
 refine ((h1.tick 1).stand c hpP).weak ⟨fun _ k => k, fun _ k => k, fun _ k => k, fun _ k => k, fun _ _ k => k, fun x k => ?_, fun _ k => k, fun _ k => k, fun _ _ k => k, fun _ k => k⟩
 rcases k with ⟨k | k, k2⟩
 ·exact k
 ·exact absurd k k2
theorem BI.lefts (c : Ctx S B bt) {r : Nat} (hr : r < S.m) : ∀ (l : List Nat) {D : Dyn} {g : Gs} {ex : Exc}, BI S B bt fact D g pc ex K → l.Nodup → (∀ p ∈ l, p ∈ S.beats r ∧ g.dL r p = false) → D.dead r = true →
  ∃ g', BI S B bt fact (l.foldl (leftD S) D) g' pc { ex with eL := fun t x => ex.eL t x ∧ ¬ (t = r ∧ x ∈ l) } K
 | [], D, g, ex, h, _, _, _ => ⟨g, h.weak ⟨fun _ k => k, fun _ k => k, fun _ k => k, fun _ k => k, fun _ _ k => k, fun _ k => k, fun _ k => k, fun _ k => k, fun _ _ k => ⟨k, by simp⟩, fun _ k => k⟩⟩
 | p :: l, D, g, ex, h, hn, hl, hdead => by
  rw [List.nodup_cons] at hn
  obtain ⟨hp, hd⟩ := hl p List.mem_cons_self
  obtain ⟨g', h2⟩ := BI.lefts c hr l (h.leftOne c hr hp hdead hd) hn.2 (fun x hx => by
   obtain ⟨k1, k2⟩ := hl x (List.mem_cons_of_mem _ hx)
   refine ⟨k1, ?_⟩
   show or1 g.dL r p r x = false
   rw [or1_col (fun (e : x = p) => hn.1 (by rw [← e]; exact hx))]; exact k2) (by rw [left_dead]; exact hdead)
  refine ⟨g', h2.weak ⟨fun _ k => k, fun _ k => k, fun _ k => k, fun _ k => k, fun _ _ k => k, fun _ k => k, fun _ k => k, fun _ k => k, fun t x k => ⟨k.1.1, fun k3 => ?_⟩, fun _ k => k⟩⟩
  rcases List.mem_cons.1 k3.2 with e | e
  ·exact k.1.2 ⟨k3.1, e⟩
  ·exact k.2 ⟨k3.1, e⟩
theorem BI.minusr (c : Ctx S B bt) (h : BI S B bt fact D g pc noE K) {r q : Nat} (hr : r < S.m) (hb : q ∈ B r) (hq : K q 4) :
  ∃ g', BI S B bt fact (minusr S D r) g' { pc with a4 := orP pc.a4 r q } noE K := by
 unfold Lx.minusr; split
 ·next hd =>
  refine ⟨g, h.si, { h.ci with c4 := fun a ha b hb2 k => ?_ }, h.kp, h.k1, h.l1, h.l2⟩
  rcases k with k | k
  ·exact h.ci.c4 a ha b hb2 k
  ·rw [k.1]; exact hd
 ·next hd =>
  have hd : D.dead r = false := by simpa using hd
  have hop : ∀ p ∈ S.ofs r, p < S.P := fun p hp => ((c.ofs r hr p).1 hp).1
  have h1 := BI.settles c (S.ofs r) (h.killN c hr hb hq) hop (fun p hp => .inl ⟨q, by rw [((c.ofs r hr p).1 hp).2]; exact hb, hq⟩)
  have hdead : ((S.ofs r).foldl (settleD S) (Lx.killN S D r)).dead r = true := by
   rw [settles_dead]; unfold Lx.killN; rw [tickB_dead]; exact Tj.upd_same _ _ _
  have h2 : BI S B bt fact ((S.ofs r).foldl (settleD S) (Lx.killN S D r)) g { pc with a4 := orP pc.a4 r q } { noE with eL := fun t _ => t = r, eB := fun x => x = r } K :=
   ⟨h1.si, { h1.ci with x4 := fun p hp _ => h1.ci.x4 p hp fun k => k.2 ((c.ofs r hr p).2 ⟨hp, k.1⟩), x5 := fun t ht p hp _ => h1.ci.x5 t ht p hp fun k => k.1 }, h1.kp, h1.k1, h1.l1, h1.l2⟩
  clear h1
  generalize ((S.ofs r).foldl (settleD S) (Lx.killN S D r)) = D2 at *
  unfold minusr2; split
  ·next hs =>
   have hdB : g.dB r = false := by
    cases hx : g.dB r with
    | false => rfl
    | true => have := (h.ci.cB r hr hs (fun k => k)).1 hx; rw [hd] at this; cases this
   have hdL : ∀ p ∈ S.beats r, g.dL r p = false := fun p hp => by
    cases hx : g.dL r p with
    | false => rfl
    | true => have := (h.ci.cL r hr p hp (fun k => k)).1 hx; rw [hd] at this; cases this
   have hbn : D2.backs (S.head r) ≠ 0 := fun h0 => by
    rw [h2.si.bk _ (c.hd r hr)] at h0
    have hz := countP_zero (by unfold cBk at h0; omega : (List.range S.m).countP (fun x => supR S x && decide (S.head x = S.head r) && !g.dB x) = 0) (List.mem_range.2 hr)
    simp [hs, hdB] at hz
   have hold : ∀ f, (decBacks D2 (S.head r)).backs f ≠ 0 → D2.backs f ≠ 0 := fun f k => by
    by_cases e : f = S.head r
    ·rw [e]; exact hbn
    ·have k : Tj.upd D2.backs (S.head r) _ f ≠ 0 := k
     rw [Tj.upd_ne e] at k; exact k
   have h3 : BI S B bt fact (decBacks D2 (S.head r)) { g with dB := orB g.dB r } { pc with a4 := orP pc.a4 r q } { noE with eL := fun t _ => t = r, e8 := fun x => x = S.head r } K := by
    refine ⟨h2.si.decBacks c hr hs hdead hdB, { h2.ci with cOb := fun f hf k => h2.ci.cOb f hf (k.imp (hold f) id), cB := fun a ha hsa _ => ?_, cC := fun f hf k => h2.ci.cC f hf (hold f k), x8 := fun a ha he hl hc => ?_ }, h2.kp, h2.k1, h2.l1, h2.l2⟩
    ·show orB g.dB r a = true ↔ D2.dead a = true
     by_cases e : a = r
     ·subst e; exact ⟨fun _ => hdead, fun _ => by simp [orB]⟩
     ·have : orB g.dB r a = g.dB a := by simp [orB, e]
      rw [this]; exact h2.ci.cB a ha hsa e
    ·have e : a ≠ S.head r := he
     refine h2.ci.x8 a ha (fun k => k) hl (hc.imp (fun z => ?_) id)
     have z : Tj.upd D2.backs (S.head r) _ a = 0 := z
     rw [Tj.upd_ne e] at z; exact z
   obtain ⟨g', h4⟩ := BI.lefts c hr (S.beats r) (h3.tick 1) (c.btn r hr) (fun p hp => ⟨hp, hdL p hp⟩) hdead
   have h5 := h4.look c (c.hd r hr)
   refine ⟨g', h5.si, { h5.ci with cL := fun t ht p hp _ => h5.ci.cL t ht p hp fun k => k.2 ⟨k.1, by have e : t = r := k.1; rw [← e]; exact hp⟩, x7 := fun a ha _ => h5.ci.x7 a ha fun k => k.1, x8 := fun a ha _ => h5.ci.x8 a ha fun k => k.2 k.1 }, h5.kp, h5.k1, h5.l1, h5.l2⟩
  ·next hs =>
   refine ⟨g, h2.si, { h2.ci with cL := fun t ht p hp _ => h2.ci.cL t ht p hp fun k => hs (by have e : t = r := k; rw [← e]; exact ((c.bts t ht p).1 hp).1), cB := fun a ha hsa _ => h2.ci.cB a ha hsa fun k => hs (by have e : a = r := k; rw [← e]; exact hsa) }, h2.kp, h2.k1, h2.l1, h2.l2⟩
theorem BI.minusrs (c : Ctx S B bt) {q : Nat} (hq : K q 4) : ∀ (l : List Nat) {D : Dyn} {g : Gs} {pc : Prc}, BI S B bt fact D g pc noE K → (∀ r ∈ l, r < S.m ∧ q ∈ B r) →
  ∃ g' a, BI S B bt fact (l.foldl (Lx.minusr S) D) g' { pc with a4 := a } noE K ∧ ∀ x y, a x y ↔ pc.a4 x y ∨ (x ∈ l ∧ y = q)
 | [], D, g, pc, h, _ => ⟨g, pc.a4, h, fun x y => by simp⟩
 | r :: l, D, g, pc, h, hl => by
  obtain ⟨hr, hb⟩ := hl r List.mem_cons_self
  obtain ⟨g1, h0⟩ := h.minusr c hr hb hq
  obtain ⟨g', a, h1, h2⟩ := BI.minusrs c hq l h0 (fun x hx => hl x (List.mem_cons_of_mem _ hx))
  refine ⟨g', a, h1, fun x y => ?_⟩
  rw [h2 x y, List.mem_cons]
  show (pc.a4 x y ∨ (x = r ∧ y = q)) ∨ _ ↔ _
  constructor
  ·rintro ((k | k) | k)
   ·exact .inl k
   ·exact .inr ⟨.inl k.1, k.2⟩
   ·exact .inr ⟨.inr k.1, k.2⟩
  ·rintro (k | ⟨k | k, k2⟩)
   ·exact .inl (.inl k)
   ·exact .inl (.inr ⟨k, k2⟩)
   ·exact .inr ⟨k, k2⟩
end
end Go.Proofs.Lx

namespace Go.Proofs.Lx
open Go Go.RowKit Go.Proofs.Tj
set_option linter.unusedVariables false
section
variable {S : Stc} {B bt : Nat → List Nat} {fact : Nat → Bool} {D : Dyn} {g : Gs} {pc : Prc} {ex : Exc} {K : Nat → Nat → Prop}
theorem BI.plusDr (c : Ctx S B bt) (h : BI S B bt fact D g pc noE K) {r q : Nat} (hr : r < S.m) (hb : q ∈ B r) (hq : K q 1) (hd : ¬ pc.a1 r q) :
  ∃ g', BI S B bt fact (plusDr S D r) g' { pc with a1 := orP pc.a1 r q } noE K := by
 unfold Lx.plusDr; split
 ·next hs =>
  have hdf : g.d1 r q = false := by
   cases hx : g.d1 r q with
   | false => rfl
   | true => exact absurd ((h.ci.c1 r hr hs q hb).1 hx) hd
  have hne : ∀ a, a ≠ r → (decNeedD D r).needD a = D.needD a := fun a e => Tj.upd_ne e
  have h1 : BI S B bt fact (decNeedD D r) { g with d1 := or1 g.d1 r q } { pc with a1 := orP pc.a1 r q } { noE with e1 := fun x => x = r } K :=
   ⟨h.si.decNeedD c hr hb (h.kp _ _ hq) hdf, { h.ci with c1 := fun a ha hsa b hb2 => or1_iff (h.ci.c1 a ha hsa b hb2), x1 := fun a ha hsa he h0 => (by rw [hne a he] at h0; exact h.ci.x1 a ha hsa (fun k => k) h0) }, h.kp, h.k1, h.l1, h.l2⟩
  have h2 : BI S B bt fact (lowerS S D r) { g with d1 := or1 g.d1 r q } { pc with a1 := orP pc.a1 r q } { noE with e1 := fun x => x = r } K := h1.tickB r
  refine ⟨{ g with d1 := or1 g.d1 r q }, ?_⟩
  split
  ·next h0 =>
   have h3 := h2.tell (c.hd r hr) (by omega : 1 ≤ 1) (by omega) (.inr ⟨r, hr, rfl, hs, h2.si.needD0 hr hs h0⟩)
   refine ⟨h3.si, { h3.ci with x1 := fun a ha hsa _ h9 => ?_ }, h3.kp, h3.k1, h3.l1, h3.l2⟩
   by_cases e : a = r
   ·rw [e]; exact HT.self _ (by omega)
   ·exact h3.ci.x1 a ha hsa e h9
  ·next h0 =>
   refine ⟨h2.si, { h2.ci with x1 := fun a ha hsa _ h9 => h2.ci.x1 a ha hsa (fun e => h0 (by have e : a = r := e; rw [e] at h9; exact h9)) h9 }, h2.kp, h2.k1, h2.l1, h2.l2⟩
 ·next hs =>
  refine ⟨g, h.si, { h.ci with c1 := fun a ha hsa b hb2 => ?_ }, h.kp, h.k1, h.l1, h.l2⟩
  rw [h.ci.c1 a ha hsa b hb2]
  exact ⟨.inl, fun k => k.elim id fun k => absurd (by rw [← k.1]; exact hsa) hs⟩
theorem BI.plusDrs (c : Ctx S B bt) {q : Nat} (hq : K q 1) : ∀ (l : List Nat) {D : Dyn} {g : Gs} {pc : Prc}, BI S B bt fact D g pc noE K → l.Nodup → (∀ r ∈ l, r < S.m ∧ q ∈ B r ∧ ¬ pc.a1 r q) →
  ∃ g' a, BI S B bt fact (l.foldl (Lx.plusDr S) D) g' { pc with a1 := a } noE K ∧ ∀ x y, a x y ↔ pc.a1 x y ∨ (x ∈ l ∧ y = q)
 | [], D, g, pc, h, _, _ => ⟨g, pc.a1, h, fun x y => by simp⟩
 | r :: l, D, g, pc, h, hn, hl => by
  rw [List.nodup_cons] at hn
  obtain ⟨hr, hb, hd⟩ := hl r List.mem_cons_self
  obtain ⟨g1, h0⟩ := h.plusDr c hr hb hq hd
  obtain ⟨g', a, h1, h2⟩ := BI.plusDrs c hq l h0 hn.2 (fun x hx => by
   obtain ⟨k1, k2, k3⟩ := hl x (List.mem_cons_of_mem _ hx)
   exact ⟨k1, k2, fun k => k.elim k3 fun k => hn.1 (k.1 ▸ hx)⟩)
  refine ⟨g', a, h1, fun x y => ?_⟩
  rw [h2 x y, List.mem_cons]
  show (pc.a1 x y ∨ (x = r ∧ y = q)) ∨ _ ↔ _
  constructor
  ·rintro ((k | k) | k)
   ·exact .inl k
   ·exact .inr ⟨.inl k.1, k.2⟩
   ·exact .inr ⟨.inr k.1, k.2⟩
  ·rintro (k | ⟨k | k, k2⟩)
   ·exact .inl (.inl k)
   ·exact .inl (.inr ⟨k, k2⟩)
   ·exact .inr ⟨k, k2⟩
theorem SI.backs_nn (h : SI S B bt fact D g) {q : Nat} (hq : q < S.n) : 0 ≤ D.backs q := by rw [h.bk q hq]; omega
theorem BI.clash1 (c : Ctx S B bt) (h : BI S B bt fact D g pc noE K) {f q : Nat} (hf : f < S.n) (hqf : q ∈ S.foes f) (hq : K q 1) : BI S B bt fact (clashD D f) g { pc with aC := orP pc.aC f q } noE K := by
 unfold clashD; split
 ·next hc =>
  have hne : ∀ a, a ≠ f → (setClash D f).clash a = D.clash a := fun a e => Tj.upd_ne e
  have hs : (setClash D f).clash f = true := Tj.upd_same _ _ _
  have h1 : BI S B bt fact (setClash D f) g { pc with aC := orP pc.aC f q } { noE with e8 := fun x => x = f } K := by
   refine ⟨h.si.setClash hqf (h.kp _ _ hq), { h.ci with cC := fun a ha hb x hx k => ?_, x8 := fun a ha he hl hc => ?_ }, h.kp, h.k1, h.l1, h.l2⟩
   ·by_cases e : a = f
    ·rw [e]; exact hs
    ·rw [hne a e]; exact h.ci.cC a ha hb x hx (k.elim id fun k => absurd k.1 e)
   ·rw [hne a he] at hc; exact h.ci.x8 a ha (fun k => k) hl hc
  exact ((h1.tick 1).look c hf).weak ⟨fun _ k => k, fun _ k => k, fun _ k => k, fun _ k => k, fun _ _ k => k, fun _ k => k, fun _ k => k.1, fun _ k => k.2 k.1, fun _ _ k => k, fun _ k => k⟩
 ·next hc =>
  refine ⟨h.si, { h.ci with cC := fun a ha hb x hx k => ?_ }, h.kp, h.k1, h.l1, h.l2⟩
  rcases k with k | k
  ·exact h.ci.cC a ha hb x hx k
  ·have e : a = f := k.1
   subst e
   unfold clashB at hc
   simp only [Bool.and_eq_true, decide_eq_true_eq, Bool.not_eq_true', not_and, Bool.not_eq_false] at hc
   exact hc (by have := h.si.backs_nn ha; omega)
theorem BI.clashs (c : Ctx S B bt) {q : Nat} (hq : K q 1) : ∀ (l : List Nat) {D : Dyn} {pc : Prc}, BI S B bt fact D g pc noE K → (∀ f ∈ l, f < S.n ∧ q ∈ S.foes f) →
  ∃ a, BI S B bt fact (l.foldl clashD D) g { pc with aC := a } noE K ∧ ∀ x y, a x y ↔ pc.aC x y ∨ (x ∈ l ∧ y = q)
 | [], D, pc, h, _ => ⟨pc.aC, h, fun x y => by simp⟩
 | r :: l, D, pc, h, hl => by
  obtain ⟨hr, hb⟩ := hl r List.mem_cons_self
  obtain ⟨a, h1, h2⟩ := BI.clashs c hq l (h.clash1 c hr hb hq) (fun x hx => hl x (List.mem_cons_of_mem _ hx))
  refine ⟨a, h1, fun x y => ?_⟩
  rw [h2 x y, List.mem_cons]
  show (pc.aC x y ∨ (x = r ∧ y = q)) ∨ _ ↔ _
  constructor
  ·rintro ((k | k) | k)
   ·exact .inl k
   ·exact .inr ⟨.inl k.1, k.2⟩
   ·exact .inr ⟨.inr k.1, k.2⟩
  ·rintro (k | ⟨k | k, k2⟩)
   ·exact .inl (.inl k)
   ·exact .inl (.inr ⟨k, k2⟩)
   ·exact .inr ⟨k, k2⟩
/-- The last look of an event on D tags. -/
theorem BI.last1 (c : Ctx S B bt) (h : BI S B bt fact D g pc noE K) {q : Nat} (hq : q < S.n) (hk : K q 1) : BI S B bt fact (lookD D q) g { pc with l1 := fun x => pc.l1 x ∨ x = q } noE K := by
 have h1 : BI S B bt fact D g { pc with l1 := fun x => pc.l1 x ∨ x = q } { noE with e7 := fun x => x = q } K :=
  ⟨h.si, { h.ci with x7 := fun a ha he hc => h.ci.x7 a ha (fun k => k) (hc.imp (fun k => k.elim id fun e => absurd e he) id) }, h.kp, h.k1, fun x k => k.elim (h.l1 x) fun e => e ▸ hk, h.l2⟩
 exact (h1.look c hq).weak ⟨fun _ k => k, fun _ k => k, fun _ k => k, fun _ k => k, fun _ _ k => k, fun _ k => k, fun _ k => k.2 k.1, fun _ k => k.1, fun _ _ k => k, fun _ k => k⟩
theorem BI.last2 (c : Ctx S B bt) (h : BI S B bt fact D g pc noE K) {q : Nat} (hq : q < S.n) (hk : K q 2) : BI S B bt fact (lookD D q) g { pc with l2 := fun x => pc.l2 x ∨ x = q } noE K := by
 have h1 : BI S B bt fact D g { pc with l2 := fun x => pc.l2 x ∨ x = q } { noE with e8 := fun x => x = q } K :=
  ⟨h.si, { h.ci with x8 := fun a ha he hl hc => h.ci.x8 a ha (fun k => k) (hl.elim id fun e => absurd e he) hc }, h.kp, h.k1, h.l1, fun x k => k.elim (h.l2 x) fun e => e ▸ hk⟩
 exact (h1.look c hq).weak ⟨fun _ k => k, fun _ k => k, fun _ k => k, fun _ k => k, fun _ _ k => k, fun _ k => k, fun _ k => k.1, fun _ k => k.2 k.1, fun _ _ k => k, fun _ k => k⟩
theorem dec_tickB (S : Stc) (D : Dyn) (r h : Nat) : decStrict (tickB S D r) h = tickB S (decStrict D h) r := by
 unfold tickB; split <;> rfl
theorem BI.noDr (c : Ctx S B bt) (h : BI S B bt fact D g pc noE K) {r q : Nat} (hr : r < S.m) (hb : q ∈ B r) (hq : K q 2) : BI S B bt fact (noDr S D r) g { pc with a2 := orP pc.a2 r q } noE K := by
 unfold Lx.noDr; split
 ·next hg =>
  rw [Bool.and_eq_true] at hg
  obtain ⟨hs, hd⟩ := hg
  have hd : D.deadD r = false := by simpa using hd
  have hne : ∀ a, a ≠ r → (decStrict (setDeadD D r) (S.head r)).deadD a = D.deadD a := fun a e => Tj.upd_ne e
  have hsr : (decStrict (setDeadD D r) (S.head r)).deadD r = true := Tj.upd_same _ _ _
  have hst : ∀ a, a ≠ S.head r → (decStrict (setDeadD D r) (S.head r)).strict a = D.strict a := fun a e => Tj.upd_ne e
  have h1 : BI S B bt fact (decStrict (setDeadD D r) (S.head r)) g { pc with a2 := orP pc.a2 r q } { noE with e2 := fun x => x = S.head r } K := by
   refine ⟨h.si.killD c hr hs hb (h.kp _ _ hq) hd, { h.ci with c2 := fun a ha hsa b hb2 k => ?_, x2 := fun a ha he h0 => ?_ }, h.kp, h.k1, h.l1, h.l2⟩
   ·by_cases e : a = r
    ·rw [e]; exact hsr
    ·rw [hne a e]; exact h.ci.c2 a ha hsa b hb2 (k.elim id fun k => absurd k.1 e)
   ·rw [hst a he] at h0; exact h.ci.x2 a ha (fun k => k) h0
  have h2 : BI S B bt fact (Lx.tick (decStrict (killS S D r) (S.head r)) 1) g { pc with a2 := orP pc.a2 r q } { noE with e2 := fun x => x = S.head r } K := by
   unfold killS; rw [dec_tickB]; exact (h1.tickB r).tick 1
  generalize (Lx.tick (decStrict (killS S D r) (S.head r)) 1) = D2 at *
  unfold noDr2; split
  ·next h0 =>
   have h3 := h2.tell (c.hd r hr) (by omega : 1 ≤ 2) (by omega) (h2.si.strict0 (c.hd r hr) h0)
   refine ⟨h3.si, { h3.ci with x2 := fun a ha _ h9 => ?_ }, h3.kp, h3.k1, h3.l1, h3.l2⟩
   by_cases e : a = S.head r
   ·rw [e]; exact HT.self _ (by omega)
   ·exact h3.ci.x2 a ha e h9
  ·next h0 =>
   exact ⟨h2.si, { h2.ci with x2 := fun a ha _ h9 => h2.ci.x2 a ha (fun e => h0 (by have e : a = S.head r := e; rw [e] at h9; exact h9)) h9 }, h2.kp, h2.k1, h2.l1, h2.l2⟩
 ·next hg =>
  refine ⟨h.si, { h.ci with c2 := fun a ha hsa b hb2 k => ?_ }, h.kp, h.k1, h.l1, h.l2⟩
  rcases k with k | k
  ·exact h.ci.c2 a ha hsa b hb2 k
  ·have e : a = r := k.1
   subst e
   simpa [hsa] using hg
theorem BI.noDrs (c : Ctx S B bt) {q : Nat} (hq : K q 2) : ∀ (l : List Nat) {D : Dyn} {pc : Prc}, BI S B bt fact D g pc noE K → (∀ r ∈ l, r < S.m ∧ q ∈ B r) →
  ∃ a, BI S B bt fact (l.foldl (Lx.noDr S) D) g { pc with a2 := a } noE K ∧ ∀ x y, a x y ↔ pc.a2 x y ∨ (x ∈ l ∧ y = q)
 | [], D, pc, h, _ => ⟨pc.a2, h, fun x y => by simp⟩
 | r :: l, D, pc, h, hl => by
  obtain ⟨hr, hb⟩ := hl r List.mem_cons_self
  obtain ⟨a, h1, h2⟩ := BI.noDrs c hq l (h.noDr c hr hb hq) (fun x hx => hl x (List.mem_cons_of_mem _ hx))
  refine ⟨a, h1, fun x y => ?_⟩
  rw [h2 x y, List.mem_cons]
  show (pc.a2 x y ∨ (x = r ∧ y = q)) ∨ _ ↔ _
  constructor
  ·rintro ((k | k) | k)
   ·exact .inl k
   ·exact .inr ⟨.inl k.1, k.2⟩
   ·exact .inr ⟨.inr k.1, k.2⟩
  ·rintro (k | ⟨k | k, k2⟩)
   ·exact .inl (.inl k)
   ·exact .inl (.inr ⟨k, k2⟩)
   ·exact .inr ⟨k, k2⟩
theorem BI.open1 (c : Ctx S B bt) (h : BI S B bt fact D g pc noE K) {f q : Nat} (hf : f < S.n) (hqf : q ∈ S.foes f) (hq : K q 2) (hd : ¬ pc.aO f q) : ∃ g', BI S B bt fact (openD D f) g' { pc with aO := orP pc.aO f q } noE K := by
 unfold openD; split
 ·next hc =>
  have hdf : g.dO f q = false := by
   cases hx : g.dO f q with
   | false => rfl
   | true => exact absurd (h.ci.cOa f hf q hqf hx) hd
  have hne : ∀ a, a ≠ f → (decOpn D f).opn a = D.opn a := fun a e => Tj.upd_ne e
  have h1 : BI S B bt fact (decOpn D f) { g with dO := or1 g.dO f q } { pc with aO := orP pc.aO f q } { noE with e7 := fun x => x = f } K := by
   refine ⟨h.si.decOpn c hf hqf (h.kp _ _ hq) hdf, { h.ci with cOa := fun a ha x hx k => ?_, cOb := fun a ha hb x hx k => ?_, x7 := fun a ha he hc => ?_ }, h.kp, h.k1, h.l1, h.l2⟩
   ·exact (or1_of k).imp (h.ci.cOa a ha x hx) id
   ·show or1 g.dO f q a x = true
    rcases k with k | ⟨rfl, rfl⟩
    ·unfold or1; rw [h.ci.cOb a ha hb x hx k]; rfl
    ·exact or1_same _ _ _
   ·rw [hne a he] at hc; exact h.ci.x7 a ha (fun k => k) hc
  exact ⟨_, ((h1.tick 1).look c hf).weak ⟨fun _ k => k, fun _ k => k, fun _ k => k, fun _ k => k, fun _ _ k => k, fun _ k => k, fun _ k => k.2 k.1, fun _ k => k.1, fun _ _ k => k, fun _ k => k⟩⟩
 ·next hc =>
  refine ⟨g, h.si, { h.ci with cOa := fun a ha x hx k => .inl (h.ci.cOa a ha x hx k), cOb := fun a ha hb x hx k => ?_ }, h.kp, h.k1, h.l1, h.l2⟩
  rcases k with k | ⟨rfl, rfl⟩
  ·exact h.ci.cOb a ha hb x hx k
  ·exfalso
   apply hc
   unfold openB
   rcases hb with hb | hb
   ·have := h.si.backs_nn ha
    rw [decide_eq_true (by omega : 0 < D.backs a)]; rfl
   ·rw [hb]; simp
theorem BI.opens (c : Ctx S B bt) {q : Nat} (hq : K q 2) : ∀ (l : List Nat) {D : Dyn} {g : Gs} {pc : Prc}, BI S B bt fact D g pc noE K → l.Nodup → (∀ f ∈ l, f < S.n ∧ q ∈ S.foes f ∧ ¬ pc.aO f q) →
  ∃ g' a, BI S B bt fact (l.foldl openD D) g' { pc with aO := a } noE K ∧ ∀ x y, a x y ↔ pc.aO x y ∨ (x ∈ l ∧ y = q)
 | [], D, g, pc, h, _, _ => ⟨g, pc.aO, h, fun x y => by simp⟩
 | r :: l, D, g, pc, h, hn, hl => by
  rw [List.nodup_cons] at hn
  obtain ⟨hr, hb, hd⟩ := hl r List.mem_cons_self
  obtain ⟨g1, h0⟩ := h.open1 c hr hb hq hd
  obtain ⟨g', a, h1, h2⟩ := BI.opens c hq l h0 hn.2 (fun x hx => by
   obtain ⟨k1, k2, k3⟩ := hl x (List.mem_cons_of_mem _ hx)
   exact ⟨k1, k2, fun k => k.elim k3 fun k => hn.1 (k.1 ▸ hx)⟩)
  refine ⟨g', a, h1, fun x y => ?_⟩
  rw [h2 x y, List.mem_cons]
  show (pc.aO x y ∨ (x = r ∧ y = q)) ∨ _ ↔ _
  constructor
  ·rintro ((k | k) | k)
   ·exact .inl k
   ·exact .inr ⟨.inl k.1, k.2⟩
   ·exact .inr ⟨.inr k.1, k.2⟩
  ·rintro (k | ⟨k | k, k2⟩)
   ·exact .inl (.inl k)
   ·exact .inl (.inr ⟨k, k2⟩)
   ·exact .inr ⟨k, k2⟩
end
end Go.Proofs.Lx
