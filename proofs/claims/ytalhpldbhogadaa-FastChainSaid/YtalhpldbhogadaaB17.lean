/- Parts of the proof: Uc, Ud, Ue. The fast engine's plain law: what has been done between two events, and in the midst of one. No program in sight. No condition. -/
import Derived.Test.YtalhpldbhogadaaB16
namespace Go.Proofs.Lx
open Go Go.RowKit Go.Proofs.Tj
set_option linter.unusedVariables false
/-- What has been worked off: of a rule's body literals, of a literal's foes, of what was looked at. -/
structure Prc where
  a1 : Nat → Nat → Prop
  a2 : Nat → Nat → Prop
  a3 : Nat → Nat → Prop
  a4 : Nat → Nat → Prop
  aO : Nat → Nat → Prop
  aC : Nat → Nat → Prop
  l1 : Nat → Prop
  l2 : Nat → Prop
/-- What may still be wanting, in the midst of an event. -/
structure Exc where
  e1 : Nat → Prop
  e2 : Nat → Prop
  e3 : Nat → Prop
  e4 : Nat → Prop
  e5 : Nat → Nat → Prop
  e6 : Nat → Prop
  e7 : Nat → Prop
  e8 : Nat → Prop
  eL : Nat → Nat → Prop
  eB : Nat → Prop
def noE : Exc := ⟨fun _ => False, fun _ => False, fun _ => False, fun _ => False, fun _ _ => False, fun _ => False, fun _ => False, fun _ => False, fun _ _ => False, fun _ => False⟩
structure CI (S : Stc) (B : Nat → List Nat) (D : Dyn) (g : Gs) (pc : Prc) (ex : Exc) : Prop where
  c1 : ∀ r, r < S.m → strR S r = true → ∀ b ∈ B r, (g.d1 r b = true ↔ pc.a1 r b)
  c3 : ∀ r, r < S.m → ∀ b ∈ B r, (g.d3 r b = true ↔ pc.a3 r b)
  c2 : ∀ r, r < S.m → strR S r = true → ∀ b ∈ B r, pc.a2 r b → D.deadD r = true
  c4 : ∀ r, r < S.m → ∀ b ∈ B r, pc.a4 r b → D.dead r = true
  cOa : ∀ f, f < S.n → ∀ q ∈ S.foes f, g.dO f q = true → pc.aO f q
  cOb : ∀ f, f < S.n → (D.backs f ≠ 0 ∨ D.backed f = true) → ∀ q ∈ S.foes f, pc.aO f q → g.dO f q = true
  cL : ∀ t, t < S.m → ∀ p ∈ S.beats t, ¬ ex.eL t p → (g.dL t p = true ↔ D.dead t = true)
  cB : ∀ r, r < S.m → supR S r = true → ¬ ex.eB r → (g.dB r = true ↔ D.dead r = true)
  cC : ∀ f, f < S.n → D.backs f ≠ 0 → ∀ q ∈ S.foes f, pc.aC f q → D.clash f = true
  x1 : ∀ r, r < S.m → strR S r = true → ¬ ex.e1 r → D.needD r = 0 → HT D (S.head r) 1
  x2 : ∀ q, q < S.n → ¬ ex.e2 q → D.strict q = 0 → HT D q 2
  x3 : ∀ r, r < S.m → supR S r = true → ¬ ex.e3 r → D.need r = 0 → D.backed (S.head r) = true
  x4 : ∀ p, p < S.P → ¬ ex.e4 p → D.dead (S.ps p) = true → D.settled p = true
  x5 : ∀ t, t < S.m → ∀ p ∈ S.beats t, ¬ ex.e5 t p → D.need t = 0 → D.settled p = true
  x6 : ∀ p, p < S.P → ¬ ex.e6 p → D.need (S.ps p) = 0 → D.left p = 0 → D.standing (S.pq p) = true
  x7 : ∀ q, q < S.n → ¬ ex.e7 q → (pc.l1 q ∨ (D.backed q = true ∧ D.opn q = 0 ∧ D.attacks q = 0)) → HT D q 3
  x8 : ∀ q, q < S.n → ¬ ex.e8 q → pc.l2 q → (D.backs q = 0 ∨ D.clash q = true ∨ D.standing q = true) → HT D q 4
section
variable {S : Stc} {B bt : Nat → List Nat} {fact : Nat → Bool} {D : Dyn} {g : Gs} {pc : Prc} {ex : Exc}
/-- What follows alike. -/
theorem CI.marks (h : CI S B D g pc ex) {D' : Dyn} (hm : ∀ q t, 1 ≤ t → HT D q t → HT D' q t) (e : D' = { D with marks := D'.marks, told := D'.told, queued := D'.queued, upd := D'.upd }) : CI S B D' g pc ex := by
  have f1 : D'.needD = D.needD := by rw [e]
  have f2 : D'.need = D.need := by rw [e]
  have f3 : D'.deadD = D.deadD := by rw [e]
  have f4 : D'.dead = D.dead := by rw [e]
  have f5 : D'.strict = D.strict := by rw [e]
  have f6 : D'.backs = D.backs := by rw [e]
  have f7 : D'.backed = D.backed := by rw [e]
  have f8 : D'.opn = D.opn := by rw [e]
  have f9 : D'.clash = D.clash := by rw [e]
  have f10 : D'.attacks = D.attacks := by rw [e]
  have f11 : D'.standing = D.standing := by rw [e]
  have f12 : D'.settled = D.settled := by rw [e]
  have f13 : D'.left = D.left := by rw [e]
  refine ⟨h.c1, h.c3, ?_, ?_, h.cOa, ?_, ?_, ?_, ?_, ?_, ?_, ?_, ?_, ?_, ?_, ?_, ?_⟩
  · rw [f3]; exact h.c2
  · rw [f4]; exact h.c4
  · rw [f6, f7]; exact h.cOb
  · rw [f4]; exact h.cL
  · rw [f4]; exact h.cB
  · rw [f6, f9]; exact h.cC
  · rw [f1]; exact fun r a b c d => hm _ _ (by omega) (h.x1 r a b c d)
  · rw [f5]; exact fun r a b c => hm _ _ (by omega) (h.x2 r a b c)
  · rw [f2, f7]; exact h.x3
  · rw [f4, f12]; exact h.x4
  · rw [f2, f12]; exact h.x5
  · rw [f2, f13, f11]; exact h.x6
  · rw [f7, f8, f10]; exact fun r a b c => hm _ _ (by omega) (h.x7 r a b c)
  · rw [f6, f9, f11]; exact fun r a b c d => hm _ _ (by omega) (h.x8 r a b c d)
theorem tell_shape (D : Dyn) (q tag : Nat) : tellD D q tag = { D with marks := (tellD D q tag).marks, told := (tellD D q tag).told, queued := (tellD D q tag).queued, upd := (tellD D q tag).upd } := by
  by_cases h : hasT D q tag = true
  · rw [tell_has h]
  · unfold tellD; rw [if_neg h]
theorem CI.tell (h : CI S B D g pc ex) {q tag : Nat} (h1 : 1 ≤ tag) : CI S B (tellD D q tag) g pc ex := h.marks (fun q' t' k hk => HT.tell h1 k hk) (tell_shape D q tag)
theorem CI.tick (h : CI S B D g pc ex) (k : Int) : CI S B (tick D k) g pc ex := h.marks (fun q t _ hk => hk) rfl
theorem CI.upd (h : CI S B D g pc ex) (x : Int) : CI S B { D with upd := x } g pc ex := h.marks (fun q t _ hk => hk) rfl
theorem CI.tickB (h : CI S B D g pc ex) (r : Nat) : CI S B (tickB S D r) g pc ex := by
  unfold Lx.tickB; split
  · exact h.tick 1
  · exact h
/-- What was told is there. -/
theorem HT.self (D : Dyn) {q tag : Nat} (h1 : 1 ≤ tag) : HT (tellD D q tag) q tag := (hasT_tell h1 h1).2 (.inr ⟨rfl, rfl⟩)
theorem look_shape (D : Dyn) (q : Nat) : lookD D q = { D with marks := (lookD D q).marks, told := (lookD D q).told, queued := (lookD D q).queued, upd := (lookD D q).upd } := by
  have h1 : ∀ D, look1 D q = { D with marks := (look1 D q).marks, told := (look1 D q).told, queued := (look1 D q).queued, upd := (look1 D q).upd } := fun D => by
    unfold look1; split
    · exact tell_shape D q 3
    · rfl
  have h2 : ∀ D, look2 D q = { D with marks := (look2 D q).marks, told := (look2 D q).told, queued := (look2 D q).queued, upd := (look2 D q).upd } := fun D => by
    unfold look2; split
    · exact tell_shape D q 4
    · rfl
  unfold lookD
  conv => lhs; rw [h2 (look1 D q)]
  generalize (look2 (look1 D q) q) = E
  rw [h1 D]
theorem HT.look {D : Dyn} {q q' t' : Nat} (ht : 1 ≤ t') (h : HT D q' t') : HT (lookD D q) q' t' := by
  have h1 : HT (look1 D q) q' t' := by
    unfold look1; split
    · exact HT.tell (by omega) ht h
    · exact h
  unfold lookD look2; split
  · exact HT.tell (by omega) ht h1
  · exact h1
theorem look_three {D : Dyn} {q : Nat} (h : lookA D q = true) : HT (lookD D q) q 3 := by
  have h1 : HT (look1 D q) q 3 := by unfold look1; rw [if_pos h]; exact HT.self D (by omega)
  unfold lookD look2; split
  · exact HT.tell (by omega) (by omega) h1
  · exact h1
theorem look1_B {D : Dyn} {q : Nat} (h : lookB D q = true) : lookB (look1 D q) q = true := by
  unfold look1; split
  · rw [tell_shape D q 3]
    unfold lookB at h ⊢
    simp only [Bool.and_eq_true] at h ⊢
    exact ⟨HT.tell (q := q) (tag := 3) (by omega) (by omega) h.1, h.2⟩
  · exact h
theorem look_four {D : Dyn} {q : Nat} (h : lookB D q = true) : HT (lookD D q) q 4 := by
  unfold lookD look2; rw [if_pos (look1_B h)]; exact HT.self _ (by omega)
/-- A look makes good what was wanting at its literal. -/
theorem CI.look (h : CI S B D g pc ex) {q : Nat} (hl1 : pc.l1 q → HT D q 1) (hl2 : pc.l2 q → HT D q 2) :
    CI S B (lookD D q) g pc { ex with e7 := fun x => ex.e7 x ∧ x ≠ q, e8 := fun x => ex.e8 x ∧ x ≠ q } := by
  have h0 := h.marks (fun q' t' k hk => HT.look (q := q) k hk) (look_shape D q)
  have f6 : (lookD D q).backs = D.backs := by rw [look_shape]
  have f7 : (lookD D q).backed = D.backed := by rw [look_shape]
  have f8 : (lookD D q).opn = D.opn := by rw [look_shape]
  have f9 : (lookD D q).clash = D.clash := by rw [look_shape]
  have f10 : (lookD D q).attacks = D.attacks := by rw [look_shape]
  have f11 : (lookD D q).standing = D.standing := by rw [look_shape]
  refine { h0 with x7 := fun a ha hn hc => ?_, x8 := fun a ha hn hl hc => ?_ }
  · by_cases e : a = q
    · subst e
      refine look_three ?_
      rw [f7, f8, f10] at hc
      unfold lookA
      rcases hc with hc | ⟨a1, a2, a3⟩
      · rw [show hasT D a 1 = true from hl1 hc]; rfl
      · rw [a1, a2, a3]; simp
    · exact h0.x7 a ha (fun k => hn ⟨k, e⟩) hc
  · by_cases e : a = q
    · subst e
      refine look_four ?_
      rw [f6, f9, f11] at hc
      unfold lookB
      rw [show hasT D a 2 = true from hl2 hl]
      rcases hc with hc | hc | hc
      · rw [hc]; simp
      · rw [hc]; simp
      · rw [hc]; simp
    · exact h0.x8 a ha (fun k => hn ⟨k, e⟩) hl hc
/-- Fewer things done, more wanting: weaker. -/
theorem CI.weaken (h : CI S B D g pc ex) {ex' : Exc} (h1 : ∀ x, ex.e1 x → ex'.e1 x) (h2 : ∀ x, ex.e2 x → ex'.e2 x) (h3 : ∀ x, ex.e3 x → ex'.e3 x) (h4 : ∀ x, ex.e4 x → ex'.e4 x) (h5 : ∀ x y, ex.e5 x y → ex'.e5 x y) (h6 : ∀ x, ex.e6 x → ex'.e6 x) (h7 : ∀ x, ex.e7 x → ex'.e7 x) (h8 : ∀ x, ex.e8 x → ex'.e8 x) (hL : ∀ x y, ex.eL x y → ex'.eL x y) (hB : ∀ x, ex.eB x → ex'.eB x) : CI S B D g pc ex' :=
  ⟨h.c1, h.c3, h.c2, h.c4, h.cOa, h.cOb, fun t a p b c => h.cL t a p b fun k => c (hL _ _ k), fun r a b c => h.cB r a b fun k => c (hB _ k), h.cC, fun r a b c => h.x1 r a b fun k => c (h1 _ k), fun r a b => h.x2 r a fun k => b (h2 _ k), fun r a b c => h.x3 r a b fun k => c (h3 _ k), fun r a b => h.x4 r a fun k => b (h4 _ k), fun r a b c d => h.x5 r a b c fun k => d (h5 _ _ k), fun r a b => h.x6 r a fun k => b (h6 _ k), fun r a b => h.x7 r a fun k => b (h7 _ k), fun r a b => h.x8 r a fun k => b (h8 _ k)⟩
end
end Go.Proofs.Lx

namespace Go.Proofs.Lx
open Go Go.RowKit Go.Proofs.Tj
set_option linter.unusedVariables false
/-- Both at once, and the tags that are known to stay. -/
structure BI (S : Stc) (B bt : Nat → List Nat) (fact : Nat → Bool) (D : Dyn) (g : Gs) (pc : Prc) (ex : Exc) (K : Nat → Nat → Prop) : Prop where
  si : SI S B bt fact D g
  ci : CI S B D g pc ex
  kp : ∀ q t, K q t → HT D q t
  k1 : ∀ q t, K q t → 1 ≤ t
  l1 : ∀ q, pc.l1 q → K q 1
  l2 : ∀ q, pc.l2 q → K q 2
section
variable {S : Stc} {B bt : Nat → List Nat} {fact : Nat → Bool} {D : Dyn} {g : Gs} {pc : Prc} {ex : Exc} {K : Nat → Nat → Prop}
theorem BI.tell (h : BI S B bt fact D g pc ex K) {q tag : Nat} (hq : q < S.n) (h1 : 1 ≤ tag) (h4 : tag ≤ 4) (hv : CN S B bt fact (HT D) tag q) : BI S B bt fact (tellD D q tag) g pc ex K :=
  ⟨h.si.tell hq h1 h4 hv, h.ci.tell h1, fun q' t' k => HT.tell h1 (h.k1 _ _ k) (h.kp _ _ k), h.k1, h.l1, h.l2⟩
theorem BI.look (c : Ctx S B bt) (h : BI S B bt fact D g pc ex K) {q : Nat} (hq : q < S.n) : BI S B bt fact (lookD D q) g pc { ex with e7 := fun x => ex.e7 x ∧ x ≠ q, e8 := fun x => ex.e8 x ∧ x ≠ q } K :=
  ⟨h.si.look c hq, h.ci.look (fun k => h.kp _ _ (h.l1 _ k)) (fun k => h.kp _ _ (h.l2 _ k)), fun q' t' k => HT.look (h.k1 _ _ k) (h.kp _ _ k), h.k1, h.l1, h.l2⟩
theorem BI.tick (h : BI S B bt fact D g pc ex K) (k : Int) : BI S B bt fact (tick D k) g pc ex K := ⟨h.si.tick k, h.ci.tick k, h.kp, h.k1, h.l1, h.l2⟩
theorem BI.upd (h : BI S B bt fact D g pc ex K) (x : Int) : BI S B bt fact { D with upd := x } g pc ex K := ⟨h.si.upd x, h.ci.upd x, h.kp, h.k1, h.l1, h.l2⟩
theorem BI.tickB (h : BI S B bt fact D g pc ex K) (r : Nat) : BI S B bt fact (tickB S D r) g pc ex K := by
  unfold Lx.tickB; split
  · exact h.tick 1
  · exact h
/-- Weaker, by one word. -/
def Exc.le (a b : Exc) : Prop := (∀ x, a.e1 x → b.e1 x) ∧ (∀ x, a.e2 x → b.e2 x) ∧ (∀ x, a.e3 x → b.e3 x) ∧ (∀ x, a.e4 x → b.e4 x) ∧ (∀ x y, a.e5 x y → b.e5 x y) ∧ (∀ x, a.e6 x → b.e6 x) ∧ (∀ x, a.e7 x → b.e7 x) ∧ (∀ x, a.e8 x → b.e8 x) ∧ (∀ x y, a.eL x y → b.eL x y) ∧ (∀ x, a.eB x → b.eB x)
theorem BI.weak (h : BI S B bt fact D g pc ex K) {ex' : Exc} (hl : ex.le ex') : BI S B bt fact D g pc ex' K :=
  ⟨h.si, h.ci.weaken hl.1 hl.2.1 hl.2.2.1 hl.2.2.2.1 hl.2.2.2.2.1 hl.2.2.2.2.2.1 hl.2.2.2.2.2.2.1 hl.2.2.2.2.2.2.2.1 hl.2.2.2.2.2.2.2.2.1 hl.2.2.2.2.2.2.2.2.2, h.kp, h.k1, h.l1, h.l2⟩
/-- A pair is settled: what stays. -/
theorem CI.settle0 (h : CI S B D g pc ex) {p : Nat} : CI S B (decAttacks (setSettled D p) (S.pq p)) g pc { ex with e4 := fun x => ex.e4 x ∧ x ≠ p, e5 := fun t x => ex.e5 t x ∧ x ≠ p, e7 := fun x => ex.e7 x ∨ x = S.pq p } := by
  refine { h with x4 := fun a ha hn hd => ?_, x5 := fun t ht a ha hn hd => ?_, x7 := fun a ha hn hc => ?_ }
  · show Tj.upd D.settled p true a = true
    by_cases e : a = p
    · rw [e, Tj.upd_same]
    · rw [Tj.upd_ne e]; exact h.x4 a ha (fun k => hn ⟨k, e⟩) hd
  · show Tj.upd D.settled p true a = true
    by_cases e : a = p
    · rw [e, Tj.upd_same]
    · rw [Tj.upd_ne e]; exact h.x5 t ht a ha (fun k => hn ⟨k, e⟩) hd
  · have e : a ≠ S.pq p := fun e => hn (.inr e)
    refine h.x7 a ha (fun k => hn (.inl k)) (hc.imp id fun ⟨x, y, z⟩ => ⟨x, y, ?_⟩)
    have z : Tj.upd D.attacks (S.pq p) _ a = 0 := z
    rw [Tj.upd_ne e] at z; exact z
theorem BI.settle (c : Ctx S B bt) (h : BI S B bt fact D g pc ex K) {p : Nat} (hp : p < S.P)
    (hw : (∃ b ∈ B (S.ps p), HT D b 4) ∨ ∃ t, t < S.m ∧ S.head t = S.pq p ∧ supR S t = true ∧ S.ps p ∈ bt t ∧ ∀ b ∈ B t, HT D b 3) :
    BI S B bt fact (settleD S D p) g pc { ex with e4 := fun x => ex.e4 x ∧ x ≠ p, e5 := fun t x => ex.e5 t x ∧ x ≠ p } K := by
  unfold settleD; split
  · next hs =>
    refine ⟨h.si, { h.ci with x4 := fun a ha hn hd => ?_, x5 := fun t ht a ha hn hd => ?_ }, h.kp, h.k1, h.l1, h.l2⟩
    · by_cases e : a = p
      · rw [e]; exact hs
      · exact h.ci.x4 a ha (fun k => hn ⟨k, e⟩) hd
    · by_cases e : a = p
      · rw [e]; exact hs
      · exact h.ci.x5 t ht a ha (fun k => hn ⟨k, e⟩) hd
  · next hs =>
    have h1 : BI S B bt fact (decAttacks (setSettled D p) (S.pq p)) g pc _ K := ⟨h.si.settle0 c hp (by simpa using hs) hw, h.ci.settle0 (p := p), h.kp, h.k1, h.l1, h.l2⟩
    refine ((h1.tick 2).look c (c.pqn p hp)).weak ⟨fun _ k => k, fun _ k => k, fun _ k => k, fun _ k => k, fun _ _ k => k, fun _ k => k, fun x k => ?_, fun x k => k.1, fun _ _ k => k, fun _ k => k⟩
    rcases k with ⟨k | k, k2⟩
    · exact k
    · exact absurd k k2
/-- A rule for a foe stands, or does not yet. -/
theorem BI.stand (c : Ctx S B bt) (h : BI S B bt fact D g pc ex K) {p : Nat} (hp : p < S.P) : BI S B bt fact (standD S D p) g pc { ex with e6 := fun x => ex.e6 x ∧ x ≠ p } K := by
  unfold standD; split
  · next hs =>
    unfold standB at hs
    simp only [Bool.and_eq_true, beq_iff_eq] at hs
    obtain ⟨⟨hn, hl⟩, _⟩ := hs
    have h1 : BI S B bt fact (setStanding D (S.pq p)) g pc { ex with e6 := fun x => ex.e6 x ∧ x ≠ p, e8 := fun x => ex.e8 x ∨ x = S.pq p } K := by
      refine ⟨h.si.setStanding (h.si.stands c hp hn hl), { h.ci with x6 := fun a ha he h1 h2 => ?_, x8 := fun a ha he hl hc => ?_ }, h.kp, h.k1, h.l1, h.l2⟩
      · show Tj.upd D.standing (S.pq p) true (S.pq a) = true
        by_cases e : S.pq a = S.pq p
        · rw [e, Tj.upd_same]
        · rw [Tj.upd_ne e]; exact h.ci.x6 a ha (fun k => he ⟨k, fun e2 => e (by rw [e2])⟩) h1 h2
      · have e : a ≠ S.pq p := fun e => he (.inr e)
        refine h.ci.x8 a ha (fun k => he (.inl k)) hl (hc.imp id fun hc => hc.imp id fun z => ?_)
        have z : Tj.upd D.standing (S.pq p) true a = true := z
        rw [Tj.upd_ne e] at z; exact z
    refine ((h1.tick 1).look c (c.pqn p hp)).weak ⟨fun _ k => k, fun _ k => k, fun _ k => k, fun _ k => k, fun _ _ k => k, fun _ k => k, fun x k => k.1, fun x k => ?_, fun _ _ k => k, fun _ k => k⟩
    rcases k with ⟨k | k, k2⟩
    · exact k
    · exact absurd k k2
  · next hs =>
    refine ⟨h.si, { h.ci with x6 := fun a ha he h1 h2 => ?_ }, h.kp, h.k1, h.l1, h.l2⟩
    by_cases e : a = p
    · subst e
      unfold standB at hs
      rw [h1, h2] at hs
      simpa using hs
    · exact h.ci.x6 a ha (fun k => he ⟨k, e⟩) h1 h2
theorem BI.settles (c : Ctx S B bt) : ∀ (l : List Nat) {D : Dyn} {ex : Exc}, BI S B bt fact D g pc ex K → (∀ p ∈ l, p < S.P) →
    (∀ p ∈ l, (∃ b ∈ B (S.ps p), K b 4) ∨ ∃ t, t < S.m ∧ S.head t = S.pq p ∧ supR S t = true ∧ S.ps p ∈ bt t ∧ ∀ b ∈ B t, K b 3) →
    BI S B bt fact (l.foldl (settleD S) D) g pc { ex with e4 := fun x => ex.e4 x ∧ x ∉ l, e5 := fun t x => ex.e5 t x ∧ x ∉ l } K
  | [], D, ex, h, _, _ => h.weak ⟨fun _ k => k, fun _ k => k, fun _ k => k, fun _ k => ⟨k, by simp⟩, fun _ _ k => ⟨k, by simp⟩, fun _ k => k, fun _ k => k, fun _ k => k, fun _ _ k => k, fun _ k => k⟩
  | p :: l, D, ex, h, hp, hw => by
    have h1 := h.settle c (hp p List.mem_cons_self) ((hw p List.mem_cons_self).imp (fun ⟨b, a, k⟩ => ⟨b, a, h.kp _ _ k⟩) fun ⟨t, a, b, d, e, f⟩ => ⟨t, a, b, d, e, fun b hb => h.kp _ _ (f b hb)⟩)
    refine (BI.settles c l h1 (fun x hx => hp x (List.mem_cons_of_mem _ hx)) (fun x hx => hw x (List.mem_cons_of_mem _ hx))).weak ⟨fun _ k => k, fun _ k => k, fun _ k => k, fun x k => ⟨k.1.1, ?_⟩, fun t x k => ⟨k.1.1, ?_⟩, fun _ k => k, fun _ k => k, fun _ k => k, fun _ _ k => k, fun _ k => k⟩
    · rw [List.mem_cons, not_or]; exact ⟨k.1.2, k.2⟩
    · rw [List.mem_cons, not_or]; exact ⟨k.1.2, k.2⟩
theorem BI.stands (c : Ctx S B bt) : ∀ (l : List Nat) {D : Dyn} {ex : Exc}, BI S B bt fact D g pc ex K → (∀ p ∈ l, p < S.P) → BI S B bt fact (l.foldl (standD S) D) g pc { ex with e6 := fun x => ex.e6 x ∧ x ∉ l } K
  | [], D, ex, h, _ => h.weak ⟨fun _ k => k, fun _ k => k, fun _ k => k, fun _ k => k, fun _ _ k => k, fun _ k => ⟨k, by simp⟩, fun _ k => k, fun _ k => k, fun _ _ k => k, fun _ k => k⟩
  | p :: l, D, ex, h, hp => by
    have h1 := h.stand c (hp p List.mem_cons_self)
    refine (BI.stands c l h1 (fun x hx => hp x (List.mem_cons_of_mem _ hx))).weak ⟨fun _ k => k, fun _ k => k, fun _ k => k, fun _ k => k, fun _ _ k => k, fun x k => ⟨k.1.1, ?_⟩, fun _ k => k, fun _ k => k, fun _ _ k => k, fun _ k => k⟩
    rw [List.mem_cons, not_or]; exact ⟨k.1.2, k.2⟩
/-- A rule that is whole has its head's counter above zero. -/
theorem SI.backs_ne (h : SI S B bt fact D g) (hco : ∀ b, ¬ (HT D b 3 ∧ HT D b 4)) (c : Ctx S B bt) {r : Nat} (hr : r < S.m) (hs : supR S r = true) (hw : ∀ b ∈ B r, HT D b 3) : D.backs (S.head r) ≠ 0 := fun h0 => by
  rw [h.bk _ (c.hd r hr)] at h0
  have hz := countP_zero (by unfold cBk at h0; omega : (List.range S.m).countP (fun x => supR S x && decide (S.head x = S.head r) && !g.dB x) = 0) (List.mem_range.2 hr)
  obtain ⟨b, hb, hb4⟩ := h.k r hr (h.bkh r hr (by simpa [hs] using hz))
  exact hco b ⟨hw b hb, hb4⟩
theorem BI.backed (c : Ctx S B bt) (h : BI S B bt fact D g pc ex K) (hco : ∀ b, ¬ (HT D b 3 ∧ HT D b 4)) {r : Nat} (hr : r < S.m) (hs : supR S r = true) (hw : ∀ b ∈ B r, HT D b 3) :
    BI S B bt fact (setBacked D (S.head r)) g pc { ex with e3 := fun x => ex.e3 x ∧ S.head x ≠ S.head r, e7 := fun x => ex.e7 x ∨ x = S.head r } K := by
  have hne := h.si.backs_ne hco c hr hs hw
  have hup : ∀ a, a ≠ S.head r → (setBacked D (S.head r)).backed a = D.backed a := fun a e => Tj.upd_ne e
  refine ⟨h.si.setBacked hr hs hw, { h.ci with cOb := fun f hf hc => ?_, x3 := fun a ha hsa he h0 => ?_, x7 := fun a ha he hc => ?_ }, h.kp, h.k1, h.l1, h.l2⟩
  · refine h.ci.cOb f hf ?_
    by_cases e : f = S.head r
    · rw [e]; exact .inl hne
    · rw [hup f e] at hc; exact hc
  · show Tj.upd D.backed (S.head r) true (S.head a) = true
    by_cases e : S.head a = S.head r
    · rw [e, Tj.upd_same]
    · rw [Tj.upd_ne e]; exact h.ci.x3 a ha hsa (fun k => he ⟨k, e⟩) h0
  · have e : a ≠ S.head r := fun e => he (.inr e)
    rw [hup a e] at hc
    exact h.ci.x7 a ha (fun k => he (.inl k)) hc
end
end Go.Proofs.Lx

namespace Go.Proofs.Lx
open Go Go.RowKit Go.Proofs.Tj
set_option linter.unusedVariables false
def orP (P : Nat → Nat → Prop) (r q : Nat) : Nat → Nat → Prop := fun a b => P a b ∨ (a = r ∧ b = q)
theorem or1_iff {d : Nat → Nat → Bool} {P : Nat → Nat → Prop} {r q a b : Nat} (h : d a b = true ↔ P a b) : or1 d r q a b = true ↔ orP P r q a b := by
  unfold or1 orP
  rw [Bool.or_eq_true, h, Bool.and_eq_true, decide_eq_true_iff, decide_eq_true_iff]
section
variable {S : Stc} {B bt : Nat → List Nat} {fact : Nat → Bool} {D : Dyn} {g : Gs} {pc : Prc} {ex : Exc} {K : Nat → Nat → Prop}
theorem BI.moreK (h : BI S B bt fact D g pc ex K) (K' : Nat → Nat → Prop) (hK : ∀ q t, K' q t → HT D q t ∧ 1 ≤ t) : BI S B bt fact D g pc ex (fun q t => K q t ∨ K' q t) :=
  ⟨h.si, h.ci, fun q t k => k.elim (h.kp q t) fun k => (hK q t k).1, fun q t k => k.elim (h.k1 q t) fun k => (hK q t k).2, fun q k => .inl (h.l1 q k), fun q k => .inl (h.l2 q k)⟩
theorem BI.lessK {K' : Nat → Nat → Prop} (h : BI S B bt fact D g pc ex K') (hK : ∀ q t, K q t → K' q t) (h1 : ∀ q, pc.l1 q → K q 1) (h2 : ∀ q, pc.l2 q → K q 2) : BI S B bt fact D g pc ex K :=
  ⟨h.si, h.ci, fun q t k => h.kp q t (hK q t k), fun q t k => h.k1 q t (hK q t k), h1, h2⟩
theorem BI.fire (c : Ctx S B bt) (hco : ∀ D' g', SI S B bt fact D' g' → ∀ b, ¬ (HT D' b 3 ∧ HT D' b 4)) (h : BI S B bt fact D g pc ex K) {r : Nat} (hr : r < S.m) (h0 : D.need r = 0) :
    BI S B bt fact (fireD S D r) g pc { ex with e3 := fun x => ex.e3 x ∧ x ≠ r, e5 := fun t x => ex.e5 t x ∧ t ≠ r, e6 := fun x => ex.e6 x ∧ S.ps x ≠ r } K := by
  have hw := h.si.need0 hr h0
  have hbp : ∀ p ∈ S.beats r, p < S.P := fun p hp => ((c.bts r hr p).1 hp).2.1
  have hop : ∀ p ∈ S.ofs r, p < S.P := fun p hp => ((c.ofs r hr p).1 hp).1
  have hmid : BI S B bt fact (fire1 S D r) g pc { ex with e3 := fun x => ex.e3 x ∧ x ≠ r, e5 := fun t x => ex.e5 t x ∧ t ≠ r } K := by
    unfold fire1; split
    · next hs =>
      have h1 : BI S B bt fact (if D.backed (S.head r) = true then D else Lx.tick (setBacked D (S.head r)) 1) g pc { ex with e3 := fun x => ex.e3 x ∧ S.head x ≠ S.head r, e7 := fun x => ex.e7 x ∨ x = S.head r } K := by
        split
        · next hb =>
          refine ⟨h.si, { h.ci with x3 := fun a ha hsa he h0 => ?_, x7 := fun a ha he => h.ci.x7 a ha fun k => he (.inl k) }, h.kp, h.k1, h.l1, h.l2⟩
          by_cases e : S.head a = S.head r
          · rw [e]; exact hb
          · exact h.ci.x3 a ha hsa (fun k => he ⟨k, e⟩) h0
        · exact (h.backed c (hco D g h.si) hr hs hw).tick 1
      have hw1 : ∀ b ∈ B r, HT (if D.backed (S.head r) = true then D else Lx.tick (setBacked D (S.head r)) 1) b 3 := by split <;> exact hw
      generalize (if D.backed (S.head r) = true then D else Lx.tick (setBacked D (S.head r)) 1) = D1 at *
      have h2 := BI.settles c (S.beats r) (h1.moreK (fun q t => q ∈ B r ∧ t = 3) (fun q t k => by rw [k.2]; exact ⟨hw1 q k.1, by omega⟩)) hbp (fun p hp => .inr ⟨r, hr, ((c.bts r hr p).1 hp).2.2.1.symm, hs, ((c.bts r hr p).1 hp).2.2.2, fun b hb => .inr ⟨hb, rfl⟩⟩)
      have h3 := (h2.look c (c.hd r hr)).lessK (K := K) (fun q t k => .inl k) h.l1 h.l2
      refine ⟨h3.si, { h3.ci with x3 := fun a ha hsa he => h3.ci.x3 a ha hsa fun k => he ⟨k.1, fun e => k.2 (by rw [e])⟩, x4 := fun p hp he => h3.ci.x4 p hp fun k => he k.1, x5 := fun t ht p hp he => h3.ci.x5 t ht p hp fun k => ?_, x7 := fun a ha he => h3.ci.x7 a ha fun k => ?_, x8 := fun a ha he => h3.ci.x8 a ha fun k => he k.1 }, h3.kp, h3.k1, h3.l1, h3.l2⟩
      · by_cases e : t = r
        · subst e; exact k.2 hp
        · exact he ⟨k.1, e⟩
      · rcases k with ⟨k | k, k2⟩
        · exact he k
        · exact k2 k
    · next hs =>
      refine ⟨h.si, { h.ci with x3 := fun a ha hsa he => h.ci.x3 a ha hsa fun k => he ⟨k, fun e => hs (by rw [← e]; exact hsa)⟩, x5 := fun t ht p hp he => h.ci.x5 t ht p hp fun k => he ⟨k, fun e => hs (by rw [← e]; exact ((c.bts t ht p).1 hp).1)⟩ }, h.kp, h.k1, h.l1, h.l2⟩
  unfold fireD
  have h4 := BI.stands c (S.ofs r) hmid hop
  refine ⟨h4.si, { h4.ci with x6 := fun p hp he => h4.ci.x6 p hp fun k => he ⟨k.1, fun e => k.2 ((c.ofs r hr p).2 ⟨hp, e⟩)⟩ }, h4.kp, h4.k1, h4.l1, h4.l2⟩
/-- A counter of +d goes down. -/
theorem BI.lowerN (c : Ctx S B bt) (h : BI S B bt fact D g pc noE K) {r q : Nat} (hr : r < S.m) (hb : q ∈ B r) (hq : K q 3) (hd : ¬ pc.a3 r q) :
    BI S B bt fact (lowerN S D r) { g with d3 := or1 g.d3 r q } { pc with a3 := orP pc.a3 r q } { noE with e3 := fun x => x = r, e5 := fun t _ => t = r, e6 := fun p => S.ps p = r } K := by
  have hdf : g.d3 r q = false := by
    cases hx : g.d3 r q with
    | false => rfl
    | true => exact absurd ((h.ci.c3 r hr q hb).1 hx) hd
  have hne : ∀ a, a ≠ r → (decNeed D r).need a = D.need a := fun a e => Tj.upd_ne e
  have h1 : BI S B bt fact (decNeed D r) { g with d3 := or1 g.d3 r q } { pc with a3 := orP pc.a3 r q } { noE with e3 := fun x => x = r, e5 := fun t _ => t = r, e6 := fun p => S.ps p = r } K := by
    refine ⟨h.si.decNeed c hr hb (h.kp _ _ hq) hdf, { h.ci with c3 := fun a ha b hb2 => or1_iff (h.ci.c3 a ha b hb2), x3 := fun a ha hs he h0 => ?_, x5 := fun t ht p hp he h0 => ?_, x6 := fun p hp he h0 hl => ?_ }, h.kp, h.k1, h.l1, h.l2⟩
    · rw [hne a he] at h0; exact h.ci.x3 a ha hs (fun k => k) h0
    · rw [hne t he] at h0; exact h.ci.x5 t ht p hp (fun k => k) h0
    · rw [hne _ he] at h0; exact h.ci.x6 p hp (fun k => k) h0 hl
  exact h1.tickB r
theorem lowerN_need (S : Stc) (D : Dyn) (r : Nat) : (lowerN S D r).need = (decNeed D r).need := by
  unfold lowerN tickB; split <;> rfl
theorem BI.plusr (c : Ctx S B bt) (hco : ∀ D' g', SI S B bt fact D' g' → ∀ b, ¬ (HT D' b 3 ∧ HT D' b 4)) (h : BI S B bt fact D g pc noE K) {r q : Nat} (hr : r < S.m) (hb : q ∈ B r) (hq : K q 3) (hd : ¬ pc.a3 r q) :
    BI S B bt fact (plusr S D r) { g with d3 := or1 g.d3 r q } { pc with a3 := orP pc.a3 r q } noE K := by
  have h1 := h.lowerN c hr hb hq hd
  unfold Lx.plusr; split
  · next h0 =>
    have h2 := h1.fire c hco hr h0
    exact h2.weak ⟨fun _ k => k, fun _ k => k, fun _ k => k.2 k.1, fun _ k => k, fun _ _ k => k.2 k.1, fun _ k => k.2 k.1, fun _ k => k, fun _ k => k, fun _ _ k => k, fun _ k => k⟩
  · next h0 =>
    refine ⟨h1.si, { h1.ci with x3 := fun a ha hs _ h9 => ?_, x5 := fun t ht p hp _ h9 => ?_, x6 := fun p hp _ h9 hl => ?_ }, h1.kp, h1.k1, h1.l1, h1.l2⟩
    · exact h1.ci.x3 a ha hs (fun e => h0 (by have e : a = r := e; rw [e] at h9; exact h9)) h9
    · exact h1.ci.x5 t ht p hp (fun e => h0 (by have e : t = r := e; rw [e] at h9; exact h9)) h9
    · exact h1.ci.x6 p hp (fun e => h0 (by have e : S.ps p = r := e; rw [e] at h9; exact h9)) h9 hl
theorem BI.plusrs (c : Ctx S B bt) (hco : ∀ D' g', SI S B bt fact D' g' → ∀ b, ¬ (HT D' b 3 ∧ HT D' b 4)) {q : Nat} (hq : K q 3) : ∀ (l : List Nat) {D : Dyn} {g : Gs} {pc : Prc}, BI S B bt fact D g pc noE K → l.Nodup → (∀ r ∈ l, r < S.m ∧ q ∈ B r ∧ ¬ pc.a3 r q) →
    ∃ g' a, BI S B bt fact (l.foldl (Lx.plusr S) D) g' { pc with a3 := a } noE K ∧ ∀ x y, a x y ↔ pc.a3 x y ∨ (x ∈ l ∧ y = q)
  | [], D, g, pc, h, _, _ => ⟨g, pc.a3, h, fun x y => by simp⟩
  | r :: l, D, g, pc, h, hn, hl => by
    rw [List.nodup_cons] at hn
    obtain ⟨hr, hb, hd⟩ := hl r List.mem_cons_self
    obtain ⟨g', a, h1, h2⟩ := BI.plusrs c hco hq l (h.plusr c hco hr hb hq hd) hn.2 (fun x hx => by
      obtain ⟨k1, k2, k3⟩ := hl x (List.mem_cons_of_mem _ hx)
      exact ⟨k1, k2, fun k => k.elim k3 fun k => hn.1 (k.1 ▸ hx)⟩)
    refine ⟨g', a, h1, fun x y => ?_⟩
    rw [h2 x y, List.mem_cons]
    show (pc.a3 x y ∨ (x = r ∧ y = q)) ∨ _ ↔ _
    constructor
    · rintro ((k | k) | k)
      · exact .inl k
      · exact .inr ⟨.inl k.1, k.2⟩
      · exact .inr ⟨.inr k.1, k.2⟩
    · rintro (k | ⟨k | k, k2⟩)
      · exact .inl (.inl k)
      · exact .inl (.inr ⟨k, k2⟩)
      · exact .inr ⟨k, k2⟩
end
end Go.Proofs.Lx
