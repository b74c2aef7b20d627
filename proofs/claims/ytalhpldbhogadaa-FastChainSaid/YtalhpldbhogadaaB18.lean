/- Parts of the proof: Uf, Ug. The fast engine's plain law: a tag -d is worked off. No program in sight. No condition. -/
import Derived.Test.YtalhpldbhogadaaB17
namespace Go.Proofs.Lx
open Go Go.RowKit Go.Proofs.Tj
set_option linter.unusedVariables false
section
variable {S : Stc} {B bt : Nat → List Nat} {fact : Nat → Bool} {D : Dyn} {g : Gs} {pc : Prc} {ex : Exc} {K : Nat → Nat → Prop}
theorem look_dead (D : Dyn) (q : Nat) : (lookD D q).dead = D.dead := by rw [look_shape]
theorem settle_dead (S : Stc) (D : Dyn) (p : Nat) : (settleD S D p).dead = D.dead := by
  unfold settleD; split
  · rfl
  · rw [look_dead]; rfl
theorem settles_dead (S : Stc) : ∀ (l : List Nat) (D : Dyn), (l.foldl (settleD S) D).dead = D.dead
  | [], _ => rfl
  | p :: l, D => by rw [List.foldl_cons, settles_dead S l, settle_dead]
theorem stand_dead (S : Stc) (D : Dyn) (p : Nat) : (standD S D p).dead = D.dead := by
  unfold standD; split
  · rw [look_dead]; rfl
  · rfl
theorem left_dead (S : Stc) (D : Dyn) (p : Nat) : (leftD S D p).dead = D.dead := by unfold leftD; rw [stand_dead]; rfl
theorem tickB_dead (S : Stc) (D : Dyn) (r : Nat) : (tickB S D r).dead = D.dead := by unfold tickB; split <;> rfl
theorem BI.killN (c : Ctx S B bt) (h : BI S B bt fact D g pc noE K) {r q : Nat} (hr : r < S.m) (hb : q ∈ B r) (hq : K q 4) :
    BI S B bt fact (killN S D r) g { pc with a4 := orP pc.a4 r q } { noE with e4 := fun p => S.ps p = r, eL := fun t _ => t = r, eB := fun x => x = r } K := by
  have hne : ∀ a, a ≠ r → (setDead D r).dead a = D.dead a := fun a e => Tj.upd_ne e
  have hs : (setDead D r).dead r = true := Tj.upd_same _ _ _
  have h1 : BI S B bt fact (setDead D r) g { pc with a4 := orP pc.a4 r q } { noE with e4 := fun p => S.ps p = r, eL := fun t _ => t = r, eB := fun x => x = r } K := by
    refine ⟨h.si.setDead hb (h.kp _ _ hq), { h.ci with c4 := fun a ha b hb2 k => ?_, cL := fun t ht p hp he => ?_, cB := fun a ha hsa he => ?_, x4 := fun p hp he hd => ?_ }, h.kp, h.k1, h.l1, h.l2⟩
    · by_cases e : a = r
      · rw [e]; exact hs
      · rw [hne a e]
        exact h.ci.c4 a ha b hb2 (k.elim id fun k => absurd k.1 e)
    · rw [hne t he]; exact h.ci.cL t ht p hp (fun k => k)
    · rw [hne a he]; exact h.ci.cB a ha hsa (fun k => k)
    · rw [hne _ he] at hd; exact h.ci.x4 p hp (fun k => k) hd
  exact h1.tickB r
theorem BI.leftOne (c : Ctx S B bt) (h : BI S B bt fact D g pc ex K) {r p : Nat} (hr : r < S.m) (hp : p ∈ S.beats r) (hdead : D.dead r = true) (hd : g.dL r p = false) :
    BI S B bt fact (leftD S D p) { g with dL := or1 g.dL r p } pc { ex with eL := fun t x => ex.eL t x ∧ ¬ (t = r ∧ x = p) } K := by
  have hpP := ((c.bts r hr p).1 hp).2.1
  have hne : ∀ a, a ≠ p → (decLeft D p).left a = D.left a := fun a e => Tj.upd_ne e
  have h1 : BI S B bt fact (decLeft D p) { g with dL := or1 g.dL r p } pc { ex with eL := fun t x => ex.eL t x ∧ ¬ (t = r ∧ x = p), e6 := fun x => ex.e6 x ∨ x = p } K := by
    refine ⟨h.si.decLeft c hr hp hdead hd, { h.ci with cL := fun t ht x hx he => ?_, x6 := fun a ha he h0 hl => ?_ }, h.kp, h.k1, h.l1, h.l2⟩
    · by_cases e : t = r ∧ x = p
      · obtain ⟨rfl, rfl⟩ := e
        exact ⟨fun _ => hdead, fun _ => or1_same _ _ _⟩
      · have e1 : or1 g.dL r p t x = g.dL t x := by
          unfold or1
          rcases Decidable.em (t = r) with e2 | e2
          · have e3 : x ≠ p := fun e3 => e ⟨e2, e3⟩
            simp [e3]
          · simp [e2]
        show or1 g.dL r p t x = true ↔ _
        rw [e1]
        exact h.ci.cL t ht x hx fun k => he ⟨k, e⟩
    · rw [hne a (fun e => he (.inr e))] at hl
      exact h.ci.x6 a ha (fun k => he (.inl k)) h0 hl
  unfold leftD
  refine ((h1.tick 1).stand c hpP).weak ⟨fun _ k => k, fun _ k => k, fun _ k => k, fun _ k => k, fun _ _ k => k, fun x k => ?_, fun _ k => k, fun _ k => k, fun _ _ k => k, fun _ k => k⟩
  rcases k with ⟨k | k, k2⟩
  · exact k
  · exact absurd k k2
theorem BI.lefts (c : Ctx S B bt) {r : Nat} (hr : r < S.m) : ∀ (l : List Nat) {D : Dyn} {g : Gs} {ex : Exc}, BI S B bt fact D g pc ex K → l.Nodup → (∀ p ∈ l, p ∈ S.beats r ∧ g.dL r p = false) → D.dead r = true →
    ∃ g', BI S B bt fact (l.foldl (leftD S) D) g' pc { ex with eL := fun t x => ex.eL t x ∧ ¬ (t = r ∧ x ∈ l) } K
  | [], D, g, ex, h, _, _, _ => ⟨g, h.weak ⟨fun _ k => k, fun _ k => k, fun _ k => k, fun _ k => k, fun _ _ k => k, fun _ k => k, fun _ k => k, fun _ k => k, fun _ _ k => ⟨k, by simp⟩, fun _ k => k⟩⟩
  | p :: l, D, g, ex, h, hn, hl, hdead => by
    rw [List.nodup_cons] at hn
    obtain ⟨hp, hd⟩ := hl p List.mem_cons_self
    obtain ⟨g', h2⟩ := BI.lefts c hr l (h.leftOne c hr hp hdead hd) hn.2 (fun x hx => by
      obtain ⟨k1, k2⟩ := hl x (List.mem_cons_of_mem _ hx)
      refine ⟨k1, ?_⟩
      show or1 g.dL r p r x = false
      rw [or1_col (fun (e : x = p) => hn.1 (by rw [← e]; exact hx))]; exact k2) (by rw [left_dead]; exact hdead)
    refine ⟨g', h2.weak ⟨fun _ k => k, fun _ k => k, fun _ k => k, fun _ k => k, fun _ _ k => k, fun _ k => k, fun _ k => k, fun _ k => k, fun t x k => ⟨k.1.1, fun k3 => ?_⟩, fun _ k => k⟩⟩
    rcases List.mem_cons.1 k3.2 with e | e
    · exact k.1.2 ⟨k3.1, e⟩
    · exact k.2 ⟨k3.1, e⟩
theorem BI.minusr (c : Ctx S B bt) (h : BI S B bt fact D g pc noE K) {r q : Nat} (hr : r < S.m) (hb : q ∈ B r) (hq : K q 4) :
    ∃ g', BI S B bt fact (minusr S D r) g' { pc with a4 := orP pc.a4 r q } noE K := by
  unfold Lx.minusr; split
  · next hd =>
    refine ⟨g, h.si, { h.ci with c4 := fun a ha b hb2 k => ?_ }, h.kp, h.k1, h.l1, h.l2⟩
    rcases k with k | k
    · exact h.ci.c4 a ha b hb2 k
    · rw [k.1]; exact hd
  · next hd =>
    have hd : D.dead r = false := by simpa using hd
    have hop : ∀ p ∈ S.ofs r, p < S.P := fun p hp => ((c.ofs r hr p).1 hp).1
    have h1 := BI.settles c (S.ofs r) (h.killN c hr hb hq) hop (fun p hp => .inl ⟨q, by rw [((c.ofs r hr p).1 hp).2]; exact hb, hq⟩)
    have hdead : ((S.ofs r).foldl (settleD S) (Lx.killN S D r)).dead r = true := by
      rw [settles_dead]; unfold Lx.killN; rw [tickB_dead]; exact Tj.upd_same _ _ _
    have h2 : BI S B bt fact ((S.ofs r).foldl (settleD S) (Lx.killN S D r)) g { pc with a4 := orP pc.a4 r q } { noE with eL := fun t _ => t = r, eB := fun x => x = r } K :=
      ⟨h1.si, { h1.ci with x4 := fun p hp _ => h1.ci.x4 p hp fun k => k.2 ((c.ofs r hr p).2 ⟨hp, k.1⟩), x5 := fun t ht p hp _ => h1.ci.x5 t ht p hp fun k => k.1 }, h1.kp, h1.k1, h1.l1, h1.l2⟩
    clear h1
    generalize ((S.ofs r).foldl (settleD S) (Lx.killN S D r)) = D2 at *
    unfold minusr2; split
    · next hs =>
      have hdB : g.dB r = false := by
        cases hx : g.dB r with
        | false => rfl
        | true => have := (h.ci.cB r hr hs (fun k => k)).1 hx; rw [hd] at this; cases this
      have hdL : ∀ p ∈ S.beats r, g.dL r p = false := fun p hp => by
        cases hx : g.dL r p with
        | false => rfl
        | true => have := (h.ci.cL r hr p hp (fun k => k)).1 hx; rw [hd] at this; cases this
      have hbn : D2.backs (S.head r) ≠ 0 := fun h0 => by
        rw [h2.si.bk _ (c.hd r hr)] at h0
        have hz := countP_zero (by unfold cBk at h0; omega : (List.range S.m).countP (fun x => supR S x && decide (S.head x = S.head r) && !g.dB x) = 0) (List.mem_range.2 hr)
        simp [hs, hdB] at hz
      have hold : ∀ f, (decBacks D2 (S.head r)).backs f ≠ 0 → D2.backs f ≠ 0 := fun f k => by
        by_cases e : f = S.head r
        · rw [e]; exact hbn
        · have k : Tj.upd D2.backs (S.head r) _ f ≠ 0 := k
          rw [Tj.upd_ne e] at k; exact k
      have h3 : BI S B bt fact (decBacks D2 (S.head r)) { g with dB := orB g.dB r } { pc with a4 := orP pc.a4 r q } { noE with eL := fun t _ => t = r, e8 := fun x => x = S.head r } K := by
        refine ⟨h2.si.decBacks c hr hs hdead hdB, { h2.ci with cOb := fun f hf k => h2.ci.cOb f hf (k.imp (hold f) id), cB := fun a ha hsa _ => ?_, cC := fun f hf k => h2.ci.cC f hf (hold f k), x8 := fun a ha he hl hc => ?_ }, h2.kp, h2.k1, h2.l1, h2.l2⟩
        · show orB g.dB r a = true ↔ D2.dead a = true
          by_cases e : a = r
          · subst e; exact ⟨fun _ => hdead, fun _ => by simp [orB]⟩
          · have : orB g.dB r a = g.dB a := by simp [orB, e]
            rw [this]; exact h2.ci.cB a ha hsa e
        · have e : a ≠ S.head r := he
          refine h2.ci.x8 a ha (fun k => k) hl (hc.imp (fun z => ?_) id)
          have z : Tj.upd D2.backs (S.head r) _ a = 0 := z
          rw [Tj.upd_ne e] at z; exact z
      obtain ⟨g', h4⟩ := BI.lefts c hr (S.beats r) (h3.tick 1) (c.btn r hr) (fun p hp => ⟨hp, hdL p hp⟩) hdead
      have h5 := h4.look c (c.hd r hr)
      refine ⟨g', h5.si, { h5.ci with cL := fun t ht p hp _ => h5.ci.cL t ht p hp fun k => k.2 ⟨k.1, by have e : t = r := k.1; rw [← e]; exact hp⟩, x7 := fun a ha _ => h5.ci.x7 a ha fun k => k.1, x8 := fun a ha _ => h5.ci.x8 a ha fun k => k.2 k.1 }, h5.kp, h5.k1, h5.l1, h5.l2⟩
    · next hs =>
      refine ⟨g, h2.si, { h2.ci with cL := fun t ht p hp _ => h2.ci.cL t ht p hp fun k => hs (by have e : t = r := k; rw [← e]; exact ((c.bts t ht p).1 hp).1), cB := fun a ha hsa _ => h2.ci.cB a ha hsa fun k => hs (by have e : a = r := k; rw [← e]; exact hsa) }, h2.kp, h2.k1, h2.l1, h2.l2⟩
theorem BI.minusrs (c : Ctx S B bt) {q : Nat} (hq : K q 4) : ∀ (l : List Nat) {D : Dyn} {g : Gs} {pc : Prc}, BI S B bt fact D g pc noE K → (∀ r ∈ l, r < S.m ∧ q ∈ B r) →
    ∃ g' a, BI S B bt fact (l.foldl (Lx.minusr S) D) g' { pc with a4 := a } noE K ∧ ∀ x y, a x y ↔ pc.a4 x y ∨ (x ∈ l ∧ y = q)
  | [], D, g, pc, h, _ => ⟨g, pc.a4, h, fun x y => by simp⟩
  | r :: l, D, g, pc, h, hl => by
    obtain ⟨hr, hb⟩ := hl r List.mem_cons_self
    obtain ⟨g1, h0⟩ := h.minusr c hr hb hq
    obtain ⟨g', a, h1, h2⟩ := BI.minusrs c hq l h0 (fun x hx => hl x (List.mem_cons_of_mem _ hx))
    refine ⟨g', a, h1, fun x y => ?_⟩
    rw [h2 x y, List.mem_cons]
    show (pc.a4 x y ∨ (x = r ∧ y = q)) ∨ _ ↔ _
    constructor
    · rintro ((k | k) | k)
      · exact .inl k
      · exact .inr ⟨.inl k.1, k.2⟩
      · exact .inr ⟨.inr k.1, k.2⟩
    · rintro (k | ⟨k | k, k2⟩)
      · exact .inl (.inl k)
      · exact .inl (.inr ⟨k, k2⟩)
      · exact .inr ⟨k, k2⟩
end
end Go.Proofs.Lx

namespace Go.Proofs.Lx
open Go Go.RowKit Go.Proofs.Tj
set_option linter.unusedVariables false
section
variable {S : Stc} {B bt : Nat → List Nat} {fact : Nat → Bool} {D : Dyn} {g : Gs} {pc : Prc} {ex : Exc} {K : Nat → Nat → Prop}
theorem BI.plusDr (c : Ctx S B bt) (h : BI S B bt fact D g pc noE K) {r q : Nat} (hr : r < S.m) (hb : q ∈ B r) (hq : K q 1) (hd : ¬ pc.a1 r q) :
    ∃ g', BI S B bt fact (plusDr S D r) g' { pc with a1 := orP pc.a1 r q } noE K := by
  unfold Lx.plusDr; split
  · next hs =>
    have hdf : g.d1 r q = false := by
      cases hx : g.d1 r q with
      | false => rfl
      | true => exact absurd ((h.ci.c1 r hr hs q hb).1 hx) hd
    have hne : ∀ a, a ≠ r → (decNeedD D r).needD a = D.needD a := fun a e => Tj.upd_ne e
    have h1 : BI S B bt fact (decNeedD D r) { g with d1 := or1 g.d1 r q } { pc with a1 := orP pc.a1 r q } { noE with e1 := fun x => x = r } K :=
      ⟨h.si.decNeedD c hr hb (h.kp _ _ hq) hdf, { h.ci with c1 := fun a ha hsa b hb2 => or1_iff (h.ci.c1 a ha hsa b hb2), x1 := fun a ha hsa he h0 => (by rw [hne a he] at h0; exact h.ci.x1 a ha hsa (fun k => k) h0) }, h.kp, h.k1, h.l1, h.l2⟩
    have h2 : BI S B bt fact (lowerS S D r) { g with d1 := or1 g.d1 r q } { pc with a1 := orP pc.a1 r q } { noE with e1 := fun x => x = r } K := h1.tickB r
    refine ⟨{ g with d1 := or1 g.d1 r q }, ?_⟩
    split
    · next h0 =>
      have h3 := h2.tell (c.hd r hr) (by omega : 1 ≤ 1) (by omega) (.inr ⟨r, hr, rfl, hs, h2.si.needD0 hr hs h0⟩)
      refine ⟨h3.si, { h3.ci with x1 := fun a ha hsa _ h9 => ?_ }, h3.kp, h3.k1, h3.l1, h3.l2⟩
      by_cases e : a = r
      · rw [e]; exact HT.self _ (by omega)
      · exact h3.ci.x1 a ha hsa e h9
    · next h0 =>
      refine ⟨h2.si, { h2.ci with x1 := fun a ha hsa _ h9 => h2.ci.x1 a ha hsa (fun e => h0 (by have e : a = r := e; rw [e] at h9; exact h9)) h9 }, h2.kp, h2.k1, h2.l1, h2.l2⟩
  · next hs =>
    refine ⟨g, h.si, { h.ci with c1 := fun a ha hsa b hb2 => ?_ }, h.kp, h.k1, h.l1, h.l2⟩
    rw [h.ci.c1 a ha hsa b hb2]
    exact ⟨.inl, fun k => k.elim id fun k => absurd (by rw [← k.1]; exact hsa) hs⟩
theorem BI.plusDrs (c : Ctx S B bt) {q : Nat} (hq : K q 1) : ∀ (l : List Nat) {D : Dyn} {g : Gs} {pc : Prc}, BI S B bt fact D g pc noE K → l.Nodup → (∀ r ∈ l, r < S.m ∧ q ∈ B r ∧ ¬ pc.a1 r q) →
    ∃ g' a, BI S B bt fact (l.foldl (Lx.plusDr S) D) g' { pc with a1 := a } noE K ∧ ∀ x y, a x y ↔ pc.a1 x y ∨ (x ∈ l ∧ y = q)
  | [], D, g, pc, h, _, _ => ⟨g, pc.a1, h, fun x y => by simp⟩
  | r :: l, D, g, pc, h, hn, hl => by
    rw [List.nodup_cons] at hn
    obtain ⟨hr, hb, hd⟩ := hl r List.mem_cons_self
    obtain ⟨g1, h0⟩ := h.plusDr c hr hb hq hd
    obtain ⟨g', a, h1, h2⟩ := BI.plusDrs c hq l h0 hn.2 (fun x hx => by
      obtain ⟨k1, k2, k3⟩ := hl x (List.mem_cons_of_mem _ hx)
      exact ⟨k1, k2, fun k => k.elim k3 fun k => hn.1 (k.1 ▸ hx)⟩)
    refine ⟨g', a, h1, fun x y => ?_⟩
    rw [h2 x y, List.mem_cons]
    show (pc.a1 x y ∨ (x = r ∧ y = q)) ∨ _ ↔ _
    constructor
    · rintro ((k | k) | k)
      · exact .inl k
      · exact .inr ⟨.inl k.1, k.2⟩
      · exact .inr ⟨.inr k.1, k.2⟩
    · rintro (k | ⟨k | k, k2⟩)
      · exact .inl (.inl k)
      · exact .inl (.inr ⟨k, k2⟩)
      · exact .inr ⟨k, k2⟩
theorem SI.backs_nn (h : SI S B bt fact D g) {q : Nat} (hq : q < S.n) : 0 ≤ D.backs q := by rw [h.bk q hq]; omega
theorem BI.clash1 (c : Ctx S B bt) (h : BI S B bt fact D g pc noE K) {f q : Nat} (hf : f < S.n) (hqf : q ∈ S.foes f) (hq : K q 1) : BI S B bt fact (clashD D f) g { pc with aC := orP pc.aC f q } noE K := by
  unfold clashD; split
  · next hc =>
    have hne : ∀ a, a ≠ f → (setClash D f).clash a = D.clash a := fun a e => Tj.upd_ne e
    have hs : (setClash D f).clash f = true := Tj.upd_same _ _ _
    have h1 : BI S B bt fact (setClash D f) g { pc with aC := orP pc.aC f q } { noE with e8 := fun x => x = f } K := by
      refine ⟨h.si.setClash hqf (h.kp _ _ hq), { h.ci with cC := fun a ha hb x hx k => ?_, x8 := fun a ha he hl hc => ?_ }, h.kp, h.k1, h.l1, h.l2⟩
      · by_cases e : a = f
        · rw [e]; exact hs
        · rw [hne a e]; exact h.ci.cC a ha hb x hx (k.elim id fun k => absurd k.1 e)
      · rw [hne a he] at hc; exact h.ci.x8 a ha (fun k => k) hl hc
    exact ((h1.tick 1).look c hf).weak ⟨fun _ k => k, fun _ k => k, fun _ k => k, fun _ k => k, fun _ _ k => k, fun _ k => k, fun _ k => k.1, fun _ k => k.2 k.1, fun _ _ k => k, fun _ k => k⟩
  · next hc =>
    refine ⟨h.si, { h.ci with cC := fun a ha hb x hx k => ?_ }, h.kp, h.k1, h.l1, h.l2⟩
    rcases k with k | k
    · exact h.ci.cC a ha hb x hx k
    · have e : a = f := k.1
      subst e
      unfold clashB at hc
      simp only [Bool.and_eq_true, decide_eq_true_eq, Bool.not_eq_true', not_and, Bool.not_eq_false] at hc
      exact hc (by have := h.si.backs_nn ha; omega)
theorem BI.clashs (c : Ctx S B bt) {q : Nat} (hq : K q 1) : ∀ (l : List Nat) {D : Dyn} {pc : Prc}, BI S B bt fact D g pc noE K → (∀ f ∈ l, f < S.n ∧ q ∈ S.foes f) →
    ∃ a, BI S B bt fact (l.foldl clashD D) g { pc with aC := a } noE K ∧ ∀ x y, a x y ↔ pc.aC x y ∨ (x ∈ l ∧ y = q)
  | [], D, pc, h, _ => ⟨pc.aC, h, fun x y => by simp⟩
  | r :: l, D, pc, h, hl => by
    obtain ⟨hr, hb⟩ := hl r List.mem_cons_self
    obtain ⟨a, h1, h2⟩ := BI.clashs c hq l (h.clash1 c hr hb hq) (fun x hx => hl x (List.mem_cons_of_mem _ hx))
    refine ⟨a, h1, fun x y => ?_⟩
    rw [h2 x y, List.mem_cons]
    show (pc.aC x y ∨ (x = r ∧ y = q)) ∨ _ ↔ _
    constructor
    · rintro ((k | k) | k)
      · exact .inl k
      · exact .inr ⟨.inl k.1, k.2⟩
      · exact .inr ⟨.inr k.1, k.2⟩
    · rintro (k | ⟨k | k, k2⟩)
      · exact .inl (.inl k)
      · exact .inl (.inr ⟨k, k2⟩)
      · exact .inr ⟨k, k2⟩
/-- The last look of an event on D tags. -/
theorem BI.last1 (c : Ctx S B bt) (h : BI S B bt fact D g pc noE K) {q : Nat} (hq : q < S.n) (hk : K q 1) : BI S B bt fact (lookD D q) g { pc with l1 := fun x => pc.l1 x ∨ x = q } noE K := by
  have h1 : BI S B bt fact D g { pc with l1 := fun x => pc.l1 x ∨ x = q } { noE with e7 := fun x => x = q } K :=
    ⟨h.si, { h.ci with x7 := fun a ha he hc => h.ci.x7 a ha (fun k => k) (hc.imp (fun k => k.elim id fun e => absurd e he) id) }, h.kp, h.k1, fun x k => k.elim (h.l1 x) fun e => e ▸ hk, h.l2⟩
  exact (h1.look c hq).weak ⟨fun _ k => k, fun _ k => k, fun _ k => k, fun _ k => k, fun _ _ k => k, fun _ k => k, fun _ k => k.2 k.1, fun _ k => k.1, fun _ _ k => k, fun _ k => k⟩
theorem BI.last2 (c : Ctx S B bt) (h : BI S B bt fact D g pc noE K) {q : Nat} (hq : q < S.n) (hk : K q 2) : BI S B bt fact (lookD D q) g { pc with l2 := fun x => pc.l2 x ∨ x = q } noE K := by
  have h1 : BI S B bt fact D g { pc with l2 := fun x => pc.l2 x ∨ x = q } { noE with e8 := fun x => x = q } K :=
    ⟨h.si, { h.ci with x8 := fun a ha he hl hc => h.ci.x8 a ha (fun k => k) (hl.elim id fun e => absurd e he) hc }, h.kp, h.k1, h.l1, fun x k => k.elim (h.l2 x) fun e => e ▸ hk⟩
  exact (h1.look c hq).weak ⟨fun _ k => k, fun _ k => k, fun _ k => k, fun _ k => k, fun _ _ k => k, fun _ k => k, fun _ k => k.1, fun _ k => k.2 k.1, fun _ _ k => k, fun _ k => k⟩
theorem dec_tickB (S : Stc) (D : Dyn) (r h : Nat) : decStrict (tickB S D r) h = tickB S (decStrict D h) r := by
  unfold tickB; split <;> rfl
theorem BI.noDr (c : Ctx S B bt) (h : BI S B bt fact D g pc noE K) {r q : Nat} (hr : r < S.m) (hb : q ∈ B r) (hq : K q 2) : BI S B bt fact (noDr S D r) g { pc with a2 := orP pc.a2 r q } noE K := by
  unfold Lx.noDr; split
  · next hg =>
    rw [Bool.and_eq_true] at hg
    obtain ⟨hs, hd⟩ := hg
    have hd : D.deadD r = false := by simpa using hd
    have hne : ∀ a, a ≠ r → (decStrict (setDeadD D r) (S.head r)).deadD a = D.deadD a := fun a e => Tj.upd_ne e
    have hsr : (decStrict (setDeadD D r) (S.head r)).deadD r = true := Tj.upd_same _ _ _
    have hst : ∀ a, a ≠ S.head r → (decStrict (setDeadD D r) (S.head r)).strict a = D.strict a := fun a e => Tj.upd_ne e
    have h1 : BI S B bt fact (decStrict (setDeadD D r) (S.head r)) g { pc with a2 := orP pc.a2 r q } { noE with e2 := fun x => x = S.head r } K := by
      refine ⟨h.si.killD c hr hs hb (h.kp _ _ hq) hd, { h.ci with c2 := fun a ha hsa b hb2 k => ?_, x2 := fun a ha he h0 => ?_ }, h.kp, h.k1, h.l1, h.l2⟩
      · by_cases e : a = r
        · rw [e]; exact hsr
        · rw [hne a e]; exact h.ci.c2 a ha hsa b hb2 (k.elim id fun k => absurd k.1 e)
      · rw [hst a he] at h0; exact h.ci.x2 a ha (fun k => k) h0
    have h2 : BI S B bt fact (Lx.tick (decStrict (killS S D r) (S.head r)) 1) g { pc with a2 := orP pc.a2 r q } { noE with e2 := fun x => x = S.head r } K := by
      unfold killS; rw [dec_tickB]; exact (h1.tickB r).tick 1
    generalize (Lx.tick (decStrict (killS S D r) (S.head r)) 1) = D2 at *
    unfold noDr2; split
    · next h0 =>
      have h3 := h2.tell (c.hd r hr) (by omega : 1 ≤ 2) (by omega) (h2.si.strict0 (c.hd r hr) h0)
      refine ⟨h3.si, { h3.ci with x2 := fun a ha _ h9 => ?_ }, h3.kp, h3.k1, h3.l1, h3.l2⟩
      by_cases e : a = S.head r
      · rw [e]; exact HT.self _ (by omega)
      · exact h3.ci.x2 a ha e h9
    · next h0 =>
      exact ⟨h2.si, { h2.ci with x2 := fun a ha _ h9 => h2.ci.x2 a ha (fun e => h0 (by have e : a = S.head r := e; rw [e] at h9; exact h9)) h9 }, h2.kp, h2.k1, h2.l1, h2.l2⟩
  · next hg =>
    refine ⟨h.si, { h.ci with c2 := fun a ha hsa b hb2 k => ?_ }, h.kp, h.k1, h.l1, h.l2⟩
    rcases k with k | k
    · exact h.ci.c2 a ha hsa b hb2 k
    · have e : a = r := k.1
      subst e
      simpa [hsa] using hg
theorem BI.noDrs (c : Ctx S B bt) {q : Nat} (hq : K q 2) : ∀ (l : List Nat) {D : Dyn} {pc : Prc}, BI S B bt fact D g pc noE K → (∀ r ∈ l, r < S.m ∧ q ∈ B r) →
    ∃ a, BI S B bt fact (l.foldl (Lx.noDr S) D) g { pc with a2 := a } noE K ∧ ∀ x y, a x y ↔ pc.a2 x y ∨ (x ∈ l ∧ y = q)
  | [], D, pc, h, _ => ⟨pc.a2, h, fun x y => by simp⟩
  | r :: l, D, pc, h, hl => by
    obtain ⟨hr, hb⟩ := hl r List.mem_cons_self
    obtain ⟨a, h1, h2⟩ := BI.noDrs c hq l (h.noDr c hr hb hq) (fun x hx => hl x (List.mem_cons_of_mem _ hx))
    refine ⟨a, h1, fun x y => ?_⟩
    rw [h2 x y, List.mem_cons]
    show (pc.a2 x y ∨ (x = r ∧ y = q)) ∨ _ ↔ _
    constructor
    · rintro ((k | k) | k)
      · exact .inl k
      · exact .inr ⟨.inl k.1, k.2⟩
      · exact .inr ⟨.inr k.1, k.2⟩
    · rintro (k | ⟨k | k, k2⟩)
      · exact .inl (.inl k)
      · exact .inl (.inr ⟨k, k2⟩)
      · exact .inr ⟨k, k2⟩
theorem BI.open1 (c : Ctx S B bt) (h : BI S B bt fact D g pc noE K) {f q : Nat} (hf : f < S.n) (hqf : q ∈ S.foes f) (hq : K q 2) (hd : ¬ pc.aO f q) : ∃ g', BI S B bt fact (openD D f) g' { pc with aO := orP pc.aO f q } noE K := by
  unfold openD; split
  · next hc =>
    have hdf : g.dO f q = false := by
      cases hx : g.dO f q with
      | false => rfl
      | true => exact absurd (h.ci.cOa f hf q hqf hx) hd
    have hne : ∀ a, a ≠ f → (decOpn D f).opn a = D.opn a := fun a e => Tj.upd_ne e
    have h1 : BI S B bt fact (decOpn D f) { g with dO := or1 g.dO f q } { pc with aO := orP pc.aO f q } { noE with e7 := fun x => x = f } K := by
      refine ⟨h.si.decOpn c hf hqf (h.kp _ _ hq) hdf, { h.ci with cOa := fun a ha x hx k => ?_, cOb := fun a ha hb x hx k => ?_, x7 := fun a ha he hc => ?_ }, h.kp, h.k1, h.l1, h.l2⟩
      · exact (or1_of k).imp (h.ci.cOa a ha x hx) id
      · show or1 g.dO f q a x = true
        rcases k with k | ⟨rfl, rfl⟩
        · unfold or1; rw [h.ci.cOb a ha hb x hx k]; rfl
        · exact or1_same _ _ _
      · rw [hne a he] at hc; exact h.ci.x7 a ha (fun k => k) hc
    exact ⟨_, ((h1.tick 1).look c hf).weak ⟨fun _ k => k, fun _ k => k, fun _ k => k, fun _ k => k, fun _ _ k => k, fun _ k => k, fun _ k => k.2 k.1, fun _ k => k.1, fun _ _ k => k, fun _ k => k⟩⟩
  · next hc =>
    refine ⟨g, h.si, { h.ci with cOa := fun a ha x hx k => .inl (h.ci.cOa a ha x hx k), cOb := fun a ha hb x hx k => ?_ }, h.kp, h.k1, h.l1, h.l2⟩
    rcases k with k | ⟨rfl, rfl⟩
    · exact h.ci.cOb a ha hb x hx k
    · exfalso
      apply hc
      unfold openB
      rcases hb with hb | hb
      · have := h.si.backs_nn ha
        rw [decide_eq_true (by omega : 0 < D.backs a)]; rfl
      · rw [hb]; simp
theorem BI.opens (c : Ctx S B bt) {q : Nat} (hq : K q 2) : ∀ (l : List Nat) {D : Dyn} {g : Gs} {pc : Prc}, BI S B bt fact D g pc noE K → l.Nodup → (∀ f ∈ l, f < S.n ∧ q ∈ S.foes f ∧ ¬ pc.aO f q) →
    ∃ g' a, BI S B bt fact (l.foldl openD D) g' { pc with aO := a } noE K ∧ ∀ x y, a x y ↔ pc.aO x y ∨ (x ∈ l ∧ y = q)
  | [], D, g, pc, h, _, _ => ⟨g, pc.aO, h, fun x y => by simp⟩
  | r :: l, D, g, pc, h, hn, hl => by
    rw [List.nodup_cons] at hn
    obtain ⟨hr, hb, hd⟩ := hl r List.mem_cons_self
    obtain ⟨g1, h0⟩ := h.open1 c hr hb hq hd
    obtain ⟨g', a, h1, h2⟩ := BI.opens c hq l h0 hn.2 (fun x hx => by
      obtain ⟨k1, k2, k3⟩ := hl x (List.mem_cons_of_mem _ hx)
      exact ⟨k1, k2, fun k => k.elim k3 fun k => hn.1 (k.1 ▸ hx)⟩)
    refine ⟨g', a, h1, fun x y => ?_⟩
    rw [h2 x y, List.mem_cons]
    show (pc.aO x y ∨ (x = r ∧ y = q)) ∨ _ ↔ _
    constructor
    · rintro ((k | k) | k)
      · exact .inl k
      · exact .inr ⟨.inl k.1, k.2⟩
      · exact .inr ⟨.inr k.1, k.2⟩
    · rintro (k | ⟨k | k, k2⟩)
      · exact .inl (.inl k)
      · exact .inl (.inr ⟨k, k2⟩)
      · exact .inr ⟨k, k2⟩
end
end Go.Proofs.Lx
