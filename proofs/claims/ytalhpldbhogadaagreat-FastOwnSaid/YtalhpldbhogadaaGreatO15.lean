/- Parts of the proof: Ua, Ub, Uc. The fast engine's plain law: what its counters say, at every step. No program in sight. No condition. -/
import Derived.Test.YtalhpldbhogadaaGreatO14
namespace Go.Proofs.Lx
open Go Go.RowKit Go.Proofs.Tj
set_option linter.unusedVariables false

theorem countP_less {α : Type} [DecidableEq α] {p p' : α → Bool} : ∀ {l : List α} {x : α}, l.Nodup → x ∈ l → p x = true → p' x = false → (∀ y ∈ l, y ≠ x → p' y = p y) → l.countP p' + 1 = l.countP p
 | [], _, _, h, _, _, _ => absurd h (by simp)
 | a :: l, x, hn, hx, h1, h2, h3 => by
  rw [List.nodup_cons] at hn
  rcases List.mem_cons.1 hx with rfl | hx
  ·rw [List.countP_cons_of_pos h1, List.countP_cons_of_neg (by rw [h2]; exact Bool.false_ne_true)]
   congr 1
   refine List.countP_congr fun y hy => ?_
   rw [h3 y (List.mem_cons_of_mem _ hy) (fun e => hn.1 (e ▸ hy))]
  ·have hax : a ≠ x := fun e => hn.1 (e ▸ hx)
   have ih := countP_less hn.2 hx h1 h2 (fun y hy => h3 y (List.mem_cons_of_mem _ hy))
   have ha := h3 a List.mem_cons_self hax
   by_cases hpa : p a = true
   ·rw [List.countP_cons_of_pos hpa, List.countP_cons_of_pos (by rw [ha]; exact hpa)]; omega
   ·rw [List.countP_cons_of_neg hpa, List.countP_cons_of_neg (by rw [ha]; exact hpa)]; exact ih
theorem countP_same {α : Type} {p p' : α → Bool} {l : List α} (h : ∀ y ∈ l, p' y = p y) : l.countP p' = l.countP p := List.countP_congr fun y hy => by rw [h y hy]
theorem countP_zero {α : Type} {p : α → Bool} {l : List α} (h : l.countP p = 0) {x : α} (hx : x ∈ l) : p x = false := by
 have := List.countP_eq_zero.1 h x hx
 simpa using this
theorem subW_small {x : Int} (h0 : -100000 ≤ x) (h1 : x ≤ 100000) : subW x 1 = x - 1 := by unfold subW wrap64; omega

/-- The conditions, over whatever has the tags. -/
def CN (S : Stc) (B bt : Nat → List Nat) (fact : Nat → Bool) (H : Nat → Nat → Prop) : Nat → Nat → Prop
 | 1, q => fact q = true ∨ ∃ r, r < S.m ∧ S.head r = q ∧ strR S r = true ∧ ∀ b ∈ B r, H b 1
 | 2, q => fact q = false ∧ ∀ r, r < S.m → S.head r = q → strR S r = true → ∃ b ∈ B r, H b 2
 | 3, q => H q 1 ∨ ((∃ r, r < S.m ∧ S.head r = q ∧ supR S r = true ∧ ∀ b ∈ B r, H b 3) ∧ (∀ f ∈ S.foes q, H f 2) ∧ ∀ f ∈ S.foes q, ∀ s, s < S.m → S.head s = f → (∃ b ∈ B s, H b 4) ∨ ∃ t, t < S.m ∧ S.head t = q ∧ supR S t = true ∧ s ∈ bt t ∧ ∀ b ∈ B t, H b 3)
 | 4, q => H q 2 ∧ ((∀ r, r < S.m → S.head r = q → supR S r = true → ∃ b ∈ B r, H b 4) ∨ (∃ f ∈ S.foes q, H f 1) ∨ ∃ f ∈ S.foes q, ∃ s, s < S.m ∧ S.head s = f ∧ (∀ b ∈ B s, H b 3) ∧ ∀ t, t < S.m → S.head t = q → supR S t = true → s ∈ bt t → ∃ b ∈ B t, H b 4)
 | _, _ => False
theorem CN.mono {S : Stc} {B bt : Nat → List Nat} {fact : Nat → Bool} {H H' : Nat → Nat → Prop} (hH : ∀ q t, H q t → H' q t) : ∀ {tag q : Nat}, CN S B bt fact H tag q → CN S B bt fact H' tag q
 | 0, _, h => h
 | 1, q, h => h.imp id fun ⟨r, h1, h2, h3, h4⟩ => ⟨r, h1, h2, h3, fun b hb => hH _ _ (h4 b hb)⟩
 | 2, q, ⟨h1, h2⟩ => ⟨h1, fun r a b c => let ⟨x, hx, hy⟩ := h2 r a b c; ⟨x, hx, hH _ _ hy⟩⟩
 | 3, q, h => h.imp (hH _ _) fun ⟨⟨r, h1, h2, h3, h4⟩, h5, h6⟩ => ⟨⟨r, h1, h2, h3, fun b hb => hH _ _ (h4 b hb)⟩, fun f hf => hH _ _ (h5 f hf), fun f hf s hs he => (h6 f hf s hs he).imp (fun ⟨x, hx, hy⟩ => ⟨x, hx, hH _ _ hy⟩) fun ⟨t, a, b, c, d, e⟩ => ⟨t, a, b, c, d, fun x hx => hH _ _ (e x hx)⟩⟩
 | 4, q, ⟨h1, h2⟩ => ⟨hH _ _ h1, h2.imp (fun h r a b c => let ⟨x, hx, hy⟩ := h r a b c; ⟨x, hx, hH _ _ hy⟩) fun h => h.imp (fun ⟨f, a, b⟩ => ⟨f, a, hH _ _ b⟩) fun ⟨f, a, s, b, c, d, e⟩ => ⟨f, a, s, b, c, fun x hx => hH _ _ (d x hx), fun t i j k l => let ⟨x, hx, hy⟩ := e t i j k l; ⟨x, hx, hH _ _ hy⟩⟩⟩
 | _ + 5, _, h => h

/-- What is laid, as the law needs it. -/
structure Ctx (S : Stc) (B bt : Nat → List Nat) : Prop where
 hd : ∀ r, r < S.m → S.head r < S.n
 bn : ∀ r, r < S.m → (B r).Nodup
 bl : ∀ r, r < S.m → (B r).length ≤ 16
 blen : ∀ r, r < S.m → S.bodyLen r = (B r).length
 bq : ∀ r, r < S.m → ∀ b ∈ B r, b < S.n
 inn : ∀ q, q < S.n → ∀ r, r ∈ S.inn q ↔ r < S.m ∧ q ∈ B r
 innd : ∀ q, q < S.n → (S.inn q).Nodup
 fq : ∀ q, q < S.n → ∀ f ∈ S.foes q, f < S.n
 fs : ∀ q, q < S.n → ∀ f ∈ S.foes q, q ∈ S.foes f
 fnd : ∀ q, q < S.n → (S.foes q).Nodup
 fl : ∀ q, q < S.n → (S.foes q).length ≤ 4096
 ofs : ∀ s, s < S.m → ∀ p, p ∈ S.ofs s ↔ p < S.P ∧ S.ps p = s
 ofn : ∀ s, s < S.m → (S.ofs s).Nodup
 bts : ∀ t, t < S.m → ∀ p, p ∈ S.beats t ↔ supR S t = true ∧ p < S.P ∧ S.pq p = S.head t ∧ S.ps p ∈ bt t
 btn : ∀ t, t < S.m → (S.beats t).Nodup
 pqn : ∀ p, p < S.P → S.pq p < S.n
 psm : ∀ p, p < S.P → S.ps p < S.m
 pf : ∀ p, p < S.P → S.pq p ∈ S.foes (S.head (S.ps p))
 pall : ∀ t, t < S.m → supR S t = true → ∀ s, s < S.m → S.head t ∈ S.foes (S.head s) → ∃ p, p < S.P ∧ S.pq p = S.head t ∧ S.ps p = s
 n4 : S.n ≤ 4096
 m4 : S.m ≤ 4096
 P4 : S.P ≤ 65536
structure Gs where
 d1 : Nat → Nat → Bool
 d3 : Nat → Nat → Bool
 dO : Nat → Nat → Bool
 dL : Nat → Nat → Bool
 dB : Nat → Bool
def HT (D : Dyn) (q tag : Nat) : Prop := hasT D q tag = true
def Ord (S : Stc) (B bt : Nat → List Nat) (fact : Nat → Bool) (l : List (Nat × Nat)) : Prop := ∀ i q tag, l[i]? = some (q, tag) → CN S B bt fact (fun q' t' => (q', t') ∈ l.take i) tag q
def cSt (S : Stc) (D : Dyn) (q : Nat) : Nat := (List.range S.m).countP fun r => strR S r && decide (S.head r = q) && !D.deadD r
def cSd (S : Stc) (D : Dyn) (q : Nat) : Nat := (List.range S.m).countP fun r => strR S r && decide (S.head r = q) && D.deadD r
def cBk (S : Stc) (g : Gs) (q : Nat) : Nat := (List.range S.m).countP fun r => supR S r && decide (S.head r = q) && !g.dB r
def cAt (S : Stc) (D : Dyn) (q : Nat) : Nat := (List.range S.P).countP fun p => decide (S.pq p = q) && !D.settled p
def cLe (S : Stc) (g : Gs) (p : Nat) : Nat := (List.range S.m).countP fun t => decide (p ∈ S.beats t) && !g.dL t p
structure SI (S : Stc) (B bt : Nat → List Nat) (fact : Nat → Bool) (D : Dyn) (g : Gs) : Prop where
 ti : TI S.n D
 ord : Ord S B bt fact D.told
 n1 : ∀ r, r < S.m → strR S r = true → D.needD r = ((B r).countP (fun b => !g.d1 r b) : Nat)
 n1h : ∀ r b, g.d1 r b = true → HT D b 1
 n3 : ∀ r, r < S.m → D.need r = ((B r).countP (fun b => !g.d3 r b) : Nat)
 n3h : ∀ r b, g.d3 r b = true → HT D b 3
 kD : ∀ r, r < S.m → D.deadD r = true → ∃ b ∈ B r, HT D b 2
 k : ∀ r, r < S.m → D.dead r = true → ∃ b ∈ B r, HT D b 4
 st : ∀ q, q < S.n → D.strict q = if fact q = true then -1 - (cSd S D q : Int) else (cSt S D q : Int)
 bk : ∀ q, q < S.n → D.backs q = (cBk S g q : Int)
 bkh : ∀ r, r < S.m → g.dB r = true → D.dead r = true
 bd : ∀ q, q < S.n → D.backed q = true → ∃ r, r < S.m ∧ S.head r = q ∧ supR S r = true ∧ ∀ b ∈ B r, HT D b 3
 op : ∀ q, q < S.n → D.opn q = ((S.foes q).countP (fun f => !g.dO q f) : Nat)
 oph : ∀ q f, g.dO q f = true → HT D f 2
 cl : ∀ q, q < S.n → D.clash q = true → ∃ f ∈ S.foes q, HT D f 1
 se : ∀ p, p < S.P → D.settled p = true → (∃ b ∈ B (S.ps p), HT D b 4) ∨ ∃ t, t < S.m ∧ S.head t = S.pq p ∧ supR S t = true ∧ S.ps p ∈ bt t ∧ ∀ b ∈ B t, HT D b 3
 at1 : ∀ q, q < S.n → D.attacks q = (cAt S D q : Int)
 le : ∀ p, p < S.P → D.left p = (cLe S g p : Int)
 leh : ∀ t p, t < S.m → g.dL t p = true → D.dead t = true
 sd : ∀ q, q < S.n → D.standing q = true → ∃ f ∈ S.foes q, ∃ s, s < S.m ∧ S.head s = f ∧ (∀ b ∈ B s, HT D b 3) ∧ ∀ t, t < S.m → S.head t = q → supR S t = true → s ∈ bt t → ∃ b ∈ B t, HT D b 4
section
variable {S : Stc} {B bt : Nat → List Nat} {fact : Nat → Bool} {D : Dyn} {g : Gs}
theorem SI.tick (h : SI S B bt fact D g) (k : Int) : SI S B bt fact (tick D k) g := { h with ti := h.ti.other rfl rfl }
theorem SI.upd (h : SI S B bt fact D g) (x : Int) : SI S B bt fact { D with upd := x } g := { h with ti := h.ti.other rfl rfl }
theorem SI.tickB (h : SI S B bt fact D g) (r : Nat) : SI S B bt fact (tickB S D r) g := by
 unfold Lx.tickB; split
 ·exact h.tick 1
 ·exact h
/-- What follows is told. -/
theorem HT.tell {q tag q' t' : Nat} (h1 : 1 ≤ tag) (h : 1 ≤ t') (hh : HT D q' t') : HT (tellD D q tag) q' t' := (hasT_tell h1 h).2 (.inl hh)
theorem SI.tell (h : SI S B bt fact D g) {q tag : Nat} (hq : q < S.n) (h1 : 1 ≤ tag) (h4 : tag ≤ 4) (hv : CN S B bt fact (HT D) tag q) : SI S B bt fact (tellD D q tag) g := by
 by_cases hh : hasT D q tag = true
 ·rw [tell_has hh]; exact h
 have e : tellD D q tag = { D with marks := Tj.upd D.marks q (D.marks q ||| 2 ^ (tag - 1)), told := D.told ++ [(q, tag)], queued := addW D.queued 1, upd := addW D.upd 2 } := by unfold tellD; rw [if_neg hh]
 have ht := h.ti.tell hq h1 h4
 have mon : ∀ q' t', 1 ≤ t' → HT D q' t' → HT (tellD D q tag) q' t' := fun q' t' k hk => HT.tell h1 k hk
 have hord : Ord S B bt fact (tellD D q tag).told := by
  rw [tell_told hh]
  intro i q' t' hi
  by_cases hil : i < D.told.length
  ·rw [List.getElem?_append_left hil] at hi
   rw [List.take_append_of_le_length (by omega)]
   exact h.ord i q' t' hi
  ·rw [List.getElem?_append_right (by omega)] at hi
   have hz : i - D.told.length = 0 := by
    rcases Nat.eq_zero_or_pos (i - D.told.length) with e | e
    ·exact e
    ·rw [List.getElem?_eq_none (by simp only [List.length_singleton]; omega)] at hi; cases hi
   rw [hz] at hi
   simp only [List.getElem?_cons_zero, Option.some.injEq, Prod.mk.injEq] at hi
   obtain ⟨rfl, rfl⟩ := hi
   rw [show i = D.told.length by omega, List.take_left' rfl]
   have hs : ∀ H : Nat → Nat → Prop, (∀ q' t', 1 ≤ t' → t' ≤ 4 → HT D q' t' → H q' t') → CN S B bt fact (HT D) tag q → CN S B bt fact H tag q := fun H hH hc => by
    have : CN S B bt fact (fun q' t' => HT D q' t' ∧ 1 ≤ t' ∧ t' ≤ 4) tag q := by
     match tag, h1, h4, hc with
     | 1, _, _, hc => exact hc.imp id fun ⟨r, a, b, c, d⟩ => ⟨r, a, b, c, fun x hx => ⟨d x hx, by omega, by omega⟩⟩
     | 2, _, _, hc => exact ⟨hc.1, fun r a b c => let ⟨x, hx, hy⟩ := hc.2 r a b c; ⟨x, hx, hy, by omega, by omega⟩⟩
     | 3, _, _, hc => exact hc.imp (fun k => ⟨k, by omega, by omega⟩) fun ⟨⟨r, a, b, c, d⟩, e, f⟩ => ⟨⟨r, a, b, c, fun x hx => ⟨d x hx, by omega, by omega⟩⟩, fun x hx => ⟨e x hx, by omega, by omega⟩, fun x hx s hs he => (f x hx s hs he).imp (fun ⟨y, hy, hz⟩ => ⟨y, hy, hz, by omega, by omega⟩) fun ⟨t, a, b, c, d, k⟩ => ⟨t, a, b, c, d, fun y hy => ⟨k y hy, by omega, by omega⟩⟩⟩
     | 4, _, _, hc => exact ⟨⟨hc.1, by omega, by omega⟩, hc.2.imp (fun k r a b c => let ⟨x, hx, hy⟩ := k r a b c; ⟨x, hx, hy, by omega, by omega⟩) fun k => k.imp (fun ⟨f, a, b⟩ => ⟨f, a, b, by omega, by omega⟩) fun ⟨f, a, s, b, c, d, e⟩ => ⟨f, a, s, b, c, fun x hx => ⟨d x hx, by omega, by omega⟩, fun t i j k l => let ⟨x, hx, hy⟩ := e t i j k l; ⟨x, hx, hy, by omega, by omega⟩⟩⟩
    exact this.mono fun q' t' ⟨a, b, c⟩ => hH q' t' b c a
   exact hs _ (fun q' t' a b c => (h.ti.has q' t' a b).2 c) hv
 refine ⟨ht, hord, ?_, fun r b hb => mon _ _ (by omega) (h.n1h r b hb), ?_, fun r b hb => mon _ _ (by omega) (h.n3h r b hb), ?_, ?_, ?_, ?_, ?_, ?_, ?_, fun q' f hf => mon _ _ (by omega) (h.oph q' f hf), ?_, ?_, ?_, ?_, ?_, ?_⟩
 ·rw [e]; exact h.n1
 ·rw [e]; exact h.n3
 ·intro r hr hd; rw [e] at hd; obtain ⟨b, h1, h2⟩ := h.kD r hr hd; exact ⟨b, h1, mon _ _ (by omega) h2⟩
 ·intro r hr hd; rw [e] at hd; obtain ⟨b, h1, h2⟩ := h.k r hr hd; exact ⟨b, h1, mon _ _ (by omega) h2⟩
 ·rw [e]; exact h.st
 ·rw [e]; exact h.bk
 ·rw [e]; exact h.bkh
 ·intro r hr hd; rw [e] at hd; obtain ⟨x, a, b, c, d⟩ := h.bd r hr hd; exact ⟨x, a, b, c, fun y hy => mon _ _ (by omega) (d y hy)⟩
 ·rw [e]; exact h.op
 ·intro r hr hd; rw [e] at hd; obtain ⟨b, h1, h2⟩ := h.cl r hr hd; exact ⟨b, h1, mon _ _ (by omega) h2⟩
 ·intro p hp hs; rw [e] at hs
  exact (h.se p hp hs).imp (fun ⟨b, h1, h2⟩ => ⟨b, h1, mon _ _ (by omega) h2⟩) fun ⟨t, a, b, c, d, k⟩ => ⟨t, a, b, c, d, fun y hy => mon _ _ (by omega) (k y hy)⟩
 ·rw [e]; exact h.at1
 ·rw [e]; exact h.le
 ·rw [e]; exact h.leh
 ·intro q' hq' hs; rw [e] at hs
  obtain ⟨f, a, s, b, c, d, k⟩ := h.sd q' hq' hs
  exact ⟨f, a, s, b, c, fun y hy => mon _ _ (by omega) (d y hy), fun t i j l m => let ⟨x, hx, hy⟩ := k t i j l m; ⟨x, hx, mon _ _ (by omega) hy⟩⟩
end
end Go.Proofs.Lx

namespace Go.Proofs.Lx
open Go Go.RowKit Go.Proofs.Tj
set_option linter.unusedVariables false
section
variable {S : Stc} {B bt : Nat → List Nat} {fact : Nat → Bool} {D : Dyn} {g : Gs}
theorem SI.cn3 (c : Ctx S B bt) (h : SI S B bt fact D g) {q : Nat} (hq : q < S.n) (hA : lookA D q = true) : CN S B bt fact (HT D) 3 q := by
 unfold lookA at hA
 rw [Bool.or_eq_true] at hA
 rcases hA with h1 | h1
 ·exact .inl h1
 ·simp only [Bool.and_eq_true, beq_iff_eq] at h1
  obtain ⟨⟨hb, ho⟩, ha⟩ := h1
  refine .inr ⟨h.bd q hq hb, fun f hf => ?_, fun f hf s hs he => ?_⟩
  ·rw [h.op q hq] at ho
   have := countP_zero (by omega : (S.foes q).countP (fun f => !g.dO q f) = 0) hf
   exact h.oph q f (by simpa using this)
  ·obtain ⟨r, hr, hrq, hsup, _⟩ := h.bd q hq hb
   obtain ⟨p, hp, hpq, hps⟩ := c.pall r hr hsup s hs (by rw [hrq, he]; exact c.fs q hq f hf)
   rw [h.at1 q hq] at ha
   have hz := countP_zero (by unfold cAt at ha; omega : (List.range S.P).countP (fun p => decide (S.pq p = q) && !D.settled p) = 0) (List.mem_range.2 hp)
   have hset : D.settled p = true := by
    rw [hpq, hrq] at hz
    simpa using hz
   have := h.se p hp hset
   rw [hps, hpq, hrq] at this
   exact this
theorem SI.cn4 (c : Ctx S B bt) (h : SI S B bt fact D g) {q : Nat} (hq : q < S.n) (hB : lookB D q = true) : CN S B bt fact (HT D) 4 q := by
 unfold lookB at hB
 simp only [Bool.and_eq_true, Bool.or_eq_true, beq_iff_eq] at hB
 obtain ⟨h2, (h3 | h3) | h3⟩ := hB
 ·refine ⟨h2, .inl fun r hr hh hsup => ?_⟩
  rw [h.bk q hq] at h3
  have hz := countP_zero (by unfold cBk at h3; omega : (List.range S.m).countP (fun r => supR S r && decide (S.head r = q) && !g.dB r) = 0) (List.mem_range.2 hr)
  rw [hsup, hh] at hz
  exact h.k r hr (h.bkh r hr (by simpa using hz))
 ·exact ⟨h2, .inr (.inl (h.cl q hq h3))⟩
 ·exact ⟨h2, .inr (.inr (h.sd q hq h3))⟩
theorem SI.look1 (c : Ctx S B bt) (h : SI S B bt fact D g) {q : Nat} (hq : q < S.n) : SI S B bt fact (look1 D q) g := by
 unfold Lx.look1; split
 ·next hA => exact h.tell hq (by omega) (by omega) (h.cn3 c hq hA)
 ·exact h
theorem SI.look2 (c : Ctx S B bt) (h : SI S B bt fact D g) {q : Nat} (hq : q < S.n) : SI S B bt fact (look2 D q) g := by
 unfold Lx.look2; split
 ·next hA => exact h.tell hq (by omega) (by omega) (h.cn4 c hq hA)
 ·exact h
theorem SI.look (c : Ctx S B bt) (h : SI S B bt fact D g) {q : Nat} (hq : q < S.n) : SI S B bt fact (lookD D q) g := (h.look1 c hq).look2 c hq

def or1 (d : Nat → Nat → Bool) (r q : Nat) : Nat → Nat → Bool := fun a b => d a b || (decide (a = r) && decide (b = q))
theorem or1_same (d : Nat → Nat → Bool) (r q : Nat) : or1 d r q r q = true := by simp [or1]
theorem or1_row {d : Nat → Nat → Bool} {r q a : Nat} (h : a ≠ r) (b : Nat) : or1 d r q a b = d a b := by simp [or1, h]
theorem or1_col {d : Nat → Nat → Bool} {r q b : Nat} (h : b ≠ q) (a : Nat) : or1 d r q a b = d a b := by simp [or1, h]
theorem or1_of {d : Nat → Nat → Bool} {r q a b : Nat} (h : or1 d r q a b = true) : d a b = true ∨ (a = r ∧ b = q) := by simpa [or1] using h
/-- A counter over a row goes down by one. -/
theorem count_or1 {l : List Nat} (hn : l.Nodup) {d : Nat → Nat → Bool} {r q : Nat} (hq : q ∈ l) (hd : d r q = false) : l.countP (fun b => !or1 d r q r b) + 1 = l.countP (fun b => !d r b) :=
 countP_less hn hq (by simp [hd]) (by simp [or1_same]) fun y _ hy => by rw [or1_col hy]
theorem count_or1_far {l : List Nat} {d : Nat → Nat → Bool} {r q a : Nat} (h : a ≠ r) : l.countP (fun b => !or1 d r q a b) = l.countP (fun b => !d a b) := countP_same fun y _ => by rw [or1_row h]
theorem countP_le_len {α : Type} (p : α → Bool) (l : List α) : l.countP p ≤ l.length := List.countP_le_length

theorem SI.decNeedD (c : Ctx S B bt) (h : SI S B bt fact D g) {r q : Nat} (hr : r < S.m) (hb : q ∈ B r) (hq : HT D q 1) (hd : g.d1 r q = false) : SI S B bt fact (decNeedD D r) { g with d1 := or1 g.d1 r q } := by
 refine { h with ti := h.ti.other rfl rfl, n1 := fun a ha hst => ?_, n1h := fun a b hab => ?_ }
 ·show Tj.upd D.needD r (subW (D.needD r) 1) a = (((B a).countP fun b => !or1 g.d1 r q a b : Nat) : Int)
  by_cases e : a = r
  ·subst e
   have h1 := count_or1 (c.bn a ha) hb hd
   have h2 := h.n1 a ha hst
   have h3 := countP_le_len (fun b => !g.d1 a b) (B a)
   have h4 := c.bl a ha
   rw [Tj.upd_same, h2, subW_small (by omega) (by omega)]
   omega
  ·rw [Tj.upd_ne e, h.n1 a ha hst, count_or1_far e]
 ·rcases or1_of hab with h1 | ⟨h1, h2⟩
  ·exact h.n1h a b h1
  ·rw [h2]; exact hq
theorem SI.decNeed (c : Ctx S B bt) (h : SI S B bt fact D g) {r q : Nat} (hr : r < S.m) (hb : q ∈ B r) (hq : HT D q 3) (hd : g.d3 r q = false) : SI S B bt fact (decNeed D r) { g with d3 := or1 g.d3 r q } := by
 refine { h with ti := h.ti.other rfl rfl, n3 := fun a ha => ?_, n3h := fun a b hab => ?_ }
 ·show Tj.upd D.need r (subW (D.need r) 1) a = (((B a).countP fun b => !or1 g.d3 r q a b : Nat) : Int)
  by_cases e : a = r
  ·subst e
   have h1 := count_or1 (c.bn a ha) hb hd
   have h2 := h.n3 a ha
   have h3 := countP_le_len (fun b => !g.d3 a b) (B a)
   have h4 := c.bl a ha
   rw [Tj.upd_same, h2, subW_small (by omega) (by omega)]
   omega
  ·rw [Tj.upd_ne e, h.n3 a ha, count_or1_far e]
 ·rcases or1_of hab with h1 | ⟨h1, h2⟩
  ·exact h.n3h a b h1
  ·rw [h2]; exact hq
theorem SI.need0 (h : SI S B bt fact D g) {r : Nat} (hr : r < S.m) (h0 : D.need r = 0) : ∀ b ∈ B r, HT D b 3 := fun b hb => by
 rw [h.n3 r hr] at h0
 have := countP_zero (by omega : (B r).countP (fun b => !g.d3 r b) = 0) hb
 exact h.n3h r b (by simpa using this)
theorem SI.needD0 (h : SI S B bt fact D g) {r : Nat} (hr : r < S.m) (hst : strR S r = true) (h0 : D.needD r = 0) : ∀ b ∈ B r, HT D b 1 := fun b hb => by
 rw [h.n1 r hr hst] at h0
 have := countP_zero (by omega : (B r).countP (fun b => !g.d1 r b) = 0) hb
 exact h.n1h r b (by simpa using this)
theorem SI.setClash (h : SI S B bt fact D g) {f q : Nat} (hq : q ∈ S.foes f) (ht : HT D q 1) : SI S B bt fact (setClash D f) g := by
 refine { h with ti := h.ti.other rfl rfl, cl := fun a ha hc => ?_ }
 have hc : Tj.upd D.clash f true a = true := hc
 by_cases e : a = f
 ·subst e; exact ⟨q, hq, ht⟩
 ·rw [Tj.upd_ne e] at hc; exact h.cl a ha hc
theorem SI.decOpn (c : Ctx S B bt) (h : SI S B bt fact D g) {f q : Nat} (hf : f < S.n) (hq : q ∈ S.foes f) (ht : HT D q 2) (hd : g.dO f q = false) : SI S B bt fact (decOpn D f) { g with dO := or1 g.dO f q } := by
 refine { h with ti := h.ti.other rfl rfl, op := fun a ha => ?_, oph := fun a b hab => ?_ }
 ·show Tj.upd D.opn f (subW (D.opn f) 1) a = (((S.foes a).countP fun b => !or1 g.dO f q a b : Nat) : Int)
  by_cases e : a = f
  ·subst e
   have h1 := count_or1 (c.fnd a ha) hq hd
   have h2 := h.op a ha
   have h3 := countP_le_len (fun b => !g.dO a b) (S.foes a)
   have h4 := c.fl a ha
   rw [Tj.upd_same, h2, subW_small (by omega) (by omega)]
   omega
  ·rw [Tj.upd_ne e, h.op a ha, count_or1_far e]
 ·rcases or1_of hab with h1 | ⟨h1, h2⟩
  ·exact h.oph a b h1
  ·rw [h2]; exact ht
theorem SI.setBacked (h : SI S B bt fact D g) {r : Nat} (hr : r < S.m) (hs : supR S r = true) (hw : ∀ b ∈ B r, HT D b 3) : SI S B bt fact (setBacked D (S.head r)) g := by
 refine { h with ti := h.ti.other rfl rfl, bd := fun a ha hc => ?_ }
 have hc : Tj.upd D.backed (S.head r) true a = true := hc
 by_cases e : a = S.head r
 ·exact ⟨r, hr, e.symm, hs, hw⟩
 ·rw [Tj.upd_ne e] at hc; exact h.bd a ha hc
theorem SI.setDead (h : SI S B bt fact D g) {r q : Nat} (hb : q ∈ B r) (ht : HT D q 4) : SI S B bt fact (setDead D r) g := by
 have hup : ∀ a, D.dead a = true → (Lx.setDead D r).dead a = true := fun a ha => by
  show Tj.upd D.dead r true a = true
  by_cases e : a = r
  ·rw [e, Tj.upd_same]
  ·rw [Tj.upd_ne e]; exact ha
 refine { h with ti := h.ti.other rfl rfl, k := fun a ha hc => ?_, bkh := fun a ha hd => hup a (h.bkh a ha hd), leh := fun t p ha hd => hup t (h.leh t p ha hd) }
 have hc : Tj.upd D.dead r true a = true := hc
 by_cases e : a = r
 ·rw [e]; exact ⟨q, hb, ht⟩
 ·rw [Tj.upd_ne e] at hc; exact h.k a ha hc
/-- A pair is settled. -/
theorem SI.settle0 (c : Ctx S B bt) (h : SI S B bt fact D g) {p : Nat} (hp : p < S.P) (hs : D.settled p = false)
  (hw : (∃ b ∈ B (S.ps p), HT D b 4) ∨ ∃ t, t < S.m ∧ S.head t = S.pq p ∧ supR S t = true ∧ S.ps p ∈ bt t ∧ ∀ b ∈ B t, HT D b 3) : SI S B bt fact (decAttacks (setSettled D p) (S.pq p)) g := by
 refine { h with ti := h.ti.other rfl rfl, se := fun a ha hc => ?_, at1 := fun q hq => ?_ }
 ·have hc : Tj.upd D.settled p true a = true := hc
  by_cases e : a = p
  ·rw [e]; exact hw
  ·rw [Tj.upd_ne e] at hc; exact h.se a ha hc
 ·show Tj.upd D.attacks (S.pq p) (subW (D.attacks (S.pq p)) 1) q = (((List.range S.P).countP fun x => decide (S.pq x = q) && !Tj.upd D.settled p true x : Nat) : Int)
  by_cases e : q = S.pq p
  ·subst e
   have h1 := countP_less (p := fun x => decide (S.pq x = S.pq p) && !D.settled x) (p' := fun x => decide (S.pq x = S.pq p) && !Tj.upd D.settled p true x) (List.nodup_range (n := S.P)) (List.mem_range.2 hp) (by simp [hs]) (by simp [Tj.upd_same]) (fun y _ hy => by rw [Tj.upd_ne hy])
   have h2 := h.at1 _ hq
   unfold cAt at h2
   have h3 := countP_le_len (fun x => decide (S.pq x = S.pq p) && !D.settled x) (List.range S.P)
   rw [List.length_range] at h3
   have h4 := c.P4
   rw [Tj.upd_same, h2, subW_small (by omega) (by omega)]
   omega
  ·rw [Tj.upd_ne e, h.at1 q hq]
   unfold cAt
   congr 1
   refine (countP_same fun x _ => ?_).symm
   by_cases e2 : x = p
   ·subst e2; have hne : decide (S.pq x = q) = false := decide_eq_false fun k => e k.symm
    simp [hne]
   ·rw [Tj.upd_ne e2]
theorem SI.setStanding (h : SI S B bt fact D g) {q : Nat} (hw : ∃ f ∈ S.foes q, ∃ s, s < S.m ∧ S.head s = f ∧ (∀ b ∈ B s, HT D b 3) ∧ ∀ t, t < S.m → S.head t = q → supR S t = true → s ∈ bt t → ∃ b ∈ B t, HT D b 4) : SI S B bt fact (setStanding D q) g := by
 refine { h with ti := h.ti.other rfl rfl, sd := fun a ha hc => ?_ }
 have hc : Tj.upd D.standing q true a = true := hc
 by_cases e : a = q
 ·subst e; exact hw
 ·rw [Tj.upd_ne e] at hc; exact h.sd a ha hc
/-- All that a pair's standing needs. -/
theorem SI.stands (c : Ctx S B bt) (h : SI S B bt fact D g) {p : Nat} (hp : p < S.P) (hn : D.need (S.ps p) = 0) (hl : D.left p = 0) :
  ∃ f ∈ S.foes (S.pq p), ∃ s, s < S.m ∧ S.head s = f ∧ (∀ b ∈ B s, HT D b 3) ∧ ∀ t, t < S.m → S.head t = S.pq p → supR S t = true → s ∈ bt t → ∃ b ∈ B t, HT D b 4 := by
 have hs := c.psm p hp
 refine ⟨_, c.fs _ (c.hd _ hs) _ (c.pf p hp), _, hs, rfl, h.need0 hs hn, fun t ht he hsup hbt => ?_⟩
 rw [h.le p hp] at hl
 have hz := countP_zero (by unfold cLe at hl; omega : (List.range S.m).countP (fun t => decide (p ∈ S.beats t) && !g.dL t p) = 0) (List.mem_range.2 ht)
 have hm : p ∈ S.beats t := (c.bts t ht p).2 ⟨hsup, hp, he.symm, hbt⟩
 exact h.k t ht (h.leh t p ht (by simpa [hm] using hz))
def orB (d : Nat → Bool) (r : Nat) : Nat → Bool := fun a => d a || decide (a = r)
theorem SI.decBacks (c : Ctx S B bt) (h : SI S B bt fact D g) {r : Nat} (hr : r < S.m) (hs : supR S r = true) (hdead : D.dead r = true) (hd : g.dB r = false) : SI S B bt fact (decBacks D (S.head r)) { g with dB := orB g.dB r } := by
 refine { h with ti := h.ti.other rfl rfl, bk := fun q hq => ?_, bkh := fun a ha hab => ?_ }
 ·show Tj.upd D.backs (S.head r) (subW (D.backs (S.head r)) 1) q = (((List.range S.m).countP fun x => supR S x && decide (S.head x = q) && !orB g.dB r x : Nat) : Int)
  by_cases e : q = S.head r
  ·subst e
   have h1 := countP_less (p := fun x => supR S x && decide (S.head x = S.head r) && !g.dB x) (p' := fun x => supR S x && decide (S.head x = S.head r) && !orB g.dB r x) (List.nodup_range (n := S.m)) (List.mem_range.2 hr) (by simp [hs, hd]) (by simp [orB]) (fun y _ hy => by simp [orB, hy])
   have h2 := h.bk _ hq
   unfold cBk at h2
   have h3 := countP_le_len (fun x => supR S x && decide (S.head x = S.head r) && !g.dB x) (List.range S.m)
   rw [List.length_range] at h3
   have h4 := c.m4
   rw [Tj.upd_same, h2, subW_small (by omega) (by omega)]
   omega
  ·rw [Tj.upd_ne e, h.bk q hq]
   unfold cBk
   congr 1
   refine (countP_same fun x _ => ?_).symm
   by_cases e2 : x = r
   ·subst e2; have hne : decide (S.head x = q) = false := decide_eq_false fun k => e k.symm
    simp [hne]
   ·simp [orB, e2]
 ·have hab : orB g.dB r a = true := hab
  unfold orB at hab
  rw [Bool.or_eq_true] at hab
  rcases hab with h1 | h1
  ·exact h.bkh a ha h1
  ·rw [of_decide_eq_true h1]; exact hdead
theorem SI.decLeft (c : Ctx S B bt) (h : SI S B bt fact D g) {t p : Nat} (ht : t < S.m) (hp : p ∈ S.beats t) (hdead : D.dead t = true) (hd : g.dL t p = false) : SI S B bt fact (decLeft D p) { g with dL := or1 g.dL t p } := by
 refine { h with ti := h.ti.other rfl rfl, le := fun q hq => ?_, leh := fun a b ha hab => ?_ }
 ·show Tj.upd D.left p (subW (D.left p) 1) q = (((List.range S.m).countP fun x => decide (q ∈ S.beats x) && !or1 g.dL t p x q : Nat) : Int)
  by_cases e : q = p
  ·subst e
   have h1 := countP_less (p := fun x => decide (q ∈ S.beats x) && !g.dL x q) (p' := fun x => decide (q ∈ S.beats x) && !or1 g.dL t q x q) (List.nodup_range (n := S.m)) (List.mem_range.2 ht) (by simp [hp, hd]) (by simp [or1_same]) (fun y _ hy => by rw [or1_row hy])
   have h2 := h.le _ hq
   unfold cLe at h2
   have h3 := countP_le_len (fun x => decide (q ∈ S.beats x) && !g.dL x q) (List.range S.m)
   rw [List.length_range] at h3
   have h4 := c.m4
   rw [Tj.upd_same, h2, subW_small (by omega) (by omega)]
   omega
  ·rw [Tj.upd_ne e, h.le q hq]
   unfold cLe
   congr 1
   exact (countP_same fun x _ => by rw [or1_col e]).symm
 ·rcases or1_of hab with h1 | ⟨h1, _⟩
  ·exact h.leh a b ha h1
  ·rw [h1]; exact hdead
/-- A strict rule is dead by D; its head's counter goes down. -/
theorem SI.killD (c : Ctx S B bt) (h : SI S B bt fact D g) {r q : Nat} (hr : r < S.m) (hs : strR S r = true) (hb : q ∈ B r) (ht : HT D q 2) (hd : D.deadD r = false) : SI S B bt fact (decStrict (setDeadD D r) (S.head r)) g := by
 refine { h with ti := h.ti.other rfl rfl, kD := fun a ha hc => ?_, st := fun a ha => ?_ }
 ·have hc : Tj.upd D.deadD r true a = true := hc
  by_cases e : a = r
  ·rw [e]; exact ⟨q, hb, ht⟩
  ·rw [Tj.upd_ne e] at hc; exact h.kD a ha hc
 ·show Tj.upd D.strict (S.head r) (subW (D.strict (S.head r)) 1) a = if fact a = true then -1 - (((List.range S.m).countP fun x => strR S x && decide (S.head x = a) && Tj.upd D.deadD r true x : Nat) : Int) else (((List.range S.m).countP fun x => strR S x && decide (S.head x = a) && !Tj.upd D.deadD r true x : Nat) : Int)
  by_cases e : a = S.head r
  ·subst e
   have h1 := countP_less (p := fun x => strR S x && decide (S.head x = S.head r) && !D.deadD x) (p' := fun x => strR S x && decide (S.head x = S.head r) && !Tj.upd D.deadD r true x) (List.nodup_range (n := S.m)) (List.mem_range.2 hr) (by simp [hs, hd]) (by simp [Tj.upd_same]) (fun y _ hy => by rw [Tj.upd_ne hy])
   have h1b := countP_less (p' := fun x => strR S x && decide (S.head x = S.head r) && D.deadD x) (p := fun x => strR S x && decide (S.head x = S.head r) && Tj.upd D.deadD r true x) (List.nodup_range (n := S.m)) (List.mem_range.2 hr) (by simp [hs, Tj.upd_same]) (by simp [hd]) (fun y _ hy => by rw [Tj.upd_ne hy])
   have h2 := h.st _ ha
   unfold cSt cSd at h2
   have h3 := countP_le_len (fun x => strR S x && decide (S.head x = S.head r) && !D.deadD x) (List.range S.m)
   have h3b := countP_le_len (fun x => strR S x && decide (S.head x = S.head r) && D.deadD x) (List.range S.m)
   rw [List.length_range] at h3 h3b
   have h4 := c.m4
   rw [Tj.upd_same, h2]
   by_cases hf : fact (S.head r) = true
   ·rw [if_pos hf, if_pos hf, subW_small (by omega) (by omega)]; omega
   ·rw [if_neg hf, if_neg hf, subW_small (by omega) (by omega)]; omega
  ·rw [Tj.upd_ne e, h.st a ha]
   unfold cSt cSd
   have e1 : (List.range S.m).countP (fun x => strR S x && decide (S.head x = a) && Tj.upd D.deadD r true x) = (List.range S.m).countP (fun x => strR S x && decide (S.head x = a) && D.deadD x) := countP_same fun x _ => by
    by_cases e2 : x = r
    ·subst e2; have hne : decide (S.head x = a) = false := decide_eq_false fun k => e k.symm
     simp [hne]
    ·rw [Tj.upd_ne e2]
   have e2 : (List.range S.m).countP (fun x => strR S x && decide (S.head x = a) && !Tj.upd D.deadD r true x) = (List.range S.m).countP (fun x => strR S x && decide (S.head x = a) && !D.deadD x) := countP_same fun x _ => by
    by_cases e2 : x = r
    ·subst e2; have hne : decide (S.head x = a) = false := decide_eq_false fun k => e k.symm
     simp [hne]
    ·rw [Tj.upd_ne e2]
   rw [e1, e2]
theorem SI.strict0 (h : SI S B bt fact D g) {q : Nat} (hq : q < S.n) (h0 : D.strict q = 0) : CN S B bt fact (HT D) 2 q := by
 rw [h.st q hq] at h0
 by_cases hf : fact q = true
 ·rw [if_pos hf] at h0; omega
 ·rw [if_neg hf] at h0
  refine ⟨by simpa using hf, fun r hr he hs => ?_⟩
  have hz := countP_zero (by unfold cSt at h0; omega : (List.range S.m).countP (fun x => strR S x && decide (S.head x = q) && !D.deadD x) = 0) (List.mem_range.2 hr)
  exact h.kD r hr (by simpa [hs, he] using hz)
end
end Go.Proofs.Lx

namespace Go.Proofs.Lx
open Go Go.RowKit Go.Proofs.Tj
set_option linter.unusedVariables false
/-- What has been worked off: of a rule's body literals, of a literal's foes, of what was looked at. -/
structure Prc where
 a1 : Nat → Nat → Prop
 a2 : Nat → Nat → Prop
 a3 : Nat → Nat → Prop
 a4 : Nat → Nat → Prop
 aO : Nat → Nat → Prop
 aC : Nat → Nat → Prop
 l1 : Nat → Prop
 l2 : Nat → Prop
/-- What may still be wanting, in the midst of an event. -/
structure Exc where
 e1 : Nat → Prop
 e2 : Nat → Prop
 e3 : Nat → Prop
 e4 : Nat → Prop
 e5 : Nat → Nat → Prop
 e6 : Nat → Prop
 e7 : Nat → Prop
 e8 : Nat → Prop
 eL : Nat → Nat → Prop
 eB : Nat → Prop
def noE : Exc := ⟨fun _ => False, fun _ => False, fun _ => False, fun _ => False, fun _ _ => False, fun _ => False, fun _ => False, fun _ => False, fun _ _ => False, fun _ => False⟩
structure CI (S : Stc) (B : Nat → List Nat) (D : Dyn) (g : Gs) (pc : Prc) (ex : Exc) : Prop where
 c1 : ∀ r, r < S.m → strR S r = true → ∀ b ∈ B r, (g.d1 r b = true ↔ pc.a1 r b)
 c3 : ∀ r, r < S.m → ∀ b ∈ B r, (g.d3 r b = true ↔ pc.a3 r b)
 c2 : ∀ r, r < S.m → strR S r = true → ∀ b ∈ B r, pc.a2 r b → D.deadD r = true
 c4 : ∀ r, r < S.m → ∀ b ∈ B r, pc.a4 r b → D.dead r = true
 cOa : ∀ f, f < S.n → ∀ q ∈ S.foes f, g.dO f q = true → pc.aO f q
 cOb : ∀ f, f < S.n → (D.backs f ≠ 0 ∨ D.backed f = true) → ∀ q ∈ S.foes f, pc.aO f q → g.dO f q = true
 cL : ∀ t, t < S.m → ∀ p ∈ S.beats t, ¬ ex.eL t p → (g.dL t p = true ↔ D.dead t = true)
 cB : ∀ r, r < S.m → supR S r = true → ¬ ex.eB r → (g.dB r = true ↔ D.dead r = true)
 cC : ∀ f, f < S.n → D.backs f ≠ 0 → ∀ q ∈ S.foes f, pc.aC f q → D.clash f = true
 x1 : ∀ r, r < S.m → strR S r = true → ¬ ex.e1 r → D.needD r = 0 → HT D (S.head r) 1
 x2 : ∀ q, q < S.n → ¬ ex.e2 q → D.strict q = 0 → HT D q 2
 x3 : ∀ r, r < S.m → supR S r = true → ¬ ex.e3 r → D.need r = 0 → D.backed (S.head r) = true
 x4 : ∀ p, p < S.P → ¬ ex.e4 p → D.dead (S.ps p) = true → D.settled p = true
 x5 : ∀ t, t < S.m → ∀ p ∈ S.beats t, ¬ ex.e5 t p → D.need t = 0 → D.settled p = true
 x6 : ∀ p, p < S.P → ¬ ex.e6 p → D.need (S.ps p) = 0 → D.left p = 0 → D.standing (S.pq p) = true
 x7 : ∀ q, q < S.n → ¬ ex.e7 q → (pc.l1 q ∨ (D.backed q = true ∧ D.opn q = 0 ∧ D.attacks q = 0)) → HT D q 3
 x8 : ∀ q, q < S.n → ¬ ex.e8 q → pc.l2 q → (D.backs q = 0 ∨ D.clash q = true ∨ D.standing q = true) → HT D q 4
section
variable {S : Stc} {B bt : Nat → List Nat} {fact : Nat → Bool} {D : Dyn} {g : Gs} {pc : Prc} {ex : Exc}
/-- What follows alike. -/
theorem CI.marks (h : CI S B D g pc ex) {D' : Dyn} (hm : ∀ q t, 1 ≤ t → HT D q t → HT D' q t) (e : D' = { D with marks := D'.marks, told := D'.told, queued := D'.queued, upd := D'.upd }) : CI S B D' g pc ex := by
 have f1 : D'.needD = D.needD := by rw [e]
 have f2 : D'.need = D.need := by rw [e]
 have f3 : D'.deadD = D.deadD := by rw [e]
 have f4 : D'.dead = D.dead := by rw [e]
 have f5 : D'.strict = D.strict := by rw [e]
 have f6 : D'.backs = D.backs := by rw [e]
 have f7 : D'.backed = D.backed := by rw [e]
 have f8 : D'.opn = D.opn := by rw [e]
 have f9 : D'.clash = D.clash := by rw [e]
 have f10 : D'.attacks = D.attacks := by rw [e]
 have f11 : D'.standing = D.standing := by rw [e]
 have f12 : D'.settled = D.settled := by rw [e]
 have f13 : D'.left = D.left := by rw [e]
 refine ⟨h.c1, h.c3, ?_, ?_, h.cOa, ?_, ?_, ?_, ?_, ?_, ?_, ?_, ?_, ?_, ?_, ?_, ?_⟩
 ·rw [f3]; exact h.c2
 ·rw [f4]; exact h.c4
 ·rw [f6, f7]; exact h.cOb
 ·rw [f4]; exact h.cL
 ·rw [f4]; exact h.cB
 ·rw [f6, f9]; exact h.cC
 ·rw [f1]; exact fun r a b c d => hm _ _ (by omega) (h.x1 r a b c d)
 ·rw [f5]; exact fun r a b c => hm _ _ (by omega) (h.x2 r a b c)
 ·rw [f2, f7]; exact h.x3
 ·rw [f4, f12]; exact h.x4
 ·rw [f2, f12]; exact h.x5
 ·rw [f2, f13, f11]; exact h.x6
 ·rw [f7, f8, f10]; exact fun r a b c => hm _ _ (by omega) (h.x7 r a b c)
 ·rw [f6, f9, f11]; exact fun r a b c d => hm _ _ (by omega) (h.x8 r a b c d)
theorem tell_shape (D : Dyn) (q tag : Nat) : tellD D q tag = { D with marks := (tellD D q tag).marks, told := (tellD D q tag).told, queued := (tellD D q tag).queued, upd := (tellD D q tag).upd } := by
 by_cases h : hasT D q tag = true
 ·rw [tell_has h]
 ·unfold tellD; rw [if_neg h]
theorem CI.tell (h : CI S B D g pc ex) {q tag : Nat} (h1 : 1 ≤ tag) : CI S B (tellD D q tag) g pc ex := h.marks (fun q' t' k hk => HT.tell h1 k hk) (tell_shape D q tag)
theorem CI.tick (h : CI S B D g pc ex) (k : Int) : CI S B (tick D k) g pc ex := h.marks (fun q t _ hk => hk) rfl
theorem CI.upd (h : CI S B D g pc ex) (x : Int) : CI S B { D with upd := x } g pc ex := h.marks (fun q t _ hk => hk) rfl
theorem CI.tickB (h : CI S B D g pc ex) (r : Nat) : CI S B (tickB S D r) g pc ex := by
 unfold Lx.tickB; split
 ·exact h.tick 1
 ·exact h
/-- What was told is there. -/
theorem HT.self (D : Dyn) {q tag : Nat} (h1 : 1 ≤ tag) : HT (tellD D q tag) q tag := (hasT_tell h1 h1).2 (.inr ⟨rfl, rfl⟩)
theorem look_shape (D : Dyn) (q : Nat) : lookD D q = { D with marks := (lookD D q).marks, told := (lookD D q).told, queued := (lookD D q).queued, upd := (lookD D q).upd } := by
 have h1 : ∀ D, look1 D q = { D with marks := (look1 D q).marks, told := (look1 D q).told, queued := (look1 D q).queued, upd := (look1 D q).upd } := fun D => by
  unfold look1; split
  ·exact tell_shape D q 3
  ·rfl
 have h2 : ∀ D, look2 D q = { D with marks := (look2 D q).marks, told := (look2 D q).told, queued := (look2 D q).queued, upd := (look2 D q).upd } := fun D => by
  unfold look2; split
  ·exact tell_shape D q 4
  ·rfl
 unfold lookD
 conv => lhs; rw [h2 (look1 D q)]
 generalize (look2 (look1 D q) q) = E
 rw [h1 D]
theorem HT.look {D : Dyn} {q q' t' : Nat} (ht : 1 ≤ t') (h : HT D q' t') : HT (lookD D q) q' t' := by
 have h1 : HT (look1 D q) q' t' := by
  unfold look1; split
  ·exact HT.tell (by omega) ht h
  ·exact h
 unfold lookD look2; split
 ·exact HT.tell (by omega) ht h1
 ·exact h1
theorem look_three {D : Dyn} {q : Nat} (h : lookA D q = true) : HT (lookD D q) q 3 := by
 have h1 : HT (look1 D q) q 3 := by unfold look1; rw [if_pos h]; exact HT.self D (by omega)
 unfold lookD look2; split
 ·exact HT.tell (by omega) (by omega) h1
 ·exact h1
theorem look1_B {D : Dyn} {q : Nat} (h : lookB D q = true) : lookB (look1 D q) q = true := by
 unfold look1; split
 ·rw [tell_shape D q 3]
  unfold lookB at h ⊢
  simp only [Bool.and_eq_true] at h ⊢
  exact ⟨HT.tell (q := q) (tag := 3) (by omega) (by omega) h.1, h.2⟩
 ·exact h
theorem look_four {D : Dyn} {q : Nat} (h : lookB D q = true) : HT (lookD D q) q 4 := by
 unfold lookD look2; rw [if_pos (look1_B h)]; exact HT.self _ (by omega)
/-- A look makes good what was wanting at its literal. -/
theorem CI.look (h : CI S B D g pc ex) {q : Nat} (hl1 : pc.l1 q → HT D q 1) (hl2 : pc.l2 q → HT D q 2) :
  CI S B (lookD D q) g pc { ex with e7 := fun x => ex.e7 x ∧ x ≠ q, e8 := fun x => ex.e8 x ∧ x ≠ q } := by
 have h0 := h.marks (fun q' t' k hk => HT.look (q := q) k hk) (look_shape D q)
 have f6 : (lookD D q).backs = D.backs := by rw [look_shape]
 have f7 : (lookD D q).backed = D.backed := by rw [look_shape]
 have f8 : (lookD D q).opn = D.opn := by rw [look_shape]
 have f9 : (lookD D q).clash = D.clash := by rw [look_shape]
 have f10 : (lookD D q).attacks = D.attacks := by rw [look_shape]
 have f11 : (lookD D q).standing = D.standing := by rw [look_shape]
 refine { h0 with x7 := fun a ha hn hc => ?_, x8 := fun a ha hn hl hc => ?_ }
 ·by_cases e : a = q
  ·subst e
   refine look_three ?_
   rw [f7, f8, f10] at hc
   unfold lookA
   rcases hc with hc | ⟨a1, a2, a3⟩
   ·rw [show hasT D a 1 = true from hl1 hc]; rfl
   ·rw [a1, a2, a3]; simp
  ·exact h0.x7 a ha (fun k => hn ⟨k, e⟩) hc
 ·by_cases e : a = q
  ·subst e
   refine look_four ?_
   rw [f6, f9, f11] at hc
   unfold lookB
   rw [show hasT D a 2 = true from hl2 hl]
   rcases hc with hc | hc | hc
   ·rw [hc]; simp
   ·rw [hc]; simp
   ·rw [hc]; simp
  ·exact h0.x8 a ha (fun k => hn ⟨k, e⟩) hl hc
/-- Fewer things done, more wanting: weaker. -/
theorem CI.weaken (h : CI S B D g pc ex) {ex' : Exc} (h1 : ∀ x, ex.e1 x → ex'.e1 x) (h2 : ∀ x, ex.e2 x → ex'.e2 x) (h3 : ∀ x, ex.e3 x → ex'.e3 x) (h4 : ∀ x, ex.e4 x → ex'.e4 x) (h5 : ∀ x y, ex.e5 x y → ex'.e5 x y) (h6 : ∀ x, ex.e6 x → ex'.e6 x) (h7 : ∀ x, ex.e7 x → ex'.e7 x) (h8 : ∀ x, ex.e8 x → ex'.e8 x) (hL : ∀ x y, ex.eL x y → ex'.eL x y) (hB : ∀ x, ex.eB x → ex'.eB x) : CI S B D g pc ex' :=
 ⟨h.c1, h.c3, h.c2, h.c4, h.cOa, h.cOb, fun t a p b c => h.cL t a p b fun k => c (hL _ _ k), fun r a b c => h.cB r a b fun k => c (hB _ k), h.cC, fun r a b c => h.x1 r a b fun k => c (h1 _ k), fun r a b => h.x2 r a fun k => b (h2 _ k), fun r a b c => h.x3 r a b fun k => c (h3 _ k), fun r a b => h.x4 r a fun k => b (h4 _ k), fun r a b c d => h.x5 r a b c fun k => d (h5 _ _ k), fun r a b => h.x6 r a fun k => b (h6 _ k), fun r a b => h.x7 r a fun k => b (h7 _ k), fun r a b => h.x8 r a fun k => b (h8 _ k)⟩
end
end Go.Proofs.Lx
