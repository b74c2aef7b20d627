/- Parts of the proof: Uo, Up, Uq. The fast engine's plain law: what lay's tellings leave. No program in sight. No condition. -/
import Derived.Test.YtalhpldbhogadaaB42
namespace Go.Proofs.Lx
open Go Go.RowKit Go.Proofs.Tj
set_option linter.unusedVariables false
/-- But for the marks all is as it was. -/
def Like (D D' : Dyn) : Prop := D' = { D with marks := D'.marks, told := D'.told, queued := D'.queued, upd := D'.upd }
theorem Like.refl (D : Dyn) : Like D D := rfl
theorem Like.trans {D E F : Dyn} (h : Like D E) (k : Like E F) : Like D F := by
  unfold Like at *
  rw [k, h]
theorem like_tell (D : Dyn) (q tag : Nat) : Like D (tellD D q tag) := tell_shape D q tag
theorem like_fold {α : Type} {f : Dyn → α → Dyn} (hf : ∀ D x, Like D (f D x)) : ∀ (l : List α) (D : Dyn), Like D (l.foldl f D)
  | [], D => Like.refl D
  | x :: l, D => (hf D x).trans (like_fold hf l (f D x))
theorem like_tells (l : List Nat) (D : Dyn) : Like D (l.foldl tell1 D) := like_fold (fun D q => like_tell D q 1) l D
theorem like_tellR (S : Stc) (l : List Nat) (D : Dyn) : Like D (l.foldl (tellR S) D) := like_fold (fun D q => by
  unfold tellR; split
  · exact like_tell D _ 1
  · exact Like.refl D) l D
end Go.Proofs.Lx
namespace Go.Proofs.Lx
open Go Go.RowKit Go.Proofs.Tj
/-- Facts have no -D; what has no strict rule has. -/
theorem strD_form (F : Nat → Bool) (D : Dyn) : ∀ k, ((List.range k).foldl (strD F) D).strict = (fun q => if q < k ∧ F q = true then -1 else D.strict q) ∧
    Like { D with strict := ((List.range k).foldl (strD F) D).strict } ((List.range k).foldl (strD F) D)
  | 0 => ⟨by funext q; simp, rfl⟩
  | k + 1 => by
    obtain ⟨h1, h2⟩ := strD_form F D k
    rw [List.range_succ, List.foldl_append]
    generalize (List.range k).foldl (strD F) D = E at *
    show (strD F E k).strict = _ ∧ Like { D with strict := (strD F E k).strict } (strD F E k)
    have hk : ∀ q, q ≠ k → (q < k + 1 ↔ q < k) := fun q h => by omega
    unfold strD
    by_cases hF : F k = true
    · rw [if_pos hF]
      refine ⟨?_, ?_⟩
      · funext q
        show Tj.upd E.strict k (-1) q = _
        by_cases e : q = k
        · subst e; rw [Tj.upd_same, if_pos ⟨by omega, hF⟩]
        · rw [Tj.upd_ne e, h1]; simp only [hk q e]
      · unfold Like at *; rw [h2]
    · rw [if_neg hF]
      have hs : (fun q => if q < k + 1 ∧ F q = true then (-1 : Int) else D.strict q) = fun q => if q < k ∧ F q = true then -1 else D.strict q := by
        funext q
        by_cases e : q = k
        · subst e; rw [if_neg (fun h => hF h.2), if_neg (fun h => hF h.2)]
        · simp only [hk q e]
      rw [hs]
      split
      · have ht := like_tell E k 2
        have hst : (tellD E k 2).strict = E.strict := by rw [ht]
        rw [hst]
        exact ⟨h1, h2.trans ht⟩
      · exact ⟨h1, h2⟩
end Go.Proofs.Lx
namespace Go.Proofs.Lx
open Go Go.RowKit Go.Proofs.Tj
/-- A literal's foes are counted. -/
theorem foe_row (q : Nat) : ∀ (l : List Nat) (D : Dyn) (n : Nat), D.opn q = (n : Int) → n + l.length ≤ 100000 →
    l.foldl (foeD q) D = { D with opn := (l.foldl (foeD q) D).opn, clash := (l.foldl (foeD q) D).clash } ∧ (l.foldl (foeD q) D).opn q = ((n + l.countP (fun f => !hasT D f 2) : Nat) : Int) ∧
    (l.foldl (foeD q) D).clash q = (D.clash q || l.any fun f => hasT D f 1) ∧ ∀ a, a ≠ q → (l.foldl (foeD q) D).opn a = D.opn a ∧ (l.foldl (foeD q) D).clash a = D.clash a
  | [], D, n, h, _ => ⟨rfl, by simpa using h, by simp, fun a _ => ⟨rfl, rfl⟩⟩
  | f :: l, D, n, h, hn => by
    rw [List.length_cons] at hn
    rw [List.foldl_cons]
    have hE : foeD q D f = { D with opn := (foeD q D f).opn, clash := (foeD q D f).clash } := by unfold foeD; split <;> rfl
    have hc : (foeD q D f).clash q = (D.clash q || hasT D f 1) := by
      unfold foeD; split
      · exact Tj.upd_same _ _ _
      · exact Tj.upd_same _ _ _
    have hfar : ∀ a, a ≠ q → (foeD q D f).opn a = D.opn a ∧ (foeD q D f).clash a = D.clash a := fun a e => by
      unfold foeD; split
      · exact ⟨rfl, Tj.upd_ne e⟩
      · exact ⟨Tj.upd_ne e, Tj.upd_ne e⟩
    have ho : (foeD q D f).opn q = ((n + if hasT D f 2 = true then 0 else 1 : Nat) : Int) := by
      unfold foeD; split
      · show D.opn q = _; rw [h]; simp
      · show Tj.upd D.opn q (addW (D.opn q) 1) q = _
        rw [Tj.upd_same, h, addW_small (by omega) (by omega)]; omega
    have hm : ∀ x t, hasT (foeD q D f) x t = hasT D x t := fun x t => by rw [hE]; rfl
    generalize foeD q D f = E at *
    obtain ⟨k1, k2, k3, k4⟩ := foe_row q l E _ ho (by split <;> omega)
    generalize l.foldl (foeD q) E = G at *
    refine ⟨?_, ?_, ?_, fun a e => ⟨(k4 a e).1.trans (hfar a e).1, (k4 a e).2.trans (hfar a e).2⟩⟩
    · rw [k1, hE]
    · rw [k2, List.countP_cons]
      simp only [hm]
      cases hasT D f 2 <;> simp <;> omega
    · rw [k3, hc, List.any_cons]
      simp only [hm]
      rw [Bool.or_assoc]
end Go.Proofs.Lx

namespace Go.Proofs.Lx
open Go Go.RowKit Go.Proofs.Tj
set_option linter.unusedVariables false
theorem layD1_rest (T : Th) : ∀ k, ∃ a b c d, layD1 T k = { dyn0 with needD := a, need := b, strict := c, backs := d }
  | 0 => ⟨_, _, _, _, rfl⟩
  | k + 1 => by
    obtain ⟨a, b, c, d, e⟩ := layD1_rest T k
    rw [layD1_succ, e]
    unfold layRD layB layA
    split <;> split <;> exact ⟨_, _, _, _, rfl⟩
theorem foes_all (S : Stc) (D : Dyn) (h0 : ∀ q, D.opn q = 0) (hc : ∀ q, D.clash q = false) (hl : ∀ q, (S.foes q).length ≤ 4096) : ∀ k,
    (List.range k).foldl (foesD S) D = { D with opn := ((List.range k).foldl (foesD S) D).opn, clash := ((List.range k).foldl (foesD S) D).clash } ∧
    ∀ q, (q < k → ((List.range k).foldl (foesD S) D).opn q = (((S.foes q).countP fun f => !hasT D f 2 : Nat) : Int) ∧ ((List.range k).foldl (foesD S) D).clash q = (S.foes q).any fun f => hasT D f 1) ∧ (k ≤ q → ((List.range k).foldl (foesD S) D).opn q = 0 ∧ ((List.range k).foldl (foesD S) D).clash q = false)
  | 0 => ⟨rfl, fun q => ⟨fun h => absurd h (by omega), fun _ => ⟨h0 q, hc q⟩⟩⟩
  | k + 1 => by
    obtain ⟨h1, h2⟩ := foes_all S D h0 hc hl k
    rw [List.range_succ, List.foldl_append]
    generalize (List.range k).foldl (foesD S) D = E at *
    rw [List.foldl_cons, List.foldl_nil]
    obtain ⟨z1, z2⟩ := (h2 k).2 (Nat.le_refl _)
    obtain ⟨k1, k2, k3, k4⟩ := foe_row k (S.foes k) E 0 z1 (by have := hl k; omega)
    have hm : ∀ f t, hasT E f t = hasT D f t := fun f t => by rw [h1]; rfl
    simp only [hm] at k2 k3
    rw [z2, Bool.false_or] at k3
    rw [Nat.zero_add] at k2
    have hE : foesD S E k = (S.foes k).foldl (foeD k) E := rfl
    rw [← hE] at k1 k2 k3 k4
    generalize foesD S E k = F at *
    refine ⟨?_, fun q => ⟨fun hq => ?_, fun hq => ?_⟩⟩
    · rw [k1, h1]
    · by_cases e : q = k
      · subst e; exact ⟨k2, k3⟩
      · rw [(k4 q e).1, (k4 q e).2]; exact (h2 q).1 (by omega)
    · rw [(k4 q (by omega)).1, (k4 q (by omega)).2]; exact (h2 q).2 (by omega)
theorem Ord.tell {S : Stc} {B bt : Nat → List Nat} {fact : Nat → Bool} {D : Dyn} (h : Ord S B bt fact D.told) {q tag : Nat} (hv : ∀ H, CN S B bt fact H tag q) : Ord S B bt fact (tellD D q tag).told := by
  by_cases hh : hasT D q tag = true
  · rw [tell_has hh]; exact h
  rw [tell_told hh]
  intro i q' t' hi
  by_cases hil : i < D.told.length
  · rw [List.getElem?_append_left hil] at hi
    rw [List.take_append_of_le_length (by omega)]
    exact h i q' t' hi
  · rw [List.getElem?_append_right (by omega)] at hi
    have hz : i - D.told.length = 0 := by
      rcases Nat.eq_zero_or_pos (i - D.told.length) with e | e
      · exact e
      · rw [List.getElem?_eq_none (by simp only [List.length_singleton]; omega)] at hi; cases hi
    rw [hz] at hi
    simp only [List.getElem?_cons_zero, Option.some.injEq, Prod.mk.injEq] at hi
    obtain ⟨rfl, rfl⟩ := hi
    exact hv _
theorem tells_has : ∀ (l : List Nat) (D : Dyn), (∀ q t, 1 ≤ t → HT D q t → HT (l.foldl tell1 D) q t) ∧ ∀ q ∈ l, HT (l.foldl tell1 D) q 1
  | [], D => ⟨fun _ _ _ h => h, fun q h => by cases h⟩
  | x :: l, D => by
    obtain ⟨h1, h2⟩ := tells_has l (tell1 D x)
    rw [List.foldl_cons]
    refine ⟨fun q t ht h => h1 q t ht (HT.tell (by omega) ht h), fun q hq => ?_⟩
    rcases List.mem_cons.1 hq with rfl | hq
    · exact h1 _ _ (by omega) (HT.self D (by omega))
    · exact h2 q hq
theorem tellR_mono {S : Stc} {D : Dyn} {r q t : Nat} (ht : 1 ≤ t) (h : HT D q t) : HT (tellR S D r) q t := by
  unfold tellR; split
  · exact HT.tell (by omega) ht h
  · exact h
theorem tellRs_has (S : Stc) (D : Dyn) : ∀ k, (∀ q t, 1 ≤ t → HT D q t → HT ((List.range k).foldl (tellR S) D) q t) ∧ ∀ r, r < k → strR S r = true → S.bodyLen r = 0 → HT ((List.range k).foldl (tellR S) D) (S.head r) 1
  | 0 => ⟨fun _ _ _ h => h, fun r h => absurd h (by omega)⟩
  | k + 1 => by
    obtain ⟨h1, h2⟩ := tellRs_has S D k
    rw [List.range_succ, List.foldl_append, List.foldl_cons, List.foldl_nil]
    refine ⟨fun q t ht h => tellR_mono ht (h1 q t ht h), fun r hr hs hb => ?_⟩
    by_cases e : r = k
    · subst e
      unfold tellR; rw [if_pos ⟨hs, hb⟩]; exact HT.self _ (by omega)
    · exact tellR_mono (by omega) (h2 r (by omega) hs hb)
theorem strD_mono {F : Nat → Bool} {D : Dyn} {k q t : Nat} (ht : 1 ≤ t) (h : HT D q t) : HT (strD F D k) q t := by
  unfold strD; split
  · exact h
  split
  · exact HT.tell (by omega) ht h
  · exact h
theorem strDs_has (F : Nat → Bool) (D : Dyn) : ∀ k, (∀ q t, 1 ≤ t → HT D q t → HT ((List.range k).foldl (strD F) D) q t) ∧ ∀ q, q < k → F q = false → D.strict q = 0 → HT ((List.range k).foldl (strD F) D) q 2
  | 0 => ⟨fun _ _ _ h => h, fun r h => absurd h (by omega)⟩
  | k + 1 => by
    obtain ⟨h1, h2⟩ := strDs_has F D k
    have hs := (strD_form F D k).1
    rw [List.range_succ, List.foldl_append, List.foldl_cons, List.foldl_nil]
    generalize (List.range k).foldl (strD F) D = E at *
    refine ⟨fun q t ht h => strD_mono ht (h1 q t ht h), fun q hq hF h0 => ?_⟩
    by_cases e : q = k
    · subst e
      have hs0 : E.strict q = D.strict q := by rw [hs]; exact if_neg (fun k => Nat.lt_irrefl _ k.1)
      unfold strD; rw [if_neg (by rw [hF]; exact Bool.false_ne_true), if_pos (hs0.trans h0)]
      exact HT.self _ (by omega)
    · exact strD_mono (by omega) (h2 q (by omega) hF h0)
/-- What lay has counted when it comes to the pairs. -/
structure L5 (S : Stc) (B bt : Nat → List Nat) (F : Nat → Bool) (D : Dyn) : Prop where
  nd : ∀ r, r < S.m → D.needD r = ((B r).length : Int) ∧ D.need r = ((B r).length : Int)
  st : ∀ q, q < S.n → D.strict q = if F q = true then -1 else (cStr S S.m q : Int)
  bk : ∀ q, D.backs q = (cSup S S.m q : Int)
  op : ∀ q, q < S.n → D.opn q = (((S.foes q).countP fun f => !hasT D f 2 : Nat) : Int)
  cl : ∀ q, q < S.n → D.clash q = (S.foes q).any fun f => hasT D f 1
  z1 : ∀ r, D.deadD r = false ∧ D.dead r = false
  z2 : ∀ q, D.backed q = false ∧ D.standing q = false ∧ D.attacks q = 0
  z3 : ∀ p, D.settled p = false ∧ D.left p = 0
  ti : TI S.n D
  ord : Ord S B bt F D.told
  fa : ∀ q, F q = true → HT D q 1
  ru : ∀ r, r < S.m → strR S r = true → B r = [] → HT D (S.head r) 1
  no : ∀ q, q < S.n → F q = false → cStr S S.m q = 0 → HT D q 2
theorem hasT_like {D E : Dyn} (h : E.marks = D.marks) (q t : Nat) : hasT E q t = hasT D q t := by unfold hasT; rw [h]
section
variable {T : Th} {fl : List Nat}
theorem foe_len (hwf : WfTh T) (q : Nat) : ((stc0 T).foes q).length ≤ 4096 := by
  show ((T.foes.getD q []).map Int.toNat).length ≤ 4096
  rw [List.length_map]
  by_cases hq : q < T.foes.length
  · rw [show T.foes.getD q [] = T.foes[q] by simp [hq]]
    have := (foesOk_spec hwf.fo q hq).1; omega
  · rw [show T.foes.getD q [] = [] by simp [hq]]; simp
theorem l5_of (hwf : WfTh T) (hfl : ∀ x ∈ fl, x < T.foes.length) : L5 (lS1 T) (bdyT T) (btT T) (factF fl) (lD5 T fl) := by
  have hl := lay_ok hwf
  have hrl := hwf.rl
  obtain ⟨f1, f2, f3⟩ := layD1_form T T.rules.length (by omega)
  obtain ⟨a, b, c, d, e1⟩ := layD1_rest T T.rules.length
  have t1 : TI (lS1 T).n (lD1 T) := (ti_dyn0 _).steps (steps_layD1 T _ _)
  have t2 : TI (lS1 T).n (lD2 T fl) := t1.steps (steps_tells fl _ hfl)
  have t3 : TI (lS1 T).n (lD3 T fl) := t2.steps (steps_foldl _ _ fun r hr D => steps_tellR (hl.st.hdn r (List.mem_range.1 hr)) D)
  have t4 : TI (lS1 T).n (lD4 T fl) := t3.steps (steps_foldl _ _ fun r hr D => steps_strD (show r < (lS1 T).n from List.mem_range.1 hr) D)
  have t5 : TI (lS1 T).n (lD5 T fl) := t4.steps (steps_foldl _ _ fun r hr D => steps_foesD (lS1 T) D r)
  have k2 : Like (lD1 T) (lD2 T fl) := like_tells fl _
  have k3 : Like (lD2 T fl) (lD3 T fl) := like_tellR (lS1 T) _ _
  have k13 := k2.trans k3
  obtain ⟨s4, k4⟩ := strD_form (factF fl) (lD3 T fl) T.foes.length
  have e4 : ((List.range T.foes.length).foldl (strD (factF fl)) (lD3 T fl)) = lD4 T fl := rfl
  rw [e4] at s4 k4
  have sh : lD4 T fl = { lD1 T with marks := (lD4 T fl).marks, told := (lD4 T fl).told, queued := (lD4 T fl).queued, upd := (lD4 T fl).upd, strict := (lD4 T fl).strict } := by
    unfold Like at k4 k13
    rw [k4, k13]
  have sh1 : lD1 T = { dyn0 with needD := a, need := b, strict := c, backs := d } := e1
  have s3 : (lD3 T fl).strict = (lD1 T).strict := by rw [k13]
  obtain ⟨g1, g2⟩ := foes_all (lS1 T) (lD4 T fl) (fun q => by rw [sh, sh1]; rfl) (fun q => by rw [sh, sh1]; rfl) (foe_len hwf) T.foes.length
  have e5 : ((List.range T.foes.length).foldl (foesD (lS1 T)) (lD4 T fl)) = lD5 T fl := rfl
  rw [e5] at g1 g2
  have m5 : (lD5 T fl).marks = (lD4 T fl).marks := by rw [g1]
  have o5 : (lD5 T fl).told = (lD4 T fl).told := by rw [g1]
  have hb0 : ∀ r, bdyT T r = [] → (lS1 T).bodyLen r = 0 := fun r h => by
    have := bdy_len T r
    rw [h] at this
    exact this.symm
  have h5 : ∀ q t, HT (lD4 T fl) q t → HT (lD5 T fl) q t := fun q t h => by
    show hasT _ q t = true; rw [hasT_like m5]; exact h
  have F1 := tells_has fl (lD1 T)
  have F2 := tellRs_has (lS1 T) (lD2 T fl) (lS1 T).m
  have F3 := strDs_has (factF fl) (lD3 T fl) T.foes.length
  refine ⟨fun r hr => ?_, fun q hq => ?_, fun q => ?_, fun q hq => ?_, fun q hq => ?_, fun r => ?_, fun q => ?_, fun p => ?_, t5, ?_, fun q hq => ?_, fun r hr hs hb => ?_, fun q hq hF h0 => ?_⟩
  · have : (lD5 T fl).needD r = (lD1 T).needD r ∧ (lD5 T fl).need r = (lD1 T).need r := by rw [g1, sh]; exact ⟨rfl, rfl⟩
    rw [this.1, this.2, bdy_len]; exact f3 r hr
  · have : (lD5 T fl).strict q = (lD4 T fl).strict q := by rw [g1]
    rw [this, s4, s3]
    show (if q < T.foes.length ∧ factF fl q = true then -1 else (lD1 T).strict q) = _
    have hq : q < T.foes.length := hq
    by_cases hF : factF fl q = true
    · rw [if_pos ⟨hq, hF⟩, if_pos hF]
    · rw [if_neg (fun k => hF k.2), if_neg hF]; exact f1 q
  · have : (lD5 T fl).backs q = (lD1 T).backs q := by rw [g1, sh]
    rw [this]; exact f2 q
  · rw [((g2 q).1 hq).1]; simp only [hasT_like m5]
  · rw [((g2 q).1 hq).2]; simp only [hasT_like m5]
  · rw [g1, sh, sh1]; exact ⟨rfl, rfl⟩
  · rw [g1, sh, sh1]; exact ⟨rfl, rfl, rfl⟩
  · rw [g1, sh, sh1]; exact ⟨rfl, rfl⟩
  · rw [o5]
    have o1 : Ord (lS1 T) (bdyT T) (btT T) (factF fl) (lD1 T).told := by
      rw [sh1]; intro i q tag h; exact absurd h (by simp [dyn0])
    have o2 : Ord (lS1 T) (bdyT T) (btT T) (factF fl) (lD2 T fl).told := by
      have : ∀ (l : List Nat) (D : Dyn), (∀ x ∈ l, factF fl x = true) → Ord (lS1 T) (bdyT T) (btT T) (factF fl) D.told → Ord (lS1 T) (bdyT T) (btT T) (factF fl) (l.foldl tell1 D).told := by
        intro l
        induction l with
        | nil => intro D _ h; exact h
        | cons x l ih =>
          intro D hx h
          exact ih _ (fun y hy => hx y (List.mem_cons_of_mem _ hy)) (h.tell fun H => .inl (hx x List.mem_cons_self))
      exact this fl _ (fun x hx => by unfold factF; simpa using hx) o1
    have o3 : Ord (lS1 T) (bdyT T) (btT T) (factF fl) (lD3 T fl).told := by
      have : ∀ k, k ≤ (lS1 T).m → Ord (lS1 T) (bdyT T) (btT T) (factF fl) ((List.range k).foldl (tellR (lS1 T)) (lD2 T fl)).told := by
        intro k
        induction k with
        | zero => intro _; exact o2
        | succ k ih =>
          intro hk
          rw [List.range_succ, List.foldl_append, List.foldl_cons, List.foldl_nil]
          unfold tellR
          split
          · rename_i hc
            refine (ih (by omega)).tell fun H => .inr ⟨k, by omega, rfl, hc.1, fun b hb => ?_⟩
            have hlen : (bdyT T k).length = 0 := by rw [bdy_len]; exact hc.2
            rw [List.length_eq_zero_iff] at hlen
            rw [hlen] at hb; cases hb
          · exact ih (by omega)
      exact this _ (Nat.le_refl _)
    have : ∀ k, k ≤ T.foes.length → Ord (lS1 T) (bdyT T) (btT T) (factF fl) ((List.range k).foldl (strD (factF fl)) (lD3 T fl)).told := by
      intro k
      induction k with
      | zero => intro _; exact o3
      | succ k ih =>
        intro hk
        have hs := (strD_form (factF fl) (lD3 T fl) k).1
        rw [List.range_succ, List.foldl_append, List.foldl_cons, List.foldl_nil]
        have ih := ih (by omega)
        generalize (List.range k).foldl (strD (factF fl)) (lD3 T fl) = E at *
        unfold strD
        split
        · exact ih
        rename_i hF
        split
        · rename_i h0
          have hs0 : E.strict k = (lD3 T fl).strict k := by rw [hs]; exact if_neg (fun k => Nat.lt_irrefl _ k.1)
          rw [hs0, s3] at h0
          have hc : cStr (stc0 T) T.rules.length k = 0 := by have := f1 k; unfold lD1 at h0; omega
          refine ih.tell fun H => ⟨by simpa using hF, fun r hr hh hst => ?_⟩
          have := countP_zero hc (List.mem_range.2 (show r < T.rules.length from hr))
          have hst : strR (stc0 T) r = true := hst
          have hh : (stc0 T).head r = k := hh
          rw [hst, hh] at this; simp at this
        · exact ih
    exact this _ (Nat.le_refl _)
  · have hq : q ∈ fl := by unfold factF at hq; simpa using hq
    exact h5 _ _ (F3.1 _ _ (by omega) (F2.1 _ _ (by omega) (F1.2 q hq)))
  · exact h5 _ _ (F3.1 _ _ (by omega) (F2.2 r hr hs (hb0 r hb)))
  · refine h5 _ _ (F3.2 q hq hF ?_)
    rw [s3]
    have h1 := f1 q
    have h0 : cStr (stc0 T) T.rules.length q = 0 := h0
    rw [h0] at h1; exact h1
end
end Go.Proofs.Lx

namespace Go.Proofs.Lx
open Go Go.RowKit Go.Proofs.Tj
set_option linter.unusedVariables false
set_option linter.unusedSectionVars false
theorem sum_one (g : Nat → Nat) (a : Nat) : ∀ n, ((List.range n).map fun h => if h = a then g h else 0).sum = if a < n then g a else 0
  | 0 => by simp
  | n + 1 => by
    rw [List.range_succ, List.map_append, List.sum_append, sum_one g a n]
    simp only [List.map_cons, List.map_nil, List.sum_cons, List.sum_nil]
    by_cases e : n = a
    · subst e; rw [if_neg (by omega), if_pos rfl, if_pos (by omega)]; omega
    · rw [if_neg e]
      by_cases h : a < n
      · rw [if_pos h, if_pos (by omega)]; omega
      · rw [if_neg h, if_neg (by omega)]; rfl
theorem sum_add (f g : Nat → Nat) : ∀ n, ((List.range n).map fun h => f h + g h).sum = ((List.range n).map f).sum + ((List.range n).map g).sum
  | 0 => by simp
  | n + 1 => by
    rw [List.range_succ, List.map_append, List.map_append, List.map_append, List.sum_append, List.sum_append, List.sum_append, sum_add f g n]
    simp only [List.map_cons, List.map_nil, List.sum_cons, List.sum_nil]
    omega
theorem heads_sum (g : Nat → Nat) (n : Nat) : ∀ rs : List Rule, (∀ r ∈ rs, 0 ≤ r.head ∧ r.head < n) → (rs.map fun r => g r.head.toNat).sum = ((List.range n).map fun (h : Nat) => hcnt rs (h : Int) * g h).sum
  | [], _ => by
    have : ∀ n, ((List.range n).map fun (h : Nat) => hcnt [] (h : Int) * g h).sum = 0 := fun n => by
      induction n with
      | zero => rfl
      | succ n ih => rw [List.range_succ, List.map_append, List.sum_append, ih]; simp [hcnt]
    rw [this]; rfl
  | r :: rs, h => by
    have ih := heads_sum g n rs fun x hx => h x (List.mem_cons_of_mem _ hx)
    obtain ⟨h0, h1⟩ := h r List.mem_cons_self
    have e : (fun h : Nat => hcnt (r :: rs) (h : Int) * g h) = fun (h : Nat) => hcnt rs (h : Int) * g h + if h = r.head.toNat then g h else 0 := by
      funext x
      unfold hcnt
      rw [List.countP_cons]
      by_cases e : x = r.head.toNat
      · have e2 : r.head = (x : Int) := by omega
        rw [if_pos e, if_pos (by simpa using e2), Nat.add_mul, Nat.one_mul]
      · have e2 : ¬ r.head = (x : Int) := by omega
        rw [if_neg e, if_neg (by simpa using e2)]; rfl
    rw [e, sum_add, ← ih, sum_one, if_pos (by omega), List.map_cons, List.sum_cons]; omega
theorem filter_le (p : Nat → Bool) (c : Int → Nat) : ∀ l : List Int, (∀ x ∈ l, p x.toNat = true → 1 ≤ c x) → ((l.map Int.toNat).filter p).length ≤ (l.map c).sum
  | [], _ => by simp
  | x :: l, h => by
    have ih := filter_le p c l fun y hy => h y (List.mem_cons_of_mem _ hy)
    rw [List.map_cons, List.map_cons, List.sum_cons]
    by_cases hp : p x.toNat = true
    · rw [List.filter_cons_of_pos hp, List.length_cons]
      have := h x List.mem_cons_self hp; omega
    · rw [List.filter_cons_of_neg hp]; omega
theorem sum_le_map {α : Type} {f g : α → Nat} : ∀ l : List α, (∀ x ∈ l, f x ≤ g x) → (l.map f).sum ≤ (l.map g).sum
  | [], _ => by simp
  | x :: l, h => by
    have ih := sum_le_map l fun y hy => h y (List.mem_cons_of_mem _ hy)
    have := h x List.mem_cons_self
    rw [List.map_cons, List.map_cons, List.sum_cons, List.sum_cons]; omega
theorem sum_mul {α : Type} (a : Nat) (f : α → Nat) : ∀ l : List α, (l.map fun x => a * f x).sum = a * (l.map f).sum
  | [] => by simp
  | x :: l => by rw [List.map_cons, List.map_cons, List.sum_cons, List.sum_cons, sum_mul a f l, Nat.mul_add]
section
variable {T : Th} {fl : List Nat}
theorem mem_foes {q f : Nat} (hwf : WfTh T) (hq : q < T.foes.length) : f ∈ (stc0 T).foes q ↔ (f : Int) ∈ T.foes[q] := by
  show f ∈ (T.foes.getD q []).map Int.toNat ↔ _
  rw [show T.foes.getD q [] = T.foes[q] by simp [hq], List.mem_map]
  constructor
  · rintro ⟨x, hx, rfl⟩
    have := (ris_nat (foesOk_spec hwf.fo q hq).2.1).2.2.2 x hx
    rw [show ((x.toNat : Nat) : Int) = x by omega]; exact hx
  · intro h; exact ⟨_, h, by simp⟩
theorem foe_back (hwf : WfTh T) {q f : Nat} (hq : q < T.foes.length) (hf : f ∈ (stc0 T).foes q) : f < T.foes.length ∧ q ∈ (stc0 T).foes f := by
  obtain ⟨j, hj, e, _, h⟩ := foe_in hwf hq ((mem_foes hwf hq).1 hf)
  obtain rfl : f = j := by omega
  refine ⟨hj, (mem_foes hwf hj).2 ?_⟩
  rw [row_nat _ _ hj] at h; exact h
theorem rule_get {r : Nat} (hr : r < T.rules.length) : T.rules.getD r default = T.rules[r] := by simp [hr]
theorem rule_head (hwf : WfTh T) {r : Nat} (hr : r < T.rules.length) : 0 ≤ (T.rules.getD r default).head ∧ (T.rules.getD r default).head < T.foes.length := by
  have := ruleOk_head (hwf.ru _ (List.getElem_mem hr))
  rw [rule_get hr]; have := hwf.fl; omega
theorem pr_count (hwf : WfTh T) {D : Dyn} (hb : ∀ q, D.backs q = (cSup (stc0 T) T.rules.length q : Int)) : (prL (stc0 T) D T.rules.length).length ≤ pairCount T := by
  have h1 : (prL (stc0 T) D T.rules.length).length = ((List.range T.rules.length).map fun s => (((stc0 T).foes ((stc0 T).head s)).filter fun q => decide (D.backs q ≠ 0)).length).sum := by
    unfold prL
    rw [List.length_flatMap]
    congr 1
    refine List.map_congr_left fun s _ => ?_
    rw [List.length_map]
  have h2 : ((List.range T.rules.length).map fun s => (((stc0 T).foes ((stc0 T).head s)).filter fun q => decide (D.backs q ≠ 0)).length).sum ≤ ((List.range T.rules.length).map fun s => ((T.foes.getD ((stc0 T).head s) []).map fun f => hcnt T.rules f).sum).sum := by
    refine sum_le_map _ fun s hs => filter_le _ _ _ fun x hx hp => ?_
    have hs := List.mem_range.1 hs
    rw [decide_eq_true_eq, hb] at hp
    have hpos : 0 < cSup (stc0 T) T.rules.length x.toNat := by omega
    obtain ⟨r, hr, hrr⟩ := List.countP_pos_iff.1 hpos
    have hr := List.mem_range.1 hr
    simp only [Bool.and_eq_true, decide_eq_true_eq] at hrr
    have hx0 : 0 ≤ x := by
      have hh := rule_head hwf hs
      have hq : (stc0 T).head s < T.foes.length := by show (T.rules.getD s default).head.toNat < _; omega
      rw [show T.foes.getD ((stc0 T).head s) [] = T.foes[(stc0 T).head s] by simp [hq]] at hx
      exact ((ris_nat (foesOk_spec hwf.fo _ hq).2.1).2.2.2 x hx).1
    have hh := rule_head hwf hr
    have e : (T.rules.getD r default).head.toNat = x.toNat := hrr.2
    refine List.countP_pos_iff.2 ⟨T.rules[r], List.getElem_mem hr, ?_⟩
    rw [rule_get hr] at hh e
    simp only [beq_iff_eq]; omega
  have h3 : ((List.range T.rules.length).map fun s => ((T.foes.getD ((stc0 T).head s) []).map fun f => hcnt T.rules f).sum) = T.rules.map fun r => ((T.foes.getD r.head.toNat []).map fun f => hcnt T.rules f).sum := by
    apply List.ext_getElem
    · simp
    · intro i a b
      simp only [List.length_map, List.length_range] at a
      simp only [List.getElem_map, List.getElem_range]
      show ((T.foes.getD (T.rules.getD i default).head.toNat []).map _).sum = _
      rw [rule_get a]
  rw [h1]
  refine Nat.le_trans h2 ?_
  rw [h3, heads_sum (fun h => ((T.foes.getD h []).map fun f => hcnt T.rules f).sum) T.foes.length T.rules fun r hr => by have := ruleOk_head (hwf.ru r hr); have := hwf.fl; omega]
  unfold pairCount pSum
  refine sum_le_map _ fun q _ => ?_
  unfold pRow
  rw [List.take_length, sum_mul]; exact Nat.le_refl _
theorem mem_btT (hwf : WfTh T) {t s : Nat} (ht : t < T.rules.length) (hs : s ∈ btT T t) : s < T.rules.length ∧ (stc0 T).head t ∈ (stc0 T).foes ((stc0 T).head s) ∧ (s : Int) ∈ T.beats.getD t [] := by
  have hb := beatsAll_true.1 hwf.ba t (by rw [hwf.bl]; exact ht)
  unfold beatsOk at hb
  rw [Bool.and_eq_true, List.all_eq_true] at hb
  obtain ⟨x, hx, rfl⟩ := List.mem_map.1 hs
  obtain ⟨h0, h1⟩ := (ris_nat hb.1).2.2.2 x hx
  have hm := memB_true.1 (hb.2 x hx)
  have hxr : x.toNat < T.rules.length := by omega
  have ex : ((x.toNat : Nat) : Int) = x := by omega
  rw [ex]
  refine ⟨hxr, ?_, hx⟩
  have hh := rule_head hwf ht
  have hhx := rule_head hwf hxr
  have e1 : headOf T (t : Int) = (((stc0 T).head t : Nat) : Int) := by
    show (T.rules.getD t default).head = (((T.rules.getD t default).head.toNat : Nat) : Int); omega
  have e2 : headOf T x = (((stc0 T).head x.toNat : Nat) : Int) := by
    show (T.rules.getD x.toNat default).head = (((T.rules.getD x.toNat default).head.toNat : Nat) : Int); omega
  have q1 : (stc0 T).head t < T.foes.length := by show (T.rules.getD t default).head.toNat < _; omega
  rw [e1, e2, row_nat _ _ q1] at hm
  exact (foe_back hwf q1 ((mem_foes hwf q1).2 hm)).2
theorem btT_nodup (hwf : WfTh T) {t : Nat} (ht : t < T.rules.length) : (btT T t).Nodup := by
  have hb := beatsAll_true.1 hwf.ba t (by rw [hwf.bl]; exact ht)
  unfold beatsOk at hb
  rw [Bool.and_eq_true] at hb
  exact (ris_nat hb.1).1
theorem nodup_len {N : Nat} : ∀ {l : List Nat}, l.Nodup → (∀ x ∈ l, x < N) → l.length ≤ N := by
  induction N with
  | zero => intro l _ h; cases l with
    | nil => simp
    | cons x l => exact absurd (h x List.mem_cons_self) (by omega)
  | succ N ih =>
    intro l hn h
    have h1 := ih (l := l.erase N) (hn.erase N) fun x hx => by
      have h2 := (hn.mem_erase_iff).1 hx
      have := h x h2.2; omega
    by_cases hN : N ∈ l
    · have := List.length_erase_of_mem hN; omega
    · rw [List.erase_of_not_mem hN] at h1; omega
theorem btT_len (hwf : WfTh T) (t : Nat) : (btT T t).length ≤ 4096 := by
  by_cases ht : t < T.rules.length
  · have := nodup_len (btT_nodup hwf ht) fun x hx => (mem_btT hwf ht hx).1
    have := hwf.rl; omega
  · have : btT T t = [] := by unfold btT; rw [show T.beats.getD t [] = [] by have := hwf.bl; simp [show T.beats.length ≤ t by omega]]; rfl
    rw [this]; simp
/-- The pairs, in closed form. -/
structure PF (T : Th) (fl : List Nat) (L : List (Nat × Nat)) (X : PX) : Prop where
  f : PForm (px0 (lS1 T) (lD5 T fl)) X L
  nd : L.Nodup
  mem : ∀ x, x ∈ L ↔ x.1 < T.rules.length ∧ x.2 ∈ (stc0 T).foes ((stc0 T).head x.1) ∧ (lD5 T fl).backs x.2 ≠ 0
  len : L.length ≤ 65536
theorem pf_of (hwf : WfTh T) (h5 : L5 (lS1 T) (bdyT T) (btT T) (factF fl) (lD5 T fl)) : PF T fl (prL (lS1 T) (lD5 T fl) T.rules.length) (pairX (lS1 T) (lD5 T fl)) := by
  refine ⟨?_, ?_, fun x => prL_mem, ?_⟩
  · have := PForm.fold (prL (lS1 T) (lD5 T fl) T.rules.length) [] (PForm.start (px0 (lS1 T) (lD5 T fl)) rfl fun s => rfl)
    rw [List.nil_append, ← prAll_list] at this
    exact this
  · refine prL_nodup fun s hs => ?_
    have hh := rule_head hwf hs
    have q1 : (stc0 T).head s < T.foes.length := by show (T.rules.getD s default).head.toNat < _; omega
    show ((T.foes.getD ((stc0 T).head s) []).map Int.toNat).Nodup
    rw [show T.foes.getD ((stc0 T).head s) [] = T.foes[(stc0 T).head s] by simp [q1]]
    exact (ris_nat (foesOk_spec hwf.fo _ q1).2.1).1
  · exact Nat.le_trans (pr_count hwf h5.bk) hwf.pc
section
variable {L : List (Nat × Nat)} {X : PX} (hwf : WfTh T) (h5 : L5 (lS1 T) (bdyT T) (btT T) (factF fl) (lD5 T fl)) (pf : PF T fl L X)
include hwf h5 pf
theorem PF.A_ok {t s : Nat} (ht : t < T.rules.length) (hsu : supR (stc0 T) t = true) (hs : s < T.rules.length) (hf : (stc0 T).head t ∈ (stc0 T).foes ((stc0 T).head s)) : X.A ((stc0 T).head t) s < L.length ∧ X.ps (X.A ((stc0 T).head t) s) = s ∧ X.pq (X.A ((stc0 T).head t) s) = (stc0 T).head t := by
  have hb : (lD5 T fl).backs ((stc0 T).head t) ≠ 0 := by
    rw [h5.bk]
    have : 0 < cSup (lS1 T) (lS1 T).m ((stc0 T).head t) := List.countP_pos_iff.2 ⟨t, List.mem_range.2 ht, by
      rw [Bool.and_eq_true, decide_eq_true_eq]; exact ⟨hsu, rfl⟩⟩
    omega
  obtain ⟨p, hp, e⟩ := List.getElem_of_mem ((pf.mem (s, (stc0 T).head t)).2 ⟨hs, hf, hb⟩)
  have hA := pf.f.A pf.nd p hp
  rw [e] at hA
  have h1 := pf.f.at1 p hp
  rw [e] at h1
  have hA : X.A ((stc0 T).head t) s = p := hA
  rw [hA]; exact ⟨hp, h1.1, h1.2⟩
theorem PF.row {t : Nat} (ht : t < T.rules.length) : (∀ p, p ∈ rowB (lS1 T) T X.A t ↔ supR (stc0 T) t = true ∧ p < L.length ∧ X.pq p = (stc0 T).head t ∧ X.ps p ∈ btT T t) ∧ (rowB (lS1 T) T X.A t).Nodup := by
  unfold rowB
  by_cases hs : supR (lS1 T) t = true
  · rw [if_pos hs]
    refine ⟨fun p => ?_, ?_⟩
    · rw [List.mem_map]
      constructor
      · rintro ⟨s, h, rfl⟩
        obtain ⟨h1, h2, _⟩ := mem_btT hwf ht h
        obtain ⟨a, b, c⟩ := pf.A_ok hwf h5 ht hs h1 h2
        have hb : X.ps (X.A ((lS1 T).head t) s) = s := b
        exact ⟨hs, a, c, by rw [hb]; exact h⟩
      · rintro ⟨_, h1, h2, h3⟩
        refine ⟨X.ps p, h3, ?_⟩
        have hA := pf.f.A pf.nd p h1
        rw [← (pf.f.at1 p h1).1, ← (pf.f.at1 p h1).2, h2] at hA
        exact hA
    · rw [List.nodup_iff_pairwise_ne, List.pairwise_map]
      have hn := btT_nodup hwf ht
      rw [List.nodup_iff_pairwise_ne] at hn
      refine (List.Pairwise.and_mem.1 hn).imp ?_
      rintro a b ⟨ha, hb, hab⟩ e
      obtain ⟨a1, a2, _⟩ := mem_btT hwf ht ha
      obtain ⟨b1, b2, _⟩ := mem_btT hwf ht hb
      have ea := (pf.A_ok hwf h5 ht hs a1 a2).2.1
      have eb := (pf.A_ok hwf h5 ht hs b1 b2).2.1
      have e : X.A ((stc0 T).head t) a = X.A ((stc0 T).head t) b := e
      rw [e, eb] at ea
      exact hab ea.symm
  · rw [if_neg hs]
    exact ⟨fun p => ⟨fun h => (by cases h), fun h => absurd h.1 hs⟩, List.nodup_nil⟩
end
end
end Go.Proofs.Lx
