/- Parts of the proof: Ul, Um, Un, Uo, Up. The fast engine's plain law: what pair lays. No program in sight. No condition. -/
import Derived.Test.YtalhpldbhogadaaGreatO31
namespace Go.Proofs.Lx
open Go Go.RowKit Go.Proofs.Tj
set_option linter.unusedVariables false
def addL (X : PX) (x : Nat × Nat) : PX := addP x.2 x.1 X
/-- The pairs (rule, literal), in the order in which they are laid. -/
def prL (S : Stc) (D : Dyn) (k : Nat) : List (Nat × Nat) := (List.range k).flatMap fun s => ((S.foes (S.head s)).filter fun q => decide (D.backs q ≠ 0)).map fun q => (s, q)
theorem pr_row (D : Dyn) (s : Nat) : ∀ (l : List Nat) (X : PX), l.foldl (pr1 D s) X = ((l.filter fun q => decide (D.backs q ≠ 0)).map fun q => (s, q)).foldl addL X
 | [], X => rfl
 | q :: l, X => by
  rw [List.foldl_cons, pr_row D s l]
  by_cases h : D.backs q = 0
  ·rw [List.filter_cons_of_neg (by simpa using h)]
   unfold pr1; rw [if_pos h]
  ·rw [List.filter_cons_of_pos (by simpa using h), List.map_cons, List.foldl_cons]
   unfold pr1; rw [if_neg h]; rfl
theorem prAll_list (S : Stc) (D : Dyn) (X : PX) : ∀ k, prAll S D X k = (prL S D k).foldl addL X
 | 0 => rfl
 | k + 1 => by
  rw [range_foldl_px, prAll_list S D X k]
  unfold prL prs
  rw [List.range_succ, List.flatMap_append, List.foldl_append, pr_row]
  simp
theorem prL_mem {S : Stc} {D : Dyn} {k : Nat} {x : Nat × Nat} : x ∈ prL S D k ↔ x.1 < k ∧ x.2 ∈ S.foes (S.head x.1) ∧ D.backs x.2 ≠ 0 := by
 obtain ⟨s, q⟩ := x
 unfold prL
 simp only [List.mem_flatMap, List.mem_range, List.mem_map, List.mem_filter, decide_eq_true_eq, Prod.mk.injEq]
 constructor
 ·rintro ⟨s', h1, q', ⟨h2, h3⟩, rfl, rfl⟩; exact ⟨h1, h2, h3⟩
 ·rintro ⟨h1, h2, h3⟩; exact ⟨s, h1, q, ⟨h2, h3⟩, rfl, rfl⟩
theorem prL_succ (S : Stc) (D : Dyn) (k : Nat) : prL S D (k + 1) = prL S D k ++ ((S.foes (S.head k)).filter fun q => decide (D.backs q ≠ 0)).map fun q => (k, q) := by
 unfold prL; rw [List.range_succ, List.flatMap_append]; simp
theorem prL_nodup {S : Stc} {D : Dyn} : ∀ {k : Nat}, (∀ s, s < k → (S.foes (S.head s)).Nodup) → (prL S D k).Nodup
 | 0, _ => by simp [prL]
 | k + 1, h => by
  rw [prL_succ, List.nodup_append]
  refine ⟨prL_nodup fun s hs => h s (by omega), ?_, fun x hx y hy e => ?_⟩
  ·rw [List.nodup_iff_pairwise_ne, List.pairwise_map]
   have hn := h k (by omega)
   rw [List.nodup_iff_pairwise_ne] at hn
   refine (hn.filter _).imp ?_
   intro a b hab e
   exact hab (Prod.mk.inj e).2
  ·have h1 := (prL_mem.1 hx).1
   simp only [List.mem_map] at hy
   obtain ⟨q, _, rfl⟩ := hy
   rw [e] at h1; omega
/-- The closed form of what is laid. -/
structure PForm (X0 X : PX) (L : List (Nat × Nat)) : Prop where
 P : X.P = L.length
 at1 : ∀ p (h : p < L.length), X.ps p = L[p].1 ∧ X.pq p = L[p].2
 ofs : ∀ s p, p ∈ X.ofs s ↔ p < L.length ∧ X.ps p = s
 ofn : ∀ s, (X.ofs s).Nodup
 A : L.Nodup → ∀ p (h : p < L.length), X.A L[p].2 L[p].1 = p
 att : L.length ≤ 65536 → ∀ q, X0.att q = 0 → X.att q = ((List.range L.length).countP (fun p => decide (X.pq p = q)) : Nat)
theorem PForm.snoc {X0 X : PX} {L : List (Nat × Nat)} (h : PForm X0 X L) (x : Nat × Nat) : PForm X0 (addL X x) (L ++ [x]) := by
 obtain ⟨s, q⟩ := x
 have hpq : ∀ p, p < L.length → (addL X (s, q)).pq p = X.pq p := fun p hp => Tj.upd_ne (by rw [h.P]; omega)
 have hps : ∀ p, p < L.length → (addL X (s, q)).ps p = X.ps p := fun p hp => Tj.upd_ne (by rw [h.P]; omega)
 have hpq1 : (addL X (s, q)).pq L.length = q := by show Tj.upd X.pq X.P q _ = q; rw [h.P, Tj.upd_same]
 have hps1 : (addL X (s, q)).ps L.length = s := by show Tj.upd X.ps X.P s _ = s; rw [h.P, Tj.upd_same]
 refine ⟨?_, fun p hp => ?_, fun s' p => ?_, fun s' => ?_, fun hn p hp => ?_, fun hl q' h0 => ?_⟩
 ·show X.P + 1 = _; rw [h.P]; simp
 ·rw [List.length_append, List.length_singleton] at hp
  by_cases e : p = L.length
  ·subst e; rw [hps1, hpq1]; simp
  ·rw [hps p (by omega), hpq p (by omega), List.getElem_append_left (by omega)]; exact h.at1 p (by omega)
 ·show p ∈ Tj.upd X.ofs s (X.ofs s ++ [X.P]) s' ↔ _
  rw [List.length_append, List.length_singleton, h.P]
  by_cases e : s' = s
  ·subst e
   rw [Tj.upd_same, List.mem_append, h.ofs, List.mem_singleton]
   constructor
   ·rintro (⟨a, b⟩ | rfl)
    ·exact ⟨by omega, by rw [hps p a]; exact b⟩
    ·exact ⟨by omega, hps1⟩
   ·rintro ⟨a, b⟩
    by_cases e2 : p = L.length
    ·exact .inr e2
    ·exact .inl ⟨by omega, by rw [hps p (by omega)] at b; exact b⟩
  ·rw [Tj.upd_ne e, h.ofs]
   constructor
   ·rintro ⟨a, b⟩; exact ⟨by omega, by rw [hps p a]; exact b⟩
   ·rintro ⟨a, b⟩
    by_cases e2 : p = L.length
    ·subst e2; rw [hps1] at b; exact absurd b.symm e
    ·exact ⟨by omega, by rw [hps p (by omega)] at b; exact b⟩
 ·show (Tj.upd X.ofs s (X.ofs s ++ [X.P]) s').Nodup
  by_cases e : s' = s
  ·subst e
   rw [Tj.upd_same, List.nodup_append]
   refine ⟨h.ofn _, by simp, fun a ha b hb => ?_⟩
   rw [List.mem_singleton] at hb
   have := ((h.ofs _ a).1 ha).1
   rw [hb, h.P]; omega
  ·rw [Tj.upd_ne e]; exact h.ofn s'
 ·rw [List.length_append, List.length_singleton] at hp
  rw [List.nodup_append] at hn
  show upd2 X.A q s X.P _ _ = p
  by_cases e : p = L.length
  ·subst e
   have : (L ++ [(s, q)])[L.length] = (s, q) := by simp
   rw [this]
   unfold upd2; rw [Tj.upd_same, Tj.upd_same, h.P]
  ·have hlt : p < L.length := by omega
   rw [List.getElem_append_left hlt]
   have hne : L[p] ≠ (s, q) := fun e2 => hn.2.2 L[p] (List.getElem_mem hlt) (s, q) (by simp) e2
   have ih := h.A hn.1 p hlt
   unfold upd2
   by_cases e1 : L[p].2 = q
   ·by_cases e3 : L[p].1 = s
    ·exact absurd (Prod.ext e3 e1) hne
    ·rw [e1, Tj.upd_same, Tj.upd_ne e3, ← e1]; exact ih
   ·rw [Tj.upd_ne e1]; exact ih
 ·rw [List.length_append, List.length_singleton] at hl
  rw [List.length_append, List.length_singleton, List.range_succ, List.countP_append]
  have ih := h.att (by omega) q' h0
  have hc : (List.range L.length).countP (fun p => decide ((addL X (s, q)).pq p = q')) = (List.range L.length).countP (fun p => decide (X.pq p = q')) := countP_same fun p hp => by rw [hpq p (List.mem_range.1 hp)]
  rw [hc]
  have hle := countP_le_len (fun p => decide (X.pq p = q')) (List.range L.length)
  rw [List.length_range] at hle
  show Tj.upd X.att q (addW (X.att q) 1) q' = _
  by_cases e : q' = q
  ·subst e
   rw [Tj.upd_same, ih, List.countP_cons_of_pos (by rw [hpq1]; simp)]
   unfold addW wrap64
   simp only [List.countP_nil]
   omega
  ·rw [Tj.upd_ne e, ih, List.countP_cons_of_neg (by rw [hpq1]; simpa using fun k => e k.symm)]
   simp
theorem PForm.start (X0 : PX) (hP : X0.P = 0) (ho : ∀ s, X0.ofs s = []) : PForm X0 X0 [] :=
 ⟨hP, fun p h => absurd h (by simp), fun s p => by rw [ho]; simp, fun s => by rw [ho]; simp, fun _ p h => absurd h (by simp), fun _ q h => by rw [h]; simp⟩
theorem PForm.fold {X0 : PX} : ∀ (l L : List (Nat × Nat)) {X : PX}, PForm X0 X L → PForm X0 (l.foldl addL X) (L ++ l)
 | [], L, X, h => by simpa using h
 | x :: l, L, X, h => by
  have := PForm.fold l (L ++ [x]) (h.snoc x)
  rw [List.append_assoc] at this
  exact this
end Go.Proofs.Lx

namespace Go.Proofs.Lx
open Go Go.RowKit Go.Proofs.Tj
set_option linter.unusedVariables false
def rowB (S : Stc) (T : Th) (A : Nat → Nat → Nat) (t : Nat) : List Nat := if supR S t = true then (btT T t).map fun s => A (S.head t) s else []
def addB (t : Nat) (Y : PY) (p : Nat) : PY := { beats := Tj.upd Y.beats t (Y.beats t ++ [p]), left := Tj.upd Y.left p (addW (Y.left p) 1) }
theorem bts_row (S : Stc) (T : Th) (A : Nat → Nat → Nat) (Y : PY) (t : Nat) : bts S T A Y t = (rowB S T A t).foldl (addB t) Y := by
 unfold bts rowB; split
 ·rw [List.foldl_map]; rfl
 ·rfl
theorem addB_beats (t r : Nat) : ∀ (l : List Nat) (Y : PY), (l.foldl (addB t) Y).beats r = if r = t then Y.beats t ++ l else Y.beats r
 | [], Y => by by_cases e : r = t <;> simp [e]
 | p :: l, Y => by
  rw [List.foldl_cons, addB_beats t r l]
  show (if r = t then Tj.upd Y.beats t (Y.beats t ++ [p]) t ++ l else Tj.upd Y.beats t (Y.beats t ++ [p]) r) = _
  by_cases e : r = t
  ·rw [if_pos e, if_pos e, Tj.upd_same, List.append_assoc]; rfl
  ·rw [if_neg e, if_neg e, Tj.upd_ne e]
theorem addB_left (t p : Nat) : ∀ (l : List Nat) (Y : PY) (n : Nat), Y.left p = (n : Int) → n + l.length ≤ 1000000000 → (l.foldl (addB t) Y).left p = ((n + l.count p : Nat) : Int)
 | [], Y, n, h, _ => by simpa using h
 | x :: l, Y, n, h, hn => by
  rw [List.length_cons] at hn
  rw [List.foldl_cons]
  by_cases e : x = p
  ·subst e
   rw [addB_left t x l _ (n + 1) (by
    show Tj.upd Y.left x (addW (Y.left x) 1) x = _
    rw [Tj.upd_same, h]; unfold addW wrap64; omega) (by omega), List.count_cons_self]
   congr 1; omega
  ·rw [addB_left t p l _ n (by
    show Tj.upd Y.left x (addW (Y.left x) 1) p = _
    rw [Tj.upd_ne (fun k => e k.symm)]; exact h) (by omega), List.count_cons_of_ne e]
/-- The closed form, rows each once. -/
theorem btAll_form (S : Stc) (T : Th) (A : Nat → Nat → Nat) (Y : PY) (hb : ∀ t, Y.beats t = []) (hl : ∀ p, Y.left p = 0) (hlen : ∀ t, (rowB S T A t).length ≤ 4096) : ∀ k, k ≤ 4096 →
  (∀ t, (btAll S T A Y k).beats t = if t < k then rowB S T A t else []) ∧ ∀ p, ∃ n : Nat, n ≤ k * 4096 ∧ (btAll S T A Y k).left p = (n : Int) ∧ n = ((List.range k).map fun t => (rowB S T A t).count p).sum
 | 0, _ => ⟨fun t => by rw [if_neg (by omega)]; exact hb t, fun p => ⟨0, by omega, hl p, by simp⟩⟩
 | k + 1, hk => by
  obtain ⟨h1, h2⟩ := btAll_form S T A Y hb hl hlen k (by omega)
  rw [btAll_succ, bts_row]
  refine ⟨fun t => ?_, fun p => ?_⟩
  ·rw [addB_beats]
   by_cases e : t = k
   ·subst e; rw [if_pos rfl, h1 t, if_neg (by omega), List.nil_append, if_pos (by omega)]
   ·rw [if_neg e, h1 t]
    by_cases e2 : t < k
    ·rw [if_pos e2, if_pos (by omega)]
    ·rw [if_neg e2, if_neg (by omega)]
  ·obtain ⟨n, hn, he, hs⟩ := h2 p
   have hl2 := hlen k
   have hc : (rowB S T A k).count p ≤ (rowB S T A k).length := List.count_le_length
   refine ⟨n + (rowB S T A k).count p, by omega, addB_left k p _ _ n he (by omega), ?_⟩
   rw [List.range_succ, List.map_append, List.sum_append, ← hs]; simp
theorem sum_count (f : Nat → List Nat) (p : Nat) : ∀ k, (∀ t, t < k → (f t).Nodup) → ((List.range k).map fun t => (f t).count p).sum = (List.range k).countP fun t => decide (p ∈ f t)
 | 0, _ => by simp
 | k + 1, h => by
  rw [List.range_succ, List.map_append, List.sum_append, List.countP_append, sum_count f p k fun t ht => h t (by omega)]
  congr 1
  have hn := h k (by omega)
  by_cases hp : p ∈ f k
  ·have h5 := List.nodup_iff_count.1 hn p
   have h6 := List.count_pos_iff.2 hp
   simp [hp]; omega
  ·simp [hp, List.count_eq_zero.2 hp]
end Go.Proofs.Lx

namespace Go.Proofs.Lx
open Go Go.RowKit Go.Proofs.Tj
set_option linter.unusedVariables false
def cStr (S : Stc) (k q : Nat) : Nat := (List.range k).countP fun r => strR S r && decide (S.head r = q)
def cSup (S : Stc) (k q : Nat) : Nat := (List.range k).countP fun r => supR S r && decide (S.head r = q)
theorem cStr_succ (S : Stc) (k q : Nat) : cStr S (k + 1) q = cStr S k q + if strR S k = true ∧ S.head k = q then 1 else 0 := by
 unfold cStr
 rw [List.range_succ, List.countP_append]
 congr 1
 by_cases h : strR S k = true ∧ S.head k = q
 ·rw [if_pos h]; simp [h.1, h.2]
 ·rw [if_neg h]
  rw [List.countP_eq_zero]
  intro r hr
  rw [List.mem_singleton] at hr
  subst hr
  simpa using fun a b => h ⟨a, b⟩
theorem cSup_succ (S : Stc) (k q : Nat) : cSup S (k + 1) q = cSup S k q + if supR S k = true ∧ S.head k = q then 1 else 0 := by
 unfold cSup
 rw [List.range_succ, List.countP_append]
 congr 1
 by_cases h : supR S k = true ∧ S.head k = q
 ·rw [if_pos h]; simp [h.1, h.2]
 ·rw [if_neg h]
  rw [List.countP_eq_zero]
  intro r hr
  rw [List.mem_singleton] at hr
  subst hr
  simpa using fun a b => h ⟨a, b⟩
theorem addW_small {x : Int} (h0 : -100000 ≤ x) (h1 : x ≤ 100000) : addW x 1 = x + 1 := by unfold addW wrap64; omega
theorem layD1_form (T : Th) : ∀ k, k ≤ 4096 → (∀ q, (layD1 T k).strict q = (cStr (stc0 T) k q : Int)) ∧ (∀ q, (layD1 T k).backs q = (cSup (stc0 T) k q : Int)) ∧ ∀ r, r < k → (layD1 T k).needD r = ((stc0 T).bodyLen r : Int) ∧ (layD1 T k).need r = ((stc0 T).bodyLen r : Int)
 | 0, _ => ⟨fun q => by simp [layD1, cStr, dyn0], fun q => by simp [layD1, cSup, dyn0], fun r h => absurd h (by omega)⟩
 | k + 1, hk => by
  obtain ⟨h1, h2, h3⟩ := layD1_form T k (by omega)
  rw [layD1_succ]
  generalize hS : stc0 T = S at *
  generalize layD1 T k = D at *
  have c1 : ∀ q, cStr S k q ≤ k := fun q => by have := countP_le_len (fun r => strR S r && decide (S.head r = q)) (List.range k); rwa [List.length_range] at this
  have c2 : ∀ q, cSup S k q ≤ k := fun q => by have := countP_le_len (fun r => supR S r && decide (S.head r = q)) (List.range k); rwa [List.length_range] at this
  have e1 : (layRD S D k).strict = (layA S (setNeeds D k (S.bodyLen k : Int)) k).strict := by unfold layRD layB; split <;> rfl
  have e2 : (layA S (setNeeds D k (S.bodyLen k : Int)) k).backs = D.backs := by unfold layA; split <;> rfl
  have e3 : (layRD S D k).needD = (setNeeds D k (S.bodyLen k : Int)).needD := by unfold layRD layB layA; split <;> split <;> rfl
  have e4 : (layRD S D k).need = (setNeeds D k (S.bodyLen k : Int)).need := by unfold layRD layB layA; split <;> split <;> rfl
  refine ⟨fun q => ?_, fun q => ?_, fun r hr => ?_⟩
  ·rw [e1, cStr_succ]
   unfold layA
   by_cases hs : strR S k = true
   ·rw [if_pos hs]
    show Tj.upd D.strict (S.head k) (addW (D.strict (S.head k)) 1) q = _
    have := c1 (S.head k)
    by_cases e : q = S.head k
    ·subst e; rw [Tj.upd_same, h1, addW_small (by omega) (by omega), if_pos ⟨hs, rfl⟩]; omega
    ·rw [Tj.upd_ne e, h1, if_neg (fun k => e k.2.symm)]; omega
   ·rw [if_neg hs, if_neg (fun k => hs k.1)]
    show D.strict q = _; rw [h1]; omega
  ·rw [cSup_succ]
   unfold layRD layB
   by_cases hs : supR S k = true
   ·rw [if_pos hs]
    show Tj.upd (layA S (setNeeds D k (S.bodyLen k : Int)) k).backs (S.head k) (addW ((layA S (setNeeds D k (S.bodyLen k : Int)) k).backs (S.head k)) 1) q = _
    rw [e2]
    have := c2 (S.head k)
    by_cases e : q = S.head k
    ·subst e; rw [Tj.upd_same, h2, addW_small (by omega) (by omega), if_pos ⟨hs, rfl⟩]; omega
    ·rw [Tj.upd_ne e, h2, if_neg (fun k => e k.2.symm)]; omega
   ·rw [if_neg hs, if_neg (fun k => hs k.1), e2, h2]; omega
  ·rw [e3, e4]
   show Tj.upd D.needD k _ r = _ ∧ Tj.upd D.need k _ r = _
   by_cases e : r = k
   ·subst e; rw [Tj.upd_same, Tj.upd_same]; exact ⟨rfl, rfl⟩
   ·rw [Tj.upd_ne e, Tj.upd_ne e]; exact h3 r (by omega)
end Go.Proofs.Lx

namespace Go.Proofs.Lx
open Go Go.RowKit Go.Proofs.Tj
set_option linter.unusedVariables false
/-- But for the marks all is as it was. -/
def Like (D D' : Dyn) : Prop := D' = { D with marks := D'.marks, told := D'.told, queued := D'.queued, upd := D'.upd }
theorem Like.refl (D : Dyn) : Like D D := rfl
theorem Like.trans {D E F : Dyn} (h : Like D E) (k : Like E F) : Like D F := by
 unfold Like at *
 rw [k, h]
theorem like_tell (D : Dyn) (q tag : Nat) : Like D (tellD D q tag) := tell_shape D q tag
theorem like_fold {α : Type} {f : Dyn → α → Dyn} (hf : ∀ D x, Like D (f D x)) : ∀ (l : List α) (D : Dyn), Like D (l.foldl f D)
 | [], D => Like.refl D
 | x :: l, D => (hf D x).trans (like_fold hf l (f D x))
theorem like_tells (l : List Nat) (D : Dyn) : Like D (l.foldl tell1 D) := like_fold (fun D q => like_tell D q 1) l D
theorem like_tellR (S : Stc) (l : List Nat) (D : Dyn) : Like D (l.foldl (tellR S) D) := like_fold (fun D q => by
 unfold tellR; split
 ·exact like_tell D _ 1
 ·exact Like.refl D) l D
end Go.Proofs.Lx
namespace Go.Proofs.Lx
open Go Go.RowKit Go.Proofs.Tj
/-- Facts have no -D; what has no strict rule has. -/
theorem strD_form (F : Nat → Bool) (D : Dyn) : ∀ k, ((List.range k).foldl (strD F) D).strict = (fun q => if q < k ∧ F q = true then -1 else D.strict q) ∧
  Like { D with strict := ((List.range k).foldl (strD F) D).strict } ((List.range k).foldl (strD F) D)
 | 0 => ⟨by funext q; simp, rfl⟩
 | k + 1 => by
  obtain ⟨h1, h2⟩ := strD_form F D k
  rw [List.range_succ, List.foldl_append]
  generalize (List.range k).foldl (strD F) D = E at *
  show (strD F E k).strict = _ ∧ Like { D with strict := (strD F E k).strict } (strD F E k)
  have hk : ∀ q, q ≠ k → (q < k + 1 ↔ q < k) := fun q h => by omega
  unfold strD
  by_cases hF : F k = true
  ·rw [if_pos hF]
   refine ⟨?_, ?_⟩
   ·funext q
    show Tj.upd E.strict k (-1) q = _
    by_cases e : q = k
    ·subst e; rw [Tj.upd_same, if_pos ⟨by omega, hF⟩]
    ·rw [Tj.upd_ne e, h1]; simp only [hk q e]
   ·unfold Like at *; rw [h2]
  ·rw [if_neg hF]
   have hs : (fun q => if q < k + 1 ∧ F q = true then (-1 : Int) else D.strict q) = fun q => if q < k ∧ F q = true then -1 else D.strict q := by
    funext q
    by_cases e : q = k
    ·subst e; rw [if_neg (fun h => hF h.2), if_neg (fun h => hF h.2)]
    ·simp only [hk q e]
   rw [hs]
   split
   ·have ht := like_tell E k 2
    have hst : (tellD E k 2).strict = E.strict := by rw [ht]
    rw [hst]
    exact ⟨h1, h2.trans ht⟩
   ·exact ⟨h1, h2⟩
end Go.Proofs.Lx
namespace Go.Proofs.Lx
open Go Go.RowKit Go.Proofs.Tj
/-- A literal's foes are counted. -/
theorem foe_row (q : Nat) : ∀ (l : List Nat) (D : Dyn) (n : Nat), D.opn q = (n : Int) → n + l.length ≤ 100000 →
  l.foldl (foeD q) D = { D with opn := (l.foldl (foeD q) D).opn, clash := (l.foldl (foeD q) D).clash } ∧ (l.foldl (foeD q) D).opn q = ((n + l.countP (fun f => !hasT D f 2) : Nat) : Int) ∧
  (l.foldl (foeD q) D).clash q = (D.clash q || l.any fun f => hasT D f 1) ∧ ∀ a, a ≠ q → (l.foldl (foeD q) D).opn a = D.opn a ∧ (l.foldl (foeD q) D).clash a = D.clash a
 | [], D, n, h, _ => ⟨rfl, by simpa using h, by simp, fun a _ => ⟨rfl, rfl⟩⟩
 | f :: l, D, n, h, hn => by
  rw [List.length_cons] at hn
  rw [List.foldl_cons]
  have hE : foeD q D f = { D with opn := (foeD q D f).opn, clash := (foeD q D f).clash } := by unfold foeD; split <;> rfl
  have hc : (foeD q D f).clash q = (D.clash q || hasT D f 1) := by
   unfold foeD; split
   ·exact Tj.upd_same _ _ _
   ·exact Tj.upd_same _ _ _
  have hfar : ∀ a, a ≠ q → (foeD q D f).opn a = D.opn a ∧ (foeD q D f).clash a = D.clash a := fun a e => by
   unfold foeD; split
   ·exact ⟨rfl, Tj.upd_ne e⟩
   ·exact ⟨Tj.upd_ne e, Tj.upd_ne e⟩
  have ho : (foeD q D f).opn q = ((n + if hasT D f 2 = true then 0 else 1 : Nat) : Int) := by
   unfold foeD; split
   ·show D.opn q = _; rw [h]; simp
   ·show Tj.upd D.opn q (addW (D.opn q) 1) q = _
    rw [Tj.upd_same, h, addW_small (by omega) (by omega)]; omega
  have hm : ∀ x t, hasT (foeD q D f) x t = hasT D x t := fun x t => by rw [hE]; rfl
  generalize foeD q D f = E at *
  obtain ⟨k1, k2, k3, k4⟩ := foe_row q l E _ ho (by split <;> omega)
  generalize l.foldl (foeD q) E = G at *
  refine ⟨?_, ?_, ?_, fun a e => ⟨(k4 a e).1.trans (hfar a e).1, (k4 a e).2.trans (hfar a e).2⟩⟩
  ·rw [k1, hE]
  ·rw [k2, List.countP_cons]
   simp only [hm]
   cases hasT D f 2 <;> simp <;> omega
  ·rw [k3, hc, List.any_cons]
   simp only [hm]
   rw [Bool.or_assoc]
end Go.Proofs.Lx

namespace Go.Proofs.Lx
open Go Go.RowKit Go.Proofs.Tj
set_option linter.unusedVariables false
theorem layD1_rest (T : Th) : ∀ k, ∃ a b c d, layD1 T k = { dyn0 with needD := a, need := b, strict := c, backs := d }
 | 0 => ⟨_, _, _, _, rfl⟩
 | k + 1 => by
  obtain ⟨a, b, c, d, e⟩ := layD1_rest T k
  rw [layD1_succ, e]
  unfold layRD layB layA
  split <;> split <;> exact ⟨_, _, _, _, rfl⟩
theorem foes_all (S : Stc) (D : Dyn) (h0 : ∀ q, D.opn q = 0) (hc : ∀ q, D.clash q = false) (hl : ∀ q, (S.foes q).length ≤ 4096) : ∀ k,
  (List.range k).foldl (foesD S) D = { D with opn := ((List.range k).foldl (foesD S) D).opn, clash := ((List.range k).foldl (foesD S) D).clash } ∧
  ∀ q, (q < k → ((List.range k).foldl (foesD S) D).opn q = (((S.foes q).countP fun f => !hasT D f 2 : Nat) : Int) ∧ ((List.range k).foldl (foesD S) D).clash q = (S.foes q).any fun f => hasT D f 1) ∧ (k ≤ q → ((List.range k).foldl (foesD S) D).opn q = 0 ∧ ((List.range k).foldl (foesD S) D).clash q = false)
 | 0 => ⟨rfl, fun q => ⟨fun h => absurd h (by omega), fun _ => ⟨h0 q, hc q⟩⟩⟩
 | k + 1 => by
  obtain ⟨h1, h2⟩ := foes_all S D h0 hc hl k
  rw [List.range_succ, List.foldl_append]
  generalize (List.range k).foldl (foesD S) D = E at *
  rw [List.foldl_cons, List.foldl_nil]
  obtain ⟨z1, z2⟩ := (h2 k).2 (Nat.le_refl _)
  obtain ⟨k1, k2, k3, k4⟩ := foe_row k (S.foes k) E 0 z1 (by have := hl k; omega)
  have hm : ∀ f t, hasT E f t = hasT D f t := fun f t => by rw [h1]; rfl
  simp only [hm] at k2 k3
  rw [z2, Bool.false_or] at k3
  rw [Nat.zero_add] at k2
  have hE : foesD S E k = (S.foes k).foldl (foeD k) E := rfl
  rw [← hE] at k1 k2 k3 k4
  generalize foesD S E k = F at *
  refine ⟨?_, fun q => ⟨fun hq => ?_, fun hq => ?_⟩⟩
  ·rw [k1, h1]
  ·by_cases e : q = k
   ·subst e; exact ⟨k2, k3⟩
   ·rw [(k4 q e).1, (k4 q e).2]; exact (h2 q).1 (by omega)
  ·rw [(k4 q (by omega)).1, (k4 q (by omega)).2]; exact (h2 q).2 (by omega)
theorem Ord.tell {S : Stc} {B bt : Nat → List Nat} {fact : Nat → Bool} {D : Dyn} (h : Ord S B bt fact D.told) {q tag : Nat} (hv : ∀ H, CN S B bt fact H tag q) : Ord S B bt fact (tellD D q tag).told := by
 by_cases hh : hasT D q tag = true
 ·rw [tell_has hh]; exact h
 rw [tell_told hh]
 intro i q' t' hi
 by_cases hil : i < D.told.length
 ·rw [List.getElem?_append_left hil] at hi
  rw [List.take_append_of_le_length (by omega)]
  exact h i q' t' hi
 ·rw [List.getElem?_append_right (by omega)] at hi
  have hz : i - D.told.length = 0 := by
   rcases Nat.eq_zero_or_pos (i - D.told.length) with e | e
   ·exact e
   ·rw [List.getElem?_eq_none (by simp only [List.length_singleton]; omega)] at hi; cases hi
  rw [hz] at hi
  simp only [List.getElem?_cons_zero, Option.some.injEq, Prod.mk.injEq] at hi
  obtain ⟨rfl, rfl⟩ := hi
  exact hv _
theorem tells_has : ∀ (l : List Nat) (D : Dyn), (∀ q t, 1 ≤ t → HT D q t → HT (l.foldl tell1 D) q t) ∧ ∀ q ∈ l, HT (l.foldl tell1 D) q 1
 | [], D => ⟨fun _ _ _ h => h, fun q h => by cases h⟩
 | x :: l, D => by
  obtain ⟨h1, h2⟩ := tells_has l (tell1 D x)
  rw [List.foldl_cons]
  refine ⟨fun q t ht h => h1 q t ht (HT.tell (by omega) ht h), fun q hq => ?_⟩
  rcases List.mem_cons.1 hq with rfl | hq
  ·exact h1 _ _ (by omega) (HT.self D (by omega))
  ·exact h2 q hq
theorem tellR_mono {S : Stc} {D : Dyn} {r q t : Nat} (ht : 1 ≤ t) (h : HT D q t) : HT (tellR S D r) q t := by
 unfold tellR; split
 ·exact HT.tell (by omega) ht h
 ·exact h
theorem tellRs_has (S : Stc) (D : Dyn) : ∀ k, (∀ q t, 1 ≤ t → HT D q t → HT ((List.range k).foldl (tellR S) D) q t) ∧ ∀ r, r < k → strR S r = true → S.bodyLen r = 0 → HT ((List.range k).foldl (tellR S) D) (S.head r) 1
 | 0 => ⟨fun _ _ _ h => h, fun r h => absurd h (by omega)⟩
 | k + 1 => by
  obtain ⟨h1, h2⟩ := tellRs_has S D k
  rw [List.range_succ, List.foldl_append, List.foldl_cons, List.foldl_nil]
  refine ⟨fun q t ht h => tellR_mono ht (h1 q t ht h), fun r hr hs hb => ?_⟩
  by_cases e : r = k
  ·subst e
   unfold tellR; rw [if_pos ⟨hs, hb⟩]; exact HT.self _ (by omega)
  ·exact tellR_mono (by omega) (h2 r (by omega) hs hb)
theorem strD_mono {F : Nat → Bool} {D : Dyn} {k q t : Nat} (ht : 1 ≤ t) (h : HT D q t) : HT (strD F D k) q t := by
 unfold strD; split
 ·exact h
 split
 ·exact HT.tell (by omega) ht h
 ·exact h
theorem strDs_has (F : Nat → Bool) (D : Dyn) : ∀ k, (∀ q t, 1 ≤ t → HT D q t → HT ((List.range k).foldl (strD F) D) q t) ∧ ∀ q, q < k → F q = false → D.strict q = 0 → HT ((List.range k).foldl (strD F) D) q 2
 | 0 => ⟨fun _ _ _ h => h, fun r h => absurd h (by omega)⟩
 | k + 1 => by
  obtain ⟨h1, h2⟩ := strDs_has F D k
  have hs := (strD_form F D k).1
  rw [List.range_succ, List.foldl_append, List.foldl_cons, List.foldl_nil]
  generalize (List.range k).foldl (strD F) D = E at *
  refine ⟨fun q t ht h => strD_mono ht (h1 q t ht h), fun q hq hF h0 => ?_⟩
  by_cases e : q = k
  ·subst e
   have hs0 : E.strict q = D.strict q := by rw [hs]; exact if_neg (fun k => Nat.lt_irrefl _ k.1)
   unfold strD; rw [if_neg (by rw [hF]; exact Bool.false_ne_true), if_pos (hs0.trans h0)]
   exact HT.self _ (by omega)
  ·exact strD_mono (by omega) (h2 q (by omega) hF h0)
/-- What lay has counted when it comes to the pairs. -/
structure L5 (S : Stc) (B bt : Nat → List Nat) (F : Nat → Bool) (D : Dyn) : Prop where
 nd : ∀ r, r < S.m → D.needD r = ((B r).length : Int) ∧ D.need r = ((B r).length : Int)
 st : ∀ q, q < S.n → D.strict q = if F q = true then -1 else (cStr S S.m q : Int)
 bk : ∀ q, D.backs q = (cSup S S.m q : Int)
 op : ∀ q, q < S.n → D.opn q = (((S.foes q).countP fun f => !hasT D f 2 : Nat) : Int)
 cl : ∀ q, q < S.n → D.clash q = (S.foes q).any fun f => hasT D f 1
 z1 : ∀ r, D.deadD r = false ∧ D.dead r = false
 z2 : ∀ q, D.backed q = false ∧ D.standing q = false ∧ D.attacks q = 0
 z3 : ∀ p, D.settled p = false ∧ D.left p = 0
 ti : TI S.n D
 ord : Ord S B bt F D.told
 fa : ∀ q, F q = true → HT D q 1
 ru : ∀ r, r < S.m → strR S r = true → B r = [] → HT D (S.head r) 1
 no : ∀ q, q < S.n → F q = false → cStr S S.m q = 0 → HT D q 2
theorem hasT_like {D E : Dyn} (h : E.marks = D.marks) (q t : Nat) : hasT E q t = hasT D q t := by unfold hasT; rw [h]
section
variable {T : Th} {fl : List Nat}
theorem foe_len (hwf : WfTh T) (q : Nat) : ((stc0 T).foes q).length ≤ 4096 := by
 show ((T.foes.getD q []).map Int.toNat).length ≤ 4096
 rw [List.length_map]
 by_cases hq : q < T.foes.length
 ·rw [show T.foes.getD q [] = T.foes[q] by simp [hq]]
  have := (foesOk_spec hwf.fo q hq).1; omega
 ·rw [show T.foes.getD q [] = [] by simp [hq]]; simp
theorem l5_of (hwf : WfTh T) (hfl : ∀ x ∈ fl, x < T.foes.length) : L5 (lS1 T) (bdyT T) (btT T) (factF fl) (lD5 T fl) := by
 have hl := lay_ok hwf
 have hrl := hwf.rl
 obtain ⟨f1, f2, f3⟩ := layD1_form T T.rules.length (by omega)
 obtain ⟨a, b, c, d, e1⟩ := layD1_rest T T.rules.length
 have t1 : TI (lS1 T).n (lD1 T) := (ti_dyn0 _).steps (steps_layD1 T _ _)
 have t2 : TI (lS1 T).n (lD2 T fl) := t1.steps (steps_tells fl _ hfl)
 have t3 : TI (lS1 T).n (lD3 T fl) := t2.steps (steps_foldl _ _ fun r hr D => steps_tellR (hl.st.hdn r (List.mem_range.1 hr)) D)
 have t4 : TI (lS1 T).n (lD4 T fl) := t3.steps (steps_foldl _ _ fun r hr D => steps_strD (show r < (lS1 T).n from List.mem_range.1 hr) D)
 have t5 : TI (lS1 T).n (lD5 T fl) := t4.steps (steps_foldl _ _ fun r hr D => steps_foesD (lS1 T) D r)
 have k2 : Like (lD1 T) (lD2 T fl) := like_tells fl _
 have k3 : Like (lD2 T fl) (lD3 T fl) := like_tellR (lS1 T) _ _
 have k13 := k2.trans k3
 obtain ⟨s4, k4⟩ := strD_form (factF fl) (lD3 T fl) T.foes.length
 have e4 : ((List.range T.foes.length).foldl (strD (factF fl)) (lD3 T fl)) = lD4 T fl := rfl
 rw [e4] at s4 k4
 have sh : lD4 T fl = { lD1 T with marks := (lD4 T fl).marks, told := (lD4 T fl).told, queued := (lD4 T fl).queued, upd := (lD4 T fl).upd, strict := (lD4 T fl).strict } := by
  unfold Like at k4 k13
  rw [k4, k13]
 have sh1 : lD1 T = { dyn0 with needD := a, need := b, strict := c, backs := d } := e1
 have s3 : (lD3 T fl).strict = (lD1 T).strict := by rw [k13]
 obtain ⟨g1, g2⟩ := foes_all (lS1 T) (lD4 T fl) (fun q => by rw [sh, sh1]; rfl) (fun q => by rw [sh, sh1]; rfl) (foe_len hwf) T.foes.length
 have e5 : ((List.range T.foes.length).foldl (foesD (lS1 T)) (lD4 T fl)) = lD5 T fl := rfl
 rw [e5] at g1 g2
 have m5 : (lD5 T fl).marks = (lD4 T fl).marks := by rw [g1]
 have o5 : (lD5 T fl).told = (lD4 T fl).told := by rw [g1]
 have hb0 : ∀ r, bdyT T r = [] → (lS1 T).bodyLen r = 0 := fun r h => by
  have := bdy_len T r
  rw [h] at this
  exact this.symm
 have h5 : ∀ q t, HT (lD4 T fl) q t → HT (lD5 T fl) q t := fun q t h => by
  show hasT _ q t = true; rw [hasT_like m5]; exact h
 have F1 := tells_has fl (lD1 T)
 have F2 := tellRs_has (lS1 T) (lD2 T fl) (lS1 T).m
 have F3 := strDs_has (factF fl) (lD3 T fl) T.foes.length
 refine ⟨fun r hr => ?_, fun q hq => ?_, fun q => ?_, fun q hq => ?_, fun q hq => ?_, fun r => ?_, fun q => ?_, fun p => ?_, t5, ?_, fun q hq => ?_, fun r hr hs hb => ?_, fun q hq hF h0 => ?_⟩
 ·have : (lD5 T fl).needD r = (lD1 T).needD r ∧ (lD5 T fl).need r = (lD1 T).need r := by rw [g1, sh]; exact ⟨rfl, rfl⟩
  rw [this.1, this.2, bdy_len]; exact f3 r hr
 ·have : (lD5 T fl).strict q = (lD4 T fl).strict q := by rw [g1]
  rw [this, s4, s3]
  show (if q < T.foes.length ∧ factF fl q = true then -1 else (lD1 T).strict q) = _
  have hq : q < T.foes.length := hq
  by_cases hF : factF fl q = true
  ·rw [if_pos ⟨hq, hF⟩, if_pos hF]
  ·rw [if_neg (fun k => hF k.2), if_neg hF]; exact f1 q
 ·have : (lD5 T fl).backs q = (lD1 T).backs q := by rw [g1, sh]
  rw [this]; exact f2 q
 ·rw [((g2 q).1 hq).1]; simp only [hasT_like m5]
 ·rw [((g2 q).1 hq).2]; simp only [hasT_like m5]
 ·rw [g1, sh, sh1]; exact ⟨rfl, rfl⟩
 ·rw [g1, sh, sh1]; exact ⟨rfl, rfl, rfl⟩
 ·rw [g1, sh, sh1]; exact ⟨rfl, rfl⟩
 ·rw [o5]
  have o1 : Ord (lS1 T) (bdyT T) (btT T) (factF fl) (lD1 T).told := by
   rw [sh1]; intro i q tag h; exact absurd h (by simp [dyn0])
  have o2 : Ord (lS1 T) (bdyT T) (btT T) (factF fl) (lD2 T fl).told := by
   have : ∀ (l : List Nat) (D : Dyn), (∀ x ∈ l, factF fl x = true) → Ord (lS1 T) (bdyT T) (btT T) (factF fl) D.told → Ord (lS1 T) (bdyT T) (btT T) (factF fl) (l.foldl tell1 D).told := by
    intro l
    induction l with
    | nil => intro D _ h; exact h
    | cons x l ih =>
     intro D hx h
     exact ih _ (fun y hy => hx y (List.mem_cons_of_mem _ hy)) (h.tell fun H => .inl (hx x List.mem_cons_self))
   exact this fl _ (fun x hx => by unfold factF; simpa using hx) o1
  have o3 : Ord (lS1 T) (bdyT T) (btT T) (factF fl) (lD3 T fl).told := by
   have : ∀ k, k ≤ (lS1 T).m → Ord (lS1 T) (bdyT T) (btT T) (factF fl) ((List.range k).foldl (tellR (lS1 T)) (lD2 T fl)).told := by
    intro k
    induction k with
    | zero => intro _; exact o2
    | succ k ih =>
     intro hk
     rw [List.range_succ, List.foldl_append, List.foldl_cons, List.foldl_nil]
     unfold tellR
     split
     ·rename_i hc
      refine (ih (by omega)).tell fun H => .inr ⟨k, by omega, rfl, hc.1, fun b hb => ?_⟩
      have hlen : (bdyT T k).length = 0 := by rw [bdy_len]; exact hc.2
      rw [List.length_eq_zero_iff] at hlen
      rw [hlen] at hb; cases hb
     ·exact ih (by omega)
   exact this _ (Nat.le_refl _)
  have : ∀ k, k ≤ T.foes.length → Ord (lS1 T) (bdyT T) (btT T) (factF fl) ((List.range k).foldl (strD (factF fl)) (lD3 T fl)).told := by
   intro k
   induction k with
   | zero => intro _; exact o3
   | succ k ih =>
    intro hk
    have hs := (strD_form (factF fl) (lD3 T fl) k).1
    rw [List.range_succ, List.foldl_append, List.foldl_cons, List.foldl_nil]
    have ih := ih (by omega)
    generalize (List.range k).foldl (strD (factF fl)) (lD3 T fl) = E at *
    unfold strD
    split
    ·exact ih
    rename_i hF
    split
    ·rename_i h0
     have hs0 : E.strict k = (lD3 T fl).strict k := by rw [hs]; exact if_neg (fun k => Nat.lt_irrefl _ k.1)
     rw [hs0, s3] at h0
     have hc : cStr (stc0 T) T.rules.length k = 0 := by have := f1 k; unfold lD1 at h0; omega
     refine ih.tell fun H => ⟨by simpa using hF, fun r hr hh hst => ?_⟩
     have := countP_zero hc (List.mem_range.2 (show r < T.rules.length from hr))
     have hst : strR (stc0 T) r = true := hst
     have hh : (stc0 T).head r = k := hh
     rw [hst, hh] at this; simp at this
    ·exact ih
  exact this _ (Nat.le_refl _)
 ·have hq : q ∈ fl := by unfold factF at hq; simpa using hq
  exact h5 _ _ (F3.1 _ _ (by omega) (F2.1 _ _ (by omega) (F1.2 q hq)))
 ·exact h5 _ _ (F3.1 _ _ (by omega) (F2.2 r hr hs (hb0 r hb)))
 ·refine h5 _ _ (F3.2 q hq hF ?_)
  rw [s3]
  have h1 := f1 q
  have h0 : cStr (stc0 T) T.rules.length q = 0 := h0
  rw [h0] at h1; exact h1
end
end Go.Proofs.Lx
