/- Parts of the proof: Xm, Xu. theory.Cone, plain and in memory: what is to do, what is done; the rows of heads. -/
import Derived.Test.YtbidjiopnddldaaGreatP14
import Derived.Test.YtbidjiopnddldaaGreatP13
import Derived.Test.YtbidjiopnddldaaGreatP7
namespace Go.Proofs.Lx
open Go Go.RowKit Go.Proofs.Tj
set_option linter.unusedSimpArgs false
set_option linter.unusedVariables false
/-- h is the head of a rule with y in its body. -/
def HdOf (T : Th) (y h : Int) : Prop := ∃ j : Nat, j < T.rules.length ∧ y ∈ (T.rules.getD j default).body ∧ h = (T.rules.getD j default).head
/-- The list that the cone grows to: i of it are worked off. -/
structure PI (T : Th) (o D : List Int) (i : Nat) : Prop where
 ok : DOk T.foes.length D
 base : ∀ x ∈ o, x ∈ D
 cone : ∀ y ∈ D, InCone T o y.toNat
 shut : ∀ y ∈ D.take i, (∀ f ∈ row T.foes y, f ∈ D) ∧ ∀ h, HdOf T y h → h ∈ D
section
variable {T : Th} {o D : List Int} {i : Nat}
theorem PI.start (ho : ∀ x ∈ o, 0 ≤ x ∧ x < T.foes.length) : PI T o (addAll [] o) 0 :=
 ⟨(DOk.nil _).addAll ho, fun x hx => mem_addAll.2 (.inr hx), fun y hy => by
  rcases mem_addAll.1 hy with h | h
  ·simp at h
  ·exact .base (by rw [show ((y.toNat : Nat) : Int) = y by have := (ho y h).1; omega]; exact h), fun y hy => by simp at hy⟩
theorem heads_in (hwf : WfTh T) {y h : Int} (hh : HdOf T y h) : 0 ≤ h ∧ h < T.foes.length := by
 obtain ⟨j, hj, _, rfl⟩ := hh
 have := hwf.ru _ (List.getElem_mem hj)
 simp only [ruleOk, Bool.and_eq_true, decide_eq_true_eq] at this
 have hf := hwf.fl
 have e : T.rules.getD j default = T.rules[j] := by simp [hj]
 rw [e]; omega
theorem foes_in (hwf : WfTh T) {x : Nat} (hx : x < T.foes.length) {f : Int} (hf : f ∈ row T.foes (x : Int)) : 0 ≤ f ∧ f < T.foes.length := by
 rw [row_nat _ _ hx] at hf
 obtain ⟨j, h1, rfl, _⟩ := foe_in hwf hx hf
 omega
theorem PI.step (hwf : WfTh T) (h : PI T o D i) (hi : i < D.length) {x : Nat} (hx : D[i] = (x : Int)) {L : List Int} (hL : ∀ y, y ∈ L ↔ HdOf T (x : Int) y) : PI T o (addAll (addAll D (row T.foes (x : Int))) L) (i + 1) := by
 have hxD : (x : Int) ∈ D := by rw [← hx]; exact List.getElem_mem hi
 have hxn := (h.ok.rg _ hxD).2
 have hc : InCone T o x := by have := h.cone _ hxD; rwa [Int.toNat_natCast] at this
 have hfr : ∀ f ∈ row T.foes (x : Int), 0 ≤ f ∧ f < T.foes.length := fun f hf => foes_in hwf (by omega) hf
 have hLr : ∀ y ∈ L, 0 ≤ y ∧ y < T.foes.length := fun y hy => heads_in hwf ((hL y).1 hy)
 refine ⟨(h.ok.addAll hfr).addAll hLr, fun z hz => mem_addAll.2 (.inl (mem_addAll.2 (.inl (h.base z hz)))), fun y hy => ?_, fun y hy => ?_⟩
 ·rcases mem_addAll.1 hy with hy | hy
  ·rcases mem_addAll.1 hy with hy | hy
   ·exact h.cone y hy
   ·exact .foe hc (by rw [show ((y.toNat : Nat) : Int) = y by have := (hfr y hy).1; omega]; exact hy)
  ·obtain ⟨j, h1, h2, h3⟩ := (hL y).1 hy
   exact .head h1 h2 hc (by rw [show ((y.toNat : Nat) : Int) = y by have := (hLr y hy).1; omega]; exact h3.symm)
 ·obtain ⟨E1, e1⟩ := addAll_pre (row T.foes (x : Int)) D
  obtain ⟨E2, e2⟩ := addAll_pre L (addAll D (row T.foes (x : Int)))
  have e3 : (addAll (addAll D (row T.foes (x : Int))) L).take (i + 1) = D.take i ++ [D[i]] := by
   rw [e2, e1, List.append_assoc, List.take_append_of_le_length (by omega), List.take_succ_eq_append_getElem hi]
  rw [e3, List.mem_append, List.mem_singleton] at hy
  rcases hy with hy | hy
  ·obtain ⟨k1, k2⟩ := h.shut y hy
   exact ⟨fun f hf => mem_addAll.2 (.inl (mem_addAll.2 (.inl (k1 f hf)))), fun g hg => mem_addAll.2 (.inl (mem_addAll.2 (.inl (k2 g hg))))⟩
  ·rw [hx] at hy
   subst hy
   exact ⟨fun f hf => mem_addAll.2 (.inl (mem_addAll.2 (.inr hf))), fun g hg => mem_addAll.2 (.inr ((hL g).2 hg))⟩
theorem PI.all (h : PI T o D D.length) {q : Nat} (hc : InCone T o q) : (q : Int) ∈ D := by
 have hs := h.shut
 rw [List.take_length] at hs
 induction hc with
 | base hx => exact h.base _ hx
 | foe _ hf ih => exact (hs _ ih).1 _ hf
 | head hi hx _ hh ih => rw [← hh]; exact (hs _ ih).2 _ ⟨_, hi, hx, rfl⟩
open Classical in
theorem PI.done (h : PI T o D D.length) : pickL (fun q => (factsB T.foes.length D).getD q false) (factsB T.foes.length D).length = coneL T o := by
 rw [factsB_length]
 unfold coneL
 refine pickL_congr fun q hq => ?_
 have e : (factsB T.foes.length D).getD q false = memB D (q : Int) := by simp [factsB, hq]
 rw [e, Bool.eq_iff_iff, memB_true, decide_eq_true_iff]
 exact ⟨fun hm => by have := h.cone _ hm; rwa [Int.toNat_natCast] at this, fun hc => h.all hc⟩
/-- The rows of heads, of the first i rules and of k places of the next one's body. -/
structure HdR (T : Th) (i k : Nat) (xss : List (List Int)) : Prop where
 len : xss.length = T.foes.length
 mem : ∀ q (hq : q < xss.length) (h : Int), h ∈ xss[q] ↔ ∃ j : Nat, j < T.rules.length ∧ h = (T.rules.getD j default).head ∧ ((j < i ∧ (q : Int) ∈ (T.rules.getD j default).body) ∨ (j = i ∧ (q : Int) ∈ (T.rules.getD j default).body.take k))
 le : ∀ q (hq : q < xss.length), xss[q].length ≤ 16 * i + k
theorem HdR.zero (T : Th) : HdR T 0 0 (List.replicate T.foes.length []) := ⟨by simp, fun q hq h => by simp, fun q hq => by simp⟩
theorem HdR.next {k : Nat} {xss : List (List Int)} (h : HdR T i k xss) (hi : i < T.rules.length) (hk : k = (T.rules.getD i default).body.length) (h16 : k ≤ 16) : HdR T (i + 1) 0 xss := by
 refine ⟨h.len, fun q hq y => (h.mem q hq y).trans (exists_congr fun j => and_congr_right fun hj => and_congr_right fun _ => ?_), fun q hq => by have := h.le q hq; omega⟩
 constructor
 ·rintro (⟨h1, h2⟩ | ⟨rfl, h2⟩)
  ·exact .inl ⟨by omega, h2⟩
  ·exact .inl ⟨by omega, List.mem_of_mem_take h2⟩
 ·rintro (⟨h1, h2⟩ | ⟨_, h2⟩)
  ·by_cases e : j = i
   ·subst e
    exact .inr ⟨rfl, by rw [hk, List.take_length]; exact h2⟩
   ·exact .inl ⟨by omega, h2⟩
  ·simp at h2
theorem HdR.append {k q : Nat} {xss : List (List Int)} (h : HdR T i k xss) (hi : i < T.rules.length) (hk : k < (T.rules.getD i default).body.length) (hq : (T.rules.getD i default).body[k] = (q : Int)) (hqn : q < xss.length) :
  HdR T i (k + 1) (xss.set q (xss[q] ++ [(T.rules.getD i default).head])) := by
 have hT : ∀ (j p : Nat), (j = i ∧ (p : Int) ∈ (T.rules.getD j default).body.take (k + 1)) ↔ (j = i ∧ ((p : Int) ∈ (T.rules.getD j default).body.take k ∨ p = q)) := fun j p => and_congr_right fun e => by
  subst e
  rw [List.take_succ_eq_append_getElem hk, hq, List.mem_append, List.mem_singleton, Int.natCast_inj]
 refine ⟨by rw [List.length_set]; exact h.len, fun p hp y => ?_, fun p hp => ?_⟩
 ·rw [List.length_set] at hp
  simp only [hT]
  rw [List.getElem_set]
  by_cases e : q = p
  ·subst e
   rw [if_pos rfl, List.mem_append, List.mem_singleton, h.mem q hp y]
   constructor
   ·rintro (⟨j, h1, h2, h3⟩ | rfl)
    ·exact ⟨j, h1, h2, h3.imp id fun ⟨a, b⟩ => ⟨a, .inl b⟩⟩
    ·exact ⟨i, hi, rfl, .inr ⟨rfl, .inr rfl⟩⟩
   ·rintro ⟨j, h1, h2, h3⟩
    rcases h3 with ⟨h3, h4⟩ | ⟨rfl, h4⟩
    ·exact .inl ⟨j, h1, h2, .inl ⟨h3, h4⟩⟩
    ·exact .inr h2
  ·rw [if_neg e, h.mem p hp y]
   exact exists_congr fun j => and_congr_right fun hj => and_congr_right fun _ => or_congr Iff.rfl (and_congr_right fun hji => ⟨.inl, fun h1 => h1.elim id fun h2 => absurd h2.symm e⟩)
 ·rw [List.length_set] at hp
  have := h.le p hp
  rw [List.getElem_set]
  by_cases e : q = p
  ·subst e; rw [if_pos rfl, List.length_append, List.length_singleton]; omega
  ·rw [if_neg e]; omega
theorem HdR.done {xss : List (List Int)} (h : HdR T T.rules.length 0 xss) {q : Nat} (hq : q < xss.length) (y : Int) : y ∈ xss[q] ↔ HdOf T (q : Int) y := by
 rw [h.mem q hq y]
 constructor
 ·rintro ⟨j, h1, h2, ⟨h3, h4⟩ | ⟨_, h4⟩⟩
  ·exact ⟨j, h1, h4, h2⟩
  ·simp at h4
 ·rintro ⟨j, h1, h2, h3⟩
  exact ⟨j, h1, h3, .inl ⟨h1, h2⟩⟩
end
theorem own_ne_tag {w : World} {base e size n g : Nat} {v : Value} {xs : List Value} (h : w.ownsRow base e size v n xs) {cells : Array Value} {e' : TypeId} (hg : w.heap[g]? = some (.cells cells e' (0, 0))) (hne : e ≠ e') : v.ownBlock ≠ some g := by
 intro hb
 rcases h.2 with ⟨rfl, _⟩ | ⟨k, cap, cur, rfl, _, h3, _⟩
 ·simp [Value.ownBlock] at hb
 ·have : k = g := by simpa [Value.ownBlock] using hb
  subst this
  rw [h3] at hg
  injection hg with hg
  injection hg with h1 h2
  exact hne h2
/-- The rows in memory. -/
structure HW (W1 w : World) (g : Nat) (vs : List Value) (xss : List (List Int)) : Prop where
 rows : Rows w g (g + 1) 36 3 vs xss
 old : Below W1.heap.size W1 w
 sz : g + 1 ≤ w.heap.size
 lo : W1.heap.size ≤ g
section
variable {W1 w w' : World} {g : Nat} {vs : List Value} {xss : List (List Int)}
theorem HW.start (W1 : World) (n : Nat) : HW W1 (W1.alloc (.cells (madeCells #[Value.slice none 0 0] n) 36)) W1.heap.size (List.replicate n (.slice none 0 0)) (List.replicate n []) := by
 refine ⟨Rows.made _ _ _ _ _ _ (by omega) ((heap_alloc_new _ _).trans ?_), ext_alloc _ _, by simp, Nat.le_refl _⟩
 congr 2
 rw [← Array.toList_inj, toList_madeCells_one]
theorem HW.ext (h : HW W1 w g vs xss) (hb : Below w.heap.size w w') : HW W1 w' g vs xss := ⟨h.rows.ext hb, ext_trans h.old hb, by have := hb.size; have := h.sz; omega, h.lo⟩
theorem HW.append (h : HW W1 w g vs xss) {A : Obj} {q : Nat} (hq : q < vs.length) (hq' : q < xss.length) {v' : Value} {x : Int} (hgr : ((w.alloc A).drew).grownBy w' vs[q].ownBlock)
  (ho : w'.ownsRow (g + 1) 3 1 v' (xss[q].length + 1) (intsV xss[q] ++ [.int .i64 x])) (hat : v'.ownBlock = vs[q].ownBlock ∨ v'.ownBlock = some ((w.alloc A).drew).heap.size) :
  HW W1 (w'.setCell ⟨g, q, none⟩ v') g (vs.set q v') (xss.set q (xss[q] ++ [x])) := by
 have h2 := h.ext ((ext_alloc w A).drew)
 have hs : ((w.alloc A).drew).heap.size = w.heap.size + 1 := by simp [World.drew]
 have hsz := hgr.size
 have h0 := h.lo
 have h1 := h.sz
 have h3 := h.old.size
 refine ⟨h2.rows.append (by omega) hq hq' hgr ho (hat.imp id fun e => ⟨_, e, Nat.le_refl _⟩), ?_, by simp; omega, h0⟩
 refine Below.setCell ⟨hgr.os.trans h.old.os, hgr.tape.trans h.old.tape, hgr.output.trans h.old.output, by omega, fun k hk => ?_⟩ h0 _
 rw [hgr.block k (by omega) (fun e => by have := ((h.rows.own q hq hq').lt _ e.symm).1; omega)]
 exact (Below.heap_alloc w A k (by omega)).trans (h.old.block k hk)
/-- Behind the growth of a row: its slot is as it was, and so is a block of another type. -/
theorem HW.after (h : HW W1 w g vs xss) {A : Obj} {q : Nat} (hq : q < vs.length) (hgr : ((w.alloc A).drew).grownBy w' vs[q].ownBlock) {rb : Nat} {cells : Array Value} {e' : TypeId} (hrb : w.heap[rb]? = some (.cells cells e' (0, 0))) (hne : 3 ≠ e') :
  w'.heap[rb]? = some (.cells cells e' (0, 0)) ∧ w'.cell? ⟨g, q, none⟩ = some vs[q] ∧ w'.frozen? ⟨g, q, none⟩ = false := by
 have hq' : q < xss.length := by rw [← h.rows.len]; exact hq
 have ho := h.rows.own q hq hq'
 have hk : ∀ k, k < w.heap.size → vs[q].ownBlock ≠ some k → w'.heap[k]? = w.heap[k]? := fun k hk1 hk2 => by
  rw [hgr.block k (by simp [World.drew]; omega) (fun e => hk2 e.symm)]
  exact Below.heap_alloc w A k hk1
 have hg := (hk g h.rows.lt fun e => by have := (ho.lt _ e).1; omega).trans h.rows.blk
 refine ⟨(hk rb (lt_of_block hrb) (own_ne_tag ho hrb hne)).trans hrb, ?_, frozen_of_row w' g q _ _ hg⟩
 rw [cell_of_row w' g q _ _ _ hg]; simp [hq]
end
theorem CP.start (w : World) (n : Nat) : CP (((w.alloc (.cells (madeCells #[Value.bool false] n) 4)).alloc (.cells #[.slice (some ⟨w.heap.size, 0, none⟩) n n] 90)).alloc (.cells #[.slice none 0 0] 36)) w.heap.size n [] := by
 have h1 : (w.alloc (.cells (madeCells #[Value.bool false] n) 4)).heap.size = w.heap.size + 1 := by simp
 have h2 : ((w.alloc (.cells (madeCells #[Value.bool false] n) 4)).alloc (.cells #[.slice (some ⟨w.heap.size, 0, none⟩) n n] 90)).heap.size = w.heap.size + 2 := by simp
 refine ⟨?_, ⟨.slice none 0 0, ?_, by simpa [intsV] using World.ownsRow_nil _ _ _ _⟩, ?_, by simp⟩
 ·rw [Below.heap_alloc _ _ _ (by omega), ← h1]; exact heap_alloc_new _ _
 ·rw [← h2]; exact heap_alloc_new _ _
 ·refine (Below.heap_alloc _ _ _ (by omega)).trans ((Below.heap_alloc _ _ _ (by omega)).trans ((heap_alloc_new w _).trans ?_))
  congr 2
  rw [← Array.toList_inj, toList_madeCells_one]
  have : factsB n [] = List.replicate n false := factsUpto_zero n []
  rw [this]; simp
end Go.Proofs.Lx

namespace Go.Proofs.Lx
open Go Go.RowKit Go.Proofs.Tj
set_option linter.unusedSimpArgs false
set_option linter.unusedVariables false
theorem mem_pickD {p : Nat → Bool} {n : Nat} {y : Int} : y ∈ pickL p n ↔ ∃ x : Nat, x < n ∧ y = x ∧ p x = true := by
 unfold pickL
 rw [List.mem_map]
 constructor
 ·rintro ⟨x, hx, rfl⟩
  rw [List.mem_filter, List.mem_range] at hx
  exact ⟨x, hx.1, rfl, hx.2⟩
 ·rintro ⟨x, h1, rfl, h2⟩
  exact ⟨x, List.mem_filter.2 ⟨List.mem_range.2 h1, h2⟩, rfl⟩
theorem pickD_sorted (p : Nat → Bool) (n : Nat) : (pickL p n).Pairwise (· < ·) := by
 unfold pickL
 rw [List.pairwise_map]
 refine List.Pairwise.imp ?_ (List.Pairwise.filter p List.pairwise_lt_range)
 intro a b h; omega
/-- A list, sorted. -/
def srt (l : List Int) : List Int := l.mergeSort fun x y => decide (x ≤ y)
theorem mem_srt {l : List Int} {x : Int} : x ∈ srt l ↔ x ∈ l := List.mem_mergeSort
theorem srt_length (l : List Int) : (srt l).length = l.length := List.length_mergeSort l
/-- A number's place in a list; 0 where it is not in it. -/
def ixD (D : List Int) (x : Int) : Int := if x ∈ D then ((D.idxOf x : Nat) : Int) else 0
/-- The literals of a part: the cone's, and those that stand in the bodies of the first k rules. -/
def outL (T : Th) (cone : List Int) (k : Nat) : List Int := (T.rules.take k).foldl (fun D r => if memB cone r.head = true then addAll D r.body else D) cone
theorem outL_zero (T : Th) (cone : List Int) : outL T cone 0 = cone := by simp [outL]
theorem outL_succ {T : Th} {cone : List Int} {k : Nat} (hk : k < T.rules.length) : outL T cone (k + 1) = if memB cone T.rules[k].head = true then addAll (outL T cone k) T.rules[k].body else outL T cone k := by
 unfold outL
 rw [List.take_succ_eq_append_getElem hk, List.foldl_append]
 rfl
theorem outL_pre (T : Th) (cone : List Int) : ∀ k, k ≤ T.rules.length → ∃ E, outL T cone k = cone ++ E
 | 0, _ => ⟨[], by rw [outL_zero]; simp⟩
 | k + 1, hk => by
  obtain ⟨E, hE⟩ := outL_pre T cone k (by omega)
  rw [outL_succ (by omega)]
  split
  ·obtain ⟨E2, hE2⟩ := addAll_pre (T.rules[k]'(by omega)).body (outL T cone k)
   exact ⟨E ++ E2, by rw [hE2, hE, List.append_assoc]⟩
  ·exact ⟨E, hE⟩
theorem outL_body {T : Th} {cone : List Int} : ∀ {k i : Nat}, k ≤ T.rules.length → i < k → memB cone (T.rules.getD i default).head = true → ∀ y ∈ (T.rules.getD i default).body, y ∈ outL T cone k
 | 0, i, _, hi, _, _, _ => by omega
 | k + 1, i, hk, hi, hc, y, hy => by
  have hkl : k < T.rules.length := by omega
  rw [outL_succ hkl]
  by_cases e : i = k
  ·subst e
   have e2 : T.rules.getD i default = T.rules[i] := by simp [hkl]
   rw [e2] at hc hy
   rw [if_pos hc]
   exact mem_addAll.2 (.inr hy)
  ·have := outL_body (k := k) (by omega) (by omega) hc y hy
   split
   ·exact mem_addAll.2 (.inl this)
   ·exact this
theorem outL_ok {T : Th} {cone : List Int} (hwf : WfTh T) (hc : DOk T.foes.length cone) : ∀ {k : Nat}, k ≤ T.rules.length → DOk T.foes.length (outL T cone k)
 | 0, _ => by rw [outL_zero]; exact hc
 | k + 1, hk => by
  have hkl : k < T.rules.length := by omega
  rw [outL_succ hkl]
  split
  ·refine (outL_ok hwf hc (by omega)).addAll fun x hx => ?_
   have h1 := hwf.ru _ (List.getElem_mem hkl)
   simp only [ruleOk, Bool.and_eq_true, decide_eq_true_eq] at h1
   obtain ⟨a, ha, rfl⟩ := List.getElem_of_mem hx
   have := (risB_spec h1.2).1 a ha
   rw [← hwf.fl] at this
   exact this
  ·exact outL_ok hwf hc (by omega)
/-- The rules that are moved, of the first k. -/
def mvL (T : Th) (cone : List Int) (k : Nat) : List Nat := (List.range k).filter fun i => memB cone (T.rules.getD i default).head
theorem mvL_succ (T : Th) (cone : List Int) (k : Nat) : mvL T cone (k + 1) = mvL T cone k ++ if memB cone (T.rules.getD k default).head = true then [k] else [] := by
 unfold mvL
 rw [List.range_succ, List.filter_append]
 simp only [List.filter_cons, List.filter_nil]
theorem mem_mvL {T : Th} {cone : List Int} {k i : Nat} : i ∈ mvL T cone k ↔ i < k ∧ memB cone (T.rules.getD i default).head = true := by
 unfold mvL
 rw [List.mem_filter, List.mem_range]
theorem mvL_nd (T : Th) (cone : List Int) (k : Nat) : (mvL T cone k).Nodup := List.nodup_range.filter _
theorem mvL_len (T : Th) (cone : List Int) (k : Nat) : (mvL T cone k).length ≤ k := by
 unfold mvL
 have := List.length_filter_le (fun i => memB cone (T.rules.getD i default).head) (List.range k)
 simpa using this
/-- A rule that is moved. -/
def movR (T : Th) (D : List Int) (i : Nat) : Rule := ⟨(T.rules.getD i default).kind, ixD D (T.rules.getD i default).head, srt ((T.rules.getD i default).body.map (ixD D))⟩
def movRs (T : Th) (D cone : List Int) (k : Nat) : List Rule := (mvL T cone k).map (movR T D)
theorem movRs_succ (T : Th) (D cone : List Int) (k : Nat) : movRs T D cone (k + 1) = if memB cone (T.rules.getD k default).head = true then movRs T D cone k ++ [movR T D k] else movRs T D cone k := by
 unfold movRs
 rw [mvL_succ]
 split <;> simp
/-- What the outer literals that have come say. -/
def sayAll (S : List Nat) (D : List Int) (n : Nat) (vis : List Nat) : List Rule := vis.reverse.flatMap fun j => if n ≤ j then sayRs (S.getD (D.getD j 0).toNat 0) j else []
def sayFacts (S : List Nat) (D : List Int) (n : Nat) (vis : List Nat) : List Int := vis.reverse.flatMap fun j => if n ≤ j then sayFs (S.getD (D.getD j 0).toNat 0) j else []
theorem sayAll_cons (S : List Nat) (D : List Int) (n j : Nat) (vis : List Nat) : sayAll S D n (j :: vis) = sayAll S D n vis ++ if n ≤ j then sayRs (S.getD (D.getD j 0).toNat 0) j else [] := by
 simp [sayAll]
theorem sayFacts_cons (S : List Nat) (D : List Int) (n j : Nat) (vis : List Nat) : sayFacts S D n (j :: vis) = sayFacts S D n vis ++ if n ≤ j then sayFs (S.getD (D.getD j 0).toNat 0) j else [] := by
 simp [sayFacts]
/-- The facts that lie in the cone. -/
def inFacts (D cone F : List Int) : List Int := (F.filter fun q => memB cone q).map (ixD D)
/-- The foes of a part. -/
def cutFoes (T : Th) (D : List Int) (n : Nat) : List (List Int) := (List.range D.length).map fun j => if j < n then (row T.foes (D.getD j 0)).map (ixD D) else []
section
variable {T : Th} {D cone : List Int}
theorem olNd {n : Nat} (hD : DOk n D) : (D.map Int.toNat).Nodup := by
 rw [List.nodup_iff_pairwise_ne, List.pairwise_map]
 refine (List.nodup_iff_pairwise_ne.1 hD.nd).imp_of_mem fun {a b} ha hb hne e => hne ?_
 have := (hD.rg a ha).1
 have := (hD.rg b hb).1
 omega
theorem olIdx {n : Nat} (hD : DOk n D) {y : Int} (hy : y ∈ D) : (D.map Int.toNat).idxOf y.toNat = D.idxOf y := by
 have hi := List.idxOf_lt_length_of_mem hy
 have hi2 : D.idxOf y < (D.map Int.toNat).length := by simpa using hi
 have := idx_of (olNd hD) hi2
 rw [List.getElem_map, List.getElem_idxOf] at this
 exact this
theorem ixD_of {n : Nat} (hD : DOk n D) {y : Int} (hy : y ∈ D) : ixD D y = (((D.map Int.toNat).idxOf y.toNat : Nat) : Int) := by
 unfold ixD
 rw [if_pos hy, olIdx hD hy]
theorem mem_coneL {o : List Int} {q : Nat} : (q : Int) ∈ coneL T o ↔ q < T.foes.length ∧ InCone T o q := by
 unfold coneL
 rw [mem_pickD]
 constructor
 ·rintro ⟨x, hx, e, h⟩
  have : q = x := by omega
  subst this
  exact ⟨hx, by simpa using h⟩
 ·rintro ⟨h1, h2⟩
  exact ⟨q, h1, rfl, by simpa using h2⟩
theorem coneL_ok (T : Th) (o : List Int) : DOk T.foes.length (coneL T o) := by
 refine ⟨?_, fun x hx => ?_⟩
 ·unfold coneL
  exact List.nodup_iff_pairwise_ne.2 ((pickD_sorted _ _).imp fun h => by omega)
 ·unfold coneL at hx
  obtain ⟨y, h1, rfl, _⟩ := mem_pickD.1 hx
  omega
end
section
variable {T : Th} {o F : List Int} {S : List Nat}
/-- What cut leaves. -/
theorem cut_of (hwf : WfTh T) {D : List Int} (hDe : D = outL T (coneL T o) T.rules.length) {vis : List Nat} (hvis : ∀ j, j ∈ vis ↔ j < D.length) {BE : List (List Int)} {l : List Int} (hF : ∀ x ∈ F, 0 ≤ x)
  (hBE : ∀ k (h : k < (mvL T (coneL T o) T.rules.length).length) (x : Int), x ∈ BE.getD k [] ↔ x ∈ (beatsAt T (mvL T (coneL T o) T.rules.length)[k]).map (ixD ((mvL T (coneL T o) T.rules.length).map fun (i : Nat) => (i : Int))))
  (hl : ∀ x : Int, x ∈ l ↔ x ∈ sayFacts S D (coneL T o).length vis ++ inFacts D (coneL T o) F) :
  Cut T ⟨D.length, cutFoes T D (coneL T o).length, movRs T D (coneL T o) T.rules.length ++ sayAll S D (coneL T o).length vis, BE⟩ F l o S (D.map Int.toNat) (coneL T o).length (mvL T (coneL T o) T.rules.length) := by
 have hD : DOk T.foes.length D := by rw [hDe]; exact outL_ok hwf (coneL_ok T o) (Nat.le_refl _)
 obtain ⟨E, hE⟩ := outL_pre T (coneL T o) T.rules.length (Nat.le_refl _)
 rw [← hDe] at hE
 have hnl : (coneL T o).length ≤ D.length := by rw [hE, List.length_append]; omega
 have hcD : ∀ x ∈ coneL T o, x ∈ D := fun x hx => by rw [hE]; exact List.mem_append_left _ hx
 have hhead : ∀ i q : Nat, i < T.rules.length → (T.rules.getD i default).head = (q : Int) → InCone T o q → memB (coneL T o) (T.rules.getD i default).head = true := fun i q h1 h2 h3 => by
  have h4 := hwf.ru _ (List.getElem_mem h1)
  have e : T.rules.getD i default = T.rules[i] := by simp [h1]
  rw [← e] at h4
  simp only [ruleOk, Bool.and_eq_true, decide_eq_true_eq] at h4
  rw [memB_true, h2]
  refine mem_coneL.2 ⟨?_, h3⟩
  have := hwf.fl
  omega
 have hhead2 : ∀ i : Nat, memB (coneL T o) (T.rules.getD i default).head = true → ∃ q : Nat, (T.rules.getD i default).head = (q : Int) ∧ InCone T o q := fun i h => by
  rw [memB_true] at h
  have h0 := (coneL_ok T o).rg _ h
  obtain ⟨q, hq⟩ := Int.eq_ofNat_of_zero_le h0.1
  rw [hq] at h
  exact ⟨q, hq, (mem_coneL.1 h).2⟩
 have hbod : ∀ i : Nat, i < T.rules.length → memB (coneL T o) (T.rules.getD i default).head = true → ∀ y ∈ (T.rules.getD i default).body, y ∈ D := fun i h1 h2 y hy => by
  rw [hDe]; exact outL_body (Nat.le_refl _) h1 h2 y hy
 have hgD : ∀ j (h : j < D.length), D.getD j 0 = D[j] := fun j h => by simp [h]
 have hol : ∀ j (h : j < (D.map Int.toNat).length), (((D.map Int.toNat)[j] : Nat) : Int) = D[j]'(by simpa using h) := fun j h => by
  rw [List.getElem_map]
  exact Int.toNat_of_nonneg (hD.rg _ (List.getElem_mem _)).1
 have hcj : ∀ j (h : j < D.length), j < (coneL T o).length → D[j] ∈ coneL T o := fun j h hj => by
  have : D[j] = (coneL T o)[j] := by simp only [hE]; exact List.getElem_append_left hj
  rw [this]; exact List.getElem_mem hj
 have hlen : (movRs T D (coneL T o) T.rules.length).length = (mvL T (coneL T o) T.rules.length).length := by simp [movRs]
 have hmv : ∀ k (h : k < (mvL T (coneL T o) T.rules.length).length), (movRs T D (coneL T o) T.rules.length ++ sayAll S D (coneL T o).length vis).getD k default = movR T D (mvL T (coneL T o) T.rules.length)[k] := fun k h => by
  rw [List.getD_eq_getElem?_getD, List.getElem?_append_left (by rw [hlen]; exact h)]
  simp [movRs, h]
 have hsay : ∀ r, r ∈ sayAll S D (coneL T o).length vis ↔ ∃ j, j < D.length ∧ (coneL T o).length ≤ j ∧ r ∈ sayRs (S.getD (D.getD j 0).toNat 0) j := fun r => by
  unfold sayAll
  rw [List.mem_flatMap]
  constructor
  ·rintro ⟨j, hj, hr⟩
   rw [List.mem_reverse, hvis] at hj
   by_cases h : (coneL T o).length ≤ j
   ·rw [if_pos h] at hr; exact ⟨j, hj, h, hr⟩
   ·rw [if_neg h] at hr; cases hr
  ·rintro ⟨j, hj, h, hr⟩
   exact ⟨j, by rw [List.mem_reverse, hvis]; exact hj, by rw [if_pos h]; exact hr⟩
 have hsayf : ∀ x, x ∈ sayFacts S D (coneL T o).length vis ↔ ∃ j, j < D.length ∧ (coneL T o).length ≤ j ∧ x ∈ sayFs (S.getD (D.getD j 0).toNat 0) j := fun r => by
  unfold sayFacts
  rw [List.mem_flatMap]
  constructor
  ·rintro ⟨j, hj, hr⟩
   rw [List.mem_reverse, hvis] at hj
   by_cases h : (coneL T o).length ≤ j
   ·rw [if_pos h] at hr; exact ⟨j, hj, h, hr⟩
   ·rw [if_neg h] at hr; cases hr
  ·rintro ⟨j, hj, h, hr⟩
   exact ⟨j, by rw [List.mem_reverse, hvis]; exact hj, by rw [if_pos h]; exact hr⟩
 have hex : ∀ r, r ∈ sayAll S D (coneL T o).length vis → ∃ k, k < (movRs T D (coneL T o) T.rules.length ++ sayAll S D (coneL T o).length vis).length ∧ (movRs T D (coneL T o) T.rules.length ++ sayAll S D (coneL T o).length vis).getD k default = r := fun r hr => by
  obtain ⟨k, hk, e⟩ := List.getElem_of_mem hr
  refine ⟨(movRs T D (coneL T o) T.rules.length).length + k, by rw [List.length_append]; omega, ?_⟩
  rw [List.getD_eq_getElem?_getD, List.getElem?_append_right (by omega)]
  simp [hk, e]
 have hgo : ∀ j (hj : j < (D.map Int.toNat).length), (D.map Int.toNat)[j] = (D.getD j 0).toNat := fun j hj => by rw [List.getElem_map, hgD j (by simpa using hj)]
 refine ⟨olNd hD, fun q hq => ?_, by simpa using hnl, fun q => ?_, fun i q h1 h2 h3 y hy => ?_, by simp [cutFoes], fun j hj hjn => ?_, fun j hj => ?_, mvL_nd _ _ _, fun i => ?_, by simp [hlen], fun k hk => ?_, fun k h1 h2 => ?_, fun j hj hjn h0 h1 => ?_, fun j hj hjn h0 h1 => ?_, fun j hj hjn h0 h1 h2 => ?_, fun k hk x => ?_, fun j hj => ?_⟩
 ·obtain ⟨x, hx, rfl⟩ := List.mem_map.1 hq
  have := hD.rg x hx
  omega
 ·rw [← List.map_take]
  have e : D.take (coneL T o).length = coneL T o := by rw [hE]; simp
  rw [e, List.mem_map]
  constructor
  ·rintro ⟨x, hx, rfl⟩
   have := ((coneL_ok T o).rg x hx).1
   refine mem_coneL.1 ?_
   rw [Int.toNat_of_nonneg this]; exact hx
  ·intro h
   exact ⟨(q : Int), mem_coneL.2 h, by simp⟩
 ·exact List.mem_map.2 ⟨(y : Int), hbod i h1 (hhead i q h1 h2 h3) _ hy, by simp⟩
 ·have hjD : j < D.length := by simpa using hj
  simp only [row, Int.toNat_natCast, cutFoes]
  rw [List.getD_eq_getElem?_getD, List.getElem?_map, List.getElem?_range hjD]
  simp only [Option.map_some, Option.getD_some, if_pos hjn, hgD j hjD]
  rw [List.getElem_map]
  refine List.map_congr_left fun f hf => ixD_of hD (hcD f ?_)
  have hc := hcj j hjD hjn
  have h0 := (hD.rg _ (List.getElem_mem hjD))
  obtain ⟨q, hq⟩ := Int.eq_ofNat_of_zero_le h0.1
  rw [hq] at hc hf
  have hf' : f ∈ row T.foes (q : Int) := by simpa [row] using hf
  have hc2 := mem_coneL.1 hc
  rw [row_nat _ _ hc2.1] at hf'
  obtain ⟨y, hy, rfl, _⟩ := foe_in hwf hc2.1 hf'
  refine mem_coneL.2 ⟨hy, .foe hc2.2 ?_⟩
  rw [row_nat _ _ hc2.1]; exact hf'
 ·simp only [row, Int.toNat_natCast, cutFoes]
  by_cases hjD : j < D.length
  ·rw [List.getD_eq_getElem?_getD, List.getElem?_map, List.getElem?_range hjD]
   simp only [Option.map_some, Option.getD_some]
   rw [if_neg (by omega)]
  ·rw [List.getD_eq_getElem?_getD, List.getElem?_eq_none (by simp; omega)]
   rfl
 ·rw [mem_mvL]
  constructor
  ·rintro ⟨h1, h2⟩
   exact ⟨h1, hhead2 i h2⟩
  ·rintro ⟨h1, q, h2, h3⟩
   exact ⟨h1, hhead i q h1 h2 h3⟩
 ·have hm := mem_mvL.1 (List.getElem_mem hk)
  dsimp only
  rw [hmv k hk]
  refine ⟨rfl, ixD_of hD (hcD _ (memB_true.1 hm.2)), fun x => ?_⟩
  simp only [movR]
  rw [mem_srt, List.mem_map]
  constructor
  ·rintro ⟨y, hy, rfl⟩
   exact ⟨y, hy, ixD_of hD (hbod _ hm.1 hm.2 y hy)⟩
  ·rintro ⟨y, hy, rfl⟩
   exact ⟨y, hy, ixD_of hD (hbod _ hm.1 hm.2 y hy)⟩
 ·dsimp only at h2 ⊢
  have h3 : k - (movRs T D (coneL T o) T.rules.length).length < (sayAll S D (coneL T o).length vis).length := by rw [List.length_append] at h2; omega
  have e : (movRs T D (coneL T o) T.rules.length ++ sayAll S D (coneL T o).length vis).getD k default = (sayAll S D (coneL T o).length vis)[k - (movRs T D (coneL T o) T.rules.length).length] := by
   rw [List.getD_eq_getElem?_getD, List.getElem?_append_right (by omega)]
   simp [h3]
  obtain ⟨j, hj, hjn, hr⟩ := (hsay _).1 (List.getElem_mem h3)
  rw [e]
  refine ⟨j, by simpa using hj, hjn, ?_⟩
  have e2 : (D.map Int.toNat)[j]'(by simpa using hj) = (D.getD j 0).toNat := by rw [List.getElem_map, hgD j hj]
  rw [e2]
  generalize (sayAll S D (coneL T o).length vis)[k - (movRs T D (coneL T o) T.rules.length).length] = r at hr ⊢
  unfold sayRs at hr
  unfold SayR hasM
  simp only [Int.toNat_natCast]
  generalize S.getD (D.getD j 0).toNat 0 = m at hr ⊢
  cases h0 : m.testBit 0 <;> cases h1 : m.testBit 1 <;> cases h2 : m.testBit 2 <;> cases h3 : m.testBit 3 <;> simp [h0, h1, h2, h3] at hr <;> (try rcases hr with rfl | rfl) <;> (try subst hr) <;> simp [h0, h1, h2, h3]
 ·refine hex _ ((hsay _).2 ⟨j, by simpa using hj, hjn, ?_⟩)
  rw [hgo j hj] at h0 h1
  unfold hasM at h0 h1
  simp only [Int.toNat_natCast] at h0 h1
  unfold sayRs; rw [h0, h1]; simp
 ·refine hex _ ((hsay _).2 ⟨j, by simpa using hj, hjn, ?_⟩)
  rw [hgo j hj] at h0 h1
  unfold hasM at h0 h1
  simp only [Int.toNat_natCast] at h0 h1
  unfold sayRs; rw [h0, h1]; simp
 ·refine hex _ ((hsay _).2 ⟨j, by simpa using hj, hjn, ?_⟩)
  rw [hgo j hj] at h0 h1 h2
  unfold hasM at h0 h1 h2
  simp only [Int.toNat_natCast] at h0 h1 h2
  unfold sayRs; rw [h0, h1, h2]; simp
 ·have hm := mem_mvL.1 (List.getElem_mem hk)
  have hmD : DOk T.rules.length ((mvL T (coneL T o) T.rules.length).map fun (i : Nat) => (i : Int)) := by
   refine ⟨?_, fun y hy => ?_⟩
   ·rw [List.nodup_iff_pairwise_ne, List.pairwise_map]
    exact (List.nodup_iff_pairwise_ne.1 (mvL_nd T (coneL T o) T.rules.length)).imp fun h e => h (by omega)
   ·obtain ⟨i, hi, rfl⟩ := List.mem_map.1 hy
    have := (mem_mvL.1 hi).1
    omega
  have hmap : ((mvL T (coneL T o) T.rules.length).map fun (i : Nat) => (i : Int)).map Int.toNat = mvL T (coneL T o) T.rules.length := by
   rw [List.map_map]
   conv => rhs; rw [← List.map_id (mvL T (coneL T o) T.rules.length)]
   exact List.map_congr_left fun i _ => by simp
  have hix : ∀ y ∈ beatsAt T (mvL T (coneL T o) T.rules.length)[k], ixD ((mvL T (coneL T o) T.rules.length).map fun (i : Nat) => (i : Int)) y = (((mvL T (coneL T o) T.rules.length).idxOf y.toNat : Nat) : Int) := fun y hy => by
   obtain ⟨hy0, hyn, hyf⟩ := beats_in hwf hm.1 hy
   obtain ⟨z, rfl⟩ := Int.eq_ofNat_of_zero_le hy0
   have hz : z < T.rules.length := by omega
   obtain ⟨q, hq, hqc⟩ := hhead2 _ hm.2
   have hzm : z ∈ mvL T (coneL T o) T.rules.length := by
    have hfo := memB_true.1 hyf
    have e3 : headOf T (((mvL T (coneL T o) T.rules.length)[k] : Nat) : Int) = (q : Int) := by simpa [headOf] using hq
    rw [e3] at hfo
    have hc2 := mem_coneL.1 (by rw [← hq]; exact memB_true.1 hm.2 : (q : Int) ∈ coneL T o)
    have hf0 := hfo
    rw [row_nat _ _ hc2.1] at hf0
    obtain ⟨y2, hy2, e4, _⟩ := foe_in hwf hc2.1 hf0
    have e5 : (T.rules.getD z default).head = (y2 : Int) := by simpa [headOf] using e4
    refine mem_mvL.2 ⟨hz, hhead z y2 hz e5 (.foe hqc ?_)⟩
    rw [← e4]; exact hfo
   rw [ixD_of hmD (List.mem_map.2 ⟨z, hzm, rfl⟩), hmap]
  have e : beatsAt (⟨D.length, cutFoes T D (coneL T o).length, movRs T D (coneL T o) T.rules.length ++ sayAll S D (coneL T o).length vis, BE⟩ : Th) k = BE.getD k [] := rfl
  rw [e, hBE k hk, List.mem_map]
  constructor
  ·rintro ⟨y, hy, rfl⟩
   exact ⟨y, hy, hix y hy⟩
  ·rintro ⟨y, hy, rfl⟩
   exact ⟨y, hy, hix y hy⟩
 ·have hjD : j < D.length := by simpa using hj
  rw [hl, List.mem_append, hsayf]
  constructor
  ·rintro (⟨j', h1, h2, h3⟩ | h)
   ·right
    unfold sayFs at h3
    by_cases hb : (S.getD (D.getD j' 0).toNat 0).testBit 0 = true
    ·rw [if_pos hb, List.mem_singleton] at h3
     have : j = j' := by omega
     subst this
     refine ⟨h2, ?_⟩
     rw [hgo j hj]
     unfold hasM; simp only [Int.toNat_natCast]; exact hb
    ·rw [if_neg hb] at h3; cases h3
   ·left
    unfold inFacts at h
    rw [List.mem_map] at h
    obtain ⟨q, hq, e⟩ := h
    rw [List.mem_filter] at hq
    have hqc := memB_true.1 hq.2
    have hqD := hcD q hqc
    unfold ixD at e
    rw [if_pos hqD] at e
    have e2 : D.idxOf q = j := by omega
    have hlt : D.idxOf q < (coneL T o).length := by rw [hE, List.idxOf_append, if_pos hqc]; exact List.idxOf_lt_length_of_mem hqc
    refine ⟨by omega, ?_⟩
    rw [hol j hj]
    have : D[j] = q := by
     have h9 := List.getElem_idxOf (List.idxOf_lt_length_of_mem hqD)
     simp only [e2] at h9; exact h9
    rw [this]; exact hq.1
  ·rintro (⟨h1, h2⟩ | ⟨h1, h2⟩)
   ·right
    rw [hol j hj] at h2
    unfold inFacts
    rw [List.mem_map]
    have hc := hcj j hjD h1
    refine ⟨D[j], List.mem_filter.2 ⟨h2, memB_true.2 hc⟩, ?_⟩
    unfold ixD
    rw [if_pos (hcD _ hc)]
    have h9 := List.idxOf_lt_length_of_mem (hcD _ hc)
    have h8 := List.getElem_idxOf h9
    have : D.idxOf D[j] = j := by
     rcases Nat.lt_trichotomy (D.idxOf D[j]) j with h | h | h
     ·exact absurd h8 (List.pairwise_iff_getElem.1 (List.nodup_iff_pairwise_ne.1 hD.nd) _ _ h9 hjD h)
     ·exact h
     ·exact absurd h8.symm (List.pairwise_iff_getElem.1 (List.nodup_iff_pairwise_ne.1 hD.nd) _ _ hjD h9 h)
    rw [this]
   ·left
    refine ⟨j, hjD, h1, ?_⟩
    rw [hgo j hj] at h2
    unfold hasM at h2; simp only [Int.toNat_natCast] at h2
    unfold sayFs; rw [if_pos h2]; exact List.mem_singleton.2 rfl
end
end Go.Proofs.Lx
