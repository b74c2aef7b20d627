/- Parts of the proof: Nw, Ni, Pa, Nx. Words for naive.newWorld: the rows of rules, the facts, its world. -/
import Derived.Test.YtalhpldbhogadaaU5
import Derived.Deep.DeepCutAuto
import Derived.Test.YtalhpldbhogadaaU24
namespace Go.Proofs.Lx
open Go Go.RowKit
set_option linter.unusedSimpArgs false
set_option linter.unusedVariables false

def rulesUpto (rs : List Rule) (k : Nat) (q : Nat) : List Int := ((List.range k).filter fun i => (rs.getD i default).head == (q : Int)).map fun (i : Nat) => (i : Int)
/-- Of each literal the rules with it as head, the first k rules alone. -/
def rulesRows (rs : List Rule) (n k : Nat) : List (List Int) := (List.range n).map (rulesUpto rs k)
theorem rulesRows_length (rs : List Rule) (n k : Nat) : (rulesRows rs n k).length = n := by simp [rulesRows]
theorem rulesRows_at (rs : List Rule) (n k : Nat) {q : Nat} (hq : q < n) : (rulesRows rs n k)[q]'(by rw [rulesRows_length]; exact hq) = rulesUpto rs k q := by simp [rulesRows]
theorem rulesUpto_length (rs : List Rule) (k q : Nat) : (rulesUpto rs k q).length ≤ k := by
 unfold rulesUpto; rw [List.length_map]
 exact Nat.le_trans (List.length_filter_le _ _) (by simp)
theorem rulesRows_succ (rs : List Rule) (n k : Nat) (hk : k < rs.length) (h0 : 0 ≤ rs[k].head) (h1 : rs[k].head < n) :
  rulesRows rs n (k + 1) = (rulesRows rs n k).set rs[k].head.toNat (rulesUpto rs k rs[k].head.toNat ++ [(k : Int)]) := by
 apply List.ext_getElem
 ·simp [rulesRows]
 ·intro q hq1 hq2
  rw [rulesRows_length] at hq1
  rw [rulesRows_at _ _ _ hq1, List.getElem_set]
  have hg : rs.getD k default = rs[k] := by simp [hk]
  by_cases e : rs[k].head.toNat = q
  ·rw [if_pos e]; subst e
   rw [rulesUpto, List.range_succ, List.filter_append, List.map_append]
   have : ((rs.getD k default).head == ((rs[k].head.toNat : Nat) : Int)) = true := by rw [hg, beq_iff_eq]; omega
   rw [List.filter_cons_of_pos (by exact this)]; rfl
  ·rw [if_neg e, rulesRows_at _ _ _ hq1, rulesUpto, List.range_succ, List.filter_append, List.map_append]
   have : ¬ ((rs.getD k default).head == (q : Int)) = true := by rw [hg, beq_iff_eq]; omega
   rw [List.filter_cons_of_neg (by exact this)]; simp [rulesUpto]
theorem rulesRows_zero (rs : List Rule) (n : Nat) : rulesRows rs n 0 = List.replicate n [] := by
 apply List.ext_getElem
 ·simp [rulesRows]
 ·intro q h1 h2; rw [rulesRows_length] at h1; rw [rulesRows_at _ _ _ h1]; simp [rulesUpto]
theorem mem_rulesUpto {rs : List Rule} {k q : Nat} {r : Int} : r ∈ rulesUpto rs k q ↔ ∃ i : Nat, i < k ∧ r = i ∧ (rs.getD i default).head = q := by
 simp only [rulesUpto, List.mem_map, List.mem_filter, List.mem_range, beq_iff_eq]
 constructor
 ·rintro ⟨i, ⟨h1, h2⟩, rfl⟩; exact ⟨i, h1, rfl, h2⟩
 ·rintro ⟨i, h1, rfl, h2⟩; exact ⟨i, ⟨h1, h2⟩, rfl⟩

def factsB (n : Nat) (l : List Int) : List Bool := (List.range n).map fun (q : Nat) => memB l q
def factsUpto (n k : Nat) (l : List Int) : List Bool := factsB n (l.take k)
theorem factsB_length (n : Nat) (l : List Int) : (factsB n l).length = n := by simp [factsB]
theorem factsUpto_succ (n k : Nat) (l : List Int) (hk : k < l.length) (h0 : 0 ≤ l[k]) : factsUpto n (k + 1) l = (factsUpto n k l).set l[k].toNat true := by
 apply List.ext_getElem
 ·simp [factsUpto, factsB]
 ·intro q h1 h2
  have hq : q < n := by simpa [factsUpto, factsB] using h1
  rw [List.getElem_set]
  simp only [factsUpto, factsB, List.getElem_map, List.getElem_range]
  rw [List.take_succ_eq_append_getElem hk]
  by_cases e : l[k].toNat = q
  ·rw [if_pos e, memB_true]
   subst e
   have : ((l[k].toNat : Nat) : Int) = l[k] := by omega
   rw [this]; exact List.mem_append_right _ (List.mem_singleton.2 rfl)
  ·rw [if_neg e, Bool.eq_iff_iff, memB_true, memB_true]
   simp only [List.mem_append, List.mem_singleton]
   constructor
   ·rintro (h | h)
    ·exact h
    ·omega
   ·exact .inl
theorem factsUpto_zero (n : Nat) (l : List Int) : factsUpto n 0 l = List.replicate n false := by
 apply List.ext_getElem <;> simp [factsUpto, factsB, memB]
theorem factsUpto_all (n : Nat) (l : List Int) : factsUpto n l.length l = factsB n l := by simp [factsUpto]

/-- naive's world, whose reads outlast stores into its own block. -/
structure NWS (w : World) (b : Nat) (T : Th) (F : List Bool) (RL : List (List Int)) (M : List Nat) : Prop where
 ex : ∃ vF vR vB vFa vRu vM, w.heap[b]? = some (.cells #[.int .i64 T.lits, vF, vR, vB, vFa, vRu, vM] 123 (0, 0)) ∧ ∀ w', w.grownBy w' (some b) → RdLL w' vF T.foes ∧ RdRs w' vR T.rules ∧ RdLL w' vB T.beats ∧ RdB w' vFa F ∧ RdLL w' vRu RL ∧ RdMk w' vM M
theorem grown_refl (w : World) (r : Option Nat) : w.grownBy w r := ⟨rfl, rfl, rfl, Nat.le_refl _, fun _ _ _ => rfl⟩
theorem grown_below {w w' : World} (h : Below w.heap.size w w') (r : Option Nat) : w.grownBy w' r := ⟨h.os, h.tape, h.output, h.size, fun k hk _ => h.block k hk⟩
theorem grown_set (w : World) (b i : Nat) (v : Value) : w.grownBy (w.setCell ⟨b, i, none⟩ v) (some b) :=
 ⟨rfl, rfl, rfl, by simp, fun k _ hk => heap_setCell_other w ⟨b, i, none⟩ k v (fun e => hk (by rw [e]))⟩
section
variable {w w' : World} {b : Nat} {T : Th} {F : List Bool} {RL : List (List Int)} {M : List Nat}
theorem NWS.nw (h : NWS w b T F RL M) : NW w b T F RL M := by
 obtain ⟨vF, vR, vB, vFa, vRu, vM, hh, hr⟩ := h.ex
 obtain ⟨h1, h2, h3, h4, h5, h6⟩ := hr w (grown_refl _ _)
 exact ⟨vF, vR, vB, vFa, vRu, vM, hh, h1, h2, h3, h4, h5, h6⟩
theorem NWS.ext (h : NWS w b T F RL M) (hb : Below w.heap.size w w') : NWS w' b T F RL M := by
 obtain ⟨vF, vR, vB, vFa, vRu, vM, hh, hr⟩ := h.ex
 exact ⟨vF, vR, vB, vFa, vRu, vM, (hb.block b (lt_of_block hh)).trans hh, fun w2 h2 => hr w2 ((grown_below hb _).trans h2)⟩
theorem NWS.put (h : NWS w b T F RL M) {v' : Value} {M' : List Nat} (hm : ∀ w', w.grownBy w' (some b) → RdMk w' v' M') : NWS (w.setCell ⟨b, 6, none⟩ v') b T F RL M' := by
 obtain ⟨vF, vR, vB, vFa, vRu, vM, hh, hr⟩ := h.ex
 refine ⟨vF, vR, vB, vFa, vRu, v', by rw [heap_setCell_same w b 6 _ _ _ hh]; rfl, fun w2 h2 => ?_⟩
 have h3 := (grown_set w b 6 v').trans h2
 obtain ⟨h1, h2, h4, h5, h6, _⟩ := hr w2 h3
 exact ⟨h1, h2, h4, h5, h6, hm w2 h3⟩
end
structure WS (W1 : World) (vals : Array Value) (b gA gR base : Nat) (F : List Bool) (vs : List Value) (xss : List (List Int)) (w : World) : Prop where
 blk : w.heap[b]? = some (.cells vals 123 (0, 0))
 aA : Arr Value.bool 4 w gA F
 rows : Rows w gR base 26 3 vs xss
 old : Below W1.heap.size W1 w
 h1 : W1.heap.size ≤ b ∧ b < base
 h2 : W1.heap.size ≤ gA ∧ gA < base
 h3 : W1.heap.size ≤ gR ∧ gR < base
 hb : base ≤ w.heap.size
 d : b ≠ gA ∧ b ≠ gR ∧ gA ≠ gR
section
variable {W1 : World} {vals : Array Value} {b gA gR base : Nat} {F : List Bool} {vs : List Value} {xss : List (List Int)} {w w' : World}
theorem WS.ext (h : WS W1 vals b gA gR base F vs xss w) (hb : Below w.heap.size w w') : WS W1 vals b gA gR base F vs xss w' :=
 ⟨(hb.block b (lt_of_block h.blk)).trans h.blk, h.aA.ext hb, h.rows.ext hb, h.old.trans (hb.mono h.old.size), h.h1, h.h2, h.h3, Nat.le_trans h.hb hb.size, h.d⟩
theorem WS.fact (h : WS W1 vals b gA gR base F vs xss w) (q : Nat) : WS W1 vals b gA gR base (F.set q true) vs xss (w.setCell ⟨gA, q, none⟩ (.bool true)) :=
 ⟨(heap_setCell_other w _ b _ h.d.1).trans h.blk, h.aA.set q true, h.rows.other h.h2.2 (Ne.symm h.d.2.2) _, h.old.setCell h.h2.1 _, h.h1, h.h2, h.h3, by simp only [World.size_setCell]; exact h.hb, h.d⟩
theorem WS.append (h : WS W1 vals b gA gR base F vs xss w) {q : Nat} (hq : q < vs.length) (hq' : q < xss.length) {v' : Value} {x : Int} (hgr : w.grownBy w' vs[q].ownBlock)
  (ho : w'.ownsRow base 3 1 v' (xss[q].length + 1) (intsV xss[q] ++ [.int .i64 x])) (hat : v'.ownBlock = vs[q].ownBlock ∨ v'.ownBlock = some w.heap.size) :
  WS W1 vals b gA gR base F (vs.set q v') (xss.set q (xss[q] ++ [x])) (w'.setCell ⟨gR, q, none⟩ v') := by
 have hlt := (h.rows.own q hq hq').lt
 have hbk : ∀ g, g < base → w'.heap[g]? = w.heap[g]? := fun g hg => hgr.block g (Nat.lt_of_lt_of_le hg h.hb) (fun e => by have := hlt g e.symm; omega)
 refine ⟨(heap_setCell_other w' _ b _ h.d.2.1).trans ((hbk b h.h1.2).trans h.blk), Arr.other ((hbk gA h.h2.2).trans h.aA) h.d.2.2 _, h.rows.append h.hb hq hq' hgr ho (hat.imp id fun e => ⟨_, e, Nat.le_refl _⟩), ?_, h.h1, h.h2, h.h3, by simp only [World.size_setCell]; exact Nat.le_trans h.hb hgr.size, h.d⟩
 exact (h.old.trans ⟨hgr.os, hgr.tape, hgr.output, hgr.size, fun k hk => hbk k (by have := h.h1; omega)⟩).setCell h.h3.1 _
theorem WS.cell (h : WS W1 vals b gA gR base F vs xss w) (i : Nat) : w.cell? ⟨b, i, none⟩ = vals[i]? := cell_of_row w b i _ _ _ h.blk
theorem WS.blocks (h : WS W1 vals b gA gR base F vs xss w) {q : Nat} (hq : q < vs.length) (hgr : w.grownBy w' vs[q].ownBlock) (g : Nat) (hg : g < base) : w'.heap[g]? = w.heap[g]? :=
 hgr.block g (Nat.lt_of_lt_of_le hg h.hb) (fun e => by have := (h.rows.own q hq (by rw [← h.rows.len]; exact hq)).lt g e.symm; omega)
theorem WS.blocks2 (h : WS W1 vals b gA gR base F vs xss w) {q : Nat} (hq : q < vs.length) {w2 : World} (hb2 : Below w.heap.size w w2) (hgr : w2.grownBy w' vs[q].ownBlock) (g : Nat) (hg : w.heap.size ≤ g) (hg2 : g < w2.heap.size) : w'.heap[g]? = w2.heap[g]? :=
 hgr.block g hg2 (fun e => by have := (h.rows.own q hq (by rw [← h.rows.len]; exact hq)).lt g e.symm; omega)
theorem alloc3 (w : World) (A B C : Obj) : (((w.alloc A).alloc B).alloc C).drew.heap.size = w.heap.size + 3 ∧ (((w.alloc A).alloc B).alloc C).drew.heap[w.heap.size]? = some A ∧ (((w.alloc A).alloc B).alloc C).drew.heap[w.heap.size + 1]? = some B ∧ (((w.alloc A).alloc B).alloc C).drew.heap[w.heap.size + 2]? = some C := by
 refine ⟨by simp only [World.alloc, World.drew, Array.size_push], ?_, ?_, ?_⟩
 all_goals simp only [World.alloc, World.drew, Array.getElem?_push, Array.size_push]
 ·rw [if_neg (by omega), if_neg (by omega), if_pos trivial]
 ·rw [if_neg (by omega), if_pos trivial]
 ·rw [if_pos trivial]
theorem WS.startA (W1 : World) (vals : Array Value) (n s : Nat) (hs : W1.heap.size = s) :
  WS W1 vals (s + 1 + 1) s (s + 1) (s + 1 + 1 + 1) (List.replicate n false) (List.replicate n (.slice none 0 0)) (List.replicate n [])
   ((((W1.alloc (.cells (madeCells #[Value.bool false] n) 4)).alloc (.cells (madeCells #[Value.slice none 0 0] n) 26)).alloc (.cells vals 123)).drew) := by
 subst hs
 obtain ⟨h0, h1, h2, h3⟩ := alloc3 W1 (.cells (madeCells #[Value.bool false] n) 4) (.cells (madeCells #[Value.slice none 0 0] n) 26) (.cells vals 123)
 refine ⟨h3, ?_, Rows.made _ _ _ _ _ _ (by omega) (h2.trans ?_), ?_, by omega, by omega, by omega, by omega, by omega⟩
 ·refine h1.trans ?_
  congr 2
  rw [← Array.toList_inj, toList_madeCells_one, List.map_replicate]
 ·congr 2
  rw [← Array.toList_inj, toList_madeCells_one]
 ·exact Below.drew (Below.alloc (Below.alloc (ext_alloc W1 _) (by simp) _) (by simp only [World.size_alloc]; omega) _)
theorem WS.startB (W1 : World) (vals : Array Value) (n s : Nat) (hs : W1.heap.size = s) :
  WS W1 vals (s + 1 + 1) (s + 1) s (s + 1 + 1 + 1) (List.replicate n false) (List.replicate n (.slice none 0 0)) (List.replicate n [])
   ((((W1.alloc (.cells (madeCells #[Value.slice none 0 0] n) 26)).alloc (.cells (madeCells #[Value.bool false] n) 4)).alloc (.cells vals 123)).drew) := by
 subst hs
 obtain ⟨h0, h1, h2, h3⟩ := alloc3 W1 (.cells (madeCells #[Value.slice none 0 0] n) 26) (.cells (madeCells #[Value.bool false] n) 4) (.cells vals 123)
 refine ⟨h3, ?_, Rows.made _ _ _ _ _ _ (by omega) (h1.trans ?_), ?_, by omega, by omega, by omega, by omega, by omega⟩
 ·refine h2.trans ?_
  congr 2
  rw [← Array.toList_inj, toList_madeCells_one, List.map_replicate]
 ·congr 2
  rw [← Array.toList_inj, toList_madeCells_one]
 ·exact Below.drew (Below.alloc (Below.alloc (ext_alloc W1 _) (by simp) _) (by simp only [World.size_alloc]; omega) _)
end

end Go.Proofs.Lx

namespace Go.Proofs.Lx
open Go Go.RowKit
set_option linter.unusedSimpArgs false
set_option linter.unusedVariables false

def itM (f : List Nat → List Nat) : Nat → List Nat → List Nat
 | 0, M => M
 | k + 1, M => f (itM f k M)
/-- One round over a theory and its facts. -/
def stepM (T : Th) (l : List Int) : List Nat → List Nat := roundM T (factsB T.foes.length l) (rulesRows T.rules T.foes.length T.rules.length)
def startM (T : Th) : List Nat := List.replicate T.foes.length 0
theorem roundM_length (T : Th) (F : List Bool) (RL : List (List Int)) (M : List Nat) : (roundM T F RL M).length = M.length := rnd_length _ _
theorem orM_ge {C : Nat → Bool} {x : Nat} : ∀ k, x ≤ orM C x k
 | 0 => Nat.le_refl _
 | k + 1 => by
  have ih := orM_ge (C := C) (x := x) k
  unfold orM
  split
  ·exact Nat.le_trans ih Nat.left_le_or
  ·exact ih
theorem sum_le : ∀ (X Y : List Nat), X.length = Y.length → (∀ i (h : i < X.length) (h' : i < Y.length), X[i] ≤ Y[i]) → X.sum ≤ Y.sum ∧ (X.sum = Y.sum → X = Y)
 | [], [], _, _ => ⟨Nat.le_refl _, fun _ => rfl⟩
 | x :: X, y :: Y, hl, h => by
  have h0 := h 0 (by simp) (by simp)
  have ih := sum_le X Y (by simpa using hl) (fun i h1 h2 => by have := h (i + 1) (by simp; omega) (by simp; omega); simpa using this)
  simp at h0
  simp only [List.sum_cons]
  refine ⟨by omega, fun e => ?_⟩
  have h1 : X.sum = Y.sum := by omega
  have h2 : x = y := by omega
  rw [h2, ih.2 h1]
theorem sum_bound : ∀ (X : List Nat), (∀ x ∈ X, x < 256) → X.sum ≤ 255 * X.length
 | [], _ => by simp
 | x :: X, h => by
  have := sum_bound X (fun y hy => h y (by simp [hy]))
  have := h x (by simp)
  simp only [List.sum_cons, List.length_cons]; omega
theorem roundM_grows (T : Th) (F : List Bool) (RL : List (List Int)) (M : List Nat) : M.sum ≤ (roundM T F RL M).sum ∧ (M.sum = (roundM T F RL M).sum → M = roundM T F RL M) := by
 refine sum_le _ _ (roundM_length _ _ _ _).symm (fun i h h' => ?_)
 have : M[i] = M.getD i 0 := by simp [h]
 rw [this]
 simp only [roundM, rnd, List.getElem_map, List.getElem_range]
 exact orM_ge _
theorem roundM_lt (T : Th) (F : List Bool) (RL : List (List Int)) (M : List Nat) (h : ∀ x ∈ M, x < 256) : ∀ x ∈ roundM T F RL M, x < 256 := rnd_lt h (by omega)
theorem nval {T : Th} (hwf : WfTh T) (l : List Int) (M : List Nat) (hM : M.length = T.foes.length) (h8 : ∀ x ∈ M, x < 256) : NVal T (factsB T.foes.length l) (rulesRows T.rules T.foes.length T.rules.length) M := by
 refine ⟨?_, factsB_length _ _, rulesRows_length _ _ _, hM, ?_, ?_, hwf.bl, h8⟩
 ·intro q hq f hf
  obtain ⟨i, hi, rfl⟩ := List.getElem_of_mem hf
  have := (risB_spec (foesOk_spec hwf.fo q hq).2.1).1 i hi
  have h2 := hwf.fl; omega
 ·intro q hq r hr
  rw [rulesRows_length] at hq
  rw [rulesRows_at _ _ _ hq] at hr
  obtain ⟨i, hi, rfl, _⟩ := mem_rulesUpto.1 hr
  omega
 ·intro r hr x hx
  obtain ⟨i, hi, rfl⟩ := List.getElem_of_mem hx
  have h1 := hwf.ru _ (List.getElem_mem hr)
  simp only [ruleOk, Bool.and_eq_true] at h1
  have := (risB_spec h1.2).1 i hi
  have h2 := hwf.fl; omega
end Go.Proofs.Lx

namespace Go.Proofs.Lx
open Go Go.RowKit
set_option linter.unusedSimpArgs false
set_option linter.unusedVariables false

theorem orM_bit (C : Nat → Bool) (x : Nat) : ∀ k j, (orM C x k).testBit j = (x.testBit j || (decide (j < k) && C j))
 | 0, j => by simp [orM]
 | k + 1, j => by
  unfold orM
  by_cases e : k = j
  ·subst e
   cases hc : C k with
   | true => rw [if_pos rfl, Nat.testBit_or, Nat.testBit_two_pow_self]; simp
   | false => rw [if_neg (by simp), orM_bit C x k k]; simp
  ·have h1 : decide (j < k + 1) = decide (j < k) := decide_eq_decide.2 (by omega)
   rw [h1]
   cases hc : C k with
   | true => rw [if_pos rfl, Nat.testBit_or, orM_bit C x k j, Nat.testBit_two_pow_of_ne e]; simp
   | false => rw [if_neg (by simp), orM_bit C x k j]
section
variable {T : Th} {F : List Bool} {RL : List (List Int)} {M M' : List Nat}
theorem hasM_nat (M : List Nat) (k : Nat) (q : Int) : hasM M k q = hasM M k (q.toNat : Int) := by unfold hasM; rw [Int.toNat_natCast]
theorem hasM_far {k : Nat} {q : Int} (h : M.length ≤ q.toNat) : hasM M k q = false := by
 unfold hasM; rw [List.getD_eq_getElem?_getD, List.getElem?_eq_none h]; simp
theorem hasM_round {k : Nat} {q : Int} (hq : q.toNat < M.length) : hasM (roundM T F RL M) k q = (hasM M k q || (decide (k < 4) && cnd T F RL M k (q.toNat : Int))) := by
 have : (roundM T F RL M).getD q.toNat 0 = orM (fun k => cnd T F RL M k (q.toNat : Int)) (M.getD q.toNat 0) 4 := by
  rw [List.getD_eq_getElem?_getD, List.getElem?_eq_getElem (by rw [roundM_length]; exact hq)]
  simp [roundM, rnd]
 unfold hasM
 rw [this, orM_bit]
/-- All the marks of one list are in another. -/
def Sub (M M' : List Nat) : Prop := ∀ k q, hasM M k q = true → hasM M' k q = true
theorem sub_round : Sub M (roundM T F RL M) := by
 intro k q h
 by_cases hq : q.toNat < M.length
 ·rw [hasM_round hq, h]; rfl
 ·rw [hasM_far (by omega)] at h; cases h
theorem whole_true {k : Nat} {r : Int} : wholeB T M k r = true ↔ ∀ x ∈ bodyAt T r, hasM M k x = true := by simp [wholeB]
theorem some_true {k : Nat} {r : Int} : someB T M k r = true ↔ ∃ x ∈ bodyAt T r, hasM M k x = true := by simp [someB]
theorem whole_mono (h : Sub M M') {k : Nat} {r : Int} (hr : wholeB T M k r = true) : wholeB T M' k r = true := whole_true.2 fun x hx => h _ _ (whole_true.1 hr x hx)
theorem some_mono (h : Sub M M') {k : Nat} {r : Int} (hr : someB T M k r = true) : someB T M' k r = true := by
 obtain ⟨x, hx, e⟩ := some_true.1 hr
 exact some_true.2 ⟨x, hx, h _ _ e⟩
theorem plusD_iff {q : Int} : cnd T F RL M 0 q = true ↔ F.getD q.toNat false = true ∨ ∃ r ∈ row RL q, strictB T r = true ∧ wholeB T M 0 r = true := by
 simp only [cnd, plusDB, pdR, Bool.or_eq_true, Bool.and_eq_true, List.any_eq_true]
theorem minusD_iff {q : Int} : cnd T F RL M 1 q = true ↔ F.getD q.toNat false = false ∧ ∀ r ∈ row RL q, strictB T r = true → someB T M 1 r = true := by
 simp only [cnd, minusDB, mdR, Bool.and_eq_true, Bool.not_eq_true', List.any_eq_false, Bool.not_eq_true, Bool.and_eq_false_iff, Bool.not_eq_false']
 refine and_congr Iff.rfl (forall₂_congr fun r _ => ?_)
 cases strictB T r <;> simp
theorem plusP_iff {q : Int} : cnd T F RL M 2 q = true ↔ hasM M 0 q = true ∨ ((∃ r ∈ row RL q, supB T r = true ∧ wholeB T M 2 r = true) ∧ (∀ f ∈ row T.foes q, hasM M 1 f = true) ∧
  ∀ f ∈ row T.foes q, ∀ s ∈ row RL f, someB T M 3 s = true ∨ ∃ r ∈ row RL q, supB T r = true ∧ beatsB T r s = true ∧ wholeB T M 2 r = true) := by
 simp only [cnd, plusPB, ppR, Bool.or_eq_true, Bool.and_eq_true, Bool.not_eq_true', List.any_eq_false, List.any_eq_true, Bool.not_eq_true, Bool.not_eq_false']
 refine or_congr Iff.rfl (and_congr Iff.rfl (and_congr (forall₂_congr fun f _ => by simp) (forall₂_congr fun f _ => ?_)))
 constructor
 ·intro h s hs
  cases h3 : someB T M 3 s with
  | true => exact .inl rfl
  | false =>
   refine .inr ?_
   cases ha : (row RL q).any (ppB T M s) with
   | true =>
    obtain ⟨r, hr, e⟩ := List.any_eq_true.1 ha
    simp only [ppB, Bool.and_eq_true] at e
    exact ⟨r, hr, e.1, e.2.1, e.2.2⟩
   | false => exact absurd ⟨s, hs, by simp [ppS, h3, ha]⟩ h
 ·rintro h ⟨s, hs, e⟩
  simp only [ppS, Bool.and_eq_true, Bool.not_eq_true'] at e
  rcases h s hs with h | ⟨r, hr, h1, h2, h3⟩
  ·rw [e.1] at h; cases h
  ·have := List.any_eq_false.1 e.2 r hr
   simp [ppB, h1, h2, h3] at this
theorem minusP_iff {q : Int} : cnd T F RL M 3 q = true ↔ hasM M 1 q = true ∧ ((∀ r ∈ row RL q, supB T r = true → someB T M 3 r = true) ∨ (∃ f ∈ row T.foes q, hasM M 0 f = true) ∨
  ∃ f ∈ row T.foes q, ∃ s ∈ row RL f, wholeB T M 2 s = true ∧ ∀ r ∈ row RL q, supB T r = true → beatsB T r s = true → someB T M 3 r = true) := by
 simp only [cnd, minusPB, Bool.or_eq_true, Bool.and_eq_true, Bool.not_eq_true', List.any_eq_true]
 refine and_congr Iff.rfl (or_congr ?_ (or_congr Iff.rfl ?_))
 ·rw [List.any_eq_false]
  refine forall₂_congr fun r _ => ?_
  simp only [mpR]
  cases supB T r <;> cases someB T M 3 r <;> simp
 ·refine exists_congr fun f => and_congr Iff.rfl (exists_congr fun s => and_congr Iff.rfl ?_)
  simp only [mpS, Bool.and_eq_true, Bool.not_eq_true']
  refine and_congr Iff.rfl ?_
  rw [List.any_eq_false]
  refine forall₂_congr fun r _ => ?_
  simp only [mpB]
  cases supB T r <;> cases beatsB T r s <;> cases someB T M 3 r <;> simp
theorem cnd_three (k : Nat) : cnd T F RL M (k + 3) = cnd T F RL M 3 := rfl
theorem cnd_mono (h : Sub M M') {k : Nat} {q : Int} (hc : cnd T F RL M k q = true) : cnd T F RL M' k q = true := by
 match k with
 | 0 =>
  rw [plusD_iff] at hc ⊢
  exact hc.imp id fun ⟨r, hr, h1, h2⟩ => ⟨r, hr, h1, whole_mono h h2⟩
 | 1 =>
  rw [minusD_iff] at hc ⊢
  exact ⟨hc.1, fun r hr h1 => some_mono h (hc.2 r hr h1)⟩
 | 2 =>
  rw [plusP_iff] at hc ⊢
  refine hc.imp (h _ _) fun ⟨⟨r, hr, h1, h2⟩, h3, h4⟩ => ⟨⟨r, hr, h1, whole_mono h h2⟩, fun f hf => h _ _ (h3 f hf), fun f hf s hs => ?_⟩
  exact (h4 f hf s hs).imp (some_mono h) fun ⟨r, hr, h1, h2, h3⟩ => ⟨r, hr, h1, h2, whole_mono h h3⟩
 | k + 3 =>
  rw [cnd_three, minusP_iff] at hc ⊢
  refine ⟨h _ _ hc.1, hc.2.imp (fun h1 r hr hs => some_mono h (h1 r hr hs)) (Or.imp (fun ⟨f, hf, h1⟩ => ⟨f, hf, h _ _ h1⟩) fun ⟨f, hf, s, hs, h1, h2⟩ => ⟨f, hf, s, hs, whole_mono h h1, fun r hr h3 h4 => some_mono h (h2 r hr h3 h4)⟩)⟩
theorem round_mono (hl : M.length = M'.length) (h : Sub M M') : Sub (roundM T F RL M) (roundM T F RL M') := by
 intro k q hq
 by_cases hlt : q.toNat < M.length
 ·rw [hasM_round hlt, Bool.or_eq_true, Bool.and_eq_true] at hq
  rw [hasM_round (by omega), Bool.or_eq_true, Bool.and_eq_true]
  exact hq.imp (h _ _) fun ⟨h1, h2⟩ => ⟨h1, cnd_mono h h2⟩
 ·rw [hasM_far (by rw [roundM_length]; omega)] at hq; cases hq
/-- What has a mark has its condition. -/
def Sup (T : Th) (F : List Bool) (RL : List (List Int)) (M : List Nat) : Prop := ∀ k q, k < 4 → hasM M k q = true → cnd T F RL M k (q.toNat : Int) = true
def Coh (M : List Nat) : Prop := ∀ q, ¬ (hasM M 0 q = true ∧ hasM M 1 q = true) ∧ ¬ (hasM M 2 q = true ∧ hasM M 3 q = true)
theorem whole_some (hc : Coh M) {r : Int} : (wholeB T M 0 r = true → someB T M 1 r = true → False) ∧ (wholeB T M 2 r = true → someB T M 3 r = true → False) :=
 ⟨fun h1 h2 => let ⟨x, hx, e⟩ := some_true.1 h2; (hc x).1 ⟨whole_true.1 h1 x hx, e⟩, fun h1 h2 => let ⟨x, hx, e⟩ := some_true.1 h2; (hc x).2 ⟨whole_true.1 h1 x hx, e⟩⟩
theorem coh_cnd (hc : Coh M) (q : Int) : ¬ (cnd T F RL M 0 q = true ∧ cnd T F RL M 1 q = true) ∧ ¬ (cnd T F RL M 2 q = true ∧ cnd T F RL M 3 q = true) := by
 constructor
 ·rintro ⟨h0, h1⟩
  rw [plusD_iff] at h0
  rw [minusD_iff] at h1
  rcases h0 with h0 | ⟨r, hr, hs, hw⟩
  ·rw [h1.1] at h0; cases h0
  ·exact (whole_some hc).1 hw (h1.2 r hr hs)
 ·rintro ⟨h0, h1⟩
  rw [plusP_iff] at h0
  rw [minusP_iff] at h1
  obtain ⟨h1, h3⟩ := h1
  rcases h0 with h0 | ⟨⟨r, hr, hs, hw⟩, hf, ha⟩
  ·exact (hc q).1 ⟨h0, h1⟩
  ·rcases h3 with h3 | ⟨f, hff, h3⟩ | ⟨f, hff, s, hs', hw', h3⟩
   ·exact (whole_some hc).2 hw (h3 r hr hs)
   ·exact (hc f).1 ⟨h3, hf f hff⟩
   ·rcases ha f hff s hs' with h4 | ⟨r', hr', h5, h6, h7⟩
    ·exact (whole_some hc).2 hw' h4
    ·exact (whole_some hc).2 h7 (h3 r' hr' h5 h6)
/-- Such as rounds make. -/
structure Made (T : Th) (F : List Bool) (RL : List (List Int)) (M : List Nat) : Prop where
 sup : Sup T F RL M
 coh : Coh M
 low : ∀ k q, hasM M k q = true → k < 4
 dd : ∀ q, hasM M 3 q = true → hasM M 1 q = true
theorem Made.round (h : Made T F RL M) : Made T F RL (roundM T F RL M) := by
 have key : ∀ k q, hasM (roundM T F RL M) k q = true → k < 4 ∧ cnd T F RL M k (q.toNat : Int) = true := by
  intro k q hq
  by_cases hlt : q.toNat < M.length
  ·rw [hasM_round hlt, Bool.or_eq_true, Bool.and_eq_true, decide_eq_true_eq] at hq
   rcases hq with hq | hq
   ·exact ⟨h.low _ _ hq, h.sup _ _ (h.low _ _ hq) hq⟩
   ·exact hq
  ·rw [hasM_far (by rw [roundM_length]; omega)] at hq; cases hq
 refine ⟨fun k q hk hq => cnd_mono sub_round (key k q hq).2, fun q => ⟨fun ⟨h1, h2⟩ => ?_, fun ⟨h1, h2⟩ => ?_⟩, fun k q hq => (key k q hq).1, fun q hq => ?_⟩
 ·exact (coh_cnd h.coh _).1 ⟨(key _ _ h1).2, (key _ _ h2).2⟩
 ·exact (coh_cnd h.coh _).2 ⟨(key _ _ h1).2, (key _ _ h2).2⟩
 ·have := (minusP_iff.1 (key _ _ hq).2).1
  rw [← hasM_nat] at this
  exact sub_round _ _ this
end
theorem hasM_start (T : Th) (k : Nat) (q : Int) : hasM (startM T) k q = false := by
 unfold hasM startM
 rw [List.getD_eq_getElem?_getD, List.getElem?_replicate]
 split <;> simp
theorem made_start (T : Th) (F : List Bool) (RL : List (List Int)) : Made T F RL (startM T) :=
 ⟨fun k q _ h => (by rw [hasM_start] at h; cases h), fun q => ⟨fun h => (by rw [hasM_start] at h; cases h.1), fun h => (by rw [hasM_start] at h; cases h.1)⟩, fun k q h => (by rw [hasM_start] at h; cases h), fun q h => (by rw [hasM_start] at h; cases h)⟩
theorem made_it (T : Th) (l : List Int) : ∀ k, Made T (factsB T.foes.length l) (rulesRows T.rules T.foes.length T.rules.length) (itM (stepM T l) k (startM T))
 | 0 => made_start _ _ _
 | k + 1 => (made_it T l k).round
theorem it_length (T : Th) (l : List Int) : ∀ k, (itM (stepM T l) k (startM T)).length = T.foes.length
 | 0 => by simp [itM, startM]
 | k + 1 => (roundM_length _ _ _ _).trans (it_length T l k)
theorem it_lt (T : Th) (l : List Int) : ∀ k, ∀ x ∈ itM (stepM T l) k (startM T), x < 256
 | 0 => fun x hx => by simp [itM, startM] at hx; omega
 | k + 1 => roundM_lt _ _ _ _ (it_lt T l k)
theorem it_sum (T : Th) (l : List Int) : ∀ k, (∀ j, j < k → itM (stepM T l) (j + 1) (startM T) ≠ itM (stepM T l) j (startM T)) → k ≤ (itM (stepM T l) k (startM T)).sum
 | 0, _ => Nat.zero_le _
 | k + 1, h => by
  have ih := it_sum T l k fun j hj => h j (by omega)
  have h1 := roundM_grows T (factsB T.foes.length l) (rulesRows T.rules T.foes.length T.rules.length) (itM (stepM T l) k (startM T))
  have h2 := h k (by omega)
  have h3 : (itM (stepM T l) k (startM T)).sum ≠ (roundM T (factsB T.foes.length l) (rulesRows T.rules T.foes.length T.rules.length) (itM (stepM T l) k (startM T))).sum := fun e => h2 (h1.2 e).symm
  show k + 1 ≤ (roundM T (factsB T.foes.length l) (rulesRows T.rules T.foes.length T.rules.length) (itM (stepM T l) k (startM T))).sum
  omega
/-- All that holds. -/
def solveM (T : Th) (l : List Int) : List Nat := itM (stepM T l) (255 * T.foes.length) (startM T)
theorem it_stay {f : List Nat → List Nat} {X : List Nat} {k : Nat} (h : f (itM f k X) = itM f k X) : ∀ d, itM f (k + d) X = itM f k X
 | 0 => rfl
 | d + 1 => by
  show f (itM f (k + d) X) = _
  rw [it_stay h d, h]
theorem solve_eq {T : Th} {l : List Int} {k : Nat} (h : stepM T l (itM (stepM T l) k (startM T)) = itM (stepM T l) k (startM T)) (hk : k ≤ 255 * T.foes.length) : itM (stepM T l) k (startM T) = solveM T l := by
 have := it_stay h (255 * T.foes.length - k)
 rw [show k + (255 * T.foes.length - k) = 255 * T.foes.length by omega] at this
 exact this.symm
theorem solve_run {T : Th} {l : List Int} {k : Nat} (h : stepM T l (itM (stepM T l) k (startM T)) = itM (stepM T l) k (startM T)) (hn : ∀ j, j < k → itM (stepM T l) (j + 1) (startM T) ≠ itM (stepM T l) j (startM T)) : itM (stepM T l) k (startM T) = solveM T l := by
 refine solve_eq h ?_
 have h1 := it_sum T l k hn
 have h2 := sum_bound _ (it_lt T l k)
 rw [it_length] at h2; omega
open Classical in
theorem solve_fix (T : Th) (l : List Int) : stepM T l (solveM T l) = solveM T l := by
 by_cases h : ∃ k, k ≤ 255 * T.foes.length ∧ stepM T l (itM (stepM T l) k (startM T)) = itM (stepM T l) k (startM T)
 ·obtain ⟨k, hk, h⟩ := h
  rw [← solve_eq h hk]; exact h
 ·exfalso
  have hn : ∀ j, j < 255 * T.foes.length + 1 → itM (stepM T l) (j + 1) (startM T) ≠ itM (stepM T l) j (startM T) := fun j hj e => h ⟨j, by omega, e⟩
  have h1 := it_sum T l _ hn
  have h2 := sum_bound _ (it_lt T l (255 * T.foes.length + 1))
  rw [it_length] at h2; omega
theorem solve_length (T : Th) (l : List Int) : (solveM T l).length = T.foes.length := it_length _ _ _
theorem solve_made (T : Th) (l : List Int) : Made T (factsB T.foes.length l) (rulesRows T.rules T.foes.length T.rules.length) (solveM T l) := made_it _ _ _
/-- At the end a condition that holds has its mark. -/
theorem solve_shut (T : Th) (l : List Int) {k : Nat} (hk : k < 4) {q : Nat} (hq : q < T.foes.length) (h : cnd T (factsB T.foes.length l) (rulesRows T.rules T.foes.length T.rules.length) (solveM T l) k (q : Int) = true) : hasM (solveM T l) k (q : Int) = true := by
 have e := solve_fix T l
 have := hasM_round (T := T) (F := factsB T.foes.length l) (RL := rulesRows T.rules T.foes.length T.rules.length) (M := solveM T l) (k := k) (q := (q : Int)) (by rw [solve_length]; simpa using hq)
 unfold stepM at e
 rw [e] at this
 rw [this, show ((q : Int).toNat : Int) = q by omega, h]; simp [hk]
def sixB (x : Nat) : Bool := ((List.range 8).any fun k => x.testBit k && decide (4 ≤ k)) || (x.testBit 0 && x.testBit 1) || (x.testBit 2 && x.testBit 3) || (x.testBit 3 && !x.testBit 1) || (x.testBit 0 && !x.testBit 2) || (x == 0 || x == 2 || x == 4 || x == 5 || x == 6 || x == 10)
theorem sixB_all : ∀ x : _root_.Fin 256, sixB x.val = true := by decide +kernel
theorem six (x : Nat) (hx : x < 256) (h0 : ∀ k, x.testBit k = true → k < 4) (h1 : ¬ (x.testBit 0 = true ∧ x.testBit 1 = true)) (h2 : ¬ (x.testBit 2 = true ∧ x.testBit 3 = true)) (h3 : x.testBit 3 = true → x.testBit 1 = true) (h4 : x.testBit 0 = true → x.testBit 2 = true) :
  x = 0 ∨ x = 2 ∨ x = 4 ∨ x = 5 ∨ x = 6 ∨ x = 10 := by
 have h := sixB_all ⟨x, hx⟩
 simp only [sixB, Bool.or_eq_true, beq_iff_eq] at h
 rcases h with ((((h | h) | h) | h) | h) | h
 ·obtain ⟨k, _, hk⟩ := List.any_eq_true.1 h
  rw [Bool.and_eq_true, decide_eq_true_eq] at hk
  have := h0 k hk.1; omega
 ·rw [Bool.and_eq_true] at h; exact absurd h h1
 ·rw [Bool.and_eq_true] at h; exact absurd h h2
 ·rw [Bool.and_eq_true, Bool.not_eq_true'] at h; have := h3 h.1; rw [h.2] at this; cases this
 ·rw [Bool.and_eq_true, Bool.not_eq_true'] at h; have := h4 h.1; rw [h.2] at this; cases this
 ·omega
theorem solve_six (T : Th) (l : List Int) (q : Nat) (hq : q < (solveM T l).length) : (solveM T l)[q] = 0 ∨ (solveM T l)[q] = 2 ∨ (solveM T l)[q] = 4 ∨ (solveM T l)[q] = 5 ∨ (solveM T l)[q] = 6 ∨ (solveM T l)[q] = 10 := by
 have hm := solve_made T l
 have h8 := it_lt T l (255 * T.foes.length) _ (List.getElem_mem hq)
 have hg : (solveM T l).getD ((q : Int).toNat) 0 = (solveM T l)[q] := by simp [hq]
 have hh : ∀ k, hasM (solveM T l) k (q : Int) = (solveM T l)[q].testBit k := by intro k; unfold hasM; rw [hg]
 have hc := hm.coh (q : Int)
 rw [hh, hh, hh, hh] at hc
 refine six _ h8 (fun k hk => hm.low k (q : Int) (by rw [hh]; exact hk)) hc.1 hc.2 (fun h => by have := hm.dd (q : Int) (by rw [hh]; exact h); rwa [hh] at this) (fun h => ?_)
 have := solve_shut T l (k := 2) (by omega) (q := q) (by rw [← solve_length T l]; exact hq) (plusP_iff.2 (.inl (by rw [hh]; exact h)))
 rwa [hh] at this
end Go.Proofs.Lx

namespace Go.Proofs.Lx
open Go Go.RowKit
set_option linter.unusedSimpArgs false
set_option linter.unusedVariables false

def factsErr (T : Th) (l : List Int) : Int := if risB l T.lits = true then 0 else 181
/-- The first error of a theory and facts. -/
noncomputable def givenErr (T : Th) (l : List Int) : Int := if checkErr T = 0 then factsErr T l else checkErr T
theorem givenErr_ok {T : Th} {l : List Int} : givenErr T l = 0 ↔ WfTh T ∧ risB l T.lits = true := by
 unfold givenErr factsErr
 rw [← checkErr_ok]
 by_cases h : checkErr T = 0
 ·rw [if_pos h]
  by_cases h2 : risB l T.lits = true
  ·simp [h, h2]
  ·rw [if_neg h2]; simp [h2]
 ·rw [if_neg h]; simp [h]

set_option maxHeartbeats 800000 in
theorem facts_any (w : World) (V vl : Value) (T : Th) (l : List Int) (hT : RdTh w V T) (hl : RdI w vl l) :
  Calls Try.prog 84 #[V, vl] w (Ret fun v w' => v = .int .i64 (factsErr T l) ∧ Below w.heap.size w w') := by
 obtain ⟨vF, vR, vB, rfl, hF, hR, hB⟩ := hT
 have hl' := hl.ext (scR_mono _) (ext_alloc w (.cells #[.int .i64 T.lits, vF, vR, vB] 25))
 have hcall := hid (rising_any _ vl l T.lits hl')
 have hbel := ext_alloc w (.cells #[.int .i64 T.lits, vF, vR, vB] 25)
 clear hl'
 refine post_gen fun Q HQ => ?_
 go_enter Try.func84, Try.ntmps84
 go_wp2_with fail
 refine hcall.out.mono ?_
 rintro e w2 ⟨_, rfl, rfl, rfl⟩
 unfold factsErr at HQ
 cases h : risB l T.lits with
 | true =>
  rw [h] at HQ
  go_wp2_with fail
  go_ret
  exact Fin HQ ⟨rfl, hbel⟩
 | false =>
  rw [h] at HQ
  go_wp2_with fail
  go_ret
  exact Fin HQ ⟨rfl, hbel⟩

theorem box4 {w w2 : World} {v0 v1 v2 v3 : Value} {ty : TypeId} (hb : Below (w.alloc (.cells #[v0, v1, v2, v3] ty)).heap.size (w.alloc (.cells #[v0, v1, v2, v3] ty)) w2) :
  w2.cell? ⟨w.heap.size, 0, none⟩ = some v0 ∧ w2.cell? ⟨w.heap.size, 1, none⟩ = some v1 ∧ w2.cell? ⟨w.heap.size, 2, none⟩ = some v2 ∧ w2.cell? ⟨w.heap.size, 3, none⟩ = some v3 := by
 rw [World.size_alloc] at hb
 exact ⟨box_cell hb 0, box_cell hb 1, box_cell hb 2, box_cell hb 3⟩

/-- .. and of a mark list. -/
noncomputable def markedErr (T : Th) (l : List Int) (n : Nat) : Int := if givenErr T l = 0 then (if (n : Int) = T.lits then 0 else 3) else givenErr T l
theorem markedErr_ok {T : Th} {l : List Int} {n : Nat} : markedErr T l n = 0 ↔ givenErr T l = 0 ∧ (n : Int) = T.lits := by
 unfold markedErr
 by_cases h : givenErr T l = 0
 ·rw [if_pos h]
  by_cases h2 : (n : Int) = T.lits
  ·simp [h, h2]
  ·rw [if_neg h2]; simp [h2]
 ·rw [if_neg h]; simp [h]

/-- What a slice of marks of the call's own reads as. -/
theorem own_marks {w : World} {base : Nat} {v : Value} {M : List Nat} (h : w.ownsRow base 33 1 v M.length (marksV M)) (hl : M.length ≤ 140737488355328) : RdMk w v M := own_rdS h hl

end Go.Proofs.Lx
