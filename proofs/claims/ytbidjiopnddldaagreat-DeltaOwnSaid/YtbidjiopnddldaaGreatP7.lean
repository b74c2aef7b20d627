/- Parts of the proof: Dd, De. delta's part while it is built, in memory. No condition. -/
import Derived.Test.YtbidjiopnddldaaGreatP6
namespace Go.Proofs.Lx
open Go Go.RowKit
set_option linter.unusedSimpArgs false
set_option linter.unusedVariables false
/-- A part that is built: its block p, its rules and facts in rows that are its own. -/
structure PB (w : World) (base p : Nat) (lits : Int) (vFo vBe vOl vRu vFa : Value) (rs : List Rule) (vs : Nat → Value) (fa : List Int) : Prop where
 box : w.heap[p]? = some (.cells #[.int .i64 lits, vFo, vRu, vBe, vFa, vOl] 111 (0, 0))
 ru : w.ownsRow base 93 3 vRu rs.length (cellsR rs vs)
 fa : w.ownsRow base 3 1 vFa fa.length (intsV fa)
 bd : ∀ i, i < rs.length → w.ownsRow base 3 1 (vs i) (rs.getD i default).body.length (intsV (rs.getD i default).body) ∧ ((vs i).ownBlock = none ∨ (vs i).ownBlock ≠ vFa.ownBlock)
 lo : p < base
theorem cellsR_push (rs : List Rule) (vs : Nat → Value) (r : Rule) (u : Value) : cellsR (rs ++ [r]) (fun i => if i = rs.length then u else vs i) = cellsR rs vs ++ [.int .i64 r.kind, .int .i64 r.head, u] := by
 unfold cellsR
 rw [List.length_append, List.length_singleton, List.range_succ, List.flatMap_append]
 congr 1
 ·rw [List.flatMap_def, List.flatMap_def]
  congr 1
  refine List.map_congr_left fun i hi => ?_
  have hi := List.mem_range.1 hi
  have e : (rs ++ [r]).getD i default = rs.getD i default := by
   simp only [List.getD_eq_getElem?_getD, List.getElem?_append_left hi]
  rw [e]
  have hne : i ≠ rs.length := by omega
  simp [hne]
 ·simp
section
variable {w w' : World} {base p : Nat} {lits : Int} {vFo vBe vOl vRu vFa vRu' vFa' u : Value} {rs : List Rule} {vs : Nat → Value} {fa : List Int} {r : Rule}
theorem PB.ext (h : PB w base p lits vFo vBe vOl vRu vFa rs vs fa) (hb : Below w.heap.size w w') : PB w' base p lits vFo vBe vOl vRu vFa rs vs fa := by
 have key : ∀ {e sz n : Nat} {v : Value} {xs : List Value}, w.ownsRow base e sz v n xs → w'.ownsRow base e sz v n xs := fun ho => ho.kept (row := none) ⟨hb.os, hb.tape, hb.output, hb.size, fun k hk _ => hb.block k hk⟩ (by
  rename_i v _; cases v.ownBlock <;> simp)
 exact ⟨(hb.block _ (lt_of_block h.box)).trans h.box, key h.ru, key h.fa, fun i hi => ⟨key (h.bd i hi).1, (h.bd i hi).2⟩, h.lo⟩
/-- A rule joins. -/
theorem PB.pushR (h : PB w base p lits vFo vBe vOl vRu vFa rs vs fa) {A : Obj} (hu : w.ownsRow base 3 1 u r.body.length (intsV r.body)) (hn : u.ownBlock = none ∨ u.ownBlock ≠ vFa.ownBlock)
  (hg : (w.alloc A).grownBy w' vRu.ownBlock) (ho : w'.ownsRow base 93 3 vRu' (rs.length + 1) (cellsR rs vs ++ [.int .i64 r.kind, .int .i64 r.head, u])) :
  PB (w'.setCell ⟨p, 2, none⟩ vRu') base p lits vFo vBe vOl vRu' vFa (rs ++ [r]) (fun i => if i = rs.length then u else vs i) fa := by
 have hlp := lt_of_block h.box
 have hk : ∀ g, g < w.heap.size → vRu.ownBlock ≠ some g → w'.heap[g]? = w.heap[g]? := fun g h1 h2 => (hg.block g (by simp; omega) (fun e => h2 e.symm)).trans (Below.heap_alloc _ _ _ h1)
 have hlo := h.lo
 have hpb := hk p hlp fun e => by have := (h.ru.lt p e).1; omega
 -- rows of ints stay
 have hint : ∀ {n : Nat} {v : Value} {xs : List Value}, w.ownsRow base 3 1 v n xs → (w'.setCell ⟨p, 2, none⟩ vRu').ownsRow base 3 1 v n xs := fun {n v xs} ho9 => by
  refine ⟨ho9.1, ?_⟩
  rcases ho9.2 with k1 | ⟨g, cap, cur, k1, k2, k3, k4⟩
  ·exact .inl k1
  ·refine .inr ⟨g, cap, cur, k1, k2, ?_, k4⟩
   rw [heap_setCell_other _ _ _ _ (by dsimp only; omega)]
   refine (hk g (lt_of_block k3) fun e => ?_).trans k3
   rcases h.ru.2 with ⟨e1, _⟩ | ⟨g2, c2, u2, e1, e2, e3, _⟩
   ·rw [e1] at e; simp [Value.ownBlock] at e
   ·rw [e1] at e
    have : g2 = g := by simpa [Value.ownBlock] using e
    subst this
    rw [k3] at e3
    injection e3 with e3
    injection e3 with _ e3
    exact absurd e3 (by decide)
 refine ⟨?_, ?_, hint h.fa, fun i hi => ?_, h.lo⟩
 ·rw [heap_setCell_same w' p 2 _ _ vRu' (hpb.trans h.box)]; rfl
 ·rw [List.length_append, List.length_singleton, cellsR_push]
  exact ownsRow_setCell_other ho (fun e => by have := (ho.lt _ e).1; dsimp only at this; omega) _
 ·rw [List.length_append, List.length_singleton] at hi
  by_cases e : i = rs.length
  ·subst e
   have e2 : (rs ++ [r]).getD rs.length default = r := by simp
   rw [e2, if_pos rfl]
   exact ⟨hint hu, hn⟩
  ·have e2 : (rs ++ [r]).getD i default = rs.getD i default := by
    simp only [List.getD_eq_getElem?_getD, List.getElem?_append_left (show i < rs.length by omega)]
   rw [e2, if_neg e]
   obtain ⟨k1, k2⟩ := h.bd i (by omega)
   exact ⟨hint k1, k2⟩
/-- A rule joins, in this very world. -/
theorem PB.pushRg (h : PB w base p lits vFo vBe vOl vRu vFa rs vs fa) (hu : w.ownsRow base 3 1 u r.body.length (intsV r.body)) (hn : u.ownBlock = none ∨ u.ownBlock ≠ vFa.ownBlock)
  (hg : w.grownBy w' vRu.ownBlock) (ho : w'.ownsRow base 93 3 vRu' (rs.length + 1) (cellsR rs vs ++ [.int .i64 r.kind, .int .i64 r.head, u])) :
  PB (w'.setCell ⟨p, 2, none⟩ vRu') base p lits vFo vBe vOl vRu' vFa (rs ++ [r]) (fun i => if i = rs.length then u else vs i) fa := by
 have hlp := lt_of_block h.box
 have hk : ∀ g, g < w.heap.size → vRu.ownBlock ≠ some g → w'.heap[g]? = w.heap[g]? := fun g h1 h2 => hg.block g h1 (fun e => h2 e.symm)
 have hlo := h.lo
 have hpb := hk p hlp fun e => by have := (h.ru.lt p e).1; omega
 -- rows of ints stay
 have hint : ∀ {n : Nat} {v : Value} {xs : List Value}, w.ownsRow base 3 1 v n xs → (w'.setCell ⟨p, 2, none⟩ vRu').ownsRow base 3 1 v n xs := fun {n v xs} ho9 => by
  refine ⟨ho9.1, ?_⟩
  rcases ho9.2 with k1 | ⟨g, cap, cur, k1, k2, k3, k4⟩
  ·exact .inl k1
  ·refine .inr ⟨g, cap, cur, k1, k2, ?_, k4⟩
   rw [heap_setCell_other _ _ _ _ (by dsimp only; omega)]
   refine (hk g (lt_of_block k3) fun e => ?_).trans k3
   rcases h.ru.2 with ⟨e1, _⟩ | ⟨g2, c2, u2, e1, e2, e3, _⟩
   ·rw [e1] at e; simp [Value.ownBlock] at e
   ·rw [e1] at e
    have : g2 = g := by simpa [Value.ownBlock] using e
    subst this
    rw [k3] at e3
    injection e3 with e3
    injection e3 with _ e3
    exact absurd e3 (by decide)
 refine ⟨?_, ?_, hint h.fa, fun i hi => ?_, h.lo⟩
 ·rw [heap_setCell_same w' p 2 _ _ vRu' (hpb.trans h.box)]; rfl
 ·rw [List.length_append, List.length_singleton, cellsR_push]
  exact ownsRow_setCell_other ho (fun e => by have := (ho.lt _ e).1; dsimp only at this; omega) _
 ·rw [List.length_append, List.length_singleton] at hi
  by_cases e : i = rs.length
  ·subst e
   have e2 : (rs ++ [r]).getD rs.length default = r := by simp
   rw [e2, if_pos rfl]
   exact ⟨hint hu, hn⟩
  ·have e2 : (rs ++ [r]).getD i default = rs.getD i default := by
    simp only [List.getD_eq_getElem?_getD, List.getElem?_append_left (show i < rs.length by omega)]
   rw [e2, if_neg e]
   obtain ⟨k1, k2⟩ := h.bd i (by omega)
   exact ⟨hint k1, k2⟩
/-- A fact joins. -/
theorem PB.pushF (h : PB w base p lits vFo vBe vOl vRu vFa rs vs fa) {A : Obj} {x : Int} (hb0 : base ≤ w.heap.size) (hg : (w.alloc A).grownBy w' vFa.ownBlock) (ho : w'.ownsRow base 3 1 vFa' (fa.length + 1) (intsV fa ++ [.int .i64 x]))
  (hat : vFa'.ownBlock = vFa.ownBlock ∨ vFa'.ownBlock = some (w.alloc A).heap.size) :
  PB (w'.setCell ⟨p, 4, none⟩ vFa') base p lits vFo vBe vOl vRu vFa' rs vs (fa ++ [x]) := by
 have hlp := lt_of_block h.box
 have hk : ∀ g, g < w.heap.size → vFa.ownBlock ≠ some g → w'.heap[g]? = w.heap[g]? := fun g h1 h2 => (hg.block g (by simp; omega) (fun e => h2 e.symm)).trans (Below.heap_alloc _ _ _ h1)
 have hlo := h.lo
 have hpb := hk p hlp fun e => by have := (h.fa.lt p e).1; omega
 have hkeep : ∀ {e sz n : Nat} {v : Value} {xs : List Value}, w.ownsRow base e sz v n xs → (v.ownBlock = none ∨ v.ownBlock ≠ vFa.ownBlock) → (w'.setCell ⟨p, 4, none⟩ vFa').ownsRow base e sz v n xs := fun {e sz n v xs} ho9 hn9 => by
  refine ⟨ho9.1, ?_⟩
  rcases ho9.2 with k1 | ⟨g, cap, cur, k1, k2, k3, k4⟩
  ·exact .inl k1
  ·refine .inr ⟨g, cap, cur, k1, k2, ?_, k4⟩
   rw [heap_setCell_other _ _ _ _ (by dsimp only; omega)]
   refine (hk g (lt_of_block k3) fun e9 => ?_).trans k3
   rw [k1] at hn9
   rcases hn9 with h9 | h9
   ·simp [Value.ownBlock] at h9
   ·exact h9 (by rw [e9]; rfl)
 refine ⟨?_, hkeep h.ru ?_, ?_, fun i hi => ?_, h.lo⟩
 ·rw [heap_setCell_same w' p 4 _ _ vFa' (hpb.trans h.box)]; rfl
 ·-- rules' block is of another type
  cases ho1 : vRu.ownBlock with
  | none => exact .inl rfl
  | some g =>
   right
   intro e
   rcases h.ru.2 with ⟨e1, _⟩ | ⟨g2, c2, u2, e1, e2, e3, _⟩
   ·rw [e1] at ho1; simp [Value.ownBlock] at ho1
   ·rcases h.fa.2 with ⟨f1, _⟩ | ⟨g3, c3, u3, f1, f2, f3, _⟩
    ·rw [f1] at e; simp [Value.ownBlock] at e
    ·rw [e1] at ho1
     rw [f1] at e
     have k1 : g2 = g := by simpa [Value.ownBlock] using ho1
     have k2 : g = g3 := by simpa [Value.ownBlock] using e
     subst k1; subst k2
     rw [e3] at f3
     injection f3 with f3
     injection f3 with _ f3
     exact absurd f3 (by decide)
 ·rw [List.length_append, List.length_singleton]
  have e : intsV (fa ++ [x]) = intsV fa ++ [.int .i64 x] := by simp [intsV]
  rw [e]
  exact ownsRow_setCell_other ho (fun e => by have := (ho.lt _ e).1; dsimp only at this; omega) _
 ·obtain ⟨k1, k2⟩ := h.bd i hi
  refine ⟨hkeep k1 k2, ?_⟩
  rcases k2 with k2 | k2
  ·exact .inl k2
  ·rcases hat with e | e
   ·rw [e]; exact .inr k2
   ·right
    rw [e]
    intro e9
    have := (k1.lt _ e9).2
    simp at this
    omega
end
end Go.Proofs.Lx

namespace Go.Proofs.Lx
open Go Go.RowKit
set_option linter.unusedSimpArgs false
set_option linter.unusedVariables false
/-- What says adds. -/
def sayRs (m at9 : Nat) : List Rule := if m.testBit 0 then [] else (if m.testBit 1 then [] else [⟨1, at9, [(at9 : Int)]⟩]) ++ (if m.testBit 2 then [⟨2, at9, []⟩] else if m.testBit 3 then [] else [⟨2, at9, [(at9 : Int)]⟩])
def sayFs (m at9 : Nat) : List Int := if m.testBit 0 then [(at9 : Int)] else []
/-- Behind it: the part, and all other blocks as they were. -/
def Said (w w' : World) (base p : Nat) (lits : Int) (vFo vBe vOl vRu vFa : Value) (rs : List Rule) (fa : List Int) : Prop :=
 (∃ vRu' vFa' vs', PB w' base p lits vFo vBe vOl vRu' vFa' rs vs' fa ∧ (∀ g, vRu'.ownBlock = some g → vRu.ownBlock = some g ∨ w.heap.size ≤ g) ∧ (∀ g, vFa'.ownBlock = some g → vFa.ownBlock = some g ∨ w.heap.size ≤ g)) ∧ (w'.os = w.os ∧ w'.tape = w.tape ∧ w'.output = w.output ∧ w.heap.size ≤ w'.heap.size) ∧
  ∀ g, g < w.heap.size → g ≠ p → vRu.ownBlock ≠ some g → vFa.ownBlock ≠ some g → w'.heap[g]? = w.heap[g]?
set_option maxRecDepth 100000 in
set_option maxHeartbeats 1600000 in
theorem says_none (w : World) (base p at9 : Nat) (lits : Int) (vFo vBe vOl vRu vFa : Value) (rs : List Rule) (vs : Nat → Value) (fa : List Int) (h : PB w base p lits vFo vBe vOl vRu vFa rs vs fa) :
  Calls Tryz.prog 89 #[.pointer (some ⟨p, 0, none⟩), .int .i64 (at9 : Int), .int .u8 10] w (Ret fun r w' => r = .tuple #[] ∧ Said w w' base p lits vFo vBe vOl vRu vFa (rs ++ sayRs 10 at9) (fa ++ sayFs 10 at9)) := by
 have H := hid h
 have e1 : rs ++ sayRs 10 at9 = rs := by simp [sayRs, Nat.testBit]
 have e2 : fa ++ sayFs 10 at9 = fa := by simp [sayFs, Nat.testBit]
 rw [e1, e2]
 clear h e1 e2
 refine post_gen fun Q HQ => ?_
 go_enter Tryz.func89, Tryz.ntmps89
 go_wp2_with fail
 (try simp only [Exit.inBlock, Exit.then])
 refine bodyPost_end (v := .tuple #[]) (by simp [results, Tryz.results89, go_sem]; try rfl) rfl ?_
 exact Fin HQ ⟨rfl, ⟨_, _, _, H.out, fun g hg => .inl hg, fun g hg => .inl hg⟩, ⟨rfl, rfl, rfl, Nat.le_refl _⟩, fun g _ _ _ _ => rfl⟩
set_option maxRecDepth 100000 in
set_option maxHeartbeats 1600000 in
theorem says_fact (w : World) (base p at9 : Nat) (lits : Int) (vFo vBe vOl vRu vFa : Value) (rs : List Rule) (vs : Nat → Value) (fa : List Int) (h : PB w base p lits vFo vBe vOl vRu vFa rs vs fa) (hb0 : base ≤ w.heap.size) (hf : fa.length ≤ 100000) :
  Calls Tryz.prog 89 #[.pointer (some ⟨p, 0, none⟩), .int .i64 (at9 : Int), .int .u8 5] w (Ret fun r w' => r = .tuple #[] ∧ Said w w' base p lits vFo vBe vOl vRu vFa (rs ++ sayRs 5 at9) (fa ++ sayFs 5 at9)) := by
 have H := hid h
 have e1 : rs ++ sayRs 5 at9 = rs := by simp [sayRs, Nat.testBit]
 have e2 : fa ++ sayFs 5 at9 = fa ++ [(at9 : Int)] := by simp [sayFs, Nat.testBit]
 rw [e1, e2]
 have hlp := lt_of_block h.box
 have hlo := h.lo
 have c4 : w.cell? ⟨p, 4, none⟩ = some vFa := by rw [cell_of_row w p _ _ _ _ h.box]; rfl
 obtain ⟨i0, hi, hz0, hz1, hz2⟩ := info_parts infoI
 have Haft : Hid (∀ (cA : Obj) (w' : World), (w.alloc cA).grownBy w' vFa.ownBlock → w'.frozen? ⟨p, 4, none⟩ = false ∧ w'.cell? ⟨p, 4, none⟩ = some vFa) := hid fun cA w' hg => by
  have h9 := (hg.block p (by simp; omega) (fun e => by have := (H.out.fa.lt _ e.symm).1; omega)).trans ((Below.heap_alloc _ _ _ hlp).trans H.out.box)
  exact ⟨frozen_of_row w' p 4 _ _ h9, by rw [cell_of_row w' p 4 _ _ _ h9]; rfl⟩
 clear h e1 e2
 refine post_gen fun Q HQ => ?_
 go_enter Tryz.func89, Tryz.ntmps89
 go_wp2_with (at_builtin; refine wpList_append_own_at _ rfl _ _ 36 rfl base 3 i0 (.int .i64 0) 1 8 Tryz.underlying36 hi hz0 hz1 hz2 rfl (by decide) _ fa.length _ rfl (H.out.fa.alloc _) ⟨w.heap.size, 0, none⟩ 1 1 [.int .i64 (at9 : Int)] rfl rfl (cell_one_new _ _ _) (fun u hu => by simp at hu; subst hu; rfl) (by unfold maxLen; omega) (by omega) (by simp; omega) ?_; intro v' w' hown hgrow hnil hat; obtain ⟨gn, cn, rfl⟩ := own_form hown; obtain ⟨hqF, hq2⟩ := Haft.out _ w' hgrow)
 refine bodyPost_ret (v := .tuple #[]) (by simp [results, Tryz.results89, go_sem]; try rfl) rfl ?_
 have hp := H.out.pushF hb0 hgrow hown hat
 have hsz : w.heap.size + 1 ≤ w'.heap.size := by simpa using hgrow.size
 refine Fin HQ ⟨rfl, ⟨_, _, _, hp, fun g hg => .inl hg, fun g hg => ?_⟩, ⟨hgrow.os, hgrow.tape, hgrow.output, by simp; omega⟩, fun g h1 h2 h3 h4 => ?_⟩
 ·rcases hat with e | e
  ·exact .inl (e ▸ hg)
  ·right; rw [e] at hg; simp at hg; omega
 ·rw [heap_setCell_other _ _ _ _ h2]
  exact (hgrow.block g (by simp; omega) (fun e => h4 e.symm)).trans (Below.heap_alloc _ _ _ h1)
theorem cell_three_new (w : World) (x y z : Value) (t : TypeId) : ∀ j u, [x, y, z][j]? = some u → (w.alloc (.cells #[x, y, z] t)).cell? ((⟨w.heap.size, 0, none⟩ : Addr).add j) = some u := by
 intro j u hj
 have hn := heap_alloc_new w (.cells #[x, y, z] t)
 rw [add_plain, cell_of_row _ _ j _ _ _ hn]
 simpa using hj
theorem own_formL {w : World} {base e size n : Nat} {v : Value} {xs : List Value} (h : w.ownsRow base e size v (n + 1) xs) : ∃ g c, v = .slice (some ⟨g, 0, none⟩) (n + 1) c := by
 rcases h.2 with ⟨_, h2⟩ | ⟨g, cap, cur, h1, _⟩
 ·omega
 ·exact ⟨g, cap, h1⟩
set_option maxRecDepth 100000 in
set_option maxHeartbeats 1600000 in
theorem says_plain (w : World) (base p at9 : Nat) (lits : Int) (vFo vBe vOl vRu vFa : Value) (rs : List Rule) (vs : Nat → Value) (fa : List Int) (h : PB w base p lits vFo vBe vOl vRu vFa rs vs fa) (hb0 : base ≤ w.heap.size) (hf : rs.length ≤ 100000) :
  Calls Tryz.prog 89 #[.pointer (some ⟨p, 0, none⟩), .int .i64 (at9 : Int), .int .u8 6] w (Ret fun r w' => r = .tuple #[] ∧ Said w w' base p lits vFo vBe vOl vRu vFa (rs ++ sayRs 6 at9) (fa ++ sayFs 6 at9)) := by
 have H := hid h
 have e1 : rs ++ sayRs 6 at9 = rs ++ [⟨2, at9, []⟩] := by simp [sayRs, Nat.testBit]
 have e2 : fa ++ sayFs 6 at9 = fa := by simp [sayFs, Nat.testBit]
 rw [e1, e2]
 have hlp := lt_of_block h.box
 have hlo := h.lo
 have c2 : w.cell? ⟨p, 2, none⟩ = some vRu := by rw [cell_of_row w p _ _ _ _ h.box]; rfl
 obtain ⟨i0, hi, hz0, hz1, hz2⟩ := info_parts infoRl
 have Haft : Hid (∀ (cA : Obj) (w' : World), (w.alloc cA).grownBy w' vRu.ownBlock → w'.frozen? ⟨p, 2, none⟩ = false ∧ w'.cell? ⟨p, 2, none⟩ = some vRu) := hid fun cA w' hg => by
  have h9 := (hg.block p (by simp; omega) (fun e => by have := (H.out.ru.lt _ e.symm).1; omega)).trans ((Below.heap_alloc _ _ _ hlp).trans H.out.box)
  exact ⟨frozen_of_row w' p 2 _ _ h9, by rw [cell_of_row w' p 2 _ _ _ h9]; rfl⟩
 clear h e1 e2
 refine post_gen fun Q HQ => ?_
 go_enter Tryz.func89, Tryz.ntmps89
 go_wp2_with (at_builtin; refine wpList_append_own_at _ rfl _ _ 23 rfl base 93 i0 (.agg #[.int .i64 0, .int .i64 0, .slice none 0 0]) 3 40 Tryz.underlying23 hi hz0 hz1 hz2 rfl (by decide) _ rs.length _ rfl (H.out.ru.alloc _) ⟨w.heap.size, 0, none⟩ 1 1 [.int .i64 2, .int .i64 (at9 : Int), .slice none 0 0] rfl rfl (cell_three_new _ _ _ _ _) (fun u hu => by simp at hu; rcases hu with rfl | rfl | rfl <;> rfl) (by unfold maxLen; omega) (by omega) (by simp; omega) ?_; intro v' w' hown hgrow hnil hat; obtain ⟨gn, cn, rfl⟩ := own_formL hown; obtain ⟨hqF, hq2⟩ := Haft.out _ w' hgrow)
 (try simp only [Exit.inBlock, Exit.then])
 refine bodyPost_end (v := .tuple #[]) (by simp [results, Tryz.results89, go_sem]; try rfl) rfl ?_
 have hp := H.out.pushR (r := ⟨2, at9, []⟩) (u := .slice none 0 0) (World.ownsRow_nil _ _ _ _) (.inl rfl) hgrow hown
 have hsz : w.heap.size + 1 ≤ w'.heap.size := by simpa using hgrow.size
 refine Fin HQ ⟨rfl, ⟨_, _, _, hp, fun g hg => ?_, fun g hg => .inl hg⟩, ⟨hgrow.os, hgrow.tape, hgrow.output, by simp; omega⟩, fun g h1 h2 h3 h4 => ?_⟩
 ·rcases hat with e | e
  ·exact .inl (e ▸ hg)
  ·right; rw [e] at hg; simp at hg; omega
 ·rw [heap_setCell_other _ _ _ _ h2]
  exact (hgrow.block g (by simp; omega) (fun e => h3 e.symm)).trans (Below.heap_alloc _ _ _ h1)
end Go.Proofs.Lx
