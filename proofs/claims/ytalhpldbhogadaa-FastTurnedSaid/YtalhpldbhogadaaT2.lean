/- Parts of the proof: Xg, Xh. Words for the law's turned: the copy that is turned, in memory. No condition. -/
import Derived.Test.YtalhpldbhogadaaT1
import Derived.Test.YtalhpldbhogadaaU25
import Derived.Test.YtalhpldbhogadaaU5
namespace Go.Proofs.Lx
open Go Go.RowKit Go.Proofs.Tj
set_option linter.unusedSimpArgs false
set_option linter.unusedVariables false
/-- All blocks from m on but two are as they were. -/
def Agr2 (m gR gB : Nat) (W W' : World) : Prop := W.heap.size ≤ W'.heap.size ∧ ∀ g, m ≤ g → g < W.heap.size → g ≠ gR → g ≠ gB → W'.heap[g]? = W.heap[g]?
theorem Agr2.refl (m gR gB : Nat) (W : World) : Agr2 m gR gB W W := ⟨Nat.le_refl _, fun _ _ _ _ _ => rfl⟩
theorem Agr2.trans {m gR gB : Nat} {W W' W'' : World} (h : Agr2 m gR gB W W') (k : Agr2 m gR gB W' W'') : Agr2 m gR gB W W'' :=
 ⟨Nat.le_trans h.1 k.1, fun g hm hg h1 h2 => (k.2 g hm (Nat.lt_of_lt_of_le hg h.1) h1 h2).trans (h.2 g hm hg h1 h2)⟩
theorem Agr2.of {m gR gB : Nat} {W W' : World} (h : Below W.heap.size W W') : Agr2 m gR gB W W' := ⟨h.size, fun g _ hg _ _ => h.block g hg⟩
theorem Agr2.low {m : Nat} (gR gB : Nat) (W : World) {g0 : Nat} (h : g0 < m) (k : Nat) (v : Value) : Agr2 m gR gB W (W.setCell ⟨g0, k, none⟩ v) := ⟨by simp, fun g hm _ _ _ => heap_setCell_other W _ g _ (by dsimp only; omega)⟩
theorem Agr2.setR (m gR gB : Nat) (W : World) (k : Nat) (v : Value) : Agr2 m gR gB W (W.setCell ⟨gR, k, none⟩ v) := ⟨by simp, fun g _ _ h1 _ => heap_setCell_other W _ g _ h1⟩
theorem Agr2.setB (m gR gB : Nat) (W : World) (k : Nat) (v : Value) : Agr2 m gR gB W (W.setCell ⟨gB, k, none⟩ v) := ⟨by simp, fun g _ _ _ h2 => heap_setCell_other W _ g _ h2⟩
def updN {α : Type} (f : Nat → α) (i : Nat) (x : α) (j : Nat) : α := if j = i then x else f j
/-- The copy's box, its rules, its beats: what the cells hold; each row reads on while all blocks but those two are kept. -/
structure TS (w0 : World) (T : Th) (bx gR gB cR cB : Nat) (vF : Value) (rs : Nat → Rule) (bs : Nat → List Int) (W : World) : Prop where
 box : W.heap[bx]? = some (.cells #[.int .i64 T.lits, vF, .slice (some ⟨gR, 0, none⟩) T.rules.length cR, .slice (some ⟨gB, 0, none⟩) T.rules.length cB] 25 (0, 0))
 bR : ∃ cur, W.heap[gR]? = some (.cells cur 37 (0, 0)) ∧ ∀ i, i < T.rules.length → ∃ v, cur[i * 3]? = some (.int .i64 (rs i).kind) ∧ cur[i * 3 + 1]? = some (.int .i64 (rs i).head) ∧ cur[i * 3 + 2]? = some v ∧ ∀ W', Agr2 w0.heap.size gR gB W W' → RdI W' v (rs i).body
 bB : ∃ cur, W.heap[gB]? = some (.cells cur 26 (0, 0)) ∧ ∀ i, i < T.rules.length → ∃ v, cur[i]? = some v ∧ ∀ W', Agr2 w0.heap.size gR gB W W' → RdI W' v (bs i)
 rF : ∀ W', Agr2 w0.heap.size gR gB W W' → RdLL W' vF T.foes
 ne : bx ≠ gR ∧ bx ≠ gB ∧ gR ≠ gB ∧ w0.heap.size ≤ bx ∧ w0.heap.size ≤ gR ∧ w0.heap.size ≤ gB
 old : Below w0.heap.size w0 W
 cR : T.rules.length ≤ cR
 cB : T.rules.length ≤ cB
section
variable {w0 W : World} {T : Th} {bx gR gB cR cB : Nat} {vF : Value} {rs : Nat → Rule} {bs : Nat → List Int}
theorem TS.ext {W' : World} (h : TS w0 T bx gR gB cR cB vF rs bs W) (hb : Below W.heap.size W W') : TS w0 T bx gR gB cR cB vF rs bs W' := by
 obtain ⟨c1, h1, h2⟩ := h.bR
 obtain ⟨c2, h3, h4⟩ := h.bB
 refine ⟨(hb.block _ (lt_of_block h.box)).trans h.box, ⟨c1, (hb.block _ (lt_of_block h1)).trans h1, fun i hi => ?_⟩, ⟨c2, (hb.block _ (lt_of_block h3)).trans h3, fun i hi => ?_⟩, fun W' hW => h.rF _ ((Agr2.of hb).trans hW), h.ne, ext_trans h.old hb, h.cR, h.cB⟩
 ·obtain ⟨v, e1, e2, e3, e4⟩ := h2 i hi
  exact ⟨v, e1, e2, e3, fun W' hW => e4 _ ((Agr2.of hb).trans hW)⟩
 ·obtain ⟨v, e1, e2⟩ := h4 i hi
  exact ⟨v, e1, fun W' hW => e2 _ ((Agr2.of hb).trans hW)⟩
theorem TS.boxc (h : TS w0 T bx gR gB cR cB vF rs bs W) : W.cell? ⟨bx, 0, none⟩ = some (.int .i64 T.lits) ∧ W.cell? ⟨bx, 1, none⟩ = some vF ∧ W.cell? ⟨bx, 2, none⟩ = some (.slice (some ⟨gR, 0, none⟩) T.rules.length cR) ∧ W.cell? ⟨bx, 3, none⟩ = some (.slice (some ⟨gB, 0, none⟩) T.rules.length cB) :=
 ⟨cell_of_row _ _ 0 _ _ _ h.box, cell_of_row _ _ 1 _ _ _ h.box, cell_of_row _ _ 2 _ _ _ h.box, cell_of_row _ _ 3 _ _ _ h.box⟩
theorem TS.cellR (h : TS w0 T bx gR gB cR cB vF rs bs W) {i : Nat} (hi : i < T.rules.length) : ∃ v, W.cell? ⟨gR, i * 3, none⟩ = some (.int .i64 (rs i).kind) ∧ W.cell? ⟨gR, i * 3 + 1, none⟩ = some (.int .i64 (rs i).head) ∧ W.cell? ⟨gR, i * 3 + 2, none⟩ = some v ∧ (∀ j, W.frozen? ⟨gR, j, none⟩ = false) ∧ ∀ W', Agr2 w0.heap.size gR gB W W' → RdI W' v (rs i).body := by
 obtain ⟨c, h1, h2⟩ := h.bR
 obtain ⟨v, e1, e2, e3, e4⟩ := h2 i hi
 exact ⟨v, by rw [cell_of_row _ _ _ _ _ _ h1]; exact e1, by rw [cell_of_row _ _ _ _ _ _ h1]; exact e2, by rw [cell_of_row _ _ _ _ _ _ h1]; exact e3, fun j => frozen_of_row _ _ j _ _ h1, e4⟩
theorem TS.cellB (h : TS w0 T bx gR gB cR cB vF rs bs W) {i : Nat} (hi : i < T.rules.length) : ∃ v, W.cell? ⟨gB, i, none⟩ = some v ∧ (∀ j, W.frozen? ⟨gB, j, none⟩ = false) ∧ ∀ W', Agr2 w0.heap.size gR gB W W' → RdI W' v (bs i) := by
 obtain ⟨c, h1, h2⟩ := h.bB
 obtain ⟨v, e1, e2⟩ := h2 i hi
 exact ⟨v, by rw [cell_of_row _ _ _ _ _ _ h1]; exact e1, fun j => frozen_of_row _ _ j _ _ h1, e2⟩
/-- A rule is written. -/
theorem TS.setR (h : TS w0 T bx gR gB cR cB vF rs bs W) {i : Nat} (hi : i < T.rules.length) {r : Rule} {v : Value} (hv : ∀ W', Agr2 w0.heap.size gR gB W W' → RdI W' v r.body) :
  TS w0 T bx gR gB cR cB vF (updN rs i r) bs (((W.setCell ⟨gR, i * 3, none⟩ (.int .i64 r.kind)).setCell ⟨gR, i * 3 + 1, none⟩ (.int .i64 r.head)).setCell ⟨gR, i * 3 + 2, none⟩ v) := by
 obtain ⟨c1, h1, h2⟩ := h.bR
 obtain ⟨c2, h3, h4⟩ := h.bB
 have hA : Agr2 w0.heap.size gR gB W (((W.setCell ⟨gR, i * 3, none⟩ (.int .i64 r.kind)).setCell ⟨gR, i * 3 + 1, none⟩ (.int .i64 r.head)).setCell ⟨gR, i * 3 + 2, none⟩ v) := (Agr2.setR _ _ _ _ _ _).trans ((Agr2.setR _ _ _ _ _ _).trans (Agr2.setR _ _ _ _ _ _))
 have hoth : ∀ g, g ≠ gR → (((W.setCell ⟨gR, i * 3, none⟩ (.int .i64 r.kind)).setCell ⟨gR, i * 3 + 1, none⟩ (.int .i64 r.head)).setCell ⟨gR, i * 3 + 2, none⟩ v).heap[g]? = W.heap[g]? := fun g hg => by
  rw [heap_setCell_other _ _ _ _ hg, heap_setCell_other _ _ _ _ hg, heap_setCell_other _ _ _ _ hg]
 have hme := heap_setCell_same _ gR (i * 3 + 2) _ _ v (heap_setCell_same _ gR (i * 3 + 1) _ _ (.int .i64 r.head) (heap_setCell_same W gR (i * 3) _ _ (.int .i64 r.kind) h1))
 refine ⟨(hoth _ h.ne.1).trans h.box, ⟨_, hme, fun j hj => ?_⟩, ⟨c2, (hoth _ h.ne.2.2.1.symm).trans h3, fun j hj => ?_⟩, fun W' hW => h.rF _ (hA.trans hW), h.ne, ((h.old.setCell h.ne.2.2.2.2.1 _).setCell h.ne.2.2.2.2.1 _).setCell h.ne.2.2.2.2.1 _, h.cR, h.cB⟩
 ·obtain ⟨u, e1, e2, e3, e4⟩ := h2 j hj
  by_cases e : j = i
  ·subst e
   have k1 := (Array.getElem?_eq_some_iff.1 e1).1
   have k2 := (Array.getElem?_eq_some_iff.1 e2).1
   have k3 := (Array.getElem?_eq_some_iff.1 e3).1
   refine ⟨v, ?_, ?_, ?_, fun W' hW => ?_⟩
   ·simp [Array.getElem?_setIfInBounds, updN, k1]
   ·simp [Array.getElem?_setIfInBounds, updN, k2]
   ·simp [Array.getElem?_setIfInBounds, updN, k3]
   ·simp only [updN, if_pos]; exact hv _ (hA.trans hW)
  ·refine ⟨u, ?_, ?_, ?_, fun W' hW => ?_⟩
   ·rw [Array.getElem?_setIfInBounds_ne (by omega), Array.getElem?_setIfInBounds_ne (by omega), Array.getElem?_setIfInBounds_ne (by omega), e1]; simp [updN, e]
   ·rw [Array.getElem?_setIfInBounds_ne (by omega), Array.getElem?_setIfInBounds_ne (by omega), Array.getElem?_setIfInBounds_ne (by omega), e2]; simp [updN, e]
   ·rw [Array.getElem?_setIfInBounds_ne (by omega), Array.getElem?_setIfInBounds_ne (by omega), Array.getElem?_setIfInBounds_ne (by omega), e3]
   ·simp only [updN, if_neg e]; exact e4 _ (hA.trans hW)
 ·obtain ⟨u, e1, e2⟩ := h4 j hj
  exact ⟨u, e1, fun W' hW => e2 _ (hA.trans hW)⟩
/-- A list is written. -/
theorem TS.setB (h : TS w0 T bx gR gB cR cB vF rs bs W) {i : Nat} (hi : i < T.rules.length) {x : List Int} {v : Value} (hv : ∀ W', Agr2 w0.heap.size gR gB W W' → RdI W' v x) :
  TS w0 T bx gR gB cR cB vF rs (updN bs i x) (W.setCell ⟨gB, i, none⟩ v) := by
 obtain ⟨c1, h1, h2⟩ := h.bR
 obtain ⟨c2, h3, h4⟩ := h.bB
 have hA : Agr2 w0.heap.size gR gB W (W.setCell ⟨gB, i, none⟩ v) := Agr2.setB _ _ _ _ _ _
 have hoth : ∀ g, g ≠ gB → (W.setCell ⟨gB, i, none⟩ v).heap[g]? = W.heap[g]? := fun g hg => heap_setCell_other _ _ _ _ hg
 refine ⟨(hoth _ h.ne.2.1).trans h.box, ⟨c1, (hoth _ h.ne.2.2.1).trans h1, fun j hj => ?_⟩, ⟨_, heap_setCell_same W gB i _ _ v h3, fun j hj => ?_⟩, fun W' hW => h.rF _ (hA.trans hW), h.ne, h.old.setCell h.ne.2.2.2.2.2 _, h.cR, h.cB⟩
 ·obtain ⟨u, e1, e2, e3, e4⟩ := h2 j hj
  exact ⟨u, e1, e2, e3, fun W' hW => e4 _ (hA.trans hW)⟩
 ·obtain ⟨u, e1, e2⟩ := h4 j hj
  by_cases e : j = i
  ·subst e
   have k1 := (Array.getElem?_eq_some_iff.1 e1).1
   refine ⟨v, by simp [Array.getElem?_setIfInBounds, k1], fun W' hW => ?_⟩
   simp only [updN, if_pos]; exact hv _ (hA.trans hW)
  ·refine ⟨u, by rw [Array.getElem?_setIfInBounds_ne (by omega)]; exact e1, fun W' hW => ?_⟩
   simp only [updN, if_neg e]; exact e2 _ (hA.trans hW)
end
theorem TS.congr {w0 W : World} {T : Th} {bx gR gB cR cB : Nat} {vF : Value} {rs : Nat → Rule} {bs bs' : Nat → List Int} (h : TS w0 T bx gR gB cR cB vF rs bs W) (e : ∀ i, i < T.rules.length → bs i = bs' i) : TS w0 T bx gR gB cR cB vF rs bs' W := by
 obtain ⟨c2, h3, h4⟩ := h.bB
 refine ⟨h.box, h.bR, ⟨c2, h3, fun i hi => ?_⟩, h.rF, h.ne, h.old, h.cR, h.cB⟩
 rw [← e i hi]; exact h4 i hi
theorem own_tag {w w' : World} {base e size n : Nat} {v : Value} {xs : List Value} (h : w.ownsRow base e size v n xs) (hk : ∀ g cur, base ≤ g → g < w.heap.size → w.heap[g]? = some (.cells cur e (0, 0)) → w'.heap[g]? = w.heap[g]?) : w'.ownsRow base e size v n xs := by
 refine ⟨h.1, ?_⟩
 rcases h.2 with h1 | ⟨g, cap, cur, h1, h2, h3, h4⟩
 ·exact .inl h1
 ·exact .inr ⟨g, cap, cur, h1, h2, (hk g cur h2 (lt_of_block h3) h3).trans h3, h4⟩
theorem tag_ne {w : World} {g k : Nat} {c c' : Array Value} {e e' : TypeId} (h : w.heap[g]? = some (.cells c e (0, 0))) (h' : w.heap[k]? = some (.cells c' e' (0, 0))) (hne : e ≠ e') : g ≠ k := by
 rintro rfl
 rw [h] at h'
 injection h' with h'
 injection h' with h1 h2
 exact hne h2
theorem ruleCells_all {rs : List Rule} {vs : List Value} (h : rs.length = vs.length) {i : Nat} (hi : i < rs.length) : (ruleCells rs vs)[i * 3]? = some (.int .i64 rs[i].kind) ∧ (ruleCells rs vs)[i * 3 + 1]? = some (.int .i64 rs[i].head) ∧ (ruleCells rs vs)[i * 3 + 2]? = some (vs[i]'(by omega)) :=
 ⟨ruleCells_at h (j := 0) hi rfl, ruleCells_at h (j := 1) hi rfl, ruleCells_at h (j := 2) hi rfl⟩
theorem own_block {w : World} {base e size n : Nat} {v : Value} {xs : List Value} (h : w.ownsRow base e size v n xs) (hn : 0 < n) : ∃ g c cur, v = .slice (some ⟨g, 0, none⟩) n c ∧ n ≤ c ∧ base ≤ g ∧ w.heap[g]? = some (.cells cur e (0, 0)) ∧ ∀ (i : Nat) (x : Value), xs[i]? = some x → cur[i]? = some x := by
 rcases h.2 with ⟨h1, h2⟩ | ⟨g, cap, cur, h1, h2, h3, h4⟩
 ·omega
 ·subst h1
  refine ⟨g, cap, cur, rfl, h4.1, h2, h3, fun i x hx => ?_⟩
  have := h.cells (g := g) rfl i x hx
  rw [add_plain, cell_of_row _ _ _ _ _ _ h3] at this
  exact this
/-- The copy, boxed. -/
theorem TS.start {w1 w2 : World} {T : Th} {vF vR vB : Value} {b1 b2 : Nat} (hn : 0 < T.rules.length) (hbl : T.beats.length = T.rules.length) (h1 : w1.heap.size ≤ b1) (h12 : b1 ≤ b2)
  (hF : ∀ W : World, (∀ g, w1.heap.size ≤ g → g < b1 → W.heap[g]? = w2.heap[g]?) → RdLL W vF T.foes) (hR : OwnRs b1 w2 vR T.rules) (hB : OwnLL b2 w2 vB T.beats) (hb : Below w1.heap.size w1 w2)
  (h8 : ∀ r ∈ T.rules, r.body.length ≤ 140737488355328) (h9 : ∀ l ∈ T.beats, l.length ≤ 140737488355328) :
  ∃ gR gB cR cB AF cF, vF = .slice AF T.foes.length cF ∧ vR = .slice (some ⟨gR, 0, none⟩) T.rules.length cR ∧ vB = .slice (some ⟨gB, 0, none⟩) T.rules.length cB ∧
   TS w1 T w2.heap.size gR gB cR cB vF (fun i => T.rules.getD i default) (beatsAt T) (w2.alloc (.cells #[.int .i64 T.lits, vF, vR, vB] 25)) := by
 obtain ⟨vs, hvl, hoR, hvr⟩ := hR
 obtain ⟨us, hul, hoB, hur⟩ := hB
 rw [hbl] at hoB hul
 obtain ⟨gR, cR, curR, rfl, hcR, hgR0, hgR, hcellR⟩ := own_block hoR hn
 obtain ⟨gB, cB, curB, rfl, hcB, hgB0, hgB, hcellB⟩ := own_block hoB (by omega)
 obtain ⟨AF, cF, e⟩ : ∃ A c, vF = .slice A T.foes.length c := by obtain ⟨A, c, e, _⟩ := hF w2 (fun _ _ _ => rfl); exact ⟨A, c, e⟩
 have hRB : gR ≠ gB := tag_ne hgR hgB (by decide)
 have hlR := lt_of_block hgR
 have hlB := lt_of_block hgB
 have hs := hb.size
 refine ⟨gR, gB, cR, cB, AF, cF, e, rfl, rfl, heap_alloc_new _ _, ⟨curR, ?_, fun i hi => ?_⟩, ⟨curB, ?_, fun i hi => ?_⟩, fun W' hW => hF W' fun g hg1 hg2 => ?_, ⟨by omega, by omega, hRB, by omega, by omega, by omega⟩, ext_trans hb (ext_alloc _ _), hcR, hcB⟩
 ·rw [Below.heap_alloc _ _ _ hlR]; exact hgR
 ·have hv := hvr i (by omega) hi
  obtain ⟨k1, k2, k3⟩ := ruleCells_all hvl.symm hi
  refine ⟨vs[i]'(by omega), by rw [hcellR _ _ k1]; simp [hi], by rw [hcellR _ _ k2]; simp [hi], hcellR _ _ k3, fun W' hW => ?_⟩
  have e2 : (T.rules.getD i default) = T.rules[i] := by simp [hi]
  rw [e2]
  refine own_rdI (own_tag hv fun g cur hg1 hg2 hg3 => ?_) (h8 _ (List.getElem_mem hi))
  rw [hW.2 g (by omega) (by simp; omega) (tag_ne hg3 hgR (by decide)) (tag_ne hg3 hgB (by decide)), Below.heap_alloc _ _ _ hg2]
 ·rw [Below.heap_alloc _ _ _ hlB]; exact hgB
 ·have hv := hur i (by omega) (by omega)
  have hib : i < T.beats.length := by omega
  refine ⟨us[i]'(by omega), hcellB _ _ (by simp), fun W' hW => ?_⟩
  have e2 : beatsAt T i = T.beats[i]'hib := by simp [beatsAt, hib]
  rw [e2]
  refine own_rdI (own_tag hv fun g cur hg1 hg2 hg3 => ?_) (h9 _ (List.getElem_mem _))
  rw [hW.2 g (by omega) (by simp; omega) (tag_ne hg3 hgR (by decide)) (tag_ne hg3 hgB (by decide)), Below.heap_alloc _ _ _ hg2]
 ·rw [hW.2 g hg1 (by simp; omega) (by omega) (by omega), Below.heap_alloc _ _ _ (by omega)]
/-- Two places changed. -/
theorem updN_sg {α : Type} (f : Nat → α) (a b : Nat) : updN (updN f a (f b)) b (f a) = fun i => f (sg a b i) := by
 funext i
 unfold updN sg
 by_cases h1 : i = b
 ·subst h1
  rw [if_pos rfl]
  by_cases h2 : i = a
  ·rw [if_pos h2, h2]
  ·rw [if_neg h2, if_pos rfl]
 ·rw [if_neg h1]
  by_cases h2 : i = a
  ·rw [if_pos h2, if_pos h2]
  ·rw [if_neg h2, if_neg h2, if_neg h1]
/-- At the end it reads as the turned theory. -/
theorem TS.theory {w0 W W' : World} {T : Th} {bx gR gB cR cB : Nat} {vF : Value} {a b : Nat} (h : TS w0 T bx gR gB cR cB vF (fun i => T.rules.getD (sg a b i) default) (turnB T a b) W) (hA : Agr2 w0.heap.size gR gB W W') (h1 : W'.heap[gR]? = W.heap[gR]?) (h2 : W'.heap[gB]? = W.heap[gB]?) (hn : T.rules.length ≤ 4096) :
  RdTh W' (.agg #[.int .i64 T.lits, vF, .slice (some ⟨gR, 0, none⟩) T.rules.length cR, .slice (some ⟨gB, 0, none⟩) T.rules.length cB]) (turnTh T a b) := by
 obtain ⟨c1, k1, k2⟩ := h.bR
 obtain ⟨c2, k3, k4⟩ := h.bB
 rw [← h1] at k1
 rw [← h2] at k3
 refine ⟨_, _, _, rfl, h.rF _ hA, ?_, ?_⟩
 ·refine ⟨_, cR, by rw [turn_rlen], by rw [turn_rlen]; exact h.cR, by rw [turn_rlen]; omega, fun i hi => ?_⟩
  have hi' : i < T.rules.length := by rwa [turn_rlen] at hi
  obtain ⟨v, e1, e2, e3, e4⟩ := k2 i hi'
  have er : (turnTh T a b).rules[i] = T.rules.getD (sg a b i) default := by simp [turnTh]
  refine ⟨_, [.int .i64 (T.rules.getD (sg a b i) default).kind, .int .i64 (T.rules.getD (sg a b i) default).head, v], rfl, ⟨v, by rw [er], by rw [er]; exact e4 _ hA⟩, rfl, fun j u hu => ?_⟩
  rw [add_plain, cell_of_row _ _ _ _ _ _ k1]
  match j, hu with
  | 0, hu => simp at hu; subst hu; exact e1
  | 1, hu => simp at hu; subst hu; exact e2
  | 2, hu => simp at hu; subst hu; exact e3
 ·refine ⟨some ⟨gB, 0, none⟩, cB, by simp [turnTh], by simp [turnTh]; exact h.cB, by simp [turnTh]; omega, fun i hi => ?_⟩
  have hi' : i < T.rules.length := by simpa [turnTh] using hi
  obtain ⟨v, e1, e4⟩ := k4 i hi'
  have er : (turnTh T a b).beats[i] = turnB T a b i := by simp [turnTh]
  refine ⟨_, [v], rfl, ⟨v, rfl, by rw [er]; exact e4 _ hA⟩, rfl, fun j u hu => ?_⟩
  rw [add_plain, cell_of_row _ _ _ _ _ _ k3]
  match j, hu with
  | 0, hu => simp at hu; subst hu; rw [Nat.mul_one]; exact e1
end Go.Proofs.Lx

namespace Go.Proofs.Lx
open Go Go.RowKit Go.Proofs.Tj
set_option linter.unusedSimpArgs false
set_option linter.unusedVariables false
/-- While a list is built: place i of the lists' block holds it; all else as it was. -/
structure TJ (w0 wI wr : World) (gR gB i : Nat) (cur : Array Value) (v : Value) (L : List Int) : Prop where
 agr : Agr2 w0.heap.size gR gB wI wr
 hR : wr.heap[gR]? = wI.heap[gR]?
 hB : wr.heap[gB]? = some (.cells (cur.setIfInBounds i v) 26 (0, 0))
 own : wr.ownsRow wI.heap.size 3 1 v L.length (intsV L)
 old : Below w0.heap.size w0 wr
section
variable {w0 W wI wr w' : World} {T : Th} {bx gR gB cR cB i : Nat} {vF v v' : Value} {rs : Nat → Rule} {bs : Nat → List Int} {cur : Array Value} {L : List Int} {x : Int}
theorem TJ.start (h : TS w0 T bx gR gB cR cB vF rs bs W) (hB : W.heap[gB]? = some (.cells cur 26 (0, 0))) : TJ w0 W (W.setCell ⟨gB, i, none⟩ (.slice none 0 0)) gR gB i cur (.slice none 0 0) [] :=
 ⟨Agr2.setB _ _ _ _ _ _, heap_setCell_other _ _ _ _ h.ne.2.2.1, heap_setCell_same _ _ _ _ _ _ hB, by simpa [intsV] using World.ownsRow_nil _ _ _ _, h.old.setCell h.ne.2.2.2.2.2 _⟩
theorem TJ.box (h : TS w0 T bx gR gB cR cB vF rs bs wI) (k : TJ w0 wI wr gR gB i cur v L) : wr.heap[bx]? = some (.cells #[.int .i64 T.lits, vF, .slice (some ⟨gR, 0, none⟩) T.rules.length cR, .slice (some ⟨gB, 0, none⟩) T.rules.length cB] 25 (0, 0)) :=
 (k.agr.2 bx h.ne.2.2.2.1 (lt_of_block h.box) h.ne.1 h.ne.2.1).trans h.box
theorem TJ.append (h : TS w0 T bx gR gB cR cB vF rs bs wI) (hi : i < cur.size) (k : TJ w0 wI wr gR gB i cur v L) {A : Obj} (hg : ((wr.alloc A).drew).grownBy w' v.ownBlock) (ho : w'.ownsRow wI.heap.size 3 1 v' (L.length + 1) (intsV L ++ [.int .i64 x])) :
  TJ w0 wI (w'.setCell ⟨gB, i, none⟩ v') gR gB i cur v' (L ++ [x]) := by
 obtain ⟨c1, h1, _⟩ := h.bR
 obtain ⟨c2, h2, _⟩ := h.bB
 have hlR := lt_of_block h1
 have hlB := lt_of_block h2
 have hs := k.agr.1
 have hsz : wr.heap.size + 1 ≤ w'.heap.size := by have := hg.size; simpa [World.drew] using this
 have hb : ∀ g, g < wr.heap.size → g < wI.heap.size → w'.heap[g]? = wr.heap[g]? := fun g hg1 hg2 => by
  rw [hg.block g (by show g < (wr.alloc A).heap.size; simp; omega) (fun e => by have := (k.own.lt g e.symm).1; omega)]
  show (wr.alloc A).heap[g]? = _
  rw [Below.heap_alloc _ _ _ hg1]
 have hkB := (hb gB (by omega) hlB).trans k.hB
 have hme := heap_setCell_same w' gB i _ _ v' hkB
 refine ⟨⟨by simp; omega, fun g hg0 hg1 hg2 hg3 => ?_⟩, ?_, ?_, ?_, ?_⟩
 ·rw [heap_setCell_other _ _ _ _ hg3, hb g (by omega) hg1]; exact k.agr.2 g hg0 hg1 hg2 hg3
 ·rw [heap_setCell_other _ _ _ _ h.ne.2.2.1, hb gR (by omega) hlR]; exact k.hR
 ·rw [hme]; simp
 ·rw [List.length_append, List.length_singleton]
  have e : intsV (L ++ [x]) = intsV L ++ [.int .i64 x] := by simp [intsV]
  rw [e]
  refine own_heap ho fun g hg1 hg2 => heap_setCell_other _ _ _ _ ?_
  dsimp only; omega
 ·have h0 := k.old.size
  exact Below.setCell ⟨hg.os.trans k.old.os, hg.tape.trans k.old.tape, hg.output.trans k.old.output, by omega, fun g hgl => (hb g (by omega) (by have := h.old.size; omega)).trans (k.old.block g hgl)⟩ h.ne.2.2.2.2.2 _
theorem TJ.drew (k : TJ w0 wI wr gR gB i cur v L) : TJ w0 wI wr.drew gR gB i cur v L := ⟨k.agr.trans (Agr2.of (Below.drew (ext_refl _))), k.hR, k.hB, k.own, k.old.drew⟩
theorem TJ.done (h : TS w0 T bx gR gB cR cB vF rs bs wI) (hB : wI.heap[gB]? = some (.cells cur 26 (0, 0))) (hi : i < T.rules.length) (k : TJ w0 wI wr gR gB i cur v L) (hL : L.length ≤ 4096) :
  TS w0 T bx gR gB cR cB vF rs (updN bs i L) wr := by
 obtain ⟨c1, h1, h2⟩ := h.bR
 obtain ⟨c2, h3, h4⟩ := h.bB
 have hc : c2 = cur := by rw [hB] at h3; cases h3; rfl
 subst hc
 have hlR := lt_of_block h1
 have hlB := lt_of_block h3
 refine ⟨k.box h, ⟨c1, k.hR.trans h1, fun j hj => ?_⟩, ⟨_, k.hB, fun j hj => ?_⟩, fun W' hW => h.rF _ (k.agr.trans hW), h.ne, k.old, h.cR, h.cB⟩
 ·obtain ⟨u, e1, e2, e3, e4⟩ := h2 j hj
  exact ⟨u, e1, e2, e3, fun W' hW => e4 _ (k.agr.trans hW)⟩
 ·obtain ⟨u, e1, e2⟩ := h4 j hj
  by_cases e : j = i
  ·subst e
   have k1 := (Array.getElem?_eq_some_iff.1 e1).1
   refine ⟨v, by simp [Array.getElem?_setIfInBounds, k1], fun W' hW => ?_⟩
   simp only [updN, if_pos]
   refine own_rdI (own_tag k.own fun g c hg1 hg2 _ => hW.2 g (by have := h.old.size; omega) hg2 (by omega) (by omega)) (by omega)
  ·refine ⟨u, by rw [Array.getElem?_setIfInBounds_ne (by omega)]; exact e1, fun W' hW => ?_⟩
   simp only [updN, if_neg e]; exact e2 _ (k.agr.trans hW)
theorem TJ.after (h : TS w0 T bx gR gB cR cB vF rs bs wI) (hi : i < cur.size) (k : TJ w0 wI wr gR gB i cur v L) {A : Obj} (hg : ((wr.alloc A).drew).grownBy w' v.ownBlock) :
  w'.cell? ⟨bx, 3, none⟩ = some (.slice (some ⟨gB, 0, none⟩) T.rules.length cB) ∧ w'.cell? ⟨gB, i, none⟩ = some v ∧ w'.frozen? ⟨gB, i, none⟩ = false := by
 obtain ⟨c2, h2, _⟩ := h.bB
 have hlB := lt_of_block h2
 have hlx := lt_of_block h.box
 have hs := k.agr.1
 have hb : ∀ g, g < wI.heap.size → w'.heap[g]? = wr.heap[g]? := fun g hg2 => by
  rw [hg.block g (by show g < (wr.alloc A).heap.size; simp; omega) (fun e => by have := (k.own.lt g e.symm).1; omega)]
  show (wr.alloc A).heap[g]? = _
  rw [Below.heap_alloc _ _ _ (by omega)]
 have hkB := (hb gB hlB).trans k.hB
 refine ⟨cell_of_row _ _ 3 _ _ _ ((hb bx hlx).trans (k.box h)), ?_, frozen_of_row _ _ _ _ _ hkB⟩
 rw [cell_of_row _ _ _ _ _ _ hkB]; simp [Array.getElem?_setIfInBounds, hi]
theorem TJ.cells (h : TS w0 T bx gR gB cR cB vF rs bs wI) (hi : i < cur.size) (k : TJ w0 wI wr gR gB i cur v L) : wr.cell? ⟨bx, 3, none⟩ = some (.slice (some ⟨gB, 0, none⟩) T.rules.length cB) ∧ wr.cell? ⟨gB, i, none⟩ = some v := by
 refine ⟨cell_of_row _ _ 3 _ _ _ (k.box h), ?_⟩
 rw [cell_of_row _ _ _ _ _ _ k.hB]; simp [Array.getElem?_setIfInBounds, hi]
end
theorem updN_step {T : Th} {a b i : Nat} : updN (fun j => if j < i then turnB T a b j else beatsAt T (sg a b j)) i (turnB T a b i) = fun j => if j < i + 1 then turnB T a b j else beatsAt T (sg a b j) := by
 funext j
 unfold updN
 by_cases h : j = i
 ·subst h; rw [if_pos rfl, if_pos (by omega)]
 ·rw [if_neg h]
  dsimp only
  by_cases h2 : j < i
  ·rw [if_pos h2, if_pos (by omega)]
  ·rw [if_neg h2, if_neg (by omega)]
theorem turn_marks {T : Th} (hwf : WfTh T) {a b i : Nat} (ha : a < T.rules.length) (hb : b < T.rules.length) (hi : i < T.rules.length) {x : Nat} (hx : x < T.rules.length) :
  (factsB T.rules.length ((beatsAt T (sg a b i)).map fun y => ((sg a b y.toNat : Nat) : Int)))[x]'(by rw [factsB_length]; exact hx) = memB (beatsAt T (sg a b i)) ((sg a b x : Nat) : Int) := by
 simp only [factsB, List.getElem_map, List.getElem_range]
 rw [Bool.eq_iff_iff, memB_true, memB_true, List.mem_map]
 constructor
 ·rintro ⟨y, hy, e⟩
  have h := beats_mem hwf (sg_lt ha hb hi) hy
  have e2 : sg a b y.toNat = x := by omega
  rw [← e2, sg_sg]
  rw [show ((y.toNat : Nat) : Int) = y by omega]; exact hy
 ·intro h
  exact ⟨_, h, by rw [Int.toNat_natCast, sg_sg]⟩
end Go.Proofs.Lx
