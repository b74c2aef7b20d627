/- Parts of the proof: Af. An engine and the reference's beside one another (law 19). -/
import Derived.Test.YtbidjiopnddldaaGreatP43
namespace Go.Proofs.Lx
open Go Go.RowKit Go.Proofs.Tj
set_option linter.unusedVariables false
set_option linter.unusedSimpArgs false
/-- What is told is the same, whether by the cone or by all literals. -/
theorem ch_same {T : Th} {G F o : List Int} (hwf : WfTh T) (hodd : ∀ x : Nat, x < T.foes.length → ¬ InCone T o x → ((x : Int) ∈ G ↔ (x : Int) ∈ F)) : chL (solveM T G) (solveM T F) (coneL T o) = chR T G F :=
 chL_upto fun i hi hp => (cone_solve hwf hodd hi (by simpa using hp)).symm
theorem nx_add {T : Th} {G : List Int} (hwf : WfTh T) (q : Int) : nxC (addE T G q) T (addL G q) G [q] = nxR (addE T G q) T (addL G q) G := by
 unfold nxC nxR
 split
 ·exact ch_same hwf (odd_one fun y hy => by rw [mem_add]; simp [hy])
 ·rfl
theorem nx_drop {T : Th} {G : List Int} (hwf : WfTh T) (hG : risB G T.lits = true) (q : Int) : nxC (dropE T G q) T (dropL G q) G [q] = nxR (dropE T G q) T (dropL G q) G := by
 unfold nxC nxR
 split
 ·rename_i he
  have hm : q ∈ G := by
   unfold dropE at he
   split at he
   ·omega
   ·split at he
    ·assumption
    ·omega
  exact ch_same hwf (odd_one fun y hy => by rw [mem_drop hG hm]; simp [hy])
 ·rfl
theorem nx_set {T : Th} {G : List Int} (hwf : WfTh T) (F : List Int) : nxC (setE T F) T F G (notIn F G ++ notIn G F) = nxR (setE T F) T F G := by
 unfold nxC nxR
 split
 ·exact ch_same hwf odd_set
 ·rfl
theorem ch_len (T : Th) (G F : List Int) (hwf : WfTh T) : (chR T G F).length ≤ 4096 := by
 have h1 := hwf.fl
 have h2 := hwf.l1
 have := chL_le (solveM T G) (solveM T F) (upto T.foes.length)
 rw [upto_length] at this
 unfold chR; omega
theorem nx_len {T : Th} {F G : List Int} {e : Int} (hwf : WfTh T) : (nxR e T F G).length ≤ 4096 := by
 unfold nxR; split
 ·exact ch_len T G F hwf
 ·simp
theorem risT_len {T : Th} {G : List Int} (hwf : WfTh T) (h : risB G T.lits = true) : G.length ≤ 4096 := by
 have h9 := h
 have h0 := hwf.l0
 have h1 := hwf.l1
 rw [show T.lits = ((T.lits.toNat : Nat) : Int) by omega] at h9
 have := ris_len h9
 omega
/-- The engine x in the box bx, the reference's b. -/
structure PM (w0 w : World) (bx x : Nat) (vM : Value) (b : Nat) (T : Th) (G H U : List Int) (Ft Fr : Nat → Prop) : Prop where
 ex : EE w0 w x vM T G U Ft
 er : EngR w b T H Fr
 rlo : ∀ g, Fr g → w0.heap.size ≤ g
 box : w.heap[bx]? = some (.cells #[.pointer (some ⟨x, 0, none⟩)] 28 (0, 0))
 xlo : w0.heap.size ≤ bx
 a1 : Apt Fr x vM
 a2 : ¬ Ft b
 a3 : ¬ Ft bx
 a4 : ¬ Fr bx
section
variable {w0 w w' : World} {bx x b : Nat} {vM r : Value} {T : Th} {G H U G2 U2 : List Int} {Ft Fr : Nat → Prop} {err : Int} {ch : List (Int × Nat × Nat)}
theorem PM.ext (h : PM w0 w bx x vM b T G H U Ft Fr) (hb : Below w.heap.size w w') : PM w0 w' bx x vM b T G H U Ft Fr :=
 ⟨h.ex.ext hb, h.er.ext hb, h.rlo, (hb.block bx (lt_of_block h.box)).trans h.box, h.xlo, h.a1, h.a2, h.a3, h.a4⟩
theorem PM.boxc (h : PM w0 w bx x vM b T G H U Ft Fr) : w.cell? ⟨bx, 0, none⟩ = some (.pointer (some ⟨x, 0, none⟩)) := cell_of_row w bx 0 _ _ _ h.box
theorem PM.ne (h : PM w0 w bx x vM b T G H U Ft Fr) : bx ≠ x ∧ vM.ownBlock ≠ some bx ∧ b ≠ x ∧ vM.ownBlock ≠ some b ∧ bx ≠ b :=
 ⟨fun e => h.a3 (e ▸ h.ex.e.fx), fun e => h.a3 (h.ex.e.fm bx e).1, (h.a1 b h.er.fb).1, (h.a1 b h.er.fb).2, fun e => h.a4 (e ▸ h.er.fb)⟩
/-- The engine is called. -/
theorem PM.callx (h : PM w0 w bx x vM b T G H U Ft Fr) (hc : CallD w w' x vM T Ft r err ch G2 U2) : PM w0 w' bx x vM b T G2 H U2 (fun g => Ft g ∨ (w.heap.size ≤ g ∧ g < w'.heap.size)) Fr := by
 have ha := hc.alt
 have hbl := lt_of_block h.box
 obtain ⟨n1, n2, n3, n4, n5⟩ := h.ne
 refine ⟨h.ex.call hc, h.er.keep ha.sz fun g hg => ha.old g (h.er.ft g hg) (h.a1 g hg).1 (h.a1 g hg).2, h.rlo, (ha.old bx hbl n1 n2).trans h.box, h.xlo, h.a1, fun h9 => ?_, fun h9 => ?_, h.a4⟩
 ·rcases h9 with h9 | h9
  ·exact h.a2 h9
  ·have := h.er.ft b h.er.fb; omega
 ·rcases h9 with h9 | h9
  ·exact h.a3 h9
  ·omega
/-- The reference's is called. -/
theorem PM.callm (h : PM w0 w bx x vM b T G H U Ft Fr) (hc : CallR w w' b T Fr r err ch G2) : PM w0 w' bx x vM b T G G2 U Ft (fun g => Fr g ∨ (w.heap.size ≤ g ∧ g < w'.heap.size)) := by
 obtain ⟨v, _, _, he, ha⟩ := hc
 have hbl := lt_of_block h.box
 obtain ⟨n1, n2, n3, n4, n5⟩ := h.ne
 have hnil : ∀ g, (Value.slice none 0 0).ownBlock ≠ some g := fun g e => by simp [Value.ownBlock] at e
 have hk : ∀ g, g < w.heap.size → g ≠ b → w'.heap[g]? = w.heap[g]? := fun g h1 h2 => ha.old g h1 h2 (hnil g)
 refine ⟨⟨h.ex.e.keep ha.sz fun g hg => hk g (h.ex.e.ft g hg) fun e => h.a2 (e ▸ hg), h.ex.ris, h.ex.lo, h.ex.bel.trans (ha.low h.ex.bel.size (h.rlo b h.er.fb) fun g e => absurd e (hnil g))⟩, he, fun g hg => ?_, (hk bx hbl n5).trans h.box, h.xlo, fun g hg => ?_, h.a2, h.a3, fun h9 => ?_⟩
 ·have := h.ex.bel.size
  rcases hg with h9 | h9
  ·exact h.rlo g h9
  ·omega
 ·rcases hg with h9 | h9
  ·exact h.a1 g h9
  ·have h1 := h.ex.xhi.1
   exact ⟨by omega, fun e => by have := h.ex.xhi.2 g e; omega⟩
 ·rcases h9 with h9 | h9
  ·exact h.a4 h9
  ·omega
/-- A copy goes on; the old one is changed. -/
theorem PM.swap {w1 w2 : World} {y : Nat} {vN : Value} (h : PM w0 w bx x vM b T G H U Ft Fr) (hb : Below w.heap.size w w1) (hy : EngD w1 y vN T G (solveM T G) U (fun g => w.heap.size ≤ g ∧ g < w1.heap.size)) (hc : CallD w1 w2 x vM T Ft r err ch G2 U2) :
  PM w0 (w2.setCell ⟨bx, 0, none⟩ (.pointer (some ⟨y, 0, none⟩))) bx y vN b T G H U (fun g => w.heap.size ≤ g ∧ g < w1.heap.size) Fr := by
 have ha := hc.alt
 have hbl := lt_of_block h.box
 have hbs := hb.size
 obtain ⟨hY, hA1, hA2⟩ := h.ex.copy hb hy
 have h1 := h.ext hb
 have hY2 := h1.ex.beside hY hA2 ha
 have h2 := h1.callx hc
 have hs0 := h.ex.bel.size
 have hoth : ∀ g, g ≠ bx → (w2.setCell ⟨bx, 0, none⟩ (.pointer (some ⟨y, 0, none⟩))).heap[g]? = w2.heap[g]? := fun g hg => heap_setCell_other _ _ g _ hg
 have hsz : (w2.setCell ⟨bx, 0, none⟩ (.pointer (some ⟨y, 0, none⟩))).heap.size = w2.heap.size := by simp
 refine ⟨⟨hY2.e.keep (by omega) fun g hg => hoth g (by omega), hY2.ris, hY2.lo, hY2.bel.setCell h.xlo _⟩, h2.er.keep (by omega) fun g hg => hoth g fun e => h.a4 (e ▸ hg), h.rlo, ?_, h.xlo, fun g hg => ?_, fun h9 => ?_, fun h9 => ?_, h.a4⟩
 ·rw [heap_setCell_same w2 bx 0 _ _ _ h2.box]; rfl
 ·have k1 := h.er.ft g hg
  have k2 := hy.fx.1
  exact ⟨by omega, fun e => by have := (hy.fm g e).1.1; omega⟩
 ·have := h.er.ft b h.er.fb; omega
 ·omega
theorem PM.facts (h : PM w0 w bx x vM b T G H U Ft Fr) : ∃ vF vR vB vFa vN, (w.cell? ⟨b, 0, none⟩ = some (.int .i64 T.lits) ∧ w.cell? ⟨b, 1, none⟩ = some vF ∧ w.cell? ⟨b, 2, none⟩ = some vR ∧ w.cell? ⟨b, 3, none⟩ = some vB ∧ w.cell? ⟨b, 4, none⟩ = some vFa ∧ w.cell? ⟨b, 5, none⟩ = some vN) ∧ RdI w vFa H ∧ RdMk w vN (solveM T H) := by
 obtain ⟨vF, vR, vB, vFa, vN, _, c, ⟨_, h1, h2⟩, _⟩ := h.er.cells
 exact ⟨vF, vR, vB, vFa, vN, c, h1, h2⟩
end
end Go.Proofs.Lx
