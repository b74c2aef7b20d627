/- Parts of the proof: Wc, Wi, Wl, Wp, Wq. Contracts of fast.Counted, Run, Order. -/
import Derived.Test.YtalhpldbhogadaaGreatO34
import Derived.Laws.Rows
namespace Go.Proofs.Lx
open Go Go.RowKit Go.Proofs.Tj
set_option linter.unusedSimpArgs false
set_option linter.unusedVariables false
theorem results_tct {P : Program} {fn : Func} {t p u : Tmp} {ty : TypeId} (h : fn.results = #[.tmp t, .cell p ty, .tmp u]) (tmps : Array Value) (w : World) (g : Nat) (e : TypeId) (cs : Array Value) (fr : Nat × Nat) (d : TypeDesc)
  (hp : tmps.getD p undef = .pointer (some ⟨g, 0, none⟩)) (hg : w.heap[g]? = some (.cells cs e fr))
  (hu : P.underlying ty = some d) (hd : (match d with | .struct _ | .array _ _ => true | _ => false) = true) (hi : (P.info? ty).map (·.size) = some cs.size) :
  (results fn tmps).run P w = .ok (.tuple #[tmps.getD t undef, .agg cs, tmps.getD u undef]) w := by
 have hp' : tmps[p]?.getD undef = .pointer (some ⟨g, 0, none⟩) := by simpa using hp
 simp [results, h, hp', asAddr, run_loadVar_row w g e ty cs fr d hg hu hd hi]
theorem sizeCnt : (Tryz.prog.info? 58).map (·.size) = some 2 := by kernel_rfl
theorem cnt_set {w : World} {g : Nat} {e : TypeId} {x y : Value} (h : w.heap[g]? = some (.cells #[x, y] e (0, 0))) (a b : Value) : ((w.setCell ⟨g, 0, none⟩ a).setCell ⟨g, 1, none⟩ b).heap[g]? = some (.cells #[a, b] e (0, 0)) := by
 rw [heap_setCell_same _ _ 1 _ _ _ (heap_setCell_same _ _ 0 _ _ _ h)]; rfl
theorem cnt_far {w : World} {g k : Nat} (h : k ≠ g) (a b : Value) : ((w.setCell ⟨g, 0, none⟩ a).setCell ⟨g, 1, none⟩ b).heap[k]? = w.heap[k]? := by
 rw [heap_setCell_other _ _ k _ (by simpa using h), heap_setCell_other _ _ k _ (by simpa using h)]
theorem cnt_below {w w' : World} {k : Nat} (h : Below w.heap.size w w') (a b : Value) : Below w.heap.size w ((w'.setCell ⟨w.heap.size + k, 0, none⟩ a).setCell ⟨w.heap.size + k, 1, none⟩ b) :=
 (h.setCell (by dsimp only; omega) _).setCell (by dsimp only; omega) _
def CountPost (w : World) (T : Th) (l : List Int) (r : Value) (w' : World) : Prop :=
 ∃ v q u, r = .tuple #[v, .agg #[.int .i64 q, .int .i64 u], .int .i64 (givenErr T l)] ∧ (givenErr T l = 0 → w'.ownsRow w.heap.size 77 1 v (solveM T l).length (marksV (solveM T l)) ∧ q = (totalN (solveM T l) : Int) ∧ ∃ S D, FEnd T (l.map Int.toNat) S D ∧ u = D.upd) ∧ (givenErr T l ≠ 0 → v = .slice none 0 0 ∧ q = 0 ∧ u = 0) ∧ Below w.heap.size w w'
set_option maxHeartbeats 1600000 in
theorem fcounted_any (w : World) (V vl : Value) (T : Th) (l : List Int) (hT : RdTh w V T) (hl : RdI w vl l) :
  Calls Tryz.prog 6 #[V, vl] w (Ret (CountPost w T l)) := by
 have HT := hid hT
 have Hl := hid hl
 obtain ⟨vF, vR, vB, rfl, hF, hR, hB⟩ := hT
 obtain ⟨AL, cL, rfl, _⟩ := hl
 generalize l.length = nl at *
 have hA := allocs [.cells #[.int .i64 T.lits, vF, vR, vB] 25, .cells #[.int .i64 0, .int .i64 0] 58, .cells #[.slice AL nl cL] 26] w
 obtain ⟨W1, HW1⟩ : ∃ W1, Hid (W1 = ((w.alloc (.cells #[.int .i64 T.lits, vF, vR, vB] 25)).alloc (.cells #[.int .i64 0, .int .i64 0] 58)).alloc (.cells #[.slice AL nl cL] 26)) := ⟨_, hid rfl⟩
 have e1 : [Obj.cells #[.int .i64 T.lits, vF, vR, vB] 25, .cells #[.int .i64 0, .int .i64 0] 58, .cells #[.slice AL nl cL] 26].foldl World.alloc w = W1 := HW1.out.symm
 rw [e1] at hA
 obtain ⟨hsz, hat, hbel⟩ := hA
 have hsz : W1.heap.size = w.heap.size + 3 := hsz
 have e33 : w.heap.size + 3 = w.heap.size + 1 + 1 + 1 := rfl
 have hg := fgiven_any W1 (.agg #[.int .i64 T.lits, vF, vR, vB]) (.slice (some ⟨w.heap.size + 1 + 1, 0, none⟩) 1 1) T [l] (HT.out.ext hbel) (rd_row1 (hat 2 _ rfl) (Hl.out.ext (scR_mono _) hbel))
 rw [givenErrs_one] at hg
 have Hg := hid hg
 have Hrun : Hid (givenErr T l = 0 → ∀ W, Below W1.heap.size W1 W → Calls Tryz.prog 17 #[.agg #[.int .i64 T.lits, vF, vR, vB], .slice AL nl cL] W (Ret (RunRes W T l))) := hid fun h W hb => frun_any W _ _ T l (HT.out.ext (ext_trans hbel hb)) (Hl.out.ext (scR_mono _) (ext_trans hbel hb)) (givenErr_ok.1 h).1 (givenErr_ok.1 h).2
 have Hbox : Hid (∀ W, Below W1.heap.size W1 W → W.cell? ⟨w.heap.size, 0, none⟩ = some (.int .i64 T.lits) ∧ W.cell? ⟨w.heap.size, 1, none⟩ = some vF ∧ W.cell? ⟨w.heap.size, 2, none⟩ = some vR ∧ W.cell? ⟨w.heap.size, 3, none⟩ = some vB) := hid fun W hb => by
  have h0 : W.heap[w.heap.size]? = some (.cells #[.int .i64 T.lits, vF, vR, vB] 25 (0, 0)) := (hb.block _ (by omega)).trans (hat 0 _ rfl)
  exact ⟨cell_of_row _ _ 0 _ _ _ h0, cell_of_row _ _ 1 _ _ _ h0, cell_of_row _ _ 2 _ _ _ h0, cell_of_row _ _ 3 _ _ _ h0⟩
 have Hcnt : Hid (∀ W, Below W1.heap.size W1 W → W.heap[w.heap.size + 1]? = some (.cells #[.int .i64 0, .int .i64 0] 58 (0, 0))) := hid fun W hb => (hb.block _ (by omega)).trans (hat 1 _ rfl)
 have Hsz := hid hsz
 have Hbel := hid hbel
 clear hF hR hB hg hat hsz hbel e1
 unfold CountPost
 obtain ⟨c, Hc⟩ : ∃ c, Hid (givenErr T l = c) := ⟨_, hid rfl⟩
 rw [Hc.out] at Hg Hrun ⊢
 refine post_gen fun Q HQ => ?_
 go_enter Tryz.func6, Tryz.ntmps6
 go_wp2_with fail
 rw [← HW1.out]
 refine Hg.out.mono ?_
 rintro e w2 ⟨_, rfl, rfl, hb2⟩
 have hcn := Hcnt.out w2 hb2
 have f0 := frozen_of_row _ _ 0 _ _ hcn
 have f1 := frozen_of_row _ _ 1 _ _ hcn
 have d0 : w2.cell? ⟨w.heap.size + 1, 0, none⟩ = some (.int .i64 0) := cell_of_row _ _ 0 _ _ _ hcn
 have d1 : w2.cell? ⟨w.heap.size + 1, 1, none⟩ = some (.int .i64 0) := cell_of_row _ _ 1 _ _ _ hcn
 have Hb2 := hid hb2
 by_cases h : c = 0
 ·subst h
  clear hcn f0 f1 d0 d1
  obtain ⟨b0, b1, b2, b3⟩ := Hbox.out w2 hb2
  have hq := hid (Hrun.out rfl w2 hb2)
  clear hb2
  go_wp2_with fail
  refine hq.out.mono ?_
  rintro e w3 ⟨_, rfl, hres⟩
  obtain ⟨b, D, vM, vT, rfl, he, hfr, S, hfe⟩ := hres.flat
  have hb3 := ext_trans Hb2.out he.bel
  have hcn := Hcnt.out w3 hb3
  have f0 := frozen_of_row _ _ 0 _ _ hcn
  have f1 := frozen_of_row _ _ 1 _ _ hcn
  have d0 : w3.cell? ⟨w.heap.size + 1, 0, none⟩ = some (.int .i64 0) := cell_of_row _ _ 0 _ _ _ hcn
  have d1 : w3.cell? ⟨w.heap.size + 1, 1, none⟩ = some (.int .i64 0) := cell_of_row _ _ 1 _ _ _ hcn
  have Hcn := hid hcn
  have Hb3 := hid hb3
  clear hb3 hcn
  have c4 := he.c4
  have c7 := he.c7
  have c8 := he.c8
  have He := hid he
  have Hfr := hid hfr
  have Hfe := hid hfe
  clear hres he hfr hfe hq
  go_wp2_with fail
  go_region
  go_wp2_with fail
  refine bodyPost_ret (results_tct rfl _ _ (w.heap.size + 1) 58 #[.int .i64 D.queued, .int .i64 D.upd] (0, 0) _ rfl ?_ Tryz.underlying58 rfl sizeCnt) rfl ?_
  ·exact cnt_set (w := w3.drew) Hcn.out _ _
  refine Fin HQ ⟨_, _, _, rfl, fun _ => ⟨?_, Hfr.out.qd, S, D, Hfe.out, rfl⟩, fun k => absurd rfl k, ?_⟩
  ·rw [solve_length]
   refine own_lower (own_heap He.out.mo fun g h1 h2 => ?_) (ext_trans Hbel.out Hb2.out).size
   have := Hb2.out.size
   have := Hsz.out
   exact cnt_far (w := w3.drew) (by omega) _ _
  ·exact cnt_below (ext_trans Hbel.out Hb3.out).drew _ _
 ·have hne : (c != 0) = true := by simp [h]
  have Hne := hid h
  clear h hb2
  go_wp2_with fail
  refine bodyPost_ret (results_tct rfl _ _ (w.heap.size + 1) 58 #[.int .i64 0, .int .i64 0] (0, 0) _ rfl ?_ Tryz.underlying58 rfl sizeCnt) rfl ?_
  ·exact cnt_set (w := w2) (Hcnt.out w2 Hb2.out) _ _
  refine Fin HQ ⟨_, _, _, rfl, fun k => absurd k Hne.out, fun _ => ⟨rfl, rfl, rfl⟩, ?_⟩
  exact cnt_below (ext_trans Hbel.out Hb2.out) _ _
def FRunPost (w : World) (T : Th) (l : List Int) (r : Value) (w' : World) : Prop :=
 ∃ v, r = .tuple #[v, .int .i64 (givenErr T l)] ∧ (givenErr T l = 0 → w'.ownsRow w.heap.size 77 1 v (solveM T l).length (marksV (solveM T l))) ∧ (givenErr T l ≠ 0 → v = .slice none 0 0) ∧ Below w.heap.size w w'
set_option maxHeartbeats 1600000 in
theorem frunTop_any (w : World) (V vl : Value) (T : Th) (l : List Int) (hT : RdTh w V T) (hl : RdI w vl l) :
  Calls Tryz.prog 5 #[V, vl] w (Ret (FRunPost w T l)) := by
 have HT := hid hT
 obtain ⟨vF, vR, vB, rfl, hF, hR, hB⟩ := hT
 have hbel := ext_alloc w (.cells #[.int .i64 T.lits, vF, vR, vB] 25)
 have hch := hid (fcounted_any (w.alloc (.cells #[.int .i64 T.lits, vF, vR, vB] 25)) _ vl T l (HT.out.ext hbel) (hl.ext (scR_mono _) hbel))
 clear hF hR hB
 unfold FRunPost
 unfold CountPost at hch
 obtain ⟨c, Hc⟩ : ∃ c, Hid (givenErr T l = c) := ⟨_, hid rfl⟩
 rw [Hc.out] at hch ⊢
 refine post_gen fun Q HQ => ?_
 go_enter Tryz.func5, Tryz.ntmps5
 go_wp2_with fail
 refine hch.out.mono ?_
 rintro e w2 ⟨_, rfl, v, q, u, rfl, h1, h2, hb2⟩
 have H1 := hid h1
 have H2 := hid h2
 clear h1 h2
 go_wp2_with fail
 go_ret2
 exact Fin HQ ⟨v, rfl, fun h => own_ext (own_lower (H1.out h).1 hbel.size) (ext_alloc _ _), fun h => (H2.out h).1, ext_trans hbel (ext_trans hb2 (ext_alloc _ _))⟩
theorem num16_any (x : Int) (w : World) : Calls Tryz.prog 15 #[.int .i64 x] w (Ret fun v w' => v = .int .i64 x ∧ w' = w) := by
 refine post_gen fun Q HQ => ?_
 go_enter Tryz.func15, Tryz.ntmps15
 go_wp2
 go_ret
 exact Fin HQ ⟨rfl, rfl⟩
/-- Marks that read as X, and an error. -/
def MkPost (w : World) (X : List Nat) (c : Int) (r : Value) (w' : World) : Prop := ∃ v, r = .tuple #[v, .int .i64 c] ∧ RdMk w' v X ∧ Below w.heap.size w w'
noncomputable def solX (T : Th) (l : List Int) : List Nat := if givenErr T l = 0 then solveM T l else []
theorem FRunPost.marks {w w' : World} {T : Th} {l : List Int} {r : Value} (h : FRunPost w T l r w') : MkPost w (solX T l) (givenErr T l) r w' := by
 obtain ⟨v, rfl, h1, h2, hb⟩ := h
 refine ⟨v, rfl, ?_, hb⟩
 unfold solX
 by_cases hc : givenErr T l = 0
 ·rw [if_pos hc]
  obtain ⟨hwf, hr⟩ := givenErr_ok.1 hc
  exact own_marks (h1 hc) (by rw [solve_length]; have := hwf.fl; have := hwf.l1; omega)
 ·rw [if_neg hc, h2 hc]; exact Rd.nil
theorem solX_le {T : Th} {l : List Int} : (solX T l).length ≤ 4096 := by
 unfold solX
 split
 ·next h => rw [solve_length]; have := (givenErr_ok.1 h).1.fl; have := (givenErr_ok.1 h).1.l1; omega
 ·simp
theorem solve_lt (T : Th) (l : List Int) : ∀ x ∈ solveM T l, x < 256 := it_lt T l _
theorem solX_lt {T : Th} {l : List Int} : ∀ x ∈ solX T l, x < 256 := by
 unfold solX
 split
 ·exact solve_lt T l
 ·intro x hx; cases hx
def CountFlat (w : World) (X : List Nat) (c : Int) (r : Value) (w' : World) : Prop := ∃ v u, r = .tuple #[v, .agg #[.int .i64 (totalN X : Int), .int .i64 u], .int .i64 c] ∧ RdMk w' v X ∧ (c ≠ 0 → u = 0) ∧ Below w.heap.size w w'
theorem CountPost.flat {w w' : World} {T : Th} {l : List Int} {r : Value} (h : CountPost w T l r w') : CountFlat w (solX T l) (givenErr T l) r w' := by
 obtain ⟨v, q, u, rfl, h1, h2, hb⟩ := h
 have hle := @solX_le T l
 unfold solX at *
 by_cases hc : givenErr T l = 0
 ·rw [if_pos hc] at *
  obtain ⟨o, rfl, _⟩ := h1 hc
  exact ⟨v, u, rfl, own_marks o (by omega), fun k => absurd hc k, hb⟩
 ·rw [if_neg hc]
  obtain ⟨rfl, rfl, rfl⟩ := h2 hc
  exact ⟨_, _, rfl, Rd.nil, fun _ => rfl, hb⟩
end Go.Proofs.Lx

namespace Go.Proofs.Lx
open Go Go.RowKit Go.Proofs.Tj
set_option linter.unusedSimpArgs false
set_option linter.unusedVariables false
def pairR : World → Nat × Nat → List Value → Prop := fun _ x cs => cs = [.int .i64 (x.1 : Int), .int .i64 (x.2 : Int)]
theorem pairR_mono : MonoR pairR := fun _ _ _ _ _ h => h
abbrev RdPr := Rd 2 pairR
theorem RdC.atPair {w : World} {A : Option Addr} {L : List (Nat × Nat)} (h : RdC 2 pairR w A L) {k q t : Nat} (hk : L[k]? = some (q, t)) : ∃ ad, A = some ad ∧ w.cell? (ad.add (k * 2)) = some (.int .i64 (q : Int)) ∧ w.cell? ⟨(ad.add (k * 2)).block, (ad.add (k * 2)).off + 1, none⟩ = some (.int .i64 (t : Int)) := by
 obtain ⟨hlt, e⟩ := List.getElem?_eq_some_iff.1 hk
 obtain ⟨ad, cs, hA, rfl, hl, hc⟩ := h k hlt
 rw [e] at hc
 have c0 := hc 0 _ rfl
 have c1 := hc 1 _ rfl
 rw [Nat.add_zero] at c0
 rw [add_field _ _ _ (by omega)] at c1
 exact ⟨ad, hA, c0, c1⟩
theorem own_pairs {w : World} {base eI : Nat} {v : Value} {L : List (Nat × Nat)} (h : w.ownsRow base eI 2 v L.length (toldV L)) (hl : L.length ≤ 140737488355328) : RdPr w v L := by
 rcases h.2 with ⟨rfl, h0⟩ | ⟨gg, cap, cur, rfl, _, _, hc, _⟩
 ·exact ⟨none, 0, by rw [h0], by omega, hl, fun i hi => absurd hi (by omega)⟩
 ·refine ⟨_, cap, rfl, hc, hl, fun i hi => ⟨_, _, rfl, rfl, rfl, fun j u hu => ?_⟩⟩
  obtain ⟨e0, e1⟩ := toldV_at L i _ _ (List.getElem?_eq_getElem hi)
  have hcl := fun k x hx => h.cells (g := gg) rfl k x hx
  match j, hu with
  | 0, hu =>
   simp at hu; subst hu
   have := hcl (2 * i) _ e0
   rwa [show i * 2 + 0 = 2 * i by omega]
  | 1, hu =>
   simp at hu; subst hu
   have := hcl (2 * i + 1) _ e1
   rwa [show i * 2 + 1 = 2 * i + 1 by omega]
def OrderPost (w : World) (T : Th) (l : List Int) (r : Value) (w' : World) : Prop :=
 ∃ v, r = .tuple #[v, .int .i64 (givenErr T l)] ∧ (givenErr T l = 0 → ∃ D, FRes T l D ∧ w'.ownsRow w.heap.size 98 2 v D.told.length (toldV D.told)) ∧ (givenErr T l ≠ 0 → v = .slice none 0 0) ∧ Below w.heap.size w w'
set_option maxHeartbeats 1600000 in
theorem forder_any (w : World) (V vl : Value) (T : Th) (l : List Int) (hT : RdTh w V T) (hl : RdI w vl l) :
  Calls Tryz.prog 7 #[V, vl] w (Ret (OrderPost w T l)) := by
 have HT := hid hT
 have Hl := hid hl
 obtain ⟨vF, vR, vB, rfl, hF, hR, hB⟩ := hT
 obtain ⟨AL, cL, rfl, _⟩ := hl
 generalize l.length = nl at *
 have hA := allocs [.cells #[.int .i64 T.lits, vF, vR, vB] 25, .cells #[.slice AL nl cL] 26] w
 obtain ⟨W1, HW1⟩ : ∃ W1, Hid (W1 = (w.alloc (.cells #[.int .i64 T.lits, vF, vR, vB] 25)).alloc (.cells #[.slice AL nl cL] 26)) := ⟨_, hid rfl⟩
 have e1 : [Obj.cells #[.int .i64 T.lits, vF, vR, vB] 25, .cells #[.slice AL nl cL] 26].foldl World.alloc w = W1 := HW1.out.symm
 rw [e1] at hA
 obtain ⟨hsz, hat, hbel⟩ := hA
 have hsz : W1.heap.size = w.heap.size + 2 := hsz
 have hg := fgiven_any W1 (.agg #[.int .i64 T.lits, vF, vR, vB]) (.slice (some ⟨w.heap.size + 1, 0, none⟩) 1 1) T [l] (HT.out.ext hbel) (rd_row1 (hat 1 _ rfl) (Hl.out.ext (scR_mono _) hbel))
 rw [givenErrs_one] at hg
 have Hg := hid hg
 have Hrun : Hid (givenErr T l = 0 → ∀ W, Below W1.heap.size W1 W → Calls Tryz.prog 17 #[.agg #[.int .i64 T.lits, vF, vR, vB], .slice AL nl cL] W (Ret (RunRes W T l))) := hid fun h W hb => frun_any W _ _ T l (HT.out.ext (ext_trans hbel hb)) (Hl.out.ext (scR_mono _) (ext_trans hbel hb)) (givenErr_ok.1 h).1 (givenErr_ok.1 h).2
 have Hbox : Hid (∀ W, Below W1.heap.size W1 W → W.cell? ⟨w.heap.size, 0, none⟩ = some (.int .i64 T.lits) ∧ W.cell? ⟨w.heap.size, 1, none⟩ = some vF ∧ W.cell? ⟨w.heap.size, 2, none⟩ = some vR ∧ W.cell? ⟨w.heap.size, 3, none⟩ = some vB) := hid fun W hb => by
  have h0 : W.heap[w.heap.size]? = some (.cells #[.int .i64 T.lits, vF, vR, vB] 25 (0, 0)) := (hb.block _ (by omega)).trans (hat 0 _ rfl)
  exact ⟨cell_of_row _ _ 0 _ _ _ h0, cell_of_row _ _ 1 _ _ _ h0, cell_of_row _ _ 2 _ _ _ h0, cell_of_row _ _ 3 _ _ _ h0⟩
 have Hbel := hid hbel
 clear hF hR hB hg hat hsz hbel e1
 unfold OrderPost
 obtain ⟨c, Hc⟩ : ∃ c, Hid (givenErr T l = c) := ⟨_, hid rfl⟩
 rw [Hc.out] at Hg Hrun ⊢
 refine post_gen fun Q HQ => ?_
 go_enter Tryz.func7, Tryz.ntmps7
 go_wp2_with fail
 rw [← HW1.out]
 refine Hg.out.mono ?_
 rintro e w2 ⟨_, rfl, rfl, hb2⟩
 have Hb2 := hid hb2
 by_cases h : c = 0
 ·subst h
  obtain ⟨b0, b1, b2, b3⟩ := Hbox.out w2 hb2
  have hq := hid (Hrun.out rfl w2 hb2)
  clear hb2
  go_wp2_with fail
  refine hq.out.mono ?_
  rintro e w3 ⟨_, rfl, hres⟩
  obtain ⟨b, D, vM, vT, rfl, he, hfr, S, hfe⟩ := hres.flat
  have hb3 := hid (ext_trans Hb2.out he.bel)
  have c5 := he.c5
  have He := hid he
  have Hfr := hid hfr
  clear hres he hfr hfe hq
  go_wp2_with fail
  go_ret2
  exact Fin HQ ⟨_, rfl, fun _ => ⟨D, Hfr.out, own_lower He.out.tow (ext_trans Hbel.out Hb2.out).size⟩, fun k => absurd rfl k, ext_trans Hbel.out hb3.out⟩
 ·have hne : (c != 0) = true := by simp [h]
  have Hne := hid h
  clear h hb2
  go_wp2_with fail
  go_ret2
  exact Fin HQ ⟨_, rfl, fun k => absurd k Hne.out, fun _ => rfl, ext_trans Hbel.out Hb2.out⟩
end Go.Proofs.Lx

namespace Go.Proofs.Lx
open Go Go.RowKit Go.Proofs.Tj
set_option linter.unusedSimpArgs false
set_option linter.unusedVariables false
def pickL (p : Nat → Bool) (k : Nat) : List Int := ((List.range k).filter p).map fun (q : Nat) => (q : Int)
theorem pickL_succ (p : Nat → Bool) (k : Nat) : pickL p (k + 1) = pickL p k ++ if p k = true then [(k : Int)] else [] := by
 unfold pickL
 rw [List.range_succ, List.filter_append, List.map_append]
 congr 1
 cases h : p k <;> simp [h]
theorem pickL_le (p : Nat → Bool) (k : Nat) : (pickL p k).length ≤ k := by
 unfold pickL
 rw [List.length_map]
 have := List.length_filter_le p (List.range k)
 rwa [List.length_range] at this
theorem pickL_congr {p p' : Nat → Bool} {k : Nat} (h : ∀ q, q < k → p q = p' q) : pickL p k = pickL p' k := by
 unfold pickL
 rw [List.filter_congr fun q hq => h q (List.mem_range.1 hq)]
set_option maxHeartbeats 800000 in
theorem chosen_any (w : World) (n : Nat) (g : Nat) (caps : Array Value) (p : Nat → Bool) (hg : Enters Tryz.prog g) (hn : n ≤ 4096)
  (hf : ∀ q : Nat, q < n → ∀ w1, Below w.heap.size w w1 → Calls Tryz.prog g ((#[Value.int .i64 (q : Int)] : Array Value) ++ caps) w1 (Ret fun v w2 => v = .bool (p q) ∧ Below w1.heap.size w1 w2)) :
  Calls Tryz.prog 18 #[.int .i64 (n : Int), .func (.func g) #[] caps] w (Ret fun v w' => w'.ownsRow w.heap.size 3 1 v (pickL p n).length (intsV (pickL p n)) ∧ Below w.heap.size w w') := by
 have hgo : ∀ args w, (callFunc g args).run Tryz.prog w = .ok (.enter g args) w := hg
 obtain ⟨i0, hi, hz0, hz1, hz2⟩ := info_parts infoI
 have Hf := hid hf
 clear hf
 have Hs := hid (pickL_succ p)
 have Hle := hid (pickL_le p)
 have H0 : Hid (pickL p 0 = []) := hid rfl
 refine post_gen fun Q HQ => ?_
 go_enter Tryz.func18, Tryz.ntmps18
 go_wp2
 go_loopw [5, 8] (fun v5 v8 wr => ∃ k : Nat, k ≤ n ∧ v8 = .int .i64 k ∧ wr.ownsRow w.heap.size 3 1 v5 (pickL p k).length (intsV (pickL p k)) ∧ Below w.heap.size w wr) (fun _ v8 _ => n - (intOf v8).toNat)
 case atStart => exact ⟨0, Nat.zero_le _, rfl, by simpa [intsV, pickL] using World.ownsRow_nil _ _ _ _, ext_refl _⟩
 case round =>
  obtain ⟨k, hk, rfl, hown, hbl⟩ := hrel
  by_cases hlt : k < n
  ·have hfk := hid (Hf.out k hlt wr hbl)
   have hs := Hs.out k
   have hle := Hle.out k
   have Hown := hid hown
   clear hown
   go_wp2_with fail
   refine hfk.out.mono ?_
   rintro e w2 ⟨_, rfl, rfl, hb2⟩
   have hb12 := ext_trans hbl hb2
   have Hown2 := hid (own_ext Hown.out hb2)
   have hsz := hb12.size
   cases hp : p k with
   | true =>
    rw [hp, if_pos rfl] at hs
    have HS := hid hs
    generalize hL : pickL p k = L at *
    clear hL hp hs hfk
    go_wp2_with (at_builtin; refine wpList_append_own _ rfl _ _ 26 rfl w.heap.size 3 i0 (.int .i64 0) 1 8 Tryz.underlying26 hi hz0 hz1 hz2 rfl (by decide) _ L.length _ rfl (Hown2.out.alloc _) ⟨w2.heap.size, 0, none⟩ 1 1 [.int .i64 (k : Int)] rfl rfl (cell_one_new _ _ _) (fun u hu => by simp at hu; subst hu; rfl) (by unfold maxLen; omega) (by omega) (by simp; omega) ?_; intro v' w3 hown' hgrow3 hnil3)
    go_roundw
    case rel =>
     refine ⟨k + 1, by omega, by go_num, ?_, ?_⟩
     ·rw [HS.out, List.length_append, List.length_singleton]
      simpa [intsV] using hown'
     ·exact below_grown (hb12.alloc hsz _) (by simp; omega) hgrow3 (fun g e => (Hown2.out.lt g e).1)
    case measure => simp [intOf]; omega
   | false =>
    rw [hp, if_neg Bool.false_ne_true, List.append_nil] at hs
    have HS := hid hs
    clear hp hs hfk
    go_wp2_with fail
    go_roundw
    case rel =>
     refine ⟨k + 1, by omega, by go_num, ?_, hb12⟩
     rw [HS.out]; exact Hown2.out
    case measure => simp [intOf]; omega
  ·obtain rfl : k = n := by omega
   go_wp2
   go_ret
   exact Fin HQ ⟨hown, hbl⟩
theorem enters_set1 : Enters Tryz.prog 19 := enters_of Tryz.func19 (by kernel_rfl) (by kernel_rfl)
theorem enters_und1 : Enters Tryz.prog 21 := enters_of Tryz.func21 (by kernel_rfl) (by kernel_rfl)
theorem enters_dif1 : Enters Tryz.prog 22 := enters_of Tryz.func22 (by kernel_rfl) (by kernel_rfl)
theorem set1_any (W W0 : World) (G : Gh) (S : Stc) (T : Th) (D : Dyn) (h : Eng W W0 G S T D) (p1 p2 q tag : Nat) (hq : q < S.n) (h1 : 1 ≤ tag) (h4 : tag ≤ 4) (hx : D.marks q < 16) (hc1 : W.cell? ⟨p1, 0, none⟩ = some (.pointer (some ⟨G.b, 0, none⟩))) (hc2 : W.cell? ⟨p2, 0, none⟩ = some (.int .i64 (tag : Int))) :
  Calls Tryz.prog 19 ((#[Value.int .i64 (q : Int)] : Array Value) ++ #[.pointer (some ⟨p1, 0, none⟩), .pointer (some ⟨p2, 0, none⟩)]) W (Ret fun v w2 => v = .bool (hasT D q tag) ∧ Below W.heap.size W w2) := by
 have Hh := hid (ehas_any W W0 G S T D h q tag hq h1 h4 hx)
 clear h
 generalize hasT D q tag = B at *
 refine post_gen fun Q HQ => ?_
 go_enter Tryz.func19, Tryz.ntmps19
 go_wp2_with (go_at_call 20; refine Hh.out.mono ?_; rintro e w' ⟨_, rfl, rfl, rfl⟩)
 go_ret
 exact Fin HQ ⟨rfl, ext_refl _⟩
theorem und1_any (W W0 : World) (G : Gh) (S : Stc) (T : Th) (D : Dyn) (h : Eng W W0 G S T D) (p1 q : Nat) (hq : q < S.n) (hx : D.marks q < 16) (hc1 : W.cell? ⟨p1, 0, none⟩ = some (.pointer (some ⟨G.b, 0, none⟩))) :
  Calls Tryz.prog 21 ((#[Value.int .i64 (q : Int)] : Array Value) ++ #[.pointer (some ⟨p1, 0, none⟩)]) W (Ret fun v w2 => v = .bool (!hasT D q 3 && !hasT D q 4) ∧ Below W.heap.size W w2) := by
 have H3 := hid (ehas_any W W0 G S T D h q 3 hq (by omega) (by omega) hx)
 have H4 := hid (ehas_any W W0 G S T D h q 4 hq (by omega) (by omega) hx)
 clear h
 generalize hasT D q 3 = B at *
 generalize hasT D q 4 = C at *
 refine post_gen fun Q HQ => ?_
 cases B with
 | true =>
  go_enter Tryz.func21, Tryz.ntmps21
  go_wp2_with (go_at_call 20; refine H3.out.mono ?_; rintro e w' ⟨_, rfl, rfl, rfl⟩)
  go_ret
  exact Fin HQ ⟨rfl, ext_refl _⟩
 | false =>
  go_enter Tryz.func21, Tryz.ntmps21
  go_wp2_with fail
  refine H3.out.mono ?_
  rintro e w' ⟨_, rfl, rfl, rfl⟩
  go_wp2_with fail
  refine H4.out.mono ?_
  rintro e w' ⟨_, rfl, rfl, rfl⟩
  go_wp2_with fail
  go_ret
  exact Fin HQ ⟨rfl, ext_refl _⟩
end Go.Proofs.Lx

namespace Go.Proofs.Lx
open Go Go.RowKit Go.Proofs.Tj
set_option linter.unusedSimpArgs false
set_option linter.unusedVariables false
theorem FRes.hasM {T : Th} {l : List Int} {D : Dyn} (h : FRes T l D) {q k : Nat} (hq : q < T.foes.length) : Lx.hasM (solveM T l) k (q : Int) = (D.marks q).testBit k := by
 unfold Lx.hasM
 rw [Int.toNat_natCast, ← h.mks, List.getD_eq_getElem?_getD, List.getElem?_eq_getElem (by simpa using hq), Option.getD_some, List.getElem_map, List.getElem_range]
/-- A list of numbers, the call's own, and an error. -/
def IntsPost (w : World) (L : List Int) (c : Int) (r : Value) (w' : World) : Prop := ∃ v, r = .tuple #[v, .int .i64 c] ∧ w'.ownsRow w.heap.size 3 1 v L.length (intsV L) ∧ Below w.heap.size w w'
noncomputable def tagErr (T : Th) (l : List Int) (tag : Int) : Int := if givenErr T l = 0 then (if tag < 1 ∨ 4 < tag then 1 else 0) else givenErr T l
noncomputable def setL (T : Th) (l : List Int) (tag : Int) : List Int := if tagErr T l tag = 0 then pickL (fun q => hasM (solveM T l) (tag.toNat - 1) (q : Int)) T.foes.length else []
noncomputable def undL (T : Th) (l : List Int) : List Int := if givenErr T l = 0 then pickL (fun q => !hasM (solveM T l) 2 (q : Int) && !hasM (solveM T l) 3 (q : Int)) T.foes.length else []
set_option maxHeartbeats 1600000 in
theorem fset_any (w : World) (V vl : Value) (T : Th) (l : List Int) (tag : Int) (hT : RdTh w V T) (hl : RdI w vl l) :
  Calls Tryz.prog 8 #[V, vl, .int .i64 tag] w (Ret (IntsPost w (setL T l tag) (tagErr T l tag))) := by
 have HT := hid hT
 have Hl := hid hl
 obtain ⟨vF, vR, vB, rfl, hF, hR, hB⟩ := hT
 obtain ⟨AL, cL, rfl, _⟩ := hl
 generalize l.length = nl at *
 have hA := allocs [.cells #[.int .i64 T.lits, vF, vR, vB] 25, .cells #[.int .i64 tag] 66, .cells #[.slice AL nl cL] 26] w
 obtain ⟨W1, HW1⟩ : ∃ W1, Hid (W1 = ((w.alloc (.cells #[.int .i64 T.lits, vF, vR, vB] 25)).alloc (.cells #[.int .i64 tag] 66)).alloc (.cells #[.slice AL nl cL] 26)) := ⟨_, hid rfl⟩
 have e1 : [Obj.cells #[.int .i64 T.lits, vF, vR, vB] 25, .cells #[.int .i64 tag] 66, .cells #[.slice AL nl cL] 26].foldl World.alloc w = W1 := HW1.out.symm
 rw [e1] at hA
 obtain ⟨hsz, hat, hbel⟩ := hA
 have hsz : W1.heap.size = w.heap.size + 3 := hsz
 have hg := fgiven_any W1 (.agg #[.int .i64 T.lits, vF, vR, vB]) (.slice (some ⟨w.heap.size + 1 + 1, 0, none⟩) 1 1) T [l] (HT.out.ext hbel) (rd_row1 (hat 2 _ rfl) (Hl.out.ext (scR_mono _) hbel))
 rw [givenErrs_one] at hg
 have Hg := hid hg
 have Hrun : Hid (givenErr T l = 0 → ∀ W, Below W1.heap.size W1 W → Calls Tryz.prog 17 #[.agg #[.int .i64 T.lits, vF, vR, vB], .slice AL nl cL] W (Ret (RunRes W T l))) := hid fun h W hb => frun_any W _ _ T l (HT.out.ext (ext_trans hbel hb)) (Hl.out.ext (scR_mono _) (ext_trans hbel hb)) (givenErr_ok.1 h).1 (givenErr_ok.1 h).2
 have Hbox : Hid (∀ W, Below W1.heap.size W1 W → W.cell? ⟨w.heap.size, 0, none⟩ = some (.int .i64 T.lits) ∧ W.cell? ⟨w.heap.size, 1, none⟩ = some vF ∧ W.cell? ⟨w.heap.size, 2, none⟩ = some vR ∧ W.cell? ⟨w.heap.size, 3, none⟩ = some vB ∧ W.cell? ⟨w.heap.size + 1, 0, none⟩ = some (.int .i64 tag)) := hid fun W hb => by
  have h0 : W.heap[w.heap.size]? = some (.cells #[.int .i64 T.lits, vF, vR, vB] 25 (0, 0)) := (hb.block _ (by omega)).trans (hat 0 _ rfl)
  have h1 : W.heap[w.heap.size + 1]? = some (.cells #[.int .i64 tag] 66 (0, 0)) := (hb.block _ (by omega)).trans (hat 1 _ rfl)
  exact ⟨cell_of_row _ _ 0 _ _ _ h0, cell_of_row _ _ 1 _ _ _ h0, cell_of_row _ _ 2 _ _ _ h0, cell_of_row _ _ 3 _ _ _ h0, cell_of_row _ _ 0 _ _ _ h1⟩
 have Hbel := hid hbel
 have Hok := hid (@givenErr_ok T l)
 clear hF hR hB hg hat hsz hbel e1
 unfold IntsPost
 have He : Hid (∀ c, givenErr T l = c → tagErr T l tag = if c = 0 then (if tag < 1 ∨ 4 < tag then 1 else 0) else c) := hid fun c hc => by unfold tagErr; rw [hc]
 have HL0 : Hid (tagErr T l tag ≠ 0 → setL T l tag = []) := hid fun h => by unfold setL; rw [if_neg h]
 have HL1 : Hid (tagErr T l tag = 0 → setL T l tag = pickL (fun q => hasM (solveM T l) (tag.toNat - 1) (q : Int)) T.foes.length) := hid fun h => by unfold setL; rw [if_pos h]
 obtain ⟨c, Hc⟩ : ∃ c, Hid (givenErr T l = c) := ⟨_, hid rfl⟩
 have he := He.out c Hc.out
 rw [Hc.out] at Hg Hrun Hok
 have hnil : ∀ W : World, W.ownsRow w.heap.size 3 1 (.slice none 0 0) ([] : List Int).length (intsV []) := fun W => by simpa [intsV] using World.ownsRow_nil _ _ _ _
 have Hnil := hid hnil
 clear hnil
 refine post_gen fun Q HQ => ?_
 go_enter Tryz.func8, Tryz.ntmps8
 go_wp2_with fail
 rw [← HW1.out]
 refine Hg.out.mono ?_
 rintro e w2 ⟨_, rfl, rfl, hb2⟩
 have Hb2 := hid hb2
 by_cases h : c = 0
 ·subst h
  rw [if_pos rfl] at he
  obtain ⟨b0, b1, b2, b3, b4⟩ := Hbox.out w2 hb2
  by_cases ht : tag < 1 ∨ 4 < tag
  ·rw [if_pos ht] at he
   have hL := HL0.out (by rw [he]; decide)
   rw [he, hL] at HQ
   have HE := hid he
   have HLL := hid hL
   clear he hL
   rcases ht with ht | ht
   ·go_wp2_with fail
    go_ret2
    exact Fin HQ ⟨_, rfl, Hnil.out _, ext_trans Hbel.out Hb2.out⟩
   ·by_cases ht1 : tag < 1
    ·omega
    go_wp2_with fail
    go_ret2
    exact Fin HQ ⟨_, rfl, Hnil.out _, ext_trans Hbel.out Hb2.out⟩
  ·rw [if_neg ht] at he
   have hL := HL1.out he
   rw [he, hL] at HQ
   have HE := hid he
   clear he hL
   obtain ⟨t, rfl⟩ : ∃ t : Nat, tag = (t : Int) := ⟨tag.toNat, by omega⟩
   have hq := hid (Hrun.out rfl w2 hb2)
   have hwf := (Hok.out.1 rfl).1
   have hfl := hwf.fl
   have hn4 : T.foes.length ≤ 4096 := by have := hwf.l1; omega
   have Hn4 := hid hn4
   have Hfl := hid hfl
   clear hb2 hwf hfl hn4
   go_wp2_with fail
   refine hq.out.mono ?_
   rintro e w3 ⟨_, rfl, G, S, D, W0, vT, rfl, hfe, hSn, hres, hbw, heng⟩
   have hb23 : Below w2.heap.size w2 w3 := ext_trans hbw heng.sp.old
   have hb13 := ext_trans Hb2.out hb23
   obtain ⟨W4, HW4⟩ : ∃ W4, Hid (W4 = w3.alloc (.cells #[.pointer (some ⟨G.b, 0, none⟩)] 79)) := ⟨_, hid rfl⟩
   have hb4 : Below w3.heap.size w3 W4 := by rw [HW4.out]; exact ext_alloc _ _
   obtain ⟨b0, b1, b2, b3, b4⟩ := Hbox.out W4 (ext_trans hb13 hb4)
   rw [HW4.out] at b0 b1 b2 b3 b4
   have hch := chosen_any W4 T.foes.length 19 #[.pointer (some ⟨w3.heap.size, 0, none⟩), .pointer (some ⟨w.heap.size + 1, 0, none⟩)] (fun q => hasT D q t) enters_set1 Hn4.out (fun q hqn W hW => by
    have hb3W := ext_trans hb4 hW
    have h0 : W.heap[w3.heap.size]? = some (.cells #[.pointer (some ⟨G.b, 0, none⟩)] 79 (0, 0)) := by
     rw [hW.block _ (by rw [HW4.out]; simp), HW4.out, heap_alloc_new]
    exact set1_any W W0 G S T D ⟨vT, heng.ext hb3W⟩ w3.heap.size (w.heap.size + 1) q t (by rw [hSn]; exact hqn) (by omega) (by omega) (hres.ti.lt q) (cell_of_row _ _ 0 _ _ _ h0) (Hbox.out W (ext_trans hb13 hb3W)).2.2.2.2)
   rw [pickL_congr (p' := fun q => hasM (solveM T l) (t - 1) (q : Int)) (fun q hqn => by rw [hres.hasM hqn]; rfl)] at hch
   rw [Hfl.out] at hch
   have Hch := hid hch
   have Hb14 := hid (ext_trans hb13 hb4)
   clear hch hres heng hfe hSn hbw hb23 hb13 hb4 hq
   rw [HW4.out] at Hch
   go_wp2_with fail
   refine Hch.out.mono ?_
   rintro e w5 ⟨_, rfl, hown, hb5⟩
   rw [← HW4.out] at hown hb5
   have Hown := hid hown
   clear hown
   go_wp2_with fail
   go_ret2
   exact Fin HQ ⟨_, rfl, own_lower Hown.out (ext_trans Hbel.out Hb14.out).size, ext_trans Hbel.out (ext_trans Hb14.out hb5)⟩
 ·rw [if_neg h] at he
  have hne : (c != 0) = true := by simp [h]
  have hL := HL0.out (by rw [he]; exact h)
  rw [he, hL] at HQ
  have HE := hid he
  clear he hL hb2
  go_wp2_with fail
  go_ret2
  exact Fin HQ ⟨_, rfl, Hnil.out _, ext_trans Hbel.out Hb2.out⟩
end Go.Proofs.Lx

namespace Go.Proofs.Lx
open Go Go.RowKit Go.Proofs.Tj
set_option linter.unusedSimpArgs false
set_option linter.unusedVariables false
set_option maxHeartbeats 1600000 in
theorem fund_any (w : World) (V vl : Value) (T : Th) (l : List Int) (hT : RdTh w V T) (hl : RdI w vl l) :
  Calls Tryz.prog 9 #[V, vl] w (Ret (IntsPost w (undL T l) (givenErr T l))) := by
 have HT := hid hT
 have Hl := hid hl
 obtain ⟨vF, vR, vB, rfl, hF, hR, hB⟩ := hT
 obtain ⟨AL, cL, rfl, _⟩ := hl
 generalize l.length = nl at *
 have hA := allocs [.cells #[.int .i64 T.lits, vF, vR, vB] 25, .cells #[.slice AL nl cL] 26] w
 obtain ⟨W1, HW1⟩ : ∃ W1, Hid (W1 = (w.alloc (.cells #[.int .i64 T.lits, vF, vR, vB] 25)).alloc (.cells #[.slice AL nl cL] 26)) := ⟨_, hid rfl⟩
 have e1 : [Obj.cells #[.int .i64 T.lits, vF, vR, vB] 25, .cells #[.slice AL nl cL] 26].foldl World.alloc w = W1 := HW1.out.symm
 rw [e1] at hA
 obtain ⟨hsz, hat, hbel⟩ := hA
 have hsz : W1.heap.size = w.heap.size + 2 := hsz
 have hg := fgiven_any W1 (.agg #[.int .i64 T.lits, vF, vR, vB]) (.slice (some ⟨w.heap.size + 1, 0, none⟩) 1 1) T [l] (HT.out.ext hbel) (rd_row1 (hat 1 _ rfl) (Hl.out.ext (scR_mono _) hbel))
 rw [givenErrs_one] at hg
 have Hg := hid hg
 have Hrun : Hid (givenErr T l = 0 → ∀ W, Below W1.heap.size W1 W → Calls Tryz.prog 17 #[.agg #[.int .i64 T.lits, vF, vR, vB], .slice AL nl cL] W (Ret (RunRes W T l))) := hid fun h W hb => frun_any W _ _ T l (HT.out.ext (ext_trans hbel hb)) (Hl.out.ext (scR_mono _) (ext_trans hbel hb)) (givenErr_ok.1 h).1 (givenErr_ok.1 h).2
 have Hbox : Hid (∀ W, Below W1.heap.size W1 W → W.cell? ⟨w.heap.size, 0, none⟩ = some (.int .i64 T.lits) ∧ W.cell? ⟨w.heap.size, 1, none⟩ = some vF ∧ W.cell? ⟨w.heap.size, 2, none⟩ = some vR ∧ W.cell? ⟨w.heap.size, 3, none⟩ = some vB) := hid fun W hb => by
  have h0 : W.heap[w.heap.size]? = some (.cells #[.int .i64 T.lits, vF, vR, vB] 25 (0, 0)) := (hb.block _ (by omega)).trans (hat 0 _ rfl)
  exact ⟨cell_of_row _ _ 0 _ _ _ h0, cell_of_row _ _ 1 _ _ _ h0, cell_of_row _ _ 2 _ _ _ h0, cell_of_row _ _ 3 _ _ _ h0⟩
 have Hbel := hid hbel
 have Hok := hid (@givenErr_ok T l)
 clear hF hR hB hg hat hsz hbel e1
 unfold IntsPost
 have HL0 : Hid (givenErr T l ≠ 0 → undL T l = []) := hid fun h => by unfold undL; rw [if_neg h]
 have HL1 : Hid (givenErr T l = 0 → undL T l = pickL (fun q => !hasM (solveM T l) 2 (q : Int) && !hasM (solveM T l) 3 (q : Int)) T.foes.length) := hid fun h => by unfold undL; rw [if_pos h]
 obtain ⟨c, Hc⟩ : ∃ c, Hid (givenErr T l = c) := ⟨_, hid rfl⟩
 rw [Hc.out] at Hg Hrun Hok HL0 HL1 ⊢
 have hnil : ∀ W : World, W.ownsRow w.heap.size 3 1 (.slice none 0 0) ([] : List Int).length (intsV []) := fun W => by simpa [intsV] using World.ownsRow_nil _ _ _ _
 have Hnil := hid hnil
 clear hnil
 refine post_gen fun Q HQ => ?_
 go_enter Tryz.func9, Tryz.ntmps9
 go_wp2_with fail
 rw [← HW1.out]
 refine Hg.out.mono ?_
 rintro e w2 ⟨_, rfl, rfl, hb2⟩
 have Hb2 := hid hb2
 by_cases h : c = 0
 ·subst h
  obtain ⟨b0, b1, b2, b3⟩ := Hbox.out w2 hb2
  have hL := HL1.out rfl
  rw [hL] at HQ
  clear hL
  have hq := hid (Hrun.out rfl w2 hb2)
  have hwf := (Hok.out.1 rfl).1
  have hfl := hwf.fl
  have hn4 : T.foes.length ≤ 4096 := by have := hwf.l1; omega
  have Hn4 := hid hn4
  have Hfl := hid hfl
  clear hb2 hwf hfl hn4
  go_wp2_with fail
  refine hq.out.mono ?_
  rintro e w3 ⟨_, rfl, G, S, D, W0, vT, rfl, hfe, hSn, hres, hbw, heng⟩
  have hb23 : Below w2.heap.size w2 w3 := ext_trans hbw heng.sp.old
  have hb13 := ext_trans Hb2.out hb23
  obtain ⟨W4, HW4⟩ : ∃ W4, Hid (W4 = w3.alloc (.cells #[.pointer (some ⟨G.b, 0, none⟩)] 79)) := ⟨_, hid rfl⟩
  have hb4 : Below w3.heap.size w3 W4 := by rw [HW4.out]; exact ext_alloc _ _
  obtain ⟨b0, b1, b2, b3⟩ := Hbox.out W4 (ext_trans hb13 hb4)
  rw [HW4.out] at b0 b1 b2 b3
  have hch := chosen_any W4 T.foes.length 21 #[.pointer (some ⟨w3.heap.size, 0, none⟩)] (fun q => !hasT D q 3 && !hasT D q 4) enters_und1 Hn4.out (fun q hqn W hW => by
   have hb3W := ext_trans hb4 hW
   have h0 : W.heap[w3.heap.size]? = some (.cells #[.pointer (some ⟨G.b, 0, none⟩)] 79 (0, 0)) := by
    rw [hW.block _ (by rw [HW4.out]; simp), HW4.out, heap_alloc_new]
   exact und1_any W W0 G S T D ⟨vT, heng.ext hb3W⟩ w3.heap.size q (by rw [hSn]; exact hqn) (hres.ti.lt q) (cell_of_row _ _ 0 _ _ _ h0))
  rw [pickL_congr (p' := fun q => !hasM (solveM T l) 2 (q : Int) && !hasM (solveM T l) 3 (q : Int)) (fun q hqn => by rw [hres.hasM hqn, hres.hasM hqn]; rfl)] at hch
  rw [Hfl.out] at hch
  have Hch := hid hch
  have Hb14 := hid (ext_trans hb13 hb4)
  clear hch hres heng hfe hSn hbw hb23 hb13 hb4 hq
  rw [HW4.out] at Hch
  go_wp2_with fail
  refine Hch.out.mono ?_
  rintro e w5 ⟨_, rfl, hown, hb5⟩
  rw [← HW4.out] at hown hb5
  have Hown := hid hown
  clear hown
  go_wp2_with fail
  go_ret2
  exact Fin HQ ⟨_, rfl, own_lower Hown.out (ext_trans Hbel.out Hb14.out).size, ext_trans Hbel.out (ext_trans Hb14.out hb5)⟩
 ·have hne : (c != 0) = true := by simp [h]
  have hL := HL0.out h
  rw [hL] at HQ
  clear hL hb2
  go_wp2_with fail
  go_ret2
  exact Fin HQ ⟨_, rfl, Hnil.out _, ext_trans Hbel.out Hb2.out⟩
/-- What Holds answers. -/
noncomputable def holdErr (T : Th) (l : List Int) (q tag : Int) : Int := if givenErr T l = 0 then (if q < 0 ∨ T.lits ≤ q then 91 else if tag < 1 ∨ 4 < tag then 1 else 0) else givenErr T l
noncomputable def holdB (T : Th) (l : List Int) (q tag : Int) : Bool := if holdErr T l q tag = 0 then hasM (solveM T l) (tag.toNat - 1) q else false
end Go.Proofs.Lx
