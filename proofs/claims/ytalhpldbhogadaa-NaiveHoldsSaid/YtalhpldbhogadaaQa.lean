/- The page's examples for naive (alive of law 15): the walk. -/
import Derived.Test.YtalhpldbhogadaaNk
import Derived.Test.YtalhpldbhogadaaPc
import Derived.Test.YtalhpldbhogadaaQb
namespace Go.Proofs.Lx
open Go Go.RowKit
set_option linter.unusedSimpArgs false
set_option linter.unusedVariables false

theorem num_any (x : Int) (w : World) : Calls Try.prog 21 #[.int .i64 x] w (Ret fun v w' => v = .int .i64 x ∧ w' = w) := by
  refine post_gen fun Q HQ => ?_
  go_enter Try.func21, Try.ntmps21
  go_wp2
  go_ret
  exact Fin HQ ⟨rfl, rfl⟩

/-- The example's blocks. -/
def exBlocks (h : Nat) : List Obj :=
  [.cells #[.int .i64 1] 3, .cells #[.int .i64 0] 3,
   .cells #[.slice (some ⟨h, 0, none⟩) 1 1, .slice (some ⟨h + 1, 0, none⟩) 1 1, .slice none 0 0] 26,
   .cells #[.int .i64 2] 3,
   .cells #[.int .i64 2, .int .i64 0, .slice (some ⟨h + 1 + 1 + 1, 0, none⟩) 1 1, .int .i64 2, .int .i64 1, .slice none 0 0] 37,
   .cells #[.int .i64 1] 3,
   .cells #[.slice (some ⟨h + 1 + 1 + 1 + 1 + 1, 0, none⟩) 1 1, .slice none 0 0] 26,
   .cells #[.int .i64 3, .slice (some ⟨h + 1 + 1, 0, none⟩) 3 3, .slice (some ⟨h + 1 + 1 + 1 + 1, 0, none⟩) 2 2, .slice (some ⟨h + 1 + 1 + 1 + 1 + 1 + 1, 0, none⟩) 2 2] 25,
   .cells #[.int .i64 2] 3]
def exW (w : World) : World := (exBlocks w.heap.size).foldl World.alloc w
theorem ex_rd (W : World) (h : Nat) (vB : Value) (X : List (List Int)) (hh : ∀ i o, i < 5 → (exBlocks h)[i]? = some o → W.heap[h + i]? = some o) (hB : RdLL W vB X) :
    RdTh W (.agg #[.int .i64 3, .slice (some ⟨h + 1 + 1, 0, none⟩) 3 3, .slice (some ⟨h + 1 + 1 + 1 + 1, 0, none⟩) 2 2, vB]) ⟨3, [[1], [0], []], [⟨2, 0, [2]⟩, ⟨2, 1, []⟩], X⟩ := by
  have h0 := hh 0 _ (by omega) rfl
  have h1 := hh 1 _ (by omega) rfl
  have h2 := hh 2 _ (by omega) rfl
  have h3 := hh 3 _ (by omega) rfl
  have h4 := hh 4 _ (by omega) rfl
  refine ⟨_, _, _, rfl, ?_, ?_, hB⟩
  · refine rd_lit1 h2 rfl (by simp) fun i hi => ?_
    match i, hi with
    | 0, _ => exact ⟨_, rfl, _, rfl, rd_int1 h0⟩
    | 1, _ => exact ⟨_, rfl, _, rfl, rd_int1 h1⟩
    | 2, _ => exact ⟨_, rfl, _, rfl, Rd.nil⟩
  · refine rd_lit3 h4 rfl (by simp) fun i hi => ?_
    match i, hi with
    | 0, _ => exact ⟨_, _, _, rfl, rfl, rfl, _, rfl, rd_int1 h3⟩
    | 1, _ => exact ⟨_, _, _, rfl, rfl, rfl, _, rfl, Rd.nil⟩
theorem exA_rd (w : World) : RdTh (exW w) (.agg #[.int .i64 3, .slice (some ⟨w.heap.size + 1 + 1, 0, none⟩) 3 3, .slice (some ⟨w.heap.size + 1 + 1 + 1 + 1, 0, none⟩) 2 2, .slice (some ⟨w.heap.size + 1 + 1 + 1 + 1 + 1 + 1, 0, none⟩) 2 2]) exA := by
  obtain ⟨_, ha, _⟩ := allocs (exBlocks w.heap.size) w
  refine ex_rd (exW w) w.heap.size _ _ (fun i o _ h => ha i o h) ?_
  refine rd_lit1 (ha 6 _ rfl) rfl (by simp) fun i hi => ?_
  match i, hi with
  | 0, _ => exact ⟨_, rfl, _, rfl, rd_int1 (ha 5 _ rfl)⟩
  | 1, _ => exact ⟨_, rfl, _, rfl, Rd.nil⟩
theorem exA_facts (w : World) : RdI (exW w) (.slice (some ⟨w.heap.size + 1 + 1 + 1 + 1 + 1 + 1 + 1 + 1, 0, none⟩) 1 1) [2] := rd_int1 ((allocs (exBlocks w.heap.size) w).2.1 8 _ rfl)
/-- Behind the first call the theory's last field is written anew. -/
def exW2 (w w2 : World) : World :=
  (((w2.alloc (.cells #[.slice none 0 0, .slice none 0 0] 26)).setCell ⟨w.heap.size + 1 + 1 + 1 + 1 + 1 + 1 + 1, 3, none⟩ (.slice (some ⟨w2.heap.size, 0, none⟩) 2 2)).alloc (.cells #[.int .i64 2] 3))
theorem exW2_heap (w w2 : World) (hb : Below (exW w).heap.size (exW w) w2) : (∀ k, k < w2.heap.size → k ≠ w.heap.size + 7 → (exW2 w w2).heap[k]? = w2.heap[k]?) ∧ (exW2 w w2).heap[w2.heap.size]? = some (.cells #[.slice none 0 0, .slice none 0 0] 26 (0, 0)) ∧ (exW2 w w2).heap[w2.heap.size + 1]? = some (.cells #[.int .i64 2] 3 (0, 0)) ∧ (exW2 w w2).heap.size = w2.heap.size + 2 := by
  obtain ⟨hs, _, _⟩ := allocs (exBlocks w.heap.size) w
  have hs2 : (exW w).heap.size = w.heap.size + 9 := hs
  have hle := hb.size
  unfold exW2
  refine ⟨fun k hk hne => ?_, ?_, ?_, ?_⟩
  · rw [heap_alloc_old _ _ (by simp; omega), heap_setCell_other _ _ k _ (by simpa using hne), heap_alloc_old _ _ hk]
  · rw [heap_alloc_old _ _ (by simp), heap_setCell_other _ _ _ _ (by dsimp only; omega), heap_alloc_new]
  · have : w2.heap.size + 1 = ((w2.alloc (.cells #[.slice none 0 0, .slice none 0 0] 26)).setCell ⟨w.heap.size + 1 + 1 + 1 + 1 + 1 + 1 + 1, 3, none⟩ (.slice (some ⟨w2.heap.size, 0, none⟩) 2 2)).heap.size := by simp
    rw [this, heap_alloc_new]
  · simp
theorem exB_rd (w w2 : World) (hb : Below (exW w).heap.size (exW w) w2) : RdTh (exW2 w w2) (.agg #[.int .i64 3, .slice (some ⟨w.heap.size + 1 + 1, 0, none⟩) 3 3, .slice (some ⟨w.heap.size + 1 + 1 + 1 + 1, 0, none⟩) 2 2, .slice (some ⟨w2.heap.size, 0, none⟩) 2 2]) exB := by
  obtain ⟨hs, ha, _⟩ := allocs (exBlocks w.heap.size) w
  have hs2 : (exW w).heap.size = w.heap.size + 9 := hs
  have hle := hb.size
  obtain ⟨h1, h2, _, _⟩ := exW2_heap w w2 hb
  refine ex_rd (exW2 w w2) w.heap.size _ _ (fun i o hi h => ?_) ?_
  · rw [h1 _ (by omega) (by omega), hb.block _ (by omega)]
    exact ha i o h
  · refine rd_lit1 h2 rfl (by simp) fun i hi => ?_
    match i, hi with
    | 0, _ => exact ⟨_, rfl, _, rfl, Rd.nil⟩
    | 1, _ => exact ⟨_, rfl, _, rfl, Rd.nil⟩
theorem exB_facts (w w2 : World) (hb : Below (exW w).heap.size (exW w) w2) : RdI (exW2 w w2) (.slice (some ⟨w2.heap.size + 1, 0, none⟩) 1 1) [2] := rd_int1 (exW2_heap w w2 hb).2.2.1

set_option maxHeartbeats 1600000 in
theorem alive_any (w : World) : Calls Try.prog 19 #[] w (Ret fun v w' => v = .bool true ∧ Below w.heap.size w w') := by
  have hsA := hid (allocs (exBlocks w.heap.size) w)
  have HcA := hid (solve_any (exW w) _ _ exA [2] (exA_rd w) (exA_facts w))
  have HcB := hid (fun w2 hb => solve_any (exW2 w w2) _ _ exB [2] (exB_rd w w2 hb) (exB_facts w w2 hb))
  have HeA := hid (givenErr_ok.2 ⟨exA_wf, (by decide : risB [2] exA.lits = true)⟩)
  have HeB := hid (givenErr_ok.2 ⟨exB_wf, (by decide : risB [2] exB.lits = true)⟩)
  refine post_gen fun Q HQ => ?_
  go_enter Try.func19, Try.ntmps19
  go_wp2_with fail
  refine HcA.out.mono ?_
  rintro e w2 ⟨_, rfl, v, rfl, h1, _, hb2⟩
  have o1 := h1 HeA.out
  rw [HeA.out]
  clear h1
  rw [exA_solve] at o1
  obtain ⟨g, cap, rfl, hg, hg2, hc⟩ := own_all o1 (by decide)
  have c0 := hc 0 _ rfl; have c1 := hc 1 _ rfl; have c2 := hc 2 _ rfl
  clear hc o1
  have hbox : w2.heap[w.heap.size + 1 + 1 + 1 + 1 + 1 + 1 + 1]? = some (.cells #[.int .i64 3, .slice (some ⟨w.heap.size + 1 + 1, 0, none⟩) 3 3, .slice (some ⟨w.heap.size + 1 + 1 + 1 + 1, 0, none⟩) 2 2, .slice (some ⟨w.heap.size + 1 + 1 + 1 + 1 + 1 + 1, 0, none⟩) 2 2] 25 (0, 0)) := by
    rw [hb2.block _ (by have := hsA.out.1; show _ < ((exBlocks w.heap.size).foldl World.alloc w).heap.size; rw [this]; show _ < w.heap.size + 9; omega)]
    exact hsA.out.2.1 7 _ rfl
  have hs2 : w.heap.size + 9 ≤ w2.heap.size := by have h1 := hsA.out.1; have h2 := hb2.size; rw [show (exW w).heap.size = w.heap.size + 9 from h1] at h2; exact h2
  have hs3 : w.heap.size + 9 ≤ g := by have h1 := hsA.out.1; rw [show (exW w).heap.size = w.heap.size + 9 from h1] at hg; exact hg
  have hbo : ∀ o : Obj, (w2.alloc o).heap[w.heap.size + 1 + 1 + 1 + 1 + 1 + 1 + 1]? = _ := fun o => (heap_alloc_old w2 o (by omega)).trans hbox
  have s3 : ∀ o : Obj, (w2.alloc o).cell? ⟨w.heap.size + 1 + 1 + 1 + 1 + 1 + 1 + 1, 3, none⟩ = some (.slice (some ⟨w.heap.size + 1 + 1 + 1 + 1 + 1 + 1, 0, none⟩) 2 2) := fun o => cell_of_row _ _ 3 _ _ _ (hbo o)
  have sf : ∀ o : Obj, (w2.alloc o).frozen? ⟨w.heap.size + 1 + 1 + 1 + 1 + 1 + 1 + 1, 3, none⟩ = false := fun o => frozen_of_row _ _ 3 _ _ (hbo o)
  have hbs : ∀ (o : Obj) (u : Value), ((w2.alloc o).setCell ⟨w.heap.size + 1 + 1 + 1 + 1 + 1 + 1 + 1, 3, none⟩ u).heap[w.heap.size + 1 + 1 + 1 + 1 + 1 + 1 + 1]? = some (.cells #[.int .i64 3, .slice (some ⟨w.heap.size + 1 + 1, 0, none⟩) 3 3, .slice (some ⟨w.heap.size + 1 + 1 + 1 + 1, 0, none⟩) 2 2, u] 25 (0, 0)) := fun o u => by
    rw [heap_setCell_same _ _ 3 _ _ _ (hbo o)]; rfl
  have t0 : ∀ (o : Obj) (u : Value), ((w2.alloc o).setCell ⟨w.heap.size + 1 + 1 + 1 + 1 + 1 + 1 + 1, 3, none⟩ u).cell? ⟨w.heap.size + 1 + 1 + 1 + 1 + 1 + 1 + 1, 0, none⟩ = some (.int .i64 3) := fun o u => cell_of_row _ _ 0 _ _ _ (hbs o u)
  have t1 : ∀ (o : Obj) (u : Value), ((w2.alloc o).setCell ⟨w.heap.size + 1 + 1 + 1 + 1 + 1 + 1 + 1, 3, none⟩ u).cell? ⟨w.heap.size + 1 + 1 + 1 + 1 + 1 + 1 + 1, 1, none⟩ = some (.slice (some ⟨w.heap.size + 1 + 1, 0, none⟩) 3 3) := fun o u => cell_of_row _ _ 1 _ _ _ (hbs o u)
  have t2 : ∀ (o : Obj) (u : Value), ((w2.alloc o).setCell ⟨w.heap.size + 1 + 1 + 1 + 1 + 1 + 1 + 1, 3, none⟩ u).cell? ⟨w.heap.size + 1 + 1 + 1 + 1 + 1 + 1 + 1, 2, none⟩ = some (.slice (some ⟨w.heap.size + 1 + 1 + 1 + 1, 0, none⟩) 2 2) := fun o u => cell_of_row _ _ 2 _ _ _ (hbs o u)
  have t3 : ∀ (o : Obj) (u : Value), ((w2.alloc o).setCell ⟨w.heap.size + 1 + 1 + 1 + 1 + 1 + 1 + 1, 3, none⟩ u).cell? ⟨w.heap.size + 1 + 1 + 1 + 1 + 1 + 1 + 1, 3, none⟩ = some u := fun o u => cell_of_row _ _ 3 _ _ _ (hbs o u)
  clear hbo hbs
  have Hb2 := hid hb2
  have Hg := hid (And.intro hg hg2)
  clear hbox hg hg2 hb2
  have hcb := HcB.out w2 Hb2.out
  rw [HeB.out] at hcb
  have HcB2 := hid hcb
  clear hcb HcB
  go_wp2_with fail
  refine HcB2.out.mono ?_
  rintro e w3 ⟨_, rfl, v, rfl, h1, _, hb3⟩
  have o1 := h1 trivial
  clear h1 s3 sf t0 t1 t2 t3 HcB2
  rw [exB_solve] at o1
  obtain ⟨gn, capn, rfl, hgn, hgn2, hc⟩ := own_all o1 (by decide)
  have n0 := hc 0 _ rfl; have n1 := hc 1 _ rfl; have n2 := hc 2 _ rfl
  obtain ⟨hk, _, _, hz⟩ := exW2_heap w w2 Hb2.out
  have hm : ∀ i, w3.cell? ⟨g, i, none⟩ = w2.cell? ⟨g, i, none⟩ := fun i => by
    refine World.cell?_of_block ?_
    show w3.heap[g]? = w2.heap[g]?
    rw [hb3.block g (by rw [hz]; have := Hg.out.2; omega)]
    exact hk g Hg.out.2 (by have := Hg.out.1; omega)
  rw [← hm] at c0 c1 c2
  have hfin : Below w.heap.size w w3 := by
    have h1 : Below w.heap.size w w2 := ext_trans (allocs (exBlocks w.heap.size) w).2.2 Hb2.out
    have h2 : Below w.heap.size w (exW2 w w2) := ((h1.alloc (by omega) _).setCell (by show w.heap.size ≤ w.heap.size + 1 + 1 + 1 + 1 + 1 + 1 + 1; omega) _).alloc (by simp; omega) _
    exact ext_trans h2 hb3
  clear hk hz hm hc o1 hb3
  go_wp2
  go_ret
  exact Fin HQ ⟨rfl, hfin⟩
end Go.Proofs.Lx
