/- Small words for blocks that a call writes: an array of the call's own, told as a list. -/
import Derived.Test.YtalhpldbhogadaaLa
import Derived.Deep.OwnRows
import Derived.Laws.Rows
namespace Go.Proofs.Lx
open Go Go.RowKit

/-- Block g holds just these cells. -/
def Arr {α : Type} (enc : α → Value) (e : TypeId) (w : World) (g : Nat) (xs : List α) : Prop := w.heap[g]? = some (.cells (xs.map enc).toArray e (0, 0))
section
variable {α : Type} {enc : α → Value} {e : TypeId} {w w' : World} {g : Nat} {xs : List α}
theorem Arr.lt (h : Arr enc e w g xs) : g < w.heap.size := lt_of_block h
theorem Arr.cell (h : Arr enc e w g xs) {i : Nat} (hi : i < xs.length) : w.cell? ⟨g, i, none⟩ = some (enc xs[i]) := by
  rw [cell_of_row w g i _ e _ h]; simp [hi]
theorem Arr.cellD [Inhabited α] (h : Arr enc e w g xs) {i : Nat} (hi : i < xs.length) : w.cell? ⟨g, i, none⟩ = some (enc (xs.getD i default)) := by
  rw [h.cell hi]; simp [hi]
theorem Arr.free (h : Arr enc e w g xs) (i : Nat) : w.frozen? ⟨g, i, none⟩ = false := frozen_of_row w g i _ e h
theorem Arr.set (h : Arr enc e w g xs) (i : Nat) (x : α) : Arr enc e (w.setCell ⟨g, i, none⟩ (enc x)) g (xs.set i x) := by
  unfold Arr
  rw [heap_setCell_same w g i _ e _ h]
  simp [List.map_set]
theorem Arr.other (h : Arr enc e w g xs) {a : Addr} (hne : g ≠ a.block) (u : Value) : Arr enc e (w.setCell a u) g xs := (heap_setCell_other w a g u hne).trans h
theorem Arr.alloc (h : Arr enc e w g xs) (o : Obj) : Arr enc e (w.alloc o) g xs := (Below.heap_alloc w o g h.lt).trans h
theorem Arr.drew (h : Arr enc e w g xs) : Arr enc e w.drew g xs := h
theorem Arr.drewN (h : Arr enc e w g xs) (n : Nat) : Arr enc e (w.drewN n) g xs := by
  induction n with
  | zero => exact h
  | succ n ih => rw [← World.drew_drewN]; exact ih
theorem Arr.below {B : Nat} (h : Arr enc e w g xs) (hb : Below B w w') (hB : g < B) : Arr enc e w' g xs := (hb.block g hB).trans h
theorem Arr.ext (h : Arr enc e w g xs) (hb : Below w.heap.size w w') : Arr enc e w' g xs := h.below hb h.lt
theorem Arr.reads (h : Arr enc e w g xs) (hl : xs.length ≤ 140737488355328) (c : Nat) (hc : xs.length ≤ c) : Rd 1 (scR enc) w (.slice (some ⟨g, 0, none⟩) xs.length c) xs := by
  refine ⟨_, c, rfl, hc, hl, fun i hi => ⟨_, _, rfl, rfl, rfl, fun j u hu => ?_⟩⟩
  match j, hu with
  | 0, hu =>
    simp at hu; subst hu
    rw [add_plain]; simpa using h.cell hi
end
theorem heap_drewN (w : World) (n : Nat) : (w.drewN n).heap = w.heap := by
  induction n with
  | zero => rfl
  | succ n ih => rw [← World.drew_drewN]; exact ih
theorem below_drewN {B : Nat} {w W : World} (h : Below B w W) (n : Nat) : Below B w (W.drewN n) := by
  induction n with
  | zero => exact h
  | succ n ih => rw [← World.drew_drewN]; exact ih.drew

/-- A box that was laid first. -/
theorem box_cell {w wr : World} {cs : Array Value} {t : TypeId} (h : Below (w.heap.size + 1) (w.alloc (.cells cs t)) wr) (i : Nat) : wr.cell? ⟨w.heap.size, i, none⟩ = cs[i]? := by
  have hb : wr.heap[w.heap.size]? = some (.cells cs t (0, 0)) := (h.block _ (by omega)).trans (heap_alloc_new w _)
  exact cell_of_row wr _ i cs t _ hb
/-- make([]T, n): its block. -/
theorem made_arr {α : Type} (enc : α → Value) (z : α) (e : TypeId) (w : World) (n : Nat) : Arr enc e (w.alloc (.cells (madeCells #[enc z] n) e)) w.heap.size (List.replicate n z) := by
  unfold Arr
  rw [heap_alloc_new]
  congr 2
  rw [← Array.toList_inj, toList_madeCells_one]; simp
end Go.Proofs.Lx
