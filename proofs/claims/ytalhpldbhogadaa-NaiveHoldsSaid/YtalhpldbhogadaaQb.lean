/- What literals in memory read as. -/
import Derived.Test.YtalhpldbhogadaaLb
namespace Go.Proofs.Lx
open Go Go.RowKit
set_option linter.unusedSimpArgs false
set_option linter.unusedVariables false

theorem allocs (os : List Obj) : ∀ w : World, (os.foldl World.alloc w).heap.size = w.heap.size + os.length ∧ (∀ i o, os[i]? = some o → (os.foldl World.alloc w).heap[w.heap.size + i]? = some o) ∧ Below w.heap.size w (os.foldl World.alloc w) := by
  induction os with
  | nil => intro w; exact ⟨rfl, fun i o h => by simp at h, Below.refl _ _⟩
  | cons o os ih =>
    intro w
    obtain ⟨h1, h2, h3⟩ := ih (w.alloc o)
    rw [World.size_alloc] at h1 h2
    have hb : Below w.heap.size w (os.foldl World.alloc (w.alloc o)) := ext_trans (ext_alloc w o) h3
    refine ⟨by rw [List.foldl_cons, h1, List.length_cons]; omega, fun i x hi => ?_, hb⟩
    match i, hi with
    | 0, hi =>
      simp at hi; subst hi
      rw [List.foldl_cons, Nat.add_zero]
      exact (h3.block w.heap.size (by rw [World.size_alloc]; omega)).trans (heap_alloc_new w _)
    | i + 1, hi =>
      rw [List.foldl_cons, show w.heap.size + (i + 1) = w.heap.size + 1 + i by omega]
      exact h2 i x (by simpa using hi)
theorem rd_lit1 {α : Type} {R : World → α → List Value → Prop} {W : World} {g n : Nat} {e : TypeId} {cur : Array Value} {xs : List α} (hh : W.heap[g]? = some (.cells cur e (0, 0))) (hn : n = xs.length) (hb : xs.length ≤ 140737488355328)
    (hr : ∀ i (h : i < xs.length), ∃ v, cur[i]? = some v ∧ R W xs[i] [v]) : Rd 1 R W (.slice (some ⟨g, 0, none⟩) n n) xs := by
  subst hn
  refine ⟨_, _, rfl, Nat.le_refl _, hb, fun i hi => ?_⟩
  obtain ⟨v, h1, h2⟩ := hr i hi
  refine ⟨_, [v], rfl, h2, rfl, fun j u hu => ?_⟩
  match j, hu with
  | 0, hu =>
    simp at hu; subst hu
    rw [show i * 1 + 0 = i by omega, add_plain, cell_of_row W g i cur e _ hh]
    exact h1
theorem rd_lit3 {α : Type} {R : World → α → List Value → Prop} {W : World} {g n : Nat} {e : TypeId} {cur : Array Value} {xs : List α} (hh : W.heap[g]? = some (.cells cur e (0, 0))) (hn : n = xs.length) (hb : xs.length ≤ 140737488355328)
    (hr : ∀ i (h : i < xs.length), ∃ a b c, cur[i * 3]? = some a ∧ cur[i * 3 + 1]? = some b ∧ cur[i * 3 + 2]? = some c ∧ R W xs[i] [a, b, c]) : Rd 3 R W (.slice (some ⟨g, 0, none⟩) n n) xs := by
  subst hn
  refine ⟨_, _, rfl, Nat.le_refl _, hb, fun i hi => ?_⟩
  obtain ⟨a, b, c, h1, h2, h3, h4⟩ := hr i hi
  refine ⟨_, [a, b, c], rfl, h4, rfl, fun j u hu => ?_⟩
  rw [add_plain, cell_of_row W g _ cur e _ hh]
  match j, hu with
  | 0, hu => simp at hu; subst hu; exact h1
  | 1, hu => simp at hu; subst hu; exact h2
  | 2, hu => simp at hu; subst hu; exact h3
theorem rd_int1 {W : World} {g : Nat} {e : TypeId} {x : Int} (hh : W.heap[g]? = some (.cells #[.int .i64 x] e (0, 0))) : RdI W (.slice (some ⟨g, 0, none⟩) 1 1) [x] := by
  refine rd_lit1 hh rfl (by simp) fun i hi => ?_
  simp at hi; subst hi
  exact ⟨_, rfl, rfl⟩
/-- All cells of a slice of the call's own. -/
theorem own_all {w : World} {base e n : Nat} {v : Value} {xs : List Value} (h : w.ownsRow base e 1 v n xs) (hn : 0 < n) : ∃ g cap, v = .slice (some ⟨g, 0, none⟩) n cap ∧ base ≤ g ∧ g < w.heap.size ∧ ∀ i x, xs[i]? = some x → w.cell? ⟨g, i, none⟩ = some x := by
  rcases h.2 with ⟨h1, h2⟩ | ⟨gg, cp, cur, h1, h2, h3, h4, h5, h6, h7⟩
  · omega
  · subst h1
    refine ⟨gg, cp, rfl, h2, (Array.getElem?_eq_some_iff.1 h3).1, fun i x hx => ?_⟩
    have := h.cells (g := gg) rfl i x hx
    rwa [add_plain] at this
end Go.Proofs.Lx
