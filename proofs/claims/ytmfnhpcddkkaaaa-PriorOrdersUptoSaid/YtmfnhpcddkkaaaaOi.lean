/- From a row's reading of lists of lists of ints, with the bulk's bound, to this seat's words. -/
import Derived.Test.YtmfnhpcddkkaaaaRows
import Derived.Test.YtmfnhpcddkkaaaaRw
import Derived.Test.YtmfnhpcddkkaaaaOb
import Derived.JoinedCond
namespace Go.Proofs.Ytmfnhpcddkkaaaa
open Go Go.RowKit Go.Proofs.Lx Go.Proofs.Tj Go.ChangeShapes Go.WideShapes Go.ChangeAt Go.Joins Go.Deep
set_option linter.unusedSimpArgs false
set_option linter.unusedVariables false

section
variable {H : Type} {enc : TypeId × Value → H} {P : Program} {w : World} {base : Nat} {held : Bool}
theorem bulk_one (d : DataW H) : 1 ≤ Rows.uptoBulk d := by
  cases d with
  | lit l => cases l <;> simp [Rows.uptoBulk]
  | nil => simp [Rows.uptoBulk]
  | ptr d => simp [Rows.uptoBulk]
  | slice elems spare => simp [Rows.uptoBulk]
  | agg parts => simp [Rows.uptoBulk]
  | iface t d => simp [Rows.uptoBulk]
  | map entries => simp [Rows.uptoBulk]
  | held h => simp [Rows.uptoBulk]
theorem bulk_sum {α : Type} {meas : α → Nat} {f : Nat → α} {D : Nat → DataW H} : ∀ l : List Nat, (∀ i ∈ l, meas (f i) ≤ Rows.uptoBulk (D i)) → ((l.map f).map meas).sum ≤ Rows.uptoBulkAll (l.map D)
  | [], _ => by simp [Rows.uptoBulkAll]
  | x :: l, h => by
    have ih := bulk_sum l fun i hi => h i (List.mem_cons_of_mem _ hi)
    have h0 := h x List.mem_cons_self
    simp only [List.map_cons, List.sum_cons, Rows.uptoBulkAll]; omega
theorem bulk_part : ∀ {l : List (DataW H)} {d : DataW H}, d ∈ l → Rows.uptoBulk d ≤ Rows.uptoBulkAll l
  | x :: l, d, h => by
    rw [Rows.uptoBulkAll]
    rcases List.mem_cons.1 h with rfl | h
    · omega
    · have := bulk_part h; omega
theorem rd_bulk {α : Type} [Inhabited α] {sz : Nat} {R : World → α → List Value → Prop} {meas : α → Nat} {t e : TypeId} {v : Value} {fuel : Nat} {x : DataW H × List MemPlace} (ht : P.underlying t = some (.slice e)) (hc : P.cellsOf e = sz)
    (elem : ∀ n cs (y : DataW H × List MemPlace), cs.length = sz → DataW.trod enc P w base (fun _ => true) held n e cs = some y → Rows.uptoBulk y.1 ≤ 1048576 → ∃ a : α, R w a cs ∧ meas a ≤ Rows.uptoBulk y.1)
    (h : DataW.trod enc P w base (fun _ => true) held fuel t [v] = some x) (hf : Rows.uptoBulk x.1 ≤ 1048576) : ∃ ys : List α, Rd sz R w v ys ∧ (ys.map meas).sum + 1 ≤ Rows.uptoBulk x.1 := by
  rcases open_slice ht h with ⟨hcs, hx⟩ | ⟨a, len, cap, m, n, D, Pl, hcs, hb, hl, hm, hmm, rfl, hel⟩
  · simp only [List.cons.injEq, and_true] at hcs
    subst hcs
    subst hx
    exact ⟨[], Rd.nil, by simp [Rows.uptoBulk]⟩
  · simp only [List.cons.injEq, and_true] at hcs
    subst hcs
    simp only [if_true] at hmm
    subst hmm
    simp only [Rows.uptoBulk] at hf ⊢
    have hlen2 : ∀ l : List (DataW H), l.length ≤ Rows.uptoBulkAll l := by
      intro l
      induction l with
      | nil => simp
      | cons d l ih => have := bulk_one d; rw [Rows.uptoBulkAll, List.length_cons]; omega
    have hlen : len ≤ 1048576 := by
      have := hlen2 ((List.range len).map D)
      rw [List.length_map, List.length_range] at this; omega
    obtain ⟨f, hfam⟩ := choose_lt (α := α) (n := len) (p := fun i y => meas y ≤ Rows.uptoBulk (D i) ∧ ∃ cs', cs'.length = sz ∧ R w y cs' ∧ ∀ j, j < sz → w.cell? ((a.add (i * sz)).add j) = cs'[j]?) (fun i hi => by
      obtain ⟨cs', c1, c2⟩ := hel i (by omega)
      obtain ⟨_, c3, c4⟩ := World.cells?_some c1
      rw [hc] at c3 c4
      have hp : Rows.uptoBulk (D i) ≤ Rows.uptoBulkAll ((List.range len).map D) := bulk_part (List.mem_map.2 ⟨i, List.mem_range.2 hi, rfl⟩)
      obtain ⟨y, hy, hme⟩ := elem _ _ _ c3 c2 (by show Rows.uptoBulk (D i) ≤ 1048576; omega)
      exact ⟨y, hme, cs', c3, hy, c4⟩)
    refine ⟨(List.range len).map f, ⟨some a, m, by simp, by simp; omega, by simp; omega, fun i hi => ?_⟩, ?_⟩
    · simp only [List.length_map, List.length_range] at hi
      obtain ⟨_, cs', c1, c2, c3⟩ := hfam i hi
      refine ⟨a, cs', rfl, by simpa using c2, c1, fun j u hu => ?_⟩
      have hj : j < sz := by rw [← c1]; exact (List.getElem?_eq_some_iff.1 hu).1
      rw [← Lx.add_add, c3 j hj, hu]
    · have := bulk_sum (meas := meas) (f := f) (D := D) (List.range len) fun i hi => (hfam i (List.mem_range.1 hi)).1
      omega
theorem rd_lists {t e q : TypeId} {k : IntKind} {v : Value} {fuel : Nat} {x : DataW H × List MemPlace} (ht : P.underlying t = some (.slice e)) (he : P.underlying e = some (.slice q)) (hq : P.underlying q = some (.int k)) (hc : P.cellsOf e = 1) (hcq : P.cellsOf q = 1)
    (h : DataW.trod enc P w base (fun _ => true) held fuel t [v] = some x) (hf : Rows.uptoBulk x.1 ≤ 1048576) : ∃ B : List (List Int), Rd 1 (rowR 1 (scR (Value.int k))) w v B ∧ B.length ≤ 1048576 ∧ total B ≤ 1048576 := by
  obtain ⟨B, h1, h2⟩ := rd_bulk (α := List Int) (R := rowR 1 (scR (Value.int k))) (meas := fun row : List Int => row.length + 1) ht hc (fun n cs y hl hy hfy => by
    match cs, hl with
    | [u], _ =>
      obtain ⟨ys, h1, h2⟩ := rd_bulk (α := Int) (R := scR (Value.int k)) (meas := fun _ => 1) he hcq (fun n cs y _ hy _ => by
        obtain ⟨z, rfl, _⟩ := DataW.trod_int hq hy
        exact ⟨z, rfl, bulk_one _⟩) hy hfy
      refine ⟨ys, ⟨u, rfl, h1⟩, ?_⟩
      have h9 : ∀ l : List Int, (l.map fun _ => 1).sum = l.length := by
        intro l
        induction l with
        | nil => rfl
        | cons x l ih => simp only [List.map_cons, List.sum_cons, List.length_cons, ih]; omega
      have := h9 ys
      show ys.length + 1 ≤ _
      omega) h hf
  have key : ∀ B : List (List Int), (B.map fun row => row.length + 1).sum = total B + B.length := by
    intro B
    induction B with
    | nil => rfl
    | cons r B ih => simp only [List.map_cons, List.sum_cons, total, List.length_cons] at ih ⊢; omega
  rw [key] at h2
  exact ⟨B, h1, by omega, by omega⟩
end
theorem ownTry : ownKnob Try.prog.godebug = none := by kernel_rfl
theorem laidTry : laidOutB Try.prog = true := by kernel_rfl
theorem cellsInt : Try.prog.cellsOf 3 = 1 := by kernel_rfl
theorem cellsInts : Try.prog.cellsOf 24 = 1 := by kernel_rfl
end Go.Proofs.Ytmfnhpcddkkaaaa
