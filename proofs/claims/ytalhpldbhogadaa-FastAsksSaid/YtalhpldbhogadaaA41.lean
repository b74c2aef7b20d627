/- Parts of the proof: Rt. A theory among a row's arguments. -/
import Derived.Test.YtalhpldbhogadaaA40
import Derived.Test.YtalhpldbhogadaaRows
namespace Go.Proofs.Lx
open Go Go.RowKit Go.ChangeShapes Go.WideShapes Go.ChangeAt Go.Joins Go.Deep
set_option linter.unusedSimpArgs false
set_option linter.unusedVariables false

theorem ownTry : ownKnob Try.prog.godebug = none := by kernel_rfl
theorem laidTry : laidOutB Try.prog = true := by kernel_rfl
theorem cellsTheory : Try.prog.cellsOf 25 = 4 := by kernel_rfl
theorem cellsRule : Try.prog.cellsOf 37 = 3 := by kernel_rfl
theorem cellsInt : Try.prog.cellsOf 3 = 1 := by kernel_rfl
theorem cellsInts : Try.prog.cellsOf 26 = 1 := by kernel_rfl
theorem cellsKind : Try.prog.cellsOf 35 = 1 := by kernel_rfl
theorem cellsMark : Try.prog.cellsOf 33 = 1 := by kernel_rfl
theorem bytesInt : 1 ≤ Try.prog.bytesOf 3 := of_decide_eq_true (by kernel_rfl)
theorem bytesInts : 1 ≤ Try.prog.bytesOf 26 := of_decide_eq_true (by kernel_rfl)
theorem bytesRule : 1 ≤ Try.prog.bytesOf 37 := of_decide_eq_true (by kernel_rfl)
theorem bytesMark : 1 ≤ Try.prog.bytesOf 33 := of_decide_eq_true (by kernel_rfl)
theorem oneTheory : ∀ fs, Try.prog.underlying 25 = some (.struct fs) → oneCellFields Try.prog fs = true := by
 intro fs h
 rw [Try.underlying25] at h
 cases h; kernel_rfl
section
variable {H : Type} {enc : TypeId × Value → H} {w : World} {base : Nat}
set_option maxRecDepth 100000 in
theorem rd_ints_arg {v : Value} {d : DataW H} {p : List MemPlace} (hv : Value.okWide Try.prog w .any base 26 v) (h : DataW.Trod enc Try.prog w 0 (fun _ => true) true 26 v d p) (hf : Fits Try.prog 26 d) : ∃ l, RdI w v l := by
 obtain ⟨a0, len, cap, rfl⟩ := okWide_slice Try.underlying26 hv
 obtain ⟨fuel, h⟩ := h
 exact rd_ints Try.underlying26 Try.underlying3 cellsInt bytesInt h hf
set_option maxRecDepth 100000 in
theorem rd_marks_arg {v : Value} {d : DataW H} {p : List MemPlace} (hv : Value.okWide Try.prog w .any base 28 v) (h : DataW.Trod enc Try.prog w 0 (fun _ => true) true 28 v d p) (hf : Fits Try.prog 28 d) :
  ∃ l : List Nat, Rd 1 (scR fun x : Nat => Value.int .u8 (x : Int)) w v l ∧ ∀ x ∈ l, x < 256 := by
 obtain ⟨a0, len, cap, rfl⟩ := okWide_slice Try.underlying28 hv
 obtain ⟨fuel, h⟩ := h
 exact rd_bytes Try.underlying28 Try.underlying33 cellsMark bytesMark h hf
set_option maxRecDepth 100000 in
theorem rd_theory {v : Value} {d : DataW H} {p : List MemPlace} (hv : Value.okWide Try.prog w .any base 25 v) (h : DataW.Trod enc Try.prog w 0 (fun _ => true) true 25 v d p) (hf : Fits Try.prog 25 d) : ∃ T, RdTh w v T := by
 obtain ⟨v0, v1, v2, v3, y0, y1, y2, y3, n, rfl, rfl, _, h0, h1, h2, h3⟩ := open_agg4 Try.underlying25 (oneTheory _ Try.underlying25) cellsTheory hv h
 obtain ⟨z0, e0, _⟩ := DataW.trod_int Try.underlying3 h0
 simp only [List.cons.injEq, and_true] at e0
 subst e0
 obtain ⟨fo, hfo⟩ := rd_rows Try.underlying22 Try.underlying26 Try.underlying3 cellsInts cellsInt bytesInts bytesInt h1 (hf.part Try.underlying25 1 rfl rfl)
 obtain ⟨rs, hrs⟩ := rd_rules Try.underlying23 Try.underlying37 cellsRule bytesRule rfl rfl rfl Try.underlying35 Try.underlying3 Try.underlying26 Try.underlying3 cellsKind cellsInt cellsInts cellsInt bytesInt h2 (hf.part Try.underlying25 2 rfl rfl)
 obtain ⟨bs, hbs⟩ := rd_rows Try.underlying22 Try.underlying26 Try.underlying3 cellsInts cellsInt bytesInts bytesInt h3 (hf.part Try.underlying25 3 rfl rfl)
 exact ⟨⟨z0, fo, rs, bs⟩, v1, v2, v3, rfl, hfo, hrs, hbs⟩
end
end Go.Proofs.Lx
