/- Parts of the proof: Rt, Rs, Rv. A theory among a row's arguments. -/
import Derived.Test.YtbidjiopnddldaaGreatP47
import Derived.Test.YtbidjiopnddldaaGreatRows
import Derived.Test.YtbidjiopnddldaaGreatP14
namespace Go.Proofs.Lx
open Go Go.RowKit Go.ChangeShapes Go.WideShapes Go.ChangeAt Go.Joins Go.Deep
set_option linter.unusedSimpArgs false
set_option linter.unusedVariables false

theorem ownTry : ownKnob Tryz.prog.godebug = none := by kernel_rfl
theorem laidTry : laidOutB Tryz.prog = true := by kernel_rfl
theorem cellsTheory : Tryz.prog.cellsOf 25 = 4 := by kernel_rfl
theorem cellsRule : Tryz.prog.cellsOf 93 = 3 := by kernel_rfl
theorem cellsInt : Tryz.prog.cellsOf 3 = 1 := by kernel_rfl
theorem cellsInts : Tryz.prog.cellsOf 36 = 1 := by kernel_rfl
theorem cellsKind : Tryz.prog.cellsOf 91 = 1 := by kernel_rfl
theorem oneTheory : ∀ fs, Tryz.prog.underlying 25 = some (.struct fs) → oneCellFields Tryz.prog fs = true := by
 intro fs h
 rw [Tryz.underlying25] at h
 cases h; kernel_rfl
section
variable {H : Type} {enc : TypeId × Value → H} {w : World} {base : Nat}
end
end Go.Proofs.Lx

namespace Go.Proofs.Lx
open Go Go.RowKit Go.ChangeShapes Go.WideShapes Go.ChangeAt Go.Joins Go.Deep
set_option linter.unusedSimpArgs false
set_option linter.unusedVariables false

section
variable {H : Type} {enc : TypeId × Value → H} {P : Program} {w : World} {base : Nat} {held : Bool}
theorem rd_trod2 {α : Type} [Inhabited α] {Pr : α → Prop} {sz : Nat} {R : World → α → List Value → Prop} {t e : TypeId} {v : Value} {fuel : Nat} {x : DataW H × List MemPlace} (ht : P.underlying t = some (.slice e)) (hc : P.cellsOf e = sz) (hby : 1 ≤ P.bytesOf e)
  (elem : ∀ n cs (y : DataW H × List MemPlace), cs.length = sz → DataW.trod enc P w base (fun _ => true) held n e cs = some y → Fits P e y.1 → ∃ a : α, R w a cs ∧ Pr a)
  (h : DataW.trod enc P w base (fun _ => true) held fuel t [v] = some x) (hf : Fits P t x.1) : ∃ ys : List α, Rd sz R w v ys ∧ (∀ y ∈ ys, Pr y) ∧ ys.length * P.bytesOf e ≤ 140737488355328 := by
 rcases open_slice ht h with ⟨hcs, hx⟩ | ⟨a, len, cap, m, n, D, Pl, hcs, hb, hl, hm, hmm, rfl, hel⟩
 ·simp only [List.cons.injEq, and_true] at hcs
  subst hcs
  exact ⟨[], Rd.nil, by simp, by simp⟩
 ·simp only [List.cons.injEq, and_true] at hcs
  subst hcs
  simp only [if_true] at hmm
  subst hmm
  obtain ⟨h1, h2⟩ := hf.elems ht
  have hlb : len * P.bytesOf e ≤ 140737488355328 := by
   simp only [List.length_map, List.length_range, reachBytes] at h1
   exact Nat.le_trans (Nat.mul_le_mul_right _ (Nat.le_add_right _ _)) (Nat.le_trans h1 (by decide))
  have hlen : len ≤ 140737488355328 := by
   have : len * 1 ≤ len * P.bytesOf e := Nat.mul_le_mul_left _ hby
   omega
  obtain ⟨f, hfam⟩ := choose_lt (α := α) (n := len) (p := fun i y => Pr y ∧ ∃ cs', cs'.length = sz ∧ R w y cs' ∧ ∀ j, j < sz → w.cell? ((a.add (i * sz)).add j) = cs'[j]?) (fun i hi => by
   obtain ⟨cs', c1, c2⟩ := hel i (by omega)
   obtain ⟨_, c3, c4⟩ := World.cells?_some c1
   rw [hc] at c3 c4
   obtain ⟨y, hy, hp⟩ := elem _ _ _ c3 c2 (h2 _ (List.mem_map.2 ⟨i, List.mem_range.2 hi, rfl⟩))
   exact ⟨y, hp, cs', c3, hy, c4⟩)
  refine ⟨(List.range len).map f, ⟨some a, m, by simp, by simp; omega, by simp; omega, fun i hi => ?_⟩, ?_, by simpa using hlb⟩
  ·simp only [List.length_map, List.length_range] at hi
   obtain ⟨_, cs', c1, c2, c3⟩ := hfam i hi
   refine ⟨a, cs', rfl, by simpa using c2, c1, fun j u hu => ?_⟩
   have hj : j < sz := by rw [← c1]; exact (List.getElem?_eq_some_iff.1 hu).1
   rw [← add_add, c3 j hj, hu]
  ·intro y hy
   obtain ⟨i, hi, rfl⟩ := List.mem_map.1 hy
   exact (hfam i (List.mem_range.1 hi)).1
theorem rd_ints2 {t e : TypeId} {k : IntKind} {v : Value} {fuel : Nat} {x : DataW H × List MemPlace} (ht : P.underlying t = some (.slice e)) (he : P.underlying e = some (.int k)) (hc : P.cellsOf e = 1) (hby : P.bytesOf e = 8)
  (h : DataW.trod enc P w base (fun _ => true) held fuel t [v] = some x) (hf : Fits P t x.1) : ∃ ys : List Int, Rd 1 (scR (Value.int k)) w v ys ∧ ys.length * 8 ≤ 140737488355328 := by
 obtain ⟨ys, h1, _, h3⟩ := rd_trod2 (R := scR (Value.int k)) (Pr := fun _ : Int => True) ht hc (by omega) (fun n cs y _ hy _ => by
  obtain ⟨z, rfl, _⟩ := DataW.trod_int he hy
  exact ⟨z, rfl, trivial⟩) h hf
 rw [hby] at h3
 exact ⟨ys, h1, h3⟩
theorem rd_rows2 {t e q : TypeId} {k : IntKind} {v : Value} {fuel : Nat} {x : DataW H × List MemPlace} (ht : P.underlying t = some (.slice e)) (he : P.underlying e = some (.slice q)) (hq : P.underlying q = some (.int k)) (hc : P.cellsOf e = 1) (hcq : P.cellsOf q = 1) (hby : P.bytesOf e = 24) (hbq : P.bytesOf q = 8)
  (h : DataW.trod enc P w base (fun _ => true) held fuel t [v] = some x) (hf : Fits P t x.1) : ∃ ys : List (List Int), Rd 1 (rowR 1 (scR (Value.int k))) w v ys ∧ (∀ l ∈ ys, l.length * 8 ≤ 140737488355328) ∧ ys.length * 24 ≤ 140737488355328 := by
 obtain ⟨ys, h1, h2, h3⟩ := rd_trod2 (R := rowR 1 (scR (Value.int k))) (Pr := fun l : List Int => l.length * 8 ≤ 140737488355328) ht hc (by omega) (fun n cs y hl hy hfy => by
  match cs, hl with
  | [u], _ =>
   obtain ⟨ys, hys, hb⟩ := rd_ints2 he hq hcq hbq hy hfy
   exact ⟨ys, ⟨u, rfl, hys⟩, hb⟩) h hf
 rw [hby] at h3
 exact ⟨ys, h1, h2, h3⟩
theorem rd_rules2 {t e ti : TypeId} {f0 f1 f2 : Field} {v : Value} {fuel : Nat} {x : DataW H × List MemPlace} (ht : P.underlying t = some (.slice e)) (he : P.underlying e = some (.struct #[f0, f1, f2])) (hc : P.cellsOf e = 3) (hby : P.bytesOf e = 40)
  (o0 : f0.offset = 0) (o1 : f1.offset = 1) (o2 : f2.offset = 2) (u0 : P.underlying f0.type = some (.int .i64)) (u1 : P.underlying f1.type = some (.int .i64)) (u2 : P.underlying f2.type = some (.slice ti)) (ui : P.underlying ti = some (.int .i64))
  (c0 : P.cellsOf f0.type = 1) (c1 : P.cellsOf f1.type = 1) (c2 : P.cellsOf f2.type = 1) (ci : P.cellsOf ti = 1) (bi : P.bytesOf ti = 8)
  (h : DataW.trod enc P w base (fun _ => true) held fuel t [v] = some x) (hf : Fits P t x.1) : ∃ ys : List Rule, Rd 3 ruleR w v ys ∧ (∀ r ∈ ys, r.body.length * 8 ≤ 140737488355328) ∧ ys.length * 40 ≤ 140737488355328 := by
 obtain ⟨ys, h1, h2, h3⟩ := rd_trod2 (R := ruleR) (Pr := fun r : Rule => r.body.length * 8 ≤ 140737488355328) ht hc (by omega) (fun n cs y hl hy hfy => by
  match cs, hl with
  | [a, b, c], _ =>
   obtain ⟨y0, y1, y2, n', hy', _, h0, h1, h2⟩ := trod_struct3 he hy
   subst hy'
   rw [o0, c0] at h0; rw [o1, c1] at h1; rw [o2, c2] at h2
   simp at h0 h1 h2
   obtain ⟨z0, e0, _⟩ := DataW.trod_int u0 h0
   obtain ⟨z1, e1, _⟩ := DataW.trod_int u1 h1
   simp at e0 e1
   obtain ⟨ys, hys, hb⟩ := rd_ints2 u2 ui ci bi h2 (hfy.part he 2 rfl rfl)
   exact ⟨⟨z0, z1, ys⟩, ⟨c, by rw [e0, e1], hys⟩, hb⟩) h hf
 rw [hby] at h3
 exact ⟨ys, h1, h2, h3⟩
end
theorem bytesInt8 : Tryz.prog.bytesOf 3 = 8 := by kernel_rfl
theorem bytesInts24 : Tryz.prog.bytesOf 36 = 24 := by kernel_rfl
theorem bytesRule40 : Tryz.prog.bytesOf 93 = 40 := by kernel_rfl
section
variable {H : Type} {enc : TypeId × Value → H} {w : World} {base : Nat}
set_option maxRecDepth 100000 in
theorem rd_theory_small {v : Value} {d : DataW H} {p : List MemPlace} (hv : Value.okWide Tryz.prog w .any base 25 v) (h : DataW.Trod enc Tryz.prog w 0 (fun _ => true) true 25 v d p) (hf : Fits Tryz.prog 25 d) : ∃ T, RdTh w v T ∧ Small T := by
 obtain ⟨v0, v1, v2, v3, y0, y1, y2, y3, n, rfl, rfl, _, h0, h1, h2, h3⟩ := open_agg4 Tryz.underlying25 (oneTheory _ Tryz.underlying25) cellsTheory hv h
 obtain ⟨z0, e0, _⟩ := DataW.trod_int Tryz.underlying3 h0
 simp only [List.cons.injEq, and_true] at e0
 subst e0
 obtain ⟨fo, hfo, f1, f2⟩ := rd_rows2 Tryz.underlying22 Tryz.underlying36 Tryz.underlying3 cellsInts cellsInt bytesInts24 bytesInt8 h1 (hf.part Tryz.underlying25 1 rfl rfl)
 obtain ⟨rs, hrs, r1, r2⟩ := rd_rules2 Tryz.underlying23 Tryz.underlying93 cellsRule bytesRule40 rfl rfl rfl Tryz.underlying91 Tryz.underlying3 Tryz.underlying36 Tryz.underlying3 cellsKind cellsInt cellsInts cellsInt bytesInt8 h2 (hf.part Tryz.underlying25 2 rfl rfl)
 obtain ⟨bs, hbs, b1, b2⟩ := rd_rows2 Tryz.underlying22 Tryz.underlying36 Tryz.underlying3 cellsInts cellsInt bytesInts24 bytesInt8 h3 (hf.part Tryz.underlying25 3 rfl rfl)
 exact ⟨⟨z0, fo, rs, bs⟩, ⟨v1, v2, v3, rfl, hfo, hrs, hbs⟩, ⟨f2, f1, r2, r1, b2, b1⟩⟩
end
end Go.Proofs.Lx

namespace Go.Proofs.Lx
open Go Go.RowKit Go.ChangeShapes Go.WideShapes Go.ChangeAt Go.Joins Go.Deep
set_option linter.unusedSimpArgs false
set_option linter.unusedVariables false
theorem cellsStep : Tryz.prog.cellsOf 38 = 3 := by kernel_rfl
theorem bytesStep40 : Tryz.prog.bytesOf 38 = 40 := by kernel_rfl
section
variable {H : Type} {enc : TypeId × Value → H} {w : World} {base : Nat}
set_option maxRecDepth 100000 in
theorem rd_steps_small {v : Value} {d : DataW H} {p : List MemPlace} (hv : Value.okWide Tryz.prog w .any base 26 v) (h : DataW.Trod enc Tryz.prog w 0 (fun _ => true) true 26 v d p) (hf : Fits Tryz.prog 26 d) : ∃ L : List Rule, RdRs w v L ∧ ∀ r ∈ L, r.body.length * 8 ≤ 140737488355328 := by
 obtain ⟨a0, len, cap, rfl⟩ := okWide_slice Tryz.underlying26 hv
 obtain ⟨fuel, h⟩ := h
 obtain ⟨L, h1, h2, _⟩ := rd_rules2 Tryz.underlying26 Tryz.underlying38 cellsStep bytesStep40 rfl rfl rfl Tryz.underlying3 Tryz.underlying3 Tryz.underlying36 Tryz.underlying3 cellsInt cellsInt cellsInts cellsInt bytesInt8 h hf
 exact ⟨L, h1, h2⟩
end
end Go.Proofs.Lx
