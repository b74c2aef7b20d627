/- Parts of the proof: Rw, Rt. From a row's reading of its arguments to this seat's words. No condition. -/
import Derived.Test.YtalhpldbhogadaaB1
import Derived.SizedLaws
import Derived.Lib.SmallJoins
import Derived.ProofKit
import Derived.OpenShut
import Derived.Test.YtalhpldbhogadaaRows
namespace Go.Proofs.Lx
open Go Go.RowKit Go.ChangeShapes Go.WideShapes Go.ChangeAt Go.Joins Go.Deep
set_option linter.unusedSimpArgs false
set_option linter.unusedVariables false

instance : Inhabited { y : Nat // y < 256 } := ⟨⟨0, by decide⟩⟩
section
variable {H : Type} {enc : TypeId × Value → H} {P : Program} {w : World} {base : Nat} {held : Bool}
/-- Each part is within the form's reach. -/
def Fits (P : Program) (t : TypeId) (d : DataW H) : Prop := ∀ n ∈ d.weights P t, n ≤ reachBytes
theorem weightsAll_mem {e : TypeId} {d : DataW H} : ∀ {ds : List (DataW H)}, d ∈ ds → ∀ n ∈ d.weights P e, n ∈ DataW.weightsAll P e ds
  | [], h => by simp at h
  | x :: ds, h => fun n hn => by
    rw [DataW.weightsAll, List.mem_append]
    rcases List.mem_cons.1 h with rfl | h
    · exact .inl hn
    · exact .inr (weightsAll_mem h n hn)
theorem Fits.elems {t e : TypeId} {es sp : List (DataW H)} (ht : P.underlying t = some (.slice e)) (h : Fits P t (.slice es sp)) :
    (es.length + sp.length) * P.bytesOf e ≤ reachBytes ∧ ∀ d ∈ es, Fits P e d := by
  have hw : (DataW.slice es sp).weights P t = (es.length + sp.length) * P.bytesOf e :: (DataW.weightsAll P e es ++ DataW.weightsAll P e sp) := by simp [DataW.weights, ht]
  unfold Fits at h
  rw [hw] at h
  exact ⟨h _ List.mem_cons_self, fun d hd n hn => h n (List.mem_cons_of_mem _ (List.mem_append_left _ (weightsAll_mem hd n hn)))⟩
theorem each_mem : ∀ {ts : List TypeId} {ds : List (DataW H)} {j : Nat} {t : TypeId} {d : DataW H}, ts[j]? = some t → ds[j]? = some d → ∀ n ∈ d.weights P t, n ∈ DataW.weightsEach P ts ds
  | [], _, _, _, _, h, _ => by simp at h
  | _ :: _, [], _, _, _, _, h => by simp at h
  | t0 :: ts, d0 :: ds, j, t, d, ht, hd => fun n hn => by
    rw [DataW.weightsEach, List.mem_append]
    match j, ht, hd with
    | 0, ht, hd =>
      simp at ht hd; subst ht; subst hd
      exact .inl hn
    | j + 1, ht, hd => exact .inr (each_mem (j := j) (by simpa using ht) (by simpa using hd) n hn)
theorem Fits.part {t u : TypeId} {fs : Array Field} {ps : List (DataW H)} {d : DataW H} (ht : P.underlying t = some (.struct fs)) (h : Fits P t (.agg ps)) (j : Nat) (hj : (fs.toList.map (·.type))[j]? = some u) (hd : ps[j]? = some d) : Fits P u d := by
  have hw : (DataW.agg ps).weights P t = DataW.weightsEach P (fs.toList.map (·.type)) ps := by simp [DataW.weights, ht]
  unfold Fits at h
  rw [hw] at h
  exact fun n hn => h n (each_mem hj hd n hn)
theorem Fits.arg {ts : List TypeId} {ds : List (DataW H)} (h : (DataW.weightsEach P ts ds).all (· ≤ reachBytes) = true) (j : Nat) {t : TypeId} {d : DataW H} (ht : ts[j]? = some t) (hd : ds[j]? = some d) : Fits P t d := fun n hn => by
  have := List.all_eq_true.1 h n (each_mem ht hd n hn)
  simpa using this

/-- A slice that reads, as a list. -/
theorem rd_trod {α : Type} [Inhabited α] {sz : Nat} {R : World → α → List Value → Prop} {t e : TypeId} {v : Value} {fuel : Nat} {x : DataW H × List MemPlace} (ht : P.underlying t = some (.slice e)) (hc : P.cellsOf e = sz) (hby : 1 ≤ P.bytesOf e)
    (elem : ∀ n cs (y : DataW H × List MemPlace), cs.length = sz → DataW.trod enc P w base (fun _ => true) held n e cs = some y → Fits P e y.1 → ∃ a : α, R w a cs)
    (h : DataW.trod enc P w base (fun _ => true) held fuel t [v] = some x) (hf : Fits P t x.1) : ∃ ys : List α, Rd sz R w v ys := by
  rcases open_slice ht h with ⟨hcs, hx⟩ | ⟨a, len, cap, m, n, D, Pl, hcs, hb, hl, hm, hmm, rfl, hel⟩
  · simp only [List.cons.injEq, and_true] at hcs
    subst hcs
    exact ⟨[], Rd.nil⟩
  · simp only [List.cons.injEq, and_true] at hcs
    subst hcs
    simp only [if_true] at hmm
    subst hmm
    obtain ⟨h1, h2⟩ := hf.elems ht
    have hlen : len ≤ 140737488355328 := by
      simp only [List.length_map, List.length_range, reachBytes] at h1
      have : len * 1 ≤ (len + (m - len)) * P.bytesOf e := Nat.mul_le_mul (by omega) hby
      omega
    obtain ⟨f, hfam⟩ := choose_lt (α := α) (n := len) (p := fun i y => ∃ cs', cs'.length = sz ∧ R w y cs' ∧ ∀ j, j < sz → w.cell? ((a.add (i * sz)).add j) = cs'[j]?) (fun i hi => by
      obtain ⟨cs', c1, c2⟩ := hel i (by omega)
      obtain ⟨_, c3, c4⟩ := World.cells?_some c1
      rw [hc] at c3 c4
      obtain ⟨y, hy⟩ := elem _ _ _ c3 c2 (h2 _ (List.mem_map.2 ⟨i, List.mem_range.2 hi, rfl⟩))
      exact ⟨y, cs', c3, hy, c4⟩)
    refine ⟨(List.range len).map f, some a, m, by simp, by simp; omega, by simp; omega, fun i hi => ?_⟩
    simp only [List.length_map, List.length_range] at hi
    obtain ⟨cs', c1, c2, c3⟩ := hfam i hi
    refine ⟨a, cs', rfl, by simpa using c2, c1, fun j u hu => ?_⟩
    have hj : j < sz := by rw [← c1]; exact (List.getElem?_eq_some_iff.1 hu).1
    rw [← add_add, c3 j hj, hu]
theorem rd_ints {t e : TypeId} {k : IntKind} {v : Value} {fuel : Nat} {x : DataW H × List MemPlace} (ht : P.underlying t = some (.slice e)) (he : P.underlying e = some (.int k)) (hc : P.cellsOf e = 1) (hby : 1 ≤ P.bytesOf e)
    (h : DataW.trod enc P w base (fun _ => true) held fuel t [v] = some x) (hf : Fits P t x.1) : ∃ ys : List Int, Rd 1 (scR (Value.int k)) w v ys := by
  refine rd_trod ht hc hby (fun n cs y _ hy _ => ?_) h hf
  obtain ⟨z, rfl, _⟩ := DataW.trod_int he hy
  exact ⟨z, rfl⟩
theorem rd_bytes {t e : TypeId} {v : Value} {fuel : Nat} {x : DataW H × List MemPlace} (ht : P.underlying t = some (.slice e)) (he : P.underlying e = some (.int .u8)) (hc : P.cellsOf e = 1) (hby : 1 ≤ P.bytesOf e)
    (h : DataW.trod enc P w base (fun _ => true) held fuel t [v] = some x) (hf : Fits P t x.1) : ∃ ys : List Nat, Rd 1 (scR fun x : Nat => Value.int .u8 (x : Int)) w v ys ∧ ∀ y ∈ ys, y < 256 := by
  obtain ⟨ys, hys⟩ := rd_trod (α := { y : Nat // y < 256 }) (R := scR fun x : { y : Nat // y < 256 } => Value.int .u8 (x.val : Int)) ht hc hby (fun n cs y _ hy _ => by
    obtain ⟨z, rfl, _, hw⟩ := DataW.trod_int he hy
    have hz : 0 ≤ z ∧ z ≤ 255 := by simpa [Lit.wf, IntKind.min, IntKind.max, IntKind.signed, IntKind.bits] using hw
    refine ⟨⟨z.toNat, by omega⟩, ?_⟩
    show [Value.int .u8 z] = [Value.int .u8 ((z.toNat : Nat) : Int)]
    rw [show ((z.toNat : Nat) : Int) = z by omega]) h hf
  refine ⟨ys.map (·.val), ?_, by simp; intro a ha h; exact ha⟩
  obtain ⟨A, c, rfl, h1, h2, h3⟩ := hys
  refine ⟨A, c, by simp, by simpa using h1, by simpa using h2, fun i hi => ?_⟩
  obtain ⟨ad, cs, e1, e2, e3, e4⟩ := h3 i (by simpa using hi)
  exact ⟨ad, cs, e1, by simpa [scR] using e2, e3, e4⟩
theorem rd_rows {t e q : TypeId} {k : IntKind} {v : Value} {fuel : Nat} {x : DataW H × List MemPlace} (ht : P.underlying t = some (.slice e)) (he : P.underlying e = some (.slice q)) (hq : P.underlying q = some (.int k)) (hc : P.cellsOf e = 1) (hcq : P.cellsOf q = 1) (hby : 1 ≤ P.bytesOf e) (hbq : 1 ≤ P.bytesOf q)
    (h : DataW.trod enc P w base (fun _ => true) held fuel t [v] = some x) (hf : Fits P t x.1) : ∃ ys : List (List Int), Rd 1 (rowR 1 (scR (Value.int k))) w v ys := by
  refine rd_trod ht hc hby (fun n cs y hl hy hfy => ?_) h hf
  match cs, hl with
  | [u], _ =>
    obtain ⟨ys, hys⟩ := rd_ints he hq hcq hbq hy hfy
    exact ⟨ys, u, rfl, hys⟩
theorem rd_rules {t e ti : TypeId} {f0 f1 f2 : Field} {v : Value} {fuel : Nat} {x : DataW H × List MemPlace} (ht : P.underlying t = some (.slice e)) (he : P.underlying e = some (.struct #[f0, f1, f2])) (hc : P.cellsOf e = 3) (hby : 1 ≤ P.bytesOf e)
    (o0 : f0.offset = 0) (o1 : f1.offset = 1) (o2 : f2.offset = 2) (u0 : P.underlying f0.type = some (.int .i64)) (u1 : P.underlying f1.type = some (.int .i64)) (u2 : P.underlying f2.type = some (.slice ti)) (ui : P.underlying ti = some (.int .i64))
    (c0 : P.cellsOf f0.type = 1) (c1 : P.cellsOf f1.type = 1) (c2 : P.cellsOf f2.type = 1) (ci : P.cellsOf ti = 1) (bi : 1 ≤ P.bytesOf ti)
    (h : DataW.trod enc P w base (fun _ => true) held fuel t [v] = some x) (hf : Fits P t x.1) : ∃ ys : List Rule, Rd 3 ruleR w v ys := by
  refine rd_trod ht hc hby (fun n cs y hl hy hfy => ?_) h hf
  match cs, hl with
  | [a, b, c], _ =>
    obtain ⟨y0, y1, y2, n', hy', _, h0, h1, h2⟩ := trod_struct3 he hy
    subst hy'
    rw [o0, c0] at h0; rw [o1, c1] at h1; rw [o2, c2] at h2
    simp at h0 h1 h2
    obtain ⟨z0, e0, _⟩ := DataW.trod_int u0 h0
    obtain ⟨z1, e1, _⟩ := DataW.trod_int u1 h1
    simp at e0 e1
    obtain ⟨ys, hys⟩ := rd_ints u2 ui ci bi h2 (hfy.part he 2 rfl rfl)
    exact ⟨⟨z0, z1, ys⟩, c, by rw [e0, e1], hys⟩
end
end Go.Proofs.Lx

namespace Go.Proofs.Lx
open Go Go.RowKit Go.ChangeShapes Go.WideShapes Go.ChangeAt Go.Joins Go.Deep
set_option linter.unusedSimpArgs false
set_option linter.unusedVariables false

theorem ownTry : ownKnob Try.prog.godebug = none := by kernel_rfl
theorem laidTry : laidOutB Try.prog = true := by kernel_rfl
theorem cellsTheory : Try.prog.cellsOf 25 = 4 := by kernel_rfl
theorem cellsRule : Try.prog.cellsOf 37 = 3 := by kernel_rfl
theorem cellsInt : Try.prog.cellsOf 3 = 1 := by kernel_rfl
theorem cellsInts : Try.prog.cellsOf 26 = 1 := by kernel_rfl
theorem cellsKind : Try.prog.cellsOf 35 = 1 := by kernel_rfl
theorem cellsMark : Try.prog.cellsOf 33 = 1 := by kernel_rfl
theorem bytesInt : 1 ≤ Try.prog.bytesOf 3 := of_decide_eq_true (by kernel_rfl)
theorem bytesInts : 1 ≤ Try.prog.bytesOf 26 := of_decide_eq_true (by kernel_rfl)
theorem bytesRule : 1 ≤ Try.prog.bytesOf 37 := of_decide_eq_true (by kernel_rfl)
theorem bytesMark : 1 ≤ Try.prog.bytesOf 33 := of_decide_eq_true (by kernel_rfl)
theorem oneTheory : ∀ fs, Try.prog.underlying 25 = some (.struct fs) → oneCellFields Try.prog fs = true := by
  intro fs h
  rw [Try.underlying25] at h
  cases h; kernel_rfl
section
variable {H : Type} {enc : TypeId × Value → H} {w : World} {base : Nat}
set_option maxRecDepth 100000 in
theorem rd_ints_arg {v : Value} {d : DataW H} {p : List MemPlace} (hv : Value.okWide Try.prog w .any base 26 v) (h : DataW.Trod enc Try.prog w 0 (fun _ => true) true 26 v d p) (hf : Fits Try.prog 26 d) : ∃ l, RdI w v l := by
  obtain ⟨a0, len, cap, rfl⟩ := okWide_slice Try.underlying26 hv
  obtain ⟨fuel, h⟩ := h
  exact rd_ints Try.underlying26 Try.underlying3 cellsInt bytesInt h hf
set_option maxRecDepth 100000 in
theorem rd_marks_arg {v : Value} {d : DataW H} {p : List MemPlace} (hv : Value.okWide Try.prog w .any base 28 v) (h : DataW.Trod enc Try.prog w 0 (fun _ => true) true 28 v d p) (hf : Fits Try.prog 28 d) :
    ∃ l : List Nat, Rd 1 (scR fun x : Nat => Value.int .u8 (x : Int)) w v l ∧ ∀ x ∈ l, x < 256 := by
  obtain ⟨a0, len, cap, rfl⟩ := okWide_slice Try.underlying28 hv
  obtain ⟨fuel, h⟩ := h
  exact rd_bytes Try.underlying28 Try.underlying33 cellsMark bytesMark h hf
set_option maxRecDepth 100000 in
theorem rd_theory {v : Value} {d : DataW H} {p : List MemPlace} (hv : Value.okWide Try.prog w .any base 25 v) (h : DataW.Trod enc Try.prog w 0 (fun _ => true) true 25 v d p) (hf : Fits Try.prog 25 d) : ∃ T, RdTh w v T := by
  obtain ⟨v0, v1, v2, v3, y0, y1, y2, y3, n, rfl, rfl, _, h0, h1, h2, h3⟩ := open_agg4 Try.underlying25 (oneTheory _ Try.underlying25) cellsTheory hv h
  obtain ⟨z0, e0, _⟩ := DataW.trod_int Try.underlying3 h0
  simp only [List.cons.injEq, and_true] at e0
  subst e0
  obtain ⟨fo, hfo⟩ := rd_rows Try.underlying22 Try.underlying26 Try.underlying3 cellsInts cellsInt bytesInts bytesInt h1 (hf.part Try.underlying25 1 rfl rfl)
  obtain ⟨rs, hrs⟩ := rd_rules Try.underlying23 Try.underlying37 cellsRule bytesRule rfl rfl rfl Try.underlying35 Try.underlying3 Try.underlying26 Try.underlying3 cellsKind cellsInt cellsInts cellsInt bytesInt h2 (hf.part Try.underlying25 2 rfl rfl)
  obtain ⟨bs, hbs⟩ := rd_rows Try.underlying22 Try.underlying26 Try.underlying3 cellsInts cellsInt bytesInts bytesInt h3 (hf.part Try.underlying25 3 rfl rfl)
  exact ⟨⟨z0, fo, rs, bs⟩, v1, v2, v3, rfl, hfo, hrs, hbs⟩
end
end Go.Proofs.Lx
