/- Parts of the proof: Wl, Rw, Rt. Contracts of fast.chosen and of the functions that it is handed. -/
import Derived.Test.YtalhpldbhogadaaU31
import Derived.Test.YtalhpldbhogadaaU1
import Derived.SizedLaws
import Derived.Lib.SmallJoins
import Derived.ProofKit
import Derived.OpenShut
import Derived.Test.YtalhpldbhogadaaRows
namespace Go.Proofs.Lx
open Go Go.RowKit Go.Proofs.Tj
set_option linter.unusedSimpArgs false
set_option linter.unusedVariables false
def pickL (p : Nat → Bool) (k : Nat) : List Int := ((List.range k).filter p).map fun (q : Nat) => (q : Int)
theorem pickL_succ (p : Nat → Bool) (k : Nat) : pickL p (k + 1) = pickL p k ++ if p k = true then [(k : Int)] else [] := by
 unfold pickL
 rw [List.range_succ, List.filter_append, List.map_append]
 congr 1
 cases h : p k <;> simp [h]
theorem pickL_le (p : Nat → Bool) (k : Nat) : (pickL p k).length ≤ k := by
 unfold pickL
 rw [List.length_map]
 have := List.length_filter_le p (List.range k)
 rwa [List.length_range] at this
theorem pickL_congr {p p' : Nat → Bool} {k : Nat} (h : ∀ q, q < k → p q = p' q) : pickL p k = pickL p' k := by
 unfold pickL
 rw [List.filter_congr fun q hq => h q (List.mem_range.1 hq)]
set_option maxHeartbeats 800000 in
theorem chosen_any (w : World) (n : Nat) (g : Nat) (caps : Array Value) (p : Nat → Bool) (hg : Enters Try.prog g) (hn : n ≤ 4096)
  (hf : ∀ q : Nat, q < n → ∀ w1, Below w.heap.size w w1 → Calls Try.prog g ((#[Value.int .i64 (q : Int)] : Array Value) ++ caps) w1 (Ret fun v w2 => v = .bool (p q) ∧ Below w1.heap.size w1 w2)) :
  Calls Try.prog 78 #[.int .i64 (n : Int), .func (.func g) #[] caps] w (Ret fun v w' => w'.ownsRow w.heap.size 3 1 v (pickL p n).length (intsV (pickL p n)) ∧ Below w.heap.size w w') := by
 have hgo : ∀ args w, (callFunc g args).run Try.prog w = .ok (.enter g args) w := hg
 obtain ⟨i0, hi, hz0, hz1, hz2⟩ := info_parts infoI
 have Hf := hid hf
 clear hf
 have Hs := hid (pickL_succ p)
 have Hle := hid (pickL_le p)
 have H0 : Hid (pickL p 0 = []) := hid rfl
 refine post_gen fun Q HQ => ?_
 go_enter Try.func78, Try.ntmps78
 go_wp2
 go_loopw [5, 8] (fun v5 v8 wr => ∃ k : Nat, k ≤ n ∧ v8 = .int .i64 k ∧ wr.ownsRow w.heap.size 3 1 v5 (pickL p k).length (intsV (pickL p k)) ∧ Below w.heap.size w wr) (fun _ v8 _ => n - (intOf v8).toNat)
 case atStart => exact ⟨0, Nat.zero_le _, rfl, by simpa [intsV, pickL] using World.ownsRow_nil _ _ _ _, ext_refl _⟩
 case round =>
  obtain ⟨k, hk, rfl, hown, hbl⟩ := hrel
  by_cases hlt : k < n
  ·have hfk := hid (Hf.out k hlt wr hbl)
   have hs := Hs.out k
   have hle := Hle.out k
   have Hown := hid hown
   clear hown
   go_wp2_with fail
   refine hfk.out.mono ?_
   rintro e w2 ⟨_, rfl, rfl, hb2⟩
   have hb12 := ext_trans hbl hb2
   have Hown2 := hid (own_ext Hown.out hb2)
   have hsz := hb12.size
   cases hp : p k with
   | true =>
    rw [hp, if_pos rfl] at hs
    have HS := hid hs
    generalize hL : pickL p k = L at *
    clear hL hp hs hfk
    go_wp2_with (at_builtin; refine wpList_append_own _ rfl _ _ 26 rfl w.heap.size 3 i0 (.int .i64 0) 1 8 Try.underlying26 hi hz0 hz1 hz2 rfl (by decide) _ L.length _ rfl (Hown2.out.alloc _) ⟨w2.heap.size, 0, none⟩ 1 1 [.int .i64 (k : Int)] rfl rfl (cell_one_new _ _ _) (fun u hu => by simp at hu; subst hu; rfl) (by unfold maxLen; omega) (by omega) (by simp; omega) ?_; intro v' w3 hown' hgrow3 hnil3)
    go_roundw
    case rel =>
     refine ⟨k + 1, by omega, by go_num, ?_, ?_⟩
     ·rw [HS.out, List.length_append, List.length_singleton]
      simpa [intsV] using hown'
     ·exact below_grown (hb12.alloc hsz _) (by simp; omega) hgrow3 (fun g e => (Hown2.out.lt g e).1)
    case measure => simp [intOf]; omega
   | false =>
    rw [hp, if_neg Bool.false_ne_true, List.append_nil] at hs
    have HS := hid hs
    clear hp hs hfk
    go_wp2_with fail
    go_roundw
    case rel =>
     refine ⟨k + 1, by omega, by go_num, ?_, hb12⟩
     rw [HS.out]; exact Hown2.out
    case measure => simp [intOf]; omega
  ·obtain rfl : k = n := by omega
   go_wp2
   go_ret
   exact Fin HQ ⟨hown, hbl⟩
theorem enters_set1 : Enters Try.prog 79 := enters_of Try.func79 (by kernel_rfl) (by kernel_rfl)
theorem enters_und1 : Enters Try.prog 80 := enters_of Try.func80 (by kernel_rfl) (by kernel_rfl)
theorem enters_dif1 : Enters Try.prog 81 := enters_of Try.func81 (by kernel_rfl) (by kernel_rfl)
theorem set1_any (W W0 : World) (G : Gh) (S : Stc) (T : Th) (D : Dyn) (h : Eng W W0 G S T D) (p1 p2 q tag : Nat) (hq : q < S.n) (h1 : 1 ≤ tag) (h4 : tag ≤ 4) (hx : D.marks q < 16) (hc1 : W.cell? ⟨p1, 0, none⟩ = some (.pointer (some ⟨G.b, 0, none⟩))) (hc2 : W.cell? ⟨p2, 0, none⟩ = some (.int .i64 (tag : Int))) :
  Calls Try.prog 79 ((#[Value.int .i64 (q : Int)] : Array Value) ++ #[.pointer (some ⟨p1, 0, none⟩), .pointer (some ⟨p2, 0, none⟩)]) W (Ret fun v w2 => v = .bool (hasT D q tag) ∧ Below W.heap.size W w2) := by
 have Hh := hid (ehas_any W W0 G S T D h q tag hq h1 h4 hx)
 clear h
 generalize hasT D q tag = B at *
 refine post_gen fun Q HQ => ?_
 go_enter Try.func79, Try.ntmps79
 go_wp2_with (go_at_call 77; refine Hh.out.mono ?_; rintro e w' ⟨_, rfl, rfl, rfl⟩)
 go_ret
 exact Fin HQ ⟨rfl, ext_refl _⟩
theorem und1_any (W W0 : World) (G : Gh) (S : Stc) (T : Th) (D : Dyn) (h : Eng W W0 G S T D) (p1 q : Nat) (hq : q < S.n) (hx : D.marks q < 16) (hc1 : W.cell? ⟨p1, 0, none⟩ = some (.pointer (some ⟨G.b, 0, none⟩))) :
  Calls Try.prog 80 ((#[Value.int .i64 (q : Int)] : Array Value) ++ #[.pointer (some ⟨p1, 0, none⟩)]) W (Ret fun v w2 => v = .bool (!hasT D q 3 && !hasT D q 4) ∧ Below W.heap.size W w2) := by
 have H3 := hid (ehas_any W W0 G S T D h q 3 hq (by omega) (by omega) hx)
 have H4 := hid (ehas_any W W0 G S T D h q 4 hq (by omega) (by omega) hx)
 clear h
 generalize hasT D q 3 = B at *
 generalize hasT D q 4 = C at *
 refine post_gen fun Q HQ => ?_
 cases B with
 | true =>
  go_enter Try.func80, Try.ntmps80
  go_wp2_with (go_at_call 77; refine H3.out.mono ?_; rintro e w' ⟨_, rfl, rfl, rfl⟩)
  go_ret
  exact Fin HQ ⟨rfl, ext_refl _⟩
 | false =>
  go_enter Try.func80, Try.ntmps80
  go_wp2_with fail
  refine H3.out.mono ?_
  rintro e w' ⟨_, rfl, rfl, rfl⟩
  go_wp2_with fail
  refine H4.out.mono ?_
  rintro e w' ⟨_, rfl, rfl, rfl⟩
  go_wp2_with fail
  go_ret
  exact Fin HQ ⟨rfl, ext_refl _⟩
end Go.Proofs.Lx

namespace Go.Proofs.Lx
open Go Go.RowKit Go.ChangeShapes Go.WideShapes Go.ChangeAt Go.Joins Go.Deep
set_option linter.unusedSimpArgs false
set_option linter.unusedVariables false

instance : Inhabited { y : Nat // y < 256 } := ⟨⟨0, by decide⟩⟩
section
variable {H : Type} {enc : TypeId × Value → H} {P : Program} {w : World} {base : Nat} {held : Bool}
/-- Each part is within the form's reach. -/
def Fits (P : Program) (t : TypeId) (d : DataW H) : Prop := ∀ n ∈ d.weights P t, n ≤ reachBytes
theorem weightsAll_mem {e : TypeId} {d : DataW H} : ∀ {ds : List (DataW H)}, d ∈ ds → ∀ n ∈ d.weights P e, n ∈ DataW.weightsAll P e ds
 | [], h => by simp at h
 | x :: ds, h => fun n hn => by
  rw [DataW.weightsAll, List.mem_append]
  rcases List.mem_cons.1 h with rfl | h
  ·exact .inl hn
  ·exact .inr (weightsAll_mem h n hn)
theorem Fits.elems {t e : TypeId} {es sp : List (DataW H)} (ht : P.underlying t = some (.slice e)) (h : Fits P t (.slice es sp)) :
  (es.length + sp.length) * P.bytesOf e ≤ reachBytes ∧ ∀ d ∈ es, Fits P e d := by
 have hw : (DataW.slice es sp).weights P t = (es.length + sp.length) * P.bytesOf e :: (DataW.weightsAll P e es ++ DataW.weightsAll P e sp) := by simp [DataW.weights, ht]
 unfold Fits at h
 rw [hw] at h
 exact ⟨h _ List.mem_cons_self, fun d hd n hn => h n (List.mem_cons_of_mem _ (List.mem_append_left _ (weightsAll_mem hd n hn)))⟩
theorem each_mem : ∀ {ts : List TypeId} {ds : List (DataW H)} {j : Nat} {t : TypeId} {d : DataW H}, ts[j]? = some t → ds[j]? = some d → ∀ n ∈ d.weights P t, n ∈ DataW.weightsEach P ts ds
 | [], _, _, _, _, h, _ => by simp at h
 | _ :: _, [], _, _, _, _, h => by simp at h
 | t0 :: ts, d0 :: ds, j, t, d, ht, hd => fun n hn => by
  rw [DataW.weightsEach, List.mem_append]
  match j, ht, hd with
  | 0, ht, hd =>
   simp at ht hd; subst ht; subst hd
   exact .inl hn
  | j + 1, ht, hd => exact .inr (each_mem (j := j) (by simpa using ht) (by simpa using hd) n hn)
theorem Fits.part {t u : TypeId} {fs : Array Field} {ps : List (DataW H)} {d : DataW H} (ht : P.underlying t = some (.struct fs)) (h : Fits P t (.agg ps)) (j : Nat) (hj : (fs.toList.map (·.type))[j]? = some u) (hd : ps[j]? = some d) : Fits P u d := by
 have hw : (DataW.agg ps).weights P t = DataW.weightsEach P (fs.toList.map (·.type)) ps := by simp [DataW.weights, ht]
 unfold Fits at h
 rw [hw] at h
 exact fun n hn => h n (each_mem hj hd n hn)
theorem Fits.arg {ts : List TypeId} {ds : List (DataW H)} (h : (DataW.weightsEach P ts ds).all (· ≤ reachBytes) = true) (j : Nat) {t : TypeId} {d : DataW H} (ht : ts[j]? = some t) (hd : ds[j]? = some d) : Fits P t d := fun n hn => by
 have := List.all_eq_true.1 h n (each_mem ht hd n hn)
 simpa using this

/-- A slice that reads, as a list. -/
theorem rd_trod {α : Type} [Inhabited α] {sz : Nat} {R : World → α → List Value → Prop} {t e : TypeId} {v : Value} {fuel : Nat} {x : DataW H × List MemPlace} (ht : P.underlying t = some (.slice e)) (hc : P.cellsOf e = sz) (hby : 1 ≤ P.bytesOf e)
  (elem : ∀ n cs (y : DataW H × List MemPlace), cs.length = sz → DataW.trod enc P w base (fun _ => true) held n e cs = some y → Fits P e y.1 → ∃ a : α, R w a cs)
  (h : DataW.trod enc P w base (fun _ => true) held fuel t [v] = some x) (hf : Fits P t x.1) : ∃ ys : List α, Rd sz R w v ys := by
 rcases open_slice ht h with ⟨hcs, hx⟩ | ⟨a, len, cap, m, n, D, Pl, hcs, hb, hl, hm, hmm, rfl, hel⟩
 ·simp only [List.cons.injEq, and_true] at hcs
  subst hcs
  exact ⟨[], Rd.nil⟩
 ·simp only [List.cons.injEq, and_true] at hcs
  subst hcs
  simp only [if_true] at hmm
  subst hmm
  obtain ⟨h1, h2⟩ := hf.elems ht
  have hlen : len ≤ 140737488355328 := by
   simp only [List.length_map, List.length_range, reachBytes] at h1
   have : len * 1 ≤ (len + (m - len)) * P.bytesOf e := Nat.mul_le_mul (by omega) hby
   omega
  obtain ⟨f, hfam⟩ := choose_lt (α := α) (n := len) (p := fun i y => ∃ cs', cs'.length = sz ∧ R w y cs' ∧ ∀ j, j < sz → w.cell? ((a.add (i * sz)).add j) = cs'[j]?) (fun i hi => by
   obtain ⟨cs', c1, c2⟩ := hel i (by omega)
   obtain ⟨_, c3, c4⟩ := World.cells?_some c1
   rw [hc] at c3 c4
   obtain ⟨y, hy⟩ := elem _ _ _ c3 c2 (h2 _ (List.mem_map.2 ⟨i, List.mem_range.2 hi, rfl⟩))
   exact ⟨y, cs', c3, hy, c4⟩)
  refine ⟨(List.range len).map f, some a, m, by simp, by simp; omega, by simp; omega, fun i hi => ?_⟩
  simp only [List.length_map, List.length_range] at hi
  obtain ⟨cs', c1, c2, c3⟩ := hfam i hi
  refine ⟨a, cs', rfl, by simpa using c2, c1, fun j u hu => ?_⟩
  have hj : j < sz := by rw [← c1]; exact (List.getElem?_eq_some_iff.1 hu).1
  rw [← add_add, c3 j hj, hu]
theorem rd_ints {t e : TypeId} {k : IntKind} {v : Value} {fuel : Nat} {x : DataW H × List MemPlace} (ht : P.underlying t = some (.slice e)) (he : P.underlying e = some (.int k)) (hc : P.cellsOf e = 1) (hby : 1 ≤ P.bytesOf e)
  (h : DataW.trod enc P w base (fun _ => true) held fuel t [v] = some x) (hf : Fits P t x.1) : ∃ ys : List Int, Rd 1 (scR (Value.int k)) w v ys := by
 refine rd_trod ht hc hby (fun n cs y _ hy _ => ?_) h hf
 obtain ⟨z, rfl, _⟩ := DataW.trod_int he hy
 exact ⟨z, rfl⟩
theorem rd_bytes {t e : TypeId} {v : Value} {fuel : Nat} {x : DataW H × List MemPlace} (ht : P.underlying t = some (.slice e)) (he : P.underlying e = some (.int .u8)) (hc : P.cellsOf e = 1) (hby : 1 ≤ P.bytesOf e)
  (h : DataW.trod enc P w base (fun _ => true) held fuel t [v] = some x) (hf : Fits P t x.1) : ∃ ys : List Nat, Rd 1 (scR fun x : Nat => Value.int .u8 (x : Int)) w v ys ∧ ∀ y ∈ ys, y < 256 := by
 obtain ⟨ys, hys⟩ := rd_trod (α := { y : Nat // y < 256 }) (R := scR fun x : { y : Nat // y < 256 } => Value.int .u8 (x.val : Int)) ht hc hby (fun n cs y _ hy _ => by
  obtain ⟨z, rfl, _, hw⟩ := DataW.trod_int he hy
  have hz : 0 ≤ z ∧ z ≤ 255 := by simpa [Lit.wf, IntKind.min, IntKind.max, IntKind.signed, IntKind.bits] using hw
  refine ⟨⟨z.toNat, by omega⟩, ?_⟩
  show [Value.int .u8 z] = [Value.int .u8 ((z.toNat : Nat) : Int)]
  rw [show ((z.toNat : Nat) : Int) = z by omega]) h hf
 refine ⟨ys.map (·.val), ?_, by simp; intro a ha h; exact ha⟩
 obtain ⟨A, c, rfl, h1, h2, h3⟩ := hys
 refine ⟨A, c, by simp, by simpa using h1, by simpa using h2, fun i hi => ?_⟩
 obtain ⟨ad, cs, e1, e2, e3, e4⟩ := h3 i (by simpa using hi)
 exact ⟨ad, cs, e1, by simpa [scR] using e2, e3, e4⟩
theorem rd_rows {t e q : TypeId} {k : IntKind} {v : Value} {fuel : Nat} {x : DataW H × List MemPlace} (ht : P.underlying t = some (.slice e)) (he : P.underlying e = some (.slice q)) (hq : P.underlying q = some (.int k)) (hc : P.cellsOf e = 1) (hcq : P.cellsOf q = 1) (hby : 1 ≤ P.bytesOf e) (hbq : 1 ≤ P.bytesOf q)
  (h : DataW.trod enc P w base (fun _ => true) held fuel t [v] = some x) (hf : Fits P t x.1) : ∃ ys : List (List Int), Rd 1 (rowR 1 (scR (Value.int k))) w v ys := by
 refine rd_trod ht hc hby (fun n cs y hl hy hfy => ?_) h hf
 match cs, hl with
 | [u], _ =>
  obtain ⟨ys, hys⟩ := rd_ints he hq hcq hbq hy hfy
  exact ⟨ys, u, rfl, hys⟩
theorem rd_rules {t e ti : TypeId} {f0 f1 f2 : Field} {v : Value} {fuel : Nat} {x : DataW H × List MemPlace} (ht : P.underlying t = some (.slice e)) (he : P.underlying e = some (.struct #[f0, f1, f2])) (hc : P.cellsOf e = 3) (hby : 1 ≤ P.bytesOf e)
  (o0 : f0.offset = 0) (o1 : f1.offset = 1) (o2 : f2.offset = 2) (u0 : P.underlying f0.type = some (.int .i64)) (u1 : P.underlying f1.type = some (.int .i64)) (u2 : P.underlying f2.type = some (.slice ti)) (ui : P.underlying ti = some (.int .i64))
  (c0 : P.cellsOf f0.type = 1) (c1 : P.cellsOf f1.type = 1) (c2 : P.cellsOf f2.type = 1) (ci : P.cellsOf ti = 1) (bi : 1 ≤ P.bytesOf ti)
  (h : DataW.trod enc P w base (fun _ => true) held fuel t [v] = some x) (hf : Fits P t x.1) : ∃ ys : List Rule, Rd 3 ruleR w v ys := by
 refine rd_trod ht hc hby (fun n cs y hl hy hfy => ?_) h hf
 match cs, hl with
 | [a, b, c], _ =>
  obtain ⟨y0, y1, y2, n', hy', _, h0, h1, h2⟩ := trod_struct3 he hy
  subst hy'
  rw [o0, c0] at h0; rw [o1, c1] at h1; rw [o2, c2] at h2
  simp at h0 h1 h2
  obtain ⟨z0, e0, _⟩ := DataW.trod_int u0 h0
  obtain ⟨z1, e1, _⟩ := DataW.trod_int u1 h1
  simp at e0 e1
  obtain ⟨ys, hys⟩ := rd_ints u2 ui ci bi h2 (hfy.part he 2 rfl rfl)
  exact ⟨⟨z0, z1, ys⟩, c, by rw [e0, e1], hys⟩
end
end Go.Proofs.Lx

namespace Go.Proofs.Lx
open Go Go.RowKit Go.ChangeShapes Go.WideShapes Go.ChangeAt Go.Joins Go.Deep
set_option linter.unusedSimpArgs false
set_option linter.unusedVariables false

theorem ownTry : ownKnob Try.prog.godebug = none := by kernel_rfl
theorem laidTry : laidOutB Try.prog = true := by kernel_rfl
theorem cellsTheory : Try.prog.cellsOf 25 = 4 := by kernel_rfl
theorem cellsRule : Try.prog.cellsOf 37 = 3 := by kernel_rfl
theorem cellsInt : Try.prog.cellsOf 3 = 1 := by kernel_rfl
theorem cellsInts : Try.prog.cellsOf 26 = 1 := by kernel_rfl
theorem cellsKind : Try.prog.cellsOf 35 = 1 := by kernel_rfl
theorem cellsMark : Try.prog.cellsOf 33 = 1 := by kernel_rfl
theorem bytesInt : 1 ≤ Try.prog.bytesOf 3 := of_decide_eq_true (by kernel_rfl)
theorem bytesInts : 1 ≤ Try.prog.bytesOf 26 := of_decide_eq_true (by kernel_rfl)
theorem bytesRule : 1 ≤ Try.prog.bytesOf 37 := of_decide_eq_true (by kernel_rfl)
theorem bytesMark : 1 ≤ Try.prog.bytesOf 33 := of_decide_eq_true (by kernel_rfl)
theorem oneTheory : ∀ fs, Try.prog.underlying 25 = some (.struct fs) → oneCellFields Try.prog fs = true := by
 intro fs h
 rw [Try.underlying25] at h
 cases h; kernel_rfl
section
variable {H : Type} {enc : TypeId × Value → H} {w : World} {base : Nat}
set_option maxRecDepth 100000 in
theorem rd_ints_arg {v : Value} {d : DataW H} {p : List MemPlace} (hv : Value.okWide Try.prog w .any base 26 v) (h : DataW.Trod enc Try.prog w 0 (fun _ => true) true 26 v d p) (hf : Fits Try.prog 26 d) : ∃ l, RdI w v l := by
 obtain ⟨a0, len, cap, rfl⟩ := okWide_slice Try.underlying26 hv
 obtain ⟨fuel, h⟩ := h
 exact rd_ints Try.underlying26 Try.underlying3 cellsInt bytesInt h hf
set_option maxRecDepth 100000 in
theorem rd_marks_arg {v : Value} {d : DataW H} {p : List MemPlace} (hv : Value.okWide Try.prog w .any base 28 v) (h : DataW.Trod enc Try.prog w 0 (fun _ => true) true 28 v d p) (hf : Fits Try.prog 28 d) :
  ∃ l : List Nat, Rd 1 (scR fun x : Nat => Value.int .u8 (x : Int)) w v l ∧ ∀ x ∈ l, x < 256 := by
 obtain ⟨a0, len, cap, rfl⟩ := okWide_slice Try.underlying28 hv
 obtain ⟨fuel, h⟩ := h
 exact rd_bytes Try.underlying28 Try.underlying33 cellsMark bytesMark h hf
set_option maxRecDepth 100000 in
theorem rd_theory {v : Value} {d : DataW H} {p : List MemPlace} (hv : Value.okWide Try.prog w .any base 25 v) (h : DataW.Trod enc Try.prog w 0 (fun _ => true) true 25 v d p) (hf : Fits Try.prog 25 d) : ∃ T, RdTh w v T := by
 obtain ⟨v0, v1, v2, v3, y0, y1, y2, y3, n, rfl, rfl, _, h0, h1, h2, h3⟩ := open_agg4 Try.underlying25 (oneTheory _ Try.underlying25) cellsTheory hv h
 obtain ⟨z0, e0, _⟩ := DataW.trod_int Try.underlying3 h0
 simp only [List.cons.injEq, and_true] at e0
 subst e0
 obtain ⟨fo, hfo⟩ := rd_rows Try.underlying22 Try.underlying26 Try.underlying3 cellsInts cellsInt bytesInts bytesInt h1 (hf.part Try.underlying25 1 rfl rfl)
 obtain ⟨rs, hrs⟩ := rd_rules Try.underlying23 Try.underlying37 cellsRule bytesRule rfl rfl rfl Try.underlying35 Try.underlying3 Try.underlying26 Try.underlying3 cellsKind cellsInt cellsInts cellsInt bytesInt h2 (hf.part Try.underlying25 2 rfl rfl)
 obtain ⟨bs, hbs⟩ := rd_rows Try.underlying22 Try.underlying26 Try.underlying3 cellsInts cellsInt bytesInts bytesInt h3 (hf.part Try.underlying25 3 rfl rfl)
 exact ⟨⟨z0, fo, rs, bs⟩, v1, v2, v3, rfl, hfo, hrs, hbs⟩
end
end Go.Proofs.Lx
