/- Parts of the proof: La, Rw, Rt, Ca, Cb, Cc, Lb, Cd, Ce, Cf, Ta, Tb, Va, Vr, Vb. Small words for the walks of this seat: a call that returns; a slice that reads as a list; a theory. No condition. -/
import Derived.WalkKit
import Derived.Handy
import Derived.Deep.LoopGhost
import Derived.Deep.QuietTactic
import Derived.BigQuiet
import Derived.SizedLaws
import Derived.Lib.SmallJoins
import Derived.ProofKit
import Derived.OpenShut
import Derived.Test.YtalhpldbhogadaaRows
import Derived.Test.YtalhpldbhogadaaProg
import Derived.Deep.OwnRows
import Derived.Laws.Rows
import Derived.RegionTactic
import Derived.Deep.RegionLaw
import Derived.Deep.DeepCutAuto
namespace Go.Proofs.Lx
open Go Go.RowKit

/-- The call returns a value of which Q holds. -/
def Ret (Q : Value → World → Prop) (e : Ending) (w' : World) : Prop := ∃ v, e = .returned v ∧ Q v w'
theorem Ret.mk {Q : Value → World → Prop} {v : Value} {w : World} (h : Q v w) : Ret Q (.returned v) w := ⟨v, rfl, h⟩
theorem Ret.mono {Q Q' : Value → World → Prop} {e : Ending} {w : World} (h : Ret Q e w) (hq : ∀ v w, Q v w → Q' v w) : Ret Q' e w := by
  obtain ⟨v, rfl, q⟩ := h
  exact ⟨v, rfl, hq _ _ q⟩
/-- The post behind a variable: the walk can't turn it. -/
theorem post_gen {P : Program} {f : FuncId} {args : Array Value} {w : World} {Q0 : Value → World → Prop} (h : ∀ Q : Value → World → Prop, Hid (∀ v w', Q0 v w' → Q v w') → Calls P f args w (Ret Q)) : Calls P f args w (Ret Q0) := h Q0 (fun _ _ q => q)
theorem Fin {Q0 Q : Value → World → Prop} (HQ : Hid (∀ v w', Q0 v w' → Q v w')) {v : Value} {w' : World} (h : Q0 v w') : Ret Q (.returned v) w' := ⟨v, rfl, HQ v w' h⟩
theorem hid {p : Prop} (h : p) : Hid p := h

/-- A function of the program that has a body. -/
def Enters (P : Program) (g : Nat) : Prop := ∀ args w, (callFunc g args).run P w = .ok (.enter g args) w

theorem enters_of {P : Program} {g : Nat} {fn : Func} (hf : P.funcs[g]? = some fn) (h1 : (fn.name == "runtime.NumGoroutine") = false) (h2 : fn.body.isNone = false) : Enters P g := by
  intro args w
  have h1' : fn.name ≠ "runtime.NumGoroutine" := by simpa using h1
  have h2' : fn.body ≠ none := by intro h; rw [h] at h2; simp at h2
  simp [callFunc, go_sem, hf, h1', h2']
theorem add_zero (ad : Addr) : ad.add 0 = ad := by simp [Addr.add]
theorem add_add (ad : Addr) (i j : Nat) : (ad.add i).add j = ad.add (i + j) := by
  unfold Addr.add
  by_cases hi : i = 0
  · simp [hi]
  · by_cases hj : j = 0
    · simp [hi, hj]
    · simp [hi, hj, Nat.add_assoc]
theorem add_block (ad : Addr) (i : Nat) : (ad.add i).block = ad.block := by unfold Addr.add; split <;> rfl
theorem add_field (ad : Addr) (i j : Nat) (hj : 0 < j) : ad.add (i + j) = ⟨(ad.add i).block, (ad.add i).off + j, none⟩ := by
  rw [← add_add]; generalize ad.add i = b
  unfold Addr.add; rw [if_neg (by omega)]
theorem add_plain (g j : Nat) : (⟨g, 0, none⟩ : Addr).add j = ⟨g, j, none⟩ := by unfold Addr.add; split <;> simp_all

theorem cell_ext {w w' : World} (hb : Below w.heap.size w w') {a : Addr} {v : Value} (h : w.cell? a = some v) : w'.cell? a = some v := (hb.cell (World.block_lt_of_cell? w a h)).trans h
theorem ext_trans {a b c : World} (h : Below a.heap.size a b) (k : Below b.heap.size b c) : Below a.heap.size a c := h.trans (k.mono h.size)
theorem ext_refl (w : World) : Below w.heap.size w w := Below.refl _ _
theorem ext_alloc (w : World) (o : Obj) : Below w.heap.size w (w.alloc o) := (Below.refl _ _).alloc (Nat.le_refl _) o
theorem ext_drewN (w : World) (n : Nat) : Below w.heap.size w (w.drewN n) := by
  induction n with
  | zero => exact Below.refl _ _
  | succ n ih => rw [← World.drew_drewN]; exact ih.drew
theorem base_trans {B : Nat} {a b c : World} (h : Below B a b) (hB : B ≤ b.heap.size) (k : Below b.heap.size b c) : Below B a c := h.trans (k.mono hB)

/-- The cells from A on read as xs, sz cells each, told by R. -/
def RdC {α : Type} (sz : Nat) (R : World → α → List Value → Prop) (w : World) (A : Option Addr) (xs : List α) : Prop :=
  ∀ i (h : i < xs.length), ∃ ad cs, A = some ad ∧ R w xs[i] cs ∧ cs.length = sz ∧ ∀ j u, cs[j]? = some u → w.cell? (ad.add (i * sz + j)) = some u
/-- A slice value that reads as xs. -/
def Rd {α : Type} (sz : Nat) (R : World → α → List Value → Prop) (w : World) (v : Value) (xs : List α) : Prop :=
  ∃ A c, v = .slice A xs.length c ∧ xs.length ≤ c ∧ xs.length ≤ 140737488355328 ∧ RdC sz R w A xs
def MonoR {α : Type} (R : World → α → List Value → Prop) : Prop := ∀ (w w' : World) (x : α) (cs : List Value), Below w.heap.size w w' → R w x cs → R w' x cs
theorem RdC.ext {α : Type} {sz : Nat} {R : World → α → List Value → Prop} (hR : MonoR R) {w w' : World} {A : Option Addr} {xs : List α} (h : RdC sz R w A xs) (hb : Below w.heap.size w w') : RdC sz R w' A xs := by
  intro i hi
  obtain ⟨ad, cs, hA, hr, hl, hc⟩ := h i hi
  exact ⟨ad, cs, hA, hR _ _ _ _ hb hr, hl, fun j u hu => cell_ext hb (hc j u hu)⟩
theorem Rd.ext {α : Type} {sz : Nat} {R : World → α → List Value → Prop} (hR : MonoR R) {w w' : World} {v : Value} {xs : List α} (h : Rd sz R w v xs) (hb : Below w.heap.size w w') : Rd sz R w' v xs := by
  obtain ⟨A, c, rfl, hc, hm, hr⟩ := h
  exact ⟨A, c, rfl, hc, hm, hr.ext hR hb⟩
theorem RdC.nil {α : Type} {sz : Nat} {R : World → α → List Value → Prop} {w : World} {A : Option Addr} : RdC sz R w A ([] : List α) := fun i h => absurd h (by simp)
theorem Rd.nil {α : Type} {sz : Nat} {R : World → α → List Value → Prop} {w : World} : Rd sz R w (.slice none 0 0) ([] : List α) := ⟨none, 0, rfl, by simp, by simp, RdC.nil⟩

/-- One cell: a scalar. -/
def scR {α : Type} (enc : α → Value) : World → α → List Value → Prop := fun _ x cs => cs = [enc x]
theorem scR_mono {α : Type} (enc : α → Value) : MonoR (scR enc) := fun _ _ _ _ _ h => h
/-- One cell: a slice. -/
def rowR {α : Type} (sz : Nat) (R : World → α → List Value → Prop) : World → List α → List Value → Prop := fun w xs cs => ∃ v, cs = [v] ∧ Rd sz R w v xs
theorem rowR_mono {α : Type} {sz : Nat} {R : World → α → List Value → Prop} (hR : MonoR R) : MonoR (rowR sz R) := fun _ _ _ _ hb ⟨v, e, h⟩ => ⟨v, e, h.ext hR hb⟩

theorem RdC.at1 {α : Type} {enc : α → Value} {w : World} {A : Option Addr} {xs : List α} (h : RdC 1 (scR enc) w A xs) {k : Nat} (hk : k < xs.length) :
    ∃ ad, A = some ad ∧ w.cell? (ad.add k) = some (enc xs[k]) := by
  obtain ⟨ad, cs, hA, hr, hl, hc⟩ := h k hk
  have := hc 0 (enc xs[k]) (by rw [hr]; rfl)
  exact ⟨ad, hA, by simpa using this⟩
theorem RdC.atRow {α : Type} {sz : Nat} {R : World → α → List Value → Prop} {w : World} {A : Option Addr} {xs : List (List α)} (h : RdC 1 (rowR sz R) w A xs) {k : Nat} (hk : k < xs.length) :
    ∃ ad B c, A = some ad ∧ w.cell? (ad.add k) = some (.slice B xs[k].length c) ∧ xs[k].length ≤ c ∧ xs[k].length ≤ 140737488355328 ∧ RdC sz R w B xs[k] := by
  obtain ⟨ad, cs, hA, ⟨v, rfl, B, c, rfl, h1, h2, h3⟩, hl, hc⟩ := h k hk
  have := hc 0 _ rfl
  exact ⟨ad, B, c, hA, by simpa using this, h1, h2, h3⟩
theorem RdC.atRowV {α : Type} {sz : Nat} {R : World → α → List Value → Prop} {w : World} {A : Option Addr} {xs : List (List α)} (h : RdC 1 (rowR sz R) w A xs) {k : Nat} (hk : k < xs.length) :
    ∃ ad v, A = some ad ∧ w.cell? (ad.add k) = some v ∧ Rd sz R w v xs[k] := by
  obtain ⟨ad, cs, hA, ⟨v, rfl, hv⟩, hl, hc⟩ := h k hk
  have := hc 0 _ rfl
  exact ⟨ad, v, hA, by simpa using this, hv⟩

abbrev RdI := Rd 1 (scR (Value.int .i64))
abbrev RdB := Rd 1 (scR Value.bool)
abbrev RdM := Rd 1 (scR (Value.int .u8))
abbrev RdLL := Rd 1 (rowR 1 (scR (Value.int .i64)))
abbrev RcI := RdC 1 (scR (Value.int .i64))
abbrev RcB := RdC 1 (scR Value.bool)
abbrev RcM := RdC 1 (scR (Value.int .u8))
abbrev RcLL := RdC 1 (rowR 1 (scR (Value.int .i64)))
theorem llR_mono : MonoR (rowR 1 (scR (Value.int .i64))) := rowR_mono (scR_mono _)

/-- A rule, a theory. -/
structure Rule where
  kind : Int
  head : Int
  body : List Int
structure Th where
  lits : Int
  foes : List (List Int)
  rules : List Rule
  beats : List (List Int)
instance : Inhabited Rule := ⟨⟨0, 0, []⟩⟩

def ruleR : World → Rule → List Value → Prop := fun w r cs => ∃ v, cs = [.int .i64 r.kind, .int .i64 r.head, v] ∧ RdI w v r.body
theorem ruleR_mono : MonoR ruleR := fun _ _ _ _ hb ⟨v, e, h⟩ => ⟨v, e, h.ext (scR_mono _) hb⟩
abbrev RdRs := Rd 3 ruleR
abbrev RcRs := RdC 3 ruleR
theorem RdC.atRule {w : World} {A : Option Addr} {rs : List Rule} (h : RcRs w A rs) {k : Nat} (hk : k < rs.length) :
    ∃ ad B c, A = some ad ∧ w.cell? (ad.add (k * 3)) = some (.int .i64 rs[k].kind) ∧ w.cell? ⟨(ad.add (k * 3)).block, (ad.add (k * 3)).off + 1, none⟩ = some (.int .i64 rs[k].head) ∧
      w.cell? ⟨(ad.add (k * 3)).block, (ad.add (k * 3)).off + 2, none⟩ = some (.slice B rs[k].body.length c) ∧ rs[k].body.length ≤ c ∧ rs[k].body.length ≤ 140737488355328 ∧ RcI w B rs[k].body := by
  obtain ⟨ad, cs, hA, ⟨v, rfl, B, c, rfl, h1, h2, h3⟩, hl, hc⟩ := h k hk
  have c0 := hc 0 _ rfl
  have c1 := hc 1 _ rfl
  have c2 := hc 2 _ rfl
  rw [Nat.add_zero] at c0
  rw [add_field _ _ _ (by omega)] at c1 c2
  exact ⟨ad, B, c, hA, c0, c1, c2, h1, h2, h3⟩
/-- A theory's value. -/
def RdTh (w : World) (V : Value) (T : Th) : Prop := ∃ vF vR vB, V = .agg #[.int .i64 T.lits, vF, vR, vB] ∧ RdLL w vF T.foes ∧ RdRs w vR T.rules ∧ RdLL w vB T.beats
theorem RdTh.ext {w w' : World} {V : Value} {T : Th} (h : RdTh w V T) (hb : Below w.heap.size w w') : RdTh w' V T := by
  obtain ⟨vF, vR, vB, rfl, h1, h2, h3⟩ := h
  exact ⟨vF, vR, vB, rfl, h1.ext llR_mono hb, h2.ext ruleR_mono hb, h3.ext llR_mono hb⟩

def memB (l : List Int) (x : Int) : Bool := l.contains x
theorem memB_true {l : List Int} {x : Int} : memB l x = true ↔ x ∈ l := by simp [memB]
theorem memB_false {l : List Int} {x : Int} : memB l x = false ↔ x ∉ l := by simp [memB]
def ltCount (l : List Int) (x : Int) : Nat := l.countP (· < x)
theorem int_eq {k : IntKind} {a b : Int} (h : a = b) : Value.int k a = Value.int k b := by rw [h]
end Go.Proofs.Lx

namespace Go.Proofs.Lx
open Go Go.RowKit Go.ChangeShapes Go.WideShapes Go.ChangeAt Go.Joins Go.Deep
set_option linter.unusedSimpArgs false
set_option linter.unusedVariables false

instance : Inhabited { y : Nat // y < 256 } := ⟨⟨0, by decide⟩⟩
section
variable {H : Type} {enc : TypeId × Value → H} {P : Program} {w : World} {base : Nat} {held : Bool}
/-- Each part is within the form's reach. -/
def Fits (P : Program) (t : TypeId) (d : DataW H) : Prop := ∀ n ∈ d.weights P t, n ≤ reachBytes
theorem weightsAll_mem {e : TypeId} {d : DataW H} : ∀ {ds : List (DataW H)}, d ∈ ds → ∀ n ∈ d.weights P e, n ∈ DataW.weightsAll P e ds
  | [], h => by simp at h
  | x :: ds, h => fun n hn => by
    rw [DataW.weightsAll, List.mem_append]
    rcases List.mem_cons.1 h with rfl | h
    · exact .inl hn
    · exact .inr (weightsAll_mem h n hn)
theorem Fits.elems {t e : TypeId} {es sp : List (DataW H)} (ht : P.underlying t = some (.slice e)) (h : Fits P t (.slice es sp)) :
    (es.length + sp.length) * P.bytesOf e ≤ reachBytes ∧ ∀ d ∈ es, Fits P e d := by
  have hw : (DataW.slice es sp).weights P t = (es.length + sp.length) * P.bytesOf e :: (DataW.weightsAll P e es ++ DataW.weightsAll P e sp) := by simp [DataW.weights, ht]
  unfold Fits at h
  rw [hw] at h
  exact ⟨h _ List.mem_cons_self, fun d hd n hn => h n (List.mem_cons_of_mem _ (List.mem_append_left _ (weightsAll_mem hd n hn)))⟩
theorem each_mem : ∀ {ts : List TypeId} {ds : List (DataW H)} {j : Nat} {t : TypeId} {d : DataW H}, ts[j]? = some t → ds[j]? = some d → ∀ n ∈ d.weights P t, n ∈ DataW.weightsEach P ts ds
  | [], _, _, _, _, h, _ => by simp at h
  | _ :: _, [], _, _, _, _, h => by simp at h
  | t0 :: ts, d0 :: ds, j, t, d, ht, hd => fun n hn => by
    rw [DataW.weightsEach, List.mem_append]
    match j, ht, hd with
    | 0, ht, hd =>
      simp at ht hd; subst ht; subst hd
      exact .inl hn
    | j + 1, ht, hd => exact .inr (each_mem (j := j) (by simpa using ht) (by simpa using hd) n hn)
theorem Fits.part {t u : TypeId} {fs : Array Field} {ps : List (DataW H)} {d : DataW H} (ht : P.underlying t = some (.struct fs)) (h : Fits P t (.agg ps)) (j : Nat) (hj : (fs.toList.map (·.type))[j]? = some u) (hd : ps[j]? = some d) : Fits P u d := by
  have hw : (DataW.agg ps).weights P t = DataW.weightsEach P (fs.toList.map (·.type)) ps := by simp [DataW.weights, ht]
  unfold Fits at h
  rw [hw] at h
  exact fun n hn => h n (each_mem hj hd n hn)
theorem Fits.arg {ts : List TypeId} {ds : List (DataW H)} (h : (DataW.weightsEach P ts ds).all (· ≤ reachBytes) = true) (j : Nat) {t : TypeId} {d : DataW H} (ht : ts[j]? = some t) (hd : ds[j]? = some d) : Fits P t d := fun n hn => by
  have := List.all_eq_true.1 h n (each_mem ht hd n hn)
  simpa using this

/-- A slice that reads, as a list. -/
theorem rd_trod {α : Type} [Inhabited α] {sz : Nat} {R : World → α → List Value → Prop} {t e : TypeId} {v : Value} {fuel : Nat} {x : DataW H × List MemPlace} (ht : P.underlying t = some (.slice e)) (hc : P.cellsOf e = sz) (hby : 1 ≤ P.bytesOf e)
    (elem : ∀ n cs (y : DataW H × List MemPlace), cs.length = sz → DataW.trod enc P w base (fun _ => true) held n e cs = some y → Fits P e y.1 → ∃ a : α, R w a cs)
    (h : DataW.trod enc P w base (fun _ => true) held fuel t [v] = some x) (hf : Fits P t x.1) : ∃ ys : List α, Rd sz R w v ys := by
  rcases open_slice ht h with ⟨hcs, hx⟩ | ⟨a, len, cap, m, n, D, Pl, hcs, hb, hl, hm, hmm, rfl, hel⟩
  · simp only [List.cons.injEq, and_true] at hcs
    subst hcs
    exact ⟨[], Rd.nil⟩
  · simp only [List.cons.injEq, and_true] at hcs
    subst hcs
    simp only [if_true] at hmm
    subst hmm
    obtain ⟨h1, h2⟩ := hf.elems ht
    have hlen : len ≤ 140737488355328 := by
      simp only [List.length_map, List.length_range, reachBytes] at h1
      have : len * 1 ≤ (len + (m - len)) * P.bytesOf e := Nat.mul_le_mul (by omega) hby
      omega
    obtain ⟨f, hfam⟩ := choose_lt (α := α) (n := len) (p := fun i y => ∃ cs', cs'.length = sz ∧ R w y cs' ∧ ∀ j, j < sz → w.cell? ((a.add (i * sz)).add j) = cs'[j]?) (fun i hi => by
      obtain ⟨cs', c1, c2⟩ := hel i (by omega)
      obtain ⟨_, c3, c4⟩ := World.cells?_some c1
      rw [hc] at c3 c4
      obtain ⟨y, hy⟩ := elem _ _ _ c3 c2 (h2 _ (List.mem_map.2 ⟨i, List.mem_range.2 hi, rfl⟩))
      exact ⟨y, cs', c3, hy, c4⟩)
    refine ⟨(List.range len).map f, some a, m, by simp, by simp; omega, by simp; omega, fun i hi => ?_⟩
    simp only [List.length_map, List.length_range] at hi
    obtain ⟨cs', c1, c2, c3⟩ := hfam i hi
    refine ⟨a, cs', rfl, by simpa using c2, c1, fun j u hu => ?_⟩
    have hj : j < sz := by rw [← c1]; exact (List.getElem?_eq_some_iff.1 hu).1
    rw [← add_add, c3 j hj, hu]
theorem rd_ints {t e : TypeId} {k : IntKind} {v : Value} {fuel : Nat} {x : DataW H × List MemPlace} (ht : P.underlying t = some (.slice e)) (he : P.underlying e = some (.int k)) (hc : P.cellsOf e = 1) (hby : 1 ≤ P.bytesOf e)
    (h : DataW.trod enc P w base (fun _ => true) held fuel t [v] = some x) (hf : Fits P t x.1) : ∃ ys : List Int, Rd 1 (scR (Value.int k)) w v ys := by
  refine rd_trod ht hc hby (fun n cs y _ hy _ => ?_) h hf
  obtain ⟨z, rfl, _⟩ := DataW.trod_int he hy
  exact ⟨z, rfl⟩
theorem rd_bytes {t e : TypeId} {v : Value} {fuel : Nat} {x : DataW H × List MemPlace} (ht : P.underlying t = some (.slice e)) (he : P.underlying e = some (.int .u8)) (hc : P.cellsOf e = 1) (hby : 1 ≤ P.bytesOf e)
    (h : DataW.trod enc P w base (fun _ => true) held fuel t [v] = some x) (hf : Fits P t x.1) : ∃ ys : List Nat, Rd 1 (scR fun x : Nat => Value.int .u8 (x : Int)) w v ys ∧ ∀ y ∈ ys, y < 256 := by
  obtain ⟨ys, hys⟩ := rd_trod (α := { y : Nat // y < 256 }) (R := scR fun x : { y : Nat // y < 256 } => Value.int .u8 (x.val : Int)) ht hc hby (fun n cs y _ hy _ => by
    obtain ⟨z, rfl, _, hw⟩ := DataW.trod_int he hy
    have hz : 0 ≤ z ∧ z ≤ 255 := by simpa [Lit.wf, IntKind.min, IntKind.max, IntKind.signed, IntKind.bits] using hw
    refine ⟨⟨z.toNat, by omega⟩, ?_⟩
    show [Value.int .u8 z] = [Value.int .u8 ((z.toNat : Nat) : Int)]
    rw [show ((z.toNat : Nat) : Int) = z by omega]) h hf
  refine ⟨ys.map (·.val), ?_, by simp; intro a ha h; exact ha⟩
  obtain ⟨A, c, rfl, h1, h2, h3⟩ := hys
  refine ⟨A, c, by simp, by simpa using h1, by simpa using h2, fun i hi => ?_⟩
  obtain ⟨ad, cs, e1, e2, e3, e4⟩ := h3 i (by simpa using hi)
  exact ⟨ad, cs, e1, by simpa [scR] using e2, e3, e4⟩
theorem rd_rows {t e q : TypeId} {k : IntKind} {v : Value} {fuel : Nat} {x : DataW H × List MemPlace} (ht : P.underlying t = some (.slice e)) (he : P.underlying e = some (.slice q)) (hq : P.underlying q = some (.int k)) (hc : P.cellsOf e = 1) (hcq : P.cellsOf q = 1) (hby : 1 ≤ P.bytesOf e) (hbq : 1 ≤ P.bytesOf q)
    (h : DataW.trod enc P w base (fun _ => true) held fuel t [v] = some x) (hf : Fits P t x.1) : ∃ ys : List (List Int), Rd 1 (rowR 1 (scR (Value.int k))) w v ys := by
  refine rd_trod ht hc hby (fun n cs y hl hy hfy => ?_) h hf
  match cs, hl with
  | [u], _ =>
    obtain ⟨ys, hys⟩ := rd_ints he hq hcq hbq hy hfy
    exact ⟨ys, u, rfl, hys⟩
theorem rd_rules {t e ti : TypeId} {f0 f1 f2 : Field} {v : Value} {fuel : Nat} {x : DataW H × List MemPlace} (ht : P.underlying t = some (.slice e)) (he : P.underlying e = some (.struct #[f0, f1, f2])) (hc : P.cellsOf e = 3) (hby : 1 ≤ P.bytesOf e)
    (o0 : f0.offset = 0) (o1 : f1.offset = 1) (o2 : f2.offset = 2) (u0 : P.underlying f0.type = some (.int .i64)) (u1 : P.underlying f1.type = some (.int .i64)) (u2 : P.underlying f2.type = some (.slice ti)) (ui : P.underlying ti = some (.int .i64))
    (c0 : P.cellsOf f0.type = 1) (c1 : P.cellsOf f1.type = 1) (c2 : P.cellsOf f2.type = 1) (ci : P.cellsOf ti = 1) (bi : 1 ≤ P.bytesOf ti)
    (h : DataW.trod enc P w base (fun _ => true) held fuel t [v] = some x) (hf : Fits P t x.1) : ∃ ys : List Rule, Rd 3 ruleR w v ys := by
  refine rd_trod ht hc hby (fun n cs y hl hy hfy => ?_) h hf
  match cs, hl with
  | [a, b, c], _ =>
    obtain ⟨y0, y1, y2, n', hy', _, h0, h1, h2⟩ := trod_struct3 he hy
    subst hy'
    rw [o0, c0] at h0; rw [o1, c1] at h1; rw [o2, c2] at h2
    simp at h0 h1 h2
    obtain ⟨z0, e0, _⟩ := DataW.trod_int u0 h0
    obtain ⟨z1, e1, _⟩ := DataW.trod_int u1 h1
    simp at e0 e1
    obtain ⟨ys, hys⟩ := rd_ints u2 ui ci bi h2 (hfy.part he 2 rfl rfl)
    exact ⟨⟨z0, z1, ys⟩, c, by rw [e0, e1], hys⟩
end
end Go.Proofs.Lx

namespace Go.Proofs.Lx
open Go Go.RowKit Go.ChangeShapes Go.WideShapes Go.ChangeAt Go.Joins Go.Deep
set_option linter.unusedSimpArgs false
set_option linter.unusedVariables false

theorem ownTry : ownKnob Try.prog.godebug = none := by kernel_rfl
theorem laidTry : laidOutB Try.prog = true := by kernel_rfl
theorem cellsTheory : Try.prog.cellsOf 25 = 4 := by kernel_rfl
theorem cellsRule : Try.prog.cellsOf 37 = 3 := by kernel_rfl
theorem cellsInt : Try.prog.cellsOf 3 = 1 := by kernel_rfl
theorem cellsInts : Try.prog.cellsOf 26 = 1 := by kernel_rfl
theorem cellsKind : Try.prog.cellsOf 35 = 1 := by kernel_rfl
theorem cellsMark : Try.prog.cellsOf 33 = 1 := by kernel_rfl
theorem bytesInt : 1 ≤ Try.prog.bytesOf 3 := of_decide_eq_true (by kernel_rfl)
theorem bytesInts : 1 ≤ Try.prog.bytesOf 26 := of_decide_eq_true (by kernel_rfl)
theorem bytesRule : 1 ≤ Try.prog.bytesOf 37 := of_decide_eq_true (by kernel_rfl)
theorem bytesMark : 1 ≤ Try.prog.bytesOf 33 := of_decide_eq_true (by kernel_rfl)
theorem oneTheory : ∀ fs, Try.prog.underlying 25 = some (.struct fs) → oneCellFields Try.prog fs = true := by
  intro fs h
  rw [Try.underlying25] at h
  cases h; kernel_rfl
section
variable {H : Type} {enc : TypeId × Value → H} {w : World} {base : Nat}
set_option maxRecDepth 100000 in
theorem rd_ints_arg {v : Value} {d : DataW H} {p : List MemPlace} (hv : Value.okWide Try.prog w .any base 26 v) (h : DataW.Trod enc Try.prog w 0 (fun _ => true) true 26 v d p) (hf : Fits Try.prog 26 d) : ∃ l, RdI w v l := by
  obtain ⟨a0, len, cap, rfl⟩ := okWide_slice Try.underlying26 hv
  obtain ⟨fuel, h⟩ := h
  exact rd_ints Try.underlying26 Try.underlying3 cellsInt bytesInt h hf
set_option maxRecDepth 100000 in
theorem rd_marks_arg {v : Value} {d : DataW H} {p : List MemPlace} (hv : Value.okWide Try.prog w .any base 28 v) (h : DataW.Trod enc Try.prog w 0 (fun _ => true) true 28 v d p) (hf : Fits Try.prog 28 d) :
    ∃ l : List Nat, Rd 1 (scR fun x : Nat => Value.int .u8 (x : Int)) w v l ∧ ∀ x ∈ l, x < 256 := by
  obtain ⟨a0, len, cap, rfl⟩ := okWide_slice Try.underlying28 hv
  obtain ⟨fuel, h⟩ := h
  exact rd_bytes Try.underlying28 Try.underlying33 cellsMark bytesMark h hf
set_option maxRecDepth 100000 in
theorem rd_theory {v : Value} {d : DataW H} {p : List MemPlace} (hv : Value.okWide Try.prog w .any base 25 v) (h : DataW.Trod enc Try.prog w 0 (fun _ => true) true 25 v d p) (hf : Fits Try.prog 25 d) : ∃ T, RdTh w v T := by
  obtain ⟨v0, v1, v2, v3, y0, y1, y2, y3, n, rfl, rfl, _, h0, h1, h2, h3⟩ := open_agg4 Try.underlying25 (oneTheory _ Try.underlying25) cellsTheory hv h
  obtain ⟨z0, e0, _⟩ := DataW.trod_int Try.underlying3 h0
  simp only [List.cons.injEq, and_true] at e0
  subst e0
  obtain ⟨fo, hfo⟩ := rd_rows Try.underlying22 Try.underlying26 Try.underlying3 cellsInts cellsInt bytesInts bytesInt h1 (hf.part Try.underlying25 1 rfl rfl)
  obtain ⟨rs, hrs⟩ := rd_rules Try.underlying23 Try.underlying37 cellsRule bytesRule rfl rfl rfl Try.underlying35 Try.underlying3 Try.underlying26 Try.underlying3 cellsKind cellsInt cellsInts cellsInt bytesInt h2 (hf.part Try.underlying25 2 rfl rfl)
  obtain ⟨bs, hbs⟩ := rd_rows Try.underlying22 Try.underlying26 Try.underlying3 cellsInts cellsInt bytesInts bytesInt h3 (hf.part Try.underlying25 3 rfl rfl)
  exact ⟨⟨z0, fo, rs, bs⟩, v1, v2, v3, rfl, hfo, hrs, hbs⟩
end
end Go.Proofs.Lx

namespace Go.Proofs.Lx
open Go Go.RowKit

def idxOf (p : Int → Bool) (xs : List Int) : Int := match xs.findIdx? p with | some i => i | none => -1
theorem idxOf_nonneg (p : Int → Bool) (xs : List Int) : decide (0 ≤ idxOf p xs) = xs.any p := by
  unfold idxOf
  cases h : xs.findIdx? p with
  | none =>
    rw [List.findIdx?_eq_none_iff] at h
    simp only [Int.reduceNeg, show ¬ ((0 : Int) ≤ -1) by decide, decide_false]
    symm
    rw [List.any_eq_false]
    exact fun x hx => by simp [h x hx]
  | some i =>
    rw [List.findIdx?_eq_some_iff_getElem] at h
    obtain ⟨hi, hp, _⟩ := h
    simp only [Int.natCast_nonneg, decide_true]
    symm
    rw [List.any_eq_true]
    exact ⟨xs[i], List.getElem_mem hi, hp⟩

/-- What a function value over an int does: it answers p and turns nothing that is there. -/
def FunB (P : Program) (w : World) (g : Nat) (caps : Array Value) (p : Int → Bool) (x : Int) : Prop :=
  ∀ w1, Below w.heap.size w w1 → Calls P g ((#[Value.int .i64 x] : Array Value) ++ caps) w1 (Ret fun v w2 => v = .bool (p x) ∧ Below w1.heap.size w1 w2)

theorem indexFunc (w : World) (v : Value) (xs : List Int) (g : Nat) (caps : Array Value) (p : Int → Bool)
   (hg : Enters Try.prog g) (hv : RdI w v xs) (hf : ∀ x ∈ xs, FunB Try.prog w g caps p x) :
   Calls Try.prog 157 #[v, .func (.func g) #[] caps] w (Ret fun v w' => v = .int .i64 (idxOf p xs) ∧ Below w.heap.size w w') := by
  obtain ⟨A, c, rfl, hc, hb, hr⟩ := hv
  have hgo : ∀ args w, (callFunc g args).run Try.prog w = .ok (.enter g args) w := hg
  have Hf := hid hf
  clear hf
  go_enter Try.func157, Try.ntmps157
  go_wp2
  go_loopw [8] (fun v8 wr => ∃ k : Nat, k ≤ xs.length ∧ v8 = .int .i64 k ∧ Hid (∀ i (h : i < xs.length), i < k → p xs[i] = false) ∧ Below w.heap.size w wr) (fun v8 _ => xs.length - (intOf v8).toNat)
  case atStart => exact ⟨0, Nat.zero_le _, rfl, fun i h hk => absurd hk (by omega), Below.refl _ _⟩
  case round =>
    obtain ⟨k, hk, rfl, hno, hbl⟩ := hrel
    by_cases hlt : k < xs.length
    · obtain ⟨ad, rfl, hcell⟩ := (hr.ext (scR_mono _) hbl).at1 hlt
      have hfk := Hf.out xs[k] (List.getElem_mem hlt) wr hbl
      go_wp2_with fail
      refine hfk.mono ?_
      rintro e w2 ⟨_, rfl, rfl, hb2⟩
      clear hfk
      cases hp : p xs[k] with
      | true =>
        have Hp := hid hp
        clear hp
        go_wp2
        go_ret
        refine ⟨_, rfl, ?_, hbl.trans (hb2.mono hbl.size)⟩
        have : xs.findIdx? p = some k := by
          rw [List.findIdx?_eq_some_iff_getElem]
          exact ⟨hlt, Hp.out, fun j hj => by simp [hno.out j (by omega) hj]⟩
        simp [idxOf, this]
      | false =>
        have Hp := hid hp
        clear hp
        go_wp2
        go_roundw
        case rel =>
          refine ⟨k + 1, by omega, by go_num, ?_, hbl.trans (hb2.mono hbl.size)⟩
          intro i h hi
          by_cases e : i = k
          · subst e; exact Hp.out
          · exact hno.out i h (by omega)
        case measure => simp [intOf]; omega
    · go_wp2
      go_ret
      refine ⟨_, rfl, ?_, hbl⟩
      have : xs.findIdx? p = none := by
        rw [List.findIdx?_eq_none_iff]
        intro x hx
        obtain ⟨i, hi, rfl⟩ := List.getElem_of_mem hx
        exact hno.out i hi (by omega)
      simp [idxOf, this]

theorem containsFunc (w : World) (v : Value) (xs : List Int) (g : Nat) (caps : Array Value) (p : Int → Bool)
   (hg : Enters Try.prog g) (hv : RdI w v xs) (hf : ∀ x ∈ xs, FunB Try.prog w g caps p x) :
   Calls Try.prog 122 #[v, .func (.func g) #[] caps] w (Ret fun v w' => v = .bool (xs.any p) ∧ Below w.heap.size w w') := by
  have Hf := hid hf
  clear hf
  go_enter Try.func122, Try.ntmps122
  go_wp2_with fail
  refine (indexFunc w v xs g caps p hg hv Hf.out).mono ?_
  rintro e w2 ⟨_, rfl, rfl, hb2⟩
  have hi := idxOf_nonneg p xs
  generalize idxOf p xs = r at *
  have Hi := hid hi
  clear hi
  go_wp2
  go_ret
  exact ⟨_, rfl, by rw [← Hi.out]; rfl, hb2⟩

theorem index_any (w : World) (v : Value) (xs : List Int) (x : Int) (hv : RdI w v xs) :
   Calls Try.prog 164 #[v, .int .i64 x] w (Ret fun v w' => v = .int .i64 (idxOf (fun y => x == y) xs) ∧ w' = w) := by
  obtain ⟨A, c, rfl, hc, hb, hr⟩ := hv
  go_enter Try.func164, Try.ntmps164
  go_wp2
  go_loop [8] (fun v8 => ∃ k : Nat, k ≤ xs.length ∧ v8 = .int .i64 k ∧ Hid (∀ i (h : i < xs.length), i < k → (x == xs[i]) = false)) (fun v8 => xs.length - (intOf v8).toNat)
  case atStart => exact ⟨0, Nat.zero_le _, rfl, fun i h hk => absurd hk (by omega)⟩
  case round =>
    obtain ⟨k, hk, rfl, hno⟩ := hrel
    by_cases hlt : k < xs.length
    · obtain ⟨ad, rfl, hcell⟩ := hr.at1 hlt
      cases hp : (x == xs[k]) with
      | true =>
        go_wp2
        go_ret
        refine ⟨_, rfl, ?_, rfl⟩
        have : xs.findIdx? (fun y => x == y) = some k := by
          rw [List.findIdx?_eq_some_iff_getElem]
          exact ⟨hlt, hp, fun j hj => by simp only [hno.out j (by omega) hj]; simp⟩
        simp [idxOf, this]
      | false =>
        go_wp2
        go_round
        case rel =>
          refine ⟨k + 1, by omega, by go_num, ?_⟩
          intro i h hi
          by_cases e : i = k
          · subst e; exact hp
          · exact hno.out i h (by omega)
        case measure => simp [intOf]; omega
    · go_wp2
      go_ret
      refine ⟨_, rfl, ?_, rfl⟩
      have : xs.findIdx? (fun y => x == y) = none := by
        rw [List.findIdx?_eq_none_iff]
        intro y hx
        obtain ⟨i, hi, rfl⟩ := List.getElem_of_mem hx
        exact hno.out i hi (by omega)
      simp [idxOf, this]

theorem contains_any (w : World) (v : Value) (xs : List Int) (x : Int) (hv : RdI w v xs) :
   Calls Try.prog 154 #[v, .int .i64 x] w (Ret fun v w' => v = .bool (memB xs x) ∧ w' = w) := by
  go_enter Try.func154, Try.ntmps154
  go_wp2_with fail
  refine (index_any w v xs x hv).mono ?_
  rintro e w2 ⟨_, rfl, rfl, rfl⟩
  have hi := idxOf_nonneg (fun y => x == y) xs
  generalize idxOf (fun y => x == y) xs = r at *
  have Hi := hid hi
  clear hi
  go_wp2
  go_ret
  exact ⟨_, rfl, by rw [memB, List.contains_eq_any_beq, ← Hi.out]; rfl, rfl⟩

theorem cmpIsNaN_any (x : Int) (w : World) : Calls Try.prog 168 #[.int .i64 x] w (Ret fun v w' => v = .bool false ∧ w' = w) := by
  go_enter Try.func168, Try.ntmps168
  go_wp2
  go_ret
  exact ⟨_, rfl, by simp, rfl⟩
theorem isNaN_any (x : Int) (w : World) : Calls Try.prog 167 #[.int .i64 x] w (Ret fun v w' => v = .bool false ∧ w' = w) := by
  go_enter Try.func167, Try.ntmps167
  go_wp2
  go_ret
  exact ⟨_, rfl, by simp, rfl⟩
theorem less_any (x y : Int) (w : World) : Calls Try.prog 166 #[.int .i64 x, .int .i64 y] w (Ret fun v w' => v = .bool (decide (x < y)) ∧ w' = w) := by
  go_enter Try.func166, Try.ntmps166
  go_wp2_with (go_at_call 168; refine (cmpIsNaN_any _ _).mono ?_; rintro e w' ⟨_, rfl, rfl, rfl⟩)
  go_ret
  exact ⟨_, rfl, by simp, rfl⟩
end Go.Proofs.Lx

namespace Go.Proofs.Lx
open Go Go.RowKit

/-- Rising, from 0 on, below n. -/
def risingB (n : Int) : List Int → Bool
  | [] => true
  | x :: l => decide (0 ≤ x) && decide (x < n) && (match l with | [] => true | y :: _ => decide (x < y)) && risingB n l
def risOk (l : List Int) (n : Int) (i : Nat) : Bool := decide (0 ≤ l.getD i 0) && decide (l.getD i 0 < n) && (decide (i = 0) || decide (l.getD (i - 1) 0 < l.getD i 0))
def risB (l : List Int) (n : Int) : Bool := (List.range l.length).all (risOk l n)
theorem risB_true {l : List Int} {n : Int} : risB l n = true ↔ ∀ i, i < l.length → risOk l n i = true := by simp [risB]
theorem risB_false {l : List Int} {n : Int} {i : Nat} (h : i < l.length) (hf : risOk l n i = false) : risB l n = false := by
  rw [Bool.eq_false_iff]; intro ht
  rw [risB_true.1 ht i h] at hf; cases hf

set_option maxHeartbeats 400000 in
theorem rising_any (w : World) (v : Value) (l : List Int) (n : Int) (hv : RdI w v l) :
   Calls Try.prog 112 #[v, .int .i64 n] w (Ret fun v w' => v = .bool (risB l n) ∧ w' = w) := by
  obtain ⟨A, c, rfl, hc, hb, hr⟩ := hv
  go_enter Try.func112, Try.ntmps112
  go_wp2
  go_loop [9] (fun v9 => ∃ k : Nat, k ≤ l.length ∧ v9 = .int .i64 k ∧ Hid (∀ i, i < k → risOk l n i = true)) (fun v9 => l.length - (intOf v9).toNat)
  case atStart => exact ⟨0, Nat.zero_le _, rfl, fun i hk => absurd hk (by omega)⟩
  case round =>
    obtain ⟨k, hk, rfl, hno⟩ := hrel
    by_cases hlt : k < l.length
    · obtain ⟨ad, rfl, hcell⟩ := hr.at1 hlt
      have hg : l[k] = l.getD k 0 := by simp [hlt]
      by_cases h0 : 0 < k
      · obtain ⟨ad', e', hcell'⟩ := hr.at1 (k := k - 1) (by omega)
        cases e'
        have hk1 : ((k : Int) - 1).toNat = k - 1 := by omega
        have hg' : l[k - 1] = l.getD (k - 1) 0 := by simp [show k - 1 < l.length by omega]
        have Hok : Hid (risOk l n k = (decide (0 ≤ l[k]) && decide (l[k] < n) && decide (l[k - 1] < l[k]))) := by rw [hg, hg']; simp [Hid, risOk, show k ≠ 0 by omega]
        clear hg hg'
        generalize l[k] = x at *
        generalize l[k - 1] = y at *
        go_wp2
        all_goals first
          | (go_ret; exact ⟨_, rfl, by rw [risB_false hlt (by rw [Hok.out]; simp; omega)]; rfl, rfl⟩)
          | (go_round
             case rel =>
               refine ⟨k + 1, by omega, by go_num, fun i hi => ?_⟩
               by_cases e : i = k
               · subst e; rw [Hok.out]; simp; omega
               · exact hno.out i (by omega)
             case measure => simp [intOf]; omega)
      · have Hok : Hid (risOk l n k = (decide (0 ≤ l[k]) && decide (l[k] < n))) := by rw [hg]; simp [Hid, risOk, show k = 0 by omega]
        clear hg
        generalize l[k] = x at *
        go_wp2
        all_goals first
          | (go_ret; exact ⟨_, rfl, by rw [risB_false hlt (by rw [Hok.out]; simp; omega)]; rfl, rfl⟩)
          | (go_round
             case rel =>
               refine ⟨k + 1, by omega, by go_num, fun i hi => ?_⟩
               by_cases e : i = k
               · subst e; rw [Hok.out]; simp; omega
               · exact hno.out i (by omega)
             case measure => simp [intOf]; omega)
    · go_wp2
      go_ret
      exact ⟨_, rfl, by rw [risB_true.2 (fun i hi => hno.out i (by omega))]; rfl, rfl⟩

theorem pw_lt {l : List Int} (hs : l.Pairwise (· < ·)) {i j : Nat} (hi : i < j) (hj : j < l.length) : l[i] < l[j] := List.pairwise_iff_getElem.1 hs i j (by omega) hj hi
theorem countP_at {l : List Int} {x : Int} {i : Nat} (hi : i ≤ l.length) (h1 : ∀ t (h : t < l.length), t < i → l[t] < x) (h2 : ∀ t (h : t < l.length), i ≤ t → x ≤ l[t]) : l.countP (· < x) = i := by
  rw [← List.take_append_drop i l, List.countP_append]
  have e1 : (l.take i).countP (· < x) = i := by
    rw [List.countP_eq_length.2]
    · simp; omega
    · intro y hy
      obtain ⟨t, ht, rfl⟩ := List.getElem_of_mem hy
      simp at ht ⊢
      exact h1 t (by omega) (by omega)
  have e2 : (l.drop i).countP (· < x) = 0 := by
    rw [List.countP_eq_zero]
    intro y hy
    obtain ⟨t, ht, rfl⟩ := List.getElem_of_mem hy
    simp at ht ⊢
    exact h2 (i + t) (by omega) (by omega)
  omega

set_option maxHeartbeats 400000 in
theorem binarySearch_any (w : World) (v : Value) (l : List Int) (x : Int) (hv : RdI w v l) (hs : l.Pairwise (· < ·)) :
   Calls Try.prog 163 #[v, .int .i64 x] w (Ret fun v w' => v = .tuple #[.int .i64 (ltCount l x : Nat), .bool (memB l x)] ∧ w' = w) := by
  obtain ⟨A, c, rfl, hc, hb, hr⟩ := hv
  have Hs := hid hs
  clear hs
  refine post_gen fun Q HQ => ?_
  go_enter Try.func163, Try.ntmps163
  go_wp2
  go_loop [7, 8] (fun v7 v8 => ∃ i j : Nat, i ≤ j ∧ j ≤ l.length ∧ v7 = .int .i64 i ∧ v8 = .int .i64 j ∧ Hid ((∀ t (h : t < l.length), t < i → l[t] < x) ∧ (∀ t (h : t < l.length), j ≤ t → x ≤ l[t]))) (fun v7 v8 => (intOf v8).toNat - (intOf v7).toNat)
  case atStart => exact ⟨0, l.length, by omega, by omega, rfl, rfl, fun t h ht => absurd ht (by omega), fun t h ht => absurd ht (by omega)⟩
  case round =>
    obtain ⟨i, j, hij, hj, rfl, rfl, hinv⟩ := hrel
    by_cases hlt : i < j
    · have hh : (i + j) / 2 < l.length := by omega
      obtain ⟨ad, rfl, hcell⟩ := hr.at1 hh
      go_wp2_with fail
      refine (less_any _ _ _).mono ?_
      rintro e w' ⟨_, rfl, rfl, rfl⟩
      cases hcmp : decide (l[(i + j) / 2] < x) with
      | true =>
        have Hc := hid (of_decide_eq_true hcmp)
        clear hcmp
        generalize hm : (i + j) / 2 = m at *
        have hm1 : i ≤ m ∧ m < j := by omega
        have Hm := hid hm
        clear hm
        go_wp2
        go_round
        case rel =>
          refine ⟨m + 1, j, by omega, by omega, ?_, rfl, ?_, hinv.out.2⟩
          · have : ((i : Int) + j) / 2 = m := by have := Hm.out; omega
            rw [this]; rfl
          · intro t h ht
            by_cases e : t = m
            · subst e; exact Hc.out
            · have h1 : l[t] < l[m] := pw_lt Hs.out (by omega) hh
              have h2 := Hc.out
              omega
        case measure =>
          have := Hm.out
          simp [intOf]; omega
      | false =>
        have Hc := hid (of_decide_eq_false hcmp)
        clear hcmp
        generalize hm : (i + j) / 2 = m at *
        have hm1 : i ≤ m ∧ m < j := by omega
        have Hm := hid hm
        clear hm
        go_wp2
        go_round
        case rel =>
          refine ⟨i, m, by omega, by omega, rfl, ?_, hinv.out.1, ?_⟩
          · have : ((i : Int) + j) / 2 = m := by have := Hm.out; omega
            rw [this]
          · intro t h ht
            have h2 := Hc.out
            by_cases e : t = m
            · subst e; omega
            · have h1 : l[m] < l[t] := pw_lt Hs.out (by omega) h
              omega
        case measure =>
          have := Hm.out
          simp [intOf]; omega
    · obtain rfl : i = j := by omega
      have Hcnt : Hid (ltCount l x = i) := countP_at hj hinv.out.1 hinv.out.2
      by_cases hil : i < l.length
      · obtain ⟨ad, rfl, hcell⟩ := hr.at1 hil
        cases hx : (l[i] == x) with
        | true =>
          have Hin : Hid (memB l x = true) := by
            simp only [Hid, memB_true]
            rw [← eq_of_beq hx]; exact List.getElem_mem hil
          go_wp2_with (go_at_call 167; refine (isNaN_any _ _).mono ?_; rintro e w' ⟨_, rfl, rfl, rfl⟩)
          go_ret2
          exact Fin HQ ⟨by rw [Hcnt.out, Hin.out]; rfl, rfl⟩
        | false =>
          have Hin : Hid (memB l x = false) := by
            rw [Hid, memB_false]
            intro hm
            obtain ⟨t, ht, e⟩ := List.getElem_of_mem hm
            have h1 := hinv.out.1 t ht
            have h2 : l[i] ≠ x := by simpa using hx
            have h3 := hinv.out.2 i hil (Nat.le_refl _)
            by_cases e1 : t < i
            · have := h1 e1; omega
            · by_cases e2 : t = i
              · subst e2; exact h2 e
              · have := pw_lt Hs.out (show i < t by omega) ht
                omega
          go_wp2_with (go_at_call 167; refine (isNaN_any _ _).mono ?_; rintro e w' ⟨_, rfl, rfl, rfl⟩)
          go_ret2
          exact Fin HQ ⟨by rw [Hcnt.out, Hin.out]; rfl, rfl⟩
      · have Hin : Hid (memB l x = false) := by
          rw [Hid, memB_false]
          intro hm
          obtain ⟨t, ht, e⟩ := List.getElem_of_mem hm
          have := hinv.out.1 t ht (by omega)
          omega
        go_wp2
        go_ret2
        exact Fin HQ ⟨by rw [Hcnt.out, Hin.out]; rfl, rfl⟩

theorem has_any (w : World) (v : Value) (l : List Int) (x : Int) (hv : RdI w v l) (hs : l.Pairwise (· < ·)) :
   Calls Try.prog 153 #[v, .int .i64 x] w (Ret fun v w' => v = .bool (memB l x) ∧ w' = w) := by
  refine post_gen fun Q HQ => ?_
  go_enter Try.func153, Try.ntmps153
  go_wp2_with (go_at_call 163; refine (binarySearch_any _ _ _ _ hv hs).mono ?_; rintro e w' ⟨_, rfl, rfl, rfl⟩)
  go_ret
  exact Fin HQ ⟨rfl, rfl⟩
end Go.Proofs.Lx

namespace Go.Proofs.Lx
open Go Go.RowKit
set_option linter.unusedSimpArgs false
set_option linter.unusedVariables false

theorem risB_spec {l : List Int} {n : Int} (h : risB l n = true) : (∀ i (hi : i < l.length), 0 ≤ l[i] ∧ l[i] < n) ∧ l.Pairwise (· < ·) := by
  rw [risB_true] at h
  constructor
  · intro i hi
    have := h i hi
    simp [risOk, hi] at this
    omega
  · rw [List.pairwise_iff_getElem]
    intro i j hi hj hij
    induction j with
    | zero => omega
    | succ j ih =>
      have := h (j + 1) hj
      simp [risOk, hj, show j < l.length by omega] at this
      by_cases e : i = j
      · subst e; omega
      · have := ih (by omega) (by omega); omega
theorem risB_of {l : List Int} {n : Int} (h : ∀ i (hi : i < l.length), 0 ≤ l[i] ∧ l[i] < n) (hp : l.Pairwise (· < ·)) : risB l n = true := by
  rw [risB_true]
  intro i hi
  have h1 := h i hi
  simp only [risOk, List.getD_eq_getElem?_getD, List.getElem?_eq_getElem hi, Option.getD_some, Bool.and_eq_true, decide_eq_true_eq, Bool.or_eq_true]
  refine ⟨h1, ?_⟩
  by_cases e : i = 0
  · exact .inl e
  · right
    rw [List.getElem?_eq_getElem (show i - 1 < l.length by omega), Option.getD_some]
    exact pw_lt hp (by omega) hi

def row (t : List (List Int)) (i : Int) : List Int := t.getD i.toNat []
theorem row_at {t : List (List Int)} {i : Int} (h0 : 0 ≤ i) (h : i < t.length) : row t i = t[i.toNat] := by
  simp [row, show i.toNat < t.length by omega]
def foesOk (T : Th) (q : Nat) : Bool := decide ((T.foes.getD q []).length ≤ 64) && risB (T.foes.getD q []) T.lits && !memB (T.foes.getD q []) q && (T.foes.getD q []).all fun f => memB (row T.foes f) q
def foesAll (T : Th) : Bool := (List.range T.foes.length).all (foesOk T)
theorem foesAll_true {T : Th} : foesAll T = true ↔ ∀ q, q < T.foes.length → foesOk T q = true := by simp [foesAll]
theorem foesAll_false {T : Th} {q : Nat} (h : q < T.foes.length) (hf : foesOk T q = false) : foesAll T = false := by
  rw [Bool.eq_false_iff]; intro ht
  rw [foesAll_true.1 ht q h] at hf; cases hf

set_option maxHeartbeats 800000 in
theorem foes_any (w : World) (V : Value) (T : Th) (hT : RdTh w V T) (hl : (T.foes.length : Int) = T.lits) :
   Calls Try.prog 108 #[V] w (Ret fun v w' => (∃ r : Int, v = .int .i64 r ∧ (r < 0 ↔ foesAll T = true)) ∧ Below w.heap.size w w') := by
  obtain ⟨vF, vR, vB, rfl, ⟨A, c, rfl, hc, hb, hr⟩, _, _⟩ := hT
  have hbel := ext_alloc w (.cells #[.int .i64 T.lits, .slice A T.foes.length c, vR, vB] 25)
  have hr1 := hr.ext llR_mono hbel
  have Hl := hid hl
  clear hr hl
  refine post_gen fun Q HQ => ?_
  go_enter Try.func108, Try.ntmps108
  go_wp2
  go_loop [10] (fun v10 => ∃ k : Nat, k ≤ T.foes.length ∧ v10 = .int .i64 k ∧ Hid (∀ i, i < k → foesOk T i = true)) (fun v10 => T.foes.length - (intOf v10).toNat)
  case atStart => exact ⟨0, Nat.zero_le _, rfl, fun i hk => absurd hk (by omega)⟩
  case round =>
    obtain ⟨k, hk, rfl, hno⟩ := hrel
    by_cases hlt : k < T.foes.length
    · obtain ⟨ad, B, cB, rfl, hcell, hcB, hbB, hrB⟩ := hr1.atRow hlt
      have Hg : Hid (T.foes.getD k [] = T.foes[k]) := by simp [Hid, hlt]
      have Hbad : ∀ r : Int, 0 ≤ r → foesOk T k = false → ∃ r', Value.int .i64 r = .int .i64 r' ∧ (r' < 0 ↔ foesAll T = true) := fun r h0 hf => ⟨r, rfl, by rw [foesAll_false hlt hf]; simp; omega⟩
      have Hbad := hid Hbad
      generalize hL : T.foes[k] = L at *
      have HL := hid hL
      clear hL
      by_cases h64 : 64 < L.length
      · go_wp2_with fail
        go_ret
        exact Fin HQ ⟨Hbad.out k (by omega) (by simp only [foesOk, Hg.out]; rw [decide_eq_false (by omega)]; simp), hbel⟩
      · have hRL : RdI (w.alloc (.cells #[.int .i64 T.lits, .slice (some ad) T.foes.length c, vR, vB] 25)) (.slice B L.length cB) L := ⟨B, cB, rfl, hcB, hbB, hrB⟩
        cases hris : risB L T.lits with
        | false =>
          have Hris := hid hris
          go_wp2_with (go_at_call 112; refine (rising_any _ _ _ _ hRL).mono ?_; rintro e w' ⟨_, rfl, rfl, rfl⟩)
          go_ret
          exact Fin HQ ⟨Hbad.out k (by omega) (by simp only [foesOk, Hg.out]; rw [Hris.out]; simp), hbel⟩
        | true =>
          have Hris := hid hris
          have Hsp := hid (risB_spec hris)
          cases hmem : memB L k with
          | true =>
            have Hmem := hid hmem
            go_wp2_with (first
              | (go_at_call 112; refine (rising_any _ _ _ _ hRL).mono ?_; rintro e w' ⟨_, rfl, rfl, rfl⟩)
              | (go_at_call 153; refine (has_any _ _ _ _ hRL Hsp.out.2).mono ?_; rintro e w' ⟨_, rfl, rfl, rfl⟩))
            go_ret
            exact Fin HQ ⟨Hbad.out k (by omega) (by simp only [foesOk, Hg.out]; rw [Hmem.out]; simp), hbel⟩
          | false =>
            have Hmem := hid hmem
            go_wp2_with (first
              | (go_at_call 112; refine (rising_any _ _ _ _ hRL).mono ?_; rintro e w' ⟨_, rfl, rfl, rfl⟩)
              | (go_at_call 153; refine (has_any _ _ _ _ hRL Hsp.out.2).mono ?_; rintro e w' ⟨_, rfl, rfl, rfl⟩))
            clear hris hmem
            go_loop [33] (fun v33 => ∃ j : Nat, j ≤ L.length ∧ v33 = .int .i64 j ∧ Hid (∀ i (h : i < L.length), i < j → memB (row T.foes L[i]) k = true)) (fun v33 => L.length - (intOf v33).toNat)
            case atStart => exact ⟨0, Nat.zero_le _, rfl, fun i h hk => absurd hk (by omega)⟩
            case round =>
              obtain ⟨j, hj, rfl, hin⟩ := hrel
              by_cases hjl : j < L.length
              · obtain ⟨adb, rfl, hcj⟩ := hrB.at1 hjl
                have hrange := Hsp.out.1 j hjl
                have hfl : L[j].toNat < T.foes.length := by have := Hl.out; omega
                obtain ⟨ad2, C2, c2, e2, hcell2, hc2, hb2, hr2⟩ := hr1.atRow hfl
                cases e2
                have Hrow : Hid (T.foes[L[j].toNat] = row T.foes L[j]) := (row_at hrange.1 (by have := Hl.out; omega)).symm
                have h3 : L[j] < T.foes.length := by have := Hl.out; omega
                have hR2 : RdI (w.alloc (.cells #[.int .i64 T.lits, .slice (some ad) T.foes.length c, vR, vB] 25)) (.slice C2 T.foes[L[j].toNat].length c2) T.foes[L[j].toNat] := ⟨C2, c2, rfl, hc2, hb2, hr2⟩
                generalize hX : L[j] = X at *
                have HX := hid hX
                clear hX
                generalize hY : T.foes[X.toNat] = Y at *
                have HY := hid hY
                clear hY
                cases hm2 : memB Y k with
                | false =>
                  have Hm2 := hid hm2
                  go_wp2_with (go_at_call 154; refine (contains_any _ _ _ _ hR2).mono ?_; rintro e w' ⟨_, rfl, rfl, rfl⟩)
                  go_ret
                  refine Fin HQ ⟨Hbad.out k (by omega) ?_, hbel⟩
                  simp only [foesOk, Hg.out]
                  rw [show (L.all fun f => memB (row T.foes f) k) = false from by
                    rw [List.all_eq_false]; exact ⟨L[j], List.getElem_mem hjl, by rw [HX.out, ← Hrow.out, Hm2.out]; simp⟩]
                  simp
                | true =>
                  have Hm2 := hid hm2
                  go_wp2_with (go_at_call 154; refine (contains_any _ _ _ _ hR2).mono ?_; rintro e w' ⟨_, rfl, rfl, rfl⟩)
                  go_round
                  case rel =>
                    refine ⟨j + 1, by omega, by go_num, fun i h hi => ?_⟩
                    by_cases e : i = j
                    · subst e; rw [HX.out, ← Hrow.out, Hm2.out]
                    · exact hin.out i h (by omega)
                  case measure => simp [intOf]; omega
              · go_wp2
                go_round
                case rel =>
                  refine ⟨k + 1, by omega, by go_num, fun i hi => ?_⟩
                  by_cases e : i = k
                  · subst e
                    simp only [foesOk, Hg.out, Hris.out, Hmem.out]
                    simp only [decide_eq_true (show L.length ≤ 64 by omega), Bool.not_false, Bool.and_self, Bool.true_and]
                    rw [List.all_eq_true]
                    intro f hf
                    obtain ⟨t, ht, rfl⟩ := List.getElem_of_mem hf
                    exact hin.out t ht (by omega)
                  · exact hno.out i (by omega)
                case measure => simp [intOf]; omega
    · go_wp2
      go_ret
      exact Fin HQ ⟨⟨-1, rfl, by simp only [show ((-1 : Int) < 0) by decide, true_iff]; exact foesAll_true.2 fun q hq => hno.out q (by omega)⟩, hbel⟩
end Go.Proofs.Lx

namespace Go.Proofs.Lx
open Go Go.RowKit

/-- Block g holds just these cells. -/
def Arr {α : Type} (enc : α → Value) (e : TypeId) (w : World) (g : Nat) (xs : List α) : Prop := w.heap[g]? = some (.cells (xs.map enc).toArray e (0, 0))
section
variable {α : Type} {enc : α → Value} {e : TypeId} {w w' : World} {g : Nat} {xs : List α}
theorem Arr.lt (h : Arr enc e w g xs) : g < w.heap.size := lt_of_block h
theorem Arr.cell (h : Arr enc e w g xs) {i : Nat} (hi : i < xs.length) : w.cell? ⟨g, i, none⟩ = some (enc xs[i]) := by
  rw [cell_of_row w g i _ e _ h]; simp [hi]
theorem Arr.cellD [Inhabited α] (h : Arr enc e w g xs) {i : Nat} (hi : i < xs.length) : w.cell? ⟨g, i, none⟩ = some (enc (xs.getD i default)) := by
  rw [h.cell hi]; simp [hi]
theorem Arr.free (h : Arr enc e w g xs) (i : Nat) : w.frozen? ⟨g, i, none⟩ = false := frozen_of_row w g i _ e h
theorem Arr.set (h : Arr enc e w g xs) (i : Nat) (x : α) : Arr enc e (w.setCell ⟨g, i, none⟩ (enc x)) g (xs.set i x) := by
  unfold Arr
  rw [heap_setCell_same w g i _ e _ h]
  simp [List.map_set]
theorem Arr.other (h : Arr enc e w g xs) {a : Addr} (hne : g ≠ a.block) (u : Value) : Arr enc e (w.setCell a u) g xs := (heap_setCell_other w a g u hne).trans h
theorem Arr.alloc (h : Arr enc e w g xs) (o : Obj) : Arr enc e (w.alloc o) g xs := (Below.heap_alloc w o g h.lt).trans h
theorem Arr.drew (h : Arr enc e w g xs) : Arr enc e w.drew g xs := h
theorem Arr.drewN (h : Arr enc e w g xs) (n : Nat) : Arr enc e (w.drewN n) g xs := by
  induction n with
  | zero => exact h
  | succ n ih => rw [← World.drew_drewN]; exact ih
theorem Arr.below {B : Nat} (h : Arr enc e w g xs) (hb : Below B w w') (hB : g < B) : Arr enc e w' g xs := (hb.block g hB).trans h
theorem Arr.ext (h : Arr enc e w g xs) (hb : Below w.heap.size w w') : Arr enc e w' g xs := h.below hb h.lt
theorem Arr.reads (h : Arr enc e w g xs) (hl : xs.length ≤ 140737488355328) (c : Nat) (hc : xs.length ≤ c) : Rd 1 (scR enc) w (.slice (some ⟨g, 0, none⟩) xs.length c) xs := by
  refine ⟨_, c, rfl, hc, hl, fun i hi => ⟨_, _, rfl, rfl, rfl, fun j u hu => ?_⟩⟩
  match j, hu with
  | 0, hu =>
    simp at hu; subst hu
    rw [add_plain]; simpa using h.cell hi
end
theorem heap_drewN (w : World) (n : Nat) : (w.drewN n).heap = w.heap := by
  induction n with
  | zero => rfl
  | succ n ih => rw [← World.drew_drewN]; exact ih
theorem below_drewN {B : Nat} {w W : World} (h : Below B w W) (n : Nat) : Below B w (W.drewN n) := by
  induction n with
  | zero => exact h
  | succ n ih => rw [← World.drew_drewN]; exact ih.drew

/-- A box that was laid first. -/
theorem box_cell {w wr : World} {cs : Array Value} {t : TypeId} (h : Below (w.heap.size + 1) (w.alloc (.cells cs t)) wr) (i : Nat) : wr.cell? ⟨w.heap.size, i, none⟩ = cs[i]? := by
  have hb : wr.heap[w.heap.size]? = some (.cells cs t (0, 0)) := (h.block _ (by omega)).trans (heap_alloc_new w _)
  exact cell_of_row wr _ i cs t _ hb
/-- make([]T, n): its block. -/
theorem made_arr {α : Type} (enc : α → Value) (z : α) (e : TypeId) (w : World) (n : Nat) : Arr enc e (w.alloc (.cells (madeCells #[enc z] n) e)) w.heap.size (List.replicate n z) := by
  unfold Arr
  rw [heap_alloc_new]
  congr 2
  rw [← Array.toList_inj, toList_madeCells_one]; simp
end Go.Proofs.Lx

namespace Go.Proofs.Lx
open Go Go.RowKit
set_option linter.unusedSimpArgs false
set_option linter.unusedVariables false

theorem infoI : (Try.prog.info? 3).map (fun i => (i.zero, i.size, i.bytes)) = some (some (.int .i64 0), 1, 8) := by kernel_rfl
theorem infoB : (Try.prog.info? 4).map (fun i => (i.zero, i.size, i.bytes)) = some (some (.bool false), 1, 1) := by kernel_rfl
theorem infoM : (Try.prog.info? 33).map (fun i => (i.zero, i.size, i.bytes)) = some (some (.int .u8 0), 1, 1) := by kernel_rfl
theorem infoL : (Try.prog.info? 26).map (fun i => (i.zero, i.size, i.bytes)) = some (some (.slice none 0 0), 1, 24) := by kernel_rfl
section
variable (n : Int) (h0 : 0 ≤ n) (hn : n ≤ 140737488355)
include h0 hn
theorem mkI : ∀ W : World, (Instr.makeSlice 26 (.int .i64 n) (.int .i64 n)).run Try.prog W = .ok (.slice (some ⟨W.heap.size, 0, none⟩) n.toNat n.toNat) (W.alloc (.cells (madeCells #[.int .i64 0] n.toNat) 3)) := by
  intro W; obtain ⟨m, rfl⟩ := Int.eq_ofNat_of_zero_le h0
  exact run_make_row' _ _ _ 8 Try.underlying26 infoI rfl .i64 .i64 m (by omega) (by omega) W
theorem mkB : ∀ W : World, (Instr.makeSlice 86 (.int .i64 n) (.int .i64 n)).run Try.prog W = .ok (.slice (some ⟨W.heap.size, 0, none⟩) n.toNat n.toNat) (W.alloc (.cells (madeCells #[.bool false] n.toNat) 4)) := by
  intro W; obtain ⟨m, rfl⟩ := Int.eq_ofNat_of_zero_le h0
  exact run_make_row' _ _ _ 1 Try.underlying86 infoB rfl .i64 .i64 m (by omega) (by omega) W
theorem mkM : ∀ W : World, (Instr.makeSlice 28 (.int .i64 n) (.int .i64 n)).run Try.prog W = .ok (.slice (some ⟨W.heap.size, 0, none⟩) n.toNat n.toNat) (W.alloc (.cells (madeCells #[.int .u8 0] n.toNat) 33)) := by
  intro W; obtain ⟨m, rfl⟩ := Int.eq_ofNat_of_zero_le h0
  exact run_make_row' _ _ _ 1 Try.underlying28 infoM rfl .i64 .i64 m (by omega) (by omega) W
theorem mkL : ∀ W : World, (Instr.makeSlice 22 (.int .i64 n) (.int .i64 n)).run Try.prog W = .ok (.slice (some ⟨W.heap.size, 0, none⟩) n.toNat n.toNat) (W.alloc (.cells (madeCells #[.slice none 0 0] n.toNat) 26)) := by
  intro W; obtain ⟨m, rfl⟩ := Int.eq_ofNat_of_zero_le h0
  exact run_make_row' _ _ _ 24 Try.underlying22 infoL rfl .i64 .i64 m (by omega) (by omega) W
end

theorem checkFacts_any (w : World) (V v : Value) (T : Th) (l : List Int) (hT : RdTh w V T) (hv : RdI w v l) :
   Calls Try.prog 84 #[V, v] w (Ret fun v w' => v = .int .i64 (bif risB l T.lits then 0 else 181) ∧ Below w.heap.size w w') := by
  obtain ⟨vF, vR, vB, rfl, _, _, _⟩ := hT
  have hbel := ext_alloc w (.cells #[.int .i64 T.lits, vF, vR, vB] 25)
  have hv1 := hv.ext (scR_mono _) hbel
  refine post_gen fun Q HQ => ?_
  cases hr : risB l T.lits with
  | false =>
    have Hr := hid hr
    go_enter Try.func84, Try.ntmps84
    go_wp2_with (go_at_call 112; refine (rising_any _ _ _ _ hv1).mono ?_; rintro e w' ⟨_, rfl, rfl, rfl⟩)
    go_ret
    exact Fin HQ ⟨by rw [Hr.out]; rfl, hbel⟩
  | true =>
    have Hr := hid hr
    go_enter Try.func84, Try.ntmps84
    go_wp2_with (go_at_call 112; refine (rising_any _ _ _ _ hv1).mono ?_; rintro e w' ⟨_, rfl, rfl, rfl⟩)
    go_ret
    exact Fin HQ ⟨by rw [Hr.out]; rfl, hbel⟩

def RdRule (w : World) (v : Value) (r : Rule) : Prop := ∃ u, v = .agg #[.int .i64 r.kind, .int .i64 r.head, u] ∧ RdI w u r.body
def ruleOk (lits : Int) (r : Rule) : Bool := decide (1 ≤ r.kind) && decide (r.kind ≤ 3) && decide (0 ≤ r.head) && decide (r.head < lits) && decide (r.body.length ≤ 16) && risB r.body lits

set_option maxHeartbeats 800000 in
theorem rule_any (w : World) (V v : Value) (T : Th) (r : Rule) (hT : RdTh w V T) (hv : RdRule w v r) :
   Calls Try.prog 109 #[V, v] w (Ret fun v w' => v = .bool (ruleOk T.lits r) ∧ Below w.heap.size w w') := by
  obtain ⟨vF, vR, vB, rfl, _, _, _⟩ := hT
  obtain ⟨u, rfl, B, cB, rfl, hcB, hbB, hrB⟩ := hv
  have hbel := ext_alloc w (.cells #[.int .i64 T.lits, vF, vR, vB] 25)
  have hbel2 := ext_alloc (w.alloc (.cells #[.int .i64 T.lits, vF, vR, vB] 25)) (.cells #[.int .i64 r.kind, .int .i64 r.head, .slice B r.body.length cB] 37)
  have hbe := ext_trans hbel hbel2
  have hv1 : RdI ((w.alloc (.cells #[.int .i64 T.lits, vF, vR, vB] 25)).alloc (.cells #[.int .i64 r.kind, .int .i64 r.head, .slice B r.body.length cB] 37)) (.slice B r.body.length cB) r.body := ⟨B, cB, rfl, hcB, hbB, hrB.ext (scR_mono _) hbe⟩
  refine post_gen fun Q HQ => ?_
  by_cases h1 : 1 ≤ r.kind ∧ r.kind ≤ 3 ∧ 0 ≤ r.head ∧ r.head < T.lits ∧ r.body.length ≤ 16
  · obtain ⟨a1, a2, a3, a4, a5⟩ := h1
    have Hok : Hid (ruleOk T.lits r = risB r.body T.lits) := by simp [Hid, ruleOk, a1, a2, a3, a4, a5]
    cases hr : risB r.body T.lits with
    | false =>
      have Hr := hid hr
      go_enter Try.func109, Try.ntmps109
      go_wp2_with (go_at_call 112; refine (rising_any _ _ _ _ hv1).mono ?_; rintro e w' ⟨_, rfl, rfl, rfl⟩)
      go_ret
      exact Fin HQ ⟨by rw [Hok.out, Hr.out]; rfl, hbe⟩
    | true =>
      have Hr := hid hr
      go_enter Try.func109, Try.ntmps109
      go_wp2_with (go_at_call 112; refine (rising_any _ _ _ _ hv1).mono ?_; rintro e w' ⟨_, rfl, rfl, rfl⟩)
      go_ret
      exact Fin HQ ⟨by rw [Hok.out, Hr.out]; rfl, hbe⟩
  · have Hok : Hid (ruleOk T.lits r = false) := by
      simp only [Hid, ruleOk]
      rw [Bool.eq_false_iff]; intro h
      simp at h
      omega
    go_enter Try.func109, Try.ntmps109
    go_wp2_with (go_at_call 112; refine (rising_any _ _ _ _ hv1).mono ?_; rintro e w' ⟨_, rfl, rfl, rfl⟩)
    all_goals (go_ret; exact Fin HQ ⟨by rw [Hok.out]; rfl, hbe⟩)
end Go.Proofs.Lx

namespace Go.Proofs.Lx
open Go Go.RowKit
set_option linter.unusedSimpArgs false
set_option linter.unusedVariables false

def hcnt (rs : List Rule) (q : Int) : Nat := rs.countP fun r => r.head == q
def cntUpto (rs : List Rule) (n k : Nat) : List Int := (List.range n).map fun (q : Nat) => (hcnt (rs.take k) (q : Int) : Int)
theorem cntUpto_length (rs : List Rule) (n k : Nat) : (cntUpto rs n k).length = n := by simp [cntUpto]
theorem cntUpto_zero (rs : List Rule) (n : Nat) : cntUpto rs n 0 = List.replicate n 0 := by
  apply List.ext_getElem <;> simp [cntUpto, hcnt]
theorem cntUpto_at (rs : List Rule) (n k q : Nat) (hq : q < n) : (cntUpto rs n k)[q]'(by rw [cntUpto_length]; exact hq) = (hcnt (rs.take k) (q : Int) : Int) := by simp [cntUpto]
theorem hcnt_le (rs : List Rule) (k : Nat) (q : Int) : hcnt (rs.take k) q ≤ k := by
  have h1 := List.countP_le_length (p := fun r : Rule => r.head == q) (l := rs.take k)
  have h2 : (rs.take k).length ≤ k := List.length_take_le _ _
  unfold hcnt; omega
theorem cntUpto_get (rs : List Rule) (n k q : Nat) (hq : q < n) : (cntUpto rs n k).getD q 0 = (hcnt (rs.take k) (q : Int) : Int) := by
  rw [List.getD_eq_getElem?_getD, List.getElem?_eq_getElem (by rw [cntUpto_length]; exact hq), cntUpto_at _ _ _ _ hq]; rfl
theorem cntUpto_succ (rs : List Rule) (n k : Nat) (hk : k < rs.length) (h0 : 0 ≤ rs[k].head) (h1 : rs[k].head < n) :
    cntUpto rs n (k + 1) = (cntUpto rs n k).set rs[k].head.toNat ((hcnt (rs.take k) rs[k].head : Int) + 1) := by
  apply List.ext_getElem
  · simp [cntUpto_length]
  · intro q hq1 hq2
    rw [cntUpto_length] at hq1
    rw [List.getElem_set, cntUpto_at _ _ _ _ hq1]
    rw [hcnt, List.take_succ_eq_append_getElem hk, List.countP_append]
    by_cases e : rs[k].head.toNat = q
    · rw [if_pos e]
      subst e
      have : ((rs[k].head.toNat : Nat) : Int) = rs[k].head := by omega
      rw [this]
      simp [hcnt]
    · rw [if_neg e, cntUpto_at _ _ _ _ hq1, hcnt]
      have : ¬ (rs[k].head = (q : Int)) := by omega
      simp [this]
def hList (rs : List Rule) (n : Nat) : List Int := (List.range n).map fun (q : Nat) => (hcnt rs (q : Int) : Int)
theorem hList_length (rs : List Rule) (n : Nat) : (hList rs n).length = n := by simp [hList]
theorem hList_at (rs : List Rule) (n : Nat) {q : Nat} (hq : q < n) : (hList rs n)[q]'(by rw [hList_length]; exact hq) = (hcnt rs (q : Int) : Int) := by simp [hList]
theorem cntUpto_all (rs : List Rule) (n : Nat) : cntUpto rs n rs.length = hList rs n := by simp [cntUpto, hList]
def pRow (rs : List Rule) (l : List Int) (q j : Nat) : Nat := ((l.take j).map fun f => hcnt rs q * hcnt rs f).sum
def pSum (rs : List Rule) (fo : List (List Int)) (k : Nat) : Nat := ((List.range k).map fun q => pRow rs (fo.getD q []) q (fo.getD q []).length).sum
/-- How many ordered pairs of rules have heads that are foes. -/
def pairCount (T : Th) : Nat := pSum T.rules T.foes T.foes.length
theorem hcnt_len (rs : List Rule) (q : Int) : hcnt rs q ≤ rs.length := List.countP_le_length
theorem pRow_succ {rs : List Rule} {l : List Int} {q j : Nat} (hj : j < l.length) : pRow rs l q (j + 1) = pRow rs l q j + hcnt rs q * hcnt rs l[j] := by
  unfold pRow; rw [List.take_succ_eq_append_getElem hj, List.map_append, List.sum_append]; simp
theorem pSum_succ {rs : List Rule} {fo : List (List Int)} {k : Nat} : pSum rs fo (k + 1) = pSum rs fo k + pRow rs (fo.getD k []) k (fo.getD k []).length := by
  unfold pSum; rw [List.range_succ, List.map_append, List.sum_append]; simp
theorem prod_le {a b : Nat} (ha : a ≤ 4096) (hb : b ≤ 4096) : a * b ≤ 16777216 := Nat.le_trans (Nat.mul_le_mul ha hb) (by decide)
theorem pRow_le {rs : List Rule} {l : List Int} {q : Nat} (hr : rs.length ≤ 4096) : ∀ j, j ≤ l.length → pRow rs l q j ≤ j * 16777216
  | 0, _ => by simp [pRow]
  | j + 1, h => by
    rw [pRow_succ (by omega)]
    have := pRow_le (l := l) (q := q) hr j (by omega)
    have := prod_le (Nat.le_trans (hcnt_len rs q) hr) (Nat.le_trans (hcnt_len rs l[j]) hr)
    omega
theorem pSum_le {rs : List Rule} {fo : List (List Int)} (hr : rs.length ≤ 4096) (hf : ∀ q, q < fo.length → (fo.getD q []).length ≤ 64) : ∀ k, k ≤ fo.length → pSum rs fo k ≤ k * 1073741824
  | 0, _ => by simp [pSum]
  | k + 1, h => by
    rw [pSum_succ]
    have := pSum_le hr hf k (by omega)
    have h2 := pRow_le (l := fo.getD k []) (q := k) hr _ (Nat.le_refl _)
    have h3 := hf k (by omega)
    have : (fo.getD k []).length * 16777216 ≤ 64 * 16777216 := Nat.mul_le_mul_right _ h3
    omega
theorem foesOk_spec {T : Th} (h : foesAll T = true) (q : Nat) (hq : q < T.foes.length) : T.foes[q].length ≤ 64 ∧ risB T.foes[q] T.lits = true ∧ memB T.foes[q] q = false ∧ ∀ f ∈ T.foes[q], memB (row T.foes f) q = true := by
  have := foesAll_true.1 h q hq
  simp only [foesOk, Bool.and_eq_true, decide_eq_true_eq, Bool.not_eq_true', List.all_eq_true] at this
  have e : T.foes.getD q [] = T.foes[q] := by simp [hq]
  rw [e] at this
  exact ⟨this.1.1.1, this.1.1.2, this.1.2, this.2⟩
theorem ruleOk_head {lits : Int} {r : Rule} (h : ruleOk lits r = true) : 0 ≤ r.head ∧ r.head < lits := by
  simp [ruleOk] at h; omega

set_option maxHeartbeats 1600000 in
theorem pairs_any (w : World) (V : Value) (T : Th) (hT : RdTh w V T) (hl : (T.foes.length : Int) = T.lits) (h4 : T.lits ≤ 4096) (hfo : foesAll T = true)
   (hru : T.rules.length ≤ 4096) (hrr : ∀ r ∈ T.rules, ruleOk T.lits r = true) :
   Calls Try.prog 76 #[V] w (Ret fun v w' => v = .int .i64 (pairCount T : Nat) ∧ Below w.heap.size w w') := by
  obtain ⟨lits, foes, rules, beats⟩ := T
  obtain ⟨vF, vR, vB, rfl, ⟨A, c, rfl, hc, hb, hr⟩, ⟨AR, cR, rfl, hcR, hbR, hrR⟩, _⟩ := hT
  dsimp only at *
  obtain rfl : lits = (foes.length : Int) := hl.symm
  clear hl
  have hbel := ext_alloc w (.cells #[.int .i64 foes.length, .slice A foes.length c, .slice AR rules.length cR, vB] 25)
  have hr1 := hr.ext llR_mono hbel
  have hrR1 := hrR.ext ruleR_mono hbel
  have hmk := mkI foes.length (by omega) (by omega)
  rw [Int.toNat_natCast] at hmk
  have Hfo := hid hfo
  have Hrr := hid hrr
  clear hr hrR hfo hrr
  refine post_gen fun Q HQ => ?_
  go_enter Try.func76, Try.ntmps76
  go_wp2
  clear hmk
  go_loopw [17] (fun v17 wr => ∃ k : Nat, k ≤ rules.length ∧ v17 = .int .i64 k ∧ Arr (Value.int .i64) 3 wr (w.heap.size + 1) (cntUpto rules foes.length k) ∧ Below (w.heap.size + 1) (w.alloc (.cells #[.int .i64 foes.length, .slice A foes.length c, .slice AR rules.length cR, vB] 25)) wr) (fun v17 _ => rules.length - (intOf v17).toNat)
  case atStart =>
    refine ⟨0, Nat.zero_le _, rfl, ?_, ?_⟩
    · rw [cntUpto_zero]
      have := made_arr (Value.int .i64) (0 : Int) 3 (w.alloc (.cells #[.int .i64 foes.length, .slice A foes.length c, .slice AR rules.length cR, vB] 25)) foes.length
      simpa using this
    · exact (Below.refl _ _).alloc (by simp) _
  case round =>
    obtain ⟨k, hk, rfl, harr, hbl⟩ := hrel
    have hbl' : Below (w.alloc (.cells #[.int .i64 foes.length, .slice A foes.length c, .slice AR rules.length cR, vB] 25)).heap.size (w.alloc (.cells #[.int .i64 foes.length, .slice A foes.length c, .slice AR rules.length cR, vB] 25)) wr := by simpa using hbl
    by_cases hlt : k < rules.length
    · obtain ⟨ad, B, cB, rfl, hc0, hc1, hc2, hcB, hbB, hrB⟩ := (hrR1.ext ruleR_mono hbl').atRule hlt
      have Hrk := hid (Hrr.out _ (List.getElem_mem hlt))
      obtain ⟨hh0, hh1⟩ := ruleOk_head Hrk.out
      have hg := harr.lt
      have Hs := hid (cntUpto_succ rules foes.length k hlt hh0 hh1)
      have hhc := harr.cell (i := rules[k].head.toNat) (by rw [cntUpto_length]; omega)
      rw [cntUpto_at _ _ _ _ (by omega), show ((rules[k].head.toNat : Nat) : Int) = rules[k].head from by omega] at hhc
      have hhf := harr.free rules[k].head.toNat
      have hle := hcnt_le rules k rules[k].head
      generalize hcnt (rules.take k) rules[k].head = y at *
      generalize hh : rules[k].head = hd at *
      have Hh := hid hh
      clear hh
      go_wp2
      go_roundw
      case rel =>
        refine ⟨k + 1, by omega, by go_num, ?_, ?_⟩
        · rw [Hs.out]
          exact (harr.set hd.toNat ((y : Int) + 1)).alloc _
        · exact (hbl.setCell (Nat.le_refl _) _).alloc (by simp only [World.size_setCell]; omega) _
      case measure => simp [intOf]; omega
    · have hk2 : k = rules.length := by omega
      subst hk2
      rw [cntUpto_all] at harr
      clear hlt hk hbl'
      have hb1 : wr.cell? ⟨w.heap.size, 1, none⟩ = some (.slice A foes.length c) := box_cell hbl 1
      go_wp2
      clear hb1
      obtain ⟨wo, hwo⟩ : ∃ wo : World, wo = wr := ⟨_, rfl⟩
      clear wo hwo
      go_loopw [32, 6] (fun v32 v6 w2 => ∃ k : Nat, k ≤ foes.length ∧ v32 = .int .i64 k ∧ v6 = .int .i64 (pSum rules foes k : Nat) ∧ Arr (Value.int .i64) 3 w2 (w.heap.size + 1) (hList rules foes.length) ∧ Below (w.heap.size + 1) (w.alloc (.cells #[.int .i64 foes.length, .slice A foes.length c, .slice AR rules.length cR, vB] 25)) w2) (fun v32 _ _ => foes.length - (intOf v32).toNat)
      case atStart => exact ⟨0, Nat.zero_le _, rfl, rfl, harr, hbl⟩
      case round =>
        clear harr hbl
        obtain ⟨k, hk, rfl, rfl, harr, hbl⟩ := hrel
        obtain ⟨wo, rfl⟩ : ∃ wo : World, wo = wr := ⟨_, rfl⟩
        by_cases hlt : k < foes.length
        · have hbl' : Below (w.alloc (.cells #[.int .i64 foes.length, .slice A foes.length c, .slice AR rules.length cR, vB] 25)).heap.size (w.alloc (.cells #[.int .i64 foes.length, .slice A foes.length c, .slice AR rules.length cR, vB] 25)) wo := by simpa using hbl
          obtain ⟨ad, B, cB, rfl, hcell, hcB, hbB, hrB⟩ := (hr1.ext llR_mono hbl').atRow hlt
          obtain ⟨h64, hris, _, _⟩ := foesOk_spec Hfo.out k hlt
          have Hris := hid (risB_spec hris).1
          have hps := pSum_le (fo := foes) hru (fun q hq => by rw [List.getD_eq_getElem?_getD, List.getElem?_eq_getElem hq]; exact (foesOk_spec Hfo.out q hq).1) k (by omega)
          have Hgl : Hid (foes.getD k [] = foes[k]) := by simp [Hid, hlt]
          clear hris
          dsimp only at h64 Hris
          generalize hS : pSum rules foes k = S at *
          have HS := hid hS
          clear hS
          generalize hL : foes[k] = L at *
          have HL := hid hL
          clear hL
          go_wp2
          clear hcell
          go_loopw [39, 6] (fun v39 v6 w3 => ∃ j : Nat, j ≤ L.length ∧ v39 = .int .i64 j ∧ v6 = .int .i64 ((S + pRow rules L k j : Nat) : Int) ∧ Arr (Value.int .i64) 3 w3 (w.heap.size + 1) (hList rules foes.length) ∧ Below wo.heap.size wo w3) (fun v39 _ _ => L.length - (intOf v39).toNat)
          case atStart => exact ⟨0, Nat.zero_le _, rfl, by simp [pRow], harr, ext_refl _⟩
          case round =>
            obtain ⟨j, hj, rfl, rfl, harr3, hbl3⟩ := hrel
            have hpr := pRow_le (l := L) (q := k) hru j hj
            by_cases hjl : j < L.length
            · obtain ⟨adb, rfl, hcj⟩ := (hrB.ext (scR_mono _) hbl3).at1 hjl
              have hrange := Hris.out j hjl
              have hX2 : L[j].toNat < foes.length := by omega
              have ha := harr3.cell (i := k) (by rw [hList_length]; omega)
              have hx := harr3.cell (i := L[j].toNat) (by rw [hList_length]; omega)
              rw [hList_at _ _ hlt] at ha
              rw [hList_at _ _ hX2] at hx
              have hp1 := prod_le (Nat.le_trans (hcnt_len rules k) hru) (Nat.le_trans (hcnt_len rules (L[j].toNat : Nat)) hru)
              have hee : ((L[j].toNat : Nat) : Int) = L[j] := by omega
              have Hps : Hid (pRow rules L k (j + 1) = pRow rules L k j + hcnt rules k * hcnt rules (L[j].toNat : Nat)) := by rw [hee]; exact pRow_succ hjl
              generalize pRow rules L k j = R at *
              generalize L[j] = X at *
              generalize hcnt rules k = a at *
              generalize hcnt rules (X.toNat : Nat) = b at *
              have hp2 : (a : Int) * b = ((a * b : Nat) : Int) := by simp
              have hp3 : 0 ≤ (a : Int) * b ∧ (a : Int) * b ≤ 16777216 := by omega
              obtain ⟨hp4, hp5⟩ := hp3
              have Hp2 := hid hp2
              clear hp2 hee
              go_wp2
              go_quiet (fail)
              go_wp2
              go_roundw
              case rel =>
                refine ⟨j + 1, by omega, by go_num, ?_, harr3.drewN _, below_drewN hbl3 _⟩
                rw [Hps.out]
                exact int_eq (by have := Hp2.out; omega)
              case measure => simp [intOf]; omega
            · obtain rfl : j = L.length := by omega
              go_wp2
              go_roundw
              case rel =>
                refine ⟨k + 1, by omega, by go_num, ?_, harr3, hbl.trans (hbl3.mono (by have := hbl.size; simp at this; omega))⟩
                rw [pSum_succ, Hgl.out, HS.out]
              case measure => simp [intOf]; omega
        · obtain rfl : k = foes.length := by omega
          go_wp2
          go_ret
          exact Fin HQ ⟨rfl, hbel.trans (hbl.mono (by omega))⟩
end Go.Proofs.Lx

namespace Go.Proofs.Lx
open Go Go.RowKit
set_option linter.unusedSimpArgs false
set_option linter.unusedVariables false

def headOf (T : Th) (i : Int) : Int := (T.rules.getD i.toNat default).head
def beatsOk (T : Th) (r : Nat) : Bool := risB (T.beats.getD r []) T.rules.length && (T.beats.getD r []).all fun s => memB (row T.foes (headOf T r)) (headOf T s)
def beatsAll (T : Th) : Bool := (List.range T.beats.length).all (beatsOk T)
theorem beatsAll_true {T : Th} : beatsAll T = true ↔ ∀ q, q < T.beats.length → beatsOk T q = true := by simp [beatsAll]
theorem beatsAll_false {T : Th} {q : Nat} (h : q < T.beats.length) (hf : beatsOk T q = false) : beatsAll T = false := by
  rw [Bool.eq_false_iff]; intro ht
  rw [beatsAll_true.1 ht q h] at hf; cases hf
theorem has_plain (w : World) (v : Value) (l : List Int) (x : Int) (hv : RdI w v l) (hs : l.Pairwise (· < ·)) :
   Calls Try.prog 153 #[v, .int .i64 x] w fun e w' => e = .returned (.bool (memB l x)) ∧ w' = w :=
  (has_any w v l x hv hs).mono fun e w' ⟨v, he, hv, hw⟩ => ⟨by rw [he, hv], hw⟩

set_option maxHeartbeats 1600000 in
theorem beats_any (w : World) (V : Value) (T : Th) (hT : RdTh w V T) (hl : (T.foes.length : Int) = T.lits) (hfo : foesAll T = true)
   (hrr : ∀ r ∈ T.rules, ruleOk T.lits r = true) (hbl : T.beats.length = T.rules.length) (h4 : T.rules.length ≤ 4096) :
   Calls Try.prog 110 #[V] w (Ret fun v w' => (∃ r : Int, v = .int .i64 r ∧ (r < 0 ↔ beatsAll T = true)) ∧ Below w.heap.size w w') := by
  obtain ⟨lits, foes, rules, beats⟩ := T
  obtain ⟨vF, vR, vB, rfl, ⟨A, c, rfl, hc, hb, hr⟩, ⟨AR, cR, rfl, hcR, hbR, hrR⟩, ⟨AB, cB, rfl, hcB, hbB, hrB⟩⟩ := hT
  dsimp only at *
  obtain rfl : lits = (foes.length : Int) := hl.symm
  clear hl
  have hbel := ext_alloc w (.cells #[.int .i64 foes.length, .slice A foes.length c, .slice AR rules.length cR, .slice AB beats.length cB] 25)
  have hr1 := hr.ext llR_mono hbel
  have hrR1 := hrR.ext ruleR_mono hbel
  have hrB1 := hrB.ext llR_mono hbel
  have Hfo := hid hfo
  have Hrr := hid hrr
  have Hbl := hid hbl
  have hbl1 : beats.length ≤ rules.length := by omega
  have hbl2 : rules.length ≤ beats.length := by omega
  clear hr hrR hrB hfo hrr hbl
  refine post_gen fun Q HQ => ?_
  go_enter Try.func110, Try.ntmps110
  go_wp2
  obtain ⟨W1, HW1⟩ : ∃ W1, Hid (W1 = w.alloc (.cells #[.int .i64 foes.length, .slice A foes.length c, .slice AR rules.length cR, .slice AB beats.length cB] 25)) := ⟨_, rfl⟩
  have b1 : W1.cell? ⟨w.heap.size, 1, none⟩ = some (.slice A foes.length c) := by rw [HW1.out]; exact box_cell (Below.refl _ _) 1
  have b2 : W1.cell? ⟨w.heap.size, 2, none⟩ = some (.slice AR rules.length cR) := by rw [HW1.out]; exact box_cell (Below.refl _ _) 2
  rw [← HW1.out] at hbel hr1 hrR1 hrB1 ⊢
  go_loopw [10] (fun v10 wr => ∃ k : Nat, k ≤ beats.length ∧ v10 = .int .i64 k ∧ Hid (∀ i, i < k → beatsOk ⟨foes.length, foes, rules, beats⟩ i = true) ∧ Below W1.heap.size W1 wr) (fun v10 _ => beats.length - (intOf v10).toNat)
  case atStart => exact ⟨0, Nat.zero_le _, rfl, fun i hk => absurd hk (by omega), ext_refl _⟩
  case round =>
    obtain ⟨k, hk, rfl, hno, hbl⟩ := hrel
    have b1' := cell_ext hbl b1
    have b2' := cell_ext hbl b2
    obtain ⟨wo, rfl⟩ : ∃ wo : World, wo = wr := ⟨_, rfl⟩
    by_cases hlt : k < beats.length
    · obtain ⟨ad, B, cL, rfl, hcell, hcL, hbL, hrL⟩ := (hrB1.ext llR_mono hbl).atRow hlt
      have Hg : Hid (beats.getD k [] = beats[k]) := by simp [Hid, hlt]
      have Hbad : ∀ r : Int, 0 ≤ r → beatsOk ⟨foes.length, foes, rules, beats⟩ k = false → ∃ r', Value.int .i64 r = .int .i64 r' ∧ (r' < 0 ↔ beatsAll ⟨foes.length, foes, rules, beats⟩ = true) := fun r h0 hf => ⟨r, rfl, by rw [beatsAll_false hlt hf]; simp; omega⟩
      have Hbad := hid Hbad
      generalize hL : beats[k] = L at *
      have HL := hid hL
      clear hL
      have hRL : RdI wo (.slice B L.length cL) L := ⟨B, cL, rfl, hcL, hbL, hrL⟩
      cases hris : risB L rules.length with
      | false =>
        have Hris := hid hris
        go_wp2_with (go_at_call 112; refine (rising_any _ _ _ _ hRL).mono ?_; rintro e w' ⟨_, rfl, rfl, rfl⟩)
        go_ret
        exact Fin HQ ⟨Hbad.out k (by omega) (by simp only [beatsOk, Hg.out]; rw [Hris.out]; simp), ext_trans hbel hbl⟩
      | true =>
        have Hris := hid hris
        have Hsp := hid (risB_spec hris)
        go_wp2_with (go_at_call 112; refine (rising_any _ _ _ _ hRL).mono ?_; rintro e w' ⟨_, rfl, rfl, rfl⟩)
        clear hris hcell b1' b2'
        go_loopw [24] (fun v24 w3 => ∃ j : Nat, j ≤ L.length ∧ v24 = .int .i64 j ∧ Hid (∀ i (h : i < L.length), i < j → memB (row foes (headOf ⟨foes.length, foes, rules, beats⟩ k)) (headOf ⟨foes.length, foes, rules, beats⟩ L[i]) = true) ∧ Below w'.heap.size w' w3) (fun v24 _ => L.length - (intOf v24).toNat)
        case atStart => exact ⟨0, Nat.zero_le _, rfl, fun i h hk => absurd hk (by omega), ext_refl _⟩
        case round =>
          obtain ⟨j, hj, rfl, hin, hbl3⟩ := hrel
          have hbl4 := ext_trans hbl hbl3
          have b1' := cell_ext hbl4 b1
          have b2' := cell_ext hbl4 b2
          by_cases hjl : j < L.length
          · obtain ⟨adL, rfl, hcj⟩ := (hrL.ext (scR_mono _) hbl3).at1 hjl
            have hrange := Hsp.out.1 j hjl
            have hkr : k < rules.length := by omega
            have hxr : L[j].toNat < rules.length := by omega
            obtain ⟨adR, B1, c1, rfl, p0, p1, p2, _, _, _⟩ := (hrR1.ext ruleR_mono hbl4).atRule hkr
            obtain ⟨adR', B2, c2, e2, q0, q1, q2, _, _, _⟩ := (hrR1.ext ruleR_mono hbl4).atRule hxr
            cases e2
            have hk0 := ruleOk_head (Hrr.out _ (List.getElem_mem hkr))
            have hfk : rules[k].head.toNat < foes.length := by omega
            obtain ⟨adF, CF, cF, rfl, hcF, hcF2, hbF, hrF⟩ := (hr1.ext llR_mono hbl4).atRow hfk
            have Hk1 : Hid (headOf ⟨foes.length, foes, rules, beats⟩ k = rules[k].head) := by simp [Hid, headOf, hkr]
            have Hx1 : Hid (headOf ⟨foes.length, foes, rules, beats⟩ L[j] = rules[L[j].toNat].head) := by simp [Hid, headOf, hxr]
            have Hrow : Hid (row foes rules[k].head = foes[rules[k].head.toNat]) := row_at hk0.1 (by omega)
            have Hps := hid (risB_spec (foesOk_spec Hfo.out rules[k].head.toNat hfk).2.1).2
            dsimp only at Hps
            have hRF : ∀ nq : Nat, RdI (wr.drewN nq) (.slice CF foes[rules[k].head.toNat].length cF) foes[rules[k].head.toNat] := fun nq => ⟨CF, cF, rfl, hcF2, hbF, hrF.ext (scR_mono _) (ext_drewN _ _)⟩
            have HRF := hid hRF
            clear hRF
            obtain ⟨hk00, hk01⟩ := hk0
            obtain ⟨hr00, hr01⟩ := hrange
            generalize hX : L[j] = X at *
            have HX := hid hX
            clear hX
            generalize hh : rules[k].head = hd at *
            have Hh := hid hh
            clear hh
            generalize hh2 : rules[X.toNat].head = hx at *
            have Hh2 := hid hh2
            clear hh2
            generalize hY : foes[hd.toNat] = Y at *
            have HY := hid hY
            clear hY
            cases hm : memB Y hx with
            | false =>
              have Hm := hid hm
              go_wp2
              go_quiet ((go_at_call 153; exact Calls.quiet_of_same (has_plain _ _ _ _ (HRF.out _) Hps.out)))
              go_wp2
              go_ret
              refine Fin HQ ⟨Hbad.out k (by omega) ?_, ext_trans hbel (ext_trans hbl4 (ext_drewN _ _))⟩
              simp only [beatsOk, Hg.out]
              rw [show (L.all fun s => memB (row foes (headOf ⟨foes.length, foes, rules, beats⟩ k)) (headOf ⟨foes.length, foes, rules, beats⟩ s)) = false from by
                rw [List.all_eq_false]; exact ⟨L[j], List.getElem_mem hjl, by rw [HX.out, Hx1.out, Hk1.out, Hrow.out, Hm.out]; simp⟩]
              simp
            | true =>
              have Hm := hid hm
              go_wp2
              go_quiet ((go_at_call 153; exact Calls.quiet_of_same (has_plain _ _ _ _ (HRF.out _) Hps.out)))
              go_wp2
              go_roundw
              case rel =>
                refine ⟨j + 1, by omega, by go_num, fun i h hi => ?_, below_drewN hbl3 _⟩
                by_cases e : i = j
                · subst e; rw [HX.out, Hx1.out, Hk1.out, Hrow.out, Hm.out]
                · exact hin.out i h (by omega)
              case measure => simp [intOf]; omega
          · go_wp2
            go_roundw
            case rel =>
              refine ⟨k + 1, by omega, by go_num, fun i hi => ?_, hbl4⟩
              by_cases e : i = k
              · subst e
                simp only [beatsOk, Hg.out, Hris.out, Bool.true_and]
                rw [List.all_eq_true]
                intro f hf
                obtain ⟨t, ht, rfl⟩ := List.getElem_of_mem hf
                exact hin.out t ht (by omega)
              · exact hno.out i (by omega)
            case measure => simp [intOf]; omega
    · go_wp2
      go_ret
      exact Fin HQ ⟨⟨-1, rfl, by simp only [show ((-1 : Int) < 0) by decide, true_iff]; exact beatsAll_true.2 fun q hq => hno.out q (by dsimp only at hq; omega)⟩, ext_trans hbel hbl⟩
end Go.Proofs.Lx

namespace Go.Proofs.Tj

inductive Leads (adj : Nat → List Nat) : Nat → Nat → Prop where
  | refl (x : Nat) : Leads adj x x
  | step {x y z : Nat} : Leads adj x y → z ∈ adj y → Leads adj x z
theorem Leads.trans {adj : Nat → List Nat} {x y z : Nat} (h : Leads adj x y) (k : Leads adj y z) : Leads adj x z := by
  induction k with
  | refl => exact h
  | step _ hz ih => exact .step ih hz
theorem Leads.edge {adj : Nat → List Nat} {x y : Nat} (h : y ∈ adj x) : Leads adj x y := .step (.refl x) h

def upd {α : Type} (f : Nat → α) (i : Nat) (x : α) : Nat → α := fun j => if j = i then x else f j
theorem upd_same {α : Type} (f : Nat → α) (i : Nat) (x : α) : upd f i x i = x := by simp [upd]
theorem upd_ne {α : Type} {f : Nat → α} {i j : Nat} {x : α} (h : j ≠ i) : upd f i x j = f j := by simp [upd, h]

structure TS where
  idx : Nat → Nat
  low : Nat → Nat
  on : Nat → Bool
  of : Nat → Nat
  stk : List Nat
  cnt : Nat
  kn : Nat

def visN (n : Nat) (f : Nat → Nat) : Nat := (List.range n).countP fun x => f x != 0
theorem visN_le (n : Nat) (f : Nat → Nat) : visN n f ≤ n := by
  have := List.countP_le_length (p := fun x => f x != 0) (l := List.range n)
  simpa [visN] using this
theorem visN_upd {f : Nat → Nat} {v c : Nat} (h0 : f v = 0) (hc : c ≠ 0) : ∀ n, visN n (upd f v c) = visN n f + (if v < n then 1 else 0)
  | 0 => by simp [visN]
  | n + 1 => by
    have ih := visN_upd (f := f) h0 hc n
    simp only [visN, List.range_succ, List.countP_append, List.countP_cons, List.countP_nil] at ih ⊢
    rw [ih]
    by_cases e : n = v
    · subst e; simp [upd, hc, h0]
    · have e' : v ≠ n := fun h => e h.symm
      rw [upd_ne e]
      by_cases h1 : v < n
      · simp [h1, show v < n + 1 by omega]; omega
      · simp [h1, show ¬ v < n + 1 by omega]

structure Inv (n : Nat) (adj : Nat → List Nat) (gs : List Nat) (s : TS) : Prop where
  idx_le : ∀ x, s.idx x ≤ s.cnt
  idx_inj : ∀ x y, s.idx x = s.idx y → s.idx x ≠ 0 → x = y
  vis_lt : ∀ x, s.idx x ≠ 0 → x < n
  cnt_eq : s.cnt = visN n s.idx
  sorted : s.stk.Pairwise fun x y => s.idx x < s.idx y
  stk_vis : ∀ x ∈ s.stk, s.idx x ≠ 0
  on_iff : ∀ x, s.on x = true ↔ x ∈ s.stk
  gs_stk : ∀ g ∈ gs, g ∈ s.stk
  r1 : ∀ x ∈ s.stk, ∀ y ∈ s.stk, s.idx x ≤ s.idx y → Leads adj x y
  r2 : ∀ y ∈ s.stk, ∃ g ∈ gs, s.idx g ≤ s.idx y ∧ Leads adj y g
  b1 : ∀ x, s.idx x ≠ 0 → x ∉ s.stk → ∀ y ∈ adj x, s.idx y ≠ 0 ∧ y ∉ s.stk
  b2 : ∀ x y, s.idx x ≠ 0 → x ∉ s.stk → s.idx y ≠ 0 → y ∉ s.stk → (s.of x = s.of y ↔ Leads adj x y ∧ Leads adj y x)
  b3 : ∀ x, s.idx x ≠ 0 → x ∉ s.stk → s.of x < s.kn
  bl : ∀ x, s.idx x ≠ 0 → x ∉ gs → ∀ y ∈ adj x, s.idx y ≠ 0
  kn_le : s.kn + s.stk.length ≤ s.cnt

structure Post (n : Nat) (adj : Nat → List Nat) (gs : List Nat) (v : Nat) (s s' : TS) : Prop where
  inv : Inv n adj gs s'
  iv : s'.idx v = s.cnt + 1
  old : ∀ x, s.idx x ≠ 0 → s'.idx x = s.idx x ∧ s'.low x = s.low x
  grow : s.cnt < s'.cnt
  ext : ∃ xs, s'.stk = s.stk ++ xs ∧ (∀ x ∈ xs, s.idx x = 0) ∧ ((xs = [] ∧ s'.low v = s'.idx v) ∨ (s'.low v < s'.idx v ∧ ∃ y ∈ s.stk, s.idx y = s'.low v ∧ Leads adj v y)) ∧
    ∀ x ∈ xs, ∀ y ∈ s.stk, y ∈ adj x → s'.low v ≤ s.idx y

structure LI (n : Nat) (adj : Nat → List Nat) (gs : List Nat) (v : Nat) (s : TS) (j : Nat) (c : TS) : Prop where
  inv : Inv n adj (v :: gs) c
  reach : ∀ g ∈ gs, Leads adj g v
  sv : s.idx v = 0
  iv : c.idx v = s.cnt + 1
  sle : ∀ x, s.idx x ≤ s.cnt
  old : ∀ x, s.idx x ≠ 0 → c.idx x = s.idx x ∧ c.low x = s.low x
  grow : s.cnt < c.cnt
  stk : ∃ xs, c.stk = s.stk ++ v :: xs ∧ (∀ x ∈ xs, s.idx x = 0) ∧ ∀ x ∈ xs, ∀ y ∈ s.stk, y ∈ adj x → c.low v ≤ s.idx y
  svis : ∀ x ∈ s.stk, s.idx x ≠ 0
  sgs : ∀ g ∈ gs, g ∈ s.stk
  low_le : c.low v ≤ c.idx v
  low : c.low v = c.idx v ∨ ∃ y ∈ s.stk, s.idx y = c.low v ∧ Leads adj v y
  succ : ∀ i (h : i < (adj v).length), i < j → c.idx (adj v)[i] ≠ 0 ∧ ((adj v)[i] ∈ s.stk → c.low v ≤ s.idx (adj v)[i])

def enter (s : TS) (v : Nat) : TS := { s with idx := upd s.idx v (s.cnt + 1), low := upd s.low v (s.cnt + 1), on := upd s.on v true, stk := s.stk ++ [v], cnt := s.cnt + 1 }
def setLow (s : TS) (v m : Nat) : TS := { s with low := upd s.low v m }

section
variable {n : Nat} {adj : Nat → List Nat} {gs : List Nat} {v : Nat} {s c : TS} {j : Nat}
theorem Post.vis {s' : TS} (h : Post n adj gs v s s') : s'.idx v ≠ 0 := by rw [h.iv]; omega

theorem Inv.setLow (h : Inv n adj gs s) (v m : Nat) : Inv n adj gs (setLow s v m) := ⟨h.1, h.2, h.3, h.4, h.5, h.6, h.7, h.8, h.9, h.10, h.11, h.12, h.13, h.14, h.15⟩

theorem begin0 (h : Inv n adj gs s) (hr : ∀ g ∈ gs, Leads adj g v) (hv : s.idx v = 0) (hn : v < n) : LI n adj gs v s 0 (enter s v) := by
  have hvs : v ∉ s.stk := fun hm => h.stk_vis v hm hv
  have hne : ∀ x, s.idx x ≠ 0 → x ≠ v := fun x hx e => hx (e ▸ hv)
  have hst : ∀ x ∈ s.stk, x ≠ v := fun x hx e => hvs (e ▸ hx)
  have hid : ∀ x, x ≠ v → (enter s v).idx x = s.idx x := fun x hx => upd_ne hx
  have hiv : (enter s v).idx v = s.cnt + 1 := upd_same _ _ _
  have hlv : (enter s v).low v = s.cnt + 1 := upd_same _ _ _
  have hmem : ∀ x, x ∈ (enter s v).stk ↔ x ∈ s.stk ∨ x = v := fun x => by simp [enter]
  refine ⟨⟨?_, ?_, ?_, ?_, ?_, ?_, ?_, ?_, ?_, ?_, ?_, ?_, ?_, ?_, ?_⟩, hr, hv, hiv, h.idx_le, ?_, ?_, ⟨[], by simp [enter], by simp, by simp⟩, h.stk_vis, h.gs_stk, by rw [hiv, hlv]; exact Nat.le_refl _, .inl (by rw [hiv, hlv]), fun i _ hi => absurd hi (by omega)⟩
  · intro x
    by_cases e : x = v
    · subst e; rw [hiv]; exact Nat.le_refl _
    · rw [hid x e]; exact Nat.le_succ_of_le (h.idx_le x)
  · intro x y hxy hx
    by_cases e : x = v <;> by_cases e' : y = v
    · rw [e, e']
    · subst e; rw [hiv, hid y e'] at hxy; have := h.idx_le y; omega
    · subst e'; rw [hiv, hid x e] at hxy; have := h.idx_le x; omega
    · rw [hid x e, hid y e'] at hxy; rw [hid x e] at hx; exact h.idx_inj x y hxy hx
  · intro x hx
    by_cases e : x = v
    · rw [e]; exact hn
    · rw [hid x e] at hx; exact h.vis_lt x hx
  · show s.cnt + 1 = visN n (upd s.idx v (s.cnt + 1))
    rw [visN_upd hv (by omega), if_pos hn, h.cnt_eq]
  · show (s.stk ++ [v]).Pairwise _
    rw [List.pairwise_append]
    refine ⟨h.sorted.imp_of_mem fun {a b} ha hb hab => by rw [hid a (hst a ha), hid b (hst b hb)]; exact hab, by simp, fun a ha b hb => ?_⟩
    rw [List.mem_singleton] at hb
    subst hb
    rw [hiv, hid a (hst a ha)]; have := h.idx_le a; omega
  · intro x hx
    by_cases e : x = v
    · rw [e, hiv]; omega
    · rw [hid x e]; exact h.stk_vis x (((hmem x).1 hx).resolve_right e)
  · intro x
    rw [hmem]
    by_cases e : x = v
    · simp [enter, upd, e]
    · show upd s.on v true x = true ↔ _
      rw [upd_ne e, h.on_iff]; simp [e]
  · intro g hg
    rw [hmem]
    rcases List.mem_cons.1 hg with e | hg
    · exact .inr e
    · exact .inl (h.gs_stk g hg)
  · intro x hx y hy hxy
    rw [hmem] at hx hy
    rcases hx with hx | hx <;> rcases hy with hy | hy
    · rw [hid x (hst x hx), hid y (hst y hy)] at hxy; exact h.r1 x hx y hy hxy
    · subst hy
      obtain ⟨g, hg, _, hxg⟩ := h.r2 x hx
      exact hxg.trans (hr g hg)
    · subst hx; rw [hiv, hid y (hst y hy)] at hxy; have := h.idx_le y; omega
    · subst hx; subst hy; exact .refl _
  · intro y hy
    rw [hmem] at hy
    rcases hy with hy | hy
    · obtain ⟨g, hg, hle, hyg⟩ := h.r2 y hy
      exact ⟨g, List.mem_cons_of_mem _ hg, by rw [hid g (hst g (h.gs_stk g hg)), hid y (hst y hy)]; exact hle, hyg⟩
    · exact ⟨v, List.mem_cons_self, by rw [hy]; exact Nat.le_refl _, by rw [hy]; exact .refl _⟩
  · intro x hx hxs y hy
    rw [hmem] at hxs
    have e : x ≠ v := fun e => hxs (.inr e)
    rw [hid x e] at hx
    obtain ⟨h1, h2⟩ := h.b1 x hx (fun hm => hxs (.inl hm)) y hy
    have e' : y ≠ v := hne y h1
    rw [hid y e', hmem]
    exact ⟨h1, fun hm => hm.elim h2 e'⟩
  · intro x y hx hxs hy hys
    rw [hmem] at hxs hys
    have e : x ≠ v := fun e => hxs (.inr e)
    have e' : y ≠ v := fun e => hys (.inr e)
    rw [hid x e] at hx; rw [hid y e'] at hy
    exact h.b2 x y hx (fun hm => hxs (.inl hm)) hy (fun hm => hys (.inl hm))
  · intro x hx hxs
    rw [hmem] at hxs
    have e : x ≠ v := fun e => hxs (.inr e)
    rw [hid x e] at hx
    exact h.b3 x hx (fun hm => hxs (.inl hm))
  · intro x hx hxg y hy
    have e : x ≠ v := fun e => hxg (by rw [e]; exact List.mem_cons_self)
    rw [hid x e] at hx
    have := h.bl x hx (fun hm => hxg (List.mem_cons_of_mem _ hm)) y hy
    rw [hid y (hne y this)]; exact this
  · show s.kn + (s.stk ++ [v]).length ≤ s.cnt + 1
    have := h.kn_le
    simp; omega
  · intro x hx
    exact ⟨hid x (hne x hx), upd_ne (hne x hx)⟩
  · show s.cnt < s.cnt + 1
    omega

theorem LI.pre (h : LI n adj gs v s j c) (hj : j < (adj v).length) : ∀ g ∈ v :: gs, Leads adj g (adj v)[j] := by
  intro g hg
  have hvw : Leads adj v (adj v)[j] := .edge (List.getElem_mem hj)
  rcases List.mem_cons.1 hg with e | hg
  · rw [e]; exact hvw
  · exact (h.reach g hg).trans hvw

theorem min_cases (a b : Nat) : (min a b = a ∧ a ≤ b) ∨ (min a b = b ∧ b < a) := by omega
end
end Go.Proofs.Tj

namespace Go.Proofs.Tj
section
variable {n : Nat} {adj : Nat → List Nat} {gs : List Nat} {v : Nat} {s c : TS} {j : Nat}

theorem LI.v_stk (h : LI n adj gs v s j c) : v ∈ c.stk := h.inv.gs_stk v List.mem_cons_self
theorem LI.idx_ne (h : LI n adj gs v s j c) : c.idx v ≠ 0 := by rw [h.iv]; omega
/-- What stands lower on the stack has been there from the beginning. -/
theorem LI.lower (h : LI n adj gs v s j c) {y : Nat} (hy : y ∈ c.stk) (hlt : c.idx y < c.idx v) : y ∈ s.stk := by
  obtain ⟨xs, hs, hx, _⟩ := h.stk
  have hp := h.inv.sorted
  rw [hs] at hy hp
  rcases List.mem_append.1 hy with h1 | h1
  · exact h1
  · rcases List.mem_cons.1 h1 with h2 | h2
    · subst h2; omega
    · rw [List.pairwise_append] at hp
      have := List.rel_of_pairwise_cons hp.2.1 h2
      omega

theorem LI.stepC (h : LI n adj gs v s j c) (hj : j < (adj v).length) (hv : c.idx (adj v)[j] ≠ 0) (ho : c.on (adj v)[j] = false) : LI n adj gs v s (j + 1) c := by
  refine { h with succ := fun i hi hij => ?_ }
  by_cases e : i = j
  · subst e
    refine ⟨hv, fun hm => ?_⟩
    obtain ⟨xs, hs, _⟩ := h.stk
    have : (adj v)[i] ∈ c.stk := by rw [hs]; exact List.mem_append_left _ hm
    rw [← h.inv.on_iff, ho] at this; cases this
  · exact h.succ i hi (by omega)

theorem LI.stepB (h : LI n adj gs v s j c) (hj : j < (adj v).length) (hv : c.idx (adj v)[j] ≠ 0) (ho : c.on (adj v)[j] = true) :
    LI n adj gs v s (j + 1) (setLow c v (min (c.low v) (c.idx (adj v)[j]))) := by
  have hws : (adj v)[j] ∈ c.stk := (h.inv.on_iff _).1 ho
  have hl : (setLow c v (min (c.low v) (c.idx (adj v)[j]))).low v = min (c.low v) (c.idx (adj v)[j]) := upd_same _ _ _
  obtain ⟨xs, hs, hx, hxe⟩ := h.stk
  refine ⟨h.inv.setLow _ _, h.reach, h.sv, h.iv, h.sle, fun x hx => ?_, h.grow, ⟨xs, hs, hx, fun x hx y hy he => ?_⟩, h.svis, h.sgs, ?_, ?_, fun i hi hij => ?_⟩
  · have : x ≠ v := fun e => hx (e ▸ h.sv)
    exact ⟨(h.old x hx).1, (upd_ne this).trans (h.old x hx).2⟩
  · rw [hl]; exact Nat.le_trans (Nat.min_le_left _ _) (hxe x hx y hy he)
  · rw [hl]; exact Nat.le_trans (Nat.min_le_left _ _) h.low_le
  · rw [hl]
    show min (c.low v) (c.idx (adj v)[j]) = c.idx v ∨ _
    rcases min_cases (c.low v) (c.idx (adj v)[j]) with ⟨e, _⟩ | ⟨e, hlt⟩
    · rw [e]; exact h.low
    · rw [e]
      have h1 := h.low_le
      have hsw := h.lower hws (by omega)
      exact .inr ⟨(adj v)[j], hsw, ((h.old _ (h.svis _ hsw)).1).symm, .edge (List.getElem_mem hj)⟩
  · rw [hl]
    show c.idx _ ≠ 0 ∧ _
    by_cases e : i = j
    · subst e
      exact ⟨hv, fun hm => by rw [← (h.old _ (h.svis _ hm)).1]; exact Nat.min_le_right _ _⟩
    · have := h.succ i hi (by omega)
      exact ⟨this.1, fun hm => Nat.le_trans (Nat.min_le_left _ _) (this.2 hm)⟩

theorem LI.stepA (h : LI n adj gs v s j c) (hj : j < (adj v).length) {c1 : TS} (hw : c.idx (adj v)[j] = 0) (hp : Post n adj (v :: gs) (adj v)[j] c c1) :
    LI n adj gs v s (j + 1) (setLow c1 v (min (c1.low v) (c1.low (adj v)[j]))) := by
  have hvn := h.idx_ne
  have hvo := hp.old v hvn
  have hl : (setLow c1 v (min (c1.low v) (c1.low (adj v)[j]))).low v = min (c1.low v) (c1.low (adj v)[j]) := upd_same _ _ _
  have hold : ∀ x, s.idx x ≠ 0 → c1.idx x = s.idx x ∧ c1.low x = s.low x := fun x hx => by
    obtain ⟨e1, e2⟩ := h.old x hx
    obtain ⟨e3, e4⟩ := hp.old x (by rw [e1]; exact hx)
    exact ⟨e3.trans e1, e4.trans e2⟩
  obtain ⟨xs, hs, hx, hxe⟩ := h.stk
  obtain ⟨ys, hs1, hy, hcase, hye⟩ := hp.ext
  have hsc : ∀ y ∈ s.stk, y ∈ c.stk := fun y hy => by rw [hs]; exact List.mem_append_left _ hy
  have hzero : ∀ x, c.idx x = 0 → s.idx x = 0 := fun x hx => by
    by_cases e : s.idx x = 0
    · exact e
    · rw [(h.old x e).1] at hx; exact hx
  refine ⟨hp.inv.setLow _ _, h.reach, h.sv, hvo.1.trans h.iv, h.sle, fun x hx => ?_, Nat.lt_trans h.grow hp.grow, ⟨xs ++ ys, ?_, ?_, ?_⟩, h.svis, h.sgs, ?_, ?_, fun i hi hij => ?_⟩
  · have : x ≠ v := fun e => hx (e ▸ h.sv)
    exact ⟨(hold x hx).1, (upd_ne this).trans (hold x hx).2⟩
  · show c1.stk = _
    rw [hs1, hs]; simp
  · intro x hm
    rcases List.mem_append.1 hm with hm | hm
    · exact hx x hm
    · exact hzero x (hy x hm)
  · intro x hm y hys he
    rw [hl]
    rcases List.mem_append.1 hm with hm | hm
    · exact Nat.le_trans (Nat.min_le_left _ _) (by rw [hvo.2]; exact hxe x hm y hys he)
    · refine Nat.le_trans (Nat.min_le_right _ _) ?_
      rw [← (h.old y (h.svis y hys)).1]
      exact hye x hm y (hsc y hys) he
  · rw [hl]
    show _ ≤ c1.idx v
    rw [hvo.1]
    exact Nat.le_trans (Nat.min_le_left _ _) (by rw [hvo.2]; exact h.low_le)
  · rw [hl]
    show min (c1.low v) (c1.low (adj v)[j]) = c1.idx v ∨ _
    rw [hvo.1, hvo.2]
    rcases min_cases (c.low v) (c1.low (adj v)[j]) with ⟨e, _⟩ | ⟨e, hlt⟩
    · rw [e]; exact h.low
    · rw [e]
      have h1 := h.low_le
      rcases hcase with ⟨_, h2⟩ | ⟨_, y, hyc, hye, hyr⟩
      · exfalso
        have h3 := hp.iv
        have h4 := h.inv.idx_le v
        omega
      · have hys := h.lower hyc (by omega)
        exact .inr ⟨y, hys, by rw [← (h.old y (h.svis y hys)).1]; exact hye, (Leads.edge (List.getElem_mem hj)).trans hyr⟩
  · rw [hl]
    show c1.idx _ ≠ 0 ∧ _
    by_cases e : i = j
    · subst e
      refine ⟨hp.vis, fun hm => ?_⟩
      exact absurd (hzero _ hw) (h.svis _ hm)
    · have := h.succ i hi (by omega)
      refine ⟨by rw [(hp.old _ this.1).1]; exact this.1, fun hm => Nat.le_trans (Nat.min_le_left _ _) (by rw [hvo.2]; exact this.2 hm)⟩

theorem LI.keep (h : LI n adj gs v s (adj v).length c) (hne : c.low v ≠ c.idx v) : Post n adj gs v s c := by
  have hlt : c.low v < c.idx v := by have := h.low_le; omega
  obtain ⟨y0, hy0, hy0l, hy0r⟩ := h.low.resolve_left hne
  obtain ⟨xs, hs, hx, hxe⟩ := h.stk
  have hsc : ∀ y ∈ s.stk, y ∈ c.stk := fun y hy => by rw [hs]; exact List.mem_append_left _ hy
  have hi := h.inv
  have hy0i : c.idx y0 = s.idx y0 := (h.old y0 (h.svis y0 hy0)).1
  -- a gray one below v
  obtain ⟨g0, hg0, hg0l, hg0r⟩ := hi.r2 y0 (hsc y0 hy0)
  have hg0v : g0 ≠ v := fun e => by subst e; omega
  have hg0g : g0 ∈ gs := (List.mem_cons.1 hg0).resolve_left hg0v
  refine ⟨⟨hi.idx_le, hi.idx_inj, hi.vis_lt, hi.cnt_eq, hi.sorted, hi.stk_vis, hi.on_iff, fun g hg => hi.gs_stk g (List.mem_cons_of_mem _ hg), hi.r1, ?_, hi.b1, hi.b2, hi.b3, ?_, hi.kn_le⟩, h.iv, h.old, h.grow, ⟨v :: xs, hs, ?_, .inr ⟨hlt, y0, hy0, hy0l, hy0r⟩, ?_⟩⟩
  · intro y hy
    obtain ⟨g, hg, hgl, hgr⟩ := hi.r2 y hy
    rcases List.mem_cons.1 hg with e | hg
    · subst e
      exact ⟨g0, hg0g, by omega, (hgr.trans hy0r).trans hg0r⟩
    · exact ⟨g, hg, hgl, hgr⟩
  · intro x hx hxg y hy
    by_cases e : x = v
    · subst e
      obtain ⟨i, hi2, rfl⟩ := List.getElem_of_mem hy
      exact (h.succ i hi2 hi2).1
    · exact hi.bl x hx (fun hm => (List.mem_cons.1 hm).elim e hxg) y hy
  · intro x hm
    rcases List.mem_cons.1 hm with e | hm
    · rw [e]; exact h.sv
    · exact hx x hm
  · intro x hm y hy he
    rcases List.mem_cons.1 hm with e | hm
    · subst e
      obtain ⟨i, hi2, rfl⟩ := List.getElem_of_mem he
      exact (h.succ i hi2 hi2).2 hy
    · exact hxe x hm y hy he

/-- The walk with zs off the stack, in a part of their own. -/
def offs (c : TS) (ys zs : List Nat) : TS := { c with on := fun x => if x ∈ zs then false else c.on x, of := fun x => if x ∈ zs then c.kn else c.of x, stk := ys }
def popped (c : TS) (ys zs : List Nat) : TS := { offs c ys zs with kn := c.kn + 1 }

theorem LI.pop (h : LI n adj gs v s (adj v).length c) (he : c.low v = c.idx v) {xs : List Nat} (hs : c.stk = s.stk ++ v :: xs) : Post n adj gs v s (popped c s.stk (v :: xs)) := by
  obtain ⟨xs', hs', hx, hxe⟩ := h.stk
  have exs : xs' = xs := by
    have := hs'.symm.trans hs
    have := List.append_cancel_left this
    injection this
  subst exs
  have hsc : ∀ y ∈ s.stk, y ∈ c.stk := fun y hy => by rw [hs]; exact List.mem_append_left _ hy
  have hC : ∀ y, y ∈ v :: xs' → y ∈ c.stk := fun y hy => by rw [hs]; exact List.mem_append_right _ hy
  have hi := h.inv
  have hCs : ∀ y, y ∈ v :: xs' → s.idx y = 0 := fun y hy => (List.mem_cons.1 hy).elim (fun e => e ▸ h.sv) (hx y)
  have hdis : ∀ y, y ∈ v :: xs' → y ∉ s.stk := fun y hy hm => h.svis y hm (hCs y hy)
  have hvle : ∀ y, y ∈ v :: xs' → c.idx v ≤ c.idx y := fun y hy => by
    have hp := hi.sorted
    rw [hs, List.pairwise_append] at hp
    rcases List.mem_cons.1 hy with e | hm
    · rw [e]; exact Nat.le_refl _
    · exact Nat.le_of_lt (List.rel_of_pairwise_cons hp.2.1 hm)
  have hslt : ∀ y ∈ s.stk, c.idx y < c.idx v := fun y hy => by
    have hp := hi.sorted
    rw [hs, List.pairwise_append] at hp
    exact hp.2.2 y hy v List.mem_cons_self
  -- all of the part reach v, and v them
  have hto : ∀ y, y ∈ v :: xs' → Leads adj v y := fun y hy => hi.r1 v (h.v_stk) y (hC y hy) (hvle y hy)
  have hfrom : ∀ y, y ∈ v :: xs' → Leads adj y v := fun y hy => by
    obtain ⟨g, hg, _, hgr⟩ := hi.r2 y (hC y hy)
    rcases List.mem_cons.1 hg with e | hg
    · exact e ▸ hgr
    · exact hgr.trans (h.reach g hg)
  -- nothing leads from it to the elder ones on the stack
  have hout : ∀ x, x ∈ v :: xs' → ∀ y ∈ adj x, c.idx y ≠ 0 ∧ y ∉ s.stk := fun x hm y hy => by
    have hvis : c.idx y ≠ 0 := by
      by_cases e : x = v
      · subst e
        obtain ⟨i, hi2, rfl⟩ := List.getElem_of_mem hy
        exact (h.succ i hi2 hi2).1
      · refine hi.bl x (hi.stk_vis x (hC x hm)) (fun hg => ?_) y hy
        rcases List.mem_cons.1 hg with e' | hg
        · exact e e'
        · exact hdis x hm (h.sgs x hg)
    refine ⟨hvis, fun hys => ?_⟩
    have h1 := hslt y hys
    have h2 := (h.old y (h.svis y hys)).1
    by_cases e : x = v
    · subst e
      obtain ⟨i, hi2, rfl⟩ := List.getElem_of_mem hy
      have := (h.succ i hi2 hi2).2 hys
      omega
    · have := hxe x ((List.mem_cons.1 hm).resolve_left e) y hys hy
      omega
  -- what was off the stack before leads to nothing on it
  have hclosed : ∀ x y, Leads adj x y → c.idx x ≠ 0 → x ∉ c.stk → c.idx y ≠ 0 ∧ y ∉ c.stk := fun x y hr h1 h2 => by
    induction hr with
    | refl => exact ⟨h1, h2⟩
    | step _ hz ih => exact hi.b1 _ ih.1 ih.2 _ hz
  have hstk : ∀ x, x ∉ s.stk → x ∈ v :: xs' ∨ x ∉ c.stk := fun x hx => by
    by_cases e : x ∈ v :: xs'
    · exact .inl e
    · exact .inr (by rw [hs]; exact fun hm => (List.mem_append.1 hm).elim hx e)
  have hof : ∀ x, (popped c s.stk (v :: xs')).of x = if x ∈ v :: xs' then c.kn else c.of x := fun x => rfl
  refine ⟨⟨hi.idx_le, hi.idx_inj, hi.vis_lt, hi.cnt_eq, ?_, fun x hx => hi.stk_vis x (hsc x hx), ?_, h.sgs, fun x hx y hy => hi.r1 x (hsc x hx) y (hsc y hy), ?_, ?_, ?_, ?_, ?_, ?_⟩, h.iv, h.old, h.grow, ⟨[], by simp [popped, offs], by simp, .inl ⟨rfl, he⟩, by simp⟩⟩
  · have hp := hi.sorted
    rw [hs, List.pairwise_append] at hp
    exact hp.1
  · intro x
    show (if x ∈ v :: xs' then false else c.on x) = true ↔ x ∈ s.stk
    by_cases e : x ∈ v :: xs'
    · rw [if_pos e]; simp only [Bool.false_eq_true, false_iff]; exact hdis x e
    · rw [if_neg e, hi.on_iff, hs, List.mem_append]; simp only [e, or_false]
  · intro y hy
    obtain ⟨g, hg, hgl, hgr⟩ := hi.r2 y (hsc y hy)
    rcases List.mem_cons.1 hg with e | hg
    · subst e; have := hslt y hy; change c.idx g ≤ c.idx y at hgl; omega
    · exact ⟨g, hg, hgl, hgr⟩
  · intro x hx hxs y hy
    rcases hstk x hxs with hm | hm
    · exact hout x hm y hy
    · obtain ⟨h1, h2⟩ := hi.b1 x hx hm y hy
      exact ⟨h1, fun hm => h2 (hsc y hm)⟩
  · intro x y hx hxs hy hys
    rw [hof, hof]
    rcases hstk x hxs with hmx | hmx <;> rcases hstk y hys with hmy | hmy
    · rw [if_pos hmx, if_pos hmy]
      simp only [true_iff]
      exact ⟨(hfrom x hmx).trans (hto y hmy), (hfrom y hmy).trans (hto x hmx)⟩
    · rw [if_pos hmx, if_neg (fun e => hmy (hC y e))]
      have := hi.b3 y hy hmy
      constructor
      · intro e; omega
      · rintro ⟨_, h2⟩
        exact absurd (hC x hmx) (hclosed y x h2 hy hmy).2
    · rw [if_neg (fun e => hmx (hC x e)), if_pos hmy]
      have := hi.b3 x hx hmx
      constructor
      · intro e; omega
      · rintro ⟨h1, _⟩
        exact absurd (hC y hmy) (hclosed x y h1 hx hmx).2
    · rw [if_neg (fun e => hmx (hC x e)), if_neg (fun e => hmy (hC y e))]
      exact hi.b2 x y hx hmx hy hmy
  · intro x hx hxs
    rw [hof]
    show _ < c.kn + 1
    rcases hstk x hxs with hm | hm
    · rw [if_pos hm]; omega
    · rw [if_neg (fun e => hm (hC x e))]
      have := hi.b3 x hx hm
      omega
  · intro x hx hxg y hy
    by_cases e : x ∈ v :: xs'
    · exact (hout x e y hy).1
    · refine hi.bl x hx (fun hg => ?_) y hy
      rcases List.mem_cons.1 hg with e' | hg
      · exact e (e' ▸ List.mem_cons_self)
      · exact hxg hg
  · have := hi.kn_le
    rw [hs] at this
    show c.kn + 1 + s.stk.length ≤ c.cnt
    simp at this; omega

/-- At the beginning. -/
def blank : TS := ⟨fun _ => 0, fun _ => 0, fun _ => false, fun _ => 0, [], 0, 0⟩
theorem inv_blank (n : Nat) (adj : Nat → List Nat) : Inv n adj [] blank := by
  refine ⟨?_, ?_, ?_, ?_, ?_, ?_, ?_, ?_, ?_, ?_, ?_, ?_, ?_, ?_, ?_⟩ <;> simp [blank, visN]
theorem inv_empty {n : Nat} {adj : Nat → List Nat} {s : TS} (h : Inv n adj [] s) : s.stk = [] := by
  cases hs : s.stk with
  | nil => rfl
  | cons x l =>
    obtain ⟨g, hg, _⟩ := h.r2 x (by rw [hs]; exact List.mem_cons_self)
    cases hg
end
end Go.Proofs.Tj

namespace Go.Proofs.Lx
open Go Go.RowKit Go.Proofs.Tj
set_option linter.unusedSimpArgs false
set_option linter.unusedVariables false

def tab {α : Type} (n : Nat) (f : Nat → α) : List α := (List.range n).map f
theorem tab_length {α : Type} (n : Nat) (f : Nat → α) : (tab n f).length = n := by simp [tab]
theorem tab_at {α : Type} {n : Nat} {f : Nat → α} {i : Nat} (h : i < n) : (tab n f)[i]'(by rw [tab_length]; exact h) = f i := by simp [tab]
theorem tab_set {α : Type} (n : Nat) (f : Nat → α) (i : Nat) (x : α) : (tab n f).set i x = tab n (upd f i x) := by
  apply List.ext_getElem
  · simp [tab]
  · intro j h1 h2
    rw [tab_length] at h2
    rw [List.getElem_set, tab_at h2]
    by_cases e : i = j
    · subst e; rw [if_pos rfl, tab_at h2, upd_same]
    · rw [if_neg e, tab_at h2, upd_ne (Ne.symm e)]

/-- append to a row of the call's own, as one step of a region that draws. -/
theorem step_append_own {P : Program} {ops : Array Oper} {o : Oper} {a : Act} {w : World} {K : Act → World → Prop} {Q : Exit → Act → World → Prop} {E : Prop}
    (hgd : o.guard = none) (s x : Operand) (t : TypeId)
    (ho : o.op = .call { callee := .builtin .append, args := #[s, x], argTypes := #[t, t] })
    (base : Nat) (e : TypeId) (z : Value) (bytes : Nat) (ht : P.underlying t = some (.slice e)) (hinfo : (P.info? e).map (fun i => (i.zero, i.size, i.bytes)) = some (some z, 1, bytes)) (hz : z.cells.size = 1)
    (v : Value) (n : Nat) (xs : List Value) (hs : a.eval s = v) (hown : w.ownsRow base e 1 v n xs)
    (ad : Addr) (y : Value) (hx : a.eval x = .slice (some ad) 1 1) (hnew : w.cell? ad = some y) (h1 : y.oneCell' = true)
    (h63 : n + 1 ≤ maxLen) (hbytes : (n + 1) * bytes ≤ 140737488355328) (hbase : base ≤ w.heap.size)
    (h : ∀ v' w', w'.ownsRow base e 1 v' (n + 1) (xs ++ [y]) → w.grownBy w' v.ownBlock → K (a.put o.dst v') w') :
    if Region.wanted o (yielded ops a.tmps) = true then Oper.wp P o a w K Q else E := by
  rw [if_pos (by simp [Region.wanted, hgd])]
  obtain ⟨i, hi, hz0, hz1, hz2⟩ := info_parts hinfo
  refine wp_append_own w s x t ho base e i z 1 bytes ht hi hz0 hz1 hz2 hz (by omega) v n xs hs hown ad 1 1 [y] hx rfl ?_ ?_ h63 hbytes hbase ?_
  · intro j u hj
    match j, hj with
    | 0, hj => simp at hj; subst hj; rw [add_zero]; exact hnew
  · intro u hu; simp at hu; subst hu; exact h1
  · intro v' w' h2 h3 _; exact h v' w' h2 h3

structure KN (W0 : World) (n : Nat) (fv : Value) (b gI gL gO gF base : Nat) (s : TS) (sv : Value) (w : World) : Prop where
  blk : w.heap[b]? = some (.cells #[fv, .slice (some ⟨gI, 0, none⟩) n n, .slice (some ⟨gL, 0, none⟩) n n, .slice (some ⟨gO, 0, none⟩) n n, sv, .slice (some ⟨gF, 0, none⟩) n n, .int .i64 s.cnt, .int .i64 s.kn] 153 (0, 0))
  aI : Arr (fun x : Nat => Value.int .i64 (x : Int)) 3 w gI (tab n s.idx)
  aL : Arr (fun x : Nat => Value.int .i64 (x : Int)) 3 w gL (tab n s.low)
  aO : Arr Value.bool 4 w gO (tab n s.on)
  aF : Arr (fun x : Nat => Value.int .i64 (x : Int)) 3 w gF (tab n s.of)
  stk : w.ownsRow base 3 1 sv s.stk.length (s.stk.map fun (x : Nat) => Value.int .i64 (x : Int))
  old : Below W0.heap.size W0 w
  hb : W0.heap.size ≤ b ∧ b < base
  hI : W0.heap.size ≤ gI ∧ gI < base
  hL : W0.heap.size ≤ gL ∧ gL < base
  hO : W0.heap.size ≤ gO ∧ gO < base
  hF : W0.heap.size ≤ gF ∧ gF < base
  hbase : base ≤ w.heap.size
  d1 : gI ≠ gL ∧ gI ≠ gO ∧ gI ≠ gF ∧ gI ≠ b
  d2 : gL ≠ gO ∧ gL ≠ gF ∧ gL ≠ b
  d3 : gO ≠ gF ∧ gO ≠ b ∧ gF ≠ b
/-- The parts' numbers, in memory. -/
theorem KN.cell {W0 : World} {n : Nat} {fv : Value} {b gI gL gO gF base : Nat} {s : TS} {sv : Value} {w : World} (h : KN W0 n fv b gI gL gO gF base s sv w) (i : Nat) :
    w.cell? ⟨b, i, none⟩ = (#[fv, .slice (some ⟨gI, 0, none⟩) n n, .slice (some ⟨gL, 0, none⟩) n n, .slice (some ⟨gO, 0, none⟩) n n, sv, .slice (some ⟨gF, 0, none⟩) n n, .int .i64 s.cnt, .int .i64 s.kn] : Array Value)[i]? := cell_of_row w b i _ _ _ h.blk
theorem KN.free {W0 : World} {n : Nat} {fv : Value} {b gI gL gO gF base : Nat} {s : TS} {sv : Value} {w : World} (h : KN W0 n fv b gI gL gO gF base s sv w) (i : Nat) :
    w.frozen? ⟨b, i, none⟩ = false := frozen_of_row w b i _ _ h.blk

section
variable {W0 : World} {n : Nat} {fv : Value} {b gI gL gO gF base : Nat} {s : TS} {sv : Value} {w : World}
theorem KN.own_ne (h : KN W0 n fv b gI gL gO gF base s sv w) {g : Nat} (hg : g < base) : sv.ownBlock ≠ some g := fun e => by
  have := own_base' h.stk g e
  omega
where own_base' {w : World} {base : Nat} {e : TypeId} {size n : Nat} {v : Value} {xs : List Value} (h : w.ownsRow base e size v n xs) (k : Nat) (hk : v.ownBlock = some k) : base ≤ k := (h.lt k hk).1
theorem KN.drew (h : KN W0 n fv b gI gL gO gF base s sv w) : KN W0 n fv b gI gL gO gF base s sv w.drew :=
  ⟨h.blk, h.aI, h.aL, h.aO, h.aF, h.stk, h.old.drew, h.hb, h.hI, h.hL, h.hO, h.hF, h.hbase, h.d1, h.d2, h.d3⟩
theorem KN.drewN (h : KN W0 n fv b gI gL gO gF base s sv w) (m : Nat) : KN W0 n fv b gI gL gO gF base s sv (w.drewN m) := by
  induction m with
  | zero => exact h
  | succ m ih => rw [← World.drew_drewN]; exact ih.drew
theorem KN.ext (h : KN W0 n fv b gI gL gO gF base s sv w) {w' : World} (hb : Below w.heap.size w w') : KN W0 n fv b gI gL gO gF base s sv w' :=
  ⟨(hb.block b (lt_of_block h.blk)).trans h.blk, h.aI.ext hb, h.aL.ext hb, h.aO.ext hb, h.aF.ext hb,
    h.stk.kept (row := none) ⟨hb.os, hb.tape, hb.output, hb.size, fun k hk _ => hb.block k hk⟩ (by cases sv.ownBlock <;> simp), h.old.trans (hb.mono h.old.size), h.hb, h.hI, h.hL, h.hO, h.hF, Nat.le_trans h.hbase hb.size, h.d1, h.d2, h.d3⟩
theorem KN.alloc (h : KN W0 n fv b gI gL gO gF base s sv w) (o : Obj) : KN W0 n fv b gI gL gO gF base s sv (w.alloc o) := h.ext (ext_alloc w o)
theorem KN.put_cnt (h : KN W0 n fv b gI gL gO gF base s sv w) (c : Nat) : KN W0 n fv b gI gL gO gF base { s with cnt := c } sv (w.setCell ⟨b, 6, none⟩ (.int .i64 (c : Int))) := by
  obtain ⟨d11, d12, d13, d14⟩ := h.d1
  obtain ⟨d21, d22, d23⟩ := h.d2
  obtain ⟨d31, d32, d33⟩ := h.d3
  refine ⟨?_, h.aI.other d14 _, h.aL.other d23 _, h.aO.other d32 _, h.aF.other d33 _, ownsRow_setCell_other h.stk (h.own_ne h.hb.2) _, h.old.setCell h.hb.1 _, h.hb, h.hI, h.hL, h.hO, h.hF, by simp only [World.size_setCell]; exact h.hbase, h.d1, h.d2, h.d3⟩
  rw [heap_setCell_same w b 6 _ _ _ h.blk]; simp
theorem KN.put_kn (h : KN W0 n fv b gI gL gO gF base s sv w) (c : Nat) : KN W0 n fv b gI gL gO gF base { s with kn := c } sv (w.setCell ⟨b, 7, none⟩ (.int .i64 (c : Int))) := by
  obtain ⟨d11, d12, d13, d14⟩ := h.d1
  obtain ⟨d21, d22, d23⟩ := h.d2
  obtain ⟨d31, d32, d33⟩ := h.d3
  refine ⟨?_, h.aI.other d14 _, h.aL.other d23 _, h.aO.other d32 _, h.aF.other d33 _, ownsRow_setCell_other h.stk (h.own_ne h.hb.2) _, h.old.setCell h.hb.1 _, h.hb, h.hI, h.hL, h.hO, h.hF, by simp only [World.size_setCell]; exact h.hbase, h.d1, h.d2, h.d3⟩
  rw [heap_setCell_same w b 7 _ _ _ h.blk]; simp
theorem KN.put_stk (h : KN W0 n fv b gI gL gO gF base s sv w) (l : List Nat) (sv' : Value) (ho : w.ownsRow base 3 1 sv' l.length (l.map fun (x : Nat) => Value.int .i64 (x : Int))) :
    KN W0 n fv b gI gL gO gF base { s with stk := l } sv' (w.setCell ⟨b, 4, none⟩ sv') := by
  obtain ⟨d11, d12, d13, d14⟩ := h.d1
  obtain ⟨d21, d22, d23⟩ := h.d2
  obtain ⟨d31, d32, d33⟩ := h.d3
  refine ⟨?_, h.aI.other d14 _, h.aL.other d23 _, h.aO.other d32 _, h.aF.other d33 _, ownsRow_setCell_other ho (fun e => ?_) _, h.old.setCell h.hb.1 _, h.hb, h.hI, h.hL, h.hO, h.hF, by simp only [World.size_setCell]; exact h.hbase, h.d1, h.d2, h.d3⟩
  · rw [heap_setCell_same w b 4 _ _ _ h.blk]; simp
  · have := (ho.lt b e).1; have := h.hb.2; omega
theorem KN.put_idx (h : KN W0 n fv b gI gL gO gF base s sv w) (v x : Nat) : KN W0 n fv b gI gL gO gF base { s with idx := upd s.idx v x } sv (w.setCell ⟨gI, v, none⟩ (.int .i64 (x : Int))) := by
  obtain ⟨d11, d12, d13, d14⟩ := h.d1
  obtain ⟨d21, d22, d23⟩ := h.d2
  obtain ⟨d31, d32, d33⟩ := h.d3
  refine ⟨(heap_setCell_other w _ b _ (Ne.symm d14)).trans h.blk, ?_, h.aL.other (Ne.symm d11) _, h.aO.other (Ne.symm d12) _, h.aF.other (Ne.symm d13) _, ownsRow_setCell_other h.stk (h.own_ne h.hI.2) _, h.old.setCell h.hI.1 _, h.hb, h.hI, h.hL, h.hO, h.hF, by simp only [World.size_setCell]; exact h.hbase, h.d1, h.d2, h.d3⟩
  rw [← tab_set]; exact h.aI.set v x
theorem KN.put_low (h : KN W0 n fv b gI gL gO gF base s sv w) (v x : Nat) : KN W0 n fv b gI gL gO gF base { s with low := upd s.low v x } sv (w.setCell ⟨gL, v, none⟩ (.int .i64 (x : Int))) := by
  obtain ⟨d11, d12, d13, d14⟩ := h.d1
  obtain ⟨d21, d22, d23⟩ := h.d2
  obtain ⟨d31, d32, d33⟩ := h.d3
  refine ⟨(heap_setCell_other w _ b _ (Ne.symm d23)).trans h.blk, h.aI.other d11 _, ?_, h.aO.other (Ne.symm d21) _, h.aF.other (Ne.symm d22) _, ownsRow_setCell_other h.stk (h.own_ne h.hL.2) _, h.old.setCell h.hL.1 _, h.hb, h.hI, h.hL, h.hO, h.hF, by simp only [World.size_setCell]; exact h.hbase, h.d1, h.d2, h.d3⟩
  rw [← tab_set]; exact h.aL.set v x
theorem KN.put_on (h : KN W0 n fv b gI gL gO gF base s sv w) (v : Nat) (x : Bool) : KN W0 n fv b gI gL gO gF base { s with on := upd s.on v x } sv (w.setCell ⟨gO, v, none⟩ (.bool x)) := by
  obtain ⟨d11, d12, d13, d14⟩ := h.d1
  obtain ⟨d21, d22, d23⟩ := h.d2
  obtain ⟨d31, d32, d33⟩ := h.d3
  refine ⟨(heap_setCell_other w _ b _ (Ne.symm d32)).trans h.blk, h.aI.other d12 _, h.aL.other d21 _, ?_, h.aF.other (Ne.symm d31) _, ownsRow_setCell_other h.stk (h.own_ne h.hO.2) _, h.old.setCell h.hO.1 _, h.hb, h.hI, h.hL, h.hO, h.hF, by simp only [World.size_setCell]; exact h.hbase, h.d1, h.d2, h.d3⟩
  rw [← tab_set]; exact h.aO.set v x
theorem KN.put_of (h : KN W0 n fv b gI gL gO gF base s sv w) (v x : Nat) : KN W0 n fv b gI gL gO gF base { s with of := upd s.of v x } sv (w.setCell ⟨gF, v, none⟩ (.int .i64 (x : Int))) := by
  obtain ⟨d11, d12, d13, d14⟩ := h.d1
  obtain ⟨d21, d22, d23⟩ := h.d2
  obtain ⟨d31, d32, d33⟩ := h.d3
  refine ⟨(heap_setCell_other w _ b _ (Ne.symm d33)).trans h.blk, h.aI.other d13 _, h.aL.other d22 _, h.aO.other d31 _, ?_, ownsRow_setCell_other h.stk (h.own_ne h.hF.2) _, h.old.setCell h.hF.1 _, h.hb, h.hI, h.hL, h.hO, h.hF, by simp only [World.size_setCell]; exact h.hbase, h.d1, h.d2, h.d3⟩
  rw [← tab_set]; exact h.aF.set v x
theorem KN.grown_blk (h : KN W0 n fv b gI gL gO gF base s sv w) {w' : World} (hg : w.grownBy w' sv.ownBlock) {g : Nat} (hgb : g < base) : w'.heap[g]? = w.heap[g]? :=
  hg.block g (Nat.lt_of_lt_of_le hgb h.hbase) (fun e => h.own_ne hgb e.symm)
theorem KN.after4 (h : KN W0 n fv b gI gL gO gF base s sv w) {w' : World} (hg : w.grownBy w' sv.ownBlock) : w'.cell? ⟨b, 4, none⟩ = some sv ∧ w'.frozen? ⟨b, 4, none⟩ = false :=
  ⟨(World.cell?_of_block (h.grown_blk hg h.hb.2)).trans (h.cell 4), (World.frozen?_of_block (h.grown_blk hg h.hb.2)).trans (h.free 4)⟩
theorem KN.afterAt (h : KN W0 n fv b gI gL gO gF base s sv w) {w' : World} (hg : w.grownBy w' sv.ownBlock) (i : Nat) : w'.cell? ⟨b, i, none⟩ = (#[fv, .slice (some ⟨gI, 0, none⟩) n n, .slice (some ⟨gL, 0, none⟩) n n, .slice (some ⟨gO, 0, none⟩) n n, sv, .slice (some ⟨gF, 0, none⟩) n n, .int .i64 s.cnt, .int .i64 s.kn] : Array Value)[i]? :=
  (World.cell?_of_block (h.grown_blk hg h.hb.2)).trans (h.cell i)
theorem KN.afterO (h : KN W0 n fv b gI gL gO gF base s sv w) {w' : World} (hg : w.grownBy w' sv.ownBlock) {v : Nat} (hv : v < n) (hcO : w.cell? ⟨gO, v, none⟩ = some (.bool (s.on v))) : w'.cell? ⟨gO, v, none⟩ = some (.bool (s.on v)) ∧ w'.frozen? ⟨gO, v, none⟩ = false :=
  ⟨(World.cell?_of_block (h.grown_blk hg h.hO.2)).trans hcO, (World.frozen?_of_block (h.grown_blk hg h.hO.2)).trans (h.aO.free v)⟩
theorem own_form {w : World} {base : Nat} {e : TypeId} {v : Value} {n : Nat} {xs : List Value} (h : w.ownsRow base e 1 v (n + 1) xs) : ∃ g c, v = .slice (some ⟨g, 0, none⟩) (n + 1) c := by
  rcases h.2 with ⟨_, h0⟩ | ⟨g, cap, cur, hv, _⟩
  · omega
  · exact ⟨g, cap, hv⟩
theorem KN.append (h : KN W0 n fv b gI gL gO gF base s sv w) {w' : World} (hg : w.grownBy w' sv.ownBlock) (l : List Nat) (sv' : Value) (ho : w'.ownsRow base 3 1 sv' l.length (l.map fun (x : Nat) => Value.int .i64 (x : Int))) :
    KN W0 n fv b gI gL gO gF base { s with stk := l } sv' (w'.setCell ⟨b, 4, none⟩ sv') := by
  obtain ⟨d11, d12, d13, d14⟩ := h.d1
  obtain ⟨d21, d22, d23⟩ := h.d2
  obtain ⟨d31, d32, d33⟩ := h.d3
  have hbk := fun g (hgb : g < base) => h.grown_blk hg hgb
  refine ⟨?_, Arr.other ((hbk gI h.hI.2).trans h.aI) d14 _, Arr.other ((hbk gL h.hL.2).trans h.aL) d23 _, Arr.other ((hbk gO h.hO.2).trans h.aO) d32 _, Arr.other ((hbk gF h.hF.2).trans h.aF) d33 _, ownsRow_setCell_other ho (fun e => ?_) _,
    ((h.old.trans ⟨hg.os, hg.tape, hg.output, hg.size, fun k hk => hbk k (by have := h.hb; omega)⟩)).setCell h.hb.1 _, h.hb, h.hI, h.hL, h.hO, h.hF, by simp only [World.size_setCell]; exact Nat.le_trans h.hbase hg.size, h.d1, h.d2, h.d3⟩
  · rw [heap_setCell_same w' b 4 _ _ _ ((hbk b h.hb.2).trans h.blk)]; simp
  · have := (ho.lt b e).1; have := h.hb.2; omega
theorem KN.cI (h : KN W0 n fv b gI gL gO gF base s sv w) {v : Nat} (hv : v < n) : w.cell? ⟨gI, v, none⟩ = some (.int .i64 (s.idx v : Int)) := by
  rw [h.aI.cell (by rw [tab_length]; exact hv), tab_at hv]
theorem KN.cL (h : KN W0 n fv b gI gL gO gF base s sv w) {v : Nat} (hv : v < n) : w.cell? ⟨gL, v, none⟩ = some (.int .i64 (s.low v : Int)) := by
  rw [h.aL.cell (by rw [tab_length]; exact hv), tab_at hv]
theorem KN.cO (h : KN W0 n fv b gI gL gO gF base s sv w) {v : Nat} (hv : v < n) : w.cell? ⟨gO, v, none⟩ = some (.bool (s.on v)) := by
  rw [h.aO.cell (by rw [tab_length]; exact hv), tab_at hv]
theorem KN.cF (h : KN W0 n fv b gI gL gO gF base s sv w) {v : Nat} (hv : v < n) : w.cell? ⟨gF, v, none⟩ = some (.int .i64 (s.of v : Int)) := by
  rw [h.aF.cell (by rw [tab_length]; exact hv), tab_at hv]
end

theorem own_last {w : World} {base : Nat} {e : TypeId} {v : Value} {xs : List Value} {y : Value} {k : Nat} (h : w.ownsRow base e 1 v (k + 1) (xs ++ [y])) : ∃ g cap, v = .slice (some ⟨g, 0, none⟩) (k + 1) cap ∧ base ≤ g ∧ k + 1 ≤ cap ∧ cap ≤ maxLen ∧ w.cell? ⟨g, k, none⟩ = some y ∧ w.ownsRow base e 1 (.slice (some ⟨g, 0, none⟩) k cap) k xs := by
  obtain ⟨hl, h2⟩ := h
  rcases h2 with ⟨_, h0⟩ | ⟨g, cap, cur, rfl, hb, hg, hc, hm, hs, ht⟩
  · omega
  · have hxs : xs.length = k := by simp at hl; omega
    refine ⟨g, cap, rfl, hb, hc, hm, ?_, ⟨by omega, .inr ⟨g, cap, cur, rfl, hb, hg, by omega, hm, hs, ?_⟩⟩⟩
    · have hq := (show w.ownsRow base e 1 (.slice (some ⟨g, 0, none⟩) (k + 1) cap) (k + 1) (xs ++ [y]) from ⟨hl, .inr ⟨g, cap, cur, rfl, hb, hg, hc, hm, hs, ht⟩⟩).cellAt k (by omega)
      rw [hq, List.getElem?_append_right (by omega)]; simp [hxs]
    · have h3 : (cur.toList.take ((k + 1) * 1)).take (k * 1) = (xs ++ [y]).take (k * 1) := by rw [ht]
      rw [List.take_take, Nat.min_eq_left (by omega)] at h3
      rw [h3, List.take_append_of_le_length (by omega), List.take_of_length_le (by omega)]
theorem KN.congr {W0 : World} {n : Nat} {fv : Value} {b gI gL gO gF base : Nat} {s s' : TS} {sv : Value} {w : World} (h : KN W0 n fv b gI gL gO gF base s sv w) (e : s = s') : KN W0 n fv b gI gL gO gF base s' sv w := e ▸ h
theorem offs_step (c : TS) (ys : List Nat) (zs : List Nat) (u : Nat) : { offs c ys zs with on := upd (offs c ys zs).on u false, of := upd (offs c ys zs).of u c.kn } = offs c ys (u :: zs) := by
  have h1 : upd (offs c ys zs).on u false = (offs c ys (u :: zs)).on := by
    funext x
    show (if x = u then false else if x ∈ zs then false else c.on x) = if x ∈ u :: zs then false else c.on x
    by_cases e : x = u <;> simp [e]
  have h2 : upd (offs c ys zs).of u c.kn = (offs c ys (u :: zs)).of := by
    funext x
    show (if x = u then c.kn else if x ∈ zs then c.kn else c.of x) = if x ∈ u :: zs then c.kn else c.of x
    by_cases e : x = u <;> simp [e]
  rw [h1, h2]; rfl
end Go.Proofs.Lx

namespace Go.Proofs.Lx
open Go Go.RowKit Go.Proofs.Tj
set_option linter.unusedSimpArgs false
set_option linter.unusedVariables false

def sndS : Code → Code
  | .seq _ b => b
  | c => c
def fstS : Code → Code
  | .seq a _ => a
  | c => c
noncomputable def visitR2 : Code := fstS (sndS (sndS ((Try.f165.body).getD .skip)))

set_option maxRecDepth 1000000 in
set_option maxHeartbeats 60000000 in
theorem visit_R2 (W0 w2 : World) (n : Nat) (fv : Value) (b gI gL gO gF base : Nat) (s : TS) (sv : Value) (v : Nat) (hv : v < n) (hn : n ≤ 4096) (hsl : s.stk.length ≤ 4096)
    (h2 : KN W0 n fv b gI gL gO gF base { s with idx := upd s.idx v (s.cnt + 1), low := upd s.low v (s.cnt + 1), cnt := s.cnt + 1 } sv w2) (K : Act → World → Prop) (Q : Value → World → Prop)
    (u2 u3 u4 u5 u6 u7 u8 u9 u10 u11 u12 u13 u14 u15 u16 u17 u18 u19 u20 u21 u22 u23 u24 u25 u26 u27 u28 u29 u30 u31 u32 u33 u34 u35 u36 u37 u38 u39 u40 u41 u42 u43 u44 u45 u46 u47 u48 u49 u50 u51 u52 u53 u54 u55 u56 u57 u58 u59 u60 u61 u62 u63 u64 u65 u66 u67 u68 u69 u70 u71 u72 u73 u74 u75 u76 u77 u78 u79 u80 u81 u82 u83 u84 u85 u86 u87 u88 u89 u90 u91 u92 u93 u94 u95 u96 u97 u98 u99 u100 u101 u102 u103 u104 u105 u106 u107 u108 u109 u110 u111 u112 u113 u114 u115 u116 u117 u118 u119 u120 u121 u122 u123 u124 u125 u126 u127 u128 u129 u130 u131 u132 u133 u134 u135 u136 u137 u138 u139 u140 u141 u142 u143 u144 u145 u146 u147 u148 u149 u150 u151 u152 u153 u154 u155 u156 u157 u158 u159 u160 u161 u162 u163 u164 u165 u166 u167 u168 u169 u170 u171 u172 u173 u174 u175 u176 u177 u178 u179 u180 u181 u182 u183 u184 u185 u186 u187 u188 : Value)
    (hK : ∀ (x34 x35 x36 x37 x38 x39 x40 x41 x42 x43 x44 x45 x46 x47 x48 x49 : Value) (wx : World) (sv' : Value), KN W0 n fv b gI gL gO gF base (enter s v) sv' wx → K ⟨#[.pointer (some ⟨b, 0, none⟩), .int .i64 (v : Int), u2, u3, u4, u5, u6, u7, u8, u9, u10, u11, u12, u13, u14, u15, u16, u17, u18, u19, u20, u21, u22, u23, u24, u25, u26, u27, u28, u29, u30, u31, u32, u33, x34, x35, x36, x37, x38, x39, x40, x41, x42, x43, x44, x45, x46, x47, x48, x49, u50, u51, u52, u53, u54, u55, u56, u57, u58, u59, u60, u61, u62, u63, u64, u65, u66, u67, u68, u69, u70, u71, u72, u73, u74, u75, u76, u77, u78, u79, u80, u81, u82, u83, u84, u85, u86, u87, u88, u89, u90, u91, u92, u93, u94, u95, u96, u97, u98, u99, u100, u101, u102, u103, u104, u105, u106, u107, u108, u109, u110, u111, u112, u113, u114, u115, u116, u117, u118, u119, u120, u121, u122, u123, u124, u125, u126, u127, u128, u129, u130, u131, u132, u133, u134, u135, u136, u137, u138, u139, u140, u141, u142, u143, u144, u145, u146, u147, u148, u149, u150, u151, u152, u153, u154, u155, u156, u157, u158, u159, u160, u161, u162, u163, u164, u165, u166, u167, u168, u169, u170, u171, u172, u173, u174, u175, u176, u177, u178, u179, u180, u181, u182, u183, u184, u185, u186, u187, u188], []⟩ wx) :
    Code.wp Try.prog visitR2 (Exit.then K (bodyPost Try.prog Try.f165 (Ret Q))) ⟨#[.pointer (some ⟨b, 0, none⟩), .int .i64 (v : Int), u2, u3, u4, u5, u6, u7, u8, u9, u10, u11, u12, u13, u14, u15, u16, u17, u18, u19, u20, u21, u22, u23, u24, u25, u26, u27, u28, u29, u30, u31, u32, u33, u34, u35, u36, u37, u38, u39, u40, u41, u42, u43, u44, u45, u46, u47, u48, u49, u50, u51, u52, u53, u54, u55, u56, u57, u58, u59, u60, u61, u62, u63, u64, u65, u66, u67, u68, u69, u70, u71, u72, u73, u74, u75, u76, u77, u78, u79, u80, u81, u82, u83, u84, u85, u86, u87, u88, u89, u90, u91, u92, u93, u94, u95, u96, u97, u98, u99, u100, u101, u102, u103, u104, u105, u106, u107, u108, u109, u110, u111, u112, u113, u114, u115, u116, u117, u118, u119, u120, u121, u122, u123, u124, u125, u126, u127, u128, u129, u130, u131, u132, u133, u134, u135, u136, u137, u138, u139, u140, u141, u142, u143, u144, u145, u146, u147, u148, u149, u150, u151, u152, u153, u154, u155, u156, u157, u158, u159, u160, u161, u162, u163, u164, u165, u166, u167, u168, u169, u170, u171, u172, u173, u174, u175, u176, u177, u178, u179, u180, u181, u182, u183, u184, u185, u186, u187, u188], []⟩ w2 := by
  have HK := hid hK
  clear hK
  conv => arg 2; whnf
  have e3 := h2.cell 3; have e4 := h2.cell 4
  simp only [List.getElem?_toArray, List.getElem?_cons_zero, List.getElem?_cons_succ] at e3 e4
  have hbs := h2.hbase
  have hst := h2.stk
  have hlen : s.stk.length ≤ 4096 := hsl
  have hOb := h2.d3.2.1
  have hg0 : gO < w2.heap.size := Nat.lt_of_lt_of_le h2.hO.2 h2.hbase
  have hb0 : b < w2.heap.size := Nat.lt_of_lt_of_le h2.hb.2 h2.hbase
  go_region_law (refine step_append_own rfl (.tmp 43) (.tmp 45) 26 rfl base 3 (.int .i64 0) 8 Try.underlying26 infoI rfl sv s.stk.length _ rfl (hst.alloc _) _ (.int .i64 v) rfl (by simp [go_sem]) rfl (by unfold maxLen; omega) (by omega) (by simp; omega) ?_; intro v' w' hown hgrow; obtain ⟨gn, cn, rfl⟩ := own_form hown; obtain ⟨q4, q4f⟩ := ((h2.alloc _).drew).after4 hgrow; obtain ⟨qO, qOf⟩ := ((h2.alloc _).drew).afterO hgrow hv (((h2.alloc _).drew).cO hv); have q3 := ((h2.alloc _).drew).afterAt hgrow 3; simp only [List.getElem?_toArray, List.getElem?_cons_zero, List.getElem?_cons_succ] at q3)
  all_goals
    clear q3 q4 q4f qO qOf e3 e4 hst
    go_wp2_with fail
    exact HK.out _ _ _ _ _ _ _ _ _ _ _ _ _ _ _ _ _ _ ((((h2.alloc (.cells #[.int .i64 (v : Int)] 3)).drew).append hgrow (s.stk ++ [v]) (.slice (some ⟨gn, 0, none⟩) (s.stk.length + 1) cn) (by simpa using hown)).put_on v true)
end Go.Proofs.Lx

namespace Go.Proofs.Lx
open Go Go.RowKit Go.Proofs.Tj
set_option linter.unusedSimpArgs false
set_option linter.unusedVariables false

/-- What is asked of 'next': it answers a row that was there, and turns nothing. -/
def Nexts (W0 : World) (n : Nat) (gf : Nat) (caps : Array Value) (adjI : Nat → List Int) : Prop :=
  ∀ x, x < n → ∀ w1, Below W0.heap.size W0 w1 → Calls Try.prog gf ((#[Value.int .i64 (x : Int)] : Array Value) ++ caps) w1 (Ret fun r w2 => RdI W0 r (adjI x) ∧ Below w1.heap.size w1 w2)
def adjN (adjI : Nat → List Int) (x : Nat) : List Nat := (adjI x).map Int.toNat
def AdjOk (n : Nat) (adjI : Nat → List Int) : Prop := ∀ x, x < n → ∀ y ∈ adjI x, 0 ≤ y ∧ y < n

def Visits (W0 : World) (n : Nat) (gf : Nat) (caps : Array Value) (adjI : Nat → List Int) (b gI gL gO gF base : Nat) (m : Nat) : Prop :=
  ∀ (w : World) (s : TS) (sv : Value) (v : Nat) (gs : List Nat), KN W0 n (.func (.func gf) #[] caps) b gI gL gO gF base s sv w → Inv n (adjN adjI) gs s → (∀ g ∈ gs, Leads (adjN adjI) g v) → s.idx v = 0 → v < n → n - s.cnt ≤ m →
    Calls Try.prog 165 #[.pointer (some ⟨b, 0, none⟩), .int .i64 (v : Int)] w (Ret fun v0 w' => v0 = .tuple #[] ∧ ∃ s' sv', KN W0 n (.func (.func gf) #[] caps) b gI gL gO gF base s' sv' w' ∧ Post n (adjN adjI) gs v s s')

theorem enter_inv_cnt {n : Nat} {adj : Nat → List Nat} {gs : List Nat} {s : TS} (h : Inv n adj gs s) : s.cnt ≤ n := by rw [h.cnt_eq]; exact visN_le n _
theorem Inv.cnt_lt {n : Nat} {adj : Nat → List Nat} {gs : List Nat} {v : Nat} {s : TS} (h : Inv n adj gs s) (hr : ∀ g ∈ gs, Leads adj g v) (hv : s.idx v = 0) (hn : v < n) : s.cnt + 1 ≤ n := by
  have := (begin0 h hr hv hn).inv.cnt_eq
  have h2 := visN_le n (enter s v).idx
  have h3 : (enter s v).cnt = s.cnt + 1 := rfl
  omega

set_option maxRecDepth 100000 in
set_option maxHeartbeats 60000000 in
theorem visit_step (W0 : World) (n : Nat) (gf : Nat) (caps : Array Value) (adjI : Nat → List Int) (b gI gL gO gF base : Nat) (m : Nat) (hn : n ≤ 4096) (hgf : Enters Try.prog gf) (hnext : Nexts W0 n gf caps adjI) (hadj : AdjOk n adjI)
    (IH : ∀ m', m' < m → Visits W0 n gf caps adjI b gI gL gO gF base m') : Visits W0 n gf caps adjI b gI gL gO gF base m := by
  intro w s sv v gs h hinv hreach hs0 hv hm
  have hgo : ∀ args w, (callFunc gf args).run Try.prog w = .ok (.enter gf args) w := hgf
  have hcn := Inv.cnt_lt hinv hreach hs0 hv
  have hsl : s.stk.length ≤ 4096 := by have := hinv.kn_le; omega
  have HL := hid (begin0 hinv hreach hs0 hv)
  have Hnext := hid hnext
  have Hadj := hid hadj
  have HIH := hid IH
  have Hinv := hid hinv
  have Hs0 := hid hs0
  have Hreach := hid hreach
  clear hinv hreach hs0 hnext hadj IH hgf
  have e6 := h.cell 6
  have f6 := h.free 6
  simp only [List.getElem?_toArray, List.getElem?_cons_zero, List.getElem?_cons_succ] at e6
  refine post_gen fun Q HQ => ?_
  go_enter Try.func165, Try.ntmps165
  go_wp2
  have h1 := h.put_cnt (s.cnt + 1)
  clear h e6 f6
  rw [show ((s.cnt + 1 : Nat) : Int) = (s.cnt : Int) + 1 from by omega] at h1
  generalize w.setCell ⟨b, 6, none⟩ (.int .i64 ((s.cnt : Int) + 1)) = w1 at *
  have e1 := h1.cell 1; have e2 := h1.cell 2; have e6 := h1.cell 6
  simp only [List.getElem?_toArray, List.getElem?_cons_zero, List.getElem?_cons_succ] at e1 e2 e6
  have aI := h1.aI.free v; have aL := h1.aL.free v
  have cI := h1.cI hv; have cL := h1.cL hv
  have d11 := h1.d1.1
  go_region
  have h2 := ((h1.put_idx v (s.cnt + 1)).put_low v (s.cnt + 1)).drew
  clear h1 e1 e2 e6 aI aL cI cL
  rw [show ((s.cnt + 1 : Nat) : Int) = (s.cnt : Int) + 1 from by omega] at h2
  generalize ((w1.setCell ⟨gI, v, none⟩ (.int .i64 ((s.cnt : Int) + 1))).setCell ⟨gL, v, none⟩ (.int .i64 ((s.cnt : Int) + 1))).drew = w2 at *
  go_wp2
  refine visit_R2 W0 w2 n _ b gI gL gO gF base s sv v hv hn hsl h2 _ Q _ _ _ _ _ _ _ _ _ _ _ _ _ _ _ _ _ _ _ _ _ _ _ _ _ _ _ _ _ _ _ _ _ _ _ _ _ _ _ _ _ _ _ _ _ _ _ _ _ _ _ _ _ _ _ _ _ _ _ _ _ _ _ _ _ _ _ _ _ _ _ _ _ _ _ _ _ _ _ _ _ _ _ _ _ _ _ _ _ _ _ _ _ _ _ _ _ _ _ _ _ _ _ _ _ _ _ _ _ _ _ _ _ _ _ _ _ _ _ _ _ _ _ _ _ _ _ _ _ _ _ _ _ _ _ _ _ _ _ _ _ _ _ _ _ _ _ _ _ _ _ _ _ _ _ _ _ _ _ _ _ _ _ _ _ _ _ _ _ _ _ _ _ _ _ _ _ _ _ _ _ _ _ _ _ _ _ ?_
  intro x34 x35 x36 x37 x38 x39 x40 x41 x42 x43 x44 x45 x46 x47 x48 x49 wc sv' h3
  go_step
  as_aux_lemma =>
    clear h2 d11
    have e0 := h3.cell 0
    simp only [List.getElem?_toArray, List.getElem?_cons_zero] at e0
    have hnx := Hnext.out v hv wc h3.old
    go_wp2_with fail
    refine hnx.mono ?_
    rintro e w3 ⟨_, rfl, ⟨A, cA, rfl, hcA, hbA, hrA⟩, hb3⟩
    have h4 := h3.ext hb3
    clear h3 hb3 hnx e0
    go_wp2
    obtain ⟨l, Hl⟩ : ∃ l, Hid (l = adjI v) := ⟨_, rfl⟩
    rw [← Hl.out] at hrA hcA hbA ⊢
    have Hadjl : Hid (adjN adjI v = l.map Int.toNat) := by rw [Hl.out]; rfl
    have Hin : Hid (∀ i (h : i < l.length), 0 ≤ l[i] ∧ l[i] < n) := by
      intro i hi
      have := Hadj.out v hv l[i] (by rw [← Hl.out]; exact List.getElem_mem hi)
      exact this
    go_loopw [57] (fun v57 wr => ∃ (j : Nat) (c : TS) (svj : Value), j ≤ l.length ∧ v57 = .int .i64 j ∧ KN W0 n (.func (.func gf) #[] caps) b gI gL gO gF base c svj wr ∧ LI n (adjN adjI) gs v s j c) (fun v57 _ => l.length - (intOf v57).toNat)
    case atStart => exact ⟨0, _, _, Nat.zero_le _, rfl, h4, HL.out⟩
    case round =>
      clear h4 HL
      obtain ⟨j, c, svj, hj, rfl, hk, hli⟩ := hrel
      by_cases hjl : j < l.length
      · obtain ⟨ad, rfl, hcell⟩ := (hrA.ext (scR_mono _) hk.old).at1 hjl
        obtain ⟨hx0, hxn⟩ := Hin.out j hjl
        obtain ⟨u, hu⟩ := Int.eq_ofNat_of_zero_le hx0
        have Hu : Hid ((adjN adjI v)[j]'(by rw [Hadjl.out]; simpa using hjl) = u) := by
          have : ∀ (q : List Nat) (e : q = l.map Int.toNat) (hq : j < q.length), q[j] = u := by
            rintro q rfl hq; simp [hu]
          exact this _ Hadjl.out _
        have hun : u < n := by omega
        rw [hu] at hcell
        have hjl' : j < (adjN adjI v).length := by rw [Hadjl.out]; simpa using hjl
        have e1 := hk.cell 1; have e2 := hk.cell 2; have e3 := hk.cell 3
        simp only [List.getElem?_toArray, List.getElem?_cons_zero, List.getElem?_cons_succ] at e1 e2 e3
        have cIu := hk.cI hun
        have hci : c.idx u ≤ n := Nat.le_trans (hli.inv.idx_le u) (enter_inv_cnt hli.inv)
        have Hli := hid hli
        clear hli hu hx0 hxn
        by_cases h0 : c.idx u = 0
        · have hb0 : ((c.idx u : Int) == 0) = true := by simp [h0]
          have H0 := hid h0
          clear h0
          have hcall := HIH.out (n - c.cnt) (by have := Hli.out.grow; omega) wr c svj u (v :: gs) hk Hli.out.inv (by have := Hli.out.pre hjl'; rw [Hu.out] at this; exact this) H0.out hun (Nat.le_refl _)
          go_wp2_with fail
          refine hcall.mono ?_
          rintro e w5 ⟨_, rfl, rfl, c1, sv1, hk1, hpost⟩
          have Hpost := hid hpost
          clear hpost hcall hk e1 e2 e3 cIu hb0 hcell
          have e2 := hk1.cell 2
          simp only [List.getElem?_toArray, List.getElem?_cons_zero, List.getElem?_cons_succ] at e2
          have cLv := hk1.cL hv
          have cLu := hk1.cL hun
          have fL := hk1.aL.free v
          go_wp2_with fail
          as_aux_lemma =>
            go_region
            go_wp2
            go_roundw
            case rel =>
              have hk5 := (hk1.put_low v (min (c1.low v) (c1.low u))).drew
              refine ⟨j + 1, _, sv1, by omega, by go_num, ?_, Hli.out.stepA hjl' (by rw [Hu.out]; exact H0.out) (by rw [Hu.out]; exact Hpost.out)⟩
              rw [Hu.out, show (if c1.low u < c1.low v then (c1.low u : Int) else (c1.low v : Int)) = ((min (c1.low v) (c1.low u) : Nat) : Int) from by split <;> omega]
              exact hk5
            case measure => simp [intOf]; omega
        · have hb0 : ((c.idx u : Int) == 0) = false := by simp [h0]
          have H0 := hid h0
          clear h0
          have cOu := hk.cO hun
          cases hon : c.on u with
          | true =>
            rw [hon] at cOu
            have cLv := hk.cL hv
            have fL := hk.aL.free v
            go_wp2_with fail
            as_aux_lemma =>
              go_region
              go_wp2
              go_roundw
              case rel =>
                have hk5 := (hk.put_low v (min (c.low v) (c.idx u))).drew
                refine ⟨j + 1, _, svj, by omega, by go_num, ?_, Hli.out.stepB hjl' (by rw [Hu.out]; exact H0.out) (by rw [Hu.out]; exact hon)⟩
                rw [Hu.out, show (if c.idx u < c.low v then (c.idx u : Int) else (c.low v : Int)) = ((min (c.low v) (c.idx u) : Nat) : Int) from by split <;> omega]
                exact hk5
              case measure => simp [intOf]; omega
          | false =>
            rw [hon] at cOu
            have Hon := hid hon
            clear hon
            go_wp2
            go_roundw
            case rel =>
              refine ⟨j + 1, c, svj, by omega, by go_num, hk, Hli.out.stepC hjl' ?_ ?_⟩
              · rw [Hu.out]; exact H0.out
              · rw [Hu.out]; exact Hon.out
            case measure => simp [intOf]; omega
      · have hjl2 : j = l.length := by omega
        subst hjl2
        have e1 := hk.cell 1; have e2 := hk.cell 2
        simp only [List.getElem?_toArray, List.getElem?_cons_zero, List.getElem?_cons_succ] at e1 e2
        have cLv := hk.cL hv
        have cIv := hk.cI hv
        have Hli : Hid (LI n (adjN adjI) gs v s (adjN adjI v).length c) := by rw [Hadjl.out, List.length_map]; exact hli
        clear hli
        by_cases hne : c.low v = c.idx v
        · have Hne := hid hne
          clear hne
          have hb1 : ((c.low v : Int) != (c.idx v : Int)) = false := by simp [Hne.out]
          go_wp2_with fail
          go_region
          obtain ⟨xs, hxs, _, _⟩ := Hli.out.stk
          have Hxs := hid hxs
          have hstl : c.stk.length + c.kn ≤ n := by have := Hli.out.inv.kn_le; have := enter_inv_cnt Hli.out.inv; omega
          have hsz : s.stk.length + (v :: xs).length + c.kn ≤ n := by rw [hxs, List.length_append] at hstl; exact hstl
          have Hnd : Hid (v ∉ xs) := by
            have hp := Hli.out.inv.sorted
            rw [hxs, List.pairwise_append] at hp
            intro hm
            have := List.rel_of_pairwise_cons hp.2.1 hm
            omega
          have hkd := hk.drew
          clear hxs hk e1 e2 cLv cIv hb1 hstl
          go_wp2
          go_loopg [6] (v :: xs).length (fun gk v6 w6 => ∃ (ws zs : List Nat) (svk : Value) (t : Int), Hid (v :: xs = ws ++ zs) ∧ v6 = .int .i64 t ∧ Hid (t = v ↔ ws = []) ∧ Hid (ws.length = gk) ∧ KN W0 n (.func (.func gf) #[] caps) b gI gL gO gF base (offs c (s.stk ++ ws) zs) svk w6)
          case atStart => exact ⟨v :: xs, [], svj, -1, by simp [Hid], rfl, ⟨fun h => by omega, fun h => by simp at h⟩, rfl, hkd.congr (by rw [show c = ⟨c.idx, c.low, c.on, c.of, c.stk, c.cnt, c.kn⟩ from rfl]; simp only [offs, List.not_mem_nil, if_false]; rw [Hxs.out])⟩
          case round =>
            clear hkd
            obtain ⟨ws, zs, svk, t, hws, rfl, htv, hgk, hk⟩ := hrel
            rcases List.eq_nil_or_concat ws with hnil | ⟨ws', u, hcc⟩
            · have Hnil := hid hnil
              have htv' := htv.out.2 hnil
              have hb1 : ((t : Int) != (v : Int)) = false := by simp [htv']
              clear hnil htv'
              have e7 : wr.cell? ⟨b, 7, none⟩ = some (.int .i64 (c.kn : Int)) := hk.cell 7
              have f7 := hk.free 7
              go_wp2
              go_returns
              have hk9 := hk.put_kn (c.kn + 1)
              rw [show ((c.kn + 1 : Nat) : Int) = (c.kn : Int) + 1 from by omega] at hk9
              refine Fin HQ ⟨rfl, popped c s.stk (v :: xs), svk, hk9.congr ?_, Hli.out.pop Hne.out Hxs.out⟩
              have h1 := hws.out
              rw [Hnil.out, List.nil_append] at h1
              rw [Hnil.out, List.append_nil, ← h1]; rfl
            · rw [List.concat_eq_append] at hcc
              have Hcc := hid hcc
              have hst := hk.stk
              have hun : u < n := by
                refine Hli.out.inv.vis_lt u (Hli.out.inv.stk_vis u ?_)
                rw [Hxs.out, hws.out, hcc]; simp
              have hgk2 : gk = ws'.length + 1 := by rw [← hgk.out, hcc]; simp
              have hst2 : wr.ownsRow base 3 1 svk ((s.stk ++ ws').length + 1) (((s.stk ++ ws').map fun (x : Nat) => Value.int .i64 (x : Int)) ++ [.int .i64 (u : Int)]) := by
                have := hst
                simp only [offs, hcc] at this
                simpa [Nat.add_assoc] using this
              obtain ⟨g, cap, rfl, hgb, hkc, hcm, hcell, hpop⟩ := own_last hst2
              have hlen : (s.stk ++ ws').length + c.kn ≤ n := by
                have h1 := congrArg List.length hws.out
                rw [hcc] at h1
                simp only [List.length_append, List.length_cons, List.length_nil] at h1 hsz ⊢
                omega
              have hb1 : ((t : Int) != (v : Int)) = true := by
                have : ¬ t = v := fun h => by have := htv.out.1 h; rw [hcc] at this; simp at this
                simp [this]
              have Hpop := hid hpop
              obtain ⟨K, HK⟩ : ∃ K, Hid (K = (s.stk ++ ws').length) := ⟨_, rfl⟩
              rw [← HK.out] at hkc hcell hpop hlen Hpop
              have e4 : wr.cell? ⟨b, 4, none⟩ = some (.slice (some ⟨g, 0, none⟩) (K + 1) cap) := by rw [HK.out]; exact hk.cell 4
              have hk' := hk
              clear hst hst2 hcc hpop
              rw [← HK.out] at hk'
              go_wp2_with fail
              go_region
              have hk1 := hk'.drew
              clear e4 hcell hk hk' hb1
              generalize wr.drew = w7 at *
              as_aux_lemma =>
                have e3 := hk1.cell 3; have e4 := hk1.cell 4
                simp only [List.getElem?_toArray, List.getElem?_cons_zero, List.getElem?_cons_succ] at e3 e4
                have f4 := hk1.free 4
                have cOu := hk1.cO hun
                have fO := hk1.aO.free u
                have hOb := hk1.d3.2.1
                have Hpop7 : Hid (w7.ownsRow base 3 1 (.slice (some ⟨g, 0, none⟩) K cap) K ((s.stk ++ ws').map fun (x : Nat) => Value.int .i64 (x : Int))) := by
                  have hst2 : w7.ownsRow base 3 1 (.slice (some ⟨g, 0, none⟩) (K + 1) cap) (s.stk ++ ws).length ((s.stk ++ ws).map fun (x : Nat) => Value.int .i64 (x : Int)) := hk1.stk
                  rw [Hcc.out, ← List.append_assoc, List.map_append, List.length_append, ← HK.out] at hst2
                  obtain ⟨g2, cap2, h2, _, _, _, _, hp⟩ := own_last hst2
                  injection h2 with h3 _ h4
                  injection h3 with h5
                  injection h5 with h6
                  subst h6; subst h4; exact hp
                go_wp2_with fail
                go_region
                have hk2 := ((hk1.put_stk (s.stk ++ ws') (.slice (some ⟨g, 0, none⟩) K cap) (by rw [← HK.out]; exact Hpop7.out)).put_on u false).drew
                clear e3 e4 f4 cOu fO hOb hk1 Hpop7
                generalize ((w7.setCell ⟨b, 4, none⟩ (.slice (some ⟨g, 0, none⟩) K cap)).setCell ⟨gO, u, none⟩ (.bool false)).drew = w8 at *
                as_aux_lemma =>
                  have e5 := hk2.cell 5
                  simp only [List.getElem?_toArray, List.getElem?_cons_zero, List.getElem?_cons_succ] at e5
                  have e7 : w8.cell? ⟨b, 7, none⟩ = some (.int .i64 (c.kn : Int)) := hk2.cell 7
                  have cFu := hk2.cF hun
                  have fF := hk2.aF.free u
                  go_wp2_with fail
                  go_region
                  have hk3 := (hk2.put_of u c.kn).drew
                  go_wp2
                  go_roundg ws'.length
                  case measure => omega
                  case rel =>
                    refine ⟨ws', u :: zs, _, (u : Int), ?_, rfl, ?_, rfl, hk3.congr ?_⟩
                    · show v :: xs = ws' ++ u :: zs
                      have := hws.out; rw [Hcc.out] at this; simpa using this
                    · have h1 := hws.out
                      rw [Hcc.out] at h1
                      constructor
                      · intro h2
                        have h3 : u = v := by omega
                        cases ws' with
                        | nil => rfl
                        | cons y r =>
                          exfalso
                          simp at h1
                          refine Hnd.out ?_
                          rw [h1.2, h3]; simp
                      · intro h2
                        subst h2
                        simp at h1; omega
                    · rw [← offs_step]; rfl
        · have Hne := hid hne
          have hb1 : ((c.low v : Int) != (c.idx v : Int)) = true := by simp; omega
          clear hne
          go_wp2_with fail
          as_aux_lemma =>
            go_region
            go_wp2
            go_returns
            exact Fin HQ ⟨rfl, c, svj, hk.drew, Hli.out.keep Hne.out⟩
end Go.Proofs.Lx
