/- Parts of the proof: La, Ma, Lb, Rb, Mb. Small words for the walks of this seat: a call that returns; a slice that reads as a list; a theory. No condition. -/
import Derived.WalkKit
import Derived.Handy
import Derived.Deep.LoopGhost
import Derived.Deep.QuietTactic
import Derived.BigQuiet
import Derived.Maps.AppendAt
import Derived.Deep.OwnRows
import Derived.Laws.Rows
import Derived.Deep.RegionLaw
namespace Go.Proofs.Lx
open Go Go.RowKit

/-- The call returns a value of which Q holds. -/
def Ret (Q : Value → World → Prop) (e : Ending) (w' : World) : Prop := ∃ v, e = .returned v ∧ Q v w'
theorem Ret.mk {Q : Value → World → Prop} {v : Value} {w : World} (h : Q v w) : Ret Q (.returned v) w := ⟨v, rfl, h⟩
theorem Ret.mono {Q Q' : Value → World → Prop} {e : Ending} {w : World} (h : Ret Q e w) (hq : ∀ v w, Q v w → Q' v w) : Ret Q' e w := by
 obtain ⟨v, rfl, q⟩ := h
 exact ⟨v, rfl, hq _ _ q⟩
/-- The post behind a variable: the walk can't turn it. -/
theorem post_gen {P : Program} {f : FuncId} {args : Array Value} {w : World} {Q0 : Value → World → Prop} (h : ∀ Q : Value → World → Prop, Hid (∀ v w', Q0 v w' → Q v w') → Calls P f args w (Ret Q)) : Calls P f args w (Ret Q0) := h Q0 (fun _ _ q => q)
theorem Fin {Q0 Q : Value → World → Prop} (HQ : Hid (∀ v w', Q0 v w' → Q v w')) {v : Value} {w' : World} (h : Q0 v w') : Ret Q (.returned v) w' := ⟨v, rfl, HQ v w' h⟩
theorem hid {p : Prop} (h : p) : Hid p := h

/-- A function of the program that has a body. -/
def Enters (P : Program) (g : Nat) : Prop := ∀ args w, (callFunc g args).run P w = .ok (.enter g args) w

theorem enters_of {P : Program} {g : Nat} {fn : Func} (hf : P.funcs[g]? = some fn) (h1 : (fn.name == "runtime.NumGoroutine") = false) (h2 : fn.body.isNone = false) : Enters P g := by
 intro args w
 have h1' : fn.name ≠ "runtime.NumGoroutine" := by simpa using h1
 have h2' : fn.body ≠ none := by intro h; rw [h] at h2; simp at h2
 simp [callFunc, go_sem, hf, h1', h2']
theorem add_zero (ad : Addr) : ad.add 0 = ad := by simp [Addr.add]
theorem add_add (ad : Addr) (i j : Nat) : (ad.add i).add j = ad.add (i + j) := by
 unfold Addr.add
 by_cases hi : i = 0
 ·simp [hi]
 ·by_cases hj : j = 0
  ·simp [hi, hj]
  ·simp [hi, hj, Nat.add_assoc]
theorem add_block (ad : Addr) (i : Nat) : (ad.add i).block = ad.block := by unfold Addr.add; split <;> rfl
theorem add_field (ad : Addr) (i j : Nat) (hj : 0 < j) : ad.add (i + j) = ⟨(ad.add i).block, (ad.add i).off + j, none⟩ := by
 rw [← add_add]; generalize ad.add i = b
 unfold Addr.add; rw [if_neg (by omega)]
theorem add_plain (g j : Nat) : (⟨g, 0, none⟩ : Addr).add j = ⟨g, j, none⟩ := by unfold Addr.add; split <;> simp_all

theorem cell_ext {w w' : World} (hb : Below w.heap.size w w') {a : Addr} {v : Value} (h : w.cell? a = some v) : w'.cell? a = some v := (hb.cell (World.block_lt_of_cell? w a h)).trans h
theorem ext_trans {a b c : World} (h : Below a.heap.size a b) (k : Below b.heap.size b c) : Below a.heap.size a c := h.trans (k.mono h.size)
theorem ext_refl (w : World) : Below w.heap.size w w := Below.refl _ _
theorem ext_alloc (w : World) (o : Obj) : Below w.heap.size w (w.alloc o) := (Below.refl _ _).alloc (Nat.le_refl _) o
theorem ext_drewN (w : World) (n : Nat) : Below w.heap.size w (w.drewN n) := by
 induction n with
 | zero => exact Below.refl _ _
 | succ n ih => rw [← World.drew_drewN]; exact ih.drew
theorem base_trans {B : Nat} {a b c : World} (h : Below B a b) (hB : B ≤ b.heap.size) (k : Below b.heap.size b c) : Below B a c := h.trans (k.mono hB)

/-- The cells from A on read as xs, sz cells each, told by R. -/
def RdC {α : Type} (sz : Nat) (R : World → α → List Value → Prop) (w : World) (A : Option Addr) (xs : List α) : Prop :=
 ∀ i (h : i < xs.length), ∃ ad cs, A = some ad ∧ R w xs[i] cs ∧ cs.length = sz ∧ ∀ j u, cs[j]? = some u → w.cell? (ad.add (i * sz + j)) = some u
/-- A slice value that reads as xs. -/
def Rd {α : Type} (sz : Nat) (R : World → α → List Value → Prop) (w : World) (v : Value) (xs : List α) : Prop :=
 ∃ A c, v = .slice A xs.length c ∧ xs.length ≤ c ∧ xs.length ≤ 140737488355328 ∧ RdC sz R w A xs
def MonoR {α : Type} (R : World → α → List Value → Prop) : Prop := ∀ (w w' : World) (x : α) (cs : List Value), Below w.heap.size w w' → R w x cs → R w' x cs
theorem RdC.ext {α : Type} {sz : Nat} {R : World → α → List Value → Prop} (hR : MonoR R) {w w' : World} {A : Option Addr} {xs : List α} (h : RdC sz R w A xs) (hb : Below w.heap.size w w') : RdC sz R w' A xs := by
 intro i hi
 obtain ⟨ad, cs, hA, hr, hl, hc⟩ := h i hi
 exact ⟨ad, cs, hA, hR _ _ _ _ hb hr, hl, fun j u hu => cell_ext hb (hc j u hu)⟩
theorem Rd.ext {α : Type} {sz : Nat} {R : World → α → List Value → Prop} (hR : MonoR R) {w w' : World} {v : Value} {xs : List α} (h : Rd sz R w v xs) (hb : Below w.heap.size w w') : Rd sz R w' v xs := by
 obtain ⟨A, c, rfl, hc, hm, hr⟩ := h
 exact ⟨A, c, rfl, hc, hm, hr.ext hR hb⟩
theorem RdC.nil {α : Type} {sz : Nat} {R : World → α → List Value → Prop} {w : World} {A : Option Addr} : RdC sz R w A ([] : List α) := fun i h => absurd h (by simp)
theorem Rd.nil {α : Type} {sz : Nat} {R : World → α → List Value → Prop} {w : World} : Rd sz R w (.slice none 0 0) ([] : List α) := ⟨none, 0, rfl, by simp, by simp, RdC.nil⟩

/-- One cell: a scalar. -/
def scR {α : Type} (enc : α → Value) : World → α → List Value → Prop := fun _ x cs => cs = [enc x]
theorem scR_mono {α : Type} (enc : α → Value) : MonoR (scR enc) := fun _ _ _ _ _ h => h
/-- One cell: a slice. -/
def rowR {α : Type} (sz : Nat) (R : World → α → List Value → Prop) : World → List α → List Value → Prop := fun w xs cs => ∃ v, cs = [v] ∧ Rd sz R w v xs
theorem rowR_mono {α : Type} {sz : Nat} {R : World → α → List Value → Prop} (hR : MonoR R) : MonoR (rowR sz R) := fun _ _ _ _ hb ⟨v, e, h⟩ => ⟨v, e, h.ext hR hb⟩

theorem RdC.at1 {α : Type} {enc : α → Value} {w : World} {A : Option Addr} {xs : List α} (h : RdC 1 (scR enc) w A xs) {k : Nat} (hk : k < xs.length) :
  ∃ ad, A = some ad ∧ w.cell? (ad.add k) = some (enc xs[k]) := by
 obtain ⟨ad, cs, hA, hr, hl, hc⟩ := h k hk
 have := hc 0 (enc xs[k]) (by rw [hr]; rfl)
 exact ⟨ad, hA, by simpa using this⟩
theorem RdC.atRow {α : Type} {sz : Nat} {R : World → α → List Value → Prop} {w : World} {A : Option Addr} {xs : List (List α)} (h : RdC 1 (rowR sz R) w A xs) {k : Nat} (hk : k < xs.length) :
  ∃ ad B c, A = some ad ∧ w.cell? (ad.add k) = some (.slice B xs[k].length c) ∧ xs[k].length ≤ c ∧ xs[k].length ≤ 140737488355328 ∧ RdC sz R w B xs[k] := by
 obtain ⟨ad, cs, hA, ⟨v, rfl, B, c, rfl, h1, h2, h3⟩, hl, hc⟩ := h k hk
 have := hc 0 _ rfl
 exact ⟨ad, B, c, hA, by simpa using this, h1, h2, h3⟩
theorem RdC.atRowV {α : Type} {sz : Nat} {R : World → α → List Value → Prop} {w : World} {A : Option Addr} {xs : List (List α)} (h : RdC 1 (rowR sz R) w A xs) {k : Nat} (hk : k < xs.length) :
  ∃ ad v, A = some ad ∧ w.cell? (ad.add k) = some v ∧ Rd sz R w v xs[k] := by
 obtain ⟨ad, cs, hA, ⟨v, rfl, hv⟩, hl, hc⟩ := h k hk
 have := hc 0 _ rfl
 exact ⟨ad, v, hA, by simpa using this, hv⟩

abbrev RdI := Rd 1 (scR (Value.int .i64))
abbrev RdB := Rd 1 (scR Value.bool)
abbrev RdM := Rd 1 (scR (Value.int .u8))
abbrev RdLL := Rd 1 (rowR 1 (scR (Value.int .i64)))
abbrev RcI := RdC 1 (scR (Value.int .i64))
abbrev RcB := RdC 1 (scR Value.bool)
abbrev RcM := RdC 1 (scR (Value.int .u8))
abbrev RcLL := RdC 1 (rowR 1 (scR (Value.int .i64)))
theorem llR_mono : MonoR (rowR 1 (scR (Value.int .i64))) := rowR_mono (scR_mono _)

/-- A rule, a theory. -/
structure Rule where
 kind : Int
 head : Int
 body : List Int
structure Th where
 lits : Int
 foes : List (List Int)
 rules : List Rule
 beats : List (List Int)
instance : Inhabited Rule := ⟨⟨0, 0, []⟩⟩

def ruleR : World → Rule → List Value → Prop := fun w r cs => ∃ v, cs = [.int .i64 r.kind, .int .i64 r.head, v] ∧ RdI w v r.body
theorem ruleR_mono : MonoR ruleR := fun _ _ _ _ hb ⟨v, e, h⟩ => ⟨v, e, h.ext (scR_mono _) hb⟩
abbrev RdRs := Rd 3 ruleR
abbrev RcRs := RdC 3 ruleR
theorem RdC.atRule {w : World} {A : Option Addr} {rs : List Rule} (h : RcRs w A rs) {k : Nat} (hk : k < rs.length) :
  ∃ ad B c, A = some ad ∧ w.cell? (ad.add (k * 3)) = some (.int .i64 rs[k].kind) ∧ w.cell? ⟨(ad.add (k * 3)).block, (ad.add (k * 3)).off + 1, none⟩ = some (.int .i64 rs[k].head) ∧
   w.cell? ⟨(ad.add (k * 3)).block, (ad.add (k * 3)).off + 2, none⟩ = some (.slice B rs[k].body.length c) ∧ rs[k].body.length ≤ c ∧ rs[k].body.length ≤ 140737488355328 ∧ RcI w B rs[k].body := by
 obtain ⟨ad, cs, hA, ⟨v, rfl, B, c, rfl, h1, h2, h3⟩, hl, hc⟩ := h k hk
 have c0 := hc 0 _ rfl
 have c1 := hc 1 _ rfl
 have c2 := hc 2 _ rfl
 rw [Nat.add_zero] at c0
 rw [add_field _ _ _ (by omega)] at c1 c2
 exact ⟨ad, B, c, hA, c0, c1, c2, h1, h2, h3⟩
/-- A theory's value. -/
def RdTh (w : World) (V : Value) (T : Th) : Prop := ∃ vF vR vB, V = .agg #[.int .i64 T.lits, vF, vR, vB] ∧ RdLL w vF T.foes ∧ RdRs w vR T.rules ∧ RdLL w vB T.beats
theorem RdTh.ext {w w' : World} {V : Value} {T : Th} (h : RdTh w V T) (hb : Below w.heap.size w w') : RdTh w' V T := by
 obtain ⟨vF, vR, vB, rfl, h1, h2, h3⟩ := h
 exact ⟨vF, vR, vB, rfl, h1.ext llR_mono hb, h2.ext ruleR_mono hb, h3.ext llR_mono hb⟩

def memB (l : List Int) (x : Int) : Bool := l.contains x
theorem memB_true {l : List Int} {x : Int} : memB l x = true ↔ x ∈ l := by simp [memB]
theorem memB_false {l : List Int} {x : Int} : memB l x = false ↔ x ∉ l := by simp [memB]
def ltCount (l : List Int) (x : Int) : Nat := l.countP (· < x)
theorem int_eq {k : IntKind} {a b : Int} (h : a = b) : Value.int k a = Value.int k b := by rw [h]
end Go.Proofs.Lx

namespace Go.Proofs.Lx
open Go Go.RowKit
set_option linter.unusedVariables false
/-- As the kit's law, and: where it moves, all elder blocks stay. -/
theorem run_append_keep {P : Program} (w : World) (base : Nat) (t ty e : TypeId) (i : TypeInfo) (z : Value) (size bytes : Nat) (ht : P.underlying t = some (.slice e)) (hi : P.info? e = some i) (hz : i.zero = some z)
  (hsize : i.size = size) (hby : i.bytes = bytes) (hzs : z.cells.size = size) (hsz : 0 < size)
  (v : Value) (n : Nat) (xs : List Value) (hown : w.ownsRow base e size v n xs)
  (a : Addr) (m c : Nat) (news : List Value) (hl : news.length = m * size) (hnews : ∀ j u, news[j]? = some u → w.cell? (a.add j) = some u) (h1 : ∀ u ∈ news, u.oneCell' = true)
  (h63 : n + m ≤ maxLen) (hbytes : (n + m) * bytes ≤ 140737488355328) (hbase : base ≤ w.heap.size) :
  ∃ v' w', (Builtin.append_ #[t, t] ty #[v, .slice (some a) m c]).run P w = .ok v' w' ∧ w'.ownsRow base e size v' (n + m) (xs ++ news) ∧ w.grownBy w' v.ownBlock ∧
   (v'.ownBlock = v.ownBlock ∨ (v'.ownBlock = some w.heap.size ∧ ∀ g, g < w.heap.size → w'.heap[g]? = w.heap[g]?)) := by
 obtain ⟨v', w', hr, h2, h3, h4, h5⟩ := run_append_own_at (P := P) w base t ty e i z size bytes ht hi hz hsize hby hzs hsz v n xs hown a m c news hl hnews h1 h63 hbytes hbase
 refine ⟨v', w', hr, h2, h3, ?_⟩
 rcases h5 with h5 | h5
 ·exact .inl h5
 ·rcases hown.2 with ⟨rfl, _⟩ | ⟨g', cap, cur, rfl, hbg, hgb, hnc, hcm, hcs, htake⟩
  ·exact .inr ⟨h5, fun g hg => h3.block g hg (by simp [Value.ownBlock])⟩
  ·subst hsize
   subst hby
   have hv0 : n + m ≤ 9223372036854775807 := by simp only [maxLen] at h63; omega
   by_cases hroom : n + m ≤ cap
   ·have hfit : n * i.size + news.length ≤ cur.size := by rw [hl, hcs, ← Nat.add_mul]; exact Nat.mul_le_mul_right _ hroom
    have hr2 := run_append_room (P := P) w t ty e i ht hi g' n cap cur hgb a m c news hl hnews h1 hroom hfit
    rw [hr] at hr2
    injection hr2 with e1 e2
    exact .inl (by rw [e1]; rfl)
   ·have hr2 := run_append_grow (P := P) w t ty e i z ht hi hz ⟨g', 0, none⟩ n cap xs hown.1 (fun j u hj => hown.cells (g := g') rfl j u hj) a m c news hl hnews (by omega) (by omega) (growslice_fits (by omega) hbytes)
    rw [hr] at hr2
    injection hr2 with e1 e2
    subst e2
    exact .inr ⟨h5, fun g hg => heap_alloc_old w.drew _ hg⟩
/-- At the operation, for the walk. -/
theorem wpList_append_keep {P : Program} {w : World} {ops : Array Oper} {rest : List Oper} {o : Oper} {a : Act} {Q : Exit → Act → World → Prop} (hgd : o.guard = none) (s x : Operand) (t : TypeId)
  (ho : o.op = .call { callee := .builtin .append, args := #[s, x], argTypes := #[t, t] })
  (base : Nat) (e : TypeId) (i : TypeInfo) (z : Value) (size bytes : Nat) (ht : P.underlying t = some (.slice e)) (hi : P.info? e = some i) (hz : i.zero = some z)
  (hsize : i.size = size) (hby : i.bytes = bytes) (hzs : z.cells.size = size) (hsz : 0 < size)
  (v : Value) (n : Nat) (xs : List Value) (hs : a.eval s = v) (hown : w.ownsRow base e size v n xs)
  (ad : Addr) (m c : Nat) (news : List Value) (hx : a.eval x = .slice (some ad) m c) (hl : news.length = m * size) (hnews : ∀ j u, news[j]? = some u → w.cell? (ad.add j) = some u) (h1 : ∀ u ∈ news, u.oneCell' = true)
  (h63 : n + m ≤ maxLen) (hbytes : (n + m) * bytes ≤ 140737488355328) (hbase : base ≤ w.heap.size)
  (h : ∀ v' w', w'.ownsRow base e size v' (n + m) (xs ++ news) → w.grownBy w' v.ownBlock → (v'.ownBlock = v.ownBlock ∨ (v'.ownBlock = some w.heap.size ∧ ∀ g, g < w.heap.size → w'.heap[g]? = w.heap[g]?)) → wpList P ops Q rest (a.put o.dst v') w') :
  wpList P ops Q (o :: rest) a w := by
 refine wpList_plain hgd fun K hK => ?_
 obtain ⟨v', w', hr, h2, h3, h4⟩ := run_append_keep (P := P) w base t o.type e i z size bytes ht hi hz hsize hby hzs hsz v n xs hown ad m c news hl hnews h1 h63 hbytes hbase
 unfold Oper.wp execOp
 simp only [ho, resolve, invoke, builtin, Sem.run_bind, Sem.run_pure, Result.andThen_ok, List.map_toArray, List.map_cons, List.map_nil, hs, hx, hr]
 exact hK _ _ (h v' w' h2 h3 h4)
end Go.Proofs.Lx

namespace Go.Proofs.Lx
open Go Go.RowKit

/-- Block g holds just these cells. -/
def Arr {α : Type} (enc : α → Value) (e : TypeId) (w : World) (g : Nat) (xs : List α) : Prop := w.heap[g]? = some (.cells (xs.map enc).toArray e (0, 0))
section
variable {α : Type} {enc : α → Value} {e : TypeId} {w w' : World} {g : Nat} {xs : List α}
theorem Arr.lt (h : Arr enc e w g xs) : g < w.heap.size := lt_of_block h
theorem Arr.cell (h : Arr enc e w g xs) {i : Nat} (hi : i < xs.length) : w.cell? ⟨g, i, none⟩ = some (enc xs[i]) := by
 rw [cell_of_row w g i _ e _ h]; simp [hi]
theorem Arr.cellD [Inhabited α] (h : Arr enc e w g xs) {i : Nat} (hi : i < xs.length) : w.cell? ⟨g, i, none⟩ = some (enc (xs.getD i default)) := by
 rw [h.cell hi]; simp [hi]
theorem Arr.free (h : Arr enc e w g xs) (i : Nat) : w.frozen? ⟨g, i, none⟩ = false := frozen_of_row w g i _ e h
theorem Arr.set (h : Arr enc e w g xs) (i : Nat) (x : α) : Arr enc e (w.setCell ⟨g, i, none⟩ (enc x)) g (xs.set i x) := by
 unfold Arr
 rw [heap_setCell_same w g i _ e _ h]
 simp [List.map_set]
theorem Arr.other (h : Arr enc e w g xs) {a : Addr} (hne : g ≠ a.block) (u : Value) : Arr enc e (w.setCell a u) g xs := (heap_setCell_other w a g u hne).trans h
theorem Arr.alloc (h : Arr enc e w g xs) (o : Obj) : Arr enc e (w.alloc o) g xs := (Below.heap_alloc w o g h.lt).trans h
theorem Arr.drew (h : Arr enc e w g xs) : Arr enc e w.drew g xs := h
theorem Arr.drewN (h : Arr enc e w g xs) (n : Nat) : Arr enc e (w.drewN n) g xs := by
 induction n with
 | zero => exact h
 | succ n ih => rw [← World.drew_drewN]; exact ih
theorem Arr.below {B : Nat} (h : Arr enc e w g xs) (hb : Below B w w') (hB : g < B) : Arr enc e w' g xs := (hb.block g hB).trans h
theorem Arr.ext (h : Arr enc e w g xs) (hb : Below w.heap.size w w') : Arr enc e w' g xs := h.below hb h.lt
theorem Arr.reads (h : Arr enc e w g xs) (hl : xs.length ≤ 140737488355328) (c : Nat) (hc : xs.length ≤ c) : Rd 1 (scR enc) w (.slice (some ⟨g, 0, none⟩) xs.length c) xs := by
 refine ⟨_, c, rfl, hc, hl, fun i hi => ⟨_, _, rfl, rfl, rfl, fun j u hu => ?_⟩⟩
 match j, hu with
 | 0, hu =>
  simp at hu; subst hu
  rw [add_plain]; simpa using h.cell hi
end
theorem heap_drewN (w : World) (n : Nat) : (w.drewN n).heap = w.heap := by
 induction n with
 | zero => rfl
 | succ n ih => rw [← World.drew_drewN]; exact ih
theorem below_drewN {B : Nat} {w W : World} (h : Below B w W) (n : Nat) : Below B w (W.drewN n) := by
 induction n with
 | zero => exact h
 | succ n ih => rw [← World.drew_drewN]; exact ih.drew

/-- A box that was laid first. -/
theorem box_cell {w wr : World} {cs : Array Value} {t : TypeId} (h : Below (w.heap.size + 1) (w.alloc (.cells cs t)) wr) (i : Nat) : wr.cell? ⟨w.heap.size, i, none⟩ = cs[i]? := by
 have hb : wr.heap[w.heap.size]? = some (.cells cs t (0, 0)) := (h.block _ (by omega)).trans (heap_alloc_new w _)
 exact cell_of_row wr _ i cs t _ hb
/-- make([]T, n): its block. -/
theorem made_arr {α : Type} (enc : α → Value) (z : α) (e : TypeId) (w : World) (n : Nat) : Arr enc e (w.alloc (.cells (madeCells #[enc z] n) e)) w.heap.size (List.replicate n z) := by
 unfold Arr
 rw [heap_alloc_new]
 congr 2
 rw [← Array.toList_inj, toList_madeCells_one]; simp
end Go.Proofs.Lx

namespace Go.Proofs.Lx
open Go Go.RowKit
set_option linter.unusedVariables false

abbrev intsV (xs : List Int) : List Value := xs.map (Value.int .i64)
theorem step_append_own_at {P : Program} {ops : Array Oper} {o : Oper} {a : Act} {w : World} {K : Act → World → Prop} {Q : Exit → Act → World → Prop} {E : Prop}
  (hgd : o.guard = none) (s x : Operand) (t : TypeId)
  (ho : o.op = .call { callee := .builtin .append, args := #[s, x], argTypes := #[t, t] })
  (base : Nat) (e : TypeId) (z : Value) (bytes : Nat) (ht : P.underlying t = some (.slice e)) (hinfo : (P.info? e).map (fun i => (i.zero, i.size, i.bytes)) = some (some z, 1, bytes)) (hz : z.cells.size = 1)
  (v : Value) (n : Nat) (xs : List Value) (hs : a.eval s = v) (hown : w.ownsRow base e 1 v n xs)
  (ad : Addr) (y : Value) (hx : a.eval x = .slice (some ad) 1 1) (hnew : w.cell? ad = some y) (h1 : y.oneCell' = true)
  (h63 : n + 1 ≤ maxLen) (hbytes : (n + 1) * bytes ≤ 140737488355328) (hbase : base ≤ w.heap.size)
  (h : ∀ v' w', w'.ownsRow base e 1 v' (n + 1) (xs ++ [y]) → w.grownBy w' v.ownBlock → (v'.ownBlock = v.ownBlock ∨ v'.ownBlock = some w.heap.size) → K (a.put o.dst v') w') :
  if Region.wanted o (yielded ops a.tmps) = true then Oper.wp P o a w K Q else E := by
 rw [if_pos (by simp [Region.wanted, hgd])]
 obtain ⟨i, hi, hz0, hz1, hz2⟩ := info_parts hinfo
 obtain ⟨v', w', hr, h2, h3, h4, h5⟩ := run_append_own_at (P := P) w base t o.type e i z 1 bytes ht hi hz0 hz1 hz2 hz (by omega) v n xs hown ad 1 1 [y] rfl (by
  intro j u hj
  match j, hj with
  | 0, hj => simp at hj; subst hj; rw [add_zero]; exact hnew) (by intro u hu; simp at hu; subst hu; exact h1) h63 hbytes hbase
 unfold Oper.wp execOp
 simp only [ho, resolve, invoke, builtin, Sem.run_bind, Sem.run_pure, Result.andThen_ok, List.map_toArray, List.map_cons, List.map_nil, hs, hx, hr]
 exact h v' w' h2 h3 h5

structure Rows (w : World) (g base eS eI : Nat) (vs : List Value) (xss : List (List Int)) : Prop where
 blk : w.heap[g]? = some (.cells vs.toArray eS (0, 0))
 len : vs.length = xss.length
 own : ∀ q (h : q < vs.length) (h' : q < xss.length), w.ownsRow base eI 1 vs[q] xss[q].length (intsV xss[q])
 ne : ∀ q r (h : q < vs.length) (h' : r < vs.length), q ≠ r → vs[q].ownBlock = none ∨ vs[q].ownBlock ≠ vs[r].ownBlock
 hg : g < base
section
variable {w w' : World} {g base eS eI : Nat} {vs : List Value} {xss : List (List Int)}
theorem Rows.cell (h : Rows w g base eS eI vs xss) {q : Nat} (hq : q < vs.length) : w.cell? ⟨g, q, none⟩ = some vs[q] := by
 rw [cell_of_row w g q _ eS _ h.blk]; simp [hq]
theorem Rows.free (h : Rows w g base eS eI vs xss) (q : Nat) : w.frozen? ⟨g, q, none⟩ = false := frozen_of_row w g q _ eS h.blk
theorem Rows.lt (h : Rows w g base eS eI vs xss) : g < w.heap.size := lt_of_block h.blk
theorem Rows.ext (h : Rows w g base eS eI vs xss) (hb : Below w.heap.size w w') : Rows w' g base eS eI vs xss :=
 ⟨(hb.block g h.lt).trans h.blk, h.len, fun q h1 h2 => (h.own q h1 h2).kept (row := none) ⟨hb.os, hb.tape, hb.output, hb.size, fun k hk _ => hb.block k hk⟩ (by cases vs[q].ownBlock <;> simp), h.ne, h.hg⟩
theorem Rows.other (h : Rows w g base eS eI vs xss) {a : Addr} (ha : a.block < base) (hne : g ≠ a.block) (u : Value) : Rows (w.setCell a u) g base eS eI vs xss :=
 ⟨(heap_setCell_other w a g u hne).trans h.blk, h.len, fun q h1 h2 => ownsRow_setCell_other (h.own q h1 h2) (fun e => by have := (h.own q h1 h2).lt _ e; omega) u, h.ne, h.hg⟩
theorem Rows.made (w : World) (g base eS eI n : Nat) (hg : g < base) (hb : w.heap[g]? = some (.cells (List.replicate n (Value.slice none 0 0)).toArray eS (0, 0))) : Rows w g base eS eI (List.replicate n (.slice none 0 0)) (List.replicate n []) :=
 ⟨hb, by simp, fun q h1 h2 => by simpa using World.ownsRow_nil w base eI 1, fun q r h1 h2 hne => .inl (by simp [Value.ownBlock]), hg⟩
/-- Row q has grown by one. -/
theorem Rows.append (h : Rows w g base eS eI vs xss) (hbase : base ≤ w.heap.size) {q : Nat} (hq : q < vs.length) (hq' : q < xss.length) {v' : Value} {x : Int} (hgr : w.grownBy w' vs[q].ownBlock)
  (ho : w'.ownsRow base eI 1 v' (xss[q].length + 1) (intsV xss[q] ++ [.int .i64 x])) (hat : v'.ownBlock = vs[q].ownBlock ∨ ∃ b, v'.ownBlock = some b ∧ w.heap.size ≤ b) :
  Rows (w'.setCell ⟨g, q, none⟩ v') g base eS eI (vs.set q v') (xss.set q (xss[q] ++ [x])) := by
 have hgne : ∀ k, vs[q].ownBlock = some k → base ≤ k ∧ k < w.heap.size := (h.own q hq hq').lt
 have hblk : w'.heap[g]? = some (.cells vs.toArray eS (0, 0)) := (hgr.block g h.lt (fun e => by have := hgne g e.symm; have := h.hg; omega)).trans h.blk
 refine ⟨?_, by simp [h.len], ?_, ?_, h.hg⟩
 ·rw [heap_setCell_same w' g q _ eS _ hblk]; simp
 ·intro r h1 h2
  simp only [List.length_set] at h1 h2
  by_cases e : q = r
  ·subst e
   simp only [List.getElem_set_self, List.length_append, List.length_cons, List.length_nil, intsV, List.map_append, List.map_cons, List.map_nil]
   exact ownsRow_setCell_other ho (fun e => by have h9 : base ≤ g := (ho.lt _ e).1; have := h.hg; omega) _
  ·rw [List.getElem_set_ne e, List.getElem_set_ne e]
   have h3 := (h.own r h1 h2).kept hgr (h.ne r q h1 hq (Ne.symm e))
   exact ownsRow_setCell_other h3 (fun e => by have h9 : base ≤ g := (h3.lt _ e).1; have := h.hg; omega) _
 ·intro r t h1 h2 hrt
  simp only [List.length_set] at h1 h2
  rw [List.getElem_set, List.getElem_set]
  by_cases e : q = r
  ·rw [if_pos e, if_neg (fun e2 => hrt (e.symm.trans e2))]
   subst e
   rcases hat with hat | ⟨b, hat, hb⟩
   ·rw [hat]; exact h.ne q t hq h2 hrt
   ·right
    rw [hat]
    intro e3
    have := (h.own t h2 (by rw [← h.len]; exact h2)).lt b e3.symm
    omega
  ·rw [if_neg e]
   by_cases e2 : q = t
   ·rw [if_pos e2]
    subst e2
    rcases hat with hat | ⟨b, hat, hb⟩
    ·rw [hat]; exact h.ne r q h1 hq hrt
    ·cases ho2 : vs[r].ownBlock with
     | none => exact .inl rfl
     | some k =>
      right
      rw [hat]
      intro e3
      injection e3 with e3
      have := (h.own r h1 (by rw [← h.len]; exact h1)).lt k ho2
      omega
   ·rw [if_neg e2]; exact h.ne r t h1 h2 hrt
theorem own_rdI {v : Value} {xs : List Int} (h : w.ownsRow base eI 1 v xs.length (intsV xs)) (hl : xs.length ≤ 140737488355328) : RdI w v xs := by
 rcases h.2 with ⟨rfl, h0⟩ | ⟨gg, cap, cur, rfl, _, _, hc, _⟩
 ·exact ⟨none, 0, by rw [h0], by omega, hl, fun i hi => absurd hi (by omega)⟩
 ·refine ⟨_, cap, rfl, hc, hl, fun i hi => ⟨_, _, rfl, rfl, rfl, fun j u hu => ?_⟩⟩
  match j, hu with
  | 0, hu =>
   simp at hu; subst hu
   rw [add_plain, Nat.add_zero, Nat.mul_one, h.cellAt i (by omega)]
   simp [hi]
theorem Rows.reads (h : Rows w g base eS eI vs xss) (hl : xss.length ≤ 140737488355328) (hx : ∀ q (h : q < xss.length), xss[q].length ≤ 140737488355328) (c : Nat) (hc : xss.length ≤ c) : RdLL w (.slice (some ⟨g, 0, none⟩) xss.length c) xss := by
 refine ⟨_, c, rfl, hc, hl, fun i hi => ⟨_, _, rfl, ⟨vs[i]'(by rw [h.len]; exact hi), rfl, own_rdI (h.own i _ hi) (hx i hi)⟩, rfl, fun j u hu => ?_⟩⟩
 match j, hu with
 | 0, hu =>
  simp at hu; subst hu
  rw [add_plain, Nat.add_zero, Nat.mul_one]
  exact h.cell _
end
end Go.Proofs.Lx

namespace Go.Proofs.Lx
open Go Go.RowKit
set_option linter.unusedVariables false
set_option linter.unusedSimpArgs false
def rowV (G n c : Nat → Nat) (i : Nat) : Value := .slice (some ⟨G i, 0, none⟩) (n i) (c i)
def listV (N : Nat) (G n c : Nat → Nat) : List Value := (List.range N).map (rowV G n c)
theorem listV_length (N : Nat) (G n c : Nat → Nat) : (listV N G n c).length = N := by simp [listV]
theorem listV_at {N : Nat} {G n c : Nat → Nat} {i : Nat} (h : i < N) : (listV N G n c)[i]? = some (rowV G n c i) := by simp [listV, h]
/-- Rows of the call's own, in blocks of their own. -/
structure Bk (w : World) (base : Nat) (e : TypeId) (sz N : Nat) (G n c : Nat → Nat) (x : Nat → List Value) : Prop where
 own : ∀ i, i < N → w.ownsRow base e sz (rowV G n c i) (n i) (x i)
 ne : ∀ i j, i < N → j < N → G i = G j → i = j
 pos : ∀ i, i < N → 0 < n i ∧ n i ≤ 70000
/-- Just some rows' blocks may have changed. -/
structure Chg (w w' : World) (N : Nat) (G : Nat → Nat) : Prop where
 os : w'.os = w.os
 tape : w'.tape = w.tape
 output : w'.output = w.output
 size : w.heap.size ≤ w'.heap.size
 blk : ∀ g, g < w.heap.size → (∀ i, i < N → G i ≠ g) → w'.heap[g]? = w.heap[g]?
section
variable {w w' w2 : World} {base : Nat} {e eS : TypeId} {sz N : Nat} {G n c : Nat → Nat} {x : Nat → List Value}
theorem Chg.refl (w : World) (N : Nat) (G : Nat → Nat) : Chg w w N G := ⟨rfl, rfl, rfl, Nat.le_refl _, fun _ _ _ => rfl⟩
theorem Chg.trans (h : Chg w w' N G) (k : Chg w' w2 N G) : Chg w w2 N G :=
 ⟨k.os.trans h.os, k.tape.trans h.tape, k.output.trans h.output, Nat.le_trans h.size k.size, fun g hg hn => (k.blk g (Nat.lt_of_lt_of_le hg h.size) hn).trans (h.blk g hg hn)⟩
theorem Chg.of (h : Below w.heap.size w w') : Chg w w' N G := ⟨h.os, h.tape, h.output, h.size, fun g hg _ => h.block g hg⟩
theorem Chg.set {i : Nat} (hi : i < N) (w : World) (j : Nat) (u : Value) : Chg w (w.setCell ⟨G i, j, none⟩ u) N G :=
 ⟨rfl, rfl, rfl, by simp, fun g _ hn => heap_setCell_other _ _ _ _ (fun e => hn i hi e.symm)⟩
theorem Chg.grown {i : Nat} (hi : i < N) (h : w.grownBy w' (some (G i))) : Chg w w' N G :=
 ⟨h.os, h.tape, h.output, h.size, fun g hg hn => h.block g hg (fun e => hn i hi (by injection e with e; exact e.symm))⟩
theorem Chg.below (h : Chg w w' N G) {m : Nat} (hm : m ≤ w.heap.size) (hG : ∀ i, i < N → m ≤ G i) : Below m w w' :=
 ⟨h.os, h.tape, h.output, h.size, fun g hg => h.blk g (Nat.lt_of_lt_of_le hg hm) (fun i hi e => by have := hG i hi; omega)⟩
theorem row_block {g n0 c0 : Nat} {xs : List Value} (h : w.ownsRow base e sz (.slice (some ⟨g, 0, none⟩) n0 c0) n0 xs) : ∃ cur, w.heap[g]? = some (.cells cur e (0, 0)) ∧ base ≤ g ∧ n0 ≤ c0 ∧ ∀ (j : Nat) (u : Value), xs[j]? = some u → w.cell? ⟨g, j, none⟩ = some u := by
 have hc := fun j u hj => h.cells (g := g) rfl j u hj
 rcases h.2 with ⟨h1, _⟩ | ⟨gg, cp, cur, h1, h2, h3, h4, _⟩
 ·cases h1
 ·cases h1
  exact ⟨cur, h3, h2, h4, fun j u hj => by have := hc j u hj; rwa [add_plain] at this⟩
theorem own_keep {g n0 c0 : Nat} {xs : List Value} (h : w.ownsRow base e sz (.slice (some ⟨g, 0, none⟩) n0 c0) n0 xs) (hk : w'.heap[g]? = w.heap[g]?) : w'.ownsRow base e sz (.slice (some ⟨g, 0, none⟩) n0 c0) n0 xs := by
 refine ⟨h.1, ?_⟩
 rcases h.2 with ⟨h1, _⟩ | ⟨gg, cp, cur, h1, h2, h3, h4⟩
 ·cases h1
 ·cases h1
  exact .inr ⟨g, c0, cur, rfl, h2, hk.trans h3, h4⟩
theorem own_setS {g n0 cap : Nat} {xs : List Value} (h : w.ownsRow base e sz (.slice (some ⟨g, 0, none⟩) n0 cap) n0 xs) (i : Nat) (u : Value) :
  (w.setCell ⟨g, i, none⟩ u).ownsRow base e sz (.slice (some ⟨g, 0, none⟩) n0 cap) n0 (xs.set i u) := by
 obtain ⟨h0, h1⟩ := h
 refine ⟨by simpa using h0, ?_⟩
 rcases h1 with ⟨h1, _⟩ | ⟨gg, cp, cur, h1, h2, h3, h4, h5, h6, h7⟩
 ·cases h1
 ·cases h1
  right
  refine ⟨g, cap, cur.setIfInBounds i u, rfl, h2, ?_, h4, h5, by simpa using h6, ?_⟩
  ·rw [heap_setCell_same w g i _ e _ h3]
  ·rw [← h7]; simp [List.take_set]
def updF {α : Type} (f : Nat → α) (i : Nat) (v : α) : Nat → α := fun j => if j = i then v else f j
theorem updF_same {α : Type} (f : Nat → α) (i : Nat) (v : α) : updF f i v i = v := by simp [updF]
theorem updF_ne {α : Type} {f : Nat → α} {i j : Nat} {v : α} (h : j ≠ i) : updF f i v j = f j := by simp [updF, h]
theorem Bk.set (h : Bk w base e sz N G n c x) {i : Nat} (hi : i < N) (j : Nat) (u : Value) : Bk (w.setCell ⟨G i, j, none⟩ u) base e sz N G n c (updF x i ((x i).set j u)) := by
 refine ⟨fun k hk => ?_, h.ne, h.pos⟩
 by_cases hki : k = i
 ·subst hki
  rw [updF_same]
  exact own_setS (h.own k hk) j u
 ·rw [updF_ne hki]
  exact own_keep (h.own k hk) (heap_setCell_other _ _ _ _ (fun e => hki (h.ne _ _ hk hi e)))
theorem Bk.ext (h : Bk w base e sz N G n c x) (hb : Below w.heap.size w w') : Bk w' base e sz N G n c x :=
 ⟨fun k hk => own_keep (h.own k hk) (hb.block _ (by obtain ⟨_, h1, _⟩ := row_block (h.own k hk); exact lt_of_block h1)), h.ne, h.pos⟩
/-- Rows of another type stay. -/
theorem Bk.other (h : Bk w base e sz N G n c x) {N2 : Nat} {G2 n2 c2 : Nat → Nat} {x2 : Nat → List Value} {base2 sz2 : Nat} {e2 : TypeId} (h2 : Bk w base2 e2 sz2 N2 G2 n2 c2 x2) (hne : e ≠ e2) (hc : Chg w w' N2 G2) : Bk w' base e sz N G n c x := by
 refine ⟨fun k hk => own_keep (h.own k hk) ?_, h.ne, h.pos⟩
 obtain ⟨cur, h3, _⟩ := row_block (h.own k hk)
 refine hc.blk _ (lt_of_block h3) fun i hi e9 => ?_
 obtain ⟨cur2, h4, _⟩ := row_block (h2.own i hi)
 rw [e9, h3] at h4
 injection h4 with h4
 injection h4 with _ h4
 exact hne h4
/-- A block of another type stays. -/
theorem Bk.block (h : Bk w base e sz N G n c x) {g : Nat} {cells : Array Value} {e2 : TypeId} (hg : w.heap[g]? = some (.cells cells e2 (0, 0))) (hne : e ≠ e2) (hc : Chg w w' N G) : w'.heap[g]? = some (.cells cells e2 (0, 0)) := by
 refine (hc.blk _ (lt_of_block hg) fun i hi e9 => ?_).trans hg
 obtain ⟨cur2, h4, _⟩ := row_block (h.own i hi)
 rw [e9, hg] at h4
 injection h4 with h4
 injection h4 with _ h4
 exact hne h4.symm
theorem own_other {lb m : Nat} {v : Value} {xs : List Value} (h : Bk w base e sz N G n c x) (hl : w.ownsRow lb eS 1 v m xs) (hne : e ≠ eS) (hc : Chg w w' N G) : w'.ownsRow lb eS 1 v m xs := by
 refine ⟨hl.1, ?_⟩
 rcases hl.2 with h1 | ⟨gg, cp, cur, h1, h2, h3, h4⟩
 ·exact .inl h1
 ·exact .inr ⟨gg, cp, cur, h1, h2, h.block h3 hne hc, h4⟩
end
/-- A list's cells are marks. -/
def PW (sz : Nat) (mc : Nat → Nat → Nat → Value) (xs : List Value) (i m : Nat) : Prop := ∀ k, k < m → ∀ q, q < sz → xs[k * sz + q]? = some (mc i k q)
def RdP (w : World) (sz : Nat) (mc : Nat → Nat → Nat → Value) (g i m : Nat) : Prop := ∀ k, k < m → ∀ q, q < sz → w.cell? ⟨g, k * sz + q, none⟩ = some (mc i k q)
section
variable {w w' w2 : World} {base : Nat} {e eS : TypeId} {sz N : Nat} {G n c : Nat → Nat} {x : Nat → List Value} {mc : Nat → Nat → Nat → Value}
theorem RdP.keep {g i m : Nat} (h : RdP w sz mc g i m) (hk : w'.heap[g]? = w.heap[g]?) : RdP w' sz mc g i m := fun k hk1 q hq => (World.cell?_of_block hk).trans (h k hk1 q hq)
theorem RdP.of {g n0 c0 i : Nat} {xs : List Value} (h : w.ownsRow base e sz (.slice (some ⟨g, 0, none⟩) n0 c0) n0 xs) (hp : PW sz mc xs i n0) : RdP w sz mc g i n0 := fun k hk q hq => by
 obtain ⟨_, _, _, _, h4⟩ := row_block h
 exact h4 _ _ (hp k hk q hq)
theorem PW.le {xs : List Value} {i m m' : Nat} (h : PW sz mc xs i m) (hm : m' ≤ m) : PW sz mc xs i m' := fun k hk => h k (by omega)
/-- While the lists are grown: i of them are done. -/
structure L2 (W0 w : World) (base : Nat) (e eS : TypeId) (sz N : Nat) (G n c : Nat → Nat) (x : Nat → List Value) (mc : Nat → Nat → Nat → Value) (i : Nat) (H d : Nat → Nat) (gv : Value) : Prop where
 rest : ∀ j, i ≤ j → j < N → w.ownsRow base e sz (rowV G n c j) (n j) (x j)
 hi : ∀ j, j < N → G j < W0.heap.size
 done : ∀ j, j < i → RdP w sz mc (H j) j (n j + 20) ∧ RdP w sz mc (G j) j (n j) ∧ H j < w.heap.size ∧ (H j = G j ∨ W0.heap.size ≤ H j) ∧ ∃ cur, w.heap[H j]? = some (.cells cur e (0, 0))
 tag : ∀ j, j < N → ∃ cur, w.heap[G j]? = some (.cells cur e (0, 0))
 gv : w.ownsRow W0.heap.size eS 1 gv i (listV i H (fun j => n j + 20) d)
 chg : Chg W0 w N G
theorem L2.start (h : Bk w base e sz N G n c x) : L2 w w base e eS sz N G n c x mc 0 G c (.slice none 0 0) := by
 refine ⟨fun j _ hj => h.own j hj, fun j hj => ?_, fun j hj => by omega, fun j hj => ?_, by simpa [listV] using World.ownsRow_nil _ _ _ _, Chg.refl _ _ _⟩
 ·obtain ⟨_, h1, _⟩ := row_block (h.own j hj); exact lt_of_block h1
 ·obtain ⟨cur, h1, _⟩ := row_block (h.own j hj); exact ⟨cur, h1⟩
/-- One list: k marks are appended to it. -/
structure L3 (Wi w : World) (base : Nat) (e : TypeId) (sz : Nat) (G n : Nat → Nat) (mc : Nat → Nat → Nat → Value) (i k h d : Nat) (ys : List Value) : Prop where
 own : w.ownsRow base e sz (.slice (some ⟨h, 0, none⟩) (n i + k) d) (n i + k) ys
 pw : PW sz mc ys i (n i + k)
 at0 : RdP w sz mc (G i) i (n i)
 hh : h = G i ∨ Wi.heap.size ≤ h
 gr : Wi.grownBy w (some (G i))
 tag : ∃ cur, w.heap[G i]? = some (.cells cur e (0, 0))
theorem grown_refl2 (w : World) (r : Option Nat) : w.grownBy w r := ⟨rfl, rfl, rfl, Nat.le_refl _, fun _ _ _ => rfl⟩
theorem grown_of {r : Option Nat} (h : Below w.heap.size w w') : w.grownBy w' r := ⟨h.os, h.tape, h.output, h.size, fun k hk _ => h.block k hk⟩
theorem grown_trans {r : Option Nat} (h : w.grownBy w' r) (k : w'.grownBy w2 r) : w.grownBy w2 r :=
 ⟨k.os.trans h.os, k.tape.trans h.tape, k.output.trans h.output, Nat.le_trans h.size k.size, fun g hg hn => (k.block g (Nat.lt_of_lt_of_le hg h.size) hn).trans (h.block g hg hn)⟩
theorem L3.start {i : Nat} (h : w.ownsRow base e sz (rowV G n c i) (n i) (x i)) (hp : PW sz mc (x i) i (n i)) : L3 w w base e sz G n mc i 0 (G i) (c i) (x i) :=
 ⟨h, hp, RdP.of h hp, .inl rfl, grown_refl2 _ _, by obtain ⟨cur, h1, _⟩ := row_block h; exact ⟨cur, h1⟩⟩
theorem L3.ext {Wi : World} {i k h d : Nat} {ys : List Value} (hl : L3 Wi w base e sz G n mc i k h d ys) (hb : Below w.heap.size w w') : L3 Wi w' base e sz G n mc i k h d ys := by
 obtain ⟨cur, h1, _⟩ := row_block hl.own
 obtain ⟨cur2, h2⟩ := hl.tag
 exact ⟨own_keep hl.own (hb.block _ (lt_of_block h1)), hl.pw, hl.at0.keep (hb.block _ (lt_of_block h2)), hl.hh, grown_trans hl.gr (grown_of hb), cur2, (hb.block _ (lt_of_block h2)).trans h2⟩
/-- One more. -/
theorem L3.append {Wi : World} {i k h d h' d' : Nat} {ys news : List Value} (hl : L3 Wi w base e sz G n mc i k h d ys) (hn : ∀ q, q < sz → news[q]? = some (mc i (n i + k) q))
  (ho : w'.ownsRow base e sz (.slice (some ⟨h', 0, none⟩) (n i + k + 1) d') (n i + k + 1) (ys ++ news)) (hg : w.grownBy w' (some h)) (hat : some h' = some h ∨ (some h' = some w.heap.size ∧ ∀ g, g < w.heap.size → w'.heap[g]? = w.heap[g]?)) :
  L3 Wi w' base e sz G n mc i (k + 1) h' d' (ys ++ news) := by
 have hlen : ys.length = (n i + k) * sz := hl.own.1
 have hsz := hl.gr.size
 obtain ⟨cur2, htag⟩ := hl.tag
 have hlG := lt_of_block htag
 have hpw : PW sz mc (ys ++ news) i (n i + k + 1) := fun j hj q hq => by
  by_cases hjk : j < n i + k
  ·have h1 := hl.pw j hjk q hq
   rw [List.getElem?_append_left (List.getElem?_eq_some_iff.1 h1).1]; exact h1
  ·obtain rfl : j = n i + k := by omega
   rw [List.getElem?_append_right (by omega), hlen, Nat.add_sub_cancel_left]
   exact hn q hq
 refine ⟨ho, hpw, ?_, ?_, ?_, ?_⟩
 ·by_cases he : h' = G i
  ·intro j hj q hq
   rw [← he]
   exact (RdP.of ho hpw) j (by omega) q hq
  ·refine hl.at0.keep ?_
   rcases hat with e | ⟨_, e⟩
   ·injection e with e; exact hg.block _ hlG (fun e2 => he (by injection e2 with e2; omega))
   ·exact e _ hlG
 ·rcases hat with e | ⟨e, _⟩
  ·injection e with e; rw [e]; exact hl.hh
  ·injection e with e; right; omega
 ·refine ⟨hg.os.trans hl.gr.os, hg.tape.trans hl.gr.tape, hg.output.trans hl.gr.output, Nat.le_trans hsz hg.size, fun g hgs hgn => ?_⟩
  refine (hg.block g (by omega) fun e2 => ?_).trans (hl.gr.block g hgs hgn)
  injection e2 with e2
  rcases hl.hh with e3 | e3
  ·exact hgn (by rw [← e3, e2])
  ·omega
 ·by_cases he : h' = G i
  ·obtain ⟨cur, h1, _⟩ := row_block ho
   rw [he] at h1; exact ⟨cur, h1⟩
  ·refine ⟨cur2, Eq.trans ?_ htag⟩
   rcases hat with e | ⟨_, e⟩
   ·injection e with e; exact hg.block _ hlG (fun e2 => he (by injection e2 with e2; omega))
   ·exact e _ hlG
theorem L2.gvAt {W0 Wi : World} {i k h d' : Nat} {H d : Nat → Nat} {gv : Value} {ys : List Value} (h2 : L2 W0 Wi base e eS sz N G n c x mc i H d gv) (hi : i < N) (h3 : L3 Wi w base e sz G n mc i k h d' ys) : w.ownsRow W0.heap.size eS 1 gv i (listV i H (fun j => n j + 20) d) := by
 refine ⟨h2.gv.1, ?_⟩
 rcases h2.gv.2 with h1 | ⟨gg, cp, cur, h1, h4, h5, h6⟩
 ·exact .inl h1
 ·exact .inr ⟨gg, cp, cur, h1, h4, (h3.gr.block gg (lt_of_block h5) (fun e => by injection e with e; have := h2.hi i hi; omega)).trans h5, h6⟩
/-- A list is done: it joins those that are grown. -/
theorem L2.next {W0 Wi : World} {i h d' : Nat} {H d : Nat → Nat} {gv gv' : Value} {ys : List Value} {A : Obj} (hk : Bk W0 base e sz N G n c x) (h2 : L2 W0 Wi base e eS sz N G n c x mc i H d gv) (hi : i < N) (h3 : L3 Wi w base e sz G n mc i 20 h d' ys) (hne : e ≠ eS)
  (ho : w'.ownsRow W0.heap.size eS 1 gv' (i + 1) (listV i H (fun j => n j + 20) d ++ [.slice (some ⟨h, 0, none⟩) (n i + 20) d'])) (hg : (w.alloc A).grownBy w' gv.ownBlock) :
  L2 W0 w' base e eS sz N G n c x mc (i + 1) (updF H i h) (updF d i d') gv' := by
 have hsz := h3.gr.size
 have hsz2 : w.heap.size + 1 ≤ w'.heap.size := by simpa using hg.size
 have hs0 := h2.chg.size
 -- a block of type e below w is as in w
 have kE : ∀ (g : Nat) (cur : Array Value), w.heap[g]? = some (Obj.cells cur e (0, 0)) → w'.heap[g]? = w.heap[g]? := fun g cur hc => by
  have hlt := lt_of_block hc
  refine (hg.block g (by simp; omega) fun e9 => ?_).trans (Below.heap_alloc _ _ _ hlt)
  rcases h2.gv.2 with ⟨e1, _⟩ | ⟨gg, cp, cu, e1, e2, e3, _⟩
  ·rw [e1] at e9; simp [Value.ownBlock] at e9
  ·rw [e1] at e9
   have e10 : gg = g := by simp [Value.ownBlock] at e9; exact e9.symm
   subst e10
   have e11 : gg ≠ G i := fun e12 => by have := h2.hi i hi; omega
   have := (h3.gr.block gg (lt_of_block e3) (fun e12 => e11 (by injection e12))).trans e3
   rw [this] at hc
   injection hc with hc
   injection hc with _ hc
   exact hne hc.symm
 have kI : ∀ (g : Nat) (cur : Array Value), Wi.heap[g]? = some (Obj.cells cur e (0, 0)) → g ≠ G i → w.heap[g]? = Wi.heap[g]? := fun g cur hc hn => h3.gr.block g (lt_of_block hc) (fun e9 => hn (by injection e9))
 have kk : ∀ (g : Nat) (cur : Array Value), Wi.heap[g]? = some (Obj.cells cur e (0, 0)) → g ≠ G i → w'.heap[g]? = Wi.heap[g]? := fun g cur hc hn => (kE g cur ((kI g cur hc hn).trans hc)).trans (kI g cur hc hn)
 obtain ⟨curh, hbh, _⟩ := row_block h3.own
 obtain ⟨curG, hbG⟩ := h3.tag
 refine ⟨fun j hj1 hj2 => ?_, h2.hi, fun j hj => ?_, fun j hj => ?_, ?_, ?_⟩
 ·have hr := h2.rest j (by omega) hj2
  obtain ⟨cur, hb, _⟩ := row_block hr
  exact own_keep hr (kk _ _ hb fun e9 => by have := hk.ne _ _ hj2 hi e9; omega)
 ·by_cases hji : j = i
  ·subst hji
   rw [updF_same]
   refine ⟨(RdP.of h3.own h3.pw).keep (kE _ _ hbh), h3.at0.keep (kE _ _ hbG), by have := lt_of_block hbh; omega, ?_, curh, (kE _ _ hbh).trans hbh⟩
   rcases h3.hh with e9 | e9
   ·exact .inl e9
   ·right; omega
  ·rw [updF_ne hji]
   obtain ⟨d1, d2, d3, d4, curj, d5⟩ := h2.done j (by omega)
   obtain ⟨curGj, d6⟩ := h2.tag j (by omega)
   have hGj : G j ≠ G i := fun e9 => hji (hk.ne _ _ (by omega) hi e9)
   have hHj : H j ≠ G i := by
    rcases d4 with e9 | e9
    ·rw [e9]; exact hGj
    ·have := h2.hi i hi; omega
   exact ⟨d1.keep (kk _ _ d5 hHj), d2.keep (kk _ _ d6 hGj), by omega, d4, curj, (kk _ _ d5 hHj).trans d5⟩
 ·by_cases hji : j = i
  ·subst hji; exact ⟨curG, (kE _ _ hbG).trans hbG⟩
  ·obtain ⟨curGj, d6⟩ := h2.tag j hj
   exact ⟨curGj, (kk _ _ d6 fun e9 => hji (hk.ne _ _ hj hi e9)).trans d6⟩
 ·have e9 : listV (i + 1) (updF H i h) (fun j => n j + 20) (updF d i d') = listV i H (fun j => n j + 20) d ++ [.slice (some ⟨h, 0, none⟩) (n i + 20) d'] := by
   unfold listV
   rw [List.range_succ, List.map_append]
   congr 1
   ·refine List.map_congr_left fun j hj => ?_
    have : j ≠ i := by have := List.mem_range.1 hj; omega
    unfold rowV
    rw [updF_ne this, updF_ne this]
   ·simp [rowV, updF]
  rw [e9]; exact ho
 ·have hos := h3.gr
  refine ⟨hg.os.trans (hos.os.trans h2.chg.os), hg.tape.trans (hos.tape.trans h2.chg.tape), hg.output.trans (hos.output.trans h2.chg.output), by omega, fun g hgs hgn => ?_⟩
  have e1 : w'.heap[g]? = w.heap[g]? := by
   refine (hg.block g (by simp; omega) fun e9 => ?_).trans (Below.heap_alloc _ _ _ (by omega))
   have := (h2.gv.lt g e9.symm).1
   omega
  exact e1.trans ((h3.gr.block g (by omega) fun e9 => hgn i hi (by injection e9 with e9; exact e9.symm)).trans (h2.chg.blk g hgs hgn))
end
end Go.Proofs.Lx
