/- Small words for the walks of this seat: a call that returns; a slice that reads as a list; a theory. No condition. -/
import Derived.WalkKit
import Derived.Handy
import Derived.Deep.LoopGhost
import Derived.Deep.QuietTactic
import Derived.BigQuiet
namespace Go.Proofs.Lx
open Go Go.RowKit

/-- The call returns a value of which Q holds. -/
def Ret (Q : Value → World → Prop) (e : Ending) (w' : World) : Prop := ∃ v, e = .returned v ∧ Q v w'
theorem Ret.mk {Q : Value → World → Prop} {v : Value} {w : World} (h : Q v w) : Ret Q (.returned v) w := ⟨v, rfl, h⟩
theorem Ret.mono {Q Q' : Value → World → Prop} {e : Ending} {w : World} (h : Ret Q e w) (hq : ∀ v w, Q v w → Q' v w) : Ret Q' e w := by
  obtain ⟨v, rfl, q⟩ := h
  exact ⟨v, rfl, hq _ _ q⟩
/-- The post behind a variable: the walk can't turn it. -/
theorem post_gen {P : Program} {f : FuncId} {args : Array Value} {w : World} {Q0 : Value → World → Prop} (h : ∀ Q : Value → World → Prop, Hid (∀ v w', Q0 v w' → Q v w') → Calls P f args w (Ret Q)) : Calls P f args w (Ret Q0) := h Q0 (fun _ _ q => q)
theorem Fin {Q0 Q : Value → World → Prop} (HQ : Hid (∀ v w', Q0 v w' → Q v w')) {v : Value} {w' : World} (h : Q0 v w') : Ret Q (.returned v) w' := ⟨v, rfl, HQ v w' h⟩
theorem hid {p : Prop} (h : p) : Hid p := h

/-- A function of the program that has a body. -/
def Enters (P : Program) (g : Nat) : Prop := ∀ args w, (callFunc g args).run P w = .ok (.enter g args) w

theorem enters_of {P : Program} {g : Nat} {fn : Func} (hf : P.funcs[g]? = some fn) (h1 : (fn.name == "runtime.NumGoroutine") = false) (h2 : fn.body.isNone = false) : Enters P g := by
  intro args w
  have h1' : fn.name ≠ "runtime.NumGoroutine" := by simpa using h1
  have h2' : fn.body ≠ none := by intro h; rw [h] at h2; simp at h2
  simp [callFunc, go_sem, hf, h1', h2']
theorem add_zero (ad : Addr) : ad.add 0 = ad := by simp [Addr.add]
theorem add_add (ad : Addr) (i j : Nat) : (ad.add i).add j = ad.add (i + j) := by
  unfold Addr.add
  by_cases hi : i = 0
  · simp [hi]
  · by_cases hj : j = 0
    · simp [hi, hj]
    · simp [hi, hj, Nat.add_assoc]
theorem add_block (ad : Addr) (i : Nat) : (ad.add i).block = ad.block := by unfold Addr.add; split <;> rfl
theorem add_field (ad : Addr) (i j : Nat) (hj : 0 < j) : ad.add (i + j) = ⟨(ad.add i).block, (ad.add i).off + j, none⟩ := by
  rw [← add_add]; generalize ad.add i = b
  unfold Addr.add; rw [if_neg (by omega)]
theorem add_plain (g j : Nat) : (⟨g, 0, none⟩ : Addr).add j = ⟨g, j, none⟩ := by unfold Addr.add; split <;> simp_all

theorem cell_ext {w w' : World} (hb : Below w.heap.size w w') {a : Addr} {v : Value} (h : w.cell? a = some v) : w'.cell? a = some v := (hb.cell (World.block_lt_of_cell? w a h)).trans h
theorem ext_trans {a b c : World} (h : Below a.heap.size a b) (k : Below b.heap.size b c) : Below a.heap.size a c := h.trans (k.mono h.size)
theorem ext_refl (w : World) : Below w.heap.size w w := Below.refl _ _
theorem ext_alloc (w : World) (o : Obj) : Below w.heap.size w (w.alloc o) := (Below.refl _ _).alloc (Nat.le_refl _) o
theorem ext_drewN (w : World) (n : Nat) : Below w.heap.size w (w.drewN n) := by
  induction n with
  | zero => exact Below.refl _ _
  | succ n ih => rw [← World.drew_drewN]; exact ih.drew
theorem base_trans {B : Nat} {a b c : World} (h : Below B a b) (hB : B ≤ b.heap.size) (k : Below b.heap.size b c) : Below B a c := h.trans (k.mono hB)

/-- The cells from A on read as xs, sz cells each, told by R. -/
def RdC {α : Type} (sz : Nat) (R : World → α → List Value → Prop) (w : World) (A : Option Addr) (xs : List α) : Prop :=
  ∀ i (h : i < xs.length), ∃ ad cs, A = some ad ∧ R w xs[i] cs ∧ cs.length = sz ∧ ∀ j u, cs[j]? = some u → w.cell? (ad.add (i * sz + j)) = some u
/-- A slice value that reads as xs. -/
def Rd {α : Type} (sz : Nat) (R : World → α → List Value → Prop) (w : World) (v : Value) (xs : List α) : Prop :=
  ∃ A c, v = .slice A xs.length c ∧ xs.length ≤ c ∧ xs.length ≤ 140737488355328 ∧ RdC sz R w A xs
def MonoR {α : Type} (R : World → α → List Value → Prop) : Prop := ∀ (w w' : World) (x : α) (cs : List Value), Below w.heap.size w w' → R w x cs → R w' x cs
theorem RdC.ext {α : Type} {sz : Nat} {R : World → α → List Value → Prop} (hR : MonoR R) {w w' : World} {A : Option Addr} {xs : List α} (h : RdC sz R w A xs) (hb : Below w.heap.size w w') : RdC sz R w' A xs := by
  intro i hi
  obtain ⟨ad, cs, hA, hr, hl, hc⟩ := h i hi
  exact ⟨ad, cs, hA, hR _ _ _ _ hb hr, hl, fun j u hu => cell_ext hb (hc j u hu)⟩
theorem Rd.ext {α : Type} {sz : Nat} {R : World → α → List Value → Prop} (hR : MonoR R) {w w' : World} {v : Value} {xs : List α} (h : Rd sz R w v xs) (hb : Below w.heap.size w w') : Rd sz R w' v xs := by
  obtain ⟨A, c, rfl, hc, hm, hr⟩ := h
  exact ⟨A, c, rfl, hc, hm, hr.ext hR hb⟩
theorem RdC.nil {α : Type} {sz : Nat} {R : World → α → List Value → Prop} {w : World} {A : Option Addr} : RdC sz R w A ([] : List α) := fun i h => absurd h (by simp)
theorem Rd.nil {α : Type} {sz : Nat} {R : World → α → List Value → Prop} {w : World} : Rd sz R w (.slice none 0 0) ([] : List α) := ⟨none, 0, rfl, by simp, by simp, RdC.nil⟩

/-- One cell: a scalar. -/
def scR {α : Type} (enc : α → Value) : World → α → List Value → Prop := fun _ x cs => cs = [enc x]
theorem scR_mono {α : Type} (enc : α → Value) : MonoR (scR enc) := fun _ _ _ _ _ h => h
/-- One cell: a slice. -/
def rowR {α : Type} (sz : Nat) (R : World → α → List Value → Prop) : World → List α → List Value → Prop := fun w xs cs => ∃ v, cs = [v] ∧ Rd sz R w v xs
theorem rowR_mono {α : Type} {sz : Nat} {R : World → α → List Value → Prop} (hR : MonoR R) : MonoR (rowR sz R) := fun _ _ _ _ hb ⟨v, e, h⟩ => ⟨v, e, h.ext hR hb⟩

theorem RdC.at1 {α : Type} {enc : α → Value} {w : World} {A : Option Addr} {xs : List α} (h : RdC 1 (scR enc) w A xs) {k : Nat} (hk : k < xs.length) :
    ∃ ad, A = some ad ∧ w.cell? (ad.add k) = some (enc xs[k]) := by
  obtain ⟨ad, cs, hA, hr, hl, hc⟩ := h k hk
  have := hc 0 (enc xs[k]) (by rw [hr]; rfl)
  exact ⟨ad, hA, by simpa using this⟩
theorem RdC.atRow {α : Type} {sz : Nat} {R : World → α → List Value → Prop} {w : World} {A : Option Addr} {xs : List (List α)} (h : RdC 1 (rowR sz R) w A xs) {k : Nat} (hk : k < xs.length) :
    ∃ ad B c, A = some ad ∧ w.cell? (ad.add k) = some (.slice B xs[k].length c) ∧ xs[k].length ≤ c ∧ xs[k].length ≤ 140737488355328 ∧ RdC sz R w B xs[k] := by
  obtain ⟨ad, cs, hA, ⟨v, rfl, B, c, rfl, h1, h2, h3⟩, hl, hc⟩ := h k hk
  have := hc 0 _ rfl
  exact ⟨ad, B, c, hA, by simpa using this, h1, h2, h3⟩
theorem RdC.atRowV {α : Type} {sz : Nat} {R : World → α → List Value → Prop} {w : World} {A : Option Addr} {xs : List (List α)} (h : RdC 1 (rowR sz R) w A xs) {k : Nat} (hk : k < xs.length) :
    ∃ ad v, A = some ad ∧ w.cell? (ad.add k) = some v ∧ Rd sz R w v xs[k] := by
  obtain ⟨ad, cs, hA, ⟨v, rfl, hv⟩, hl, hc⟩ := h k hk
  have := hc 0 _ rfl
  exact ⟨ad, v, hA, by simpa using this, hv⟩

abbrev RdI := Rd 1 (scR (Value.int .i64))
abbrev RdB := Rd 1 (scR Value.bool)
abbrev RdM := Rd 1 (scR (Value.int .u8))
abbrev RdLL := Rd 1 (rowR 1 (scR (Value.int .i64)))
abbrev RcI := RdC 1 (scR (Value.int .i64))
abbrev RcB := RdC 1 (scR Value.bool)
abbrev RcM := RdC 1 (scR (Value.int .u8))
abbrev RcLL := RdC 1 (rowR 1 (scR (Value.int .i64)))
theorem llR_mono : MonoR (rowR 1 (scR (Value.int .i64))) := rowR_mono (scR_mono _)

/-- A rule, a theory. -/
structure Rule where
  kind : Int
  head : Int
  body : List Int
structure Th where
  lits : Int
  foes : List (List Int)
  rules : List Rule
  beats : List (List Int)
instance : Inhabited Rule := ⟨⟨0, 0, []⟩⟩

def ruleR : World → Rule → List Value → Prop := fun w r cs => ∃ v, cs = [.int .i64 r.kind, .int .i64 r.head, v] ∧ RdI w v r.body
theorem ruleR_mono : MonoR ruleR := fun _ _ _ _ hb ⟨v, e, h⟩ => ⟨v, e, h.ext (scR_mono _) hb⟩
abbrev RdRs := Rd 3 ruleR
abbrev RcRs := RdC 3 ruleR
theorem RdC.atRule {w : World} {A : Option Addr} {rs : List Rule} (h : RcRs w A rs) {k : Nat} (hk : k < rs.length) :
    ∃ ad B c, A = some ad ∧ w.cell? (ad.add (k * 3)) = some (.int .i64 rs[k].kind) ∧ w.cell? ⟨(ad.add (k * 3)).block, (ad.add (k * 3)).off + 1, none⟩ = some (.int .i64 rs[k].head) ∧
      w.cell? ⟨(ad.add (k * 3)).block, (ad.add (k * 3)).off + 2, none⟩ = some (.slice B rs[k].body.length c) ∧ rs[k].body.length ≤ c ∧ rs[k].body.length ≤ 140737488355328 ∧ RcI w B rs[k].body := by
  obtain ⟨ad, cs, hA, ⟨v, rfl, B, c, rfl, h1, h2, h3⟩, hl, hc⟩ := h k hk
  have c0 := hc 0 _ rfl
  have c1 := hc 1 _ rfl
  have c2 := hc 2 _ rfl
  rw [Nat.add_zero] at c0
  rw [add_field _ _ _ (by omega)] at c1 c2
  exact ⟨ad, B, c, hA, c0, c1, c2, h1, h2, h3⟩
/-- A theory's value. -/
def RdTh (w : World) (V : Value) (T : Th) : Prop := ∃ vF vR vB, V = .agg #[.int .i64 T.lits, vF, vR, vB] ∧ RdLL w vF T.foes ∧ RdRs w vR T.rules ∧ RdLL w vB T.beats
theorem RdTh.ext {w w' : World} {V : Value} {T : Th} (h : RdTh w V T) (hb : Below w.heap.size w w') : RdTh w' V T := by
  obtain ⟨vF, vR, vB, rfl, h1, h2, h3⟩ := h
  exact ⟨vF, vR, vB, rfl, h1.ext llR_mono hb, h2.ext ruleR_mono hb, h3.ext llR_mono hb⟩

def memB (l : List Int) (x : Int) : Bool := l.contains x
theorem memB_true {l : List Int} {x : Int} : memB l x = true ↔ x ∈ l := by simp [memB]
theorem memB_false {l : List Int} {x : Int} : memB l x = false ↔ x ∉ l := by simp [memB]
def ltCount (l : List Int) (x : Int) : Nat := l.countP (· < x)
theorem int_eq {k : IntKind} {a b : Int} (h : a = b) : Value.int k a = Value.int k b := by rw [h]
end Go.Proofs.Lx
