/- Parts of the proof: La, Ca, Cb, Cc, Lb. Small words for the walks of this seat: a call that returns; a slice that reads as a list; a theory. No condition. -/
import Derived.WalkKit
import Derived.Handy
import Derived.Deep.LoopGhost
import Derived.Deep.QuietTactic
import Derived.BigQuiet
import Derived.Test.YtbidjiopnddldaaGreatProg
import Derived.Deep.OwnRows
import Derived.Laws.Rows
namespace Go.Proofs.Lx
open Go Go.RowKit

/-- The call returns a value of which Q holds. -/
def Ret (Q : Value → World → Prop) (e : Ending) (w' : World) : Prop := ∃ v, e = .returned v ∧ Q v w'
theorem Ret.mk {Q : Value → World → Prop} {v : Value} {w : World} (h : Q v w) : Ret Q (.returned v) w := ⟨v, rfl, h⟩
theorem Ret.mono {Q Q' : Value → World → Prop} {e : Ending} {w : World} (h : Ret Q e w) (hq : ∀ v w, Q v w → Q' v w) : Ret Q' e w := by
 obtain ⟨v, rfl, q⟩ := h
 exact ⟨v, rfl, hq _ _ q⟩
/-- The post behind a variable: the walk can't turn it. -/
theorem post_gen {P : Program} {f : FuncId} {args : Array Value} {w : World} {Q0 : Value → World → Prop} (h : ∀ Q : Value → World → Prop, Hid (∀ v w', Q0 v w' → Q v w') → Calls P f args w (Ret Q)) : Calls P f args w (Ret Q0) := h Q0 (fun _ _ q => q)
theorem Fin {Q0 Q : Value → World → Prop} (HQ : Hid (∀ v w', Q0 v w' → Q v w')) {v : Value} {w' : World} (h : Q0 v w') : Ret Q (.returned v) w' := ⟨v, rfl, HQ v w' h⟩
theorem hid {p : Prop} (h : p) : Hid p := h

/-- A function of the program that has a body. -/
def Enters (P : Program) (g : Nat) : Prop := ∀ args w, (callFunc g args).run P w = .ok (.enter g args) w

theorem enters_of {P : Program} {g : Nat} {fn : Func} (hf : P.funcs[g]? = some fn) (h1 : (fn.name == "runtime.NumGoroutine") = false) (h2 : fn.body.isNone = false) : Enters P g := by
 intro args w
 have h1' : fn.name ≠ "runtime.NumGoroutine" := by simpa using h1
 have h2' : fn.body ≠ none := by intro h; rw [h] at h2; simp at h2
 simp [callFunc, go_sem, hf, h1', h2']
theorem add_zero (ad : Addr) : ad.add 0 = ad := by simp [Addr.add]
theorem add_add (ad : Addr) (i j : Nat) : (ad.add i).add j = ad.add (i + j) := by
 unfold Addr.add
 by_cases hi : i = 0
 ·simp [hi]
 ·by_cases hj : j = 0
  ·simp [hi, hj]
  ·simp [hi, hj, Nat.add_assoc]
theorem add_field (ad : Addr) (i j : Nat) (hj : 0 < j) : ad.add (i + j) = ⟨(ad.add i).block, (ad.add i).off + j, none⟩ := by
 rw [← add_add]; generalize ad.add i = b
 unfold Addr.add; rw [if_neg (by omega)]
theorem add_plain (g j : Nat) : (⟨g, 0, none⟩ : Addr).add j = ⟨g, j, none⟩ := by unfold Addr.add; split <;> simp_all

theorem cell_ext {w w' : World} (hb : Below w.heap.size w w') {a : Addr} {v : Value} (h : w.cell? a = some v) : w'.cell? a = some v := (hb.cell (World.block_lt_of_cell? w a h)).trans h
theorem ext_trans {a b c : World} (h : Below a.heap.size a b) (k : Below b.heap.size b c) : Below a.heap.size a c := h.trans (k.mono h.size)
theorem ext_refl (w : World) : Below w.heap.size w w := Below.refl _ _
theorem ext_alloc (w : World) (o : Obj) : Below w.heap.size w (w.alloc o) := (Below.refl _ _).alloc (Nat.le_refl _) o
theorem ext_drewN (w : World) (n : Nat) : Below w.heap.size w (w.drewN n) := by
 induction n with
 | zero => exact Below.refl _ _
 | succ n ih => rw [← World.drew_drewN]; exact ih.drew
theorem base_trans {B : Nat} {a b c : World} (h : Below B a b) (hB : B ≤ b.heap.size) (k : Below b.heap.size b c) : Below B a c := h.trans (k.mono hB)

/-- The cells from A on read as xs, sz cells each, told by R. -/
def RdC {α : Type} (sz : Nat) (R : World → α → List Value → Prop) (w : World) (A : Option Addr) (xs : List α) : Prop :=
 ∀ i (h : i < xs.length), ∃ ad cs, A = some ad ∧ R w xs[i] cs ∧ cs.length = sz ∧ ∀ j u, cs[j]? = some u → w.cell? (ad.add (i * sz + j)) = some u
/-- A slice value that reads as xs. -/
def Rd {α : Type} (sz : Nat) (R : World → α → List Value → Prop) (w : World) (v : Value) (xs : List α) : Prop :=
 ∃ A c, v = .slice A xs.length c ∧ xs.length ≤ c ∧ xs.length ≤ 140737488355328 ∧ RdC sz R w A xs
def MonoR {α : Type} (R : World → α → List Value → Prop) : Prop := ∀ (w w' : World) (x : α) (cs : List Value), Below w.heap.size w w' → R w x cs → R w' x cs
theorem RdC.ext {α : Type} {sz : Nat} {R : World → α → List Value → Prop} (hR : MonoR R) {w w' : World} {A : Option Addr} {xs : List α} (h : RdC sz R w A xs) (hb : Below w.heap.size w w') : RdC sz R w' A xs := by
 intro i hi
 obtain ⟨ad, cs, hA, hr, hl, hc⟩ := h i hi
 exact ⟨ad, cs, hA, hR _ _ _ _ hb hr, hl, fun j u hu => cell_ext hb (hc j u hu)⟩
theorem Rd.ext {α : Type} {sz : Nat} {R : World → α → List Value → Prop} (hR : MonoR R) {w w' : World} {v : Value} {xs : List α} (h : Rd sz R w v xs) (hb : Below w.heap.size w w') : Rd sz R w' v xs := by
 obtain ⟨A, c, rfl, hc, hm, hr⟩ := h
 exact ⟨A, c, rfl, hc, hm, hr.ext hR hb⟩
theorem RdC.nil {α : Type} {sz : Nat} {R : World → α → List Value → Prop} {w : World} {A : Option Addr} : RdC sz R w A ([] : List α) := fun i h => absurd h (by simp)
theorem Rd.nil {α : Type} {sz : Nat} {R : World → α → List Value → Prop} {w : World} : Rd sz R w (.slice none 0 0) ([] : List α) := ⟨none, 0, rfl, by simp, by simp, RdC.nil⟩

/-- One cell: a scalar. -/
def scR {α : Type} (enc : α → Value) : World → α → List Value → Prop := fun _ x cs => cs = [enc x]
theorem scR_mono {α : Type} (enc : α → Value) : MonoR (scR enc) := fun _ _ _ _ _ h => h
/-- One cell: a slice. -/
def rowR {α : Type} (sz : Nat) (R : World → α → List Value → Prop) : World → List α → List Value → Prop := fun w xs cs => ∃ v, cs = [v] ∧ Rd sz R w v xs
theorem rowR_mono {α : Type} {sz : Nat} {R : World → α → List Value → Prop} (hR : MonoR R) : MonoR (rowR sz R) := fun _ _ _ _ hb ⟨v, e, h⟩ => ⟨v, e, h.ext hR hb⟩

theorem RdC.at1 {α : Type} {enc : α → Value} {w : World} {A : Option Addr} {xs : List α} (h : RdC 1 (scR enc) w A xs) {k : Nat} (hk : k < xs.length) :
  ∃ ad, A = some ad ∧ w.cell? (ad.add k) = some (enc xs[k]) := by
 obtain ⟨ad, cs, hA, hr, hl, hc⟩ := h k hk
 have := hc 0 (enc xs[k]) (by rw [hr]; rfl)
 exact ⟨ad, hA, by simpa using this⟩
theorem RdC.atRow {α : Type} {sz : Nat} {R : World → α → List Value → Prop} {w : World} {A : Option Addr} {xs : List (List α)} (h : RdC 1 (rowR sz R) w A xs) {k : Nat} (hk : k < xs.length) :
  ∃ ad B c, A = some ad ∧ w.cell? (ad.add k) = some (.slice B xs[k].length c) ∧ xs[k].length ≤ c ∧ xs[k].length ≤ 140737488355328 ∧ RdC sz R w B xs[k] := by
 obtain ⟨ad, cs, hA, ⟨v, rfl, B, c, rfl, h1, h2, h3⟩, hl, hc⟩ := h k hk
 have := hc 0 _ rfl
 exact ⟨ad, B, c, hA, by simpa using this, h1, h2, h3⟩
theorem RdC.atRowV {α : Type} {sz : Nat} {R : World → α → List Value → Prop} {w : World} {A : Option Addr} {xs : List (List α)} (h : RdC 1 (rowR sz R) w A xs) {k : Nat} (hk : k < xs.length) :
  ∃ ad v, A = some ad ∧ w.cell? (ad.add k) = some v ∧ Rd sz R w v xs[k] := by
 obtain ⟨ad, cs, hA, ⟨v, rfl, hv⟩, hl, hc⟩ := h k hk
 have := hc 0 _ rfl
 exact ⟨ad, v, hA, by simpa using this, hv⟩

abbrev RdI := Rd 1 (scR (Value.int .i64))
abbrev RdB := Rd 1 (scR Value.bool)
abbrev RdLL := Rd 1 (rowR 1 (scR (Value.int .i64)))
abbrev RcI := RdC 1 (scR (Value.int .i64))
abbrev RcLL := RdC 1 (rowR 1 (scR (Value.int .i64)))
theorem llR_mono : MonoR (rowR 1 (scR (Value.int .i64))) := rowR_mono (scR_mono _)

/-- A rule, a theory. -/
structure Rule where
 kind : Int
 head : Int
 body : List Int
structure Th where
 lits : Int
 foes : List (List Int)
 rules : List Rule
 beats : List (List Int)
instance : Inhabited Rule := ⟨⟨0, 0, []⟩⟩

def ruleR : World → Rule → List Value → Prop := fun w r cs => ∃ v, cs = [.int .i64 r.kind, .int .i64 r.head, v] ∧ RdI w v r.body
theorem ruleR_mono : MonoR ruleR := fun _ _ _ _ hb ⟨v, e, h⟩ => ⟨v, e, h.ext (scR_mono _) hb⟩
abbrev RdRs := Rd 3 ruleR
abbrev RcRs := RdC 3 ruleR
theorem RdC.atRule {w : World} {A : Option Addr} {rs : List Rule} (h : RcRs w A rs) {k : Nat} (hk : k < rs.length) :
  ∃ ad B c, A = some ad ∧ w.cell? (ad.add (k * 3)) = some (.int .i64 rs[k].kind) ∧ w.cell? ⟨(ad.add (k * 3)).block, (ad.add (k * 3)).off + 1, none⟩ = some (.int .i64 rs[k].head) ∧
   w.cell? ⟨(ad.add (k * 3)).block, (ad.add (k * 3)).off + 2, none⟩ = some (.slice B rs[k].body.length c) ∧ rs[k].body.length ≤ c ∧ rs[k].body.length ≤ 140737488355328 ∧ RcI w B rs[k].body := by
 obtain ⟨ad, cs, hA, ⟨v, rfl, B, c, rfl, h1, h2, h3⟩, hl, hc⟩ := h k hk
 have c0 := hc 0 _ rfl
 have c1 := hc 1 _ rfl
 have c2 := hc 2 _ rfl
 rw [Nat.add_zero] at c0
 rw [add_field _ _ _ (by omega)] at c1 c2
 exact ⟨ad, B, c, hA, c0, c1, c2, h1, h2, h3⟩
/-- A theory's value. -/
def RdTh (w : World) (V : Value) (T : Th) : Prop := ∃ vF vR vB, V = .agg #[.int .i64 T.lits, vF, vR, vB] ∧ RdLL w vF T.foes ∧ RdRs w vR T.rules ∧ RdLL w vB T.beats
theorem RdTh.ext {w w' : World} {V : Value} {T : Th} (h : RdTh w V T) (hb : Below w.heap.size w w') : RdTh w' V T := by
 obtain ⟨vF, vR, vB, rfl, h1, h2, h3⟩ := h
 exact ⟨vF, vR, vB, rfl, h1.ext llR_mono hb, h2.ext ruleR_mono hb, h3.ext llR_mono hb⟩

def memB (l : List Int) (x : Int) : Bool := l.contains x
theorem memB_true {l : List Int} {x : Int} : memB l x = true ↔ x ∈ l := by simp [memB]
theorem memB_false {l : List Int} {x : Int} : memB l x = false ↔ x ∉ l := by simp [memB]
def ltCount (l : List Int) (x : Int) : Nat := l.countP (· < x)
theorem int_eq {k : IntKind} {a b : Int} (h : a = b) : Value.int k a = Value.int k b := by rw [h]
end Go.Proofs.Lx

namespace Go.Proofs.Lx
open Go Go.RowKit

def idxOf (p : Int → Bool) (xs : List Int) : Int := match xs.findIdx? p with | some i => i | none => -1
theorem idxOf_nonneg (p : Int → Bool) (xs : List Int) : decide (0 ≤ idxOf p xs) = xs.any p := by
 unfold idxOf
 cases h : xs.findIdx? p with
 | none =>
  rw [List.findIdx?_eq_none_iff] at h
  simp only [Int.reduceNeg, show ¬ ((0 : Int) ≤ -1) by decide, decide_false]
  symm
  rw [List.any_eq_false]
  exact fun x hx => by simp [h x hx]
 | some i =>
  rw [List.findIdx?_eq_some_iff_getElem] at h
  obtain ⟨hi, hp, _⟩ := h
  simp only [Int.natCast_nonneg, decide_true]
  symm
  rw [List.any_eq_true]
  exact ⟨xs[i], List.getElem_mem hi, hp⟩

/-- What a function value over an int does: it answers p and turns nothing that is there. -/
def FunB (P : Program) (w : World) (g : Nat) (caps : Array Value) (p : Int → Bool) (x : Int) : Prop :=
 ∀ w1, Below w.heap.size w w1 → Calls P g ((#[Value.int .i64 x] : Array Value) ++ caps) w1 (Ret fun v w2 => v = .bool (p x) ∧ Below w1.heap.size w1 w2)

theorem indexFunc (w : World) (v : Value) (xs : List Int) (g : Nat) (caps : Array Value) (p : Int → Bool)
  (hg : Enters Tryz.prog g) (hv : RdI w v xs) (hf : ∀ x ∈ xs, FunB Tryz.prog w g caps p x) :
  Calls Tryz.prog 108 #[v, .func (.func g) #[] caps] w (Ret fun v w' => v = .int .i64 (idxOf p xs) ∧ Below w.heap.size w w') := by
 obtain ⟨A, c, rfl, hc, hb, hr⟩ := hv
 have hgo : ∀ args w, (callFunc g args).run Tryz.prog w = .ok (.enter g args) w := hg
 have Hf := hid hf
 clear hf
 go_enter Tryz.func108, Tryz.ntmps108
 go_wp2
 go_loopw [8] (fun v8 wr => ∃ k : Nat, k ≤ xs.length ∧ v8 = .int .i64 k ∧ Hid (∀ i (h : i < xs.length), i < k → p xs[i] = false) ∧ Below w.heap.size w wr) (fun v8 _ => xs.length - (intOf v8).toNat)
 case atStart => exact ⟨0, Nat.zero_le _, rfl, fun i h hk => absurd hk (by omega), Below.refl _ _⟩
 case round =>
  obtain ⟨k, hk, rfl, hno, hbl⟩ := hrel
  by_cases hlt : k < xs.length
  ·obtain ⟨ad, rfl, hcell⟩ := (hr.ext (scR_mono _) hbl).at1 hlt
   have hfk := Hf.out xs[k] (List.getElem_mem hlt) wr hbl
   go_wp2_with fail
   refine hfk.mono ?_
   rintro e w2 ⟨_, rfl, rfl, hb2⟩
   clear hfk
   cases hp : p xs[k] with
   | true =>
    have Hp := hid hp
    clear hp
    go_wp2
    go_ret
    refine ⟨_, rfl, ?_, hbl.trans (hb2.mono hbl.size)⟩
    have : xs.findIdx? p = some k := by
     rw [List.findIdx?_eq_some_iff_getElem]
     exact ⟨hlt, Hp.out, fun j hj => by simp [hno.out j (by omega) hj]⟩
    simp [idxOf, this]
   | false =>
    have Hp := hid hp
    clear hp
    go_wp2
    go_roundw
    case rel =>
     refine ⟨k + 1, by omega, by go_num, ?_, hbl.trans (hb2.mono hbl.size)⟩
     intro i h hi
     by_cases e : i = k
     ·subst e; exact Hp.out
     ·exact hno.out i h (by omega)
    case measure => simp [intOf]; omega
  ·go_wp2
   go_ret
   refine ⟨_, rfl, ?_, hbl⟩
   have : xs.findIdx? p = none := by
    rw [List.findIdx?_eq_none_iff]
    intro x hx
    obtain ⟨i, hi, rfl⟩ := List.getElem_of_mem hx
    exact hno.out i hi (by omega)
   simp [idxOf, this]

theorem containsFunc (w : World) (v : Value) (xs : List Int) (g : Nat) (caps : Array Value) (p : Int → Bool)
  (hg : Enters Tryz.prog g) (hv : RdI w v xs) (hf : ∀ x ∈ xs, FunB Tryz.prog w g caps p x) :
  Calls Tryz.prog 140 #[v, .func (.func g) #[] caps] w (Ret fun v w' => v = .bool (xs.any p) ∧ Below w.heap.size w w') := by
 have Hf := hid hf
 clear hf
 go_enter Tryz.func140, Tryz.ntmps140
 go_wp2_with fail
 refine (indexFunc w v xs g caps p hg hv Hf.out).mono ?_
 rintro e w2 ⟨_, rfl, rfl, hb2⟩
 have hi := idxOf_nonneg p xs
 generalize idxOf p xs = r at *
 have Hi := hid hi
 clear hi
 go_wp2
 go_ret
 exact ⟨_, rfl, by rw [← Hi.out]; rfl, hb2⟩

theorem index_any (w : World) (v : Value) (xs : List Int) (x : Int) (hv : RdI w v xs) :
  Calls Tryz.prog 74 #[v, .int .i64 x] w (Ret fun v w' => v = .int .i64 (idxOf (fun y => x == y) xs) ∧ w' = w) := by
 obtain ⟨A, c, rfl, hc, hb, hr⟩ := hv
 go_enter Tryz.func74, Tryz.ntmps74
 go_wp2
 go_loop [8] (fun v8 => ∃ k : Nat, k ≤ xs.length ∧ v8 = .int .i64 k ∧ Hid (∀ i (h : i < xs.length), i < k → (x == xs[i]) = false)) (fun v8 => xs.length - (intOf v8).toNat)
 case atStart => exact ⟨0, Nat.zero_le _, rfl, fun i h hk => absurd hk (by omega)⟩
 case round =>
  obtain ⟨k, hk, rfl, hno⟩ := hrel
  by_cases hlt : k < xs.length
  ·obtain ⟨ad, rfl, hcell⟩ := hr.at1 hlt
   cases hp : (x == xs[k]) with
   | true =>
    go_wp2
    go_ret
    refine ⟨_, rfl, ?_, rfl⟩
    have : xs.findIdx? (fun y => x == y) = some k := by
     rw [List.findIdx?_eq_some_iff_getElem]
     exact ⟨hlt, hp, fun j hj => by simp only [hno.out j (by omega) hj]; simp⟩
    simp [idxOf, this]
   | false =>
    go_wp2
    go_round
    case rel =>
     refine ⟨k + 1, by omega, by go_num, ?_⟩
     intro i h hi
     by_cases e : i = k
     ·subst e; exact hp
     ·exact hno.out i h (by omega)
    case measure => simp [intOf]; omega
  ·go_wp2
   go_ret
   refine ⟨_, rfl, ?_, rfl⟩
   have : xs.findIdx? (fun y => x == y) = none := by
    rw [List.findIdx?_eq_none_iff]
    intro y hx
    obtain ⟨i, hi, rfl⟩ := List.getElem_of_mem hx
    exact hno.out i hi (by omega)
   simp [idxOf, this]

theorem contains_any (w : World) (v : Value) (xs : List Int) (x : Int) (hv : RdI w v xs) :
  Calls Tryz.prog 48 #[v, .int .i64 x] w (Ret fun v w' => v = .bool (memB xs x) ∧ w' = w) := by
 go_enter Tryz.func48, Tryz.ntmps48
 go_wp2_with fail
 refine (index_any w v xs x hv).mono ?_
 rintro e w2 ⟨_, rfl, rfl, rfl⟩
 have hi := idxOf_nonneg (fun y => x == y) xs
 generalize idxOf (fun y => x == y) xs = r at *
 have Hi := hid hi
 clear hi
 go_wp2
 go_ret
 exact ⟨_, rfl, by rw [memB, List.contains_eq_any_beq, ← Hi.out]; rfl, rfl⟩

theorem cmpIsNaN_any (x : Int) (w : World) : Calls Tryz.prog 84 #[.int .i64 x] w (Ret fun v w' => v = .bool false ∧ w' = w) := by
 go_enter Tryz.func84, Tryz.ntmps84
 go_wp2
 go_ret
 exact ⟨_, rfl, by simp, rfl⟩
theorem isNaN_any (x : Int) (w : World) : Calls Tryz.prog 68 #[.int .i64 x] w (Ret fun v w' => v = .bool false ∧ w' = w) := by
 go_enter Tryz.func68, Tryz.ntmps68
 go_wp2
 go_ret
 exact ⟨_, rfl, by simp, rfl⟩
theorem less_any (x y : Int) (w : World) : Calls Tryz.prog 67 #[.int .i64 x, .int .i64 y] w (Ret fun v w' => v = .bool (decide (x < y)) ∧ w' = w) := by
 go_enter Tryz.func67, Tryz.ntmps67
 go_wp2_with (go_at_call 84; refine (cmpIsNaN_any _ _).mono ?_; rintro e w' ⟨_, rfl, rfl, rfl⟩)
 go_ret
 exact ⟨_, rfl, by simp, rfl⟩
end Go.Proofs.Lx

namespace Go.Proofs.Lx
open Go Go.RowKit

def risOk (l : List Int) (n : Int) (i : Nat) : Bool := decide (0 ≤ l.getD i 0) && decide (l.getD i 0 < n) && (decide (i = 0) || decide (l.getD (i - 1) 0 < l.getD i 0))
def risB (l : List Int) (n : Int) : Bool := (List.range l.length).all (risOk l n)
theorem risB_true {l : List Int} {n : Int} : risB l n = true ↔ ∀ i, i < l.length → risOk l n i = true := by simp [risB]
theorem risB_false {l : List Int} {n : Int} {i : Nat} (h : i < l.length) (hf : risOk l n i = false) : risB l n = false := by
  rw [Bool.eq_false_iff]; intro ht
  rw [risB_true.1 ht i h] at hf; cases hf

set_option maxHeartbeats 400000 in
theorem rising_any (w : World) (v : Value) (l : List Int) (n : Int) (hv : RdI w v l) :
   Calls Tryz.prog 73 #[v, .int .i64 n] w (Ret fun v w' => v = .bool (risB l n) ∧ w' = w) := by
  obtain ⟨A, c, rfl, hc, hb, hr⟩ := hv
  go_enter Tryz.func73, Tryz.ntmps73
  go_wp2
  go_loop [9] (fun v9 => ∃ k : Nat, k ≤ l.length ∧ v9 = .int .i64 k ∧ Hid (∀ i, i < k → risOk l n i = true)) (fun v9 => l.length - (intOf v9).toNat)
  case atStart => exact ⟨0, Nat.zero_le _, rfl, fun i hk => absurd hk (by omega)⟩
  case round =>
    obtain ⟨k, hk, rfl, hno⟩ := hrel
    by_cases hlt : k < l.length
    · obtain ⟨ad, rfl, hcell⟩ := hr.at1 hlt
      have hg : l[k] = l.getD k 0 := by simp [hlt]
      by_cases h0 : 0 < k
      · obtain ⟨ad', e', hcell'⟩ := hr.at1 (k := k - 1) (by omega)
        cases e'
        have hk1 : ((k : Int) - 1).toNat = k - 1 := by omega
        have hg' : l[k - 1] = l.getD (k - 1) 0 := by simp [show k - 1 < l.length by omega]
        have Hok : Hid (risOk l n k = (decide (0 ≤ l[k]) && decide (l[k] < n) && decide (l[k - 1] < l[k]))) := by rw [hg, hg']; simp [Hid, risOk, show k ≠ 0 by omega]
        clear hg hg'
        generalize l[k] = x at *
        generalize l[k - 1] = y at *
        go_wp2
        all_goals first
          | (go_ret; exact ⟨_, rfl, by rw [risB_false hlt (by rw [Hok.out]; simp; omega)]; rfl, rfl⟩)
          | (go_round
             case rel =>
               refine ⟨k + 1, by omega, by go_num, fun i hi => ?_⟩
               by_cases e : i = k
               · subst e; rw [Hok.out]; simp; omega
               · exact hno.out i (by omega)
             case measure => simp [intOf]; omega)
      · have Hok : Hid (risOk l n k = (decide (0 ≤ l[k]) && decide (l[k] < n))) := by rw [hg]; simp [Hid, risOk, show k = 0 by omega]
        clear hg
        generalize l[k] = x at *
        go_wp2
        all_goals first
          | (go_ret; exact ⟨_, rfl, by rw [risB_false hlt (by rw [Hok.out]; simp; omega)]; rfl, rfl⟩)
          | (go_round
             case rel =>
               refine ⟨k + 1, by omega, by go_num, fun i hi => ?_⟩
               by_cases e : i = k
               · subst e; rw [Hok.out]; simp; omega
               · exact hno.out i (by omega)
             case measure => simp [intOf]; omega)
    · go_wp2
      go_ret
      exact ⟨_, rfl, by rw [risB_true.2 (fun i hi => hno.out i (by omega))]; rfl, rfl⟩

theorem pw_lt {l : List Int} (hs : l.Pairwise (· < ·)) {i j : Nat} (hi : i < j) (hj : j < l.length) : l[i] < l[j] := List.pairwise_iff_getElem.1 hs i j (by omega) hj hi
theorem countP_at {l : List Int} {x : Int} {i : Nat} (hi : i ≤ l.length) (h1 : ∀ t (h : t < l.length), t < i → l[t] < x) (h2 : ∀ t (h : t < l.length), i ≤ t → x ≤ l[t]) : l.countP (· < x) = i := by
  rw [← List.take_append_drop i l, List.countP_append]
  have e1 : (l.take i).countP (· < x) = i := by
    rw [List.countP_eq_length.2]
    · simp; omega
    · intro y hy
      obtain ⟨t, ht, rfl⟩ := List.getElem_of_mem hy
      simp at ht ⊢
      exact h1 t (by omega) (by omega)
  have e2 : (l.drop i).countP (· < x) = 0 := by
    rw [List.countP_eq_zero]
    intro y hy
    obtain ⟨t, ht, rfl⟩ := List.getElem_of_mem hy
    simp at ht ⊢
    exact h2 (i + t) (by omega) (by omega)
  omega

set_option maxHeartbeats 400000 in
theorem binarySearch_any (w : World) (v : Value) (l : List Int) (x : Int) (hv : RdI w v l) (hs : l.Pairwise (· < ·)) :
   Calls Tryz.prog 40 #[v, .int .i64 x] w (Ret fun v w' => v = .tuple #[.int .i64 (ltCount l x : Nat), .bool (memB l x)] ∧ w' = w) := by
  obtain ⟨A, c, rfl, hc, hb, hr⟩ := hv
  have Hs := hid hs
  clear hs
  refine post_gen fun Q HQ => ?_
  go_enter Tryz.func40, Tryz.ntmps40
  go_wp2
  go_loop [7, 8] (fun v7 v8 => ∃ i j : Nat, i ≤ j ∧ j ≤ l.length ∧ v7 = .int .i64 i ∧ v8 = .int .i64 j ∧ Hid ((∀ t (h : t < l.length), t < i → l[t] < x) ∧ (∀ t (h : t < l.length), j ≤ t → x ≤ l[t]))) (fun v7 v8 => (intOf v8).toNat - (intOf v7).toNat)
  case atStart => exact ⟨0, l.length, by omega, by omega, rfl, rfl, fun t h ht => absurd ht (by omega), fun t h ht => absurd ht (by omega)⟩
  case round =>
    obtain ⟨i, j, hij, hj, rfl, rfl, hinv⟩ := hrel
    by_cases hlt : i < j
    · have hh : (i + j) / 2 < l.length := by omega
      obtain ⟨ad, rfl, hcell⟩ := hr.at1 hh
      go_wp2_with fail
      refine (less_any _ _ _).mono ?_
      rintro e w' ⟨_, rfl, rfl, rfl⟩
      cases hcmp : decide (l[(i + j) / 2] < x) with
      | true =>
        have Hc := hid (of_decide_eq_true hcmp)
        clear hcmp
        generalize hm : (i + j) / 2 = m at *
        have hm1 : i ≤ m ∧ m < j := by omega
        have Hm := hid hm
        clear hm
        go_wp2
        go_round
        case rel =>
          refine ⟨m + 1, j, by omega, by omega, ?_, rfl, ?_, hinv.out.2⟩
          · have : ((i : Int) + j) / 2 = m := by have := Hm.out; omega
            rw [this]; rfl
          · intro t h ht
            by_cases e : t = m
            · subst e; exact Hc.out
            · have h1 : l[t] < l[m] := pw_lt Hs.out (by omega) hh
              have h2 := Hc.out
              omega
        case measure =>
          have := Hm.out
          simp [intOf]; omega
      | false =>
        have Hc := hid (of_decide_eq_false hcmp)
        clear hcmp
        generalize hm : (i + j) / 2 = m at *
        have hm1 : i ≤ m ∧ m < j := by omega
        have Hm := hid hm
        clear hm
        go_wp2
        go_round
        case rel =>
          refine ⟨i, m, by omega, by omega, rfl, ?_, hinv.out.1, ?_⟩
          · have : ((i : Int) + j) / 2 = m := by have := Hm.out; omega
            rw [this]
          · intro t h ht
            have h2 := Hc.out
            by_cases e : t = m
            · subst e; omega
            · have h1 : l[m] < l[t] := pw_lt Hs.out (by omega) h
              omega
        case measure =>
          have := Hm.out
          simp [intOf]; omega
    · obtain rfl : i = j := by omega
      have Hcnt : Hid (ltCount l x = i) := countP_at hj hinv.out.1 hinv.out.2
      by_cases hil : i < l.length
      · obtain ⟨ad, rfl, hcell⟩ := hr.at1 hil
        cases hx : (l[i] == x) with
        | true =>
          have Hin : Hid (memB l x = true) := by
            simp only [Hid, memB_true]
            rw [← eq_of_beq hx]; exact List.getElem_mem hil
          go_wp2_with (go_at_call 68; refine (isNaN_any _ _).mono ?_; rintro e w' ⟨_, rfl, rfl, rfl⟩)
          go_ret2
          exact Fin HQ ⟨by rw [Hcnt.out, Hin.out]; rfl, rfl⟩
        | false =>
          have Hin : Hid (memB l x = false) := by
            rw [Hid, memB_false]
            intro hm
            obtain ⟨t, ht, e⟩ := List.getElem_of_mem hm
            have h1 := hinv.out.1 t ht
            have h2 : l[i] ≠ x := by simpa using hx
            have h3 := hinv.out.2 i hil (Nat.le_refl _)
            by_cases e1 : t < i
            · have := h1 e1; omega
            · by_cases e2 : t = i
              · subst e2; exact h2 e
              · have := pw_lt Hs.out (show i < t by omega) ht
                omega
          go_wp2_with (go_at_call 68; refine (isNaN_any _ _).mono ?_; rintro e w' ⟨_, rfl, rfl, rfl⟩)
          go_ret2
          exact Fin HQ ⟨by rw [Hcnt.out, Hin.out]; rfl, rfl⟩
      · have Hin : Hid (memB l x = false) := by
          rw [Hid, memB_false]
          intro hm
          obtain ⟨t, ht, e⟩ := List.getElem_of_mem hm
          have := hinv.out.1 t ht (by omega)
          omega
        go_wp2
        go_ret2
        exact Fin HQ ⟨by rw [Hcnt.out, Hin.out]; rfl, rfl⟩

theorem has_any (w : World) (v : Value) (l : List Int) (x : Int) (hv : RdI w v l) (hs : l.Pairwise (· < ·)) :
   Calls Tryz.prog 105 #[v, .int .i64 x] w (Ret fun v w' => v = .bool (memB l x) ∧ w' = w) := by
  refine post_gen fun Q HQ => ?_
  go_enter Tryz.func105, Tryz.ntmps105
  go_wp2_with (go_at_call 40; refine (binarySearch_any _ _ _ _ hv hs).mono ?_; rintro e w' ⟨_, rfl, rfl, rfl⟩)
  go_ret
  exact Fin HQ ⟨rfl, rfl⟩
end Go.Proofs.Lx

namespace Go.Proofs.Lx
open Go Go.RowKit
set_option linter.unusedSimpArgs false
set_option linter.unusedVariables false

theorem risB_spec {l : List Int} {n : Int} (h : risB l n = true) : (∀ i (hi : i < l.length), 0 ≤ l[i] ∧ l[i] < n) ∧ l.Pairwise (· < ·) := by
 rw [risB_true] at h
 constructor
 ·intro i hi
  have := h i hi
  simp [risOk, hi] at this
  omega
 ·rw [List.pairwise_iff_getElem]
  intro i j hi hj hij
  induction j with
  | zero => omega
  | succ j ih =>
   have := h (j + 1) hj
   simp [risOk, hj, show j < l.length by omega] at this
   by_cases e : i = j
   ·subst e; omega
   ·have := ih (by omega) (by omega); omega
theorem risB_of {l : List Int} {n : Int} (h : ∀ i (hi : i < l.length), 0 ≤ l[i] ∧ l[i] < n) (hp : l.Pairwise (· < ·)) : risB l n = true := by
 rw [risB_true]
 intro i hi
 have h1 := h i hi
 simp only [risOk, List.getD_eq_getElem?_getD, List.getElem?_eq_getElem hi, Option.getD_some, Bool.and_eq_true, decide_eq_true_eq, Bool.or_eq_true]
 refine ⟨h1, ?_⟩
 by_cases e : i = 0
 ·exact .inl e
 ·right
  rw [List.getElem?_eq_getElem (show i - 1 < l.length by omega), Option.getD_some]
  exact pw_lt hp (by omega) hi

def row (t : List (List Int)) (i : Int) : List Int := t.getD i.toNat []
theorem row_at {t : List (List Int)} {i : Int} (h0 : 0 ≤ i) (h : i < t.length) : row t i = t[i.toNat] := by
 simp [row, show i.toNat < t.length by omega]
def foesOk (T : Th) (q : Nat) : Bool := decide ((T.foes.getD q []).length ≤ 64) && risB (T.foes.getD q []) T.lits && !memB (T.foes.getD q []) q && (T.foes.getD q []).all fun f => memB (row T.foes f) q
def foesAll (T : Th) : Bool := (List.range T.foes.length).all (foesOk T)
theorem foesAll_true {T : Th} : foesAll T = true ↔ ∀ q, q < T.foes.length → foesOk T q = true := by simp [foesAll]
theorem foesAll_false {T : Th} {q : Nat} (h : q < T.foes.length) (hf : foesOk T q = false) : foesAll T = false := by
 rw [Bool.eq_false_iff]; intro ht
 rw [foesAll_true.1 ht q h] at hf; cases hf

set_option maxHeartbeats 800000 in
theorem foes_any (w : World) (V : Value) (T : Th) (hT : RdTh w V T) (hl : (T.foes.length : Int) = T.lits) :
  Calls Tryz.prog 91 #[V] w (Ret fun v w' => (∃ r : Int, v = .int .i64 r ∧ (r < 0 ↔ foesAll T = true)) ∧ Below w.heap.size w w') := by
 obtain ⟨vF, vR, vB, rfl, ⟨A, c, rfl, hc, hb, hr⟩, _, _⟩ := hT
 have hbel := ext_alloc w (.cells #[.int .i64 T.lits, .slice A T.foes.length c, vR, vB] 25)
 have hr1 := hr.ext llR_mono hbel
 have Hl := hid hl
 clear hr hl
 refine post_gen fun Q HQ => ?_
 go_enter Tryz.func91, Tryz.ntmps91
 go_wp2
 go_loop [10] (fun v10 => ∃ k : Nat, k ≤ T.foes.length ∧ v10 = .int .i64 k ∧ Hid (∀ i, i < k → foesOk T i = true)) (fun v10 => T.foes.length - (intOf v10).toNat)
 case atStart => exact ⟨0, Nat.zero_le _, rfl, fun i hk => absurd hk (by omega)⟩
 case round =>
  obtain ⟨k, hk, rfl, hno⟩ := hrel
  by_cases hlt : k < T.foes.length
  ·obtain ⟨ad, B, cB, rfl, hcell, hcB, hbB, hrB⟩ := hr1.atRow hlt
   have Hg : Hid (T.foes.getD k [] = T.foes[k]) := by simp [Hid, hlt]
   have Hbad : ∀ r : Int, 0 ≤ r → foesOk T k = false → ∃ r', Value.int .i64 r = .int .i64 r' ∧ (r' < 0 ↔ foesAll T = true) := fun r h0 hf => ⟨r, rfl, by rw [foesAll_false hlt hf]; simp; omega⟩
   have Hbad := hid Hbad
   generalize hL : T.foes[k] = L at *
   have HL := hid hL
   clear hL
   by_cases h64 : 64 < L.length
   ·go_wp2_with fail
    go_ret
    exact Fin HQ ⟨Hbad.out k (by omega) (by simp only [foesOk, Hg.out]; rw [decide_eq_false (by omega)]; simp), hbel⟩
   ·have hRL : RdI (w.alloc (.cells #[.int .i64 T.lits, .slice (some ad) T.foes.length c, vR, vB] 25)) (.slice B L.length cB) L := ⟨B, cB, rfl, hcB, hbB, hrB⟩
    cases hris : risB L T.lits with
    | false =>
     have Hris := hid hris
     go_wp2_with (go_at_call 73; refine (rising_any _ _ _ _ hRL).mono ?_; rintro e w' ⟨_, rfl, rfl, rfl⟩)
     go_ret
     exact Fin HQ ⟨Hbad.out k (by omega) (by simp only [foesOk, Hg.out]; rw [Hris.out]; simp), hbel⟩
    | true =>
     have Hris := hid hris
     have Hsp := hid (risB_spec hris)
     cases hmem : memB L k with
     | true =>
      have Hmem := hid hmem
      go_wp2_with (first
       | (go_at_call 73; refine (rising_any _ _ _ _ hRL).mono ?_; rintro e w' ⟨_, rfl, rfl, rfl⟩)
       | (go_at_call 105; refine (has_any _ _ _ _ hRL Hsp.out.2).mono ?_; rintro e w' ⟨_, rfl, rfl, rfl⟩))
      go_ret
      exact Fin HQ ⟨Hbad.out k (by omega) (by simp only [foesOk, Hg.out]; rw [Hmem.out]; simp), hbel⟩
     | false =>
      have Hmem := hid hmem
      go_wp2_with (first
       | (go_at_call 73; refine (rising_any _ _ _ _ hRL).mono ?_; rintro e w' ⟨_, rfl, rfl, rfl⟩)
       | (go_at_call 105; refine (has_any _ _ _ _ hRL Hsp.out.2).mono ?_; rintro e w' ⟨_, rfl, rfl, rfl⟩))
      clear hris hmem
      go_loop [33] (fun v33 => ∃ j : Nat, j ≤ L.length ∧ v33 = .int .i64 j ∧ Hid (∀ i (h : i < L.length), i < j → memB (row T.foes L[i]) k = true)) (fun v33 => L.length - (intOf v33).toNat)
      case atStart => exact ⟨0, Nat.zero_le _, rfl, fun i h hk => absurd hk (by omega)⟩
      case round =>
       obtain ⟨j, hj, rfl, hin⟩ := hrel
       by_cases hjl : j < L.length
       ·obtain ⟨adb, rfl, hcj⟩ := hrB.at1 hjl
        have hrange := Hsp.out.1 j hjl
        have hfl : L[j].toNat < T.foes.length := by have := Hl.out; omega
        obtain ⟨ad2, C2, c2, e2, hcell2, hc2, hb2, hr2⟩ := hr1.atRow hfl
        cases e2
        have Hrow : Hid (T.foes[L[j].toNat] = row T.foes L[j]) := (row_at hrange.1 (by have := Hl.out; omega)).symm
        have h3 : L[j] < T.foes.length := by have := Hl.out; omega
        have hR2 : RdI (w.alloc (.cells #[.int .i64 T.lits, .slice (some ad) T.foes.length c, vR, vB] 25)) (.slice C2 T.foes[L[j].toNat].length c2) T.foes[L[j].toNat] := ⟨C2, c2, rfl, hc2, hb2, hr2⟩
        generalize hX : L[j] = X at *
        have HX := hid hX
        clear hX
        generalize hY : T.foes[X.toNat] = Y at *
        have HY := hid hY
        clear hY
        cases hm2 : memB Y k with
        | false =>
         have Hm2 := hid hm2
         go_wp2_with (go_at_call 48; refine (contains_any _ _ _ _ hR2).mono ?_; rintro e w' ⟨_, rfl, rfl, rfl⟩)
         go_ret
         refine Fin HQ ⟨Hbad.out k (by omega) ?_, hbel⟩
         simp only [foesOk, Hg.out]
         rw [show (L.all fun f => memB (row T.foes f) k) = false from by
          rw [List.all_eq_false]; exact ⟨L[j], List.getElem_mem hjl, by rw [HX.out, ← Hrow.out, Hm2.out]; simp⟩]
         simp
        | true =>
         have Hm2 := hid hm2
         go_wp2_with (go_at_call 48; refine (contains_any _ _ _ _ hR2).mono ?_; rintro e w' ⟨_, rfl, rfl, rfl⟩)
         go_round
         case rel =>
          refine ⟨j + 1, by omega, by go_num, fun i h hi => ?_⟩
          by_cases e : i = j
          ·subst e; rw [HX.out, ← Hrow.out, Hm2.out]
          ·exact hin.out i h (by omega)
         case measure => simp [intOf]; omega
       ·go_wp2
        go_round
        case rel =>
         refine ⟨k + 1, by omega, by go_num, fun i hi => ?_⟩
         by_cases e : i = k
         ·subst e
          simp only [foesOk, Hg.out, Hris.out, Hmem.out]
          simp only [decide_eq_true (show L.length ≤ 64 by omega), Bool.not_false, Bool.and_self, Bool.true_and]
          rw [List.all_eq_true]
          intro f hf
          obtain ⟨t, ht, rfl⟩ := List.getElem_of_mem hf
          exact hin.out t ht (by omega)
         ·exact hno.out i (by omega)
        case measure => simp [intOf]; omega
  ·go_wp2
   go_ret
   exact Fin HQ ⟨⟨-1, rfl, by simp only [show ((-1 : Int) < 0) by decide, true_iff]; exact foesAll_true.2 fun q hq => hno.out q (by omega)⟩, hbel⟩
end Go.Proofs.Lx

namespace Go.Proofs.Lx
open Go Go.RowKit

/-- Block g holds just these cells. -/
def Arr {α : Type} (enc : α → Value) (e : TypeId) (w : World) (g : Nat) (xs : List α) : Prop := w.heap[g]? = some (.cells (xs.map enc).toArray e (0, 0))
section
variable {α : Type} {enc : α → Value} {e : TypeId} {w w' : World} {g : Nat} {xs : List α}
theorem Arr.lt (h : Arr enc e w g xs) : g < w.heap.size := lt_of_block h
theorem Arr.cell (h : Arr enc e w g xs) {i : Nat} (hi : i < xs.length) : w.cell? ⟨g, i, none⟩ = some (enc xs[i]) := by
 rw [cell_of_row w g i _ e _ h]; simp [hi]
theorem Arr.free (h : Arr enc e w g xs) (i : Nat) : w.frozen? ⟨g, i, none⟩ = false := frozen_of_row w g i _ e h
theorem Arr.set (h : Arr enc e w g xs) (i : Nat) (x : α) : Arr enc e (w.setCell ⟨g, i, none⟩ (enc x)) g (xs.set i x) := by
 unfold Arr
 rw [heap_setCell_same w g i _ e _ h]
 simp [List.map_set]
theorem Arr.other (h : Arr enc e w g xs) {a : Addr} (hne : g ≠ a.block) (u : Value) : Arr enc e (w.setCell a u) g xs := (heap_setCell_other w a g u hne).trans h
theorem Arr.alloc (h : Arr enc e w g xs) (o : Obj) : Arr enc e (w.alloc o) g xs := (Below.heap_alloc w o g h.lt).trans h
theorem Arr.drew (h : Arr enc e w g xs) : Arr enc e w.drew g xs := h
theorem Arr.drewN (h : Arr enc e w g xs) (n : Nat) : Arr enc e (w.drewN n) g xs := by
 induction n with
 | zero => exact h
 | succ n ih => rw [← World.drew_drewN]; exact ih
theorem Arr.below {B : Nat} (h : Arr enc e w g xs) (hb : Below B w w') (hB : g < B) : Arr enc e w' g xs := (hb.block g hB).trans h
theorem Arr.ext (h : Arr enc e w g xs) (hb : Below w.heap.size w w') : Arr enc e w' g xs := h.below hb h.lt
theorem Arr.reads (h : Arr enc e w g xs) (hl : xs.length ≤ 140737488355328) (c : Nat) (hc : xs.length ≤ c) : Rd 1 (scR enc) w (.slice (some ⟨g, 0, none⟩) xs.length c) xs := by
 refine ⟨_, c, rfl, hc, hl, fun i hi => ⟨_, _, rfl, rfl, rfl, fun j u hu => ?_⟩⟩
 match j, hu with
 | 0, hu =>
  simp at hu; subst hu
  rw [add_plain]; simpa using h.cell hi
end
theorem below_drewN {B : Nat} {w W : World} (h : Below B w W) (n : Nat) : Below B w (W.drewN n) := by
 induction n with
 | zero => exact h
 | succ n ih => rw [← World.drew_drewN]; exact ih.drew

/-- A box that was laid first. -/
theorem box_cell {w wr : World} {cs : Array Value} {t : TypeId} (h : Below (w.heap.size + 1) (w.alloc (.cells cs t)) wr) (i : Nat) : wr.cell? ⟨w.heap.size, i, none⟩ = cs[i]? := by
 have hb : wr.heap[w.heap.size]? = some (.cells cs t (0, 0)) := (h.block _ (by omega)).trans (heap_alloc_new w _)
 exact cell_of_row wr _ i cs t _ hb
/-- make([]T, n): its block. -/
theorem made_arr {α : Type} (enc : α → Value) (z : α) (e : TypeId) (w : World) (n : Nat) : Arr enc e (w.alloc (.cells (madeCells #[enc z] n) e)) w.heap.size (List.replicate n z) := by
 unfold Arr
 rw [heap_alloc_new]
 congr 2
 rw [← Array.toList_inj, toList_madeCells_one]; simp
end Go.Proofs.Lx
