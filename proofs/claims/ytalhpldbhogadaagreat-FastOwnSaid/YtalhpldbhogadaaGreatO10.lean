/- Parts of the proof: Em, Ea. The fast engine as plain functions: its state and its steps. No condition. -/
import Derived.Test.YtalhpldbhogadaaGreatO1
import Derived.Test.YtalhpldbhogadaaGreatO7
import Derived.Test.YtalhpldbhogadaaGreatO9
import Derived.Test.YtalhpldbhogadaaGreatO8
namespace Go.Proofs.Lx
open Go Go.RowKit Go.Proofs.Tj

/-- What changes while the engine works. -/
structure Dyn where
 marks : Nat → Nat
 told : List (Nat × Nat)
 queued : Int
 upd : Int
 needD : Nat → Int
 need : Nat → Int
 deadD : Nat → Bool
 dead : Nat → Bool
 strict : Nat → Int
 backs : Nat → Int
 backed : Nat → Bool
 opn : Nat → Int
 clash : Nat → Bool
 attacks : Nat → Int
 standing : Nat → Bool
 settled : Nat → Bool
 left : Nat → Int
/-- What stays. -/
structure Stc where
 n : Nat
 m : Nat
 P : Nat
 kind : Nat → Int
 head : Nat → Nat
 bodyLen : Nat → Nat
 foes : Nat → List Nat
 inn : Nat → List Nat
 pq : Nat → Nat
 ps : Nat → Nat
 ofs : Nat → List Nat
 beats : Nat → List Nat
 first : Nat

def addW (x k : Int) : Int := wrap64 (x + k)
def subW (x k : Int) : Int := wrap64 (x - k)
section
variable (S : Stc)
def hasT (D : Dyn) (q tag : Nat) : Bool := (D.marks q).testBit (tag - 1)
def tellD (D : Dyn) (q tag : Nat) : Dyn :=
 if hasT D q tag = true then D else { D with marks := Tj.upd D.marks q (D.marks q ||| 2 ^ (tag - 1)), told := D.told ++ [(q, tag)], queued := addW D.queued 1, upd := addW D.upd 2 }
def lookA (D : Dyn) (q : Nat) : Bool := hasT D q 1 || (D.backed q && D.opn q == 0 && D.attacks q == 0)
def lookB (D : Dyn) (q : Nat) : Bool := hasT D q 2 && (D.backs q == 0 || D.clash q || D.standing q)
def look1 (D : Dyn) (q : Nat) : Dyn := if lookA D q = true then tellD D q 3 else D
def look2 (D : Dyn) (q : Nat) : Dyn := if lookB D q = true then tellD D q 4 else D
def lookD (D : Dyn) (q : Nat) : Dyn := look2 (look1 D q) q
def tick (D : Dyn) (k : Int) : Dyn := { D with upd := addW D.upd k }
def setSettled (D : Dyn) (p : Nat) : Dyn := { D with settled := Tj.upd D.settled p true }
def decAttacks (D : Dyn) (q : Nat) : Dyn := { D with attacks := Tj.upd D.attacks q (subW (D.attacks q) 1) }
def setStanding (D : Dyn) (q : Nat) : Dyn := { D with standing := Tj.upd D.standing q true }
def setBacked (D : Dyn) (q : Nat) : Dyn := { D with backed := Tj.upd D.backed q true }
def setClash (D : Dyn) (q : Nat) : Dyn := { D with clash := Tj.upd D.clash q true }
def setDead (D : Dyn) (r : Nat) : Dyn := { D with dead := Tj.upd D.dead r true }
def setDeadD (D : Dyn) (r : Nat) : Dyn := { D with deadD := Tj.upd D.deadD r true }
def decNeed (D : Dyn) (r : Nat) : Dyn := { D with need := Tj.upd D.need r (subW (D.need r) 1) }
def decNeedD (D : Dyn) (r : Nat) : Dyn := { D with needD := Tj.upd D.needD r (subW (D.needD r) 1) }
def decStrict (D : Dyn) (q : Nat) : Dyn := { D with strict := Tj.upd D.strict q (subW (D.strict q) 1) }
def decBacks (D : Dyn) (q : Nat) : Dyn := { D with backs := Tj.upd D.backs q (subW (D.backs q) 1) }
def decOpn (D : Dyn) (q : Nat) : Dyn := { D with opn := Tj.upd D.opn q (subW (D.opn q) 1) }
def decLeft (D : Dyn) (p : Nat) : Dyn := { D with left := Tj.upd D.left p (subW (D.left p) 1) }
def settleD (D : Dyn) (p : Nat) : Dyn := if D.settled p = true then D else lookD (tick (decAttacks (setSettled D p) (S.pq p)) 2) (S.pq p)
def standB (D : Dyn) (p : Nat) : Bool := D.need (S.ps p) == 0 && D.left p == 0 && !D.standing (S.pq p)
def standD (D : Dyn) (p : Nat) : Dyn := if standB S D p = true then lookD (tick (setStanding D (S.pq p)) 1) (S.pq p) else D
def supR (r : Nat) : Bool := S.kind r != 3
def strR (r : Nat) : Bool := S.kind r == 1
def fire1 (D : Dyn) (r : Nat) : Dyn :=
 if supR S r = true then lookD ((S.beats r).foldl (settleD S) (if D.backed (S.head r) = true then D else tick (setBacked D (S.head r)) 1)) (S.head r) else D
def fireD (D : Dyn) (r : Nat) : Dyn := (S.ofs r).foldl (standD S) (fire1 S D r)
def tickB (D : Dyn) (r : Nat) : Dyn := if 1 < S.bodyLen r then tick D 1 else D
def lowerN (D : Dyn) (r : Nat) : Dyn := tickB S (decNeed D r) r
def lowerS (D : Dyn) (r : Nat) : Dyn := tickB S (decNeedD D r) r
def killN (D : Dyn) (r : Nat) : Dyn := tickB S (setDead D r) r
def killS (D : Dyn) (r : Nat) : Dyn := tickB S (setDeadD D r) r
def plusDr (D : Dyn) (r : Nat) : Dyn :=
 if strR S r = true then (if (lowerS S D r).needD r = 0 then tellD (lowerS S D r) (S.head r) 1 else lowerS S D r) else D
def clashB (D : Dyn) (f : Nat) : Bool := decide (0 < D.backs f) && !D.clash f
def clashD (D : Dyn) (f : Nat) : Dyn := if clashB D f = true then lookD (tick (setClash D f) 1) f else D
def onPlusDD (D : Dyn) (q : Nat) : Dyn := lookD ((S.foes q).foldl clashD ((S.inn q).foldl (plusDr S) D)) q
def noDr2 (D : Dyn) (h : Nat) : Dyn := if D.strict h = 0 then tellD D h 2 else D
def noDr (D : Dyn) (r : Nat) : Dyn :=
 if (strR S r && !D.deadD r) = true then noDr2 (tick (decStrict (killS S D r) (S.head r)) 1) (S.head r) else D
def onNoDD (D : Dyn) (q : Nat) : Dyn := lookD ((S.inn q).foldl (noDr S) D) q
def openB (D : Dyn) (f : Nat) : Bool := decide (0 < D.backs f) || D.backed f
def openD (D : Dyn) (f : Nat) : Dyn := if openB D f = true then lookD (tick (decOpn D f) 1) f else D
def onLateD (D : Dyn) (q : Nat) : Dyn := onNoDD S ((S.foes q).foldl openD D) q
def plusr (D : Dyn) (r : Nat) : Dyn := if (lowerN S D r).need r = 0 then fireD S (lowerN S D r) r else lowerN S D r
def onPlusT (D : Dyn) (q : Nat) : Dyn := (S.inn q).foldl (plusr S) D
def leftD (D : Dyn) (p : Nat) : Dyn := standD S (tick (decLeft D p) 1) p
def minusr2 (D : Dyn) (r : Nat) : Dyn :=
 if supR S r = true then lookD ((S.beats r).foldl (leftD S) (tick (decBacks D (S.head r)) 1)) (S.head r) else D
def minusr (D : Dyn) (r : Nat) : Dyn := if D.dead r = true then D else minusr2 S ((S.ofs r).foldl (settleD S) (killN S D r)) r
def onMinusT (D : Dyn) (q : Nat) : Dyn := (S.inn q).foldl (minusr S) D
/-- What is told is handed out: number i. -/
def dispD (D : Dyn) (i q tag : Nat) : Dyn :=
 if tag = 2 then (if S.first ≤ i then onLateD S D q else onNoDD S D q)
 else if tag = 1 then onPlusDD S D q else if tag = 3 then onPlusT S D q else onMinusT S D q
def oneD (D : Dyn) (i : Nat) : Dyn := match D.told[i]? with
 | some (q, tag) => dispD S (tick D 1) i q tag
 | none => D
def iterD (D : Dyn) : Nat → Dyn
 | 0 => D
 | k + 1 => oneD S (iterD D k) k
def looksD (D : Dyn) (k : Nat) : Dyn := (List.range k).foldl lookD D
end

/-- One state comes out of another by tellings, and by what is no mark. -/
inductive Steps (n : Nat) : Dyn → Dyn → Prop
 | refl (D : Dyn) : Steps n D D
 | other {D E F : Dyn} : Steps n D E → F.marks = E.marks → (F.told, F.queued) = (E.told, E.queued) → Steps n D F
 | tell {D E : Dyn} (q tag : Nat) : Steps n D E → q < n → 1 ≤ tag → tag ≤ 4 → Steps n D (tellD E q tag)
theorem Steps.trans {n : Nat} {D E F : Dyn} (h : Steps n D E) (k : Steps n E F) : Steps n D F := by
 induction k with
 | refl => exact h
 | other _ h1 h2 ih => exact ih.other h1 h2
 | tell q tag _ h1 h2 h3 ih => exact ih.tell q tag h1 h2 h3

/-- What is told is just what is marked, once each. -/
structure TI (n : Nat) (D : Dyn) : Prop where
 mem : ∀ q tag, (q, tag) ∈ D.told → q < n ∧ 1 ≤ tag ∧ tag ≤ 4
 has : ∀ q tag, 1 ≤ tag → tag ≤ 4 → ((q, tag) ∈ D.told ↔ hasT D q tag = true)
 nd : D.told.Nodup
 lt : ∀ q, D.marks q < 16
theorem tell_marks {D : Dyn} {q tag : Nat} (h : ¬ hasT D q tag = true) : (tellD D q tag).marks = Tj.upd D.marks q (D.marks q ||| 2 ^ (tag - 1)) := by unfold tellD; rw [if_neg h]
theorem tell_told {D : Dyn} {q tag : Nat} (h : ¬ hasT D q tag = true) : (tellD D q tag).told = D.told ++ [(q, tag)] := by unfold tellD; rw [if_neg h]
theorem tell_has {D : Dyn} {q tag : Nat} (h : hasT D q tag = true) : tellD D q tag = D := by unfold tellD; rw [if_pos h]
theorem hasT_tell {D : Dyn} {q tag q' tag' : Nat} (ht : 1 ≤ tag) (ht' : 1 ≤ tag') : hasT (tellD D q tag) q' tag' = true ↔ hasT D q' tag' = true ∨ (q' = q ∧ tag' = tag) := by
 by_cases h : hasT D q tag = true
 ·rw [tell_has h]
  exact ⟨.inl, fun h2 => h2.elim id fun ⟨e1, e2⟩ => by rw [e1, e2]; exact h⟩
 ·show ((tellD D q tag).marks q').testBit (tag' - 1) = true ↔ _
  rw [tell_marks h]
  unfold hasT Tj.upd
  by_cases e : q' = q
  ·subst e
   rw [if_pos rfl, Nat.testBit_or, Bool.or_eq_true]
   refine or_congr Iff.rfl ?_
   rw [Nat.testBit_two_pow]
   constructor
   ·intro h2; have := of_decide_eq_true h2; exact ⟨rfl, by omega⟩
   ·rintro ⟨_, e2⟩; exact decide_eq_true (by omega)
  ·rw [if_neg e]
   exact ⟨.inl, fun h2 => h2.elim id fun ⟨e1, _⟩ => absurd e1 e⟩
theorem TI.tell {n : Nat} {D : Dyn} (h : TI n D) {q tag : Nat} (hq : q < n) (h1 : 1 ≤ tag) (h4 : tag ≤ 4) : TI n (tellD D q tag) := by
 by_cases hh : hasT D q tag = true
 ·rw [tell_has hh]; exact h
 ·refine ⟨fun q' tag' hm => ?_, fun q' tag' k1 k4 => ?_, ?_, fun q' => ?_⟩
  ·rw [tell_told hh] at hm
   rcases List.mem_append.1 hm with hm | hm
   ·exact h.mem _ _ hm
   ·simp only [List.mem_singleton, Prod.mk.injEq] at hm
    obtain ⟨rfl, rfl⟩ := hm; exact ⟨hq, h1, h4⟩
  ·rw [hasT_tell h1 k1, tell_told hh, List.mem_append, h.has q' tag' k1 k4]
   simp
  ·rw [tell_told hh, List.nodup_append]
   refine ⟨h.nd, by simp, fun x hx y hy e => ?_⟩
   simp only [List.mem_singleton] at hy
   subst hy; subst e
   exact hh ((h.has q tag h1 h4).1 hx)
  ·rw [tell_marks hh]
   unfold Tj.upd
   by_cases e : q' = q
   ·rw [if_pos e]
    refine Nat.or_lt_two_pow (n := 4) (h.lt q) ?_
    exact Nat.pow_lt_pow_right (by omega) (by omega)
   ·rw [if_neg e]; exact h.lt q'
theorem TI.other {n : Nat} {D F : Dyn} (h : TI n D) (h1 : F.marks = D.marks) (h2 : F.told = D.told) : TI n F :=
 ⟨by rw [h2]; exact h.mem, fun q tag k1 k4 => by rw [h2, h.has q tag k1 k4]; unfold hasT; rw [h1], by rw [h2]; exact h.nd, by rw [h1]; exact h.lt⟩
theorem TI.steps {n : Nat} {D E : Dyn} (h : TI n D) (k : Steps n D E) : TI n E := by
 induction k with
 | refl => exact h
 | other _ h1 h2 ih => exact ih.other h1 (congrArg Prod.fst h2)
 | tell q tag _ h1 h2 h3 ih => exact ih.tell h1 h2 h3
theorem all_tags (n : Nat) : ((List.range n).flatMap fun q => [(q, 1), (q, 2), (q, 3), (q, 4)]).length = 4 * n := by
 induction n with
 | zero => rfl
 | succ n ih => rw [List.range_succ, List.flatMap_append, List.length_append, ih]; simp; omega
theorem told_length_le {n : Nat} {D : Dyn} (h : TI n D) : D.told.length ≤ 4 * n := by
 have hsub : ∀ x ∈ D.told, x ∈ (List.range n).flatMap fun q => [(q, 1), (q, 2), (q, 3), (q, 4)] := by
  rintro ⟨q, tag⟩ hx
  obtain ⟨h1, h2, h3⟩ := h.mem q tag hx
  refine List.mem_flatMap.2 ⟨q, List.mem_range.2 h1, ?_⟩
  have : tag = 1 ∨ tag = 2 ∨ tag = 3 ∨ tag = 4 := by omega
  rcases this with rfl | rfl | rfl | rfl <;> simp
 rw [← all_tags n]
 exact h.nd.length_le_of_subset hsub
end Go.Proofs.Lx

namespace Go.Proofs.Lx
open Go Go.RowKit Go.Proofs.Tj
set_option linter.unusedVariables false
set_option linter.unusedSimpArgs false

abbrev natsV (xs : List Nat) : List Value := xs.map fun (x : Nat) => Value.int .i64 (x : Int)

/-- Outside F the world is as it was. -/
structure Agr (F : Nat → Prop) (w w' : World) : Prop where
 os : w'.os = w.os
 tape : w'.tape = w.tape
 output : w'.output = w.output
 size : w.heap.size ≤ w'.heap.size
 block : ∀ k, k < w.heap.size → ¬ F k → w'.heap[k]? = w.heap[k]?
theorem Agr.of_below {w w' : World} (h : Below w.heap.size w w') (F : Nat → Prop) : Agr F w w' := ⟨h.os, h.tape, h.output, h.size, fun k hk _ => h.block k hk⟩
theorem Agr.of_grown {w w' : World} {r : Option Nat} (h : w.grownBy w' r) : Agr (fun k => r = some k) w w' := ⟨h.os, h.tape, h.output, h.size, fun k hk hn => h.block k hk (fun e => hn e.symm)⟩
theorem Agr.of_set (w : World) (g i : Nat) (v : Value) : Agr (fun k => k = g) w (w.setCell ⟨g, i, none⟩ v) := ⟨rfl, rfl, rfl, by simp, fun k _ hk => heap_setCell_other w ⟨g, i, none⟩ k v hk⟩
theorem Agr.mono {F F' : Nat → Prop} {w w' : World} (h : Agr F w w') (hF : ∀ k, F k → F' k) : Agr F' w w' := ⟨h.os, h.tape, h.output, h.size, fun k hk hn => h.block k hk (fun e => hn (hF k e))⟩
theorem Agr.trans {F : Nat → Prop} {a b c : World} (h : Agr F a b) (k : Agr F b c) : Agr F a c :=
 ⟨k.os.trans h.os, k.tape.trans h.tape, k.output.trans h.output, Nat.le_trans h.size k.size, fun i hi hn => (k.block i (Nat.lt_of_lt_of_le hi h.size) hn).trans (h.block i hi hn)⟩
theorem Agr.below {F : Nat → Prop} {w w' : World} {B : Nat} (h : Agr F w w') (hB : B ≤ w.heap.size) (hF : ∀ k, F k → B ≤ k) : Below B w w' :=
 ⟨h.os, h.tape, h.output, h.size, fun k hk => h.block k (Nat.lt_of_lt_of_le hk hB) (fun e => by have := hF k e; omega)⟩

theorem own_loc {w w' : World} {base e size n : Nat} {v : Value} {xs : List Value} (h : w.ownsRow base e size v n xs) (hk : ∀ g, v.ownBlock = some g → w'.heap[g]? = w.heap[g]?) : w'.ownsRow base e size v n xs := by
 refine ⟨h.1, ?_⟩
 rcases h.2 with h1 | ⟨g, cap, cur, rfl, h2, h3, h4⟩
 ·exact .inl h1
 ·exact .inr ⟨g, cap, cur, rfl, h2, (hk g rfl).trans h3, h4⟩
theorem own_put {w : World} {base e sz n g cap : Nat} {xs : List Value} (h : w.ownsRow base e sz (.slice (some ⟨g, 0, none⟩) n cap) n xs) (i : Nat) (u : Value) :
  (w.setCell ⟨g, i, none⟩ u).ownsRow base e sz (.slice (some ⟨g, 0, none⟩) n cap) n (xs.set i u) := by
 obtain ⟨h0, h1⟩ := h
 refine ⟨by simpa using h0, ?_⟩
 rcases h1 with ⟨h1, _⟩ | ⟨gg, cp, cur, h1, h2, h3, h4, h5, h6, h7⟩
 ·cases h1
 ·cases h1
  right
  refine ⟨g, cap, cur.setIfInBounds i u, rfl, h2, ?_, h4, h5, by simpa using h6, ?_⟩
  ·rw [heap_setCell_same w g i _ e _ h3]
  ·rw [← h7]; simp [List.take_set]
theorem own_read {w : World} {base e sz n g cap : Nat} {xs : List Value} (h : w.ownsRow base e sz (.slice (some ⟨g, 0, none⟩) n cap) n xs) {i : Nat} {u : Value} (hi : xs[i]? = some u) : w.cell? ⟨g, i, none⟩ = some u := by
 have := h.cells (g := g) rfl i u hi
 rwa [add_plain] at this
theorem own_unfrozen {w : World} {base e sz n g cap : Nat} {xs : List Value} (h : w.ownsRow base e sz (.slice (some ⟨g, 0, none⟩) n cap) n xs) (i : Nat) : w.frozen? ⟨g, i, none⟩ = false := by
 rcases h.2 with ⟨h1, _⟩ | ⟨gg, cp, cur, h1, h2, h3, h4, h5, h6, h7⟩
 ·cases h1
 ·cases h1; exact frozen_of_row w g i cur e h3
theorem own_made {w : World} {base e g : Nat} {xs : List Value} (h : w.heap[g]? = some (.cells xs.toArray e (0, 0))) (hb : base ≤ g) (hl : xs.length ≤ maxLen) : w.ownsRow base e 1 (.slice (some ⟨g, 0, none⟩) xs.length xs.length) xs.length xs :=
 ⟨by simp, .inr ⟨g, xs.length, xs.toArray, rfl, hb, h, Nat.le_refl _, hl, by simp, by simp⟩⟩

/-- Rows of numbers: the outer block, the rows' values, what they hold. -/
structure RowsC (w : World) (base g eS eI : Nat) (vs : List Value) (xss : List (List Nat)) : Prop where
 blk : w.heap[g]? = some (.cells vs.toArray eS (0, 0))
 lo : base ≤ g
 len : vs.length = xss.length
 own : ∀ q (h : q < vs.length) (h' : q < xss.length), w.ownsRow base eI 1 vs[q] xss[q].length (natsV xss[q])
 ne : ∀ q r (h : q < vs.length) (h' : r < vs.length), q ≠ r → vs[q].ownBlock = none ∨ vs[q].ownBlock ≠ vs[r].ownBlock
 gne : ∀ q (h : q < vs.length), vs[q].ownBlock ≠ some g

theorem lt_of_obj {w : World} {k : Nat} {o : Obj} (h : w.heap[k]? = some o) : k < w.heap.size := (Array.getElem?_eq_some_iff.1 h).1
inductive Cont
 | no
 | arr (v : Value) (e sz n : Nat) (cs : List Value)
 | rows (g eS eI : Nat) (vs : List Value) (xss : List (List Nat))
 | blks (l : List (Nat × Obj))
def Cont.fp : Cont → Nat → Prop
 | .no, _ => False
 | .arr v _ _ _ _, k => v.ownBlock = some k
 | .rows g _ _ vs _, k => k = g ∨ ∃ q, ∃ h : q < vs.length, vs[q].ownBlock = some k
 | .blks l, k => ∃ o, (k, o) ∈ l
def Cont.ok (base : Nat) (w : World) : Cont → Prop
 | .no => True
 | .arr v e sz n cs => w.ownsRow base e sz v n cs
 | .rows g eS eI vs xss => RowsC w base g eS eI vs xss
 | .blks l => ∀ k o, (k, o) ∈ l → base ≤ k ∧ w.heap[k]? = some o
theorem RowsC.loc {w w' : World} {base g eS eI : Nat} {vs : List Value} {xss : List (List Nat)} (h : RowsC w base g eS eI vs xss) (hg : w'.heap[g]? = w.heap[g]?) (hk : ∀ k q (hq : q < vs.length), vs[q].ownBlock = some k → w'.heap[k]? = w.heap[k]?) : RowsC w' base g eS eI vs xss :=
 ⟨hg.trans h.blk, h.lo, h.len, fun q h1 h2 => own_loc (h.own q h1 h2) fun k e => hk k q h1 e, h.ne, h.gne⟩
theorem Cont.ok_loc {base : Nat} {w w' : World} {c : Cont} (h : c.ok base w) (hk : ∀ k, c.fp k → w'.heap[k]? = w.heap[k]?) : c.ok base w' := by
 cases c with
 | no => trivial
 | arr v e sz n cs => exact own_loc (show w.ownsRow base e sz v n cs from h) hk
 | rows g eS eI vs xss => exact RowsC.loc h (hk g (.inl rfl)) fun k q hq e => hk k (.inr ⟨q, hq, e⟩)
 | blks l => exact fun k o hm => ⟨(h k o hm).1, (hk k ⟨o, hm⟩).trans (h k o hm).2⟩
theorem Cont.ok_lt {base : Nat} {w : World} {c : Cont} (h : c.ok base w) {k : Nat} (hf : c.fp k) : base ≤ k ∧ k < w.heap.size := by
 cases c with
 | no => exact hf.elim
 | arr v e sz n cs => exact World.ownsRow.lt (show w.ownsRow base e sz v n cs from h) k hf
 | rows g eS eI vs xss =>
  have h : RowsC w base g eS eI vs xss := h
  rcases hf with rfl | ⟨q, hq, e⟩
  ·exact ⟨h.lo, lt_of_block h.blk⟩
  ·exact (h.own q hq (by rw [← h.len]; exact hq)).lt k e
 | blks l =>
  obtain ⟨o, hm⟩ := hf
  exact ⟨(h k o hm).1, lt_of_obj (h k o hm).2⟩

structure Sepr {κ : Type} (w W0 : World) (b : Nat) (hh : Array Value) (C : κ → Cont) : Prop where
 old : Below W0.heap.size W0 w
 hb : W0.heap.size ≤ b
 hdr : w.heap[b]? = some (.cells hh 84 (0, 0))
 ok : ∀ k, (C k).ok W0.heap.size w
 far : ∀ k g, (C k).fp g → g ≠ b
 ne : ∀ k j g, k ≠ j → (C k).fp g → ¬ (C j).fp g
section
variable {κ : Type} {w w' W0 : World} {b : Nat} {hh : Array Value} {C C' : κ → Cont}
theorem Sepr.cell (h : Sepr w W0 b hh C) (i : Nat) : w.cell? ⟨b, i, none⟩ = hh[i]? := cell_of_row w b i _ _ _ h.hdr
theorem Sepr.free (h : Sepr w W0 b hh C) (i : Nat) : w.frozen? ⟨b, i, none⟩ = false := frozen_of_row w b i _ _ h.hdr
theorem Sepr.ext (h : Sepr w W0 b hh C) (hb : Below w.heap.size w w') : Sepr w' W0 b hh C :=
 ⟨h.old.trans (hb.mono h.old.size), h.hb, (hb.block b (lt_of_block h.hdr)).trans h.hdr, fun k => Cont.ok_loc (h.ok k) fun g hg => hb.block g (Cont.ok_lt (h.ok k) hg).2, h.far, h.ne⟩
theorem Sepr.drew (h : Sepr w W0 b hh C) : Sepr w.drew W0 b hh C := h.ext (Below.refl _ _).drew
theorem Sepr.put (h : Sepr w W0 b hh C) (i : Nat) (v : Value) : Sepr (w.setCell ⟨b, i, none⟩ v) W0 b (hh.setIfInBounds i v) C :=
 ⟨h.old.setCell h.hb v, h.hb, heap_setCell_same w b i _ _ v h.hdr, fun k => Cont.ok_loc (h.ok k) fun g hg => heap_setCell_other w ⟨b, i, none⟩ g v (h.far k g hg), h.far, h.ne⟩
/-- One part turns; the others stay. -/
theorem Sepr.step (h : Sepr w W0 b hh C) (k : κ) (hC : ∀ j, j ≠ k → C' j = C j) (ha : Agr (C k).fp w w') (hok : (C' k).ok W0.heap.size w') (hfp : ∀ g, (C' k).fp g → (C k).fp g ∨ w.heap.size ≤ g) : Sepr w' W0 b hh C' := by
 have hbl := lt_of_block h.hdr
 refine ⟨h.old.trans (ha.below h.old.size fun g hg => (Cont.ok_lt (h.ok k) hg).1), h.hb, (ha.block b hbl fun e => h.far k b e rfl).trans h.hdr, fun j => ?_, fun j g hg => ?_, fun i j g hij hi hj => ?_⟩
 ·by_cases e : j = k
  ·rw [e]; exact hok
  ·rw [hC j e]
   exact Cont.ok_loc (h.ok j) fun g hg => ha.block g (Cont.ok_lt (h.ok j) hg).2 (h.ne j k g e hg)
 ·by_cases e : j = k
  ·rw [e] at hg
   rcases hfp g hg with h1 | h1
   ·exact h.far k g h1
   ·omega
  ·rw [hC j e] at hg; exact h.far j g hg
 ·by_cases ei : i = k
  ·by_cases ej : j = k
   ·exact hij (ei.trans ej.symm)
   ·rw [ei] at hi; rw [hC j ej] at hj
    rcases hfp g hi with h1 | h1
    ·exact h.ne k j g (fun e => ej e.symm) h1 hj
    ·have := (Cont.ok_lt (h.ok j) hj).2; omega
  ·rw [hC i ei] at hi
   by_cases ej : j = k
   ·rw [ej] at hj
    rcases hfp g hj with h1 | h1
    ·exact h.ne i k g ei hi h1
    ·have := (Cont.ok_lt (h.ok i) hi).2; omega
   ·rw [hC j ej] at hj
    exact h.ne i j g hij hi hj
/-- A cell of an array is written. -/
theorem Sepr.setArr (h : Sepr w W0 b hh C) (k : κ) {g n c e sz : Nat} {cs : List Value} (hk : C k = .arr (.slice (some ⟨g, 0, none⟩) n c) e sz n cs) (i : Nat) (u : Value)
  (hk' : C' k = .arr (.slice (some ⟨g, 0, none⟩) n c) e sz n (cs.set i u)) (hC : ∀ j, j ≠ k → C' j = C j) : Sepr (w.setCell ⟨g, i, none⟩ u) W0 b hh C' := by
 have hok := h.ok k
 rw [hk] at hok
 refine h.step k hC ((Agr.of_set w g i u).mono fun q e => by rw [hk, e]; rfl) ?_ fun q hq => .inl ?_
 ·rw [hk']; exact own_put hok i u
 ·rw [hk'] at hq; rw [hk]; exact hq
theorem Sepr.readArr (h : Sepr w W0 b hh C) (k : κ) {g n c e sz : Nat} {cs : List Value} (hk : C k = .arr (.slice (some ⟨g, 0, none⟩) n c) e sz n cs) {i : Nat} {u : Value} (hi : cs[i]? = some u) : w.cell? ⟨g, i, none⟩ = some u := by
 have hok := h.ok k
 rw [hk] at hok
 exact own_read hok hi
theorem Sepr.freeArr (h : Sepr w W0 b hh C) (k : κ) {g n c e sz : Nat} {cs : List Value} (hk : C k = .arr (.slice (some ⟨g, 0, none⟩) n c) e sz n cs) (i : Nat) : w.frozen? ⟨g, i, none⟩ = false := by
 have hok := h.ok k
 rw [hk] at hok
 exact own_unfrozen hok i
/-- An array grows (it may move). -/
theorem Sepr.growArr (h : Sepr w W0 b hh C) (k : κ) {v v' : Value} {e sz n n' : Nat} {cs cs' : List Value} (hk : C k = .arr v e sz n cs) (hg : w.grownBy w' v.ownBlock) (hown : w'.ownsRow W0.heap.size e sz v' n' cs')
  (hat : ∀ g, v'.ownBlock = some g → v.ownBlock = some g ∨ w.heap.size ≤ g) (hk' : C' k = .arr v' e sz n' cs') (hC : ∀ j, j ≠ k → C' j = C j) : Sepr w' W0 b hh C' := by
 refine h.step k hC ((Agr.of_grown hg).mono fun q e => by rw [hk]; exact e) ?_ fun q hq => ?_
 ·rw [hk']; exact hown
 ·rw [hk'] at hq; rw [hk]; exact hat q hq
theorem Sepr.arrNe (h : Sepr w W0 b hh C) (k : κ) {g n c e sz : Nat} {cs : List Value} (hk : C k = .arr (.slice (some ⟨g, 0, none⟩) n c) e sz n cs) : g ≠ b := h.far k g (by rw [hk]; rfl)
theorem Sepr.arrNe2 (h : Sepr w W0 b hh C) (k j : κ) (hkj : k ≠ j) {g n c e sz g' n' c' e' sz' : Nat} {cs cs' : List Value} (hk : C k = .arr (.slice (some ⟨g, 0, none⟩) n c) e sz n cs) (hj : C j = .arr (.slice (some ⟨g', 0, none⟩) n' c') e' sz' n' cs') : g ≠ g' :=
 fun e9 => h.ne k j g hkj (by rw [hk]; rfl) (by rw [hj, e9]; rfl)
/-- A row's value, and its cells. -/
theorem Sepr.row (h : Sepr w W0 b hh C) (k : κ) {g eS eI : Nat} {vs : List Value} {xss : List (List Nat)} (hk : C k = .rows g eS eI vs xss) {q : Nat} (hq : q < xss.length) : ∃ v, vs[q]? = some v ∧ w.cell? ⟨g, q, none⟩ = some v ∧ w.ownsRow W0.heap.size eI 1 v xss[q].length (natsV xss[q]) := by
 have hok := h.ok k
 rw [hk] at hok
 have hok : RowsC w W0.heap.size g eS eI vs xss := hok
 have hq' : q < vs.length := by rw [hok.len]; exact hq
 refine ⟨vs[q], by simp [hq'], ?_, hok.own q hq' hq⟩
 rw [cell_of_row w g q _ _ _ hok.blk]; simp [hq']
end
end Go.Proofs.Lx
