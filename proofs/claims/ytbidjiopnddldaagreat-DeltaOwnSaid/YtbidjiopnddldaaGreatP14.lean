/- Parts of the proof: Pl, Pm, Xl. Contracts of lexpriorplain's functions over marks: SameMarks, CopyMarks; the law's in. -/
import Derived.Test.YtbidjiopnddldaaGreatP6
import Derived.Test.YtbidjiopnddldaaGreatP8
import Derived.Test.YtbidjiopnddldaaGreatP13
import Derived.Test.YtbidjiopnddldaaGreatP9
import Derived.Maps.AppendAt
import Derived.WalkMore
import Derived.Test.YtbidjiopnddldaaGreatP11
import Derived.Test.YtbidjiopnddldaaGreatP5
namespace Go.Proofs.Lx
open Go Go.RowKit
set_option linter.unusedSimpArgs false
set_option linter.unusedVariables false

theorem list_eq_of {X Y : List Nat} (hl : X.length = Y.length) (h : ∀ i (h1 : i < X.length) (h2 : i < Y.length), X[i] = Y[i]) : X = Y := List.ext_getElem hl h

set_option maxHeartbeats 800000 in
theorem sameM_any (w : World) (v1 v2 : Value) (X Y : List Nat) (h1 : RdMk w v1 X) (h2 : RdMk w v2 Y) :
  Calls Tryz.prog 27 #[v1, v2] w (Ret fun v w' => v = .bool (decide (X = Y)) ∧ Below w.heap.size w w') := by
 obtain ⟨A, c, rfl, hc, hb, hr⟩ := h1
 obtain ⟨B, d, rfl, hd, hb2, hr2⟩ := h2
 refine post_gen fun Q HQ => ?_
 go_enter Tryz.func27, Tryz.ntmps27
 by_cases hl : X.length = Y.length
 case neg =>
  have hne : ((X.length : Int) != (Y.length : Int)) = true := by simp; omega
  have HL := hid hl
  clear hl
  go_wp2
  go_ret
  exact Fin HQ ⟨by rw [decide_eq_false fun e : X = Y => HL.out (by rw [e])]; rfl, ext_refl _⟩
 have HL := hid hl
 generalize hn : X.length = n at *
 have Hn := hid hn
 clear hn
 rw [← HL.out] at hd hb2
 rw [← HL.out]
 clear hl
 go_wp2
 go_loopw [5] (fun v5 wr => ∃ k : Nat, k ≤ n ∧ v5 = .int .i64 k ∧ Hid (∀ i (h1 : i < X.length) (h2 : i < Y.length), i < k → X[i] = Y[i]) ∧ Below w.heap.size w wr) (fun v5 _ => n - (intOf v5).toNat)
 case atStart => exact ⟨0, Nat.zero_le _, rfl, fun i _ _ h => absurd h (by omega), ext_refl _⟩
 case round =>
  obtain ⟨k, hk, rfl, heq, hbl⟩ := hrel
  by_cases hlt : k < n
  ·have hx : k < X.length := by rw [Hn.out]; exact hlt
   have hy : k < Y.length := by rw [← HL.out]; exact hlt
   obtain ⟨ad, rfl, hcX⟩ := (hr.ext (scR_mono _) hbl).at1 hx
   obtain ⟨ad2, rfl, hcY⟩ := (hr2.ext (scR_mono _) hbl).at1 hy
   have Hx := hid (And.intro hx hy)
   have hXk : ∃ x, Hid (X[k] = x) := ⟨_, hid rfl⟩
   obtain ⟨x, HX⟩ := hXk
   have hYk : ∃ y, Hid (Y[k] = y) := ⟨_, hid rfl⟩
   obtain ⟨y, HY⟩ := hYk
   rw [HX.out] at hcX
   rw [HY.out] at hcY
   by_cases hxy : x = y
   ·have hne : ((x : Int) != (y : Int)) = false := by simp [hxy]
    have Hxy := hid hxy
    clear hxy
    go_wp2
    go_quiet (fail)
    go_wp2
    go_roundw
    case rel =>
     refine ⟨k + 1, by omega, by go_num, hid fun i h1 h2 hi => ?_, below_drewN hbl _⟩
     by_cases e : i = k
     ·subst e; rw [HX.out, HY.out]; exact Hxy.out
     ·exact heq.out i h1 h2 (by omega)
    case measure => simp [intOf]; omega
   ·have hne : ((x : Int) != (y : Int)) = true := by simp; omega
    have Hxy := hid hxy
    clear hxy
    go_wp2
    go_quiet (fail)
    go_wp2
    go_ret
    refine Fin HQ ⟨?_, below_drewN hbl _⟩
    have hne2 : X ≠ Y := by
     intro e
     subst e
     exact Hxy.out (HX.out.symm.trans HY.out)
    rw [decide_eq_false hne2]; rfl
  ·go_wp2
   go_ret
   refine Fin HQ ⟨?_, hbl⟩
   have heq2 : X = Y := list_eq_of (by rw [Hn.out]; exact HL.out) fun i h1 h2 => heq.out i h1 h2 (by rw [Hn.out] at h1; omega)
   rw [decide_eq_true heq2]; rfl

end Go.Proofs.Lx

namespace Go.Proofs.Lx
open Go Go.RowKit
set_option linter.unusedSimpArgs false
set_option linter.unusedVariables false

/-- Within the reach, told by bytes. -/
structure Small (T : Th) : Prop where
 f : T.foes.length * 24 ≤ 140737488355328
 fr : ∀ l ∈ T.foes, l.length * 8 ≤ 140737488355328
 r : T.rules.length * 40 ≤ 140737488355328
 rb : ∀ r ∈ T.rules, r.body.length * 8 ≤ 140737488355328
 b : T.beats.length * 24 ≤ 140737488355328
 br : ∀ l ∈ T.beats, l.length * 8 ≤ 140737488355328

theorem own_ext {w w' : World} {base e size n : Nat} {v : Value} {xs : List Value} (h : w.ownsRow base e size v n xs) (hb : Below w.heap.size w w') : w'.ownsRow base e size v n xs :=
 h.kept (row := none) ⟨hb.os, hb.tape, hb.output, hb.size, fun k hk _ => hb.block k hk⟩ (by cases v.ownBlock <;> simp)
/-- Growth of a row of the call's own leaves what lies below. -/
theorem below_grown {B : Nat} {w wr w' : World} {row : Option Nat} (hb : Below B w wr) (hB : B ≤ wr.heap.size) (hg : wr.grownBy w' row) (hr : ∀ g, row = some g → B ≤ g) : Below B w w' :=
 hb.trans ⟨hg.os, hg.tape, hg.output, hg.size, fun g hgl => hg.block g (by omega) (fun e => by have := hr g e.symm; omega)⟩

set_option maxHeartbeats 800000 in
theorem copyI_any (w : World) (v : Value) (l : List Int) (hv : RdI w v l) (h8 : l.length * 8 ≤ 140737488355328) :
  Calls Tryz.prog 13 #[v] w (Ret fun r w' => w'.ownsRow w.heap.size 3 1 r l.length (intsV l) ∧ Below w.heap.size w w') := by
 obtain ⟨A, c, rfl, hc, hb, hr⟩ := hv
 obtain ⟨i0, hi, hz0, hz1, hz2⟩ := info_parts infoI
 refine post_gen fun Q HQ => ?_
 generalize hn : l.length = n at *
 have Hn := hid hn
 clear hn
 go_enter Tryz.func13, Tryz.ntmps13
 go_wp2
 go_loopw [3, 4] (fun v3 v4 wr => ∃ k : Nat, k ≤ n ∧ v4 = .int .i64 k ∧ wr.ownsRow w.heap.size 3 1 v3 k (intsV (l.take k)) ∧ Below w.heap.size w wr) (fun _ v4 _ => n - (intOf v4).toNat)
 case atStart => exact ⟨0, Nat.zero_le _, rfl, by simpa [intsV] using World.ownsRow_nil _ _ _ _, ext_refl _⟩
 case round =>
  obtain ⟨k, hk, rfl, hown, hbl⟩ := hrel
  by_cases hlt : k < n
  ·have hx : k < l.length := by rw [Hn.out]; exact hlt
   obtain ⟨ad, rfl, hcX⟩ := (hr.ext (scR_mono _) hbl).at1 hx
   have hXk : ∃ x, Hid (l[k] = x) := ⟨_, hid rfl⟩
   obtain ⟨x, HX⟩ := hXk
   rw [HX.out] at hcX
   have Hx := hid hx
   have Hown := hid hown
   have hsz := hbl.size
   clear hown
   go_wp2_with (at_builtin; refine wpList_append_own _ rfl _ _ 36 rfl w.heap.size 3 i0 (.int .i64 0) 1 8 Tryz.underlying36 hi hz0 hz1 hz2 rfl (by decide) _ k _ rfl (Hown.out.alloc _) ⟨wr.heap.size, 0, none⟩ 1 1 [.int .i64 x] rfl rfl (cell_one_new _ _ _) (fun u hu => by simp at hu; subst hu; rfl) (by unfold maxLen; omega) (by omega) (by simp; omega) ?_; intro v' w3 hown' hgrow3 hnil3)
   go_roundw
   case rel =>
    refine ⟨k + 1, by omega, by go_num, ?_, ?_⟩
    ·rw [List.take_succ_eq_append_getElem Hx.out, HX.out]
     simpa [intsV] using hown'
    ·exact below_grown (hbl.alloc hsz _) (by simp; omega) hgrow3 (fun g e => (Hown.out.lt g e).1)
   case measure => simp [intOf]; omega
  ·have e : k = n := by omega
   subst e
   go_wp2
   go_ret
   refine Fin HQ ⟨?_, hbl⟩
   rw [List.take_of_length_le (by rw [Hn.out]; exact Nat.le_refl _)] at hown
   exact hown

theorem own_form0 {w : World} {base e size n : Nat} {v : Value} {xs : List Value} (h : w.ownsRow base e size v n xs) : ∃ A c, v = .slice A n c := by
 rcases h.2 with ⟨h1, h2⟩ | ⟨g, cap, cur, h1, _⟩
 ·exact ⟨none, 0, by rw [h1, h2]⟩
 ·exact ⟨_, _, h1⟩
/-- Rows of the call's own, apart from the list of them. -/
def KeptRows (base : Nat) (wr : World) (v3 : Value) (vs : List Value) (L : List (List Int)) : Prop :=
 vs.length = L.length ∧ ∀ i (h1 : i < vs.length) (h2 : i < L.length), wr.ownsRow base 3 1 vs[i] L[i].length (intsV L[i]) ∧ (vs[i].ownBlock = none ∨ vs[i].ownBlock ≠ v3.ownBlock)
theorem own_lower {w : World} {base base' e size n : Nat} {v : Value} {xs : List Value} (h : w.ownsRow base e size v n xs) (hb : base' ≤ base) : w.ownsRow base' e size v n xs :=
 ⟨h.1, h.2.imp id fun ⟨g, cap, cur, h1, h2, h3⟩ => ⟨g, cap, cur, h1, Nat.le_trans hb h2, h3⟩⟩
theorem KeptRows.push {wr w1 w2 w3 : World} {base : Nat} {v3 v' : Value} {vs : List Value} {L : List (List Int)} {x : Value} {l : List Int} (h : KeptRows base wr v3 vs L) (hbs : base ≤ wr.heap.size) (hv3 : ∀ g, v3.ownBlock = some g → g < wr.heap.size)
  (hx : w1.ownsRow wr.heap.size 3 1 x l.length (intsV l)) (hb1 : Below wr.heap.size wr w1) (hb2 : Below w1.heap.size w1 w2) (hg : w2.grownBy w3 v3.ownBlock) (hat : v'.ownBlock = v3.ownBlock ∨ v'.ownBlock = some w2.heap.size) : KeptRows base w3 v' (vs ++ [x]) (L ++ [l]) := by
 refine ⟨by simp [h.1], fun i h1 h2 => ?_⟩
 have hle1 := hb1.size
 have hle2 := hb2.size
 by_cases e : i < vs.length
 ·rw [List.getElem_append_left e]
  have e2 : (L ++ [l])[i] = L[i]'(by rw [← h.1]; exact e) := List.getElem_append_left (by rw [← h.1]; exact e)
  rw [e2]
  obtain ⟨k1, k2⟩ := h.2 i e (by rw [← h.1]; exact e)
  refine ⟨((own_ext (own_ext k1 hb1) hb2).kept hg k2), ?_⟩
  cases ho : vs[i].ownBlock with
  | none => exact .inl rfl
  | some g =>
   right
   rcases hat with h6 | h6
   ·rw [h6, ← ho]; exact k2.resolve_left (by rw [ho]; simp)
   ·rw [h6]; intro e3
    have e4 := Option.some.inj e3
    have := (k1.lt g ho).2; omega
 ·obtain rfl : i = vs.length := by simp at h1; omega
  have e2 : (vs ++ [x])[vs.length]'(by simp) = x := by simp
  have e3 : (L ++ [l])[vs.length]'(by simp [h.1]) = l := by simp [h.1]
  rw [e2, e3]
  refine ⟨own_lower ((own_ext hx hb2).kept hg (by
   cases ho : x.ownBlock with
   | none => exact .inl rfl
   | some k => right; intro e4; have := (hx.lt k ho).1; have := hv3 k e4.symm; omega)) hbs, ?_⟩
  cases ho : x.ownBlock with
  | none => exact .inl rfl
  | some k =>
   right; intro e4
   have h5 := hx.lt k ho
   rcases hat with h6 | h6
   ·have := hv3 k (by rw [← h6, ← e4]); omega
   ·rw [h6] at e4; cases e4; omega
theorem own_heap {w w' : World} {base e size n : Nat} {v : Value} {xs : List Value} (h : w.ownsRow base e size v n xs) (hk : ∀ g, base ≤ g → g < w.heap.size → w'.heap[g]? = w.heap[g]?) : w'.ownsRow base e size v n xs := by
 refine ⟨h.1, ?_⟩
 rcases h.2 with h1 | ⟨g, cap, cur, h1, h2, h3, h4⟩
 ·exact .inl h1
 ·exact .inr ⟨g, cap, cur, h1, h2, (hk g h2 (lt_of_block h3)).trans h3, h4⟩
/-- A list of rows, all of the call's own. -/
def OwnLL (base : Nat) (w : World) (v : Value) (L : List (List Int)) : Prop :=
 ∃ vs : List Value, vs.length = L.length ∧ w.ownsRow base 36 1 v L.length vs ∧ ∀ i (h1 : i < vs.length) (h2 : i < L.length), w.ownsRow base 3 1 vs[i] L[i].length (intsV L[i])
theorem OwnLL.keep {base : Nat} {w w' : World} {v : Value} {L : List (List Int)} (h : OwnLL base w v L) (hk : ∀ g, base ≤ g → g < w.heap.size → w'.heap[g]? = w.heap[g]?) : OwnLL base w' v L := by
 obtain ⟨vs, h1, h2, h3⟩ := h
 exact ⟨vs, h1, own_heap h2 hk, fun i a b => own_heap (h3 i a b) hk⟩

theorem own_rows {w : World} {base eS : Nat} {v : Value} {vs : List Value} {L : List (List Int)} (h : w.ownsRow base eS 1 v vs.length vs) (hk : vs.length = L.length) (hl : L.length ≤ 140737488355328)
  (hr : ∀ i (h1 : i < vs.length) (h2 : i < L.length), RdI w vs[i] L[i]) : RdLL w v L := by
 rcases h.2 with ⟨rfl, h0⟩ | ⟨gg, cap, cur, rfl, _, _, hc, _⟩
 ·exact ⟨none, 0, by rw [← hk, h0], by omega, hl, fun i hi => absurd hi (by omega)⟩
 ·refine ⟨_, cap, by rw [hk], by omega, hl, fun i hi => ⟨_, [vs[i]'(by omega)], rfl, ⟨_, rfl, hr i (by omega) hi⟩, rfl, fun j u hu => ?_⟩⟩
  match j, hu with
  | 0, hu =>
   simp at hu; subst hu
   have := h.cells (g := gg) rfl i (vs[i]'(by omega)) (by simp [show i < vs.length by omega])
   rw [Nat.add_zero, Nat.mul_one]; exact this

theorem OwnLL.rd {base : Nat} {w : World} {v : Value} {L : List (List Int)} (h : OwnLL base w v L) (hl : L.length ≤ 140737488355328) (hr : ∀ l ∈ L, l.length ≤ 140737488355328) : RdLL w v L := by
 obtain ⟨vs, h1, h2, h3⟩ := h
 rw [← h1] at h2
 exact own_rows h2 h1 hl fun i a b => own_rdI (h3 i a b) (hr _ (List.getElem_mem b))

set_option maxRecDepth 100000 in
set_option maxHeartbeats 1600000 in
theorem copyLL_any (w : World) (v : Value) (L : List (List Int)) (hv : RdLL w v L) (h24 : L.length * 24 ≤ 140737488355328) (h8 : ∀ l ∈ L, l.length * 8 ≤ 140737488355328) :
  Calls Tryz.prog 52 #[v] w (Ret fun r w' => OwnLL w.heap.size w' r L ∧ Below w.heap.size w w') := by
 obtain ⟨A, c, rfl, hc, hb, hr⟩ := hv
 obtain ⟨i0, hi, hz0, hz1, hz2⟩ := info_parts infoL
 refine post_gen fun Q HQ => ?_
 have H8 := hid h8
 generalize hn : L.length = n at *
 have Hn := hid hn
 clear hn h8
 go_enter Tryz.func52, Tryz.ntmps52
 go_wp2
 go_loopw [3, 4] (fun v3 v4 wr => ∃ (k : Nat) (vs : List Value), k ≤ n ∧ v4 = .int .i64 k ∧ wr.ownsRow w.heap.size 36 1 v3 k vs ∧ Hid (KeptRows w.heap.size wr v3 vs (L.take k)) ∧ Below w.heap.size w wr) (fun _ v4 _ => n - (intOf v4).toNat)
 case atStart => exact ⟨0, [], Nat.zero_le _, rfl, World.ownsRow_nil _ _ _ _, hid ⟨by simp, fun i h => absurd h (by simp)⟩, ext_refl _⟩
 case round =>
  obtain ⟨k, vs, hk, rfl, hown, hkept, hbl⟩ := hrel
  by_cases hlt : k < n
  ·have hx : k < L.length := by rw [Hn.out]; exact hlt
   obtain ⟨ad, B, cB, rfl, hcX, hcB, hbB, hrB⟩ := (hr.ext llR_mono hbl).atRow hx
   have Hcall := hid (copyI_any wr _ L[k] (⟨B, cB, rfl, hcB, hbB, hrB⟩ : RdI wr (.slice B L[k].length cB) L[k]) (H8.out _ (List.getElem_mem hx)))
   have hXk : ∃ x, Hid (L[k] = x) := ⟨_, hid rfl⟩
   obtain ⟨x, HX⟩ := hXk
   rw [HX.out] at hcX hbB Hcall
   have Hx := hid hx
   have Hown := hid hown
   have hsz := hbl.size
   clear hown hrB
   go_wp2_with (first | (go_at_call 13; refine Hcall.out.mono ?_; rintro e w1 ⟨r1, rfl, hr1, hb1⟩; have hs1 := hb1.size; have Hr1 := hid hr1; have Hown1 := hid (own_ext Hown.out hb1); clear hr1; obtain ⟨B1, c1, rfl⟩ := own_form0 Hr1.out) | (at_builtin; refine wpList_append_own_at _ rfl _ _ 22 rfl w.heap.size 36 i0 (.slice none 0 0) 1 24 Tryz.underlying22 hi hz0 hz1 hz2 rfl (by decide) _ k _ rfl (Hown1.out.alloc _) ⟨w1.heap.size, 0, none⟩ 1 1 [.slice B1 x.length c1] rfl rfl (cell_one_new _ _ _) (fun u hu => by simp at hu; subst hu; rfl) (by unfold maxLen; omega) (by omega) (by simp; omega) ?_; intro v' w3 hown' hgrow3 hnil3 hat3))
   go_roundw
   case rel =>
    refine ⟨k + 1, vs ++ [.slice B1 x.length c1], by omega, by go_num, hown', hid ?_, ?_⟩
    ·rw [List.take_succ_eq_append_getElem Hx.out, HX.out]
     exact hkept.out.push hsz (fun g e => (Hown.out.lt g e).2) Hr1.out hb1 (ext_alloc w1 _) hgrow3 hat3
    ·exact below_grown ((ext_trans hbl hb1).alloc (by omega) _) (by simp; omega) hgrow3 (fun g e => (Hown.out.lt g e).1)
   case measure => simp [intOf]; omega
  ·have e : k = n := by omega
   subst e
   go_wp2
   go_ret
   refine Fin HQ ⟨?_, hbl⟩
   rw [List.take_of_length_le (by rw [Hn.out]; exact Nat.le_refl _)] at hkept
   rw [← Hn.out] at hown
   exact ⟨vs, hkept.out.1, hown, fun i a b => (hkept.out.2 i a b).1⟩
end Go.Proofs.Lx

namespace Go.Proofs.Lx
open Go Go.RowKit Go.Proofs.Tj
set_option linter.unusedSimpArgs false
set_option linter.unusedVariables false
/-- A number joins a list if it isn't there yet. -/
def add1 (D : List Int) (x : Int) : List Int := if memB D x = true then D else D ++ [x]
def addAll (D l : List Int) : List Int := l.foldl add1 D
theorem addAll_succ {D l : List Int} {k : Nat} (hk : k < l.length) : addAll D (l.take (k + 1)) = add1 (addAll D (l.take k)) l[k] := by
 rw [addAll, List.take_succ_eq_append_getElem hk, List.foldl_append]; rfl
theorem mem_add1 {D : List Int} {x y : Int} : y ∈ add1 D x ↔ y ∈ D ∨ y = x := by
 unfold add1
 by_cases h : memB D x = true
 ·rw [if_pos h]
  constructor
  ·exact .inl
  ·rintro (h1 | rfl)
   ·exact h1
   ·exact memB_true.1 h
 ·rw [if_neg h, List.mem_append, List.mem_singleton]
theorem mem_addAll {x : Int} : ∀ {l D : List Int}, x ∈ addAll D l ↔ x ∈ D ∨ x ∈ l
 | [], D => by simp [addAll]
 | y :: l, D => by
  have h := mem_addAll (x := x) (l := l) (D := add1 D y)
  rw [mem_add1] at h
  rw [List.mem_cons]
  show x ∈ addAll (add1 D y) l ↔ _
  rw [h, or_assoc]
theorem addAll_pre : ∀ (l D : List Int), ∃ E, addAll D l = D ++ E
 | [], D => ⟨[], by simp [addAll]⟩
 | y :: l, D => by
  obtain ⟨E, h⟩ := addAll_pre l (add1 D y)
  show ∃ E, addAll (add1 D y) l = D ++ E
  rw [h]
  unfold add1
  by_cases hm : memB D y = true
  ·rw [if_pos hm]; exact ⟨E, rfl⟩
  ·rw [if_neg hm]; exact ⟨y :: E, by simp⟩
structure DOk (n : Nat) (D : List Int) : Prop where
 nd : D.Nodup
 rg : ∀ x ∈ D, 0 ≤ x ∧ x < n
theorem DOk.nil (n : Nat) : DOk n [] := ⟨List.nodup_nil, by simp⟩
theorem DOk.le {n : Nat} {D : List Int} (h : DOk n D) : D.length ≤ n := by
 have h1 := h.nd.length_le_of_subset (l₂ := (List.range n).map fun (x : Nat) => (x : Int)) fun x hx => by
  obtain ⟨h1, h2⟩ := h.rg x hx
  exact List.mem_map.2 ⟨x.toNat, List.mem_range.2 (by omega), by omega⟩
 simpa using h1
theorem DOk.add1 {n : Nat} {D : List Int} (h : DOk n D) {x : Int} (hx : 0 ≤ x ∧ x < n) : DOk n (add1 D x) := by
 unfold Lx.add1
 by_cases hm : memB D x = true
 ·rw [if_pos hm]; exact h
 ·rw [if_neg hm]
  refine ⟨List.nodup_append.2 ⟨h.nd, by simp, fun a ha b hb => ?_⟩, fun y hy => ?_⟩
  ·rw [List.mem_singleton] at hb
   subst hb
   rintro rfl
   exact hm (memB_true.2 ha)
  ·rw [List.mem_append, List.mem_singleton] at hy
   rcases hy with hy | rfl
   ·exact h.rg y hy
   ·exact hx
theorem DOk.addAll {n : Nat} : ∀ {l D : List Int}, DOk n D → (∀ x ∈ l, 0 ≤ x ∧ x < n) → DOk n (addAll D l)
 | [], D, h, _ => h
 | y :: l, D, h, hl => DOk.addAll (l := l) (h.add1 (hl y (by simp))) fun x hx => hl x (by simp [hx])
theorem factsB_push {n : Nat} {D : List Int} {q : Nat} : factsB n (D ++ [(q : Int)]) = (factsB n D).set q true := by
 have h := factsUpto_succ n D.length (D ++ [(q : Int)]) (by simp) (by simp)
 rw [factsUpto, factsUpto, List.take_of_length_le (by simp), List.take_left] at h
 simpa using h
/-- The closure's state: what is marked, what is to do. -/
structure CP (w : World) (g n : Nat) (D : List Int) : Prop where
 hin : w.heap[g + 1]? = some (.cells #[.slice (some ⟨g, 0, none⟩) n n] 90 (0, 0))
 htd : ∃ v, w.heap[g + 2]? = some (.cells #[v] 36 (0, 0)) ∧ w.ownsRow (g + 3) 3 1 v D.length (intsV D)
 arr : Arr Value.bool 4 w g (factsB n D)
 sz : g + 3 ≤ w.heap.size
section
variable {w w' : World} {g n : Nat} {D : List Int}
theorem CP.ext (h : CP w g n D) (hb : Below w.heap.size w w') : CP w' g n D := by
 obtain ⟨v, h1, h2⟩ := h.htd
 have := h.sz
 exact ⟨(hb.block _ (lt_of_block h.hin)).trans h.hin, ⟨v, (hb.block _ (lt_of_block h1)).trans h1, h2.kept (row := none) ⟨hb.os, hb.tape, hb.output, hb.size, fun k hk _ => hb.block k hk⟩ (by cases v.ownBlock <;> simp)⟩, h.arr.ext hb, by have := hb.size; omega⟩
theorem CP.push (h : CP w g n D) {v v' : Value} (ho : w.ownsRow (g + 3) 3 1 v D.length (intsV D)) (ht : w.heap[g + 2]? = some (.cells #[v] 36 (0, 0))) {q : Nat} {A : Obj} (hgr : ((w.setCell ⟨g, q, none⟩ (.bool true)).alloc A).grownBy w' v.ownBlock)
  (ho' : w'.ownsRow (g + 3) 3 1 v' (D.length + 1) (intsV D ++ [.int .i64 (q : Int)])) : CP (w'.setCell ⟨g + 2, 0, none⟩ v') g n (D ++ [(q : Int)]) ∧ Below g w (w'.setCell ⟨g + 2, 0, none⟩ v') := by
 have hs := h.sz
 have hsz : w.heap.size + 1 ≤ w'.heap.size := by simpa using hgr.size
 have hk : ∀ k, k < w.heap.size → (∀ k2, v.ownBlock = some k2 → k ≠ k2) → w'.heap[k]? = (w.setCell ⟨g, q, none⟩ (.bool true)).heap[k]? := fun k hk1 hk2 => by
  rw [hgr.block k (by simp; omega) (fun e => hk2 k e.symm rfl)]
  exact Below.heap_alloc _ _ _ (by simpa using hk1)
 have hlo : ∀ k, k < g + 3 → w'.heap[k]? = (w.setCell ⟨g, q, none⟩ (.bool true)).heap[k]? := fun k hk1 => hk k (by omega) fun k2 e => by have := (ho.lt k2 e).1; omega
 refine ⟨⟨?_, ⟨v', ?_, ?_⟩, ?_, by simp; omega⟩, ?_⟩
 ·rw [heap_setCell_other _ _ _ _ (by dsimp only; omega), hlo _ (by omega), heap_setCell_other _ _ _ _ (by dsimp only; omega)]
  exact h.hin
 ·rw [heap_setCell_same w' (g + 2) 0 #[v] 36 v' ((hlo _ (by omega)).trans ((heap_setCell_other _ _ _ _ (by dsimp only; omega)).trans ht))]
  rfl
 ·rw [List.length_append, List.length_singleton]
  have e : intsV (D ++ [(q : Int)]) = intsV D ++ [.int .i64 (q : Int)] := by simp [intsV]
  rw [e]
  exact ownsRow_setCell_other ho' (fun e => by have := (ho'.lt _ e).1; dsimp only at this; omega) _
 ·rw [factsB_push]
  refine Arr.other ?_ (by dsimp only; omega) _
  exact (hlo g (by omega)).trans (h.arr.set q true)
 ·refine Below.setCell (show Below g w w' from ⟨hgr.os, hgr.tape, hgr.output, by omega, fun k hk1 => ?_⟩) (by show g ≤ g + 2; omega) _
  rw [hlo k (by omega), heap_setCell_other _ _ _ _ (by dsimp only; omega)]
end
set_option maxHeartbeats 1600000 in
theorem put_any (w : World) (g n : Nat) (D L : List Int) (v : Value) (h : CP w g n D) (hD : DOk n D) (hn : n ≤ 4096) (hL : ∀ x ∈ L, 0 ≤ x ∧ x < n) (hl : ∀ W, Below g w W → RdI W v L) :
  Calls Tryz.prog 85 #[v, .pointer (some ⟨g + 1, 0, none⟩), .pointer (some ⟨g + 2, 0, none⟩)] w (Ret fun r w' => r = .tuple #[] ∧ CP w' g n (addAll D L) ∧ Below g w w') := by
 have Hl := hid hl
 have HL := hid hL
 have HD := hid hD
 obtain ⟨A, c, rfl⟩ : ∃ A c, v = .slice A L.length c := by obtain ⟨A, c, e, _⟩ := hl w (Below.refl _ _); exact ⟨A, c, e⟩
 have hLn : L.length ≤ 140737488355328 := by obtain ⟨_, _, _, _, h9, _⟩ := hl w (Below.refl _ _); exact h9
 obtain ⟨i0, hi, hz0, hz1, hz2⟩ := info_parts infoI
 have Hh := hid h
 clear hl hL hD h
 refine post_gen fun Q HQ => ?_
 go_enter Tryz.func85, Tryz.ntmps85
 go_wp2_with fail
 go_loopw [8] (fun v8 wr => ∃ k : Nat, k ≤ L.length ∧ v8 = .int .i64 (k : Int) ∧ CP wr g n (addAll D (L.take k)) ∧ Below g w wr) (fun v8 _ => L.length - (intOf v8).toNat)
 case atStart => exact ⟨0, Nat.zero_le _, rfl, Hh.out, Below.refl _ _⟩
 case round =>
  clear Hh
  obtain ⟨k, hk, rfl, hcp, hbl⟩ := hrel
  by_cases hkl : k < L.length
  ·obtain ⟨A', c', e', _, _, hr⟩ := Hl.out wr hbl
   obtain rfl : A = A' := by injection e'
   obtain ⟨ad, rfl, hcell⟩ := hr.at1 hkl
   clear e' hr
   obtain ⟨hx0, hxn⟩ := HL.out _ (List.getElem_mem hkl)
   obtain ⟨q, hq⟩ := Int.eq_ofNat_of_zero_le hx0
   have hqn : q < n := by omega
   have hqn2 : (q : Int) < (n : Int) := by omega
   have hs := addAll_succ (D := D) hkl
   have Hok : Hid (DOk n (addAll D (L.take k))) := hid (HD.out.addAll fun x hx => HL.out x (List.mem_of_mem_take hx))
   rw [hq] at hcell hs
   unfold add1 at hs
   clear hx0 hxn
   generalize addAll D (L.take k) = E at *
   have c1 : wr.cell? ⟨g + 1, 0, none⟩ = some (.slice (some ⟨g, 0, none⟩) n n) := by rw [cell_of_row wr (g + 1) 0 _ _ _ hcp.hin]; rfl
   have hlen : (factsB n E).length = n := factsB_length _ _
   have hcq := hcp.arr.cell (i := q) (by rw [hlen]; exact hqn)
   have hcq2 : (factsB n E)[q]'(by rw [hlen]; exact hqn) = memB E (q : Int) := by simp [factsB]
   rw [hcq2] at hcq
   clear hcq2
   cases hm : memB E (q : Int) with
   | true =>
    rw [hm] at hcq
    rw [if_pos hm] at hs
    have HS := hid hs
    have Hcp := hid hcp
    clear hs hm hcp
    go_wp2_with fail
    go_roundw
    case rel => exact ⟨k + 1, by omega, by go_num, by rw [HS.out]; exact Hcp.out, hbl⟩
    case measure => simp [intOf]; omega
   | false =>
    rw [hm] at hcq
    rw [if_neg (by rw [hm]; simp)] at hs
    have HS := hid hs
    obtain ⟨v, ht, ho⟩ := hcp.htd
    have hfr := hcp.arr.free q
    have hle := Hok.out.le
    have hsz := hcp.sz
    have Hcp := hid hcp
    have ho2 := ownsRow_setCell_other (u := .bool true) (a := ⟨g, q, none⟩) ho (fun e => by have := (ho.lt _ e).1; dsimp only at this; omega)
    have c2 : (wr.setCell ⟨g, q, none⟩ (.bool true)).cell? ⟨g + 2, 0, none⟩ = some v := by
     rw [cell_of_row _ (g + 2) 0 _ _ _ ((heap_setCell_other wr _ _ _ (by dsimp only; omega)).trans ht)]; rfl
    have c3 : (wr.setCell ⟨g, q, none⟩ (.bool true)).heap.size = wr.heap.size := by simp
    have Ho := hid ho
    have Ht := hid ht
    have Haft : Hid (∀ (cA : Obj) (w' : World), ((wr.setCell ⟨g, q, none⟩ (.bool true)).alloc cA).grownBy w' v.ownBlock → w'.frozen? ⟨g + 2, 0, none⟩ = false ∧ w'.cell? ⟨g + 2, 0, none⟩ = some v) := by
     refine hid fun cA w' hg => ?_
     have h9 : w'.heap[g + 2]? = some (.cells #[v] 36 (0, 0)) := by
      rw [hg.block (g + 2) (by simp; omega) (fun e => by have := (Ho.out.lt _ e.symm).1; omega), Below.heap_alloc _ _ _ (by simp; omega), heap_setCell_other _ _ _ _ (by dsimp only; omega)]
      exact Ht.out
     exact ⟨frozen_of_row w' (g + 2) 0 _ _ h9, by rw [cell_of_row w' (g + 2) 0 _ _ _ h9]; rfl⟩
    clear hs hm hcp ho ht
    go_wp2_with (at_builtin; refine wpList_append_own_at _ rfl _ _ 36 rfl (g + 3) 3 i0 (.int .i64 0) 1 8 Tryz.underlying36 hi hz0 hz1 hz2 rfl (by decide) v E.length _ rfl (ho2.alloc _) ⟨wr.heap.size, 0, none⟩ 1 1 [.int .i64 (q : Int)] rfl rfl (by rw [← c3]; exact cell_one_new _ _ _) (fun u hu => by simp at hu; subst hu; rfl) (by unfold maxLen; omega) (by omega) (by simp; omega) ?_; intro v' w' hown hgrow hnil hat; obtain ⟨gn, cn, rfl⟩ := own_form hown; obtain ⟨hqF, hq2⟩ := Haft.out _ w' hgrow)
    go_roundw
    case rel =>
     obtain ⟨h8, h9⟩ := Hcp.out.push Ho.out Ht.out hgrow hown
     exact ⟨k + 1, by omega, by go_num, by rw [HS.out]; exact h8, Below.trans hbl h9⟩
    case measure => simp [intOf]; omega
  ·obtain rfl : k = L.length := by omega
   rw [List.take_length] at hcp
   have Hcp := hid hcp
   clear hcp
   go_wp2_with fail
   (try simp only [Exit.inBlock, Exit.then])
   refine bodyPost_end (v := .tuple #[]) (by simp [results, Tryz.results85, go_sem]; try rfl) rfl ?_
   exact Fin HQ ⟨rfl, Hcp.out, hbl⟩
set_option maxHeartbeats 800000 in
theorem cmarked_any (w : World) (v : Value) (F : List Bool) (h : RdB w v F) (hn : F.length ≤ 4096) :
  Calls Tryz.prog 86 #[v] w (Ret fun r w' => w'.ownsRow w.heap.size 3 1 r (pickL (fun q => F.getD q false) F.length).length (intsV (pickL (fun q => F.getD q false) F.length)) ∧ Below w.heap.size w w') := by
 obtain ⟨A, c, rfl, hc, hb, hr⟩ := h
 have Hr := hid hr
 obtain ⟨i0, hi, hz0, hz1, hz2⟩ := info_parts infoI
 have Hs := hid (pickL_succ (fun q => F.getD q false))
 have Hle := hid (pickL_le (fun q => F.getD q false))
 clear hr
 refine post_gen fun Q HQ => ?_
 go_enter Tryz.func86, Tryz.ntmps86
 go_wp2
 go_loopw [3, 8] (fun v3 v8 wr => ∃ k : Nat, k ≤ F.length ∧ v8 = .int .i64 k ∧ wr.ownsRow w.heap.size 3 1 v3 (pickL (fun q => F.getD q false) k).length (intsV (pickL (fun q => F.getD q false) k)) ∧ Below w.heap.size w wr) (fun _ v8 _ => F.length - (intOf v8).toNat)
 case atStart => exact ⟨0, Nat.zero_le _, rfl, by simpa [intsV, pickL] using World.ownsRow_nil _ _ _ _, ext_refl _⟩
 case round =>
  obtain ⟨k, hk, rfl, hown, hbl⟩ := hrel
  by_cases hlt : k < F.length
  ·obtain ⟨ad, rfl, hcell⟩ := (Hr.out.ext (scR_mono _) hbl).at1 hlt
   have hs := Hs.out k
   have hle := Hle.out k
   have hsz := hbl.size
   have Hown2 := hid hown
   clear hown
   have hg : F.getD k false = F[k] := by simp [hlt]
   rw [hg] at hs
   cases hp : F[k] with
   | true =>
    rw [hp, if_pos rfl] at hs
    rw [hp] at hcell
    have HS := hid hs
    generalize hL : pickL (fun q => F.getD q false) k = L at *
    clear hL hp hs hg
    go_wp2_with (at_builtin; refine wpList_append_own _ rfl _ _ 36 rfl w.heap.size 3 i0 (.int .i64 0) 1 8 Tryz.underlying36 hi hz0 hz1 hz2 rfl (by decide) _ L.length _ rfl (Hown2.out.alloc _) ⟨wr.heap.size, 0, none⟩ 1 1 [.int .i64 (k : Int)] rfl rfl (cell_one_new _ _ _) (fun u hu => by simp at hu; subst hu; rfl) (by unfold maxLen; omega) (by omega) (by simp; omega) ?_; intro v' w3 hown' hgrow3 hnil3)
    go_roundw
    case rel =>
     refine ⟨k + 1, by omega, by go_num, ?_, ?_⟩
     ·rw [HS.out, List.length_append, List.length_singleton]
      simpa [intsV] using hown'
     ·exact below_grown (hbl.alloc hsz _) (by simp; omega) hgrow3 (fun g e => (Hown2.out.lt g e).1)
    case measure => simp [intOf]; omega
   | false =>
    rw [hp, if_neg Bool.false_ne_true, List.append_nil] at hs
    rw [hp] at hcell
    have HS := hid hs
    clear hp hs hg
    go_wp2_with fail
    go_roundw
    case rel =>
     refine ⟨k + 1, by omega, by go_num, ?_, hbl⟩
     rw [HS.out]; exact Hown2.out
    case measure => simp [intOf]; omega
  ·obtain rfl : k = F.length := by omega
   go_wp2
   go_ret
   exact Fin HQ ⟨hown, hbl⟩
end Go.Proofs.Lx
