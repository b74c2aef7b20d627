/- Parts of the proof: Qb, Pl, Pm, Wb. What literals in memory read as. -/
import Derived.Test.YtalhpldbhogadaaB2
import Derived.Test.YtalhpldbhogadaaB9
import Derived.Test.YtalhpldbhogadaaB36
import Derived.Maps.AppendAt
import Derived.WalkMore
import Derived.Test.YtalhpldbhogadaaB45
import Derived.Test.YtalhpldbhogadaaB40
namespace Go.Proofs.Lx
open Go Go.RowKit
set_option linter.unusedSimpArgs false
set_option linter.unusedVariables false

theorem allocs (os : List Obj) : ∀ w : World, (os.foldl World.alloc w).heap.size = w.heap.size + os.length ∧ (∀ i o, os[i]? = some o → (os.foldl World.alloc w).heap[w.heap.size + i]? = some o) ∧ Below w.heap.size w (os.foldl World.alloc w) := by
  induction os with
  | nil => intro w; exact ⟨rfl, fun i o h => by simp at h, Below.refl _ _⟩
  | cons o os ih =>
    intro w
    obtain ⟨h1, h2, h3⟩ := ih (w.alloc o)
    rw [World.size_alloc] at h1 h2
    have hb : Below w.heap.size w (os.foldl World.alloc (w.alloc o)) := ext_trans (ext_alloc w o) h3
    refine ⟨by rw [List.foldl_cons, h1, List.length_cons]; omega, fun i x hi => ?_, hb⟩
    match i, hi with
    | 0, hi =>
      simp at hi; subst hi
      rw [List.foldl_cons, Nat.add_zero]
      exact (h3.block w.heap.size (by rw [World.size_alloc]; omega)).trans (heap_alloc_new w _)
    | i + 1, hi =>
      rw [List.foldl_cons, show w.heap.size + (i + 1) = w.heap.size + 1 + i by omega]
      exact h2 i x (by simpa using hi)
theorem rd_lit1 {α : Type} {R : World → α → List Value → Prop} {W : World} {g n : Nat} {e : TypeId} {cur : Array Value} {xs : List α} (hh : W.heap[g]? = some (.cells cur e (0, 0))) (hn : n = xs.length) (hb : xs.length ≤ 140737488355328)
    (hr : ∀ i (h : i < xs.length), ∃ v, cur[i]? = some v ∧ R W xs[i] [v]) : Rd 1 R W (.slice (some ⟨g, 0, none⟩) n n) xs := by
  subst hn
  refine ⟨_, _, rfl, Nat.le_refl _, hb, fun i hi => ?_⟩
  obtain ⟨v, h1, h2⟩ := hr i hi
  refine ⟨_, [v], rfl, h2, rfl, fun j u hu => ?_⟩
  match j, hu with
  | 0, hu =>
    simp at hu; subst hu
    rw [show i * 1 + 0 = i by omega, add_plain, cell_of_row W g i cur e _ hh]
    exact h1
theorem rd_lit3 {α : Type} {R : World → α → List Value → Prop} {W : World} {g n : Nat} {e : TypeId} {cur : Array Value} {xs : List α} (hh : W.heap[g]? = some (.cells cur e (0, 0))) (hn : n = xs.length) (hb : xs.length ≤ 140737488355328)
    (hr : ∀ i (h : i < xs.length), ∃ a b c, cur[i * 3]? = some a ∧ cur[i * 3 + 1]? = some b ∧ cur[i * 3 + 2]? = some c ∧ R W xs[i] [a, b, c]) : Rd 3 R W (.slice (some ⟨g, 0, none⟩) n n) xs := by
  subst hn
  refine ⟨_, _, rfl, Nat.le_refl _, hb, fun i hi => ?_⟩
  obtain ⟨a, b, c, h1, h2, h3, h4⟩ := hr i hi
  refine ⟨_, [a, b, c], rfl, h4, rfl, fun j u hu => ?_⟩
  rw [add_plain, cell_of_row W g _ cur e _ hh]
  match j, hu with
  | 0, hu => simp at hu; subst hu; exact h1
  | 1, hu => simp at hu; subst hu; exact h2
  | 2, hu => simp at hu; subst hu; exact h3
theorem rd_int1 {W : World} {g : Nat} {e : TypeId} {x : Int} (hh : W.heap[g]? = some (.cells #[.int .i64 x] e (0, 0))) : RdI W (.slice (some ⟨g, 0, none⟩) 1 1) [x] := by
  refine rd_lit1 hh rfl (by simp) fun i hi => ?_
  simp at hi; subst hi
  exact ⟨_, rfl, rfl⟩
/-- All cells of a slice of the call's own. -/
theorem own_all {w : World} {base e n : Nat} {v : Value} {xs : List Value} (h : w.ownsRow base e 1 v n xs) (hn : 0 < n) : ∃ g cap, v = .slice (some ⟨g, 0, none⟩) n cap ∧ base ≤ g ∧ g < w.heap.size ∧ ∀ i x, xs[i]? = some x → w.cell? ⟨g, i, none⟩ = some x := by
  rcases h.2 with ⟨h1, h2⟩ | ⟨gg, cp, cur, h1, h2, h3, h4, h5, h6, h7⟩
  · omega
  · subst h1
    refine ⟨gg, cp, rfl, h2, (Array.getElem?_eq_some_iff.1 h3).1, fun i x hx => ?_⟩
    have := h.cells (g := gg) rfl i x hx
    rwa [add_plain] at this
end Go.Proofs.Lx

namespace Go.Proofs.Lx
open Go Go.RowKit
set_option linter.unusedSimpArgs false
set_option linter.unusedVariables false

theorem list_eq_of {X Y : List Nat} (hl : X.length = Y.length) (h : ∀ i (h1 : i < X.length) (h2 : i < Y.length), X[i] = Y[i]) : X = Y := List.ext_getElem hl h

set_option maxHeartbeats 800000 in
theorem sameM_any (w : World) (v1 v2 : Value) (X Y : List Nat) (h1 : RdMk w v1 X) (h2 : RdMk w v2 Y) :
    Calls Try.prog 23 #[v1, v2] w (Ret fun v w' => v = .bool (decide (X = Y)) ∧ Below w.heap.size w w') := by
  obtain ⟨A, c, rfl, hc, hb, hr⟩ := h1
  obtain ⟨B, d, rfl, hd, hb2, hr2⟩ := h2
  refine post_gen fun Q HQ => ?_
  go_enter Try.func23, Try.ntmps23
  by_cases hl : X.length = Y.length
  case neg =>
    have hne : ((X.length : Int) != (Y.length : Int)) = true := by simp; omega
    have HL := hid hl
    clear hl
    go_wp2
    go_ret
    exact Fin HQ ⟨by rw [decide_eq_false fun e : X = Y => HL.out (by rw [e])]; rfl, ext_refl _⟩
  have HL := hid hl
  generalize hn : X.length = n at *
  have Hn := hid hn
  clear hn
  rw [← HL.out] at hd hb2
  rw [← HL.out]
  clear hl
  go_wp2
  go_loopw [5] (fun v5 wr => ∃ k : Nat, k ≤ n ∧ v5 = .int .i64 k ∧ Hid (∀ i (h1 : i < X.length) (h2 : i < Y.length), i < k → X[i] = Y[i]) ∧ Below w.heap.size w wr) (fun v5 _ => n - (intOf v5).toNat)
  case atStart => exact ⟨0, Nat.zero_le _, rfl, fun i _ _ h => absurd h (by omega), ext_refl _⟩
  case round =>
    obtain ⟨k, hk, rfl, heq, hbl⟩ := hrel
    by_cases hlt : k < n
    · have hx : k < X.length := by rw [Hn.out]; exact hlt
      have hy : k < Y.length := by rw [← HL.out]; exact hlt
      obtain ⟨ad, rfl, hcX⟩ := (hr.ext (scR_mono _) hbl).at1 hx
      obtain ⟨ad2, rfl, hcY⟩ := (hr2.ext (scR_mono _) hbl).at1 hy
      have Hx := hid (And.intro hx hy)
      have hXk : ∃ x, Hid (X[k] = x) := ⟨_, hid rfl⟩
      obtain ⟨x, HX⟩ := hXk
      have hYk : ∃ y, Hid (Y[k] = y) := ⟨_, hid rfl⟩
      obtain ⟨y, HY⟩ := hYk
      rw [HX.out] at hcX
      rw [HY.out] at hcY
      by_cases hxy : x = y
      · have hne : ((x : Int) != (y : Int)) = false := by simp [hxy]
        have Hxy := hid hxy
        clear hxy
        go_wp2
        go_quiet (fail)
        go_wp2
        go_roundw
        case rel =>
          refine ⟨k + 1, by omega, by go_num, hid fun i h1 h2 hi => ?_, below_drewN hbl _⟩
          by_cases e : i = k
          · subst e; rw [HX.out, HY.out]; exact Hxy.out
          · exact heq.out i h1 h2 (by omega)
        case measure => simp [intOf]; omega
      · have hne : ((x : Int) != (y : Int)) = true := by simp; omega
        have Hxy := hid hxy
        clear hxy
        go_wp2
        go_quiet (fail)
        go_wp2
        go_ret
        refine Fin HQ ⟨?_, below_drewN hbl _⟩
        have hne2 : X ≠ Y := by
          intro e
          subst e
          exact Hxy.out (HX.out.symm.trans HY.out)
        rw [decide_eq_false hne2]; rfl
    · go_wp2
      go_ret
      refine Fin HQ ⟨?_, hbl⟩
      have heq2 : X = Y := list_eq_of (by rw [Hn.out]; exact HL.out) fun i h1 h2 => heq.out i h1 h2 (by rw [Hn.out] at h1; omega)
      rw [decide_eq_true heq2]; rfl

set_option maxHeartbeats 800000 in
theorem copyM_any (w : World) (v : Value) (M : List Nat) (hv : RdMk w v M) :
    Calls Try.prog 24 #[v] w (Ret fun r w' => w'.ownsRow w.heap.size 33 1 r M.length (marksV M) ∧ Below w.heap.size w w') := by
  obtain ⟨A, c, rfl, hc, hb, hr⟩ := hv
  obtain ⟨i0, hi, hz0, hz1, hz2⟩ := info_parts infoM
  refine post_gen fun Q HQ => ?_
  generalize hn : M.length = n at *
  have Hn := hid hn
  clear hn
  go_enter Try.func24, Try.ntmps24
  go_wp2
  go_loopw [3, 4] (fun v3 v4 wr => ∃ k : Nat, k ≤ n ∧ v4 = .int .i64 k ∧ wr.ownsRow w.heap.size 33 1 v3 k (marksV (M.take k)) ∧ Below w.heap.size w wr) (fun _ v4 _ => n - (intOf v4).toNat)
  case atStart => exact ⟨0, Nat.zero_le _, rfl, by simpa [marksV] using World.ownsRow_nil _ _ _ _, ext_refl _⟩
  case round =>
    obtain ⟨k, hk, rfl, hown, hbl⟩ := hrel
    by_cases hlt : k < n
    · have hx : k < M.length := by rw [Hn.out]; exact hlt
      obtain ⟨ad, rfl, hcX⟩ := (hr.ext (scR_mono _) hbl).at1 hx
      have hXk : ∃ x, Hid (M[k] = x) := ⟨_, hid rfl⟩
      obtain ⟨x, HX⟩ := hXk
      rw [HX.out] at hcX
      have Hx := hid hx
      have Hown := hid hown
      have hsz := hbl.size
      obtain ⟨Wn, HWn⟩ : ∃ Wn, Hid (Wn = wr.alloc (.cells #[.int .u8 (x : Int)] 33)) := ⟨_, hid rfl⟩
      clear hown
      go_wp2_with (at_builtin; refine wpList_append_own _ rfl _ _ 28 rfl w.heap.size 33 i0 (.int .u8 0) 1 1 Try.underlying28 hi hz0 hz1 hz2 rfl (by decide) _ k _ rfl (Hown.out.alloc _) ⟨wr.heap.size, 0, none⟩ 1 1 [.int .u8 (x : Int)] rfl rfl (cell_one_new _ _ _) (fun u hu => by simp at hu; subst hu; rfl) (by unfold maxLen; omega) (by omega) (by simp; omega) ?_; intro v' w3 hown' hgrow3 hnil3)
      go_roundw
      case rel =>
        refine ⟨k + 1, by omega, by go_num, ?_, ?_⟩
        · rw [List.take_succ_eq_append_getElem Hx.out, HX.out]
          simpa [marksV] using hown'
        · refine (hbl.alloc hsz _).trans ⟨hgrow3.os, hgrow3.tape, hgrow3.output, ?_, fun g hg => hgrow3.block g (by simp; omega) (fun e => ?_)⟩
          · exact hgrow3.size
          · have := (Hown.out.lt g e.symm).1; omega
      case measure => simp [intOf]; omega
    · have e : k = n := by omega
      subst e
      go_wp2
      go_ret
      refine Fin HQ ⟨?_, hbl⟩
      rw [List.take_of_length_le (by rw [Hn.out]; exact Nat.le_refl _)] at hown
      exact hown
end Go.Proofs.Lx

namespace Go.Proofs.Lx
open Go Go.RowKit
set_option linter.unusedSimpArgs false
set_option linter.unusedVariables false

/-- Within the reach, told by bytes. -/
structure Small (T : Th) : Prop where
  f : T.foes.length * 24 ≤ 140737488355328
  fr : ∀ l ∈ T.foes, l.length * 8 ≤ 140737488355328
  r : T.rules.length * 40 ≤ 140737488355328
  rb : ∀ r ∈ T.rules, r.body.length * 8 ≤ 140737488355328
  b : T.beats.length * 24 ≤ 140737488355328
  br : ∀ l ∈ T.beats, l.length * 8 ≤ 140737488355328

theorem own_ext {w w' : World} {base e size n : Nat} {v : Value} {xs : List Value} (h : w.ownsRow base e size v n xs) (hb : Below w.heap.size w w') : w'.ownsRow base e size v n xs :=
  h.kept (row := none) ⟨hb.os, hb.tape, hb.output, hb.size, fun k hk _ => hb.block k hk⟩ (by cases v.ownBlock <;> simp)
theorem grown_any {w w' : World} (hb : Below w.heap.size w w') (row : Option Nat) : w.grownBy w' row := ⟨hb.os, hb.tape, hb.output, hb.size, fun k hk _ => hb.block k hk⟩
/-- Growth of a row of the call's own leaves what lies below. -/
theorem below_grown {B : Nat} {w wr w' : World} {row : Option Nat} (hb : Below B w wr) (hB : B ≤ wr.heap.size) (hg : wr.grownBy w' row) (hr : ∀ g, row = some g → B ≤ g) : Below B w w' :=
  hb.trans ⟨hg.os, hg.tape, hg.output, hg.size, fun g hgl => hg.block g (by omega) (fun e => by have := hr g e.symm; omega)⟩

set_option maxHeartbeats 800000 in
theorem copyI_any (w : World) (v : Value) (l : List Int) (hv : RdI w v l) (h8 : l.length * 8 ≤ 140737488355328) :
    Calls Try.prog 29 #[v] w (Ret fun r w' => w'.ownsRow w.heap.size 3 1 r l.length (intsV l) ∧ Below w.heap.size w w') := by
  obtain ⟨A, c, rfl, hc, hb, hr⟩ := hv
  obtain ⟨i0, hi, hz0, hz1, hz2⟩ := info_parts infoI
  refine post_gen fun Q HQ => ?_
  generalize hn : l.length = n at *
  have Hn := hid hn
  clear hn
  go_enter Try.func29, Try.ntmps29
  go_wp2
  go_loopw [3, 4] (fun v3 v4 wr => ∃ k : Nat, k ≤ n ∧ v4 = .int .i64 k ∧ wr.ownsRow w.heap.size 3 1 v3 k (intsV (l.take k)) ∧ Below w.heap.size w wr) (fun _ v4 _ => n - (intOf v4).toNat)
  case atStart => exact ⟨0, Nat.zero_le _, rfl, by simpa [intsV] using World.ownsRow_nil _ _ _ _, ext_refl _⟩
  case round =>
    obtain ⟨k, hk, rfl, hown, hbl⟩ := hrel
    by_cases hlt : k < n
    · have hx : k < l.length := by rw [Hn.out]; exact hlt
      obtain ⟨ad, rfl, hcX⟩ := (hr.ext (scR_mono _) hbl).at1 hx
      have hXk : ∃ x, Hid (l[k] = x) := ⟨_, hid rfl⟩
      obtain ⟨x, HX⟩ := hXk
      rw [HX.out] at hcX
      have Hx := hid hx
      have Hown := hid hown
      have hsz := hbl.size
      clear hown
      go_wp2_with (at_builtin; refine wpList_append_own _ rfl _ _ 26 rfl w.heap.size 3 i0 (.int .i64 0) 1 8 Try.underlying26 hi hz0 hz1 hz2 rfl (by decide) _ k _ rfl (Hown.out.alloc _) ⟨wr.heap.size, 0, none⟩ 1 1 [.int .i64 x] rfl rfl (cell_one_new _ _ _) (fun u hu => by simp at hu; subst hu; rfl) (by unfold maxLen; omega) (by omega) (by simp; omega) ?_; intro v' w3 hown' hgrow3 hnil3)
      go_roundw
      case rel =>
        refine ⟨k + 1, by omega, by go_num, ?_, ?_⟩
        · rw [List.take_succ_eq_append_getElem Hx.out, HX.out]
          simpa [intsV] using hown'
        · exact below_grown (hbl.alloc hsz _) (by simp; omega) hgrow3 (fun g e => (Hown.out.lt g e).1)
      case measure => simp [intOf]; omega
    · have e : k = n := by omega
      subst e
      go_wp2
      go_ret
      refine Fin HQ ⟨?_, hbl⟩
      rw [List.take_of_length_le (by rw [Hn.out]; exact Nat.le_refl _)] at hown
      exact hown

theorem own_form0 {w : World} {base e size n : Nat} {v : Value} {xs : List Value} (h : w.ownsRow base e size v n xs) : ∃ A c, v = .slice A n c := by
  rcases h.2 with ⟨h1, h2⟩ | ⟨g, cap, cur, h1, _⟩
  · exact ⟨none, 0, by rw [h1, h2]⟩
  · exact ⟨_, _, h1⟩
/-- Rows of the call's own, apart from the list of them. -/
def KeptRows (base : Nat) (wr : World) (v3 : Value) (vs : List Value) (L : List (List Int)) : Prop :=
  vs.length = L.length ∧ ∀ i (h1 : i < vs.length) (h2 : i < L.length), wr.ownsRow base 3 1 vs[i] L[i].length (intsV L[i]) ∧ (vs[i].ownBlock = none ∨ vs[i].ownBlock ≠ v3.ownBlock)
theorem own_lower {w : World} {base base' e size n : Nat} {v : Value} {xs : List Value} (h : w.ownsRow base e size v n xs) (hb : base' ≤ base) : w.ownsRow base' e size v n xs :=
  ⟨h.1, h.2.imp id fun ⟨g, cap, cur, h1, h2, h3⟩ => ⟨g, cap, cur, h1, Nat.le_trans hb h2, h3⟩⟩
theorem KeptRows.push {wr w1 w2 w3 : World} {base : Nat} {v3 v' : Value} {vs : List Value} {L : List (List Int)} {x : Value} {l : List Int} (h : KeptRows base wr v3 vs L) (hbs : base ≤ wr.heap.size) (hv3 : ∀ g, v3.ownBlock = some g → g < wr.heap.size)
    (hx : w1.ownsRow wr.heap.size 3 1 x l.length (intsV l)) (hb1 : Below wr.heap.size wr w1) (hb2 : Below w1.heap.size w1 w2) (hg : w2.grownBy w3 v3.ownBlock) (hat : v'.ownBlock = v3.ownBlock ∨ v'.ownBlock = some w2.heap.size) : KeptRows base w3 v' (vs ++ [x]) (L ++ [l]) := by
  refine ⟨by simp [h.1], fun i h1 h2 => ?_⟩
  have hle1 := hb1.size
  have hle2 := hb2.size
  by_cases e : i < vs.length
  · rw [List.getElem_append_left e]
    have e2 : (L ++ [l])[i] = L[i]'(by rw [← h.1]; exact e) := List.getElem_append_left (by rw [← h.1]; exact e)
    rw [e2]
    obtain ⟨k1, k2⟩ := h.2 i e (by rw [← h.1]; exact e)
    refine ⟨((own_ext (own_ext k1 hb1) hb2).kept hg k2), ?_⟩
    cases ho : vs[i].ownBlock with
    | none => exact .inl rfl
    | some g =>
      right
      rcases hat with h6 | h6
      · rw [h6, ← ho]; exact k2.resolve_left (by rw [ho]; simp)
      · rw [h6]; intro e3
        have e4 := Option.some.inj e3
        have := (k1.lt g ho).2; omega
  · obtain rfl : i = vs.length := by simp at h1; omega
    have e2 : (vs ++ [x])[vs.length]'(by simp) = x := by simp
    have e3 : (L ++ [l])[vs.length]'(by simp [h.1]) = l := by simp [h.1]
    rw [e2, e3]
    refine ⟨own_lower ((own_ext hx hb2).kept hg (by
      cases ho : x.ownBlock with
      | none => exact .inl rfl
      | some k => right; intro e4; have := (hx.lt k ho).1; have := hv3 k e4.symm; omega)) hbs, ?_⟩
    cases ho : x.ownBlock with
    | none => exact .inl rfl
    | some k =>
      right; intro e4
      have h5 := hx.lt k ho
      rcases hat with h6 | h6
      · have := hv3 k (by rw [← h6, ← e4]); omega
      · rw [h6] at e4; cases e4; omega
theorem own_heap {w w' : World} {base e size n : Nat} {v : Value} {xs : List Value} (h : w.ownsRow base e size v n xs) (hk : ∀ g, base ≤ g → g < w.heap.size → w'.heap[g]? = w.heap[g]?) : w'.ownsRow base e size v n xs := by
  refine ⟨h.1, ?_⟩
  rcases h.2 with h1 | ⟨g, cap, cur, h1, h2, h3, h4⟩
  · exact .inl h1
  · exact .inr ⟨g, cap, cur, h1, h2, (hk g h2 (lt_of_block h3)).trans h3, h4⟩
/-- A list of rows, all of the call's own. -/
def OwnLL (base : Nat) (w : World) (v : Value) (L : List (List Int)) : Prop :=
  ∃ vs : List Value, vs.length = L.length ∧ w.ownsRow base 26 1 v L.length vs ∧ ∀ i (h1 : i < vs.length) (h2 : i < L.length), w.ownsRow base 3 1 vs[i] L[i].length (intsV L[i])
theorem OwnLL.keep {base : Nat} {w w' : World} {v : Value} {L : List (List Int)} (h : OwnLL base w v L) (hk : ∀ g, base ≤ g → g < w.heap.size → w'.heap[g]? = w.heap[g]?) : OwnLL base w' v L := by
  obtain ⟨vs, h1, h2, h3⟩ := h
  exact ⟨vs, h1, own_heap h2 hk, fun i a b => own_heap (h3 i a b) hk⟩

theorem own_rows {w : World} {base eS : Nat} {v : Value} {vs : List Value} {L : List (List Int)} (h : w.ownsRow base eS 1 v vs.length vs) (hk : vs.length = L.length) (hl : L.length ≤ 140737488355328)
    (hr : ∀ i (h1 : i < vs.length) (h2 : i < L.length), RdI w vs[i] L[i]) : RdLL w v L := by
  rcases h.2 with ⟨rfl, h0⟩ | ⟨gg, cap, cur, rfl, _, _, hc, _⟩
  · exact ⟨none, 0, by rw [← hk, h0], by omega, hl, fun i hi => absurd hi (by omega)⟩
  · refine ⟨_, cap, by rw [hk], by omega, hl, fun i hi => ⟨_, [vs[i]'(by omega)], rfl, ⟨_, rfl, hr i (by omega) hi⟩, rfl, fun j u hu => ?_⟩⟩
    match j, hu with
    | 0, hu =>
      simp at hu; subst hu
      have := h.cells (g := gg) rfl i (vs[i]'(by omega)) (by simp [show i < vs.length by omega])
      rw [Nat.add_zero, Nat.mul_one]; exact this

theorem OwnLL.rd {base : Nat} {w : World} {v : Value} {L : List (List Int)} (h : OwnLL base w v L) (hl : L.length ≤ 140737488355328) (hr : ∀ l ∈ L, l.length ≤ 140737488355328) : RdLL w v L := by
  obtain ⟨vs, h1, h2, h3⟩ := h
  rw [← h1] at h2
  exact own_rows h2 h1 hl fun i a b => own_rdI (h3 i a b) (hr _ (List.getElem_mem b))

set_option maxRecDepth 100000 in
set_option maxHeartbeats 1600000 in
theorem copyLL_any (w : World) (v : Value) (L : List (List Int)) (hv : RdLL w v L) (h24 : L.length * 24 ≤ 140737488355328) (h8 : ∀ l ∈ L, l.length * 8 ≤ 140737488355328) :
    Calls Try.prog 64 #[v] w (Ret fun r w' => OwnLL w.heap.size w' r L ∧ Below w.heap.size w w') := by
  obtain ⟨A, c, rfl, hc, hb, hr⟩ := hv
  obtain ⟨i0, hi, hz0, hz1, hz2⟩ := info_parts infoL
  refine post_gen fun Q HQ => ?_
  have H8 := hid h8
  generalize hn : L.length = n at *
  have Hn := hid hn
  clear hn h8
  go_enter Try.func64, Try.ntmps64
  go_wp2
  go_loopw [3, 4] (fun v3 v4 wr => ∃ (k : Nat) (vs : List Value), k ≤ n ∧ v4 = .int .i64 k ∧ wr.ownsRow w.heap.size 26 1 v3 k vs ∧ Hid (KeptRows w.heap.size wr v3 vs (L.take k)) ∧ Below w.heap.size w wr) (fun _ v4 _ => n - (intOf v4).toNat)
  case atStart => exact ⟨0, [], Nat.zero_le _, rfl, World.ownsRow_nil _ _ _ _, hid ⟨by simp, fun i h => absurd h (by simp)⟩, ext_refl _⟩
  case round =>
    obtain ⟨k, vs, hk, rfl, hown, hkept, hbl⟩ := hrel
    by_cases hlt : k < n
    · have hx : k < L.length := by rw [Hn.out]; exact hlt
      obtain ⟨ad, B, cB, rfl, hcX, hcB, hbB, hrB⟩ := (hr.ext llR_mono hbl).atRow hx
      have Hcall := hid (copyI_any wr _ L[k] (⟨B, cB, rfl, hcB, hbB, hrB⟩ : RdI wr (.slice B L[k].length cB) L[k]) (H8.out _ (List.getElem_mem hx)))
      have hXk : ∃ x, Hid (L[k] = x) := ⟨_, hid rfl⟩
      obtain ⟨x, HX⟩ := hXk
      rw [HX.out] at hcX hbB Hcall
      have Hx := hid hx
      have Hown := hid hown
      have hsz := hbl.size
      clear hown hrB
      go_wp2_with (first | (go_at_call 29; refine Hcall.out.mono ?_; rintro e w1 ⟨r1, rfl, hr1, hb1⟩; have hs1 := hb1.size; have Hr1 := hid hr1; have Hown1 := hid (own_ext Hown.out hb1); clear hr1; obtain ⟨B1, c1, rfl⟩ := own_form0 Hr1.out) | (at_builtin; refine wpList_append_own_at _ rfl _ _ 22 rfl w.heap.size 26 i0 (.slice none 0 0) 1 24 Try.underlying22 hi hz0 hz1 hz2 rfl (by decide) _ k _ rfl (Hown1.out.alloc _) ⟨w1.heap.size, 0, none⟩ 1 1 [.slice B1 x.length c1] rfl rfl (cell_one_new _ _ _) (fun u hu => by simp at hu; subst hu; rfl) (by unfold maxLen; omega) (by omega) (by simp; omega) ?_; intro v' w3 hown' hgrow3 hnil3 hat3))
      go_roundw
      case rel =>
        refine ⟨k + 1, vs ++ [.slice B1 x.length c1], by omega, by go_num, hown', hid ?_, ?_⟩
        · rw [List.take_succ_eq_append_getElem Hx.out, HX.out]
          exact hkept.out.push hsz (fun g e => (Hown.out.lt g e).2) Hr1.out hb1 (ext_alloc w1 _) hgrow3 hat3
        · exact below_grown ((ext_trans hbl hb1).alloc (by omega) _) (by simp; omega) hgrow3 (fun g e => (Hown.out.lt g e).1)
      case measure => simp [intOf]; omega
    · have e : k = n := by omega
      subst e
      go_wp2
      go_ret
      refine Fin HQ ⟨?_, hbl⟩
      rw [List.take_of_length_le (by rw [Hn.out]; exact Nat.le_refl _)] at hkept
      rw [← Hn.out] at hown
      exact ⟨vs, hkept.out.1, hown, fun i a b => (hkept.out.2 i a b).1⟩
end Go.Proofs.Lx

namespace Go.Proofs.Lx
open Go Go.RowKit Go.Proofs.Tj
set_option linter.unusedSimpArgs false
set_option linter.unusedVariables false
/-- What run answers: the engine, and what it says. -/
def RunRes (w : World) (T : Th) (l : List Int) (v : Value) (w' : World) : Prop := ∃ (G : Gh) (S : Stc) (D : Dyn) (W0 : World) (vT : Value), v = .pointer (some ⟨G.b, 0, none⟩) ∧ FEnd T (l.map Int.toNat) S D ∧ S.n = T.foes.length ∧ FRes T l D ∧ Below w.heap.size w W0 ∧ EngV w' W0 G S T D vT
theorem frun_any (w : World) (V vl : Value) (T : Th) (l : List Int) (hT : RdTh w V T) (hl : RdI w vl l) (hwf : WfTh T) (hr : risB l T.lits = true) :
    Calls Try.prog 71 #[V, vl] w (Ret (RunRes w T l)) := by
  obtain ⟨hfl, el⟩ := facts_nat hwf hr
  have hin := layIn_of hwf hfl
  have h := erun_any w V vl T (fun S D => S = lS3 T (l.map Int.toNat) ∧ D = lD8 T (l.map Int.toNat)) hT (fun w1 V1 hb h1 => (elay_any w1 V1 vl T (l.map Int.toNat) h1 (by rw [← el]; exact hl.ext (scR_mono _) hb) hin).mono fun e w' h => h.mono fun v w' ⟨W0, G, hv, x1, x2, hb, he⟩ =>
    ⟨W0, G, _, _, ⟨rfl, rfl⟩, hv, x1, x2, sok3 hwf hfl, hin.sP, (lay_queued hwf hfl).1, hb, he⟩)
  refine h.mono fun e w' h => h.mono ?_
  rintro v w' ⟨G, S, D, W0, k, ⟨rfl, rfl⟩, hv, h1, h2, hti, hb, vT, he⟩
  have hf : FEnd T (l.map Int.toNat) (lS3 T (l.map Int.toNat)) (iterD (lS3 T (l.map Int.toNat)) (looksD (lD8 T (l.map Int.toNat)) T.foes.length) k) := ⟨rfl, k, rfl, h2, h1⟩
  exact ⟨G, _, _, W0, vT, hv, hf, rfl, fres_of hwf hr hf, hb, he⟩
/-- The cells that are read of it. -/
structure EndAt (w w' : World) (T : Th) (l : List Int) (D : Dyn) (b : Nat) (vM vT : Value) : Prop where
  bel : Below w.heap.size w w'
  c4 : w'.cell? ⟨b, 4, none⟩ = some vM
  c5 : w'.cell? ⟨b, 5, none⟩ = some vT
  c7 : w'.cell? ⟨b, 7, none⟩ = some (.int .i64 D.queued)
  c8 : w'.cell? ⟨b, 8, none⟩ = some (.int .i64 D.upd)
  mo : w'.ownsRow w.heap.size 33 1 vM T.foes.length (marksV (solveM T l))
  tow : w'.ownsRow w.heap.size 112 2 vT D.told.length (toldV D.told)
  bge : w.heap.size ≤ b
theorem RunRes.flat {w w' : World} {T : Th} {l : List Int} {v : Value} (h : RunRes w T l v w') : ∃ b D vM vT, v = .pointer (some ⟨b, 0, none⟩) ∧ EndAt w w' T l D b vM vT ∧ FRes T l D ∧ ∃ S, FEnd T (l.map Int.toNat) S D := by
  obtain ⟨G, S, D, W0, vT, rfl, hf, hn, hres, hb, he⟩ := h
  have h4 := he.hMarks
  have hm : w'.ownsRow W0.heap.size 33 1 (sl (G.g .marks) S.n) S.n (tab S.n fun q => Value.int .u8 (D.marks q : Int)) := he.sp.ok .marks
  rw [hn] at h4 hm
  refine ⟨G.b, D, _, vT, rfl, ⟨ext_trans hb he.sp.old, h4, he.hTold, he.hQueued, he.hUpd, ?_, own_lower he.toldOwn hb.size, Nat.le_trans hb.size he.sp.hb⟩, hres, S, hf⟩
  have e : marksV (solveM T l) = tab T.foes.length fun q => Value.int .u8 (D.marks q : Int) := by
    rw [← hres.mks]; unfold tab marksV; rw [List.map_map]; rfl
  rw [e]
  exact own_lower hm hb.size
theorem rd_row1 {W : World} {g : Nat} {e : TypeId} {v : Value} {x : List Int} (hh : W.heap[g]? = some (.cells #[v] e (0, 0))) (hv : RdI W v x) : RdLL W (.slice (some ⟨g, 0, none⟩) 1 1) [x] := by
  refine rd_lit1 hh rfl (by simp) fun i hi => ?_
  simp at hi; subst hi
  exact ⟨_, rfl, _, rfl, hv⟩
theorem rd_row2 {W : World} {g : Nat} {e : TypeId} {v u : Value} {x y : List Int} (hh : W.heap[g]? = some (.cells #[v, u] e (0, 0))) (hv : RdI W v x) (hu : RdI W u y) : RdLL W (.slice (some ⟨g, 0, none⟩) 2 2) [x, y] := by
  refine rd_lit1 hh rfl (by simp) fun i hi => ?_
  match i, hi with
  | 0, _ => exact ⟨_, rfl, _, rfl, hv⟩
  | 1, _ => exact ⟨_, rfl, _, rfl, hu⟩
end Go.Proofs.Lx
