/- Contracts of lexpriorplain's functions over marks: SameMarks, CopyMarks; the law's in. -/
import Derived.Test.YtalhpldbhogadaaNd
import Derived.Test.YtalhpldbhogadaaNf
import Derived.Test.YtalhpldbhogadaaQb
namespace Go.Proofs.Lx
open Go Go.RowKit
set_option linter.unusedSimpArgs false
set_option linter.unusedVariables false

theorem list_eq_of {X Y : List Nat} (hl : X.length = Y.length) (h : ∀ i (h1 : i < X.length) (h2 : i < Y.length), X[i] = Y[i]) : X = Y := List.ext_getElem hl h

set_option maxHeartbeats 800000 in
theorem sameM_any (w : World) (v1 v2 : Value) (X Y : List Nat) (h1 : RdMk w v1 X) (h2 : RdMk w v2 Y) :
    Calls Try.prog 23 #[v1, v2] w (Ret fun v w' => v = .bool (decide (X = Y)) ∧ Below w.heap.size w w') := by
  obtain ⟨A, c, rfl, hc, hb, hr⟩ := h1
  obtain ⟨B, d, rfl, hd, hb2, hr2⟩ := h2
  refine post_gen fun Q HQ => ?_
  go_enter Try.func23, Try.ntmps23
  by_cases hl : X.length = Y.length
  case neg =>
    have hne : ((X.length : Int) != (Y.length : Int)) = true := by simp; omega
    have HL := hid hl
    clear hl
    go_wp2
    go_ret
    exact Fin HQ ⟨by rw [decide_eq_false fun e : X = Y => HL.out (by rw [e])]; rfl, ext_refl _⟩
  have HL := hid hl
  generalize hn : X.length = n at *
  have Hn := hid hn
  clear hn
  rw [← HL.out] at hd hb2
  rw [← HL.out]
  clear hl
  go_wp2
  go_loopw [5] (fun v5 wr => ∃ k : Nat, k ≤ n ∧ v5 = .int .i64 k ∧ Hid (∀ i (h1 : i < X.length) (h2 : i < Y.length), i < k → X[i] = Y[i]) ∧ Below w.heap.size w wr) (fun v5 _ => n - (intOf v5).toNat)
  case atStart => exact ⟨0, Nat.zero_le _, rfl, fun i _ _ h => absurd h (by omega), ext_refl _⟩
  case round =>
    obtain ⟨k, hk, rfl, heq, hbl⟩ := hrel
    by_cases hlt : k < n
    · have hx : k < X.length := by rw [Hn.out]; exact hlt
      have hy : k < Y.length := by rw [← HL.out]; exact hlt
      obtain ⟨ad, rfl, hcX⟩ := (hr.ext (scR_mono _) hbl).at1 hx
      obtain ⟨ad2, rfl, hcY⟩ := (hr2.ext (scR_mono _) hbl).at1 hy
      have Hx := hid (And.intro hx hy)
      have hXk : ∃ x, Hid (X[k] = x) := ⟨_, hid rfl⟩
      obtain ⟨x, HX⟩ := hXk
      have hYk : ∃ y, Hid (Y[k] = y) := ⟨_, hid rfl⟩
      obtain ⟨y, HY⟩ := hYk
      rw [HX.out] at hcX
      rw [HY.out] at hcY
      by_cases hxy : x = y
      · have hne : ((x : Int) != (y : Int)) = false := by simp [hxy]
        have Hxy := hid hxy
        clear hxy
        go_wp2
        go_quiet (fail)
        go_wp2
        go_roundw
        case rel =>
          refine ⟨k + 1, by omega, by go_num, hid fun i h1 h2 hi => ?_, below_drewN hbl _⟩
          by_cases e : i = k
          · subst e; rw [HX.out, HY.out]; exact Hxy.out
          · exact heq.out i h1 h2 (by omega)
        case measure => simp [intOf]; omega
      · have hne : ((x : Int) != (y : Int)) = true := by simp; omega
        have Hxy := hid hxy
        clear hxy
        go_wp2
        go_quiet (fail)
        go_wp2
        go_ret
        refine Fin HQ ⟨?_, below_drewN hbl _⟩
        have hne2 : X ≠ Y := by
          intro e
          subst e
          exact Hxy.out (HX.out.symm.trans HY.out)
        rw [decide_eq_false hne2]; rfl
    · go_wp2
      go_ret
      refine Fin HQ ⟨?_, hbl⟩
      have heq2 : X = Y := list_eq_of (by rw [Hn.out]; exact HL.out) fun i h1 h2 => heq.out i h1 h2 (by rw [Hn.out] at h1; omega)
      rw [decide_eq_true heq2]; rfl

set_option maxHeartbeats 800000 in
theorem copyM_any (w : World) (v : Value) (M : List Nat) (hv : RdMk w v M) :
    Calls Try.prog 24 #[v] w (Ret fun r w' => w'.ownsRow w.heap.size 33 1 r M.length (marksV M) ∧ Below w.heap.size w w') := by
  obtain ⟨A, c, rfl, hc, hb, hr⟩ := hv
  obtain ⟨i0, hi, hz0, hz1, hz2⟩ := info_parts infoM
  refine post_gen fun Q HQ => ?_
  generalize hn : M.length = n at *
  have Hn := hid hn
  clear hn
  go_enter Try.func24, Try.ntmps24
  go_wp2
  go_loopw [3, 4] (fun v3 v4 wr => ∃ k : Nat, k ≤ n ∧ v4 = .int .i64 k ∧ wr.ownsRow w.heap.size 33 1 v3 k (marksV (M.take k)) ∧ Below w.heap.size w wr) (fun _ v4 _ => n - (intOf v4).toNat)
  case atStart => exact ⟨0, Nat.zero_le _, rfl, by simpa [marksV] using World.ownsRow_nil _ _ _ _, ext_refl _⟩
  case round =>
    obtain ⟨k, hk, rfl, hown, hbl⟩ := hrel
    by_cases hlt : k < n
    · have hx : k < M.length := by rw [Hn.out]; exact hlt
      obtain ⟨ad, rfl, hcX⟩ := (hr.ext (scR_mono _) hbl).at1 hx
      have hXk : ∃ x, Hid (M[k] = x) := ⟨_, hid rfl⟩
      obtain ⟨x, HX⟩ := hXk
      rw [HX.out] at hcX
      have Hx := hid hx
      have Hown := hid hown
      have hsz := hbl.size
      obtain ⟨Wn, HWn⟩ : ∃ Wn, Hid (Wn = wr.alloc (.cells #[.int .u8 (x : Int)] 33)) := ⟨_, hid rfl⟩
      clear hown
      go_wp2_with (at_builtin; refine wpList_append_own _ rfl _ _ 28 rfl w.heap.size 33 i0 (.int .u8 0) 1 1 Try.underlying28 hi hz0 hz1 hz2 rfl (by decide) _ k _ rfl (Hown.out.alloc _) ⟨wr.heap.size, 0, none⟩ 1 1 [.int .u8 (x : Int)] rfl rfl (cell_one_new _ _ _) (fun u hu => by simp at hu; subst hu; rfl) (by unfold maxLen; omega) (by omega) (by simp; omega) ?_; intro v' w3 hown' hgrow3 hnil3)
      go_roundw
      case rel =>
        refine ⟨k + 1, by omega, by go_num, ?_, ?_⟩
        · rw [List.take_succ_eq_append_getElem Hx.out, HX.out]
          simpa [marksV] using hown'
        · refine (hbl.alloc hsz _).trans ⟨hgrow3.os, hgrow3.tape, hgrow3.output, ?_, fun g hg => hgrow3.block g (by simp; omega) (fun e => ?_)⟩
          · exact hgrow3.size
          · have := (Hown.out.lt g e.symm).1; omega
      case measure => simp [intOf]; omega
    · have e : k = n := by omega
      subst e
      go_wp2
      go_ret
      refine Fin HQ ⟨?_, hbl⟩
      rw [List.take_of_length_le (by rw [Hn.out]; exact Nat.le_refl _)] at hown
      exact hown
end Go.Proofs.Lx
