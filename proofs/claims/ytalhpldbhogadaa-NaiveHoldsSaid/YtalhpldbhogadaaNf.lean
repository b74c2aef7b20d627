/- Contracts of naive.conditions, slices.Equal over marks; a slice of the call's own, written to. -/
import Derived.Test.YtalhpldbhogadaaNc
import Derived.Test.YtalhpldbhogadaaNd
namespace Go.Proofs.Lx
open Go Go.RowKit
set_option linter.unusedSimpArgs false
set_option linter.unusedVariables false

theorem own_set {w : World} {base e n g cap : Nat} {xs : List Value} (h : w.ownsRow base e 1 (.slice (some ⟨g, 0, none⟩) n cap) n xs) (i : Nat) (u : Value) :
    (w.setCell ⟨g, i, none⟩ u).ownsRow base e 1 (.slice (some ⟨g, 0, none⟩) n cap) n (xs.set i u) := by
  obtain ⟨h0, h1⟩ := h
  refine ⟨by simpa using h0, ?_⟩
  rcases h1 with ⟨h1, _⟩ | ⟨gg, cp, cur, h1, h2, h3, h4, h5, h6, h7⟩
  · cases h1
  · cases h1
    right
    refine ⟨g, cap, cur.setIfInBounds i u, rfl, h2, ?_, h4, h5, by simpa using h6, ?_⟩
    · rw [heap_setCell_same w g i _ e _ h3]
    · rw [← h7]; simp [List.take_set]
theorem own_free {w : World} {base e n g cap : Nat} {xs : List Value} (h : w.ownsRow base e 1 (.slice (some ⟨g, 0, none⟩) n cap) n xs) (i : Nat) : w.frozen? ⟨g, i, none⟩ = false := by
  rcases h.2 with ⟨h1, _⟩ | ⟨gg, cp, cur, h1, h2, h3, h4, h5, h6, h7⟩
  · cases h1
  · cases h1; exact frozen_of_row w g i cur e h3
theorem own_at {w : World} {base e n : Nat} {v : Value} {xs : List Value} (h : w.ownsRow base e 1 v n xs) {i : Nat} (hi : i < n) (hx : i < xs.length) : ∃ g cap, v = .slice (some ⟨g, 0, none⟩) n cap ∧ base ≤ g ∧ w.cell? ⟨g, i, none⟩ = some xs[i] := by
  rcases h.2 with ⟨h1, h2⟩ | ⟨gg, cp, cur, h1, h2, h3, h4, h5, h6, h7⟩
  · omega
  · subst h1
    exact ⟨gg, cp, rfl, h2, by rw [h.cellAt i (by omega)]; simp [hx]⟩

theorem conds_plain (w : World) : Calls Try.prog 60 #[] w (Ret fun v w' => v = .agg #[.func (.func 88) #[] #[], .func (.func 89) #[] #[], .func (.func 90) #[] #[], .func (.func 91) #[] #[]] ∧ Below w.heap.size w w') := by
  refine post_gen fun Q HQ => ?_
  go_enter Try.func60, Try.ntmps60
  have hsf : ∀ (a : Addr) (g : Fn) (W : World), Sem.run Try.prog (store a (.func g #[] #[]) .plain) W = stored Try.prog W a (.func g #[] #[]) .plain := fun a g W => run_store Try.prog W a _ _ rfl
  go_wp2
  go_returns
  exact Fin HQ ⟨rfl, ext_alloc _ _⟩


theorem eqM_any (w : World) (v1 v2 : Value) (X Y : List Nat) (h1 : RdMk w v1 X) (h2 : RdMk w v2 Y) :
    Calls Try.prog 85 #[v1, v2] w (Ret fun v w' => v = .bool (decide (X = Y)) ∧ Below w.heap.size w w') := by
  obtain ⟨A, c, rfl, hc, hb, hr⟩ := h1
  obtain ⟨B, d, rfl, hd, hb2, hr2⟩ := h2
  refine post_gen fun Q HQ => ?_
  go_enter Try.func85, Try.ntmps85
  by_cases hl : X.length = Y.length
  case neg =>
    have hb : ((X.length : Int) != (Y.length : Int)) = true := by simp [bne]; omega
    go_wp2
    go_ret
    exact Fin HQ ⟨by rw [decide_eq_false (fun e => hl (by rw [e]))]; rfl, ext_refl _⟩
  have hb3 : ((X.length : Int) != (Y.length : Int)) = false := by simp [bne]; omega
  go_wp2
  go_loopw [13] (fun v13 wr => ∃ k : Nat, k ≤ X.length ∧ v13 = .int .i64 k ∧ Hid (∀ i, i < k → X[i]? = Y[i]?) ∧ Below w.heap.size w wr) (fun v13 _ => X.length - (intOf v13).toNat)
  case atStart => exact ⟨0, Nat.zero_le _, rfl, fun i hi => absurd hi (by omega), ext_refl _⟩
  case round =>
    obtain ⟨k, hk, rfl, hno, hbl⟩ := hrel
    by_cases hlt : k < X.length
    · obtain ⟨ad, rfl, c1⟩ := (hr.ext (scR_mono _) hbl).at1 hlt
      obtain ⟨ad2, rfl, c2⟩ := (hr2.ext (scR_mono _) hbl).at1 (show k < Y.length by omega)
      by_cases he : X[k] = Y[k]
      · have hb4 : ((X[k] : Int) != (Y[k] : Int)) = false := by rw [he]; simp
        go_wp2
        go_quiet (fail)
        go_wp2
        go_roundw
        case rel =>
          refine ⟨k + 1, by omega, by (try simp), ?_, below_drewN hbl _⟩
          intro i hi
          by_cases e : i = k
          · subst e; rw [List.getElem?_eq_getElem hlt, List.getElem?_eq_getElem (by omega), he]
          · exact hno.out i (by omega)
        case measure => simp [intOf]; omega
      · have hb4 : ((X[k] : Int) != (Y[k] : Int)) = true := by simp [bne]; omega
        go_wp2
        go_quiet (fail)
        go_wp2
        go_ret
        have hne : decide (X = Y) = false := decide_eq_false (fun e => he (by subst e; rfl))
        exact Fin HQ ⟨by rw [hne]; rfl, below_drewN hbl _⟩
    · obtain rfl : k = X.length := by omega
      go_wp2
      go_ret
      have heq : X = Y := by
        apply List.ext_getElem?
        intro i
        by_cases hi : i < X.length
        · exact hno.out i hi
        · rw [List.getElem?_eq_none (by omega), List.getElem?_eq_none (by omega)]
      exact Fin HQ ⟨by rw [decide_eq_true heq]; rfl, hbl⟩
end Go.Proofs.Lx
