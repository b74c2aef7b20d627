/- Contracts of theory.foes, rule, CheckFacts. -/
import Derived.Test.YtalhpldbhogadaaCb
namespace Go.Proofs.Lx
open Go Go.RowKit
set_option linter.unusedSimpArgs false
set_option linter.unusedVariables false

theorem risB_spec {l : List Int} {n : Int} (h : risB l n = true) : (∀ i (hi : i < l.length), 0 ≤ l[i] ∧ l[i] < n) ∧ l.Pairwise (· < ·) := by
  rw [risB_true] at h
  constructor
  · intro i hi
    have := h i hi
    simp [risOk, hi] at this
    omega
  · rw [List.pairwise_iff_getElem]
    intro i j hi hj hij
    induction j with
    | zero => omega
    | succ j ih =>
      have := h (j + 1) hj
      simp [risOk, hj, show j < l.length by omega] at this
      by_cases e : i = j
      · subst e; omega
      · have := ih (by omega) (by omega); omega
theorem risB_of {l : List Int} {n : Int} (h : ∀ i (hi : i < l.length), 0 ≤ l[i] ∧ l[i] < n) (hp : l.Pairwise (· < ·)) : risB l n = true := by
  rw [risB_true]
  intro i hi
  have h1 := h i hi
  simp only [risOk, List.getD_eq_getElem?_getD, List.getElem?_eq_getElem hi, Option.getD_some, Bool.and_eq_true, decide_eq_true_eq, Bool.or_eq_true]
  refine ⟨h1, ?_⟩
  by_cases e : i = 0
  · exact .inl e
  · right
    rw [List.getElem?_eq_getElem (show i - 1 < l.length by omega), Option.getD_some]
    exact pw_lt hp (by omega) hi

def row (t : List (List Int)) (i : Int) : List Int := t.getD i.toNat []
theorem row_at {t : List (List Int)} {i : Int} (h0 : 0 ≤ i) (h : i < t.length) : row t i = t[i.toNat] := by
  simp [row, show i.toNat < t.length by omega]
def foesOk (T : Th) (q : Nat) : Bool := decide ((T.foes.getD q []).length ≤ 64) && risB (T.foes.getD q []) T.lits && !memB (T.foes.getD q []) q && (T.foes.getD q []).all fun f => memB (row T.foes f) q
def foesAll (T : Th) : Bool := (List.range T.foes.length).all (foesOk T)
theorem foesAll_true {T : Th} : foesAll T = true ↔ ∀ q, q < T.foes.length → foesOk T q = true := by simp [foesAll]
theorem foesAll_false {T : Th} {q : Nat} (h : q < T.foes.length) (hf : foesOk T q = false) : foesAll T = false := by
  rw [Bool.eq_false_iff]; intro ht
  rw [foesAll_true.1 ht q h] at hf; cases hf

set_option maxHeartbeats 800000 in
theorem foes_any (w : World) (V : Value) (T : Th) (hT : RdTh w V T) (hl : (T.foes.length : Int) = T.lits) :
   Calls Try.prog 108 #[V] w (Ret fun v w' => (∃ r : Int, v = .int .i64 r ∧ (r < 0 ↔ foesAll T = true)) ∧ Below w.heap.size w w') := by
  obtain ⟨vF, vR, vB, rfl, ⟨A, c, rfl, hc, hb, hr⟩, _, _⟩ := hT
  have hbel := ext_alloc w (.cells #[.int .i64 T.lits, .slice A T.foes.length c, vR, vB] 25)
  have hr1 := hr.ext llR_mono hbel
  have Hl := hid hl
  clear hr hl
  refine post_gen fun Q HQ => ?_
  go_enter Try.func108, Try.ntmps108
  go_wp2
  go_loop [10] (fun v10 => ∃ k : Nat, k ≤ T.foes.length ∧ v10 = .int .i64 k ∧ Hid (∀ i, i < k → foesOk T i = true)) (fun v10 => T.foes.length - (intOf v10).toNat)
  case atStart => exact ⟨0, Nat.zero_le _, rfl, fun i hk => absurd hk (by omega)⟩
  case round =>
    obtain ⟨k, hk, rfl, hno⟩ := hrel
    by_cases hlt : k < T.foes.length
    · obtain ⟨ad, B, cB, rfl, hcell, hcB, hbB, hrB⟩ := hr1.atRow hlt
      have Hg : Hid (T.foes.getD k [] = T.foes[k]) := by simp [Hid, hlt]
      have Hbad : ∀ r : Int, 0 ≤ r → foesOk T k = false → ∃ r', Value.int .i64 r = .int .i64 r' ∧ (r' < 0 ↔ foesAll T = true) := fun r h0 hf => ⟨r, rfl, by rw [foesAll_false hlt hf]; simp; omega⟩
      have Hbad := hid Hbad
      generalize hL : T.foes[k] = L at *
      have HL := hid hL
      clear hL
      by_cases h64 : 64 < L.length
      · go_wp2_with fail
        go_ret
        exact Fin HQ ⟨Hbad.out k (by omega) (by simp only [foesOk, Hg.out]; rw [decide_eq_false (by omega)]; simp), hbel⟩
      · have hRL : RdI (w.alloc (.cells #[.int .i64 T.lits, .slice (some ad) T.foes.length c, vR, vB] 25)) (.slice B L.length cB) L := ⟨B, cB, rfl, hcB, hbB, hrB⟩
        cases hris : risB L T.lits with
        | false =>
          have Hris := hid hris
          go_wp2_with (go_at_call 112; refine (rising_any _ _ _ _ hRL).mono ?_; rintro e w' ⟨_, rfl, rfl, rfl⟩)
          go_ret
          exact Fin HQ ⟨Hbad.out k (by omega) (by simp only [foesOk, Hg.out]; rw [Hris.out]; simp), hbel⟩
        | true =>
          have Hris := hid hris
          have Hsp := hid (risB_spec hris)
          cases hmem : memB L k with
          | true =>
            have Hmem := hid hmem
            go_wp2_with (first
              | (go_at_call 112; refine (rising_any _ _ _ _ hRL).mono ?_; rintro e w' ⟨_, rfl, rfl, rfl⟩)
              | (go_at_call 153; refine (has_any _ _ _ _ hRL Hsp.out.2).mono ?_; rintro e w' ⟨_, rfl, rfl, rfl⟩))
            go_ret
            exact Fin HQ ⟨Hbad.out k (by omega) (by simp only [foesOk, Hg.out]; rw [Hmem.out]; simp), hbel⟩
          | false =>
            have Hmem := hid hmem
            go_wp2_with (first
              | (go_at_call 112; refine (rising_any _ _ _ _ hRL).mono ?_; rintro e w' ⟨_, rfl, rfl, rfl⟩)
              | (go_at_call 153; refine (has_any _ _ _ _ hRL Hsp.out.2).mono ?_; rintro e w' ⟨_, rfl, rfl, rfl⟩))
            clear hris hmem
            go_loop [33] (fun v33 => ∃ j : Nat, j ≤ L.length ∧ v33 = .int .i64 j ∧ Hid (∀ i (h : i < L.length), i < j → memB (row T.foes L[i]) k = true)) (fun v33 => L.length - (intOf v33).toNat)
            case atStart => exact ⟨0, Nat.zero_le _, rfl, fun i h hk => absurd hk (by omega)⟩
            case round =>
              obtain ⟨j, hj, rfl, hin⟩ := hrel
              by_cases hjl : j < L.length
              · obtain ⟨adb, rfl, hcj⟩ := hrB.at1 hjl
                have hrange := Hsp.out.1 j hjl
                have hfl : L[j].toNat < T.foes.length := by have := Hl.out; omega
                obtain ⟨ad2, C2, c2, e2, hcell2, hc2, hb2, hr2⟩ := hr1.atRow hfl
                cases e2
                have Hrow : Hid (T.foes[L[j].toNat] = row T.foes L[j]) := (row_at hrange.1 (by have := Hl.out; omega)).symm
                have h3 : L[j] < T.foes.length := by have := Hl.out; omega
                have hR2 : RdI (w.alloc (.cells #[.int .i64 T.lits, .slice (some ad) T.foes.length c, vR, vB] 25)) (.slice C2 T.foes[L[j].toNat].length c2) T.foes[L[j].toNat] := ⟨C2, c2, rfl, hc2, hb2, hr2⟩
                generalize hX : L[j] = X at *
                have HX := hid hX
                clear hX
                generalize hY : T.foes[X.toNat] = Y at *
                have HY := hid hY
                clear hY
                cases hm2 : memB Y k with
                | false =>
                  have Hm2 := hid hm2
                  go_wp2_with (go_at_call 154; refine (contains_any _ _ _ _ hR2).mono ?_; rintro e w' ⟨_, rfl, rfl, rfl⟩)
                  go_ret
                  refine Fin HQ ⟨Hbad.out k (by omega) ?_, hbel⟩
                  simp only [foesOk, Hg.out]
                  rw [show (L.all fun f => memB (row T.foes f) k) = false from by
                    rw [List.all_eq_false]; exact ⟨L[j], List.getElem_mem hjl, by rw [HX.out, ← Hrow.out, Hm2.out]; simp⟩]
                  simp
                | true =>
                  have Hm2 := hid hm2
                  go_wp2_with (go_at_call 154; refine (contains_any _ _ _ _ hR2).mono ?_; rintro e w' ⟨_, rfl, rfl, rfl⟩)
                  go_round
                  case rel =>
                    refine ⟨j + 1, by omega, by go_num, fun i h hi => ?_⟩
                    by_cases e : i = j
                    · subst e; rw [HX.out, ← Hrow.out, Hm2.out]
                    · exact hin.out i h (by omega)
                  case measure => simp [intOf]; omega
              · go_wp2
                go_round
                case rel =>
                  refine ⟨k + 1, by omega, by go_num, fun i hi => ?_⟩
                  by_cases e : i = k
                  · subst e
                    simp only [foesOk, Hg.out, Hris.out, Hmem.out]
                    simp only [decide_eq_true (show L.length ≤ 64 by omega), Bool.not_false, Bool.and_self, Bool.true_and]
                    rw [List.all_eq_true]
                    intro f hf
                    obtain ⟨t, ht, rfl⟩ := List.getElem_of_mem hf
                    exact hin.out t ht (by omega)
                  · exact hno.out i (by omega)
                case measure => simp [intOf]; omega
    · go_wp2
      go_ret
      exact Fin HQ ⟨⟨-1, rfl, by simp only [show ((-1 : Int) < 0) by decide, true_iff]; exact foesAll_true.2 fun q hq => hno.out q (by omega)⟩, hbel⟩
end Go.Proofs.Lx
