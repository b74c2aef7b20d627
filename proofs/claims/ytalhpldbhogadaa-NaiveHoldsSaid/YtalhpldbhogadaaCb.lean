/- Contracts of theory's small functions: BinarySearch on a rising list, has, rising. -/
import Derived.Test.YtalhpldbhogadaaCa
namespace Go.Proofs.Lx
open Go Go.RowKit

/-- Rising, from 0 on, below n. -/
def risingB (n : Int) : List Int → Bool
  | [] => true
  | x :: l => decide (0 ≤ x) && decide (x < n) && (match l with | [] => true | y :: _ => decide (x < y)) && risingB n l
def risOk (l : List Int) (n : Int) (i : Nat) : Bool := decide (0 ≤ l.getD i 0) && decide (l.getD i 0 < n) && (decide (i = 0) || decide (l.getD (i - 1) 0 < l.getD i 0))
def risB (l : List Int) (n : Int) : Bool := (List.range l.length).all (risOk l n)
theorem risB_true {l : List Int} {n : Int} : risB l n = true ↔ ∀ i, i < l.length → risOk l n i = true := by simp [risB]
theorem risB_false {l : List Int} {n : Int} {i : Nat} (h : i < l.length) (hf : risOk l n i = false) : risB l n = false := by
  rw [Bool.eq_false_iff]; intro ht
  rw [risB_true.1 ht i h] at hf; cases hf

set_option maxHeartbeats 400000 in
theorem rising_any (w : World) (v : Value) (l : List Int) (n : Int) (hv : RdI w v l) :
   Calls Try.prog 112 #[v, .int .i64 n] w (Ret fun v w' => v = .bool (risB l n) ∧ w' = w) := by
  obtain ⟨A, c, rfl, hc, hb, hr⟩ := hv
  go_enter Try.func112, Try.ntmps112
  go_wp2
  go_loop [9] (fun v9 => ∃ k : Nat, k ≤ l.length ∧ v9 = .int .i64 k ∧ Hid (∀ i, i < k → risOk l n i = true)) (fun v9 => l.length - (intOf v9).toNat)
  case atStart => exact ⟨0, Nat.zero_le _, rfl, fun i hk => absurd hk (by omega)⟩
  case round =>
    obtain ⟨k, hk, rfl, hno⟩ := hrel
    by_cases hlt : k < l.length
    · obtain ⟨ad, rfl, hcell⟩ := hr.at1 hlt
      have hg : l[k] = l.getD k 0 := by simp [hlt]
      by_cases h0 : 0 < k
      · obtain ⟨ad', e', hcell'⟩ := hr.at1 (k := k - 1) (by omega)
        cases e'
        have hk1 : ((k : Int) - 1).toNat = k - 1 := by omega
        have hg' : l[k - 1] = l.getD (k - 1) 0 := by simp [show k - 1 < l.length by omega]
        have Hok : Hid (risOk l n k = (decide (0 ≤ l[k]) && decide (l[k] < n) && decide (l[k - 1] < l[k]))) := by rw [hg, hg']; simp [Hid, risOk, show k ≠ 0 by omega]
        clear hg hg'
        generalize l[k] = x at *
        generalize l[k - 1] = y at *
        go_wp2
        all_goals first
          | (go_ret; exact ⟨_, rfl, by rw [risB_false hlt (by rw [Hok.out]; simp; omega)]; rfl, rfl⟩)
          | (go_round
             case rel =>
               refine ⟨k + 1, by omega, by go_num, fun i hi => ?_⟩
               by_cases e : i = k
               · subst e; rw [Hok.out]; simp; omega
               · exact hno.out i (by omega)
             case measure => simp [intOf]; omega)
      · have Hok : Hid (risOk l n k = (decide (0 ≤ l[k]) && decide (l[k] < n))) := by rw [hg]; simp [Hid, risOk, show k = 0 by omega]
        clear hg
        generalize l[k] = x at *
        go_wp2
        all_goals first
          | (go_ret; exact ⟨_, rfl, by rw [risB_false hlt (by rw [Hok.out]; simp; omega)]; rfl, rfl⟩)
          | (go_round
             case rel =>
               refine ⟨k + 1, by omega, by go_num, fun i hi => ?_⟩
               by_cases e : i = k
               · subst e; rw [Hok.out]; simp; omega
               · exact hno.out i (by omega)
             case measure => simp [intOf]; omega)
    · go_wp2
      go_ret
      exact ⟨_, rfl, by rw [risB_true.2 (fun i hi => hno.out i (by omega))]; rfl, rfl⟩

theorem pw_lt {l : List Int} (hs : l.Pairwise (· < ·)) {i j : Nat} (hi : i < j) (hj : j < l.length) : l[i] < l[j] := List.pairwise_iff_getElem.1 hs i j (by omega) hj hi
theorem countP_at {l : List Int} {x : Int} {i : Nat} (hi : i ≤ l.length) (h1 : ∀ t (h : t < l.length), t < i → l[t] < x) (h2 : ∀ t (h : t < l.length), i ≤ t → x ≤ l[t]) : l.countP (· < x) = i := by
  rw [← List.take_append_drop i l, List.countP_append]
  have e1 : (l.take i).countP (· < x) = i := by
    rw [List.countP_eq_length.2]
    · simp; omega
    · intro y hy
      obtain ⟨t, ht, rfl⟩ := List.getElem_of_mem hy
      simp at ht ⊢
      exact h1 t (by omega) (by omega)
  have e2 : (l.drop i).countP (· < x) = 0 := by
    rw [List.countP_eq_zero]
    intro y hy
    obtain ⟨t, ht, rfl⟩ := List.getElem_of_mem hy
    simp at ht ⊢
    exact h2 (i + t) (by omega) (by omega)
  omega

set_option maxHeartbeats 400000 in
theorem binarySearch_any (w : World) (v : Value) (l : List Int) (x : Int) (hv : RdI w v l) (hs : l.Pairwise (· < ·)) :
   Calls Try.prog 163 #[v, .int .i64 x] w (Ret fun v w' => v = .tuple #[.int .i64 (ltCount l x : Nat), .bool (memB l x)] ∧ w' = w) := by
  obtain ⟨A, c, rfl, hc, hb, hr⟩ := hv
  have Hs := hid hs
  clear hs
  refine post_gen fun Q HQ => ?_
  go_enter Try.func163, Try.ntmps163
  go_wp2
  go_loop [7, 8] (fun v7 v8 => ∃ i j : Nat, i ≤ j ∧ j ≤ l.length ∧ v7 = .int .i64 i ∧ v8 = .int .i64 j ∧ Hid ((∀ t (h : t < l.length), t < i → l[t] < x) ∧ (∀ t (h : t < l.length), j ≤ t → x ≤ l[t]))) (fun v7 v8 => (intOf v8).toNat - (intOf v7).toNat)
  case atStart => exact ⟨0, l.length, by omega, by omega, rfl, rfl, fun t h ht => absurd ht (by omega), fun t h ht => absurd ht (by omega)⟩
  case round =>
    obtain ⟨i, j, hij, hj, rfl, rfl, hinv⟩ := hrel
    by_cases hlt : i < j
    · have hh : (i + j) / 2 < l.length := by omega
      obtain ⟨ad, rfl, hcell⟩ := hr.at1 hh
      go_wp2_with fail
      refine (less_any _ _ _).mono ?_
      rintro e w' ⟨_, rfl, rfl, rfl⟩
      cases hcmp : decide (l[(i + j) / 2] < x) with
      | true =>
        have Hc := hid (of_decide_eq_true hcmp)
        clear hcmp
        generalize hm : (i + j) / 2 = m at *
        have hm1 : i ≤ m ∧ m < j := by omega
        have Hm := hid hm
        clear hm
        go_wp2
        go_round
        case rel =>
          refine ⟨m + 1, j, by omega, by omega, ?_, rfl, ?_, hinv.out.2⟩
          · have : ((i : Int) + j) / 2 = m := by have := Hm.out; omega
            rw [this]; rfl
          · intro t h ht
            by_cases e : t = m
            · subst e; exact Hc.out
            · have h1 : l[t] < l[m] := pw_lt Hs.out (by omega) hh
              have h2 := Hc.out
              omega
        case measure =>
          have := Hm.out
          simp [intOf]; omega
      | false =>
        have Hc := hid (of_decide_eq_false hcmp)
        clear hcmp
        generalize hm : (i + j) / 2 = m at *
        have hm1 : i ≤ m ∧ m < j := by omega
        have Hm := hid hm
        clear hm
        go_wp2
        go_round
        case rel =>
          refine ⟨i, m, by omega, by omega, rfl, ?_, hinv.out.1, ?_⟩
          · have : ((i : Int) + j) / 2 = m := by have := Hm.out; omega
            rw [this]
          · intro t h ht
            have h2 := Hc.out
            by_cases e : t = m
            · subst e; omega
            · have h1 : l[m] < l[t] := pw_lt Hs.out (by omega) h
              omega
        case measure =>
          have := Hm.out
          simp [intOf]; omega
    · obtain rfl : i = j := by omega
      have Hcnt : Hid (ltCount l x = i) := countP_at hj hinv.out.1 hinv.out.2
      by_cases hil : i < l.length
      · obtain ⟨ad, rfl, hcell⟩ := hr.at1 hil
        cases hx : (l[i] == x) with
        | true =>
          have Hin : Hid (memB l x = true) := by
            simp only [Hid, memB_true]
            rw [← eq_of_beq hx]; exact List.getElem_mem hil
          go_wp2_with (go_at_call 167; refine (isNaN_any _ _).mono ?_; rintro e w' ⟨_, rfl, rfl, rfl⟩)
          go_ret2
          exact Fin HQ ⟨by rw [Hcnt.out, Hin.out]; rfl, rfl⟩
        | false =>
          have Hin : Hid (memB l x = false) := by
            rw [Hid, memB_false]
            intro hm
            obtain ⟨t, ht, e⟩ := List.getElem_of_mem hm
            have h1 := hinv.out.1 t ht
            have h2 : l[i] ≠ x := by simpa using hx
            have h3 := hinv.out.2 i hil (Nat.le_refl _)
            by_cases e1 : t < i
            · have := h1 e1; omega
            · by_cases e2 : t = i
              · subst e2; exact h2 e
              · have := pw_lt Hs.out (show i < t by omega) ht
                omega
          go_wp2_with (go_at_call 167; refine (isNaN_any _ _).mono ?_; rintro e w' ⟨_, rfl, rfl, rfl⟩)
          go_ret2
          exact Fin HQ ⟨by rw [Hcnt.out, Hin.out]; rfl, rfl⟩
      · have Hin : Hid (memB l x = false) := by
          rw [Hid, memB_false]
          intro hm
          obtain ⟨t, ht, e⟩ := List.getElem_of_mem hm
          have := hinv.out.1 t ht (by omega)
          omega
        go_wp2
        go_ret2
        exact Fin HQ ⟨by rw [Hcnt.out, Hin.out]; rfl, rfl⟩

theorem has_any (w : World) (v : Value) (l : List Int) (x : Int) (hv : RdI w v l) (hs : l.Pairwise (· < ·)) :
   Calls Try.prog 153 #[v, .int .i64 x] w (Ret fun v w' => v = .bool (memB l x) ∧ w' = w) := by
  refine post_gen fun Q HQ => ?_
  go_enter Try.func153, Try.ntmps153
  go_wp2_with (go_at_call 163; refine (binarySearch_any _ _ _ _ hv hs).mono ?_; rintro e w' ⟨_, rfl, rfl, rfl⟩)
  go_ret
  exact Fin HQ ⟨rfl, rfl⟩
end Go.Proofs.Lx
