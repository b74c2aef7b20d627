/- The page's examples for prior's Cycle and Order (alive of law 13); SameInts. -/
import Derived.Test.YtmfnhpcddkkaaaaOf
import Derived.Test.YtmfnhpcddkkaaaaQb
namespace Go.Proofs.Lx
open Go Go.RowKit Go.Proofs.Tj
set_option linter.unusedSimpArgs false
set_option linter.unusedVariables false

set_option maxHeartbeats 800000 in
theorem sameI_any (w : World) (v1 v2 : Value) (X Y : List Int) (h1 : RdI w v1 X) (h2 : RdI w v2 Y) :
    Calls Try.prog 10 #[v1, v2] w (Ret fun v w' => v = .bool (decide (X = Y)) ∧ Below w.heap.size w w') := by
  obtain ⟨A, c, rfl, hc, hb, hr⟩ := h1
  obtain ⟨B, d, rfl, hd, hb2, hr2⟩ := h2
  refine post_gen fun Q HQ => ?_
  go_enter Try.func10, Try.ntmps10
  by_cases hl : X.length = Y.length
  case neg =>
    have hne : ((X.length : Int) != (Y.length : Int)) = true := by simp; omega
    have HL := hid hl
    clear hl
    go_wp2
    go_ret
    exact Fin HQ ⟨by rw [decide_eq_false fun e : X = Y => HL.out (by rw [e])]; rfl, ext_refl _⟩
  have HL := hid hl
  generalize hn : X.length = n at *
  have Hn := hid hn
  clear hn
  rw [← HL.out] at hd hb2
  rw [← HL.out]
  clear hl
  go_wp2
  go_loopw [5] (fun v5 wr => ∃ k : Nat, k ≤ n ∧ v5 = .int .i64 k ∧ Hid (∀ i (h1 : i < X.length) (h2 : i < Y.length), i < k → X[i] = Y[i]) ∧ Below w.heap.size w wr) (fun v5 _ => n - (intOf v5).toNat)
  case atStart => exact ⟨0, Nat.zero_le _, rfl, fun i _ _ h => absurd h (by omega), ext_refl _⟩
  case round =>
    obtain ⟨k, hk, rfl, heq, hbl⟩ := hrel
    by_cases hlt : k < n
    · have hx : k < X.length := by rw [Hn.out]; exact hlt
      have hy : k < Y.length := by rw [← HL.out]; exact hlt
      obtain ⟨ad, rfl, hcX⟩ := (hr.ext (scR_mono _) hbl).at1 hx
      obtain ⟨ad2, rfl, hcY⟩ := (hr2.ext (scR_mono _) hbl).at1 hy
      obtain ⟨x, HX⟩ : ∃ x, Hid (X[k] = x) := ⟨_, hid rfl⟩
      obtain ⟨y, HY⟩ : ∃ y, Hid (Y[k] = y) := ⟨_, hid rfl⟩
      rw [HX.out] at hcX
      rw [HY.out] at hcY
      by_cases hxy : x = y
      · have hne : (x != y) = false := by simp [hxy]
        have Hxy := hid hxy
        clear hxy
        go_wp2
        go_quiet (fail)
        go_wp2
        go_roundw
        case rel =>
          refine ⟨k + 1, by omega, by go_num, hid fun i h1 h2 hi => ?_, below_drewN hbl _⟩
          by_cases e : i = k
          · subst e; rw [HX.out, HY.out]; exact Hxy.out
          · exact heq.out i h1 h2 (by omega)
        case measure => simp [intOf]; omega
      · have hne : (x != y) = true := by simp; omega
        have Hxy := hid hxy
        clear hxy
        go_wp2
        go_quiet (fail)
        go_wp2
        go_ret
        refine Fin HQ ⟨?_, below_drewN hbl _⟩
        have hne2 : X ≠ Y := by
          intro e
          subst e
          exact Hxy.out (HX.out.symm.trans HY.out)
        rw [decide_eq_false hne2]; rfl
    · go_wp2
      go_ret
      refine Fin HQ ⟨?_, hbl⟩
      have heq2 : X = Y := List.ext_getElem (by rw [Hn.out]; exact HL.out) fun i h1 h2 => heq.out i h1 h2 (by rw [Hn.out] at h1; omega)
      rw [decide_eq_true heq2]; rfl

def r1 : List (List Int) := [[1], [2], [0]]
def r2 : List (List Int) := [[], [0]]
def r3 : List (List Int) := [[0]]
theorem r1_pot : ¬ Pot r1 := by
  rintro ⟨f, h⟩
  have h0 := h 0 1 ⟨by decide, by decide, by decide⟩
  have h1 := h 1 2 ⟨by decide, by decide, by decide⟩
  have h2 := h 2 0 ⟨by decide, by decide, by decide⟩
  omega
theorem r3_pot : ¬ Pot r3 := by
  rintro ⟨f, h⟩
  have h0 := h 0 0 ⟨by decide, by decide, by decide⟩
  omega
theorem r2_pot : Pot r2 := by
  refine ⟨fun q => 1 - q, fun x k he => ?_⟩
  obtain ⟨h1, h2, h3⟩ := he
  match x, h1, h3 with
  | 0, _, h3 => simp [r2] at h3
  | 1, _, h3 =>
    have : k = 0 := by simpa [r2] using h3
    subst this; decide
theorem r1_ring {L : List Nat} (h : Ring r1 L) : L.length = 3 := by
  obtain ⟨h0, h1, h2⟩ := h
  have step : ∀ x ∈ L, (x + 1) % 3 ∈ L := by
    intro x hx
    obtain ⟨hlt, k, hk, he⟩ := h2 x hx
    have : k = (x + 1) % 3 := by
      have h3 := he.2.2
      match x, hlt, h3 with
      | 0, _, h3 => simp [r1] at h3; omega
      | 1, _, h3 => simp [r1] at h3; omega
      | 2, _, h3 => simp [r1] at h3; omega
    rw [← this]; exact hk
  have all : ∀ q, q < 3 → q ∈ L := by
    obtain ⟨x, hx⟩ := List.exists_mem_of_ne_nil _ h0
    have hlt : x < 3 := (h2 x hx).1
    have s1 := step x hx
    have s2 := step _ s1
    intro q hq
    rcases (by omega : q = x ∨ q = (x + 1) % 3 ∨ q = ((x + 1) % 3 + 1) % 3) with e | e | e
    · rw [e]; exact hx
    · rw [e]; exact s1
    · rw [e]; exact s2
  have a1 : L.length ≤ 3 := nodup_len h1 fun x hx => (h2 x hx).1
  have a2 := count_range_le (List.range 3) L List.nodup_range
  have a3 : (List.range 3).countP (fun q => decide (q ∈ L)) = (List.range 3).length := by
    rw [List.countP_eq_length]
    intro q hq
    simpa using all q (List.mem_range.1 hq)
  rw [a3, List.length_range] at a2
  omega
theorem r3_ring {L : List Nat} (h : Ring r3 L) : L = [0] := by
  obtain ⟨h0, h1, h2⟩ := h
  have a1 : L.length ≤ 1 := nodup_len h1 fun x hx => (h2 x hx).1
  match L, h0, a1, h2 with
  | [x], _, _, h2 =>
    have : x < 1 := (h2 x (by simp)).1
    obtain rfl : x = 0 := by omega
    rfl
theorem r2_took {R : List Nat} (h : Took r2 R) (hl : R.length = 2) : R = [1, 0] := by
  match R, hl, h with
  | [a, b], _, h =>
    have ha : a < 2 := h.lt a (by simp)
    have hb : b < 2 := h.lt b (by simp)
    have hne : a ≠ b := by have := h.nd; simp at this; exact this
    rcases (by omega : a = 0 ∧ b = 1 ∨ a = 1 ∧ b = 0) with ⟨rfl, rfl⟩ | ⟨rfl, rfl⟩
    · have := h.ord 1 0 (by simp) (by simp) ⟨by decide, by decide, by decide⟩
      omega
    · rfl
def c1 (h : Nat) : List Obj := [.cells #[.int .i64 1] 3, .cells #[.int .i64 2] 3, .cells #[.int .i64 0] 3, .cells #[.slice (some ⟨h, 0, none⟩) 1 1, .slice (some ⟨h + 1, 0, none⟩) 1 1, .slice (some ⟨h + 1 + 1, 0, none⟩) 1 1] 24]
def c2 (h : Nat) : List Obj := [.cells #[.int .i64 0] 3, .cells #[.slice none 0 0, .slice (some ⟨h, 0, none⟩) 1 1] 24]
def c3 (h : Nat) : List Obj := [.cells #[.int .i64 0] 3, .cells #[.slice (some ⟨h, 0, none⟩) 1 1] 24]
def cW (c : Nat → List Obj) (w : World) : World := (c w.heap.size).foldl World.alloc w
theorem c1_rd (w : World) : RdLL (cW c1 w) (.slice (some ⟨w.heap.size + 1 + 1 + 1, 0, none⟩) 3 3) r1 := by
  obtain ⟨_, ha, _⟩ := allocs (c1 w.heap.size) w
  refine rd_lit1 (ha 3 _ rfl) rfl (by simp [r1]) fun i hi => ?_
  match i, hi with
  | 0, _ => exact ⟨_, rfl, _, rfl, rd_int1 (ha 0 _ rfl)⟩
  | 1, _ => exact ⟨_, rfl, _, rfl, rd_int1 (ha 1 _ rfl)⟩
  | 2, _ => exact ⟨_, rfl, _, rfl, rd_int1 (ha 2 _ rfl)⟩
theorem c2_rd (w : World) : RdLL (cW c2 w) (.slice (some ⟨w.heap.size + 1, 0, none⟩) 2 2) r2 := by
  obtain ⟨_, ha, _⟩ := allocs (c2 w.heap.size) w
  refine rd_lit1 (ha 1 _ rfl) rfl (by simp [r2]) fun i hi => ?_
  match i, hi with
  | 0, _ => exact ⟨_, rfl, _, rfl, Rd.nil⟩
  | 1, _ => exact ⟨_, rfl, _, rfl, rd_int1 (ha 0 _ rfl)⟩
theorem c3_rd (w : World) : RdLL (cW c3 w) (.slice (some ⟨w.heap.size + 1, 0, none⟩) 1 1) r3 := by
  obtain ⟨_, ha, _⟩ := allocs (c3 w.heap.size) w
  refine rd_lit1 (ha 1 _ rfl) rfl (by simp [r3]) fun i hi => ?_
  match i, hi with
  | 0, _ => exact ⟨_, rfl, _, rfl, rd_int1 (ha 0 _ rfl)⟩

set_option maxHeartbeats 1600000 in
theorem alive_any (w : World) : Calls Try.prog 5 #[] w (Ret fun v w' => v = .bool true ∧ Below w.heap.size w w') := by
  have H1 := hid (cycle_any (cW c1 w) _ _ (c1_rd w) (by decide) (by decide))
  have H2 := hid (fun w => order_any (cW c2 w) _ _ (c2_rd w) (by decide) (by decide))
  have H3 := hid (fun w => cycle_any (cW c3 w) _ _ (c3_rd w) (by decide) (by decide))
  have hb1 := (allocs (c1 w.heap.size) w).2.2
  have Hb1 := hid hb1
  clear hb1
  refine post_gen fun Q HQ => ?_
  go_enter Try.func5, Try.ntmps5
  go_wp2_with fail
  refine H1.out.mono ?_
  rintro e w2 ⟨_, rfl, h, hb2⟩
  rcases h with ⟨L, s, hL, _, rfl, hown⟩ | ⟨_, h⟩
  case inr => exact absurd h r1_pot
  obtain ⟨A1, c1', rfl, _⟩ := own_ints hown (by rw [r1_ring hL]; decide)
  rw [List.length_map, r1_ring hL]
  have Hb2 := hid (ext_trans Hb1.out hb2)
  clear hown hL hb2 H1 Hb1
  have h2' := hid (H2.out w2)
  clear H2
  go_wp2_with fail
  refine h2'.out.mono ?_
  rintro e w3 ⟨_, rfl, h, hb3⟩
  rcases h with ⟨R, s2, hR, hRl, rfl, hown⟩ | ⟨_, h⟩
  case inr => exact absurd r2_pot h
  have hRe := r2_took hR hRl
  subst hRe
  have hrd2 := own_ints hown (by decide)
  have Hb3 := hid (ext_trans Hb2.out (ext_trans (allocs (c2 w2.heap.size) w2).2.2 hb3))
  clear hown hR hRl hb3 h2' Hb2
  have h3' := hid (H3.out w3)
  clear H3
  go_wp2_with fail
  refine h3'.out.mono ?_
  rintro e w4 ⟨_, rfl, h, hb4⟩
  rcases h with ⟨L2, s3, hL2, _, rfl, hown⟩ | ⟨_, h⟩
  case inr => exact absurd h r3_pot
  have hL2e := r3_ring hL2
  subst hL2e
  have hrd3 := own_ints hown (by decide)
  have hb34 := ext_trans (allocs (c3 w3.heap.size) w3).2.2 hb4
  have hrd2' := hrd2.ext (scR_mono _) hb34
  have Hb4 := hid (ext_trans Hb3.out hb34)
  have hlit : RdI (w4.alloc (.cells #[.int .i64 1, .int .i64 0] 3)) (.slice (some ⟨w4.heap.size, 0, none⟩) 2 2) [1, 0] := by
    refine rd_lit1 (heap_alloc_new w4 _) rfl (by simp) fun i hi => ?_
    match i, hi with
    | 0, _ => exact ⟨_, rfl, rfl⟩
    | 1, _ => exact ⟨_, rfl, rfl⟩
  have hs1 := hid (sameI_any _ _ _ _ _ (hrd2'.ext (scR_mono _) (ext_alloc w4 (.cells #[.int .i64 1, .int .i64 0] 3))) hlit)
  have Hr3 := hid hrd3
  clear hown hL2 hb4 hb34 hrd2 hrd2' hrd3 hlit h3' Hb3
  go_wp2_with fail
  refine hs1.out.mono ?_
  rintro e w5 ⟨_, rfl, rfl, hb5⟩
  rw [decide_eq_true (by rfl)]
  have hlit : RdI (w5.alloc (.cells #[.int .i64 0] 3)) (.slice (some ⟨w5.heap.size, 0, none⟩) 1 1) [0] := rd_int1 (heap_alloc_new w5 _)
  have hb45 := ext_trans (ext_alloc w4 _) hb5
  have hs2 := hid (sameI_any _ _ _ _ _ (Hr3.out.ext (scR_mono _) (ext_trans hb45 (ext_alloc w5 (.cells #[.int .i64 0] 3)))) hlit)
  have Hb5 := hid (ext_trans Hb4.out hb45)
  clear hs1 hb5 hb45 hlit
  go_wp2_with fail
  refine hs2.out.mono ?_
  rintro e w6 ⟨_, rfl, rfl, hb6⟩
  rw [decide_eq_true (by rfl)]
  go_wp2
  go_ret
  exact Fin HQ ⟨rfl, ext_trans Hb5.out (ext_trans (ext_alloc w5 _) hb6)⟩
end Go.Proofs.Lx
