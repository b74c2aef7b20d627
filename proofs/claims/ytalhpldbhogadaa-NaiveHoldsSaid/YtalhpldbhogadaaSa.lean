/- Contracts of the reference's small functions (layer 12): Rising, In, foes, CheckFacts. -/
import Derived.Test.YtalhpldbhogadaaVe
import Derived.Test.YtalhpldbhogadaaLb
namespace Go.Proofs.Lx
open Go Go.RowKit
set_option linter.unusedSimpArgs false
set_option linter.unusedVariables false

theorem getD_at {l : List Int} {k : Nat} (h : k < l.length) : l.getD k 0 = l[k] := by simp [h]
set_option maxRecDepth 100000 in
set_option maxHeartbeats 1600000 in
theorem rise12_drew (w : World) (v : Value) (l : List Int) (n : Int) (hv : RdI w v l) :
    Calls Try.prog 133 #[v, .int .i64 n] w (Ret fun v w' => v = .bool (risB l n) ∧ ∃ m, w' = w.drewN m) := by
  obtain ⟨A, c, rfl, hc, hb, hr⟩ := hv
  refine post_gen fun Q HQ => ?_
  go_enter Try.func133, Try.ntmps133
  go_wp2
  go_loopw [5] (fun v5 wr => ∃ k : Nat, k ≤ l.length ∧ v5 = .int .i64 k ∧ Hid (∀ i, i < k → risOk l n i = true) ∧ ∃ nn, wr = w.drewN nn) (fun v5 _ => l.length - (intOf v5).toNat)
  case atStart => exact ⟨0, Nat.zero_le _, rfl, fun i hk => absurd hk (by omega), 0, rfl⟩
  case round =>
    obtain ⟨k, hk, rfl, hno, nn, rfl⟩ := hrel
    have hbl := ext_drewN w nn
    by_cases hlt : k < l.length
    · obtain ⟨ad, rfl, hcell⟩ := hr.at1 hlt
      have Hg := hid (getD_at hlt)
      obtain ⟨x, Hx⟩ : ∃ x, Hid (l[k] = x) := ⟨_, hid rfl⟩
      rw [Hx.out] at hcell
      have Hok : Hid (∀ b, risOk l n k = b → b = false → risB l n = false) := hid fun b h1 h2 => risB_false hlt (by rw [h1, h2])
      have Hris : Hid (risOk l n k = (decide (0 ≤ x) && decide (x < n) && (decide (k = 0) || decide (l.getD (k - 1) 0 < x)))) := hid (by rw [risOk, Hg.out, Hx.out])
      by_cases h1 : x < 0
      · have hF : Hid (risB l n = false) := hid (Hok.out _ Hris.out (by rw [decide_eq_false (by omega)]; rfl))
        have d1 : decide (x < 0) = true := decide_eq_true h1
        go_wp2
        go_quiet (fail)
        go_wp2
        go_ret
        exact Fin HQ ⟨by rw [hF.out]; rfl, _, World.drewN_drewN _ _ _⟩
      have d1 : decide (x < 0) = false := decide_eq_false h1
      by_cases h2 : n ≤ x
      · have hF : Hid (risB l n = false) := hid (Hok.out _ Hris.out (by rw [decide_eq_false (show ¬ x < n by omega), Bool.and_false]; rfl))
        have d2 : decide (n ≤ x) = true := decide_eq_true h2
        clear h1
        go_wp2
        go_quiet (fail)
        go_wp2
        go_ret
        exact Fin HQ ⟨by rw [hF.out]; rfl, _, World.drewN_drewN _ _ _⟩
      have d2 : decide (n ≤ x) = false := decide_eq_false h2
      by_cases hk0 : k = 0
      · subst hk0
        have hT : Hid (risOk l n 0 = true) := hid (by rw [Hris.out, decide_eq_true (show 0 ≤ x by omega), decide_eq_true (show x < n by omega)]; rfl)
        clear h1 h2
        rw [add_zero] at hcell
        rw [show ((0 : Nat) : Int) = 0 from rfl]
        go_wp2
        go_quiet (fail)
        go_wp2
        go_roundw
        case rel =>
          refine ⟨1, by omega, by go_num, hid fun i hi => ?_, _, rfl⟩
          obtain rfl : i = 0 := by omega
          exact hT.out
        case measure => simp [intOf]; omega
      · obtain ⟨ad', e, hcj⟩ := hr.at1 (show k - 1 < l.length by omega)
        cases e
        have Hgj := hid (getD_at (show k - 1 < l.length by omega))
        obtain ⟨y, Hy⟩ : ∃ y, Hid (l[k - 1]'(by omega) = y) := ⟨_, hid rfl⟩
        rw [Hy.out] at hcj
        have hcj2 : w.cell? (ad.add ((k : Int) - 1).toNat) = some (.int .i64 y) := by rw [show ((k : Int) - 1).toNat = k - 1 by omega]; exact hcj
        have hwr : IntKind.i64.wrap ((k : Int) - 1) = (k : Int) - 1 := by simp [IntKind.wrap, IntKind.bits, IntKind.signed]; omega
        have hp0 : (0 : Int) < (k : Int) := by omega
        have hp1 : (0 : Int) ≤ (k : Int) - 1 := by omega
        have hp2 : (k : Int) - 1 < (l.length : Int) := by omega
        have hp3 : 0 < k := by omega
        have hp4 : 1 ≤ k := by omega
        have hp5 : (1 : Int) ≤ (k : Int) := by omega
        have hp6 : k < l.length + 1 := by omega
        have hp7 : (k : Int) < (l.length : Int) + 1 := by omega
        have hp8 : k ≤ l.length := by omega
        have hp9 : k - 1 < l.length := by omega
        have hd0 : decide (0 < k) = true := decide_eq_true (by omega)
        have Hris2 : Hid (risOk l n k = decide (y < x)) := hid (by
          rw [Hris.out, decide_eq_true (show 0 ≤ x by omega), decide_eq_true (show x < n by omega), decide_eq_false hk0, Hgj.out, Hy.out]; rfl)
        have Hk0 := hid hk0
        clear hk0
        by_cases h3 : x ≤ y
        · have hF : Hid (risB l n = false) := hid (Hok.out _ Hris2.out (decide_eq_false (by omega)))
          have d3 : decide (x ≤ y) = true := decide_eq_true h3
          clear h1 h2
          go_wp2
          go_quiet (fail)
          go_wp2
          go_ret
          exact Fin HQ ⟨by rw [hF.out]; rfl, _, World.drewN_drewN _ _ _⟩
        · have hT : Hid (risOk l n k = true) := hid (by rw [Hris2.out]; exact decide_eq_true (by omega))
          have d3 : decide (x ≤ y) = false := decide_eq_false h3
          clear h1 h2
          go_wp2
          go_quiet (fail)
          go_wp2
          go_roundw
          case rel =>
            refine ⟨k + 1, by omega, by go_num, hid fun i hi => ?_, _, rfl⟩
            by_cases e : i = k
            · subst e; exact hT.out
            · exact hno.out i (by omega)
          case measure => simp [intOf]; omega
    · have hT : Hid (risB l n = true) := hid (risB_true.2 fun i hi => hno.out i (by omega))
      go_wp2
      go_ret
      exact Fin HQ ⟨by rw [hT.out]; rfl, _, rfl⟩

theorem rise12_any (w : World) (v : Value) (l : List Int) (n : Int) (hv : RdI w v l) :
    Calls Try.prog 133 #[v, .int .i64 n] w (Ret fun v w' => v = .bool (risB l n) ∧ Below w.heap.size w w') :=
  (rise12_drew w v l n hv).mono fun e w' h => h.mono fun v w' ⟨hv, m, hm⟩ => ⟨hv, by rw [hm]; exact ext_drewN w m⟩
theorem rise12_quiet (w : World) (v : Value) (l : List Int) (n : Int) (hv : RdI w v l) (q : Nat) :
    Calls Try.prog 133 #[v, .int .i64 n] (w.drewN q) (fun e w' => e = .returned (.bool (risB l n)) ∧ ∃ m, w' = w.drewN m) :=
  (rise12_drew _ v l n (hv.ext (scR_mono _) (ext_drewN w q))).mono fun e w' ⟨v, he, hv, m, hm⟩ => ⟨by rw [he, hv], q + m, by rw [hm, World.drewN_drewN]⟩

set_option maxHeartbeats 800000 in
theorem in12_same (w : World) (v : Value) (l : List Int) (x : Int) (hv : RdI w v l) :
    Calls Try.prog 135 #[v, .int .i64 x] w (fun e w' => e = .returned (.bool (memB l x)) ∧ w' = w) := by
  refine Calls.mono (R := Ret fun v w' => v = .bool (memB l x) ∧ w' = w) ?_ (fun e w' ⟨v, he, hv, hw⟩ => ⟨by rw [he, hv], hw⟩)
  obtain ⟨A, c, rfl, hc, hb, hr⟩ := hv
  refine post_gen fun Q HQ => ?_
  go_enter Try.func135, Try.ntmps135
  go_wp2
  go_loop [5] (fun v5 => ∃ k : Nat, k ≤ l.length ∧ v5 = .int .i64 k ∧ Hid (∀ i (h : i < l.length), i < k → l[i] ≠ x)) (fun v5 => l.length - (intOf v5).toNat)
  case atStart => exact ⟨0, Nat.zero_le _, rfl, fun i _ hk => absurd hk (by omega)⟩
  case round =>
    obtain ⟨k, hk, rfl, hno⟩ := hrel
    by_cases hlt : k < l.length
    · obtain ⟨ad, rfl, hcell⟩ := hr.at1 hlt
      obtain ⟨y, Hy⟩ : ∃ y, Hid (l[k] = y) := ⟨_, hid rfl⟩
      have Hmem := hid (List.getElem_mem hlt)
      rw [Hy.out] at hcell Hmem
      by_cases he : y = x
      · have hb1 : (y == x) = true := by simp [he]
        have hT : Hid (memB l x = true) := hid (memB_true.2 (by rw [← he]; exact Hmem.out))
        clear he
        go_wp2
        go_ret
        exact Fin HQ ⟨by rw [hT.out]; rfl, rfl⟩
      · have hb1 : (y == x) = false := by simp [he]
        have He := hid he
        clear he
        go_wp2
        go_round
        case rel =>
          refine ⟨k + 1, by omega, by go_num, hid fun i h hi => ?_⟩
          by_cases e : i = k
          · subst e; rw [Hy.out]; exact He.out
          · exact hno.out i h (by omega)
        case measure => simp [intOf]; omega
    · have hF : Hid (memB l x = false) := hid (memB_false.2 fun hm => by
        obtain ⟨i, hi, e⟩ := List.getElem_of_mem hm
        exact hno.out i hi (by omega) e)
      go_wp2
      go_ret
      exact Fin HQ ⟨by rw [hF.out]; rfl, rfl⟩
theorem in12_any (w : World) (v : Value) (l : List Int) (x : Int) (hv : RdI w v l) :
    Calls Try.prog 135 #[v, .int .i64 x] w (Ret fun v w' => v = .bool (memB l x) ∧ Below w.heap.size w w') :=
  (in12_same w v l x hv).mono fun e w' ⟨he, hw⟩ => ⟨_, he, rfl, by rw [hw]; exact ext_refl _⟩

set_option maxHeartbeats 800000 in
theorem facts12_any (w : World) (V vl : Value) (T : Th) (l : List Int) (hT : RdTh w V T) (hl : RdI w vl l) :
    Calls Try.prog 93 #[V, vl] w (Ret fun v w' => v = .int .i64 (if risB l T.lits = true then 0 else 181) ∧ Below w.heap.size w w') := by
  obtain ⟨vF, vR, vB, rfl, hF, hR, hB⟩ := hT
  have hl' := hl.ext (scR_mono _) (ext_alloc w (.cells #[.int .i64 T.lits, vF, vR, vB] 25))
  have hcall := hid (rise12_any _ vl l T.lits hl')
  have hbel := ext_alloc w (.cells #[.int .i64 T.lits, vF, vR, vB] 25)
  clear hl'
  refine post_gen fun Q HQ => ?_
  go_enter Try.func93, Try.ntmps93
  go_wp2_with fail
  refine hcall.out.mono ?_
  rintro e w2 ⟨_, rfl, rfl, hb2⟩
  cases h : risB l T.lits with
  | true =>
    rw [h] at HQ
    go_wp2_with fail
    go_ret
    exact Fin HQ ⟨rfl, ext_trans hbel hb2⟩
  | false =>
    rw [h] at HQ
    go_wp2_with fail
    go_ret
    exact Fin HQ ⟨rfl, ext_trans hbel hb2⟩

set_option maxRecDepth 100000 in
set_option maxHeartbeats 1600000 in
theorem foes12_any (w : World) (V : Value) (T : Th) (q : Nat) (hT : RdTh w V T) (hl : (T.foes.length : Int) = T.lits) (h4 : T.lits ≤ 4096) (hq : q < T.foes.length) :
    Calls Try.prog 132 #[V, .int .i64 q] w (Ret fun v w' => v = .bool (foesOk T q) ∧ Below w.heap.size w w') := by
  obtain ⟨vF, vR, vB, rfl, ⟨A, c, rfl, hc, hb, hr⟩, hR, hB⟩ := hT
  have hbel := ext_alloc w (.cells #[.int .i64 T.lits, .slice A T.foes.length c, vR, vB] 25)
  have hbx : ∀ W, Below (w.alloc (.cells #[.int .i64 T.lits, .slice A T.foes.length c, vR, vB] 25)).heap.size (w.alloc (.cells #[.int .i64 T.lits, .slice A T.foes.length c, vR, vB] 25)) W → W.cell? ⟨w.heap.size, 0, none⟩ = some (.int .i64 T.lits) ∧ W.cell? ⟨w.heap.size, 1, none⟩ = some (.slice A T.foes.length c) := fun W hW => by
    rw [World.size_alloc] at hW
    exact ⟨box_cell hW 0, box_cell hW 1⟩
  have Hbx := hid hbx
  have hr1 := hr.ext llR_mono hbel
  obtain ⟨ad, C, cC, rfl, p, h1, h2, hrow⟩ := hr1.atRow hq
  have Hrow : Hid (T.foes.getD q [] = T.foes[q]) := hid (by simp [hq])
  have Hfo : Hid (foesOk T q = (decide (T.foes[q].length ≤ 64) && risB T.foes[q] T.lits && !memB T.foes[q] q && T.foes[q].all fun f => memB (row T.foes f) q)) := hid (by rw [foesOk, Hrow.out])
  have Hris : Hid (risB T.foes[q] T.lits = true → ∀ i (h : i < T.foes[q].length), 0 ≤ T.foes[q][i] ∧ T.foes[q][i] < T.lits) := hid fun h => (risB_spec h).1
  generalize T.foes[q] = L at *
  have HrowE : Hid (RdI (w.alloc (.cells #[.int .i64 T.lits, .slice (some ad) T.foes.length c, vR, vB] 25)) (.slice C L.length cC) L) := hid ⟨C, cC, rfl, h1, h2, hrow⟩
  have Hb := hid hbel
  have Hr1 := hid hr1
  clear hbx hr hr1 hbel
  refine post_gen fun Q HQ => ?_
  go_enter Try.func132, Try.ntmps132
  by_cases h64 : L.length ≤ 64
  case neg =>
    have hF : Hid (foesOk T q = false) := hid (by rw [Hfo.out, decide_eq_false h64]; rfl)
    rw [hF.out] at HQ
    have hgt : (64 : Int) < (L.length : Int) := by omega
    go_wp2
    go_ret
    exact Fin HQ ⟨rfl, Hb.out⟩
  have H64 := hid h64
  have hgt : ¬ (64 : Int) < (L.length : Int) := by omega
  have Hc1 := hid (rise12_any _ _ L T.lits HrowE.out)
  clear h64
  go_wp2_with fail
  refine Hc1.out.mono ?_
  rintro e w2 ⟨_, rfl, rfl, hb2⟩
  cases hrs : risB L T.lits with
  | false =>
    have hF : Hid (foesOk T q = false) := hid (by rw [Hfo.out, hrs]; simp)
    rw [hF.out] at HQ
    clear hrs
    go_wp2
    go_ret
    exact Fin HQ ⟨rfl, ext_trans Hb.out hb2⟩
  | true =>
  have Hrs := hid hrs
  have Hin := hid (Hris.out hrs)
  have Hc2 := hid (in12_any w2 _ L (q : Int) (HrowE.out.ext (scR_mono _) hb2))
  clear hrs Hc1
  go_wp2_with fail
  refine Hc2.out.mono ?_
  rintro e w3 ⟨_, rfl, rfl, hb3⟩
  cases hmm : memB L (q : Int) with
  | true =>
    have hF : Hid (foesOk T q = false) := hid (by rw [Hfo.out, hmm]; simp)
    rw [hF.out] at HQ
    clear hmm
    go_wp2
    go_ret
    exact Fin HQ ⟨rfl, ext_trans Hb.out (ext_trans hb2 hb3)⟩
  | false =>
  have Hm := hid hmm
  have hb23 := ext_trans hb2 hb3
  have Hw3 := hid (ext_trans Hb.out hb23)
  have Hrow3 := hid ((HrowE.out.ext (scR_mono _) hb23))
  have hbx3 := hid (Hbx.out w3 hb23)
  have Hr3 := hid (Hr1.out.ext llR_mono hb23)
  clear hmm Hc2 hb2 hb3 hb23 p hrow HrowE Hr1 Hbx
  go_wp2
  go_loopw [6] (fun v6 wr => ∃ k : Nat, k ≤ L.length ∧ v6 = .int .i64 k ∧ Hid (∀ i (h : i < L.length), i < k → memB (row T.foes L[i]) q = true) ∧ Below w3.heap.size w3 wr) (fun v6 _ => L.length - (intOf v6).toNat)
  case atStart => exact ⟨0, Nat.zero_le _, rfl, fun i _ hk => absurd hk (by omega), Below.refl _ _⟩
  case round =>
    obtain ⟨k, hk, rfl, hno, hbl⟩ := hrel
    by_cases hlt : k < L.length
    · obtain ⟨CC, cCC, e, hcc1, hcc2, hrl⟩ := Hrow3.out.ext (scR_mono _) hbl
      cases e
      obtain ⟨adL, rfl, hcell⟩ := hrl.at1 hlt
      have hrg := Hin.out k hlt
      obtain ⟨x, hx, hxe⟩ : ∃ x : Nat, x < T.foes.length ∧ L[k] = (x : Int) := ⟨L[k].toNat, by omega, by omega⟩
      rw [hxe] at hcell
      obtain ⟨ad', D, cD, e, pD, d1, d2, hrD⟩ := (Hr3.out.ext llR_mono hbl).atRow hx
      cases e
      have c1 := cell_ext hbl hbx3.out.2
      have Hrowx : Hid (row T.foes L[k] = T.foes[x]) := hid (by rw [hxe]; simp [row, hx])
      generalize T.foes[x] = M at *
      have Hcall : Hid (∀ n, Calls Try.prog 135 #[.slice D M.length cD, .int .i64 (q : Int)] (wr.drewN n) (fun e w' => e = .returned (.bool (memB M (q : Int))) ∧ w' = wr.drewN n)) := hid fun n => in12_same _ _ M (q : Int) (Rd.ext (scR_mono _) (⟨D, cD, rfl, d1, d2, hrD⟩ : RdI wr (.slice D M.length cD) M) (ext_drewN wr n))
      have hxi : (x : Int) < (T.foes.length : Int) := by omega
      clear hrD hrl
      cases hmm : memB M (q : Int) with
      | false =>
        rw [hmm] at Hcall
        have hF : Hid (foesOk T q = false) := hid (by
          rw [Hfo.out, Bool.and_eq_false_iff]
          right
          rw [List.all_eq_false]
          exact ⟨L[k], List.getElem_mem hlt, by rw [Hrowx.out, hmm]; simp⟩)
        rw [hF.out] at HQ
        clear hmm hrg
        go_wp2_with fail
        go_quiet ((go_at_call 135; exact Calls.quiet_of_same (Hcall.out _)))
        go_wp2
        go_ret
        exact Fin HQ ⟨rfl, ext_trans Hw3.out (below_drewN hbl _)⟩
      | true =>
        rw [hmm] at Hcall
        have Hmm := hid hmm
        clear hmm hrg
        go_wp2_with fail
        go_quiet ((go_at_call 135; exact Calls.quiet_of_same (Hcall.out _)))
        go_wp2
        go_roundw
        case rel =>
          refine ⟨k + 1, by omega, by go_num, hid fun i h hi => ?_, below_drewN hbl _⟩
          by_cases e : i = k
          · subst e; rw [Hrowx.out]; exact Hmm.out
          · exact hno.out i h (by omega)
        case measure => simp [intOf]; omega
    · have hT : Hid (foesOk T q = true) := hid (by
        rw [Hfo.out, decide_eq_true H64.out, Hrs.out, Hm.out, List.all_eq_true.2 fun f hf => ?_]
        · rfl
        · obtain ⟨i, hi, rfl⟩ := List.getElem_of_mem hf
          exact hno.out i hi (by omega))
      rw [hT.out] at HQ
      go_wp2
      go_ret
      exact Fin HQ ⟨rfl, ext_trans Hw3.out hbl⟩
end Go.Proofs.Lx
