/- Parts of the proof: Sa, Ng, Nh, Nr, Ne, Ni, Nj, Pa, Nk, Sb, Pb, Sc, Sd. Contracts of the reference's small functions (layer 12): Rising, In, foes, CheckFacts. -/
import Derived.Test.YtalhpldbhogadaaM2
import Derived.Deep.DeepCutAuto
import Derived.Deep.RegionHeld3
import Derived.WalkSmall
import Derived.WalkSpells
import Derived.WalkMore
namespace Go.Proofs.Lx
open Go Go.RowKit
set_option linter.unusedSimpArgs false
set_option linter.unusedVariables false

theorem getD_at {l : List Int} {k : Nat} (h : k < l.length) : l.getD k 0 = l[k] := by simp [h]
set_option maxRecDepth 100000 in
set_option maxHeartbeats 1600000 in
theorem rise12_drew (w : World) (v : Value) (l : List Int) (n : Int) (hv : RdI w v l) :
    Calls Try.prog 133 #[v, .int .i64 n] w (Ret fun v w' => v = .bool (risB l n) ∧ ∃ m, w' = w.drewN m) := by
  obtain ⟨A, c, rfl, hc, hb, hr⟩ := hv
  refine post_gen fun Q HQ => ?_
  go_enter Try.func133, Try.ntmps133
  go_wp2
  go_loopw [5] (fun v5 wr => ∃ k : Nat, k ≤ l.length ∧ v5 = .int .i64 k ∧ Hid (∀ i, i < k → risOk l n i = true) ∧ ∃ nn, wr = w.drewN nn) (fun v5 _ => l.length - (intOf v5).toNat)
  case atStart => exact ⟨0, Nat.zero_le _, rfl, fun i hk => absurd hk (by omega), 0, rfl⟩
  case round =>
    obtain ⟨k, hk, rfl, hno, nn, rfl⟩ := hrel
    have hbl := ext_drewN w nn
    by_cases hlt : k < l.length
    · obtain ⟨ad, rfl, hcell⟩ := hr.at1 hlt
      have Hg := hid (getD_at hlt)
      obtain ⟨x, Hx⟩ : ∃ x, Hid (l[k] = x) := ⟨_, hid rfl⟩
      rw [Hx.out] at hcell
      have Hok : Hid (∀ b, risOk l n k = b → b = false → risB l n = false) := hid fun b h1 h2 => risB_false hlt (by rw [h1, h2])
      have Hris : Hid (risOk l n k = (decide (0 ≤ x) && decide (x < n) && (decide (k = 0) || decide (l.getD (k - 1) 0 < x)))) := hid (by rw [risOk, Hg.out, Hx.out])
      by_cases h1 : x < 0
      · have hF : Hid (risB l n = false) := hid (Hok.out _ Hris.out (by rw [decide_eq_false (by omega)]; rfl))
        have d1 : decide (x < 0) = true := decide_eq_true h1
        go_wp2
        go_quiet (fail)
        go_wp2
        go_ret
        exact Fin HQ ⟨by rw [hF.out]; rfl, _, World.drewN_drewN _ _ _⟩
      have d1 : decide (x < 0) = false := decide_eq_false h1
      by_cases h2 : n ≤ x
      · have hF : Hid (risB l n = false) := hid (Hok.out _ Hris.out (by rw [decide_eq_false (show ¬ x < n by omega), Bool.and_false]; rfl))
        have d2 : decide (n ≤ x) = true := decide_eq_true h2
        clear h1
        go_wp2
        go_quiet (fail)
        go_wp2
        go_ret
        exact Fin HQ ⟨by rw [hF.out]; rfl, _, World.drewN_drewN _ _ _⟩
      have d2 : decide (n ≤ x) = false := decide_eq_false h2
      by_cases hk0 : k = 0
      · subst hk0
        have hT : Hid (risOk l n 0 = true) := hid (by rw [Hris.out, decide_eq_true (show 0 ≤ x by omega), decide_eq_true (show x < n by omega)]; rfl)
        clear h1 h2
        rw [add_zero] at hcell
        rw [show ((0 : Nat) : Int) = 0 from rfl]
        go_wp2
        go_quiet (fail)
        go_wp2
        go_roundw
        case rel =>
          refine ⟨1, by omega, by go_num, hid fun i hi => ?_, _, rfl⟩
          obtain rfl : i = 0 := by omega
          exact hT.out
        case measure => simp [intOf]; omega
      · obtain ⟨ad', e, hcj⟩ := hr.at1 (show k - 1 < l.length by omega)
        cases e
        have Hgj := hid (getD_at (show k - 1 < l.length by omega))
        obtain ⟨y, Hy⟩ : ∃ y, Hid (l[k - 1]'(by omega) = y) := ⟨_, hid rfl⟩
        rw [Hy.out] at hcj
        have hcj2 : w.cell? (ad.add ((k : Int) - 1).toNat) = some (.int .i64 y) := by rw [show ((k : Int) - 1).toNat = k - 1 by omega]; exact hcj
        have hwr : IntKind.i64.wrap ((k : Int) - 1) = (k : Int) - 1 := by simp [IntKind.wrap, IntKind.bits, IntKind.signed]; omega
        have hp0 : (0 : Int) < (k : Int) := by omega
        have hp1 : (0 : Int) ≤ (k : Int) - 1 := by omega
        have hp2 : (k : Int) - 1 < (l.length : Int) := by omega
        have hp3 : 0 < k := by omega
        have hp4 : 1 ≤ k := by omega
        have hp5 : (1 : Int) ≤ (k : Int) := by omega
        have hp6 : k < l.length + 1 := by omega
        have hp7 : (k : Int) < (l.length : Int) + 1 := by omega
        have hp8 : k ≤ l.length := by omega
        have hp9 : k - 1 < l.length := by omega
        have hd0 : decide (0 < k) = true := decide_eq_true (by omega)
        have Hris2 : Hid (risOk l n k = decide (y < x)) := hid (by
          rw [Hris.out, decide_eq_true (show 0 ≤ x by omega), decide_eq_true (show x < n by omega), decide_eq_false hk0, Hgj.out, Hy.out]; rfl)
        have Hk0 := hid hk0
        clear hk0
        by_cases h3 : x ≤ y
        · have hF : Hid (risB l n = false) := hid (Hok.out _ Hris2.out (decide_eq_false (by omega)))
          have d3 : decide (x ≤ y) = true := decide_eq_true h3
          clear h1 h2
          go_wp2
          go_quiet (fail)
          go_wp2
          go_ret
          exact Fin HQ ⟨by rw [hF.out]; rfl, _, World.drewN_drewN _ _ _⟩
        · have hT : Hid (risOk l n k = true) := hid (by rw [Hris2.out]; exact decide_eq_true (by omega))
          have d3 : decide (x ≤ y) = false := decide_eq_false h3
          clear h1 h2
          go_wp2
          go_quiet (fail)
          go_wp2
          go_roundw
          case rel =>
            refine ⟨k + 1, by omega, by go_num, hid fun i hi => ?_, _, rfl⟩
            by_cases e : i = k
            · subst e; exact hT.out
            · exact hno.out i (by omega)
          case measure => simp [intOf]; omega
    · have hT : Hid (risB l n = true) := hid (risB_true.2 fun i hi => hno.out i (by omega))
      go_wp2
      go_ret
      exact Fin HQ ⟨by rw [hT.out]; rfl, _, rfl⟩

theorem rise12_any (w : World) (v : Value) (l : List Int) (n : Int) (hv : RdI w v l) :
    Calls Try.prog 133 #[v, .int .i64 n] w (Ret fun v w' => v = .bool (risB l n) ∧ Below w.heap.size w w') :=
  (rise12_drew w v l n hv).mono fun e w' h => h.mono fun v w' ⟨hv, m, hm⟩ => ⟨hv, by rw [hm]; exact ext_drewN w m⟩
theorem rise12_quiet (w : World) (v : Value) (l : List Int) (n : Int) (hv : RdI w v l) (q : Nat) :
    Calls Try.prog 133 #[v, .int .i64 n] (w.drewN q) (fun e w' => e = .returned (.bool (risB l n)) ∧ ∃ m, w' = w.drewN m) :=
  (rise12_drew _ v l n (hv.ext (scR_mono _) (ext_drewN w q))).mono fun e w' ⟨v, he, hv, m, hm⟩ => ⟨by rw [he, hv], q + m, by rw [hm, World.drewN_drewN]⟩

set_option maxHeartbeats 800000 in
theorem in12_same (w : World) (v : Value) (l : List Int) (x : Int) (hv : RdI w v l) :
    Calls Try.prog 135 #[v, .int .i64 x] w (fun e w' => e = .returned (.bool (memB l x)) ∧ w' = w) := by
  refine Calls.mono (R := Ret fun v w' => v = .bool (memB l x) ∧ w' = w) ?_ (fun e w' ⟨v, he, hv, hw⟩ => ⟨by rw [he, hv], hw⟩)
  obtain ⟨A, c, rfl, hc, hb, hr⟩ := hv
  refine post_gen fun Q HQ => ?_
  go_enter Try.func135, Try.ntmps135
  go_wp2
  go_loop [5] (fun v5 => ∃ k : Nat, k ≤ l.length ∧ v5 = .int .i64 k ∧ Hid (∀ i (h : i < l.length), i < k → l[i] ≠ x)) (fun v5 => l.length - (intOf v5).toNat)
  case atStart => exact ⟨0, Nat.zero_le _, rfl, fun i _ hk => absurd hk (by omega)⟩
  case round =>
    obtain ⟨k, hk, rfl, hno⟩ := hrel
    by_cases hlt : k < l.length
    · obtain ⟨ad, rfl, hcell⟩ := hr.at1 hlt
      obtain ⟨y, Hy⟩ : ∃ y, Hid (l[k] = y) := ⟨_, hid rfl⟩
      have Hmem := hid (List.getElem_mem hlt)
      rw [Hy.out] at hcell Hmem
      by_cases he : y = x
      · have hb1 : (y == x) = true := by simp [he]
        have hT : Hid (memB l x = true) := hid (memB_true.2 (by rw [← he]; exact Hmem.out))
        clear he
        go_wp2
        go_ret
        exact Fin HQ ⟨by rw [hT.out]; rfl, rfl⟩
      · have hb1 : (y == x) = false := by simp [he]
        have He := hid he
        clear he
        go_wp2
        go_round
        case rel =>
          refine ⟨k + 1, by omega, by go_num, hid fun i h hi => ?_⟩
          by_cases e : i = k
          · subst e; rw [Hy.out]; exact He.out
          · exact hno.out i h (by omega)
        case measure => simp [intOf]; omega
    · have hF : Hid (memB l x = false) := hid (memB_false.2 fun hm => by
        obtain ⟨i, hi, e⟩ := List.getElem_of_mem hm
        exact hno.out i hi (by omega) e)
      go_wp2
      go_ret
      exact Fin HQ ⟨by rw [hF.out]; rfl, rfl⟩
theorem in12_any (w : World) (v : Value) (l : List Int) (x : Int) (hv : RdI w v l) :
    Calls Try.prog 135 #[v, .int .i64 x] w (Ret fun v w' => v = .bool (memB l x) ∧ Below w.heap.size w w') :=
  (in12_same w v l x hv).mono fun e w' ⟨he, hw⟩ => ⟨_, he, rfl, by rw [hw]; exact ext_refl _⟩

set_option maxHeartbeats 800000 in
theorem facts12_any (w : World) (V vl : Value) (T : Th) (l : List Int) (hT : RdTh w V T) (hl : RdI w vl l) :
    Calls Try.prog 93 #[V, vl] w (Ret fun v w' => v = .int .i64 (if risB l T.lits = true then 0 else 181) ∧ Below w.heap.size w w') := by
  obtain ⟨vF, vR, vB, rfl, hF, hR, hB⟩ := hT
  have hl' := hl.ext (scR_mono _) (ext_alloc w (.cells #[.int .i64 T.lits, vF, vR, vB] 25))
  have hcall := hid (rise12_any _ vl l T.lits hl')
  have hbel := ext_alloc w (.cells #[.int .i64 T.lits, vF, vR, vB] 25)
  clear hl'
  refine post_gen fun Q HQ => ?_
  go_enter Try.func93, Try.ntmps93
  go_wp2_with fail
  refine hcall.out.mono ?_
  rintro e w2 ⟨_, rfl, rfl, hb2⟩
  cases h : risB l T.lits with
  | true =>
    rw [h] at HQ
    go_wp2_with fail
    go_ret
    exact Fin HQ ⟨rfl, ext_trans hbel hb2⟩
  | false =>
    rw [h] at HQ
    go_wp2_with fail
    go_ret
    exact Fin HQ ⟨rfl, ext_trans hbel hb2⟩

set_option maxRecDepth 100000 in
set_option maxHeartbeats 1600000 in
theorem foes12_any (w : World) (V : Value) (T : Th) (q : Nat) (hT : RdTh w V T) (hl : (T.foes.length : Int) = T.lits) (h4 : T.lits ≤ 4096) (hq : q < T.foes.length) :
    Calls Try.prog 132 #[V, .int .i64 q] w (Ret fun v w' => v = .bool (foesOk T q) ∧ Below w.heap.size w w') := by
  obtain ⟨vF, vR, vB, rfl, ⟨A, c, rfl, hc, hb, hr⟩, hR, hB⟩ := hT
  have hbel := ext_alloc w (.cells #[.int .i64 T.lits, .slice A T.foes.length c, vR, vB] 25)
  have hbx : ∀ W, Below (w.alloc (.cells #[.int .i64 T.lits, .slice A T.foes.length c, vR, vB] 25)).heap.size (w.alloc (.cells #[.int .i64 T.lits, .slice A T.foes.length c, vR, vB] 25)) W → W.cell? ⟨w.heap.size, 0, none⟩ = some (.int .i64 T.lits) ∧ W.cell? ⟨w.heap.size, 1, none⟩ = some (.slice A T.foes.length c) := fun W hW => by
    rw [World.size_alloc] at hW
    exact ⟨box_cell hW 0, box_cell hW 1⟩
  have Hbx := hid hbx
  have hr1 := hr.ext llR_mono hbel
  obtain ⟨ad, C, cC, rfl, p, h1, h2, hrow⟩ := hr1.atRow hq
  have Hrow : Hid (T.foes.getD q [] = T.foes[q]) := hid (by simp [hq])
  have Hfo : Hid (foesOk T q = (decide (T.foes[q].length ≤ 64) && risB T.foes[q] T.lits && !memB T.foes[q] q && T.foes[q].all fun f => memB (row T.foes f) q)) := hid (by rw [foesOk, Hrow.out])
  have Hris : Hid (risB T.foes[q] T.lits = true → ∀ i (h : i < T.foes[q].length), 0 ≤ T.foes[q][i] ∧ T.foes[q][i] < T.lits) := hid fun h => (risB_spec h).1
  generalize T.foes[q] = L at *
  have HrowE : Hid (RdI (w.alloc (.cells #[.int .i64 T.lits, .slice (some ad) T.foes.length c, vR, vB] 25)) (.slice C L.length cC) L) := hid ⟨C, cC, rfl, h1, h2, hrow⟩
  have Hb := hid hbel
  have Hr1 := hid hr1
  clear hbx hr hr1 hbel
  refine post_gen fun Q HQ => ?_
  go_enter Try.func132, Try.ntmps132
  by_cases h64 : L.length ≤ 64
  case neg =>
    have hF : Hid (foesOk T q = false) := hid (by rw [Hfo.out, decide_eq_false h64]; rfl)
    rw [hF.out] at HQ
    have hgt : (64 : Int) < (L.length : Int) := by omega
    go_wp2
    go_ret
    exact Fin HQ ⟨rfl, Hb.out⟩
  have H64 := hid h64
  have hgt : ¬ (64 : Int) < (L.length : Int) := by omega
  have Hc1 := hid (rise12_any _ _ L T.lits HrowE.out)
  clear h64
  go_wp2_with fail
  refine Hc1.out.mono ?_
  rintro e w2 ⟨_, rfl, rfl, hb2⟩
  cases hrs : risB L T.lits with
  | false =>
    have hF : Hid (foesOk T q = false) := hid (by rw [Hfo.out, hrs]; simp)
    rw [hF.out] at HQ
    clear hrs
    go_wp2
    go_ret
    exact Fin HQ ⟨rfl, ext_trans Hb.out hb2⟩
  | true =>
  have Hrs := hid hrs
  have Hin := hid (Hris.out hrs)
  have Hc2 := hid (in12_any w2 _ L (q : Int) (HrowE.out.ext (scR_mono _) hb2))
  clear hrs Hc1
  go_wp2_with fail
  refine Hc2.out.mono ?_
  rintro e w3 ⟨_, rfl, rfl, hb3⟩
  cases hmm : memB L (q : Int) with
  | true =>
    have hF : Hid (foesOk T q = false) := hid (by rw [Hfo.out, hmm]; simp)
    rw [hF.out] at HQ
    clear hmm
    go_wp2
    go_ret
    exact Fin HQ ⟨rfl, ext_trans Hb.out (ext_trans hb2 hb3)⟩
  | false =>
  have Hm := hid hmm
  have hb23 := ext_trans hb2 hb3
  have Hw3 := hid (ext_trans Hb.out hb23)
  have Hrow3 := hid ((HrowE.out.ext (scR_mono _) hb23))
  have hbx3 := hid (Hbx.out w3 hb23)
  have Hr3 := hid (Hr1.out.ext llR_mono hb23)
  clear hmm Hc2 hb2 hb3 hb23 p hrow HrowE Hr1 Hbx
  go_wp2
  go_loopw [6] (fun v6 wr => ∃ k : Nat, k ≤ L.length ∧ v6 = .int .i64 k ∧ Hid (∀ i (h : i < L.length), i < k → memB (row T.foes L[i]) q = true) ∧ Below w3.heap.size w3 wr) (fun v6 _ => L.length - (intOf v6).toNat)
  case atStart => exact ⟨0, Nat.zero_le _, rfl, fun i _ hk => absurd hk (by omega), Below.refl _ _⟩
  case round =>
    obtain ⟨k, hk, rfl, hno, hbl⟩ := hrel
    by_cases hlt : k < L.length
    · obtain ⟨CC, cCC, e, hcc1, hcc2, hrl⟩ := Hrow3.out.ext (scR_mono _) hbl
      cases e
      obtain ⟨adL, rfl, hcell⟩ := hrl.at1 hlt
      have hrg := Hin.out k hlt
      obtain ⟨x, hx, hxe⟩ : ∃ x : Nat, x < T.foes.length ∧ L[k] = (x : Int) := ⟨L[k].toNat, by omega, by omega⟩
      rw [hxe] at hcell
      obtain ⟨ad', D, cD, e, pD, d1, d2, hrD⟩ := (Hr3.out.ext llR_mono hbl).atRow hx
      cases e
      have c1 := cell_ext hbl hbx3.out.2
      have Hrowx : Hid (row T.foes L[k] = T.foes[x]) := hid (by rw [hxe]; simp [row, hx])
      generalize T.foes[x] = M at *
      have Hcall : Hid (∀ n, Calls Try.prog 135 #[.slice D M.length cD, .int .i64 (q : Int)] (wr.drewN n) (fun e w' => e = .returned (.bool (memB M (q : Int))) ∧ w' = wr.drewN n)) := hid fun n => in12_same _ _ M (q : Int) (Rd.ext (scR_mono _) (⟨D, cD, rfl, d1, d2, hrD⟩ : RdI wr (.slice D M.length cD) M) (ext_drewN wr n))
      have hxi : (x : Int) < (T.foes.length : Int) := by omega
      clear hrD hrl
      cases hmm : memB M (q : Int) with
      | false =>
        rw [hmm] at Hcall
        have hF : Hid (foesOk T q = false) := hid (by
          rw [Hfo.out, Bool.and_eq_false_iff]
          right
          rw [List.all_eq_false]
          exact ⟨L[k], List.getElem_mem hlt, by rw [Hrowx.out, hmm]; simp⟩)
        rw [hF.out] at HQ
        clear hmm hrg
        go_wp2_with fail
        go_quiet ((go_at_call 135; exact Calls.quiet_of_same (Hcall.out _)))
        go_wp2
        go_ret
        exact Fin HQ ⟨rfl, ext_trans Hw3.out (below_drewN hbl _)⟩
      | true =>
        rw [hmm] at Hcall
        have Hmm := hid hmm
        clear hmm hrg
        go_wp2_with fail
        go_quiet ((go_at_call 135; exact Calls.quiet_of_same (Hcall.out _)))
        go_wp2
        go_roundw
        case rel =>
          refine ⟨k + 1, by omega, by go_num, hid fun i h hi => ?_, below_drewN hbl _⟩
          by_cases e : i = k
          · subst e; rw [Hrowx.out]; exact Hmm.out
          · exact hno.out i h (by omega)
        case measure => simp [intOf]; omega
    · have hT : Hid (foesOk T q = true) := hid (by
        rw [Hfo.out, decide_eq_true H64.out, Hrs.out, Hm.out, List.all_eq_true.2 fun f hf => ?_]
        · rfl
        · obtain ⟨i, hi, rfl⟩ := List.getElem_of_mem hf
          exact hno.out i hi (by omega))
      rw [hT.out] at HQ
      go_wp2
      go_ret
      exact Fin HQ ⟨rfl, ext_trans Hw3.out hbl⟩
end Go.Proofs.Lx

namespace Go.Proofs.Lx
open Go Go.RowKit
set_option linter.unusedSimpArgs false
set_option linter.unusedVariables false

def cnd (T : Th) (F : List Bool) (RL : List (List Int)) (M : List Nat) : Nat → Int → Bool
  | 0 => plusDB T F RL M
  | 1 => minusDB T F RL M
  | 2 => plusPB T RL M
  | _ => minusPB T RL M
def orM (C : Nat → Bool) (x : Nat) : Nat → Nat
  | 0 => x
  | k + 1 => if C k then orM C x k ||| 2 ^ k else orM C x k
def rnd (C : Nat → Int → Bool) (M : List Nat) (i j : Nat) : List Nat := (List.range M.length).map fun (q : Nat) => orM (fun k => C k (q : Int)) (M.getD q 0) (if q < j then i + 1 else i)
def roundM (T : Th) (F : List Bool) (RL : List (List Int)) (M : List Nat) : List Nat := rnd (cnd T F RL M) M 4 0
section
variable {C : Nat → Int → Bool} {M : List Nat}
theorem rnd_length (i j : Nat) : (rnd C M i j).length = M.length := by simp [rnd]
theorem rnd_zero : rnd C M 0 0 = M := by
  apply List.ext_getElem
  · simp [rnd]
  · intro q h1 h2; simp [rnd, orM, h2]
theorem rnd_next (i : Nat) : rnd C M i M.length = rnd C M (i + 1) 0 := by
  apply List.ext_getElem
  · simp [rnd]
  · intro q h1 h2
    rw [rnd_length] at h1
    simp [rnd, h1]
theorem rnd_skip {i j : Nat} (h : C i (j : Int) = false) : rnd C M i (j + 1) = rnd C M i j := by
  apply List.ext_getElem
  · simp [rnd]
  · intro q h1 h2
    rw [rnd_length] at h1
    simp only [rnd, List.getElem_map, List.getElem_range]
    by_cases e : q = j
    · subst e
      rw [if_pos (by omega), if_neg (by omega), orM, h]; rfl
    · by_cases e2 : q < j
      · rw [if_pos (by omega), if_pos e2]
      · rw [if_neg (by omega), if_neg e2]
theorem rnd_hit {i j : Nat} (h : C i (j : Int) = true) (hj : j < (rnd C M i j).length) : rnd C M i (j + 1) = (rnd C M i j).set j ((rnd C M i j)[j] ||| 2 ^ i) := by
  apply List.ext_getElem
  · simp [rnd]
  · intro q h1 h2
    rw [List.getElem_set]
    by_cases e : j = q
    · subst e
      rw [if_pos rfl]
      simp only [rnd, List.getElem_map, List.getElem_range]
      rw [if_pos (by omega), if_neg (by omega), orM, h]; rfl
    · rw [if_neg e]
      simp only [rnd, List.getElem_map, List.getElem_range]
      by_cases e2 : q < j
      · rw [if_pos (by omega), if_pos e2]
      · rw [if_neg (by omega), if_neg e2]
theorem orM_lt {C : Nat → Bool} {x : Nat} (hx : x < 256) : ∀ k, k ≤ 8 → orM C x k < 256
  | 0, _ => hx
  | k + 1, h => by
    have ih := orM_lt (C := C) hx k (by omega)
    unfold orM
    split
    · exact Nat.or_lt_two_pow (n := 8) ih (Nat.pow_lt_pow_right (by decide) (by omega))
    · exact ih
theorem rnd_lt (h : ∀ x ∈ M, x < 256) {i j : Nat} (hi : i < 8) : ∀ x ∈ rnd C M i j, x < 256 := by
  intro x hx
  obtain ⟨q, hq, rfl⟩ := List.mem_map.1 hx
  have hq := List.mem_range.1 hq
  refine orM_lt ?_ _ (by split <;> omega)
  have : M.getD q 0 = M[q] := by simp [hq]
  rw [this]; exact h _ (List.getElem_mem hq)
end
theorem bit_or (x : Nat) (hx : x < 256) (k : Nat) (hk : k < 4) : bits .or .u8 (x : Int) ((2 ^ k : Nat) : Int) = ((x ||| 2 ^ k : Nat) : Int) := by
  have h2 : 2 ^ k < 2 ^ 8 := Nat.pow_lt_pow_right (by decide) (by omega)
  exact (bits_nat .u8 8 (by decide) wraps_u8 x (2 ^ k) hx h2).2
end Go.Proofs.Lx

namespace Go.Proofs.Lx
open Go Go.RowKit
set_option linter.unusedSimpArgs false
set_option linter.unusedVariables false

/-- The relation of the two loops. -/
def RI (w : World) (T : Th) (F : List Bool) (RL : List (List Int)) (M : List Nat) (v : Value) (i j : Nat) (wr : World) : Prop :=
  wr.ownsRow w.heap.size 33 1 v M.length (marksV (rnd (cnd T F RL M) M i j)) ∧ Below w.heap.size w wr

theorem RI.ext {w : World} {T : Th} {F : List Bool} {RL : List (List Int)} {M : List Nat} {v : Value} {i j : Nat} {w1 w2 : World} (h : RI w T F RL M v i j w1) (hb : Below w1.heap.size w1 w2) : RI w T F RL M v i j w2 :=
  ⟨h.1.kept (row := none) ⟨hb.os, hb.tape, hb.output, hb.size, fun k hk _ => hb.block k hk⟩ (by cases v.ownBlock <;> simp), ext_trans h.2 hb⟩
abbrev cndV : Value := .agg #[.func (.func 88) #[] #[], .func (.func 89) #[] #[], .func (.func 90) #[] #[], .func (.func 91) #[] #[]]
theorem info93 : (Try.prog.info? 93).isSome = true := by kernel_rfl
theorem cells93 : Try.prog.cellsOf 93 = 1 := by kernel_rfl
theorem cndIx (i : Nat) (v : Value) (hi : i < 4) (hv : (#[Value.func (.func 88) #[] #[], .func (.func 89) #[] #[], .func (.func 90) #[] #[], .func (.func 91) #[] #[]] : Array Value)[i]? = some v) (W : World) :
    Sem.run Try.prog (Instr.index 94 cndV (.int .i64 (i : Int))) W = .ok v W := by
  obtain ⟨x, hx⟩ := Option.isSome_iff_exists.1 info93
  have h1 := run_sizeOf (P := Try.prog) W hx
  rw [cells93] at h1
  have h3 : (i : Int) < 4 := by omega
  simp only [Instr.index, asIntOf, Sem.run_bind, Sem.run_pure, Result.andThen_ok, run_underlying Try.underlying94, h1, part, isAgg, run_underlying Try.underlying93]
  have hv2 := hv
  simp only [List.getElem?_toArray] at hv2
  simp [h3, hv2]
set_option maxRecDepth 100000 in
set_option maxHeartbeats 6400000 in
theorem round_any (w : World) (b : Nat) (T : Th) (F : List Bool) (RL : List (List Int)) (M : List Nat) (h : NW w b T F RL M) (hv : NVal T F RL M) :
    Calls Try.prog 59 #[.pointer (some ⟨b, 0, none⟩)] w (Ret fun v w' => w'.ownsRow w.heap.size 33 1 v M.length (marksV (roundM T F RL M)) ∧ Below w.heap.size w w') := by
  have Hv := hid hv
  have Hw := hid h
  obtain ⟨vF, vR, vB, vFa, vRu, vM, hh, _, _, _, _, _, hM⟩ := h.ex
  have c6 := cell_of_row w b 6 _ _ _ hh
  simp only [List.getElem?_toArray, List.getElem?_cons_zero, List.getElem?_cons_succ] at c6
  have hcl := cloneM_any w vM M hM
  have hMb : M.length ≤ 140737488355328 := by obtain ⟨_, _, _, _, h1, _⟩ := hM; exact h1
  clear hv h hh hM
  refine post_gen fun Q HQ => ?_
  go_enter Try.func59, Try.ntmps59
  go_wp2_with fail
  refine hcl.mono ?_
  rintro e w2 ⟨e0, rfl, hown, hb2⟩
  clear hcl
  go_wp2_with fail
  refine (conds_plain w2).mono ?_
  rintro e w3 ⟨_, rfl, rfl, hb3⟩
  have hri : RI w T F RL M e0 0 0 w3 := ⟨by rw [rnd_zero]; exact hown.kept (row := none) ⟨hb3.os, hb3.tape, hb3.output, hb3.size, fun k hk _ => hb3.block k hk⟩ (by cases e0.ownBlock <;> simp), ext_trans hb2 hb3⟩
  clear hown hb2 hb3 c6
  go_wp2
  go_loopw [13] (fun v13 wr => ∃ i : Nat, i ≤ 4 ∧ v13 = .int .i64 i ∧ RI w T F RL M e0 i 0 wr) (fun v13 _ => 4 - (intOf v13).toNat)
  case atStart => exact ⟨0, by omega, rfl, hri⟩
  case round =>
    clear hri
    obtain ⟨i, hi, rfl, hri⟩ := hrel
    obtain ⟨wo, rfl⟩ : ∃ wo : World, wo = wr := ⟨_, rfl⟩
    by_cases h4 : i = 4
    · subst h4
      go_wp2
      go_ret
      exact Fin HQ hri
    · have hi4 : i < 4 := by omega
      have hrl : (rnd (cnd T F RL M) M i 0).length = M.length := rnd_length _ _
      rcases (show i = 0 ∨ i = 1 ∨ i = 2 ∨ i = 3 by omega) with rfl | rfl | rfl | rfl
      case inl =>
        have hlen : ∃ A c, e0 = .slice A M.length c := by
          rcases hri.1.2 with ⟨h1, h2⟩ | ⟨g, cap, cur, h1, _⟩
          · exact ⟨none, 0, by rw [h1, h2]⟩
          · exact ⟨_, _, h1⟩
        obtain ⟨A, c, rfl⟩ := hlen
        have hix : ∀ W : World, Sem.run Try.prog (Instr.index 94 cndV (.int .i64 0)) W = .ok (.func (.func 88) #[] #[]) W := cndIx 0 _ (by omega) rfl
        unfold cndV at hix
        rw [show ((0 : Nat) : Int) = 0 from rfl]
        go_wp2
        go_loopw [19] (fun v19 wr => ∃ j : Nat, j ≤ M.length ∧ v19 = .int .i64 j ∧ RI w T F RL M (.slice A M.length c) 0 j wr) (fun v19 _ => M.length - (intOf v19).toNat)
        case atStart => exact ⟨0, by omega, rfl, hri⟩
        case round =>
          clear hri
          obtain ⟨j, hj, rfl, hri⟩ := hrel
          by_cases hlt : j < M.length
          · have hcall := plusDelta_any wr b T F RL M (Hw.out.ext hri.2) Hv.out (j : Int) (by omega) (by have := Hv.out.nM; omega)
            obtain ⟨C, hC⟩ : ∃ C, plusDB T F RL M (j : Int) = C := ⟨_, rfl⟩
            rw [hC] at hcall
            have HC : Hid (cnd T F RL M 0 (j : Int) = C) := hC
            clear hC
            go_wp2_with fail
            refine hcall.mono ?_
            rintro e w5 ⟨_, rfl, rfl, hb5⟩
            have hri5 : RI w T F RL M (.slice A M.length c) 0 j w5 := hri.ext hb5
            clear hri hcall hb5
            cases C with
            | false =>
              go_wp2_with fail
              go_roundw
              case rel => exact ⟨j + 1, by omega, by (try simp), by unfold RI; rw [rnd_skip HC.out]; exact hri5⟩
              case measure => simp [intOf]; omega
            | true =>
              obtain ⟨g, cap, hA, hg, hcell⟩ := own_at hri5.1 hlt (by simp [rnd_length]; omega)
              cases hA
              have hfr := own_free hri5.1 j
              have hjr : j < (rnd (cnd T F RL M) M 0 j).length := by rw [rnd_length]; exact hlt
              have hcell' : w5.cell? ⟨g, j, none⟩ = some (.int .u8 (((rnd (cnd T F RL M) M 0 j)[j]'hjr : Nat) : Int)) := by rw [hcell]; simp
              have h8 := rnd_lt (C := cnd T F RL M) Hv.out.m8 (i := 0) (j := j) (by omega) _ (List.getElem_mem hjr)
              have Hn := hid (rnd_hit (C := cnd T F RL M) (M := M) HC.out hjr)
              obtain ⟨x, Hx⟩ : ∃ x, Hid ((rnd (cnd T F RL M) M 0 j)[j]'hjr = x) := ⟨_, rfl⟩
              rw [Hx.out] at hcell' h8
              have hor : bits .or .u8 (x : Int) 1 = ((x ||| 2 ^ 0 : Nat) : Int) := bit_or x h8 0 (by omega)
              have hnx : RI w T F RL M (.slice (some ⟨g, 0, none⟩) M.length c) 0 (j + 1) (w5.setCell ⟨g, j, none⟩ (.int .u8 (bits .or .u8 (x : Int) 1))) := by
                refine ⟨?_, hri5.2.setCell hg _⟩
                have h9 := own_set hri5.1 j (.int .u8 ((x ||| 2 ^ 0 : Nat) : Int))
                rw [hor, Hn.out, Hx.out, marksV, List.map_set]
                exact h9
              clear hcell hri5 hor
              go_wp2_with fail
              go_region_with (go_at_call 87; refine (bit_plain _ 0 (by omega) rfl _).mono ?_; rintro e w' ⟨rfl, rfl⟩)
              all_goals
                go_wp2_with fail
                go_roundw
                case rel => exact ⟨j + 1, by omega, by (try simp), hnx.1, hnx.2.drew⟩
                case measure => simp [intOf]; omega
          · obtain rfl : j = M.length := by omega
            go_wp2_with fail
            go_roundw
            case rel => exact ⟨1, by omega, by (try simp), by unfold RI; rw [← rnd_next]; exact hri⟩
            case measure => simp [intOf]
      case inr.inl =>
        have hlen : ∃ A c, e0 = .slice A M.length c := by
          rcases hri.1.2 with ⟨h1, h2⟩ | ⟨g, cap, cur, h1, _⟩
          · exact ⟨none, 0, by rw [h1, h2]⟩
          · exact ⟨_, _, h1⟩
        obtain ⟨A, c, rfl⟩ := hlen
        have hix : ∀ W : World, Sem.run Try.prog (Instr.index 94 cndV (.int .i64 1)) W = .ok (.func (.func 89) #[] #[]) W := cndIx 1 _ (by omega) rfl
        unfold cndV at hix
        rw [show ((1 : Nat) : Int) = 1 from rfl]
        go_wp2
        go_loopw [19] (fun v19 wr => ∃ j : Nat, j ≤ M.length ∧ v19 = .int .i64 j ∧ RI w T F RL M (.slice A M.length c) 1 j wr) (fun v19 _ => M.length - (intOf v19).toNat)
        case atStart => exact ⟨0, by omega, rfl, hri⟩
        case round =>
          clear hri
          obtain ⟨j, hj, rfl, hri⟩ := hrel
          by_cases hlt : j < M.length
          · have hcall := minusDelta_any wr b T F RL M (Hw.out.ext hri.2) Hv.out (j : Int) (by omega) (by have := Hv.out.nM; omega)
            obtain ⟨C, hC⟩ : ∃ C, minusDB T F RL M (j : Int) = C := ⟨_, rfl⟩
            rw [hC] at hcall
            have HC : Hid (cnd T F RL M 1 (j : Int) = C) := hC
            clear hC
            go_wp2_with fail
            refine hcall.mono ?_
            rintro e w5 ⟨_, rfl, rfl, hb5⟩
            have hri5 : RI w T F RL M (.slice A M.length c) 1 j w5 := hri.ext hb5
            clear hri hcall hb5
            cases C with
            | false =>
              go_wp2_with fail
              go_roundw
              case rel => exact ⟨j + 1, by omega, by (try simp), by unfold RI; rw [rnd_skip HC.out]; exact hri5⟩
              case measure => simp [intOf]; omega
            | true =>
              obtain ⟨g, cap, hA, hg, hcell⟩ := own_at hri5.1 hlt (by simp [rnd_length]; omega)
              cases hA
              have hfr := own_free hri5.1 j
              have hjr : j < (rnd (cnd T F RL M) M 1 j).length := by rw [rnd_length]; exact hlt
              have hcell' : w5.cell? ⟨g, j, none⟩ = some (.int .u8 (((rnd (cnd T F RL M) M 1 j)[j]'hjr : Nat) : Int)) := by rw [hcell]; simp
              have h8 := rnd_lt (C := cnd T F RL M) Hv.out.m8 (i := 1) (j := j) (by omega) _ (List.getElem_mem hjr)
              have Hn := hid (rnd_hit (C := cnd T F RL M) (M := M) HC.out hjr)
              obtain ⟨x, Hx⟩ : ∃ x, Hid ((rnd (cnd T F RL M) M 1 j)[j]'hjr = x) := ⟨_, rfl⟩
              rw [Hx.out] at hcell' h8
              have hor : bits .or .u8 (x : Int) 2 = ((x ||| 2 ^ 1 : Nat) : Int) := bit_or x h8 1 (by omega)
              have hnx : RI w T F RL M (.slice (some ⟨g, 0, none⟩) M.length c) 1 (j + 1) (w5.setCell ⟨g, j, none⟩ (.int .u8 (bits .or .u8 (x : Int) 2))) := by
                refine ⟨?_, hri5.2.setCell hg _⟩
                have h9 := own_set hri5.1 j (.int .u8 ((x ||| 2 ^ 1 : Nat) : Int))
                rw [hor, Hn.out, Hx.out, marksV, List.map_set]
                exact h9
              clear hcell hri5 hor
              go_wp2_with fail
              go_region_with (go_at_call 87; refine (bit_plain _ 1 (by omega) rfl _).mono ?_; rintro e w' ⟨rfl, rfl⟩)
              all_goals
                go_wp2_with fail
                go_roundw
                case rel => exact ⟨j + 1, by omega, by (try simp), hnx.1, hnx.2.drew⟩
                case measure => simp [intOf]; omega
          · obtain rfl : j = M.length := by omega
            go_wp2_with fail
            go_roundw
            case rel => exact ⟨2, by omega, by (try simp), by unfold RI; rw [← rnd_next]; exact hri⟩
            case measure => simp [intOf]
      case inr.inr.inl =>
        have hlen : ∃ A c, e0 = .slice A M.length c := by
          rcases hri.1.2 with ⟨h1, h2⟩ | ⟨g, cap, cur, h1, _⟩
          · exact ⟨none, 0, by rw [h1, h2]⟩
          · exact ⟨_, _, h1⟩
        obtain ⟨A, c, rfl⟩ := hlen
        have hix : ∀ W : World, Sem.run Try.prog (Instr.index 94 cndV (.int .i64 2)) W = .ok (.func (.func 90) #[] #[]) W := cndIx 2 _ (by omega) rfl
        unfold cndV at hix
        rw [show ((2 : Nat) : Int) = 2 from rfl]
        go_wp2
        go_loopw [19] (fun v19 wr => ∃ j : Nat, j ≤ M.length ∧ v19 = .int .i64 j ∧ RI w T F RL M (.slice A M.length c) 2 j wr) (fun v19 _ => M.length - (intOf v19).toNat)
        case atStart => exact ⟨0, by omega, rfl, hri⟩
        case round =>
          clear hri
          obtain ⟨j, hj, rfl, hri⟩ := hrel
          by_cases hlt : j < M.length
          · have hcall := plusPartial_any wr b T F RL M (Hw.out.ext hri.2) Hv.out (j : Int) (by omega) (by have := Hv.out.nM; omega)
            obtain ⟨C, hC⟩ : ∃ C, plusPB T RL M (j : Int) = C := ⟨_, rfl⟩
            rw [hC] at hcall
            have HC : Hid (cnd T F RL M 2 (j : Int) = C) := hC
            clear hC
            go_wp2_with fail
            refine hcall.mono ?_
            rintro e w5 ⟨_, rfl, rfl, hb5⟩
            have hri5 : RI w T F RL M (.slice A M.length c) 2 j w5 := hri.ext hb5
            clear hri hcall hb5
            cases C with
            | false =>
              go_wp2_with fail
              go_roundw
              case rel => exact ⟨j + 1, by omega, by (try simp), by unfold RI; rw [rnd_skip HC.out]; exact hri5⟩
              case measure => simp [intOf]; omega
            | true =>
              obtain ⟨g, cap, hA, hg, hcell⟩ := own_at hri5.1 hlt (by simp [rnd_length]; omega)
              cases hA
              have hfr := own_free hri5.1 j
              have hjr : j < (rnd (cnd T F RL M) M 2 j).length := by rw [rnd_length]; exact hlt
              have hcell' : w5.cell? ⟨g, j, none⟩ = some (.int .u8 (((rnd (cnd T F RL M) M 2 j)[j]'hjr : Nat) : Int)) := by rw [hcell]; simp
              have h8 := rnd_lt (C := cnd T F RL M) Hv.out.m8 (i := 2) (j := j) (by omega) _ (List.getElem_mem hjr)
              have Hn := hid (rnd_hit (C := cnd T F RL M) (M := M) HC.out hjr)
              obtain ⟨x, Hx⟩ : ∃ x, Hid ((rnd (cnd T F RL M) M 2 j)[j]'hjr = x) := ⟨_, rfl⟩
              rw [Hx.out] at hcell' h8
              have hor : bits .or .u8 (x : Int) 4 = ((x ||| 2 ^ 2 : Nat) : Int) := bit_or x h8 2 (by omega)
              have hnx : RI w T F RL M (.slice (some ⟨g, 0, none⟩) M.length c) 2 (j + 1) (w5.setCell ⟨g, j, none⟩ (.int .u8 (bits .or .u8 (x : Int) 4))) := by
                refine ⟨?_, hri5.2.setCell hg _⟩
                have h9 := own_set hri5.1 j (.int .u8 ((x ||| 2 ^ 2 : Nat) : Int))
                rw [hor, Hn.out, Hx.out, marksV, List.map_set]
                exact h9
              clear hcell hri5 hor
              go_wp2_with fail
              go_region_with (go_at_call 87; refine (bit_plain _ 2 (by omega) rfl _).mono ?_; rintro e w' ⟨rfl, rfl⟩)
              all_goals
                go_wp2_with fail
                go_roundw
                case rel => exact ⟨j + 1, by omega, by (try simp), hnx.1, hnx.2.drew⟩
                case measure => simp [intOf]; omega
          · obtain rfl : j = M.length := by omega
            go_wp2_with fail
            go_roundw
            case rel => exact ⟨3, by omega, by (try simp), by unfold RI; rw [← rnd_next]; exact hri⟩
            case measure => simp [intOf]
      case inr.inr.inr =>
        have hlen : ∃ A c, e0 = .slice A M.length c := by
          rcases hri.1.2 with ⟨h1, h2⟩ | ⟨g, cap, cur, h1, _⟩
          · exact ⟨none, 0, by rw [h1, h2]⟩
          · exact ⟨_, _, h1⟩
        obtain ⟨A, c, rfl⟩ := hlen
        have hix : ∀ W : World, Sem.run Try.prog (Instr.index 94 cndV (.int .i64 3)) W = .ok (.func (.func 91) #[] #[]) W := cndIx 3 _ (by omega) rfl
        unfold cndV at hix
        rw [show ((3 : Nat) : Int) = 3 from rfl]
        go_wp2
        go_loopw [19] (fun v19 wr => ∃ j : Nat, j ≤ M.length ∧ v19 = .int .i64 j ∧ RI w T F RL M (.slice A M.length c) 3 j wr) (fun v19 _ => M.length - (intOf v19).toNat)
        case atStart => exact ⟨0, by omega, rfl, hri⟩
        case round =>
          clear hri
          obtain ⟨j, hj, rfl, hri⟩ := hrel
          by_cases hlt : j < M.length
          · have hcall := minusPartial_any wr b T F RL M (Hw.out.ext hri.2) Hv.out (j : Int) (by omega) (by have := Hv.out.nM; omega)
            obtain ⟨C, hC⟩ : ∃ C, minusPB T RL M (j : Int) = C := ⟨_, rfl⟩
            rw [hC] at hcall
            have HC : Hid (cnd T F RL M 3 (j : Int) = C) := hC
            clear hC
            go_wp2_with fail
            refine hcall.mono ?_
            rintro e w5 ⟨_, rfl, rfl, hb5⟩
            have hri5 : RI w T F RL M (.slice A M.length c) 3 j w5 := hri.ext hb5
            clear hri hcall hb5
            cases C with
            | false =>
              go_wp2_with fail
              go_roundw
              case rel => exact ⟨j + 1, by omega, by (try simp), by unfold RI; rw [rnd_skip HC.out]; exact hri5⟩
              case measure => simp [intOf]; omega
            | true =>
              obtain ⟨g, cap, hA, hg, hcell⟩ := own_at hri5.1 hlt (by simp [rnd_length]; omega)
              cases hA
              have hfr := own_free hri5.1 j
              have hjr : j < (rnd (cnd T F RL M) M 3 j).length := by rw [rnd_length]; exact hlt
              have hcell' : w5.cell? ⟨g, j, none⟩ = some (.int .u8 (((rnd (cnd T F RL M) M 3 j)[j]'hjr : Nat) : Int)) := by rw [hcell]; simp
              have h8 := rnd_lt (C := cnd T F RL M) Hv.out.m8 (i := 3) (j := j) (by omega) _ (List.getElem_mem hjr)
              have Hn := hid (rnd_hit (C := cnd T F RL M) (M := M) HC.out hjr)
              obtain ⟨x, Hx⟩ : ∃ x, Hid ((rnd (cnd T F RL M) M 3 j)[j]'hjr = x) := ⟨_, rfl⟩
              rw [Hx.out] at hcell' h8
              have hor : bits .or .u8 (x : Int) 8 = ((x ||| 2 ^ 3 : Nat) : Int) := bit_or x h8 3 (by omega)
              have hnx : RI w T F RL M (.slice (some ⟨g, 0, none⟩) M.length c) 3 (j + 1) (w5.setCell ⟨g, j, none⟩ (.int .u8 (bits .or .u8 (x : Int) 8))) := by
                refine ⟨?_, hri5.2.setCell hg _⟩
                have h9 := own_set hri5.1 j (.int .u8 ((x ||| 2 ^ 3 : Nat) : Int))
                rw [hor, Hn.out, Hx.out, marksV, List.map_set]
                exact h9
              clear hcell hri5 hor
              go_wp2_with fail
              go_region_with (go_at_call 87; refine (bit_plain _ 3 (by omega) rfl _).mono ?_; rintro e w' ⟨rfl, rfl⟩)
              all_goals
                go_wp2_with fail
                go_roundw
                case rel => exact ⟨j + 1, by omega, by (try simp), hnx.1, hnx.2.drew⟩
                case measure => simp [intOf]; omega
          · obtain rfl : j = M.length := by omega
            go_wp2_with fail
            go_roundw
            case rel => exact ⟨4, by omega, by (try simp), by unfold RI; rw [← rnd_next]; exact hri⟩
            case measure => simp [intOf]
end Go.Proofs.Lx

namespace Go.Proofs.Lx
open Go Go.RowKit
set_option linter.unusedSimpArgs false
set_option linter.unusedVariables false

def blkS : Code → Code
  | .block _ b => b
  | c => c
def loopS : Code → Code
  | .loop b => b
  | c => c
noncomputable def newR10 : Code := sndS (blkS (fstS (sndS (sndS (loopS (blkS (sndS (fstS (sndS (sndS (sndS ((Try.f58.body).getD .skip))))))))))))

set_option maxRecDepth 1000000 in
set_option maxHeartbeats 60000000 in
theorem newWorld_R10 (W1 wx : World) (a0 a1 a2 a3 a4 a6 kd bd : Value) (n : Nat) (b gA gR base rb : Nat) (F : List Bool) (us : List Value) (xss : List (List Int)) (q k : Nat)
    (hws1 : WS W1 #[a0, a1, a2, a3, a4, .slice (some ⟨gR, 0, none⟩) n n, a6] b gA gR base F us xss wx) (hqn : q < us.length) (hqr : q < xss.length) (hqf : q < n)
    (hrb : wx.heap[rb]? = some (.cells #[kd, .int .i64 (q : Int), bd] 37 (0, 0))) (hrbb : base ≤ rb) (hro : us[q].ownBlock ≠ some rb) (hnq : xss[q].length ≤ 4096) (K : Act → World → Prop) (Q' : Exit → Act → World → Prop)
    (u0 u1 u2 u3 u4 u5 u6 u8 u9 u12 u13 u14 u15 u16 u17 u18 u19 u20 u21 u22 u23 u24 u25 u26 u27 u28 u29 u30 u31 u32 u33 u34 u35 u36 u37 u38 u39 u40 u41 u42 u43 u44 u45 u46 u47 u48 u49 u50 u51 u52 u53 u54 u55 u56 u57 u58 u59 u60 u61 u62 : Value)
    (hK : ∀ (x43 x44 x45 x46 x47 x48 x49 x50 x51 x52 x53 x54 x55 x56 x57 x58 x59 x60 : Value) (wy : World) (v' : Value), WS W1 #[a0, a1, a2, a3, a4, .slice (some ⟨gR, 0, none⟩) n n, a6] b gA gR base F (us.set q v') (xss.set q (xss[q] ++ [(k : Int)])) wy → K ⟨#[u0, u1, u2, u3, u4, u5, u6, .pointer (some ⟨b, 0, none⟩), u8, u9, .int .i64 (k : Int), .pointer (some ⟨rb, 0, none⟩), u12, u13, u14, u15, u16, u17, u18, u19, u20, u21, u22, u23, u24, u25, u26, u27, u28, u29, u30, u31, u32, u33, u34, u35, u36, u37, u38, u39, u40, u41, u42, x43, x44, x45, x46, x47, x48, x49, x50, x51, x52, x53, x54, x55, x56, x57, x58, x59, x60, u61, u62], []⟩ wy) :
    Code.wp Try.prog newR10 (Exit.inBlock 3 (Exit.then K Q')) ⟨#[u0, u1, u2, u3, u4, u5, u6, .pointer (some ⟨b, 0, none⟩), u8, u9, .int .i64 (k : Int), .pointer (some ⟨rb, 0, none⟩), u12, u13, u14, u15, u16, u17, u18, u19, u20, u21, u22, u23, u24, u25, u26, u27, u28, u29, u30, u31, u32, u33, u34, u35, u36, u37, u38, u39, u40, u41, u42, u43, u44, u45, u46, u47, u48, u49, u50, u51, u52, u53, u54, u55, u56, u57, u58, u59, u60, u61, u62], []⟩ wx := by
  have HK := hid hK
  clear hK
  conv => arg 2; whnf
  have e5 := hws1.cell 5
  simp only [List.getElem?_toArray, List.getElem?_cons_zero, List.getElem?_cons_succ] at e5
  have x1 : wx.cell? ⟨rb, 1, none⟩ = some (.int .i64 q) := by rw [cell_of_row wx rb 1 _ _ _ hrb]; rfl
  have hst := hws1.rows.own q hqn hqr
  have hcq := hws1.rows.cell hqn
  have hfq := hws1.rows.free q
  have hbs := hws1.hb
  have hRlt := hws1.rows.lt
  have hblt := lt_of_block hws1.blk
  have hxlt := lt_of_block hrb
  have Haft : Hid (∀ (cs : Array Value) (w' : World), ((wx.alloc (.cells cs 3)).drew).grownBy w' us[q].ownBlock → w'.cell? ⟨b, 5, none⟩ = some (.slice (some ⟨gR, 0, none⟩) n n) ∧ w'.cell? ⟨rb, 1, none⟩ = some (.int .i64 q) ∧ w'.cell? ⟨gR, q, none⟩ = some us[q] ∧ w'.frozen? ⟨gR, q, none⟩ = false) := by
    intro cs w' hgrow
    have hws2 := hws1.ext ((ext_alloc wx (.cells cs 3)).drew)
    have k1 := (hws2.blocks hqn hgrow b hws2.h1.2).trans hws2.blk
    have k2 := (hws2.blocks hqn hgrow gR hws2.h3.2).trans hws2.rows.blk
    have k3 := (hgrow.block rb (Nat.lt_of_lt_of_le hxlt (ext_alloc wx _).size) (fun e => hro e.symm)).trans ((Below.heap_alloc wx _ _ hxlt).trans hrb)
    refine ⟨by rw [cell_of_row w' b 5 _ _ _ k1]; rfl, by rw [cell_of_row w' _ 1 _ _ _ k3]; rfl, ?_, frozen_of_row w' gR q _ _ k2⟩
    rw [cell_of_row w' gR q _ _ _ k2]; simp [hqn]
  have hi0 : (0 : Int) ≤ (q : Int) := by omega
  have hi1 : (q : Int) < (n : Int) := by omega
  have Hkeep : Hid (∀ cs : Array Value, ((wx.alloc (.cells cs 3)).drew).cell? ⟨b, 5, none⟩ = some (.slice (some ⟨gR, 0, none⟩) n n) ∧ ((wx.alloc (.cells cs 3)).drew).cell? ⟨rb, 1, none⟩ = some (.int .i64 (q : Int))) := fun cs =>
    ⟨cell_ext (ext_alloc wx (.cells cs 3)).drew e5, cell_ext (ext_alloc wx (.cells cs 3)).drew x1⟩
  have hne1 : b ≠ gR := hws1.d.2.1
  have hne2 : rb ≠ gR := fun e => by have := hws1.h3.2; omega
  have Hst : Hid (∀ (w' : World) (v : Value), w'.cell? ⟨b, 5, none⟩ = some (.slice (some ⟨gR, 0, none⟩) n n) → w'.cell? ⟨rb, 1, none⟩ = some (.int .i64 (q : Int)) → (w'.setCell ⟨gR, q, none⟩ v).cell? ⟨b, 5, none⟩ = some (.slice (some ⟨gR, 0, none⟩) n n) ∧ (w'.setCell ⟨gR, q, none⟩ v).cell? ⟨rb, 1, none⟩ = some (.int .i64 (q : Int))) := fun w' v h1 h2 => ⟨by rw [World.cell?_setCell_far _ _ _ _ (Ne.symm hne1)]; exact h1, by rw [World.cell?_setCell_far _ _ _ _ (Ne.symm hne2)]; exact h2⟩
  have Hws := hid hws1
  have Hrb := hid hrb
  clear hws1 hrb
  refine wp_region_noPanic ?_
  refine wp_region_held_drew (S := (fun w' => w'.cell? ⟨b, 5, none⟩ = some (.slice (some ⟨gR, 0, none⟩) n n) ∧ w'.cell? ⟨rb, 1, none⟩ = some (.int .i64 (q : Int)))) (by kernel_rfl) ?_ (fun hHeld => ?_)
  · exact ⟨e5, x1⟩
  refine wpAnyH_take (i := 0) (v := ?v1) rfl (by kernel_rfl) (by kernel_rfl) (by kernel_rfl) (fun _ _ _ h => h) (Or.inl ⟨by rfl, ?hy1⟩) (by assumption) ?rest1
  case hy1 => (intro w hSw; (try dsimp only at hSw); go_simp) <;> try with_reducible rfl
  simp only [Act.put, List.setIfInBounds_toArray, List.set_cons_zero, List.set_cons_succ]
  refine wpAnyH_take (i := 1) (v := ?v2) rfl (by kernel_rfl) (by kernel_rfl) (by kernel_rfl) (fun _ _ _ h => h) (Or.inl ⟨by rfl, ?hy2⟩) (by assumption) ?rest2
  case hy2 => (intro w hSw; (try dsimp only at hSw); go_simp) <;> try with_reducible rfl
  simp only [Act.put, List.setIfInBounds_toArray, List.set_cons_zero, List.set_cons_succ]
  refine wpAnyH_take (i := 2) (v := ?v3) rfl (by kernel_rfl) (by kernel_rfl) (by kernel_rfl) (fun _ _ _ h => h) (Or.inl ⟨by rfl, ?hy3⟩) (by assumption) ?rest3
  case hy3 => (intro w hSw; (try dsimp only at hSw); go_simp) <;> try with_reducible rfl
  simp only [Act.put, List.setIfInBounds_toArray, List.set_cons_zero, List.set_cons_succ]
  refine wpAnyH_take (i := 3) (v := ?v4) rfl (by kernel_rfl) (by kernel_rfl) (by kernel_rfl) (fun _ _ _ h => h) (Or.inl ⟨by rfl, ?hy4⟩) (by assumption) ?rest4
  case hy4 => (intro w hSw; (try dsimp only at hSw); go_simp) <;> try with_reducible rfl
  simp only [Act.put, List.setIfInBounds_toArray, List.set_cons_zero, List.set_cons_succ]
  refine wpAnyH_take (i := 4) (v := ?v5) rfl (by kernel_rfl) (by kernel_rfl) (by kernel_rfl) (fun _ _ _ h => h) (Or.inl ⟨by rfl, ?hy5⟩) (by assumption) ?rest5
  case hy5 => (intro w hSw; (try dsimp only at hSw); go_simp) <;> try with_reducible rfl
  simp only [Act.put, List.setIfInBounds_toArray, List.set_cons_zero, List.set_cons_succ]
  refine wpAnyH_take (i := 5) (v := ?v6) rfl (by kernel_rfl) (by kernel_rfl) (by kernel_rfl) (fun _ _ _ h => h) (Or.inl ⟨by rfl, ?hy6⟩) (by assumption) ?rest6
  case hy6 => (intro w hSw; (try dsimp only at hSw); go_simp) <;> try with_reducible rfl
  simp only [Act.put, List.setIfInBounds_toArray, List.set_cons_zero, List.set_cons_succ]
  refine wpAnyH_take (i := 6) (v := ?v7) rfl (by kernel_rfl) (by kernel_rfl) (by kernel_rfl) (fun _ _ _ h => h) (Or.inl ⟨by rfl, ?hy7⟩) (by assumption) ?rest7
  case hy7 => (intro w hSw; (try dsimp only at hSw); go_simp) <;> try with_reducible rfl
  simp only [Act.put, List.setIfInBounds_toArray, List.set_cons_zero, List.set_cons_succ]
  refine wpAnyH_take (i := 7) (v := ?v8) rfl (by kernel_rfl) (by kernel_rfl) (by kernel_rfl) (fun _ _ _ h => h) (Or.inl ⟨by rfl, ?hy8⟩) (by assumption) ?rest8
  case hy8 => (intro w hSw; (try dsimp only at hSw); go_simp) <;> try with_reducible rfl
  simp only [Act.put, List.setIfInBounds_toArray, List.set_cons_zero, List.set_cons_succ]
  refine wpAnyH_take (i := 8) (v := ?v9) rfl (by kernel_rfl) (by kernel_rfl) (by kernel_rfl) (fun _ _ _ h => h) (Or.inl ⟨by rfl, ?hy9⟩) (by assumption) ?rest9
  case hy9 => (intro w hSw; (try dsimp only at hSw); go_simp) <;> try with_reducible rfl
  simp only [Act.put, List.setIfInBounds_toArray, List.set_cons_zero, List.set_cons_succ]
  refine wpAnyH_take (i := 9) (v := ?v10) rfl (by kernel_rfl) (by kernel_rfl) (by kernel_rfl) (fun _ _ _ h => h) (Or.inl ⟨by rfl, ?hy10⟩) (by assumption) ?rest10
  case hy10 => (intro w hSw; (try dsimp only at hSw); go_simp) <;> try with_reducible rfl
  simp only [Act.put, List.setIfInBounds_toArray, List.set_cons_zero, List.set_cons_succ]
  refine wpAnyH_take (i := 10) (v := ?v11) rfl (by kernel_rfl) (by kernel_rfl) (by kernel_rfl) (fun _ _ _ h => h) (Or.inl ⟨by rfl, ?hy11⟩) (by assumption) ?rest11
  case hy11 => (intro w hSw; (try dsimp only at hSw); go_simp) <;> try with_reducible rfl
  simp only [Act.put, List.setIfInBounds_toArray, List.set_cons_zero, List.set_cons_succ]
  refine wpAnyH_take (i := 11) (v := ?v12) rfl (by kernel_rfl) (by kernel_rfl) (by kernel_rfl) (fun _ _ _ h => h) (Or.inl ⟨by rfl, ?hy12⟩) (by assumption) ?rest12
  case hy12 => (intro w hSw; (try dsimp only at hSw); go_simp) <;> try with_reducible rfl
  simp only [Act.put, List.setIfInBounds_toArray, List.set_cons_zero, List.set_cons_succ]
  refine wpAnyH_take (i := 12) (v := ?v13) rfl (by kernel_rfl) (by kernel_rfl) (by kernel_rfl) (fun _ _ _ h => h) (Or.inl ⟨by rfl, ?hy13⟩) (by assumption) ?rest13
  case hy13 => (intro w hSw; (try dsimp only at hSw); go_simp) <;> try with_reducible rfl
  simp only [Act.put, List.setIfInBounds_toArray, List.set_cons_zero, List.set_cons_succ]
  refine wpAnyH_take (i := 14) (v := ?v14) rfl (by kernel_rfl) (by kernel_rfl) (by kernel_rfl) (fun _ _ _ h => h) (Or.inl ⟨by rfl, ?hy14⟩) (by assumption) ?rest14
  case hy14 => (intro w hSw; (try dsimp only at hSw); go_simp) <;> try with_reducible rfl
  simp only [Act.put, List.setIfInBounds_toArray, List.set_cons_zero, List.set_cons_succ]
  refine wpAnyH_ready (rs := [13, 15]) (by kernel_rfl) (by simp) ?_
  refine AllReadyH.cons rfl (fun K9 hK9 => ?_) (AllReadyH.cons rfl (fun K9 hK9 => ?_) AllReadyH.nil)
  · go_simp
    refine hK9.out _ _ ?_ (fun hHeld => ?_)
    · exact ⟨e5, x1⟩
    clear hK9 K9
    try simp only [Act.put, List.setIfInBounds_toArray, List.set_cons_zero, List.set_cons_succ]
    refine wpAnyH_ready (rs := [15]) (by kernel_rfl) (by simp) ?_
    refine AllReadyH.cons rfl (fun K9 hK9 => ?_) AllReadyH.nil
    go_simp
    refine hK9.out _ _ ?_ (fun hHeld => ?_)
    · exact Hkeep.out _
    clear hK9 K9
    try simp only [Act.put, List.setIfInBounds_toArray, List.set_cons_zero, List.set_cons_succ]
    refine wpAnyH_ready (rs := [16]) (by kernel_rfl) (by simp) ?_
    refine AllReadyH.cons rfl (fun K9 hK9 => ?_) AllReadyH.nil
    (refine step_append_own_at rfl (.tmp 56) (.tmp 58) 26 rfl base 3 (.int .i64 0) 8 Try.underlying26 infoI rfl us[q] _ _ rfl (hst.alloc _) _ (.int .i64 k) rfl (by simp [go_sem]) rfl (by unfold maxLen; omega) (by omega) (by simp; omega) ?_; intro v' w' hown hgrow hat; obtain ⟨gn, cn, rfl⟩ := own_form hown; obtain ⟨hq5, hqx, hqR, hqF⟩ := Haft.out _ w' hgrow)
    refine hK9.out _ _ ?_ (fun hHeld => ?_)
    · exact ⟨hq5, hqx⟩
    clear hK9 K9
    try simp only [Act.put, List.setIfInBounds_toArray, List.set_cons_zero, List.set_cons_succ]
    refine wpAnyH_take (i := 17) (v := ?v15) rfl (by kernel_rfl) (by kernel_rfl) (by kernel_rfl) (fun _ _ _ h => h) (Or.inl ⟨by rfl, ?hy15⟩) (by assumption) ?rest15
    case hy15 => (intro w hSw; (try dsimp only at hSw); go_simp) <;> try with_reducible rfl
    simp only [Act.put, List.setIfInBounds_toArray, List.set_cons_zero, List.set_cons_succ]
    refine wpAnyH_ready (rs := [18]) (by kernel_rfl) (by simp) ?_
    refine AllReadyH.cons rfl (fun K9 hK9 => ?_) AllReadyH.nil
    go_simp
    refine hK9.out _ _ ?_ (fun hHeld => ?_)
    · exact Hst.out _ _ hq5 hqx
    clear hK9 K9
    try simp only [Act.put, List.setIfInBounds_toArray, List.set_cons_zero, List.set_cons_succ]
    refine wpAnyH_done (by kernel_rfl) (NoPanic.normal ?_) _
    clear hq5 hqx hqR hqF e5 x1 hst hcq hfq
    go_wp2_with fail
    exact HK.out _ _ _ _ _ _ _ _ _ _ _ _ _ _ _ _ _ _ _ _ ((Hws.out.ext ((ext_alloc wx (.cells #[.int .i64 (k : Int)] 3)).drew)).append hqn hqr hgrow hown hat)
  · go_simp
    refine hK9.out _ _ ?_ (fun hHeld => ?_)
    · exact Hkeep.out _
    clear hK9 K9
    try simp only [Act.put, List.setIfInBounds_toArray, List.set_cons_zero, List.set_cons_succ]
    refine wpAnyH_ready (rs := [13]) (by kernel_rfl) (by simp) ?_
    refine AllReadyH.cons rfl (fun K9 hK9 => ?_) AllReadyH.nil
    go_simp
    refine hK9.out _ _ ?_ (fun hHeld => ?_)
    · exact Hkeep.out _
    clear hK9 K9
    try simp only [Act.put, List.setIfInBounds_toArray, List.set_cons_zero, List.set_cons_succ]
    refine wpAnyH_ready (rs := [16]) (by kernel_rfl) (by simp) ?_
    refine AllReadyH.cons rfl (fun K9 hK9 => ?_) AllReadyH.nil
    (refine step_append_own_at rfl (.tmp 56) (.tmp 58) 26 rfl base 3 (.int .i64 0) 8 Try.underlying26 infoI rfl us[q] _ _ rfl (hst.alloc _) _ (.int .i64 k) rfl (by simp [go_sem]) rfl (by unfold maxLen; omega) (by omega) (by simp; omega) ?_; intro v' w' hown hgrow hat; obtain ⟨gn, cn, rfl⟩ := own_form hown; obtain ⟨hq5, hqx, hqR, hqF⟩ := Haft.out _ w' hgrow)
    refine hK9.out _ _ ?_ (fun hHeld => ?_)
    · exact ⟨hq5, hqx⟩
    clear hK9 K9
    try simp only [Act.put, List.setIfInBounds_toArray, List.set_cons_zero, List.set_cons_succ]
    refine wpAnyH_take (i := 17) (v := ?v16) rfl (by kernel_rfl) (by kernel_rfl) (by kernel_rfl) (fun _ _ _ h => h) (Or.inl ⟨by rfl, ?hy16⟩) (by assumption) ?rest16
    case hy16 => (intro w hSw; (try dsimp only at hSw); go_simp) <;> try with_reducible rfl
    simp only [Act.put, List.setIfInBounds_toArray, List.set_cons_zero, List.set_cons_succ]
    refine wpAnyH_ready (rs := [18]) (by kernel_rfl) (by simp) ?_
    refine AllReadyH.cons rfl (fun K9 hK9 => ?_) AllReadyH.nil
    go_simp
    refine hK9.out _ _ ?_ (fun hHeld => ?_)
    · exact Hst.out _ _ hq5 hqx
    clear hK9 K9
    try simp only [Act.put, List.setIfInBounds_toArray, List.set_cons_zero, List.set_cons_succ]
    refine wpAnyH_done (by kernel_rfl) (NoPanic.normal ?_) _
    clear hq5 hqx hqR hqF e5 x1 hst hcq hfq
    go_wp2_with fail
    exact HK.out _ _ _ _ _ _ _ _ _ _ _ _ _ _ _ _ _ _ _ _ ((Hws.out.ext ((ext_alloc wx (.cells #[.int .i64 (k : Int)] 3)).drew)).append hqn hqr hgrow hown hat)
end Go.Proofs.Lx

namespace Go.Proofs.Lx
open Go Go.RowKit
set_option linter.unusedSimpArgs false
set_option linter.unusedVariables false

set_option maxRecDepth 100000 in
set_option maxHeartbeats 6400000 in
theorem newWorld_any (w : World) (V vl vm : Value) (T : Th) (l : List Int) (M : List Nat) (hT : RdTh w V T) (hwf : WfTh T) (hl : RdI w vl l) (hlr : risB l T.lits = true) (hm : RdMk w vm M) :
    Calls Try.prog 58 #[V, vl, vm] w (Ret fun r w' => ∃ b, r = .pointer (some ⟨b, 0, none⟩) ∧ w.heap.size ≤ b ∧ NWS w' b T (factsB T.foes.length l) (rulesRows T.rules T.foes.length T.rules.length) M ∧ Below w.heap.size w w') := by
  have Hwf := hid hwf
  obtain ⟨lits, foes, rules, beats⟩ := T
  obtain ⟨vF, vR, vB, rfl, hF, ⟨AR, cR, rfl, hcR, hbR, hrR⟩, hB⟩ := hT
  obtain ⟨AM, cM, hvm, hcM, hbM, hrM⟩ := id hm
  subst hvm
  have hbM' := hid (And.intro hcM hbM)
  clear hcM hbM hrM
  generalize hnM : M.length = nM at *
  have HnM := hid hnM
  clear hnM
  have hl0 := hwf.l0; have hl1 := hwf.l1; have hfl := hwf.fl; have hrl := hwf.rl
  dsimp only at *
  obtain rfl : lits = (foes.length : Int) := hfl.symm
  clear hwf hfl hl0
  have hbel := ext_alloc w (.cells #[.int .i64 foes.length, vF, .slice AR rules.length cR, vB] 25)
  obtain ⟨W1, HW1⟩ : ∃ W1, Hid (W1 = w.alloc (.cells #[.int .i64 foes.length, vF, .slice AR rules.length cR, vB] 25)) := ⟨_, hid rfl⟩
  rw [← HW1.out] at hbel
  have hl1' := hl.ext (scR_mono _) hbel
  obtain ⟨A, c, rfl, hc, hb, hr⟩ := hl1'
  have Hsp := hid (risB_spec hlr).1
  have hrR1 := hrR.ext ruleR_mono hbel
  have hmB := mkB foes.length (by omega) (by omega)
  have hmL := mkL foes.length (by omega) (by omega)
  rw [Int.toNat_natCast] at hmB hmL
  have Hrest := hid (And.intro (hF.ext llR_mono hbel) (And.intro (RdTh.ext ⟨vF, _, vB, rfl, hF, ⟨AR, cR, rfl, hcR, hbR, hrR⟩, hB⟩ hbel : RdTh W1 (.agg #[.int .i64 foes.length, vF, .slice AR rules.length cR, vB]) ⟨foes.length, foes, rules, beats⟩) (hm.ext (scR_mono _) hbel)))
  clear hl hlr hrR hF hB hm
  refine post_gen fun Q HQ => ?_
  go_enter Try.func58, Try.ntmps58
  go_wp2
  go_cut [7] (fun v7 wx => ∃ b gA gR base vs, v7 = .pointer (some ⟨b, 0, none⟩) ∧ Hid (vs.length = foes.length) ∧ WS W1 #[.int .i64 foes.length, vF, .slice AR rules.length cR, vB, .slice (some ⟨gA, 0, none⟩) foes.length foes.length, .slice (some ⟨gR, 0, none⟩) foes.length foes.length, .slice AM nM cM] b gA gR base (factsUpto foes.length 0 l) vs (rulesRows rules foes.length 0) wx)
  case first =>
    go_region
    all_goals
      go_wp2_with fail
      go_meet
      rw [HW1.out, factsUpto_zero, rulesRows_zero]
      first
        | exact ⟨_, _, _, _, _, rfl, hid (by simp), WS.startA _ _ _ _ (World.size_alloc _ _)⟩
        | exact ⟨_, _, _, _, _, rfl, hid (by simp), WS.startB _ _ _ _ (World.size_alloc _ _)⟩
  case rest =>
    obtain ⟨b, gA, gR, base, vs, rfl, hvs, hws⟩ := hcut
    go_wp2
    have B2 : W1.cell? ⟨w.heap.size, 2, none⟩ = some (.slice AR rules.length cR) := by rw [HW1.out]; exact box_cell (Below.refl _ _) 2
    go_loopw [24] (fun v24 wr => ∃ k : Nat, k ≤ l.length ∧ v24 = .int .i64 k ∧ WS W1 #[.int .i64 foes.length, vF, .slice AR rules.length cR, vB, .slice (some ⟨gA, 0, none⟩) foes.length foes.length, .slice (some ⟨gR, 0, none⟩) foes.length foes.length, .slice AM nM cM] b gA gR base (factsUpto foes.length k l) vs (rulesRows rules foes.length 0) wr) (fun v24 _ => l.length - (intOf v24).toNat)
    case atStart => exact ⟨0, Nat.zero_le _, rfl, hws⟩
    case round =>
      clear hws
      obtain ⟨k, hk, rfl, hws⟩ := hrel
      have e1 := hws.cell 4
      simp only [List.getElem?_toArray, List.getElem?_cons_zero, List.getElem?_cons_succ] at e1
      by_cases hkl : k < l.length
      · obtain ⟨ad, rfl, hcell⟩ := (hr.ext (scR_mono _) hws.old).at1 hkl
        obtain ⟨hx0, hxn⟩ := Hsp.out k hkl
        obtain ⟨q, hq⟩ := Int.eq_ofNat_of_zero_le hx0
        have hfr := hws.aA.free q
        have hcq := hws.aA.cell (i := q) (by rw [factsUpto, factsB_length]; omega)
        have hnx := hws.fact q
        have Hsucc := hid (factsUpto_succ foes.length k l hkl hx0)
        rw [hq] at hcell
        go_wp2
        go_roundw
        case rel => exact ⟨k + 1, by omega, by simp, by rw [Hsucc.out, hq]; exact hnx⟩
        case measure => simp [intOf]; omega
      · obtain rfl : k = l.length := by omega
        have c2 := cell_ext hws.old B2
        clear e1
        go_wp2
        go_loopw [38] (fun v38 wr => ∃ (k : Nat) (vs : List Value), k ≤ rules.length ∧ v38 = .int .i64 k ∧ Hid (vs.length = foes.length) ∧ WS W1 #[.int .i64 foes.length, vF, .slice AR rules.length cR, vB, .slice (some ⟨gA, 0, none⟩) foes.length foes.length, .slice (some ⟨gR, 0, none⟩) foes.length foes.length, .slice AM nM cM] b gA gR base (factsUpto foes.length l.length l) vs (rulesRows rules foes.length k) wr) (fun v38 _ => rules.length - (intOf v38).toNat)
        case atStart => exact ⟨0, vs, Nat.zero_le _, rfl, hvs, hws⟩
        case round =>
          clear hws c2 hvs
          obtain ⟨k, us, hk, rfl, hus, hws⟩ := hrel
          have c2 := cell_ext hws.old B2
          obtain ⟨wo, rfl⟩ : ∃ wo : World, wo = wr := ⟨_, rfl⟩
          by_cases hlt : k < rules.length
          · obtain ⟨ad, C, cC, rfl, p0, p1, p2, q0, q1, q2⟩ := (hrR1.ext ruleR_mono hws.old).atRule hlt
            obtain ⟨hh0, hhn⟩ : 0 ≤ rules[k].head ∧ rules[k].head < foes.length := ruleOk_head (Hwf.out.ru _ (List.getElem_mem hlt))
            obtain ⟨q, hq⟩ := Int.eq_ofNat_of_zero_le hh0
            have hqn : q < us.length := by rw [hus.out]; omega
            have hqf : q < foes.length := by omega
            have hqr : q < (rulesRows rules foes.length k).length := by rw [rulesRows_length]; omega
            have Hsucc : Hid (rulesRows rules foes.length (k + 1) = (rulesRows rules foes.length k).set q ((rulesRows rules foes.length k)[q] ++ [(k : Int)])) := by
              have := rulesRows_succ rules foes.length k hlt hh0 hhn
              rw [hq, Int.toNat_natCast] at this
              rw [Hid, this, rulesRows_at _ _ _ hqf]
            rw [hq] at p1
            obtain ⟨wx, HWX⟩ : ∃ wx, Hid (wx = wo.alloc (.cells #[.int .i64 rules[k].kind, .int .i64 q, .slice C rules[k].body.length cC] 37)) := ⟨_, hid rfl⟩
            go_wp2_with fail
            rw [← HWX.out]
            have hbx : Below wo.heap.size wo wx := by rw [HWX.out]; exact ext_alloc _ _
            have hws1 := hws.ext hbx
            have hrb : wx.heap[wo.heap.size]? = some (.cells #[.int .i64 rules[k].kind, .int .i64 q, .slice C rules[k].body.length cC] 37 (0, 0)) := by rw [HWX.out]; exact heap_alloc_new wo _
            have hnq : (rulesRows rules foes.length k)[q].length ≤ 4096 := by rw [rulesRows_at _ _ _ (by omega)]; exact Nat.le_trans (rulesUpto_length _ _ _) (by omega)
            refine newWorld_R10 W1 wx _ _ _ _ _ _ _ _ foes.length b gA gR base wo.heap.size _ us _ q k hws1 hqn hqr hqf hrb hws.hb (fun e => by have := (hws.rows.own q hqn hqr).lt _ e; omega) hnq _ _ _ _ _ _ _ _ _ _ _ _ _ _ _ _ _ _ _ _ _ _ _ _ _ _ _ _ _ _ _ _ _ _ _ _ _ _ _ _ _ _ _ _ _ _ _ _ _ _ _ _ _ _ _ _ _ _ _ _ _ _ ?_
            intro x43 x44 x45 x46 x47 x48 x49 x50 x51 x52 x53 x54 x55 x56 x57 x58 x59 x60 wy v' hnx
            go_wp2
            go_roundw
            case rel => exact ⟨k + 1, us.set q v', by omega, by (try simp), hid (by rw [List.length_set]; exact hus.out), by rw [Hsucc.out]; exact hnx⟩
            case measure => simp [intOf]; omega
          · obtain rfl : k = rules.length := by omega
            go_wp2
            go_ret
            have hrd := Hrest.out
            have hgb : ∀ w', wo.grownBy w' (some b) → Below W1.heap.size W1 w' := fun w' hg => hws.old.trans ⟨hg.os, hg.tape, hg.output, hg.size, fun k hk => hg.block k (Nat.lt_of_lt_of_le hk hws.old.size) (fun e => by cases e; have := hws.h1.1; omega)⟩
            refine Fin HQ ⟨b, rfl, Nat.le_trans hbel.size hws.h1.1, ⟨_, _, _, _, _, _, hws.blk, fun w' hg => ⟨hrd.1.ext llR_mono (hgb w' hg), ?_, ?_, ?_, ?_, ?_⟩⟩, ext_trans hbel hws.old⟩
            · obtain ⟨xF, xR, xB, hx, _, h2, _⟩ := hrd.2.1
              cases hx; exact h2.ext ruleR_mono (hgb w' hg)
            · obtain ⟨xF, xR, xB, hx, _, _, h3⟩ := hrd.2.1
              cases hx; exact h3.ext llR_mono (hgb w' hg)
            · have ha : Arr Value.bool 4 w' gA (factsUpto foes.length l.length l) := (hg.block gA hws.aA.lt (fun e => by cases e; exact hws.d.1 rfl)).trans hws.aA
              have := ha.reads (by rw [factsUpto, factsB_length]; omega) foes.length (by rw [factsUpto, factsB_length]; omega)
              rw [factsUpto_all, factsB_length] at this
              exact this
            · have hr2 : Rows w' gR base 26 3 us (rulesRows rules foes.length rules.length) := ⟨(hg.block gR hws.rows.lt (fun e => by cases e; exact hws.d.2.1 rfl)).trans hws.rows.blk, hws.rows.len, fun q h1 h2 => (hws.rows.own q h1 h2).kept hg (by
                cases ho : us[q].ownBlock with
                | none => exact .inl rfl
                | some k => right; intro e; cases e; have := ((hws.rows.own q h1 h2).lt _ ho).1; have := hws.h1.2; omega), hws.rows.ne, hws.rows.hg⟩
              have := hr2.reads (by rw [rulesRows_length]; omega) (fun q hq => by rw [rulesRows_at _ _ _ (by rw [rulesRows_length] at hq; omega)]; exact Nat.le_trans (rulesUpto_length _ _ _) (by omega)) foes.length (by rw [rulesRows_length]; omega)
              rw [rulesRows_length] at this
              exact this
            · exact hrd.2.2.ext (scR_mono _) (hgb w' hg)
end Go.Proofs.Lx

namespace Go.Proofs.Lx
open Go Go.RowKit
set_option linter.unusedSimpArgs false
set_option linter.unusedVariables false

def itM (f : List Nat → List Nat) : Nat → List Nat → List Nat
  | 0, M => M
  | k + 1, M => f (itM f k M)
/-- One round over a theory and its facts. -/
def stepM (T : Th) (l : List Int) : List Nat → List Nat := roundM T (factsB T.foes.length l) (rulesRows T.rules T.foes.length T.rules.length)
def startM (T : Th) : List Nat := List.replicate T.foes.length 0
theorem roundM_length (T : Th) (F : List Bool) (RL : List (List Int)) (M : List Nat) : (roundM T F RL M).length = M.length := rnd_length _ _
theorem orM_ge {C : Nat → Bool} {x : Nat} : ∀ k, x ≤ orM C x k
  | 0 => Nat.le_refl _
  | k + 1 => by
    have ih := orM_ge (C := C) (x := x) k
    unfold orM
    split
    · exact Nat.le_trans ih Nat.left_le_or
    · exact ih
theorem sum_le : ∀ (X Y : List Nat), X.length = Y.length → (∀ i (h : i < X.length) (h' : i < Y.length), X[i] ≤ Y[i]) → X.sum ≤ Y.sum ∧ (X.sum = Y.sum → X = Y)
  | [], [], _, _ => ⟨Nat.le_refl _, fun _ => rfl⟩
  | x :: X, y :: Y, hl, h => by
    have h0 := h 0 (by simp) (by simp)
    have ih := sum_le X Y (by simpa using hl) (fun i h1 h2 => by have := h (i + 1) (by simp; omega) (by simp; omega); simpa using this)
    simp at h0
    simp only [List.sum_cons]
    refine ⟨by omega, fun e => ?_⟩
    have h1 : X.sum = Y.sum := by omega
    have h2 : x = y := by omega
    rw [h2, ih.2 h1]
theorem sum_bound : ∀ (X : List Nat), (∀ x ∈ X, x < 256) → X.sum ≤ 255 * X.length
  | [], _ => by simp
  | x :: X, h => by
    have := sum_bound X (fun y hy => h y (by simp [hy]))
    have := h x (by simp)
    simp only [List.sum_cons, List.length_cons]; omega
theorem roundM_grows (T : Th) (F : List Bool) (RL : List (List Int)) (M : List Nat) : M.sum ≤ (roundM T F RL M).sum ∧ (M.sum = (roundM T F RL M).sum → M = roundM T F RL M) := by
  refine sum_le _ _ (roundM_length _ _ _ _).symm (fun i h h' => ?_)
  have : M[i] = M.getD i 0 := by simp [h]
  rw [this]
  simp only [roundM, rnd, List.getElem_map, List.getElem_range]
  exact orM_ge _
theorem roundM_lt (T : Th) (F : List Bool) (RL : List (List Int)) (M : List Nat) (h : ∀ x ∈ M, x < 256) : ∀ x ∈ roundM T F RL M, x < 256 := rnd_lt h (by omega)
theorem nval {T : Th} (hwf : WfTh T) (l : List Int) (M : List Nat) (hM : M.length = T.foes.length) (h8 : ∀ x ∈ M, x < 256) : NVal T (factsB T.foes.length l) (rulesRows T.rules T.foes.length T.rules.length) M := by
  refine ⟨?_, factsB_length _ _, rulesRows_length _ _ _, hM, ?_, ?_, hwf.bl, h8⟩
  · intro q hq f hf
    obtain ⟨i, hi, rfl⟩ := List.getElem_of_mem hf
    have := (risB_spec (foesOk_spec hwf.fo q hq).2.1).1 i hi
    have h2 := hwf.fl; omega
  · intro q hq r hr
    rw [rulesRows_length] at hq
    rw [rulesRows_at _ _ _ hq] at hr
    obtain ⟨i, hi, rfl, _⟩ := mem_rulesUpto.1 hr
    omega
  · intro r hr x hx
    obtain ⟨i, hi, rfl⟩ := List.getElem_of_mem hx
    have h1 := hwf.ru _ (List.getElem_mem hr)
    simp only [ruleOk, Bool.and_eq_true] at h1
    have := (risB_spec h1.2).1 i hi
    have h2 := hwf.fl; omega
end Go.Proofs.Lx

namespace Go.Proofs.Lx
open Go Go.RowKit
set_option linter.unusedSimpArgs false
set_option linter.unusedVariables false

theorem own_mono {w : World} {base base' e size n : Nat} {v : Value} {xs : List Value} (h : w.ownsRow base e size v n xs) (hb : base' ≤ base) : w.ownsRow base' e size v n xs :=
  ⟨h.1, h.2.imp id fun ⟨g, cap, cur, h1, h2, h3⟩ => ⟨g, cap, cur, h1, Nat.le_trans hb h2, h3⟩⟩

set_option maxRecDepth 100000 in
set_option maxHeartbeats 6400000 in
theorem run_any (w : World) (V vl : Value) (T : Th) (l : List Int) (hT : RdTh w V T) (hwf : WfTh T) (hl : RdI w vl l) (hlr : risB l T.lits = true) :
    Calls Try.prog 56 #[V, vl] w (Ret fun r w' => ∃ (k : Nat) (v : Value), r = .tuple #[v, .int .i64 k] ∧ w'.ownsRow w.heap.size 33 1 v T.foes.length (marksV (itM (stepM T l) k (startM T))) ∧ stepM T l (itM (stepM T l) k (startM T)) = itM (stepM T l) k (startM T) ∧ (∀ j, j < k → itM (stepM T l) (j + 1) (startM T) ≠ itM (stepM T l) j (startM T)) ∧ Below w.heap.size w w') := by
  have Hwf := hid hwf
  have HT := hid hT
  obtain ⟨vF, vR, vB, rfl, hF, ⟨AR, cR, rfl, hcR, hbR, hrR⟩, ⟨AB, cB, rfl, hcB, hbB, hrB⟩⟩ := hT
  obtain ⟨A, c, rfl, hc, hb, hr⟩ := hF
  have hl0 := hwf.l0; have hl1 := hwf.l1; have hfl := hwf.fl
  obtain ⟨W1, HW1⟩ : ∃ W1, Hid (W1 = w.alloc (.cells #[.int .i64 T.lits, .slice A T.foes.length c, .slice AR T.rules.length cR, .slice AB T.beats.length cB] 25)) := ⟨_, hid rfl⟩
  have hmM := mkM T.lits hl0 (by omega)
  have hln : T.lits.toNat = T.foes.length := by omega
  rw [hln] at hmM
  have hcall : ∀ (W : World) (vm : Value), Below (w.alloc (.cells #[.int .i64 T.lits, .slice A T.foes.length c, .slice AR T.rules.length cR, .slice AB T.beats.length cB] 25)).heap.size (w.alloc (.cells #[.int .i64 T.lits, .slice A T.foes.length c, .slice AR T.rules.length cR, .slice AB T.beats.length cB] 25)) W → RdMk W vm (startM T) →
      Calls Try.prog 58 #[.agg #[.int .i64 T.lits, .slice A T.foes.length c, .slice AR T.rules.length cR, .slice AB T.beats.length cB], vl, vm] W (Ret fun r w' => ∃ b, r = .pointer (some ⟨b, 0, none⟩) ∧ w.heap.size ≤ b ∧ NWS w' b T (factsB T.foes.length l) (rulesRows T.rules T.foes.length T.rules.length) (startM T) ∧ Below w.heap.size w w') := by
    intro W vm hb hm
    have hb0 := ext_trans (ext_alloc w _) hb
    refine (newWorld_any W _ _ vm T l (startM T) (HT.out.ext hb0) Hwf.out (hl.ext (scR_mono _) hb0) hlr hm).mono ?_
    rintro e w' ⟨_, rfl, b, rfl, h1, h2, h3⟩
    exact ⟨_, rfl, b, rfl, Nat.le_trans hb0.size h1, h2, ext_trans hb0 h3⟩
  have hst : ∀ (W : World), RdMk (W.alloc (.cells (madeCells #[Value.int .u8 0] T.foes.length) 33)) (.slice (some ⟨W.heap.size, 0, none⟩) T.foes.length T.foes.length) (startM T) := by
    intro W
    have h1 := made_arr (fun x : Nat => Value.int .u8 (x : Int)) 0 33 W T.foes.length
    have h2 := h1.reads (by simp; omega) T.foes.length (by simp)
    simpa [startM] using h2
  have hst2 : RdMk ((w.alloc (.cells #[.int .i64 T.lits, .slice A T.foes.length c, .slice AR T.rules.length cR, .slice AB T.beats.length cB] 25)).alloc (.cells (madeCells #[Value.int .u8 0] T.foes.length) 33)) (.slice (some ⟨w.heap.size + 1, 0, none⟩) T.foes.length T.foes.length) (startM T) := by
    have := hst (w.alloc (.cells #[.int .i64 T.lits, .slice A T.foes.length c, .slice AR T.rules.length cR, .slice AB T.beats.length cB] 25))
    rw [World.size_alloc] at this
    exact this
  have Hst := hid (hst2.ext (scR_mono _) ((Below.refl _ _).drew))
  have Hcall := hid hcall
  clear hst hst2 hcall
  refine post_gen fun Q HQ => ?_
  go_enter Try.func56, Try.ntmps56
  go_wp2
  go_cut [6] (fun v6 wx => ∃ b, v6 = .pointer (some ⟨b, 0, none⟩) ∧ w.heap.size ≤ b ∧ NWS wx b T (factsB T.foes.length l) (rulesRows T.rules T.foes.length T.rules.length) (startM T) ∧ Below w.heap.size w wx)
  case first =>
    go_region_with (go_at_call 58; refine (Hcall.out _ _ (ext_alloc _ _).drew Hst.out).mono ?_; rintro e w' ⟨_, rfl, b, rfl, hbw, hnw, hbl⟩)
    all_goals
      go_wp2_with fail
      go_meet
      exact ⟨b, rfl, hbw, hnw, hbl⟩
  case rest =>
    obtain ⟨b, rfl, hbw, hnw, hbl⟩ := hcut
    go_wp2
    go_loopw [7] (fun v7 wr => ∃ k : Nat, v7 = .int .i64 k ∧ NWS wr b T (factsB T.foes.length l) (rulesRows T.rules T.foes.length T.rules.length) (itM (stepM T l) k (startM T)) ∧ Hid (∀ j, j < k → itM (stepM T l) (j + 1) (startM T) ≠ itM (stepM T l) j (startM T)) ∧ k ≤ (itM (stepM T l) k (startM T)).sum ∧ Hid (∀ x ∈ itM (stepM T l) k (startM T), x < 256) ∧ (itM (stepM T l) k (startM T)).length = T.foes.length ∧ Below w.heap.size w wr) (fun v7 _ => 255 * T.foes.length + 1 - (intOf v7).toNat)
    case atStart => exact ⟨0, rfl, hnw, fun j h => absurd h (by omega), Nat.zero_le _, by intro x hx; simp [itM, startM] at hx; omega, by simp [itM, startM], hbl⟩
    case round =>
      clear hnw hbl
      obtain ⟨k, rfl, hnw, hno, hks, h8, hlen, hbl⟩ := hrel
      have hkb : k ≤ 255 * T.foes.length := by have := sum_bound _ h8.out; rw [hlen] at this; omega
      have hrd := round_any wr b T _ _ _ hnw.nw (nval Hwf.out l _ hlen h8.out)
      have hlt : T.foes.length ≤ 4096 := by omega
      generalize hM : itM (stepM T l) k (startM T) = M at *
      have HM := hid hM
      have Hgr := hid (roundM_grows T (factsB T.foes.length l) (rulesRows T.rules T.foes.length T.rules.length) M)
      have H8 := hid (roundM_lt T (factsB T.foes.length l) (rulesRows T.rules T.foes.length T.rules.length) M h8.out)
      clear hM
      go_wp2_with fail
      refine hrd.mono ?_
      rintro e w5 ⟨v, rfl, hown, hb5⟩
      have hn5 := hnw.ext hb5
      obtain ⟨xF, xR, xB, xFa, xRu, xM, hh, hrr⟩ := hn5.ex
      have c6 := cell_of_row w5 b 6 _ _ _ hh
      simp only [List.getElem?_toArray, List.getElem?_cons_zero, List.getElem?_cons_succ] at c6
      have hfr := frozen_of_row w5 b 6 _ _ hh
      obtain ⟨f, Hf⟩ : ∃ f, Hid (roundM T (factsB T.foes.length l) (rulesRows T.rules T.foes.length T.rules.length) M = f) := ⟨_, rfl⟩
      rw [Hf.out] at hown Hgr H8
      have hfl2 : f.length = M.length := by rw [← Hf.out]; exact roundM_length _ _ _ _
      have heq := eqM_any w5 v xM f M (own_rdS (by rw [hfl2]; exact hown) (by omega)) (hrr w5 (grown_refl _ _)).2.2.2.2.2
      go_wp2_with fail
      refine heq.mono ?_
      rintro e w6 ⟨_, rfl, rfl, hb6⟩
      have hown6 := hown.kept (row := none) ⟨hb6.os, hb6.tape, hb6.output, hb6.size, fun k hk _ => hb6.block k hk⟩ (by cases v.ownBlock <;> simp)
      obtain ⟨Av, nv, cv, rfl⟩ : ∃ A n c, v = .slice A n c := by
        obtain ⟨A, c, e, _⟩ := own_rdS (by rw [hfl2]; exact hown : w5.ownsRow wr.heap.size _ 1 v f.length _) (by omega)
        exact ⟨A, _, c, e⟩
      have hbv : ∀ g, (Value.slice Av nv cv).ownBlock = some g → g ≠ b := by
        intro g hg e
        have h1 := hown.lt g hg
        have h2 := lt_of_block hnw.ex.choose_spec.choose_spec.choose_spec.choose_spec.choose_spec.choose_spec.1
        omega
      have Hbv := hid hbv
      clear hbv
      by_cases he : f = M
      · have hd : decide (f = M) = true := decide_eq_true he
        rw [hd]
        have Hown := hid hown6
        clear hown6
        go_wp2_with fail
        go_ret2
        refine Fin HQ ⟨k, .slice Av nv cv, rfl, ?_, ?_, hno.out, ext_trans hbl (ext_trans hb5 hb6)⟩
        · have h1 := own_mono Hown.out hbl.size
          rw [he, hlen] at h1
          rw [HM.out]; exact h1
        · rw [HM.out]
          show roundM _ _ _ M = M
          rw [Hf.out]; exact he
      · have hd : decide (f = M) = false := decide_eq_false he
        rw [hd]
        have c6' := cell_ext hb6 c6
        have hfr' : w6.frozen? ⟨b, 6, none⟩ = false := frozen_of_row w6 b 6 _ _ ((hb6.block b (lt_of_block hh)).trans hh)
        have hn6 := hn5.ext hb6
        have hput := hn6.put (v' := .slice Av nv cv) (M' := f) (fun w' hg => by
          have h1 := hown6.kept hg (.inr (fun e => Hbv.out _ e rfl))
          exact own_rdS (by rw [hfl2]; exact h1) (by omega))
        have Hput := hid hput
        clear hput hn6 hn5 hh hrr
        have Hgr2 : Hid (M.sum < f.sum) := by
          have h1 := Hgr.out
          have : M.sum ≠ f.sum := fun e => he (h1.2 e).symm
          exact hid (by omega)
        go_wp2_with fail
        go_roundw
        case rel =>
          have hit : itM (stepM T l) (k + 1) (startM T) = f := by
            show stepM T l (itM (stepM T l) k (startM T)) = f
            rw [HM.out]; exact Hf.out
          have h0 := Hgr2.out
          refine ⟨k + 1, by go_num, ?_, fun j hj => ?_, ?_, ?_, ?_, ?_⟩
          · rw [hit]; exact Hput.out
          · by_cases e : j = k
            · subst e; rw [hit, HM.out]; exact he
            · exact hno.out j (by omega)
          · rw [hit]; omega
          · rw [hit]; exact H8.out
          · rw [hit, hfl2]; exact hlen
          · exact (ext_trans hbl (ext_trans hb5 hb6)).setCell hbw _
        case measure => simp [intOf]; omega
end Go.Proofs.Lx

namespace Go.Proofs.Lx
open Go Go.RowKit
set_option linter.unusedSimpArgs false
set_option linter.unusedVariables false

theorem orM_bit (C : Nat → Bool) (x : Nat) : ∀ k j, (orM C x k).testBit j = (x.testBit j || (decide (j < k) && C j))
  | 0, j => by simp [orM]
  | k + 1, j => by
    unfold orM
    by_cases e : k = j
    · subst e
      cases hc : C k with
      | true => rw [if_pos rfl, Nat.testBit_or, Nat.testBit_two_pow_self]; simp
      | false => rw [if_neg (by simp), orM_bit C x k k]; simp
    · have h1 : decide (j < k + 1) = decide (j < k) := decide_eq_decide.2 (by omega)
      rw [h1]
      cases hc : C k with
      | true => rw [if_pos rfl, Nat.testBit_or, orM_bit C x k j, Nat.testBit_two_pow_of_ne e]; simp
      | false => rw [if_neg (by simp), orM_bit C x k j]
section
variable {T : Th} {F : List Bool} {RL : List (List Int)} {M M' : List Nat}
theorem hasM_nat (M : List Nat) (k : Nat) (q : Int) : hasM M k q = hasM M k (q.toNat : Int) := by unfold hasM; rw [Int.toNat_natCast]
theorem hasM_far {k : Nat} {q : Int} (h : M.length ≤ q.toNat) : hasM M k q = false := by
  unfold hasM; rw [List.getD_eq_getElem?_getD, List.getElem?_eq_none h]; simp
theorem hasM_round {k : Nat} {q : Int} (hq : q.toNat < M.length) : hasM (roundM T F RL M) k q = (hasM M k q || (decide (k < 4) && cnd T F RL M k (q.toNat : Int))) := by
  have : (roundM T F RL M).getD q.toNat 0 = orM (fun k => cnd T F RL M k (q.toNat : Int)) (M.getD q.toNat 0) 4 := by
    rw [List.getD_eq_getElem?_getD, List.getElem?_eq_getElem (by rw [roundM_length]; exact hq)]
    simp [roundM, rnd]
  unfold hasM
  rw [this, orM_bit]
/-- All the marks of one list are in another. -/
def Sub (M M' : List Nat) : Prop := ∀ k q, hasM M k q = true → hasM M' k q = true
theorem sub_round : Sub M (roundM T F RL M) := by
  intro k q h
  by_cases hq : q.toNat < M.length
  · rw [hasM_round hq, h]; rfl
  · rw [hasM_far (by omega)] at h; cases h
theorem whole_true {k : Nat} {r : Int} : wholeB T M k r = true ↔ ∀ x ∈ bodyAt T r, hasM M k x = true := by simp [wholeB]
theorem some_true {k : Nat} {r : Int} : someB T M k r = true ↔ ∃ x ∈ bodyAt T r, hasM M k x = true := by simp [someB]
theorem whole_mono (h : Sub M M') {k : Nat} {r : Int} (hr : wholeB T M k r = true) : wholeB T M' k r = true := whole_true.2 fun x hx => h _ _ (whole_true.1 hr x hx)
theorem some_mono (h : Sub M M') {k : Nat} {r : Int} (hr : someB T M k r = true) : someB T M' k r = true := by
  obtain ⟨x, hx, e⟩ := some_true.1 hr
  exact some_true.2 ⟨x, hx, h _ _ e⟩
theorem plusD_iff {q : Int} : cnd T F RL M 0 q = true ↔ F.getD q.toNat false = true ∨ ∃ r ∈ row RL q, strictB T r = true ∧ wholeB T M 0 r = true := by
  simp only [cnd, plusDB, pdR, Bool.or_eq_true, Bool.and_eq_true, List.any_eq_true]
theorem minusD_iff {q : Int} : cnd T F RL M 1 q = true ↔ F.getD q.toNat false = false ∧ ∀ r ∈ row RL q, strictB T r = true → someB T M 1 r = true := by
  simp only [cnd, minusDB, mdR, Bool.and_eq_true, Bool.not_eq_true', List.any_eq_false, Bool.not_eq_true, Bool.and_eq_false_iff, Bool.not_eq_false']
  refine and_congr Iff.rfl (forall₂_congr fun r _ => ?_)
  cases strictB T r <;> simp
theorem plusP_iff {q : Int} : cnd T F RL M 2 q = true ↔ hasM M 0 q = true ∨ ((∃ r ∈ row RL q, supB T r = true ∧ wholeB T M 2 r = true) ∧ (∀ f ∈ row T.foes q, hasM M 1 f = true) ∧
    ∀ f ∈ row T.foes q, ∀ s ∈ row RL f, someB T M 3 s = true ∨ ∃ r ∈ row RL q, supB T r = true ∧ beatsB T r s = true ∧ wholeB T M 2 r = true) := by
  simp only [cnd, plusPB, ppR, Bool.or_eq_true, Bool.and_eq_true, Bool.not_eq_true', List.any_eq_false, List.any_eq_true, Bool.not_eq_true, Bool.not_eq_false']
  refine or_congr Iff.rfl (and_congr Iff.rfl (and_congr (forall₂_congr fun f _ => by simp) (forall₂_congr fun f _ => ?_)))
  constructor
  · intro h s hs
    cases h3 : someB T M 3 s with
    | true => exact .inl rfl
    | false =>
      refine .inr ?_
      cases ha : (row RL q).any (ppB T M s) with
      | true =>
        obtain ⟨r, hr, e⟩ := List.any_eq_true.1 ha
        simp only [ppB, Bool.and_eq_true] at e
        exact ⟨r, hr, e.1, e.2.1, e.2.2⟩
      | false => exact absurd ⟨s, hs, by simp [ppS, h3, ha]⟩ h
  · rintro h ⟨s, hs, e⟩
    simp only [ppS, Bool.and_eq_true, Bool.not_eq_true'] at e
    rcases h s hs with h | ⟨r, hr, h1, h2, h3⟩
    · rw [e.1] at h; cases h
    · have := List.any_eq_false.1 e.2 r hr
      simp [ppB, h1, h2, h3] at this
theorem minusP_iff {q : Int} : cnd T F RL M 3 q = true ↔ hasM M 1 q = true ∧ ((∀ r ∈ row RL q, supB T r = true → someB T M 3 r = true) ∨ (∃ f ∈ row T.foes q, hasM M 0 f = true) ∨
    ∃ f ∈ row T.foes q, ∃ s ∈ row RL f, wholeB T M 2 s = true ∧ ∀ r ∈ row RL q, supB T r = true → beatsB T r s = true → someB T M 3 r = true) := by
  simp only [cnd, minusPB, Bool.or_eq_true, Bool.and_eq_true, Bool.not_eq_true', List.any_eq_true]
  refine and_congr Iff.rfl (or_congr ?_ (or_congr Iff.rfl ?_))
  · rw [List.any_eq_false]
    refine forall₂_congr fun r _ => ?_
    simp only [mpR]
    cases supB T r <;> cases someB T M 3 r <;> simp
  · refine exists_congr fun f => and_congr Iff.rfl (exists_congr fun s => and_congr Iff.rfl ?_)
    simp only [mpS, Bool.and_eq_true, Bool.not_eq_true']
    refine and_congr Iff.rfl ?_
    rw [List.any_eq_false]
    refine forall₂_congr fun r _ => ?_
    simp only [mpB]
    cases supB T r <;> cases beatsB T r s <;> cases someB T M 3 r <;> simp
theorem cnd_three (k : Nat) : cnd T F RL M (k + 3) = cnd T F RL M 3 := rfl
theorem cnd_mono (h : Sub M M') {k : Nat} {q : Int} (hc : cnd T F RL M k q = true) : cnd T F RL M' k q = true := by
  match k with
  | 0 =>
    rw [plusD_iff] at hc ⊢
    exact hc.imp id fun ⟨r, hr, h1, h2⟩ => ⟨r, hr, h1, whole_mono h h2⟩
  | 1 =>
    rw [minusD_iff] at hc ⊢
    exact ⟨hc.1, fun r hr h1 => some_mono h (hc.2 r hr h1)⟩
  | 2 =>
    rw [plusP_iff] at hc ⊢
    refine hc.imp (h _ _) fun ⟨⟨r, hr, h1, h2⟩, h3, h4⟩ => ⟨⟨r, hr, h1, whole_mono h h2⟩, fun f hf => h _ _ (h3 f hf), fun f hf s hs => ?_⟩
    exact (h4 f hf s hs).imp (some_mono h) fun ⟨r, hr, h1, h2, h3⟩ => ⟨r, hr, h1, h2, whole_mono h h3⟩
  | k + 3 =>
    rw [cnd_three, minusP_iff] at hc ⊢
    refine ⟨h _ _ hc.1, hc.2.imp (fun h1 r hr hs => some_mono h (h1 r hr hs)) (Or.imp (fun ⟨f, hf, h1⟩ => ⟨f, hf, h _ _ h1⟩) fun ⟨f, hf, s, hs, h1, h2⟩ => ⟨f, hf, s, hs, whole_mono h h1, fun r hr h3 h4 => some_mono h (h2 r hr h3 h4)⟩)⟩
theorem round_mono (hl : M.length = M'.length) (h : Sub M M') : Sub (roundM T F RL M) (roundM T F RL M') := by
  intro k q hq
  by_cases hlt : q.toNat < M.length
  · rw [hasM_round hlt, Bool.or_eq_true, Bool.and_eq_true] at hq
    rw [hasM_round (by omega), Bool.or_eq_true, Bool.and_eq_true]
    exact hq.imp (h _ _) fun ⟨h1, h2⟩ => ⟨h1, cnd_mono h h2⟩
  · rw [hasM_far (by rw [roundM_length]; omega)] at hq; cases hq
/-- What has a mark has its condition. -/
def Sup (T : Th) (F : List Bool) (RL : List (List Int)) (M : List Nat) : Prop := ∀ k q, k < 4 → hasM M k q = true → cnd T F RL M k (q.toNat : Int) = true
def Coh (M : List Nat) : Prop := ∀ q, ¬ (hasM M 0 q = true ∧ hasM M 1 q = true) ∧ ¬ (hasM M 2 q = true ∧ hasM M 3 q = true)
theorem whole_some (hc : Coh M) {r : Int} : (wholeB T M 0 r = true → someB T M 1 r = true → False) ∧ (wholeB T M 2 r = true → someB T M 3 r = true → False) :=
  ⟨fun h1 h2 => let ⟨x, hx, e⟩ := some_true.1 h2; (hc x).1 ⟨whole_true.1 h1 x hx, e⟩, fun h1 h2 => let ⟨x, hx, e⟩ := some_true.1 h2; (hc x).2 ⟨whole_true.1 h1 x hx, e⟩⟩
theorem coh_cnd (hc : Coh M) (q : Int) : ¬ (cnd T F RL M 0 q = true ∧ cnd T F RL M 1 q = true) ∧ ¬ (cnd T F RL M 2 q = true ∧ cnd T F RL M 3 q = true) := by
  constructor
  · rintro ⟨h0, h1⟩
    rw [plusD_iff] at h0
    rw [minusD_iff] at h1
    rcases h0 with h0 | ⟨r, hr, hs, hw⟩
    · rw [h1.1] at h0; cases h0
    · exact (whole_some hc).1 hw (h1.2 r hr hs)
  · rintro ⟨h0, h1⟩
    rw [plusP_iff] at h0
    rw [minusP_iff] at h1
    obtain ⟨h1, h3⟩ := h1
    rcases h0 with h0 | ⟨⟨r, hr, hs, hw⟩, hf, ha⟩
    · exact (hc q).1 ⟨h0, h1⟩
    · rcases h3 with h3 | ⟨f, hff, h3⟩ | ⟨f, hff, s, hs', hw', h3⟩
      · exact (whole_some hc).2 hw (h3 r hr hs)
      · exact (hc f).1 ⟨h3, hf f hff⟩
      · rcases ha f hff s hs' with h4 | ⟨r', hr', h5, h6, h7⟩
        · exact (whole_some hc).2 hw' h4
        · exact (whole_some hc).2 h7 (h3 r' hr' h5 h6)
/-- Such as rounds make. -/
structure Made (T : Th) (F : List Bool) (RL : List (List Int)) (M : List Nat) : Prop where
  sup : Sup T F RL M
  coh : Coh M
  low : ∀ k q, hasM M k q = true → k < 4
  dd : ∀ q, hasM M 3 q = true → hasM M 1 q = true
theorem Made.round (h : Made T F RL M) : Made T F RL (roundM T F RL M) := by
  have key : ∀ k q, hasM (roundM T F RL M) k q = true → k < 4 ∧ cnd T F RL M k (q.toNat : Int) = true := by
    intro k q hq
    by_cases hlt : q.toNat < M.length
    · rw [hasM_round hlt, Bool.or_eq_true, Bool.and_eq_true, decide_eq_true_eq] at hq
      rcases hq with hq | hq
      · exact ⟨h.low _ _ hq, h.sup _ _ (h.low _ _ hq) hq⟩
      · exact hq
    · rw [hasM_far (by rw [roundM_length]; omega)] at hq; cases hq
  refine ⟨fun k q hk hq => cnd_mono sub_round (key k q hq).2, fun q => ⟨fun ⟨h1, h2⟩ => ?_, fun ⟨h1, h2⟩ => ?_⟩, fun k q hq => (key k q hq).1, fun q hq => ?_⟩
  · exact (coh_cnd h.coh _).1 ⟨(key _ _ h1).2, (key _ _ h2).2⟩
  · exact (coh_cnd h.coh _).2 ⟨(key _ _ h1).2, (key _ _ h2).2⟩
  · have := (minusP_iff.1 (key _ _ hq).2).1
    rw [← hasM_nat] at this
    exact sub_round _ _ this
end
theorem hasM_start (T : Th) (k : Nat) (q : Int) : hasM (startM T) k q = false := by
  unfold hasM startM
  rw [List.getD_eq_getElem?_getD, List.getElem?_replicate]
  split <;> simp
theorem made_start (T : Th) (F : List Bool) (RL : List (List Int)) : Made T F RL (startM T) :=
  ⟨fun k q _ h => (by rw [hasM_start] at h; cases h), fun q => ⟨fun h => (by rw [hasM_start] at h; cases h.1), fun h => (by rw [hasM_start] at h; cases h.1)⟩, fun k q h => (by rw [hasM_start] at h; cases h), fun q h => (by rw [hasM_start] at h; cases h)⟩
theorem made_it (T : Th) (l : List Int) : ∀ k, Made T (factsB T.foes.length l) (rulesRows T.rules T.foes.length T.rules.length) (itM (stepM T l) k (startM T))
  | 0 => made_start _ _ _
  | k + 1 => (made_it T l k).round
theorem it_length (T : Th) (l : List Int) : ∀ k, (itM (stepM T l) k (startM T)).length = T.foes.length
  | 0 => by simp [itM, startM]
  | k + 1 => (roundM_length _ _ _ _).trans (it_length T l k)
theorem it_lt (T : Th) (l : List Int) : ∀ k, ∀ x ∈ itM (stepM T l) k (startM T), x < 256
  | 0 => fun x hx => by simp [itM, startM] at hx; omega
  | k + 1 => roundM_lt _ _ _ _ (it_lt T l k)
theorem it_sum (T : Th) (l : List Int) : ∀ k, (∀ j, j < k → itM (stepM T l) (j + 1) (startM T) ≠ itM (stepM T l) j (startM T)) → k ≤ (itM (stepM T l) k (startM T)).sum
  | 0, _ => Nat.zero_le _
  | k + 1, h => by
    have ih := it_sum T l k fun j hj => h j (by omega)
    have h1 := roundM_grows T (factsB T.foes.length l) (rulesRows T.rules T.foes.length T.rules.length) (itM (stepM T l) k (startM T))
    have h2 := h k (by omega)
    have h3 : (itM (stepM T l) k (startM T)).sum ≠ (roundM T (factsB T.foes.length l) (rulesRows T.rules T.foes.length T.rules.length) (itM (stepM T l) k (startM T))).sum := fun e => h2 (h1.2 e).symm
    show k + 1 ≤ (roundM T (factsB T.foes.length l) (rulesRows T.rules T.foes.length T.rules.length) (itM (stepM T l) k (startM T))).sum
    omega
/-- All that holds. -/
def solveM (T : Th) (l : List Int) : List Nat := itM (stepM T l) (255 * T.foes.length) (startM T)
theorem it_stay {f : List Nat → List Nat} {X : List Nat} {k : Nat} (h : f (itM f k X) = itM f k X) : ∀ d, itM f (k + d) X = itM f k X
  | 0 => rfl
  | d + 1 => by
    show f (itM f (k + d) X) = _
    rw [it_stay h d, h]
theorem solve_eq {T : Th} {l : List Int} {k : Nat} (h : stepM T l (itM (stepM T l) k (startM T)) = itM (stepM T l) k (startM T)) (hk : k ≤ 255 * T.foes.length) : itM (stepM T l) k (startM T) = solveM T l := by
  have := it_stay h (255 * T.foes.length - k)
  rw [show k + (255 * T.foes.length - k) = 255 * T.foes.length by omega] at this
  exact this.symm
theorem solve_run {T : Th} {l : List Int} {k : Nat} (h : stepM T l (itM (stepM T l) k (startM T)) = itM (stepM T l) k (startM T)) (hn : ∀ j, j < k → itM (stepM T l) (j + 1) (startM T) ≠ itM (stepM T l) j (startM T)) : itM (stepM T l) k (startM T) = solveM T l := by
  refine solve_eq h ?_
  have h1 := it_sum T l k hn
  have h2 := sum_bound _ (it_lt T l k)
  rw [it_length] at h2; omega
open Classical in
theorem solve_fix (T : Th) (l : List Int) : stepM T l (solveM T l) = solveM T l := by
  by_cases h : ∃ k, k ≤ 255 * T.foes.length ∧ stepM T l (itM (stepM T l) k (startM T)) = itM (stepM T l) k (startM T)
  · obtain ⟨k, hk, h⟩ := h
    rw [← solve_eq h hk]; exact h
  · exfalso
    have hn : ∀ j, j < 255 * T.foes.length + 1 → itM (stepM T l) (j + 1) (startM T) ≠ itM (stepM T l) j (startM T) := fun j hj e => h ⟨j, by omega, e⟩
    have h1 := it_sum T l _ hn
    have h2 := sum_bound _ (it_lt T l (255 * T.foes.length + 1))
    rw [it_length] at h2; omega
theorem solve_length (T : Th) (l : List Int) : (solveM T l).length = T.foes.length := it_length _ _ _
theorem solve_made (T : Th) (l : List Int) : Made T (factsB T.foes.length l) (rulesRows T.rules T.foes.length T.rules.length) (solveM T l) := made_it _ _ _
/-- At the end a condition that holds has its mark. -/
theorem solve_shut (T : Th) (l : List Int) {k : Nat} (hk : k < 4) {q : Nat} (hq : q < T.foes.length) (h : cnd T (factsB T.foes.length l) (rulesRows T.rules T.foes.length T.rules.length) (solveM T l) k (q : Int) = true) : hasM (solveM T l) k (q : Int) = true := by
  have e := solve_fix T l
  have := hasM_round (T := T) (F := factsB T.foes.length l) (RL := rulesRows T.rules T.foes.length T.rules.length) (M := solveM T l) (k := k) (q := (q : Int)) (by rw [solve_length]; simpa using hq)
  unfold stepM at e
  rw [e] at this
  rw [this, show ((q : Int).toNat : Int) = q by omega, h]; simp [hk]
def sixB (x : Nat) : Bool := ((List.range 8).any fun k => x.testBit k && decide (4 ≤ k)) || (x.testBit 0 && x.testBit 1) || (x.testBit 2 && x.testBit 3) || (x.testBit 3 && !x.testBit 1) || (x.testBit 0 && !x.testBit 2) || (x == 0 || x == 2 || x == 4 || x == 5 || x == 6 || x == 10)
theorem sixB_all : ∀ x : _root_.Fin 256, sixB x.val = true := by decide +kernel
theorem six (x : Nat) (hx : x < 256) (h0 : ∀ k, x.testBit k = true → k < 4) (h1 : ¬ (x.testBit 0 = true ∧ x.testBit 1 = true)) (h2 : ¬ (x.testBit 2 = true ∧ x.testBit 3 = true)) (h3 : x.testBit 3 = true → x.testBit 1 = true) (h4 : x.testBit 0 = true → x.testBit 2 = true) :
    x = 0 ∨ x = 2 ∨ x = 4 ∨ x = 5 ∨ x = 6 ∨ x = 10 := by
  have h := sixB_all ⟨x, hx⟩
  simp only [sixB, Bool.or_eq_true, beq_iff_eq] at h
  rcases h with ((((h | h) | h) | h) | h) | h
  · obtain ⟨k, _, hk⟩ := List.any_eq_true.1 h
    rw [Bool.and_eq_true, decide_eq_true_eq] at hk
    have := h0 k hk.1; omega
  · rw [Bool.and_eq_true] at h; exact absurd h h1
  · rw [Bool.and_eq_true] at h; exact absurd h h2
  · rw [Bool.and_eq_true, Bool.not_eq_true'] at h; have := h3 h.1; rw [h.2] at this; cases this
  · rw [Bool.and_eq_true, Bool.not_eq_true'] at h; have := h4 h.1; rw [h.2] at this; cases this
  · omega
theorem solve_six (T : Th) (l : List Int) (q : Nat) (hq : q < (solveM T l).length) : (solveM T l)[q] = 0 ∨ (solveM T l)[q] = 2 ∨ (solveM T l)[q] = 4 ∨ (solveM T l)[q] = 5 ∨ (solveM T l)[q] = 6 ∨ (solveM T l)[q] = 10 := by
  have hm := solve_made T l
  have h8 := it_lt T l (255 * T.foes.length) _ (List.getElem_mem hq)
  have hg : (solveM T l).getD ((q : Int).toNat) 0 = (solveM T l)[q] := by simp [hq]
  have hh : ∀ k, hasM (solveM T l) k (q : Int) = (solveM T l)[q].testBit k := by intro k; unfold hasM; rw [hg]
  have hc := hm.coh (q : Int)
  rw [hh, hh, hh, hh] at hc
  refine six _ h8 (fun k hk => hm.low k (q : Int) (by rw [hh]; exact hk)) hc.1 hc.2 (fun h => by have := hm.dd (q : Int) (by rw [hh]; exact h); rwa [hh] at this) (fun h => ?_)
  have := solve_shut T l (k := 2) (by omega) (q := q) (by rw [← solve_length T l]; exact hq) (plusP_iff.2 (.inl (by rw [hh]; exact h)))
  rwa [hh] at this
end Go.Proofs.Lx

namespace Go.Proofs.Lx
open Go Go.RowKit
set_option linter.unusedSimpArgs false
set_option linter.unusedVariables false

def factsErr (T : Th) (l : List Int) : Int := if risB l T.lits = true then 0 else 181
/-- The first error of a theory and facts. -/
noncomputable def givenErr (T : Th) (l : List Int) : Int := if checkErr T = 0 then factsErr T l else checkErr T
theorem givenErr_ok {T : Th} {l : List Int} : givenErr T l = 0 ↔ WfTh T ∧ risB l T.lits = true := by
  unfold givenErr factsErr
  rw [← checkErr_ok]
  by_cases h : checkErr T = 0
  · rw [if_pos h]
    by_cases h2 : risB l T.lits = true
    · simp [h, h2]
    · rw [if_neg h2]; simp [h2]
  · rw [if_neg h]; simp [h]

set_option maxHeartbeats 800000 in
theorem facts_any (w : World) (V vl : Value) (T : Th) (l : List Int) (hT : RdTh w V T) (hl : RdI w vl l) :
    Calls Try.prog 84 #[V, vl] w (Ret fun v w' => v = .int .i64 (factsErr T l) ∧ Below w.heap.size w w') := by
  obtain ⟨vF, vR, vB, rfl, hF, hR, hB⟩ := hT
  have hl' := hl.ext (scR_mono _) (ext_alloc w (.cells #[.int .i64 T.lits, vF, vR, vB] 25))
  have hcall := hid (rising_any _ vl l T.lits hl')
  have hbel := ext_alloc w (.cells #[.int .i64 T.lits, vF, vR, vB] 25)
  clear hl'
  refine post_gen fun Q HQ => ?_
  go_enter Try.func84, Try.ntmps84
  go_wp2_with fail
  refine hcall.out.mono ?_
  rintro e w2 ⟨_, rfl, rfl, rfl⟩
  unfold factsErr at HQ
  cases h : risB l T.lits with
  | true =>
    rw [h] at HQ
    go_wp2_with fail
    go_ret
    exact Fin HQ ⟨rfl, hbel⟩
  | false =>
    rw [h] at HQ
    go_wp2_with fail
    go_ret
    exact Fin HQ ⟨rfl, hbel⟩

theorem box4 {w w2 : World} {v0 v1 v2 v3 : Value} {ty : TypeId} (hb : Below (w.alloc (.cells #[v0, v1, v2, v3] ty)).heap.size (w.alloc (.cells #[v0, v1, v2, v3] ty)) w2) :
    w2.cell? ⟨w.heap.size, 0, none⟩ = some v0 ∧ w2.cell? ⟨w.heap.size, 1, none⟩ = some v1 ∧ w2.cell? ⟨w.heap.size, 2, none⟩ = some v2 ∧ w2.cell? ⟨w.heap.size, 3, none⟩ = some v3 := by
  rw [World.size_alloc] at hb
  exact ⟨box_cell hb 0, box_cell hb 1, box_cell hb 2, box_cell hb 3⟩

set_option maxHeartbeats 800000 in
theorem given_any (w : World) (V vl : Value) (T : Th) (l : List Int) (hT : RdTh w V T) (hl : RdI w vl l) :
    Calls Try.prog 55 #[V, vl] w (Ret fun v w' => v = .int .i64 (givenErr T l) ∧ Below w.heap.size w w') := by
  have HT := hid hT
  obtain ⟨vF, vR, vB, rfl, hF, hR, hB⟩ := hT
  have Hgiv : Hid (∀ c, checkErr T = c → givenErr T l = if c = 0 then factsErr T l else c) := fun c hc => by rw [givenErr, hc]
  obtain ⟨c, Hc⟩ : ∃ c, Hid (checkErr T = c) := ⟨_, hid rfl⟩
  have hbel := ext_alloc w (.cells #[.int .i64 T.lits, vF, vR, vB] 25)
  have hch := check_any (w.alloc (.cells #[.int .i64 T.lits, vF, vR, vB] 25)) _ T (HT.out.ext hbel)
  rw [Hc.out] at hch
  have Hch := hid hch
  clear hch hF hR hB
  refine post_gen fun Q HQ => ?_
  rw [Hgiv.out c Hc.out] at HQ
  go_enter Try.func55, Try.ntmps55
  go_wp2_with fail
  refine Hch.out.mono ?_
  rintro e w2 ⟨_, rfl, ⟨i, rfl⟩, hb2'⟩
  obtain ⟨b0, b1, b2, b3⟩ := box4 hb2'
  have hb2 := ext_trans hbel hb2'
  clear hb2'
  by_cases h : c = 0
  · rw [if_pos h] at HQ
    subst h
    have Hf := hid (facts_any w2 _ vl T l (HT.out.ext hb2) (hl.ext (scR_mono _) hb2))
    go_wp2_with fail
    refine Hf.out.mono ?_
    rintro e w3 ⟨_, rfl, rfl, hb3⟩
    go_wp2_with fail
    go_ret
    exact Fin HQ ⟨rfl, ext_trans hb2 hb3⟩
  · rw [if_neg h] at HQ
    have hne : (c != 0) = true := by simp [h]
    go_wp2_with fail
    go_ret
    exact Fin HQ ⟨rfl, hb2⟩

/-- .. and of a mark list. -/
noncomputable def markedErr (T : Th) (l : List Int) (n : Nat) : Int := if givenErr T l = 0 then (if (n : Int) = T.lits then 0 else 3) else givenErr T l
theorem markedErr_ok {T : Th} {l : List Int} {n : Nat} : markedErr T l n = 0 ↔ givenErr T l = 0 ∧ (n : Int) = T.lits := by
  unfold markedErr
  by_cases h : givenErr T l = 0
  · rw [if_pos h]
    by_cases h2 : (n : Int) = T.lits
    · simp [h, h2]
    · rw [if_neg h2]; simp [h2]
  · rw [if_neg h]; simp [h]

set_option maxHeartbeats 800000 in
theorem marked_any (w : World) (V vl vm : Value) (T : Th) (l : List Int) (M : List Nat) (hT : RdTh w V T) (hl : RdI w vl l) (hm : RdMk w vm M) :
    Calls Try.prog 57 #[V, vl, vm] w (Ret fun v w' => v = .int .i64 (markedErr T l M.length) ∧ Below w.heap.size w w') := by
  have HT := hid hT
  obtain ⟨vF, vR, vB, rfl, hF, hR, hB⟩ := hT
  obtain ⟨A, cM, rfl, hcM, hbM, hrM⟩ := hm
  clear hrM
  have Hgiv : Hid (∀ c, givenErr T l = c → markedErr T l M.length = if c = 0 then (if (M.length : Int) = T.lits then 0 else 3) else c) := fun c hc => by rw [markedErr, hc]
  obtain ⟨c, Hc⟩ : ∃ c, Hid (givenErr T l = c) := ⟨_, hid rfl⟩
  generalize M.length = n at *
  have hbel := ext_alloc w (.cells #[.int .i64 T.lits, vF, vR, vB] 25)
  have hch := given_any (w.alloc (.cells #[.int .i64 T.lits, vF, vR, vB] 25)) _ vl T l (HT.out.ext hbel) (hl.ext (scR_mono _) hbel)
  rw [Hc.out] at hch
  have Hch := hid hch
  have hbox : ∀ w2, Below (w.alloc (.cells #[.int .i64 T.lits, vF, vR, vB] 25)).heap.size (w.alloc (.cells #[.int .i64 T.lits, vF, vR, vB] 25)) w2 → w2.cell? ⟨w.heap.size, 0, none⟩ = some (.int .i64 T.lits) := fun w2 hb => (box4 hb).1
  have Hbox := hid hbox
  clear hch hbox hF hR hB
  refine post_gen fun Q HQ => ?_
  rw [Hgiv.out c Hc.out] at HQ
  go_enter Try.func57, Try.ntmps57
  go_wp2_with fail
  refine Hch.out.mono ?_
  rintro e w2 ⟨_, rfl, rfl, hb2⟩
  have b0 := Hbox.out w2 hb2
  have hb3 := ext_trans hbel hb2
  by_cases h : c = 0
  · rw [if_pos h] at HQ
    subst h
    by_cases h2 : (n : Int) = T.lits
    · rw [if_pos h2] at HQ
      have hne : ((n : Int) != T.lits) = false := by simp [h2]
      have H2 := hid h2
      clear h2
      go_wp2_with fail
      go_ret
      exact Fin HQ ⟨rfl, hb3⟩
    · rw [if_neg h2] at HQ
      have hne : ((n : Int) != T.lits) = true := by simp [h2]
      have H2 := hid h2
      clear h2
      go_wp2_with fail
      go_ret
      exact Fin HQ ⟨rfl, hb3⟩
  · rw [if_neg h] at HQ
    have hne : (c != 0) = true := by simp [h]
    go_wp2_with fail
    go_ret
    exact Fin HQ ⟨rfl, hb3⟩

/-- What a slice of marks of the call's own reads as. -/
theorem own_marks {w : World} {base : Nat} {v : Value} {M : List Nat} (h : w.ownsRow base 33 1 v M.length (marksV M)) (hl : M.length ≤ 140737488355328) : RdMk w v M := own_rdS h hl

set_option maxHeartbeats 800000 in
theorem solve_any (w : World) (V vl : Value) (T : Th) (l : List Int) (hT : RdTh w V T) (hl : RdI w vl l) :
    Calls Try.prog 20 #[V, vl] w (Ret fun r w' => ∃ v, r = .tuple #[v, .int .i64 (givenErr T l)] ∧ (givenErr T l = 0 → w'.ownsRow w.heap.size 33 1 v (solveM T l).length (marksV (solveM T l))) ∧ (givenErr T l ≠ 0 → v = .slice none 0 0) ∧ Below w.heap.size w w') := by
  have HT := hid hT
  obtain ⟨vF, vR, vB, rfl, hF, hR, hB⟩ := hT
  have hbel := ext_alloc w (.cells #[.int .i64 T.lits, vF, vR, vB] 25)
  have hch := given_any (w.alloc (.cells #[.int .i64 T.lits, vF, vR, vB] 25)) _ vl T l (HT.out.ext hbel) (hl.ext (scR_mono _) hbel)
  have Hok := hid (@givenErr_ok T l)
  clear hF hR hB
  generalize givenErr T l = c at *
  refine post_gen fun Q HQ => ?_
  go_enter Try.func20, Try.ntmps20
  go_wp2_with fail
  refine hch.mono ?_
  rintro e w2 ⟨_, rfl, rfl, hb2'⟩
  obtain ⟨b0, b1, b2, b3⟩ := box4 hb2'
  have hb2 := ext_trans hbel hb2'
  clear hb2'
  by_cases h : c = 0
  · subst h
    have hw := Hok.out.1 rfl
    have Hrun := hid (run_any w2 _ vl T l (HT.out.ext hb2) hw.1 (hl.ext (scR_mono _) hb2) hw.2)
    clear hw
    go_wp2_with fail
    refine Hrun.out.mono ?_
    rintro e w3 ⟨_, rfl, k, v, rfl, h1, h2, h3, hb3⟩
    go_wp2_with fail
    go_ret2
    refine Fin HQ ⟨v, rfl, fun _ => ?_, fun h => absurd rfl h, ext_trans hb2 hb3⟩
    rw [solve_run h2 h3] at h1
    rw [solve_length]
    exact own_mono h1 hb2.size
  · have hne : (c != 0) = true := by simp [h]
    go_wp2_with fail
    go_ret2
    exact Fin HQ ⟨_, rfl, fun e => absurd e h, fun _ => rfl, hb2⟩

set_option maxHeartbeats 800000 in
theorem roundTop_any (w : World) (V vl vm : Value) (T : Th) (l : List Int) (M : List Nat) (hT : RdTh w V T) (hl : RdI w vl l) (hm : RdMk w vm M) (h8 : ∀ x ∈ M, x < 256) :
    Calls Try.prog 22 #[V, vl, vm] w (Ret fun r w' => ∃ v, r = .tuple #[v, .int .i64 (markedErr T l M.length)] ∧ (markedErr T l M.length = 0 → w'.ownsRow w.heap.size 33 1 v M.length (marksV (stepM T l M))) ∧ (markedErr T l M.length ≠ 0 → v = .slice none 0 0) ∧ Below w.heap.size w w') := by
  have HT := hid hT
  obtain ⟨vF, vR, vB, rfl, hF, hR, hB⟩ := hT
  have hbel := ext_alloc w (.cells #[.int .i64 T.lits, vF, vR, vB] 25)
  have hch := marked_any (w.alloc (.cells #[.int .i64 T.lits, vF, vR, vB] 25)) _ vl vm T l M (HT.out.ext hbel) (hl.ext (scR_mono _) hbel) (hm.ext (scR_mono _) hbel)
  have Hok := hid (@markedErr_ok T l M.length)
  have Hm := hid hm
  have H8 := hid h8
  clear hF hR hB hm h8
  generalize markedErr T l M.length = c at *
  refine post_gen fun Q HQ => ?_
  go_enter Try.func22, Try.ntmps22
  go_wp2_with fail
  refine hch.mono ?_
  rintro e w2 ⟨_, rfl, rfl, hb2'⟩
  obtain ⟨b0, b1, b2, b3⟩ := box4 hb2'
  have hb2 := ext_trans hbel hb2'
  clear hb2'
  by_cases h : c = 0
  · subst h
    obtain ⟨hw1, hw2⟩ := Hok.out.1 rfl
    have hw := givenErr_ok.1 hw1
    have hfl := hw.1.fl
    have Hlen : Hid (M.length = T.foes.length) := hid (by omega)
    have Hnew := hid (newWorld_any w2 _ vl vm T l M (HT.out.ext hb2) hw.1 (hl.ext (scR_mono _) hb2) hw.2 (Hm.out.ext (scR_mono _) hb2))
    have Hval := hid (nval hw.1 l M Hlen.out H8.out)
    clear hw1 hw2 hw hfl
    go_wp2_with fail
    refine Hnew.out.mono ?_
    rintro e w3 ⟨_, rfl, b, rfl, hbb, hnw, hb3⟩
    have Hr := hid (round_any w3 b T _ _ _ hnw.nw Hval.out)
    have hb4 := ext_trans hb2 hb3
    clear hnw
    go_wp2_with fail
    refine Hr.out.mono ?_
    rintro e w4 ⟨v, rfl, hown, hb5⟩
    go_wp2_with fail
    go_ret2
    exact Fin HQ ⟨v, rfl, fun _ => own_mono hown hb4.size, fun h => absurd rfl h, ext_trans hb4 hb5⟩
  · have hne : (c != 0) = true := by simp [h]
    go_wp2_with fail
    go_ret2
    exact Fin HQ ⟨_, rfl, fun e => absurd e h, fun _ => rfl, hb2⟩
end Go.Proofs.Lx

namespace Go.Proofs.Lx
open Go Go.RowKit
set_option linter.unusedSimpArgs false
set_option linter.unusedVariables false

theorem pSum_mono {rs : List Rule} {fo : List (List Int)} {k : Nat} : ∀ d, pSum rs fo k ≤ pSum rs fo (k + d)
  | 0 => Nat.le_refl _
  | d + 1 => by
    rw [show k + (d + 1) = k + d + 1 by omega, pSum_succ]
    exact Nat.le_trans (pSum_mono d) (Nat.le_add_right _ _)

set_option maxHeartbeats 1600000 in
theorem count12_any (w : World) (V : Value) (T : Th) (hT : RdTh w V T) (hl : (T.foes.length : Int) = T.lits) (h4 : T.lits ≤ 4096)
   (hru : T.rules.length ≤ 4096) (hrr : ∀ r ∈ T.rules, ruleOk T.lits r = true) :
   Calls Try.prog 162 #[V] w (Ret fun v w' => ∃ g, v = .slice (some ⟨g, 0, none⟩) T.foes.length T.foes.length ∧ Arr (Value.int .i64) 3 w' g (hList T.rules T.foes.length) ∧ Below w.heap.size w w') := by
  obtain ⟨lits, foes, rules, beats⟩ := T
  obtain ⟨vF, vR, vB, rfl, ⟨A, c, rfl, hc, hb, hr⟩, ⟨AR, cR, rfl, hcR, hbR, hrR⟩, _⟩ := hT
  dsimp only at *
  obtain rfl : lits = (foes.length : Int) := hl.symm
  clear hl
  have hbel := ext_alloc w (.cells #[.int .i64 foes.length, .slice A foes.length c, .slice AR rules.length cR, vB] 25)
  have hrR1 := hrR.ext ruleR_mono hbel
  have hmk := mkI foes.length (by omega) (by omega)
  rw [Int.toNat_natCast] at hmk
  have Hrr := hid hrr
  clear hr hrR hrr
  refine post_gen fun Q HQ => ?_
  go_enter Try.func162, Try.ntmps162
  go_wp2
  clear hmk
  go_loopw [4] (fun v4 wr => ∃ k : Nat, k ≤ rules.length ∧ v4 = .int .i64 k ∧ Arr (Value.int .i64) 3 wr (w.heap.size + 1) (cntUpto rules foes.length k) ∧ Below (w.heap.size + 1) (w.alloc (.cells #[.int .i64 foes.length, .slice A foes.length c, .slice AR rules.length cR, vB] 25)) wr) (fun v4 _ => rules.length - (intOf v4).toNat)
  case atStart =>
    refine ⟨0, Nat.zero_le _, rfl, ?_, ?_⟩
    · rw [cntUpto_zero]
      have := made_arr (Value.int .i64) (0 : Int) 3 (w.alloc (.cells #[.int .i64 foes.length, .slice A foes.length c, .slice AR rules.length cR, vB] 25)) foes.length
      simpa using this
    · exact (Below.refl _ _).alloc (by simp) _
  case round =>
    obtain ⟨k, hk, rfl, harr, hbl⟩ := hrel
    have hbl' : Below (w.alloc (.cells #[.int .i64 foes.length, .slice A foes.length c, .slice AR rules.length cR, vB] 25)).heap.size (w.alloc (.cells #[.int .i64 foes.length, .slice A foes.length c, .slice AR rules.length cR, vB] 25)) wr := by rw [World.size_alloc]; exact hbl
    have b2 : wr.cell? ⟨w.heap.size, 2, none⟩ = some (.slice AR rules.length cR) := box_cell hbl 2
    by_cases hlt : k < rules.length
    · obtain ⟨ad, B, cB, rfl, hc0, hc1, hc2, hcB, hbB, hrB⟩ := (hrR1.ext ruleR_mono hbl').atRule hlt
      have Hrk := hid (Hrr.out _ (List.getElem_mem hlt))
      obtain ⟨hh0, hh1⟩ := ruleOk_head Hrk.out
      have hg := harr.lt
      have Hs := hid (cntUpto_succ rules foes.length k hlt hh0 hh1)
      have hhc := harr.cell (i := rules[k].head.toNat) (by rw [cntUpto_length]; omega)
      rw [cntUpto_at _ _ _ _ (by omega), show ((rules[k].head.toNat : Nat) : Int) = rules[k].head from by omega] at hhc
      have hhf := harr.free rules[k].head.toNat
      have hle := hcnt_le rules k rules[k].head
      generalize hcnt (rules.take k) rules[k].head = y at *
      generalize hh : rules[k].head = hd at *
      have Hh := hid hh
      clear hh
      go_wp2
      go_roundw
      case rel =>
        refine ⟨k + 1, by omega, by go_num, ?_, ?_⟩
        · rw [Hs.out]
          exact harr.set hd.toNat ((y : Int) + 1)
        · exact hbl.setCell (Nat.le_refl _) _
      case measure => simp [intOf]; omega
    · have hk2 : k = rules.length := by omega
      subst hk2
      rw [cntUpto_all] at harr
      have Harr := hid harr
      clear harr
      go_wp2
      go_ret
      exact Fin HQ ⟨w.heap.size + 1, rfl, Harr.out, hbel.trans (hbl.mono (by omega))⟩

set_option maxRecDepth 100000 in
set_option maxHeartbeats 1600000 in
theorem pairs12_any (w : World) (V : Value) (T : Th) (hT : RdTh w V T) (hl : (T.foes.length : Int) = T.lits) (h4 : T.lits ≤ 4096) (hfo : foesAll T = true)
   (hru : T.rules.length ≤ 4096) (hrr : ∀ r ∈ T.rules, ruleOk T.lits r = true) :
   Calls Try.prog 134 #[V] w (Ret fun v w' => (∃ s : Int, v = .int .i64 s ∧ (65536 < s ↔ 65536 < pairCount T)) ∧ Below w.heap.size w w') := by
  have HT := hid hT
  obtain ⟨vF, vR, vB, rfl, ⟨A, c, rfl, hc, hb, hr⟩, hR, hB⟩ := hT
  have hbel := ext_alloc w (.cells #[.int .i64 T.lits, .slice A T.foes.length c, vR, vB] 25)
  have Hcnt := hid (count12_any _ _ T (HT.out.ext hbel) hl h4 hru hrr)
  have hr1 := hr.ext llR_mono hbel
  have Hfo := hid hfo
  have Hl := hid hl
  have Hbel := hid hbel
  clear hr hR hB hfo hrr hbel
  refine post_gen fun Q HQ => ?_
  go_enter Try.func134, Try.ntmps134
  go_wp2_with fail
  refine Hcnt.out.mono ?_
  rintro e w2 ⟨_, rfl, g, rfl, harr, hb2⟩
  have b0 : w2.cell? ⟨w.heap.size, 0, none⟩ = some (.int .i64 T.lits) := (box4 hb2).1
  have b1 : w2.cell? ⟨w.heap.size, 1, none⟩ = some (.slice A T.foes.length c) := (box4 hb2).2.1
  have hr2 := hr1.ext llR_mono hb2
  have Hb2 := hid (ext_trans Hbel.out hb2)
  clear Hcnt hr1 hb2
  rw [← Hl.out] at b0
  generalize hn : T.foes.length = n at *
  have Hn := hid hn
  clear hn hl
  go_wp2
  go_loopw [5, 4] (fun v5 v4 wr => ∃ q : Nat, q ≤ n ∧ v5 = .int .i64 q ∧ v4 = .int .i64 (pSum T.rules T.foes q : Nat) ∧ pSum T.rules T.foes q ≤ 65536 ∧ Below w2.heap.size w2 wr) (fun v5 _ _ => n - (intOf v5).toNat)
  case atStart => exact ⟨0, Nat.zero_le _, rfl, rfl, by simp [pSum], Below.refl _ _⟩
  case round =>
    obtain ⟨k, hk, rfl, rfl, hps, hbl⟩ := hrel
    have c0 := cell_ext hbl b0
    have c1 := cell_ext hbl b1
    obtain ⟨wo, rfl⟩ : ∃ wo : World, wo = wr := ⟨_, rfl⟩
    by_cases hlt : k < n
    · have hlt2 : k < T.foes.length := by rw [Hn.out]; exact hlt
      obtain ⟨ad, B, cB, rfl, hcell, hcB, hbB, hrB⟩ := (hr2.ext llR_mono hbl).atRow hlt2
      obtain ⟨h64, hris, _, _⟩ := foesOk_spec Hfo.out k hlt2
      have Hris := hid (risB_spec hris).1
      have Hgl : Hid (T.foes.getD k [] = T.foes[k]) := by simp [Hid, hlt2]
      clear hris
      generalize hS : pSum T.rules T.foes k = S at *
      have HS := hid hS
      clear hS
      generalize T.foes[k] = L at *
      go_wp2
      go_loopw [6, 4] (fun v6 v4 w3 => ∃ j : Nat, j ≤ L.length ∧ v6 = .int .i64 j ∧ v4 = .int .i64 ((S + pRow T.rules L k j : Nat) : Int) ∧ Below wo.heap.size wo w3) (fun v6 _ _ => L.length - (intOf v6).toNat)
      case atStart => exact ⟨0, Nat.zero_le _, rfl, by simp [pRow], ext_refl _⟩
      case round =>
        obtain ⟨j, hj, rfl, rfl, hbl3⟩ := hrel
        have c1 := cell_ext hbl3 c1
        have hcell := cell_ext hbl3 hcell
        have hpr := pRow_le (l := L) (q := k) hru j hj
        have harr3 := Arr.ext harr (ext_trans hbl hbl3)
        by_cases hjl : j < L.length
        · obtain ⟨adb, rfl, hcj⟩ := (hrB.ext (scR_mono _) hbl3).at1 hjl
          have hrange := Hris.out j hjl
          have hX2 : L[j].toNat < n := by have := Hl.out; omega
          have ha := harr3.cell (i := k) (by rw [hList_length]; omega)
          have hx := harr3.cell (i := L[j].toNat) (by rw [hList_length]; omega)
          rw [hList_at _ _ hlt] at ha
          rw [hList_at _ _ hX2] at hx
          have hp1 := prod_le (Nat.le_trans (hcnt_len T.rules k) hru) (Nat.le_trans (hcnt_len T.rules (L[j].toNat : Nat)) hru)
          have hee : ((L[j].toNat : Nat) : Int) = L[j] := by omega
          have Hps : Hid (pRow T.rules L k (j + 1) = pRow T.rules L k j + hcnt T.rules k * hcnt T.rules (L[j].toNat : Nat)) := by rw [hee]; exact pRow_succ hjl
          generalize pRow T.rules L k j = R at *
          generalize L[j] = X at *
          generalize hcnt T.rules k = a at *
          generalize hcnt T.rules (X.toNat : Nat) = b at *
          have hXn : X < (n : Int) := by omega
          have hX0 : 0 ≤ X := hrange.1
          have hp2 : (a : Int) * b = ((a * b : Nat) : Int) := by simp
          have hp3 : 0 ≤ (a : Int) * b ∧ (a : Int) * b ≤ 16777216 := by omega
          obtain ⟨hp4, hp5⟩ := hp3
          have Hp2 := hid hp2
          clear hp2 hee harr3
          go_wp2
          go_quiet (fail)
          go_wp2
          go_roundw
          case rel =>
            refine ⟨j + 1, by omega, by go_num, ?_, below_drewN hbl3 _⟩
            rw [Hps.out]
            exact int_eq (by have := Hp2.out; omega)
          case measure => simp [intOf]; omega
        · obtain rfl : j = L.length := by omega
          have Hnext : Hid (pSum T.rules T.foes (k + 1) = S + pRow T.rules L k L.length) := hid (by rw [pSum_succ, Hgl.out, HS.out])
          clear harr3
          by_cases hbig : 65536 < S + pRow T.rules L k L.length
          · have hgt : (65536 : Int) < ((S + pRow T.rules L k L.length : Nat) : Int) := by omega
            have Hbig : Hid (65536 < pairCount T) := hid (by
              have := pSum_mono (rs := T.rules) (fo := T.foes) (k := k + 1) (n - (k + 1))
              rw [show k + 1 + (n - (k + 1)) = n by omega, Hnext.out] at this
              unfold pairCount; rw [Hn.out]; omega)
            go_wp2
            go_ret
            exact Fin HQ ⟨⟨65537, rfl, fun _ => Hbig.out, fun _ => by decide⟩, ext_trans Hb2.out (ext_trans hbl hbl3)⟩
          · have hgt : ¬ (65536 : Int) < ((S + pRow T.rules L k L.length : Nat) : Int) := by omega
            go_wp2
            go_roundw
            case rel => exact ⟨k + 1, by omega, by go_num, by rw [Hnext.out], by rw [Hnext.out]; omega, ext_trans hbl hbl3⟩
            case measure => simp [intOf]; omega
    · obtain rfl : k = n := by omega
      have Hp : Hid (pairCount T = pSum T.rules T.foes k) := hid (by unfold pairCount; rw [Hn.out])
      generalize pSum T.rules T.foes k = S at *
      go_wp2
      go_ret
      exact Fin HQ ⟨⟨_, rfl, by rw [Hp.out]; omega⟩, ext_trans Hb2.out hbl⟩
end Go.Proofs.Lx

namespace Go.Proofs.Lx
open Go Go.RowKit Go.Proofs.Tj
set_option linter.unusedSimpArgs false
set_option linter.unusedVariables false

theorem countP_lt {α : Type} {p q : α → Bool} : ∀ {l : List α} {x : α}, (∀ y ∈ l, p y = true → q y = true) → x ∈ l → q x = true → p x = false → l.countP p < l.countP q
  | [], x, _, hx, _, _ => by simp at hx
  | y :: l, x, h, hx, h1, h2 => by
    rw [List.countP_cons, List.countP_cons]
    have hle : l.countP p ≤ l.countP q := List.countP_mono_left fun z hz => h z (List.mem_cons_of_mem _ hz)
    by_cases e : x = y
    · subst e
      rw [h1, h2]; simp; omega
    · have hx' : x ∈ l := by simpa [e] using hx
      have ih := countP_lt (fun z hz => h z (List.mem_cons_of_mem _ hz)) hx' h1 h2
      have hy := h y List.mem_cons_self
      cases hp : p y with
      | false => simp; split <;> omega
      | true => rw [hy hp]; simp; omega

section
variable {T : Th} {l : List Int}
theorem row_nat (xs : List (List Int)) (q : Nat) (hq : q < xs.length) : row xs (q : Int) = xs[q] := by simp [row, hq]
theorem mem_heads {q : Nat} {r : Int} (hq : q < T.foes.length) : r ∈ row (rulesRows T.rules T.foes.length T.rules.length) (q : Int) ↔ ∃ i : Nat, i < T.rules.length ∧ r = i ∧ (T.rules.getD i default).head = q := by
  rw [row_nat _ _ (by rw [rulesRows_length]; exact hq), rulesRows_at _ _ _ hq]
  exact mem_rulesUpto
theorem foe_in (hwf : WfTh T) {i : Nat} (hi : i < T.foes.length) {f : Int} (hf : f ∈ T.foes[i]) : ∃ j : Nat, j < T.foes.length ∧ f = j ∧ j ≠ i ∧ (i : Int) ∈ row T.foes (j : Int) := by
  obtain ⟨h1, h2, h3, h4⟩ := foesOk_spec hwf.fo i hi
  obtain ⟨a, ha, e⟩ := List.getElem_of_mem hf
  have hb := (risB_spec h2).1 a ha
  rw [e] at hb
  have hfl := hwf.fl
  refine ⟨f.toNat, by omega, by omega, ?_, ?_⟩
  · intro e2
    apply memB_false.1 h3
    have : (i : Int) = f := by omega
    rw [this]; exact hf
  · have := memB_true.1 (h4 f hf)
    rw [show ((f.toNat : Nat) : Int) = f by omega]
    exact this
open Classical in
theorem no_chain (hwf : WfTh T) (C : Nat → Prop) (hC : ∀ s, C s → s < T.rules.length ∧ ∃ r, C r ∧ r ≠ s ∧ s ∈ adjN (beatsAt T) r) : ∀ N s, ((List.range T.rules.length).countP fun y => decide (Leads (adjN (beatsAt T)) y s)) ≤ N → ¬ C s := by
  intro N
  induction N with
  | zero =>
    intro s hs hc
    obtain ⟨hlt, _⟩ := hC s hc
    have : 0 < (List.range T.rules.length).countP fun y => decide (Leads (adjN (beatsAt T)) y s) := List.countP_pos_iff.2 ⟨s, List.mem_range.2 hlt, by simp [Leads.refl]⟩
    omega
  | succ N ih =>
    intro s hs hc
    obtain ⟨hlt, r, hr, hne, he⟩ := hC s hc
    have hrl := (hC r hr).1
    refine ih r ?_ hr
    have : ((List.range T.rules.length).countP fun y => decide (Leads (adjN (beatsAt T)) y r)) < ((List.range T.rules.length).countP fun y => decide (Leads (adjN (beatsAt T)) y s)) := by
      refine countP_lt (x := s) (fun y _ hy => ?_) (List.mem_range.2 hlt) (by simp [Leads.refl]) ?_
      · rw [decide_eq_true_eq] at hy ⊢
        exact .step hy he
      · rw [decide_eq_false_iff_not]
        intro hsr
        exact hne (hwf.nk r s hrl hlt (Leads.edge he) hsr)
    omega
theorem consist (hwf : WfTh T) {i j : Nat} (hi : i < T.foes.length) (hj : (j : Int) ∈ T.foes[i])
    (h2i : hasM (solveM T l) 2 (i : Int) = true) (h2j : hasM (solveM T l) 2 (j : Int) = true) : hasM (solveM T l) 0 (i : Int) = true ∧ hasM (solveM T l) 0 (j : Int) = true := by
  obtain ⟨j', hjn, e, hne, hij⟩ := foe_in hwf hi hj
  obtain rfl : j = j' := by omega
  have hm := solve_made T l
  have hji : (j : Int) ∈ row T.foes (i : Int) := by rw [row_nat _ _ hi]; exact hj
  have Pi := hm.sup 2 _ (by omega) h2i
  have Pj := hm.sup 2 _ (by omega) h2j
  rw [Int.toNat_natCast, plusP_iff] at Pi Pj
  rcases Pi with Pi | ⟨⟨ri, hri, hsi, hwi⟩, hfi, hai⟩
  · refine ⟨Pi, ?_⟩
    rcases Pj with Pj | ⟨_, hfj, _⟩
    · exact Pj
    · exact absurd ⟨Pi, hfj _ hij⟩ (hm.coh _).1
  · rcases Pj with Pj | ⟨⟨rj, hrj, hsj, hwj⟩, hfj, haj⟩
    · exact absurd ⟨Pj, hfi _ hji⟩ (hm.coh _).1
    · exfalso
      obtain ⟨a, ha, rfl, hah⟩ := (mem_heads hi).1 hri
      refine no_chain hwf (fun s => s < T.rules.length ∧ ((T.rules.getD s default).head = i ∨ (T.rules.getD s default).head = j) ∧ supB T (s : Int) = true ∧ wholeB T (solveM T l) 2 (s : Int) = true) ?_ _ a (Nat.le_refl _) ⟨ha, .inl hah, hsi, hwi⟩
      rintro s ⟨hs, hh, hss, hsw⟩
      refine ⟨hs, ?_⟩
      have edge : ∀ r : Nat, beatsB T (r : Int) (s : Int) = true → s ∈ adjN (beatsAt T) r := by
        intro r hb
        have h1 : (s : Int) ∈ T.beats.getD r [] := memB_true.1 hb
        exact List.mem_map.2 ⟨_, h1, by simp⟩
      rcases hh with hh | hh
      · have hsr := (mem_heads hi).2 ⟨s, hs, rfl, hh⟩
        rcases haj _ hij _ hsr with h | ⟨r, hr, h1, h2, h3⟩
        · exact ((whole_some hm.coh).2 hsw h).elim
        · obtain ⟨b, hb, rfl, hbh⟩ := (mem_heads hjn).1 hr
          exact ⟨b, ⟨hb, .inr hbh, h1, h3⟩, fun e => by subst e; omega, edge _ h2⟩
      · have hsr := (mem_heads hjn).2 ⟨s, hs, rfl, hh⟩
        rcases hai _ hji _ hsr with h | ⟨r, hr, h1, h2, h3⟩
        · exact ((whole_some hm.coh).2 hsw h).elim
        · obtain ⟨b, hb, rfl, hbh⟩ := (mem_heads hi).1 hr
          exact ⟨b, ⟨hb, .inl hbh, h1, h3⟩, fun e => by subst e; omega, edge _ h2⟩
end
end Go.Proofs.Lx

namespace Go.Proofs.Lx
open Go Go.RowKit Go.Proofs.Tj
set_option linter.unusedSimpArgs false
set_option linter.unusedVariables false

/-- Over one edge or more. -/
def Comes (adj : Nat → List Nat) (x y : Nat) : Prop := ∃ z, z ∈ adj x ∧ Leads adj z y
theorem leads_comes {adj : Nat → List Nat} {x y : Nat} (h : Leads adj x y) : x = y ∨ Comes adj x y := by
  induction h with
  | refl => exact .inl rfl
  | @step y z h1 hz ih =>
    right
    rcases ih with rfl | ⟨u, hu, h2⟩
    · exact ⟨z, hz, .refl z⟩
    · exact ⟨u, hu, .step h2 hz⟩
/-- The walk's state: seen, todo (Nat), the one that is being looked at. -/
structure BK (adj : Nat → List Nat) (n r : Nat) (seen : Nat → Bool) (todo : List Nat) : Prop where
  lt : ∀ x ∈ todo, x < n
  td : ∀ x ∈ todo, x = r ∨ seen x = true
  fr : ∀ x, x < n → seen x = true → Comes adj r x
  cl : ∀ x, x < n → (x = r ∨ seen x = true) → x ∉ todo → ∀ y ∈ adj x, y ≠ r ∧ seen y = true
theorem BK.none {adj : Nat → List Nat} {n r : Nat} {seen : Nat → Bool} (h : BK adj n r seen []) (hr : r < n) (hadj : ∀ x, x < n → ∀ y ∈ adj x, y < n) : ¬ Comes adj r r := by
  have key : ∀ x y, Leads adj x y → x < n → seen x = true → y < n ∧ seen y = true := by
    intro x y hl hx hs
    induction hl with
    | refl => exact ⟨hx, hs⟩
    | step h1 hz ih => exact ⟨hadj _ ih.1 _ hz, (h.cl _ ih.1 (.inr ih.2) (by simp) _ hz).2⟩
  rintro ⟨z, hz, hl⟩
  have hzn := hadj r hr z hz
  have hzs := (h.cl r hr (.inl rfl) (by simp) z hz).2
  -- the last step comes from a seen one
  have last : ∀ x y, Leads adj x y → x ≠ y → ∃ u, Leads adj x u ∧ y ∈ adj u := by
    intro x y hl hne
    cases hl with
    | refl => exact absurd rfl hne
    | step h1 h2 => exact ⟨_, h1, h2⟩
  by_cases e : z = r
  · exact (h.cl r hr (.inl rfl) (by simp) z hz).1 e
  · obtain ⟨u, hu, hru⟩ := last z r hl e
    obtain ⟨hun, hus⟩ := key z u hu hzn hzs
    exact (h.cl u hun (.inr hus) (by simp) r hru).1 rfl
def unseen (n : Nat) (seen : Nat → Bool) : Nat := (List.range n).countP fun x => !seen x
theorem unseen_lt {n : Nat} {seen : Nat → Bool} {y : Nat} (hy : y < n) (hs : seen y = false) : unseen n (fun x => if x = y then true else seen x) < unseen n seen := by
  refine countP_lt (x := y) (fun x _ hx => ?_) (List.mem_range.2 hy) (by simp [hs]) (by simp)
  by_cases e : x = y
  · subst e; simp at hx
  · simpa [e] using hx
end Go.Proofs.Lx

namespace Go.Proofs.Lx
open Go Go.RowKit Go.Proofs.Tj
set_option linter.unusedSimpArgs false
set_option linter.unusedVariables false

def adjB (B : List (List Int)) (x : Nat) : List Nat := (B.getD x []).map Int.toNat
structure BKx (adj : Nat → List Nat) (n r : Nat) (seen : Nat → Bool) (todo : List Nat) (x i : Nat) : Prop where
  lt : ∀ x ∈ todo, x < n
  td : ∀ x ∈ todo, x = r ∨ seen x = true
  fr : ∀ x, x < n → seen x = true → Comes adj r x
  cl : ∀ u, u < n → (u = r ∨ seen u = true) → u ∉ todo → u = x ∨ ∀ y ∈ adj u, y ≠ r ∧ seen y = true
  dn : ∀ j, (h : j < (adj x).length) → j < i → (adj x)[j] ≠ r ∧ seen (adj x)[j] = true
theorem BK.start {adj : Nat → List Nat} {n r : Nat} (hr : r < n) : BK adj n r (fun _ => false) [r] :=
  ⟨by simpa using hr, by simp, by simp, fun u _ h1 h2 => absurd (h1.resolve_right (by simp)) (by simpa using h2)⟩
theorem BK.pop {adj : Nat → List Nat} {n r x : Nat} {seen : Nat → Bool} {todo : List Nat} (h : BK adj n r seen (todo ++ [x])) : BKx adj n r seen todo x 0 :=
  ⟨fun u hu => h.lt u (by simp [hu]), fun u hu => h.td u (by simp [hu]), h.fr, fun u hu h1 h2 => by
    by_cases e : u = x
    · exact .inl e
    · exact .inr (h.cl u hu h1 (by simp [h2, e])), fun j _ hj => absurd hj (by omega)⟩
theorem BK.from {adj : Nat → List Nat} {n r x : Nat} {seen : Nat → Bool} {todo : List Nat} (h : BK adj n r seen (todo ++ [x])) : x < n ∧ (x = r ∨ Comes adj r x) :=
  ⟨h.lt x (by simp), (h.td x (by simp)).imp id (h.fr x (h.lt x (by simp)))⟩
theorem comes_step {adj : Nat → List Nat} {r x y : Nat} (h : x = r ∨ Comes adj r x) (hy : y ∈ adj x) : Comes adj r y := by
  rcases h with rfl | ⟨z, hz, hl⟩
  · exact ⟨y, hy, .refl y⟩
  · exact ⟨z, hz, .step hl hy⟩
theorem BKx.skip {adj : Nat → List Nat} {n r x i y : Nat} {seen : Nat → Bool} {todo : List Nat} (h : BKx adj n r seen todo x i) (hi : ∀ h : i < (adj x).length, (adj x)[i] = y) (h1 : y ≠ r) (h2 : seen y = true) : BKx adj n r seen todo x (i + 1) :=
  ⟨h.lt, h.td, h.fr, h.cl, fun j hj hji => by
    by_cases e : j = i
    · subst e; rw [hi hj]; exact ⟨h1, h2⟩
    · exact h.dn j hj (by omega)⟩
theorem BKx.push {adj : Nat → List Nat} {n r x i y : Nat} {seen : Nat → Bool} {todo : List Nat} (h : BKx adj n r seen todo x i) (hx : x = r ∨ Comes adj r x) (hi : ∀ h : i < (adj x).length, (adj x)[i] = y) (hil : i < (adj x).length) (hyn : y < n) (h1 : y ≠ r) :
    BKx adj n r (fun q => if q = y then true else seen q) (todo ++ [y]) x (i + 1) := by
  have hy : y ∈ adj x := by rw [← hi hil]; exact List.getElem_mem _
  have up : ∀ q, seen q = true → (if q = y then true else seen q) = true := fun q h => by split <;> simp [h]
  refine ⟨fun u hu => ?_, fun u hu => ?_, fun u hu hs => ?_, fun u hu hs hn => ?_, fun j hj hji => ?_⟩
  · rcases List.mem_append.1 hu with hu | hu
    · exact h.lt u hu
    · simp at hu; omega
  · rcases List.mem_append.1 hu with hu | hu
    · exact (h.td u hu).imp id (up u)
    · simp at hu; right; simp [hu]
  · by_cases e : u = y
    · rw [e]; exact comes_step hx hy
    · rw [if_neg e] at hs; exact h.fr u hu hs
  · have hny : u ≠ y := fun e => hn (by simp [e])
    rw [if_neg hny] at hs
    refine (h.cl u hu hs (fun hm => hn (by simp [hm]))).imp id fun h2 z hz => ⟨(h2 z hz).1, up z (h2 z hz).2⟩
  · by_cases e : j = i
    · subst e; rw [hi hj]; exact ⟨h1, by simp⟩
    · exact ⟨(h.dn j hj (by omega)).1, up _ (h.dn j hj (by omega)).2⟩
theorem BKx.done {adj : Nat → List Nat} {n r x i : Nat} {seen : Nat → Bool} {todo : List Nat} (h : BKx adj n r seen todo x i) (hi : (adj x).length ≤ i) : BK adj n r seen todo :=
  ⟨h.lt, h.td, h.fr, fun u hu h1 h2 => by
    rcases h.cl u hu h1 h2 with rfl | h3
    · intro y hy
      obtain ⟨j, hj, rfl⟩ := List.getElem_of_mem hy
      exact h.dn j hj (by omega)
    · exact h3⟩

def tabB (n : Nat) (f : Nat → Bool) : List Bool := (List.range n).map f
theorem tabB_set {n : Nat} (f : Nat → Bool) (m : Nat) (v : Bool) : (tabB n f).set m v = tabB n fun q => if q = m then v else f q := by
  apply List.ext_getElem
  · simp [tabB]
  · intro i h1 h2
    rw [List.getElem_set]
    by_cases e : m = i
    · subst e; simp [tabB]
    · rw [if_neg e]; simp [tabB]; intro h; exact absurd h.symm e
abbrev ArrB (w : World) (g n : Nat) (f : Nat → Bool) : Prop := Arr Value.bool 4 w g (tabB n f)
theorem ArrB.at {w : World} {g n : Nat} {f : Nat → Bool} (h : ArrB w g n f) {m : Nat} (hm : m < n) : w.cell? ⟨g, m, none⟩ = some (.bool (f m)) := by
  have := Arr.cell h (i := m) (by simpa [tabB] using hm)
  rwa [show (tabB n f)[m]'(by simpa [tabB] using hm) = f m by simp [tabB]] at this
theorem ArrB.put {w : World} {g n : Nat} {f : Nat → Bool} (h : ArrB w g n f) (m : Nat) (v : Bool) : ArrB (w.setCell ⟨g, m, none⟩ (.bool v)) g n (fun q => if q = m then v else f q) := by
  have := Arr.set h m v
  rwa [tabB_set] at this
theorem ArrB.new (w : World) (n : Nat) : ArrB (w.alloc (.cells (madeCells #[.bool false] n) 4)) w.heap.size n (fun _ => false) := by
  have := made_arr Value.bool false 4 w n
  unfold ArrB
  rwa [show tabB n (fun _ => false) = List.replicate n false by apply List.ext_getElem <;> simp [tabB]]
abbrev intN (R : List Nat) : List Value := R.map fun (q : Nat) => Value.int .i64 (q : Int)

/-- What back keeps in memory. -/
structure KS (w : World) (n : Nat) (seen : Nat → Bool) (todo : List Nat) (v6 : Value) (wr : World) : Prop where
  aS : ArrB wr w.heap.size n seen
  own : wr.ownsRow (w.heap.size + 1) 3 1 v6 todo.length (intN todo)
  old : Below w.heap.size w wr
section
variable {w wr wr' W w3 : World} {n : Nat} {seen : Nat → Bool} {todo : List Nat} {v6 v' : Value} {o : Obj}
theorem KS.ext (h : KS w n seen todo v6 wr) (hb : Below wr.heap.size wr wr') : KS w n seen todo v6 wr' :=
  ⟨Arr.ext h.aS hb, h.own.kept (row := none) ⟨hb.os, hb.tape, hb.output, hb.size, fun k hk _ => hb.block k hk⟩ (by cases v6.ownBlock <;> simp), ext_trans h.old hb⟩
theorem KS.put (h : KS w n seen todo v6 wr) (k : Nat) : KS w n (fun q => if q = k then true else seen q) todo v6 (wr.setCell ⟨w.heap.size, k, none⟩ (.bool true)) :=
  ⟨ArrB.put h.aS k true, h.own.kept (grown_set wr w.heap.size k _) (.inr (fun e => by have := (h.own.lt _ e).1; omega)), h.old.setCell (Nat.le_refl _) _⟩
theorem KS.take (h : KS w n seen todo v6 wr) {k : Nat} (ho : w3.ownsRow (w.heap.size + 1) 3 1 v' (todo ++ [k]).length (intN (todo ++ [k])))
    (hg : (wr.alloc o).grownBy w3 v6.ownBlock) : KS w n seen (todo ++ [k]) v' w3 := by
  have hne : ∀ g, v6.ownBlock = some g → w.heap.size + 1 ≤ g := fun g e => (h.own.lt g e).1
  have hb := lt_of_block h.aS
  have key : ∀ g, g < w.heap.size + 1 → w3.heap[g]? = wr.heap[g]? := fun g hgl => by
    rw [hg.block g (by simp; omega) (fun e => by have := hne g e.symm; omega)]
    exact heap_alloc_old _ _ (by omega)
  refine ⟨(key _ (by omega)).trans h.aS, ho, ?_⟩
  have hsz := hg.size
  rw [World.size_alloc] at hsz
  have := h.old.size
  exact ⟨hg.os.trans h.old.os, hg.tape.trans h.old.tape, hg.output.trans h.old.output, by omega, fun g hgl => (key g (by omega)).trans (h.old.block g hgl)⟩
end

set_option maxRecDepth 100000 in
set_option maxHeartbeats 3200000 in
theorem back12_any (w : World) (v : Value) (B : List (List Int)) (hB : RdLL w v B) (hn : B.length ≤ 4096) (hrg : ∀ l ∈ B, ∀ y ∈ l, 0 ≤ y ∧ y < (B.length : Int)) (r : Nat) (hr0 : r < B.length) :
    Calls Try.prog 136 #[v, .int .i64 (r : Int)] w (Ret fun u w' => (∃ b, u = .bool b ∧ (b = true ↔ Comes (adjB B) r r)) ∧ Below w.heap.size w w') := by
  obtain ⟨A, c, rfl, hc, hb, hr⟩ := hB
  obtain ⟨i0, hi, hz0, hz1, hz2⟩ := info_parts infoI
  have hmk := mkB B.length (by omega) (by omega)
  rw [Int.toNat_natCast] at hmk
  have hbl0 := (ext_alloc w (.cells (madeCells #[.bool false] B.length) 4)).alloc (by simp) (.cells #[.int .i64 (r : Int)] 3)
  have Hst0 : Hid (KS w B.length (fun _ => false) [r] (.slice (some ⟨w.heap.size + 1, 0, none⟩) 1 1) ((w.alloc (.cells (madeCells #[.bool false] B.length) 4)).alloc (.cells #[.int .i64 (r : Int)] 3))) := by
    have h9 := heap_alloc_new (w.alloc (.cells (madeCells #[.bool false] B.length) 4)) (.cells #[.int .i64 (r : Int)] 3)
    rw [World.size_alloc] at h9
    exact hid ⟨Arr.alloc (ArrB.new w B.length) _, ⟨by simp, .inr ⟨w.heap.size + 1, 1, _, rfl, by omega, h9, Nat.le_refl _, by unfold maxLen; omega, rfl, rfl⟩⟩, hbl0⟩
  have Hbk0 : Hid (BK (adjB B) B.length r (fun _ => false) [r]) := hid (BK.start hr0)
  have Hadj : Hid (∀ x, x < B.length → ∀ y ∈ adjB B x, y < B.length) := hid fun x hx y hy => by
    simp only [adjB, List.mem_map, List.getD_eq_getElem?_getD, List.getElem?_eq_getElem hx, Option.getD_some] at hy
    obtain ⟨z, hz, rfl⟩ := hy
    have := hrg _ (List.getElem_mem hx) z hz
    omega
  have Hrg := hid hrg
  have Hr0 := hid hr0
  generalize hL : B.length = n at *
  have HL := hid hL
  clear hL hbl0 hrg
  refine post_gen fun Q HQ => ?_
  go_enter Try.func136, Try.ntmps136
  go_wp2
  go_loopg [6] (2 * n + 1) (fun g v6 wr => ∃ seen todo A6 c6, v6 = .slice A6 todo.length c6 ∧ KS w n seen todo v6 wr ∧ Hid (BK (adjB B) n r seen todo) ∧ 2 * unseen n seen + todo.length ≤ g ∧ 2 * unseen n seen + todo.length ≤ 2 * n + 1)
  case atStart =>
    refine ⟨_, _, _, _, rfl, Hst0.out, Hbk0, ?_⟩
    have : unseen n (fun _ => false) ≤ n := by
      have := List.countP_le_length (p := fun x => !(fun _ : Nat => false) x) (l := List.range n)
      rw [List.length_range] at this; exact this
    simp; omega
  case round =>
    clear Hst0 Hbk0
    obtain ⟨seen, todo, A6, c6, rfl, hks, hbk, hmu, hmw⟩ := hrel
    by_cases hw0 : todo = []
    · subst hw0
      have Hno : Hid (¬ Comes (adjB B) r r) := hid (hbk.out.none (by omega) Hadj.out)
      have Ho := hid hks.old
      clear hks
      go_wp2
      go_ret
      exact Fin HQ ⟨⟨false, rfl, by simpa using Hno.out⟩, Ho.out⟩
    · obtain ⟨td, x, rfl⟩ : ∃ td x, todo = td ++ [x] := ⟨_, _, (List.dropLast_concat_getLast hw0).symm⟩
      obtain ⟨hxn, hxc⟩ := hbk.out.from
      have Hxc := hid hxc
      have hbx := hid hbk.out.pop
      have hxB : x < B.length := by rw [HL.out]; exact hxn
      obtain ⟨g7, cap', e, hg7, hcx⟩ := own_at hks.own (i := td.length) (by simp) (by simp)
      cases e
      rw [show (intN (td ++ [x]))[td.length]'(by simp) = .int .i64 (x : Int) by simp] at hcx
      obtain ⟨adB, C, cC, rfl, p0, h1, h2, hrow⟩ := hr.atRow hxB
      have Hrow : Hid (adjB B x = (B[x]).map Int.toNat) := hid (by simp [adjB, hxB])
      have Hrow2 : Hid (∀ y ∈ B[x], 0 ≤ y ∧ y < (n : Int)) := hid (by have := Hrg.out _ (List.getElem_mem hxB); exact this)
      generalize B[x] = row at *
      obtain ⟨wo, rfl⟩ : ∃ wo : World, wo = wr := ⟨_, rfl⟩
      have e1 : (td ++ [x]).length = td.length + 1 := by simp
      rw [e1]
      have hks1 : ∀ W, Below wo.heap.size wo W → KS w n seen td (.slice (some ⟨g7, 0, none⟩) td.length c6) W := fun W hW => by
        have h9 := hks.ext hW
        refine ⟨h9.aS, ?_, h9.old⟩
        have h8 := h9.own
        rw [e1, intN, List.map_append] at h8
        exact ownsRow_pop (by rw [List.length_map, Nat.mul_one]) h8
      have Hks1 := hid (hks1 wo (ext_refl _))
      have hc7 : td.length + 1 ≤ c6 := by
        rcases hks.own.2 with ⟨e, _⟩ | ⟨g, cp, cur, e, _, _, h, _⟩
        · cases e
        · simp only [Value.slice.injEq] at e
          simp at h; omega
      have hc8 : ¬ c6 = 0 := by omega
      have hmu2 : 2 * unseen n seen + td.length + 1 ≤ gk := by rw [e1] at hmu; omega
      have Hmu := hid hmu2
      have htl : 2 * unseen n seen + td.length ≤ 2 * n + 1 := by rw [e1] at hmw; omega
      have Htl := hid htl
      have htb : td.length ≤ 9000 := by omega
      obtain ⟨g0, rfl⟩ : ∃ g0 : Nat, g0 = gk := ⟨_, rfl⟩
      have hlb := lt_of_block hks.aS
      have hcs1 := hks.old
      clear hks hks1 hw0 hxc hmu hmw hmu2 hbk e1 hxB htl
      go_wp2
      go_loopg [8, 6] row.length (fun g v8 v6 wr => ∃ i seen todo A6 c6, i + g = row.length ∧ v8 = .int .i64 (i : Nat) ∧ v6 = .slice A6 todo.length c6 ∧ KS w n seen todo v6 wr ∧ Hid (BKx (adjB B) n r seen todo x i) ∧ 2 * unseen n seen + todo.length + 1 ≤ g0 ∧ 2 * unseen n seen + todo.length ≤ 2 * n + 1)
      case atStart => exact ⟨0, _, _, _, _, by omega, rfl, rfl, Hks1.out, hbx, Hmu.out, Htl.out⟩
      case round =>
        clear Hks1 hbx Hmu Htl hcx hcs1 hlb
        obtain ⟨i, seen, todo, A6, c6, hig, rfl, rfl, hks, hbx, hmu, hmw⟩ := hrel
        have htb : todo.length ≤ 9000 := by omega
        have hlb := lt_of_block hks.aS
        have p1 := cell_ext hks.old p0
        by_cases hlt : i < row.length
        · obtain ⟨ad2, rfl, hcell⟩ := (hrow.ext (scR_mono _) hks.old).at1 hlt
          have hyr := Hrow2.out _ (List.getElem_mem hlt)
          obtain ⟨y, hy⟩ := Int.eq_ofNat_of_zero_le hyr.1
          have Hiy : Hid (i < (adjB B x).length ∧ ∀ h : i < (adjB B x).length, (adjB B x)[i] = y) := hid (by
            rw [Hrow.out]; exact ⟨by simpa using hlt, fun h => by simp [hy]⟩)
          rw [hy] at hcell hyr
          have hyn : y < n := by omega
          by_cases hyr2 : y = r
          · subst hyr2
            have Hyes : Hid (Comes (adjB B) y y) := hid (comes_step Hxc.out (by rw [← Hiy.out.2 Hiy.out.1]; exact List.getElem_mem _))
            have Ho := hid hks.old
            clear hks hy
            go_wp2
            go_ret
            exact Fin HQ ⟨⟨true, rfl, by simpa using Hyes.out⟩, Ho.out⟩
          · have hyi : ¬ ((y : Int) = (r : Int)) := by omega
            have Hyr := hid hyr2
            have cS := hks.aS.at hyn
            have fS := Arr.free hks.aS y
            clear hyr2 hy
            cases hs : seen y with
            | true =>
              rw [hs] at cS
              have Hb := hid (hbx.out.skip Hiy.out.2 Hyr.out hs)
              clear hs
              go_wp2
              go_roundg (gk - 1)
              case measure => omega
              case rel => exact ⟨i + 1, seen, todo, A6, c6, by omega, by go_num, rfl, hks, Hb, hmu, hmw⟩
            | false =>
              rw [hs] at cS
              have Hb := hid (hbx.out.push Hxc.out Hiy.out.2 Hiy.out.1 hyn Hyr.out)
              have hun := unseen_lt hyn hs
              have Hks2 := hid (hks.put y)
              have Hown := hid Hks2.out.own
              have Hnew : Hid (∀ j u, [Value.int .i64 (y : Int)][j]? = some u → ((wr.setCell ⟨w.heap.size, y, none⟩ (.bool true)).alloc (.cells #[.int .i64 (y : Int)] 3)).cell? ((⟨wr.heap.size, 0, none⟩ : Addr).add j) = some u) := hid (by
                have h9 := cell_one_new (wr.setCell ⟨w.heap.size, y, none⟩ (.bool true)) (.int .i64 (y : Int)) 3
                simpa only [World.size_setCell] using h9)
              have Hun := hid hun
              clear hs hks hun
              go_wp2_with (at_builtin; refine wpList_append_own _ rfl _ _ 26 rfl (w.heap.size + 1) 3 i0 (.int .i64 0) 1 8 Try.underlying26 hi hz0 hz1 hz2 rfl (by decide) _ todo.length _ rfl (Hown.out.alloc _) ⟨wr.heap.size, 0, none⟩ 1 1 [.int .i64 (y : Int)] rfl rfl (Hnew.out) (fun u hu => by simp at hu; subst hu; rfl) (by unfold maxLen; omega) (by omega) (by simp; omega) ?_; intro v' w3 hown3 hgrow3 hnil3)
              go_roundg (gk - 1)
              case measure => omega
              case rel =>
                have ho : w3.ownsRow (w.heap.size + 1) 3 1 v' (todo ++ [y]).length (intN (todo ++ [y])) := by
                  rw [List.length_append, List.length_singleton, intN, List.map_append]
                  exact hown3
                have hv' : ∃ A c, v' = .slice A (todo ++ [y]).length c := by
                  rcases ho.2 with ⟨h1, h2⟩ | ⟨gg, cp, cur, h1, h2, h3, h4, h5, h6, h7⟩
                  · exact ⟨_, _, by rw [h1, h2]⟩
                  · exact ⟨_, _, h1⟩
                obtain ⟨A8, c8, hv8⟩ := hv'
                refine ⟨i + 1, _, _, A8, c8, by omega, by go_num, hv8, Hks2.out.take ho hgrow3, Hb, ?_, ?_⟩
                · have := Hun.out; rw [List.length_append, List.length_singleton]; omega
                · have := Hun.out; rw [List.length_append, List.length_singleton]; omega
        · have Hb := hid (hbx.out.done (by rw [Hrow.out, List.length_map]; omega))
          go_wp2
          go_roundg (g0 - 1)
          case measure => omega
          case rel => exact ⟨seen, todo, A6, c6, rfl, hks, Hb, by omega, hmw⟩
end Go.Proofs.Lx
