/- Parts of the proof: Cc, Cd, Mi. Contracts of theory.foes, rule, CheckFacts. -/
import Derived.Test.YtalhpldbhogadaaGreatO2
import Derived.Test.YtalhpldbhogadaaGreatO1
import Derived.Deep.RegionHeld3
namespace Go.Proofs.Lx
open Go Go.RowKit
set_option linter.unusedSimpArgs false
set_option linter.unusedVariables false

theorem risB_spec {l : List Int} {n : Int} (h : risB l n = true) : (∀ i (hi : i < l.length), 0 ≤ l[i] ∧ l[i] < n) ∧ l.Pairwise (· < ·) := by
 rw [risB_true] at h
 constructor
 ·intro i hi
  have := h i hi
  simp [risOk, hi] at this
  omega
 ·rw [List.pairwise_iff_getElem]
  intro i j hi hj hij
  induction j with
  | zero => omega
  | succ j ih =>
   have := h (j + 1) hj
   simp [risOk, hj, show j < l.length by omega] at this
   by_cases e : i = j
   ·subst e; omega
   ·have := ih (by omega) (by omega); omega
theorem risB_of {l : List Int} {n : Int} (h : ∀ i (hi : i < l.length), 0 ≤ l[i] ∧ l[i] < n) (hp : l.Pairwise (· < ·)) : risB l n = true := by
 rw [risB_true]
 intro i hi
 have h1 := h i hi
 simp only [risOk, List.getD_eq_getElem?_getD, List.getElem?_eq_getElem hi, Option.getD_some, Bool.and_eq_true, decide_eq_true_eq, Bool.or_eq_true]
 refine ⟨h1, ?_⟩
 by_cases e : i = 0
 ·exact .inl e
 ·right
  rw [List.getElem?_eq_getElem (show i - 1 < l.length by omega), Option.getD_some]
  exact pw_lt hp (by omega) hi

def row (t : List (List Int)) (i : Int) : List Int := t.getD i.toNat []
theorem row_at {t : List (List Int)} {i : Int} (h0 : 0 ≤ i) (h : i < t.length) : row t i = t[i.toNat] := by
 simp [row, show i.toNat < t.length by omega]
def foesOk (T : Th) (q : Nat) : Bool := decide ((T.foes.getD q []).length ≤ 64) && risB (T.foes.getD q []) T.lits && !memB (T.foes.getD q []) q && (T.foes.getD q []).all fun f => memB (row T.foes f) q
def foesAll (T : Th) : Bool := (List.range T.foes.length).all (foesOk T)
theorem foesAll_true {T : Th} : foesAll T = true ↔ ∀ q, q < T.foes.length → foesOk T q = true := by simp [foesAll]
theorem foesAll_false {T : Th} {q : Nat} (h : q < T.foes.length) (hf : foesOk T q = false) : foesAll T = false := by
 rw [Bool.eq_false_iff]; intro ht
 rw [foesAll_true.1 ht q h] at hf; cases hf

set_option maxHeartbeats 800000 in
theorem foes_any (w : World) (V : Value) (T : Th) (hT : RdTh w V T) (hl : (T.foes.length : Int) = T.lits) :
  Calls Tryz.prog 81 #[V] w (Ret fun v w' => (∃ r : Int, v = .int .i64 r ∧ (r < 0 ↔ foesAll T = true)) ∧ Below w.heap.size w w') := by
 obtain ⟨vF, vR, vB, rfl, ⟨A, c, rfl, hc, hb, hr⟩, _, _⟩ := hT
 have hbel := ext_alloc w (.cells #[.int .i64 T.lits, .slice A T.foes.length c, vR, vB] 25)
 have hr1 := hr.ext llR_mono hbel
 have Hl := hid hl
 clear hr hl
 refine post_gen fun Q HQ => ?_
 go_enter Tryz.func81, Tryz.ntmps81
 go_wp2
 go_loop [10] (fun v10 => ∃ k : Nat, k ≤ T.foes.length ∧ v10 = .int .i64 k ∧ Hid (∀ i, i < k → foesOk T i = true)) (fun v10 => T.foes.length - (intOf v10).toNat)
 case atStart => exact ⟨0, Nat.zero_le _, rfl, fun i hk => absurd hk (by omega)⟩
 case round =>
  obtain ⟨k, hk, rfl, hno⟩ := hrel
  by_cases hlt : k < T.foes.length
  ·obtain ⟨ad, B, cB, rfl, hcell, hcB, hbB, hrB⟩ := hr1.atRow hlt
   have Hg : Hid (T.foes.getD k [] = T.foes[k]) := by simp [Hid, hlt]
   have Hbad : ∀ r : Int, 0 ≤ r → foesOk T k = false → ∃ r', Value.int .i64 r = .int .i64 r' ∧ (r' < 0 ↔ foesAll T = true) := fun r h0 hf => ⟨r, rfl, by rw [foesAll_false hlt hf]; simp; omega⟩
   have Hbad := hid Hbad
   generalize hL : T.foes[k] = L at *
   have HL := hid hL
   clear hL
   by_cases h64 : 64 < L.length
   ·go_wp2_with fail
    go_ret
    exact Fin HQ ⟨Hbad.out k (by omega) (by simp only [foesOk, Hg.out]; rw [decide_eq_false (by omega)]; simp), hbel⟩
   ·have hRL : RdI (w.alloc (.cells #[.int .i64 T.lits, .slice (some ad) T.foes.length c, vR, vB] 25)) (.slice B L.length cB) L := ⟨B, cB, rfl, hcB, hbB, hrB⟩
    cases hris : risB L T.lits with
    | false =>
     have Hris := hid hris
     go_wp2_with (go_at_call 86; refine (rising_any _ _ _ _ hRL).mono ?_; rintro e w' ⟨_, rfl, rfl, rfl⟩)
     go_ret
     exact Fin HQ ⟨Hbad.out k (by omega) (by simp only [foesOk, Hg.out]; rw [Hris.out]; simp), hbel⟩
    | true =>
     have Hris := hid hris
     have Hsp := hid (risB_spec hris)
     cases hmem : memB L k with
     | true =>
      have Hmem := hid hmem
      go_wp2_with (first
       | (go_at_call 86; refine (rising_any _ _ _ _ hRL).mono ?_; rintro e w' ⟨_, rfl, rfl, rfl⟩)
       | (go_at_call 97; refine (has_any _ _ _ _ hRL Hsp.out.2).mono ?_; rintro e w' ⟨_, rfl, rfl, rfl⟩))
      go_ret
      exact Fin HQ ⟨Hbad.out k (by omega) (by simp only [foesOk, Hg.out]; rw [Hmem.out]; simp), hbel⟩
     | false =>
      have Hmem := hid hmem
      go_wp2_with (first
       | (go_at_call 86; refine (rising_any _ _ _ _ hRL).mono ?_; rintro e w' ⟨_, rfl, rfl, rfl⟩)
       | (go_at_call 97; refine (has_any _ _ _ _ hRL Hsp.out.2).mono ?_; rintro e w' ⟨_, rfl, rfl, rfl⟩))
      clear hris hmem
      go_loop [33] (fun v33 => ∃ j : Nat, j ≤ L.length ∧ v33 = .int .i64 j ∧ Hid (∀ i (h : i < L.length), i < j → memB (row T.foes L[i]) k = true)) (fun v33 => L.length - (intOf v33).toNat)
      case atStart => exact ⟨0, Nat.zero_le _, rfl, fun i h hk => absurd hk (by omega)⟩
      case round =>
       obtain ⟨j, hj, rfl, hin⟩ := hrel
       by_cases hjl : j < L.length
       ·obtain ⟨adb, rfl, hcj⟩ := hrB.at1 hjl
        have hrange := Hsp.out.1 j hjl
        have hfl : L[j].toNat < T.foes.length := by have := Hl.out; omega
        obtain ⟨ad2, C2, c2, e2, hcell2, hc2, hb2, hr2⟩ := hr1.atRow hfl
        cases e2
        have Hrow : Hid (T.foes[L[j].toNat] = row T.foes L[j]) := (row_at hrange.1 (by have := Hl.out; omega)).symm
        have h3 : L[j] < T.foes.length := by have := Hl.out; omega
        have hR2 : RdI (w.alloc (.cells #[.int .i64 T.lits, .slice (some ad) T.foes.length c, vR, vB] 25)) (.slice C2 T.foes[L[j].toNat].length c2) T.foes[L[j].toNat] := ⟨C2, c2, rfl, hc2, hb2, hr2⟩
        generalize hX : L[j] = X at *
        have HX := hid hX
        clear hX
        generalize hY : T.foes[X.toNat] = Y at *
        have HY := hid hY
        clear hY
        cases hm2 : memB Y k with
        | false =>
         have Hm2 := hid hm2
         go_wp2_with (go_at_call 98; refine (contains_any _ _ _ _ hR2).mono ?_; rintro e w' ⟨_, rfl, rfl, rfl⟩)
         go_ret
         refine Fin HQ ⟨Hbad.out k (by omega) ?_, hbel⟩
         simp only [foesOk, Hg.out]
         rw [show (L.all fun f => memB (row T.foes f) k) = false from by
          rw [List.all_eq_false]; exact ⟨L[j], List.getElem_mem hjl, by rw [HX.out, ← Hrow.out, Hm2.out]; simp⟩]
         simp
        | true =>
         have Hm2 := hid hm2
         go_wp2_with (go_at_call 98; refine (contains_any _ _ _ _ hR2).mono ?_; rintro e w' ⟨_, rfl, rfl, rfl⟩)
         go_round
         case rel =>
          refine ⟨j + 1, by omega, by go_num, fun i h hi => ?_⟩
          by_cases e : i = j
          ·subst e; rw [HX.out, ← Hrow.out, Hm2.out]
          ·exact hin.out i h (by omega)
         case measure => simp [intOf]; omega
       ·go_wp2
        go_round
        case rel =>
         refine ⟨k + 1, by omega, by go_num, fun i hi => ?_⟩
         by_cases e : i = k
         ·subst e
          simp only [foesOk, Hg.out, Hris.out, Hmem.out]
          simp only [decide_eq_true (show L.length ≤ 64 by omega), Bool.not_false, Bool.and_self, Bool.true_and]
          rw [List.all_eq_true]
          intro f hf
          obtain ⟨t, ht, rfl⟩ := List.getElem_of_mem hf
          exact hin.out t ht (by omega)
         ·exact hno.out i (by omega)
        case measure => simp [intOf]; omega
  ·go_wp2
   go_ret
   exact Fin HQ ⟨⟨-1, rfl, by simp only [show ((-1 : Int) < 0) by decide, true_iff]; exact foesAll_true.2 fun q hq => hno.out q (by omega)⟩, hbel⟩
end Go.Proofs.Lx

namespace Go.Proofs.Lx
open Go Go.RowKit
set_option linter.unusedSimpArgs false
set_option linter.unusedVariables false

theorem infoI : (Tryz.prog.info? 3).map (fun i => (i.zero, i.size, i.bytes)) = some (some (.int .i64 0), 1, 8) := by kernel_rfl
theorem infoB : (Tryz.prog.info? 4).map (fun i => (i.zero, i.size, i.bytes)) = some (some (.bool false), 1, 1) := by kernel_rfl
theorem infoM : (Tryz.prog.info? 77).map (fun i => (i.zero, i.size, i.bytes)) = some (some (.int .u8 0), 1, 1) := by kernel_rfl
theorem infoL : (Tryz.prog.info? 26).map (fun i => (i.zero, i.size, i.bytes)) = some (some (.slice none 0 0), 1, 24) := by kernel_rfl
section
variable (n : Int) (h0 : 0 ≤ n) (hn : n ≤ 140737488355)
include h0 hn
theorem mkI : ∀ W : World, (Instr.makeSlice 26 (.int .i64 n) (.int .i64 n)).run Tryz.prog W = .ok (.slice (some ⟨W.heap.size, 0, none⟩) n.toNat n.toNat) (W.alloc (.cells (madeCells #[.int .i64 0] n.toNat) 3)) := by
 intro W; obtain ⟨m, rfl⟩ := Int.eq_ofNat_of_zero_le h0
 exact run_make_row' _ _ _ 8 Tryz.underlying26 infoI rfl .i64 .i64 m (by omega) (by omega) W
theorem mkB : ∀ W : World, (Instr.makeSlice 81 (.int .i64 n) (.int .i64 n)).run Tryz.prog W = .ok (.slice (some ⟨W.heap.size, 0, none⟩) n.toNat n.toNat) (W.alloc (.cells (madeCells #[.bool false] n.toNat) 4)) := by
 intro W; obtain ⟨m, rfl⟩ := Int.eq_ofNat_of_zero_le h0
 exact run_make_row' _ _ _ 1 Tryz.underlying81 infoB rfl .i64 .i64 m (by omega) (by omega) W
theorem mkM : ∀ W : World, (Instr.makeSlice 53 (.int .i64 n) (.int .i64 n)).run Tryz.prog W = .ok (.slice (some ⟨W.heap.size, 0, none⟩) n.toNat n.toNat) (W.alloc (.cells (madeCells #[.int .u8 0] n.toNat) 77)) := by
 intro W; obtain ⟨m, rfl⟩ := Int.eq_ofNat_of_zero_le h0
 exact run_make_row' _ _ _ 1 Tryz.underlying53 infoM rfl .i64 .i64 m (by omega) (by omega) W
theorem mkL : ∀ W : World, (Instr.makeSlice 22 (.int .i64 n) (.int .i64 n)).run Tryz.prog W = .ok (.slice (some ⟨W.heap.size, 0, none⟩) n.toNat n.toNat) (W.alloc (.cells (madeCells #[.slice none 0 0] n.toNat) 26)) := by
 intro W; obtain ⟨m, rfl⟩ := Int.eq_ofNat_of_zero_le h0
 exact run_make_row' _ _ _ 24 Tryz.underlying22 infoL rfl .i64 .i64 m (by omega) (by omega) W
end

theorem checkFacts_any (w : World) (V v : Value) (T : Th) (l : List Int) (hT : RdTh w V T) (hv : RdI w v l) :
  Calls Tryz.prog 48 #[V, v] w (Ret fun v w' => v = .int .i64 (bif risB l T.lits then 0 else 181) ∧ Below w.heap.size w w') := by
 obtain ⟨vF, vR, vB, rfl, _, _, _⟩ := hT
 have hbel := ext_alloc w (.cells #[.int .i64 T.lits, vF, vR, vB] 25)
 have hv1 := hv.ext (scR_mono _) hbel
 refine post_gen fun Q HQ => ?_
 cases hr : risB l T.lits with
 | false =>
  have Hr := hid hr
  go_enter Tryz.func48, Tryz.ntmps48
  go_wp2_with (go_at_call 86; refine (rising_any _ _ _ _ hv1).mono ?_; rintro e w' ⟨_, rfl, rfl, rfl⟩)
  go_ret
  exact Fin HQ ⟨by rw [Hr.out]; rfl, hbel⟩
 | true =>
  have Hr := hid hr
  go_enter Tryz.func48, Tryz.ntmps48
  go_wp2_with (go_at_call 86; refine (rising_any _ _ _ _ hv1).mono ?_; rintro e w' ⟨_, rfl, rfl, rfl⟩)
  go_ret
  exact Fin HQ ⟨by rw [Hr.out]; rfl, hbel⟩

def RdRule (w : World) (v : Value) (r : Rule) : Prop := ∃ u, v = .agg #[.int .i64 r.kind, .int .i64 r.head, u] ∧ RdI w u r.body
def ruleOk (lits : Int) (r : Rule) : Bool := decide (1 ≤ r.kind) && decide (r.kind ≤ 3) && decide (0 ≤ r.head) && decide (r.head < lits) && decide (r.body.length ≤ 16) && risB r.body lits

set_option maxHeartbeats 800000 in
theorem rule_any (w : World) (V v : Value) (T : Th) (r : Rule) (hT : RdTh w V T) (hv : RdRule w v r) :
  Calls Tryz.prog 82 #[V, v] w (Ret fun v w' => v = .bool (ruleOk T.lits r) ∧ Below w.heap.size w w') := by
 obtain ⟨vF, vR, vB, rfl, _, _, _⟩ := hT
 obtain ⟨u, rfl, B, cB, rfl, hcB, hbB, hrB⟩ := hv
 have hbel := ext_alloc w (.cells #[.int .i64 T.lits, vF, vR, vB] 25)
 have hbel2 := ext_alloc (w.alloc (.cells #[.int .i64 T.lits, vF, vR, vB] 25)) (.cells #[.int .i64 r.kind, .int .i64 r.head, .slice B r.body.length cB] 75)
 have hbe := ext_trans hbel hbel2
 have hv1 : RdI ((w.alloc (.cells #[.int .i64 T.lits, vF, vR, vB] 25)).alloc (.cells #[.int .i64 r.kind, .int .i64 r.head, .slice B r.body.length cB] 75)) (.slice B r.body.length cB) r.body := ⟨B, cB, rfl, hcB, hbB, hrB.ext (scR_mono _) hbe⟩
 refine post_gen fun Q HQ => ?_
 by_cases h1 : 1 ≤ r.kind ∧ r.kind ≤ 3 ∧ 0 ≤ r.head ∧ r.head < T.lits ∧ r.body.length ≤ 16
 ·obtain ⟨a1, a2, a3, a4, a5⟩ := h1
  have Hok : Hid (ruleOk T.lits r = risB r.body T.lits) := by simp [Hid, ruleOk, a1, a2, a3, a4, a5]
  cases hr : risB r.body T.lits with
  | false =>
   have Hr := hid hr
   go_enter Tryz.func82, Tryz.ntmps82
   go_wp2_with (go_at_call 86; refine (rising_any _ _ _ _ hv1).mono ?_; rintro e w' ⟨_, rfl, rfl, rfl⟩)
   go_ret
   exact Fin HQ ⟨by rw [Hok.out, Hr.out]; rfl, hbe⟩
  | true =>
   have Hr := hid hr
   go_enter Tryz.func82, Tryz.ntmps82
   go_wp2_with (go_at_call 86; refine (rising_any _ _ _ _ hv1).mono ?_; rintro e w' ⟨_, rfl, rfl, rfl⟩)
   go_ret
   exact Fin HQ ⟨by rw [Hok.out, Hr.out]; rfl, hbe⟩
 ·have Hok : Hid (ruleOk T.lits r = false) := by
   simp only [Hid, ruleOk]
   rw [Bool.eq_false_iff]; intro h
   simp at h
   omega
  go_enter Tryz.func82, Tryz.ntmps82
  go_wp2_with (go_at_call 86; refine (rising_any _ _ _ _ hv1).mono ?_; rintro e w' ⟨_, rfl, rfl, rfl⟩)
  all_goals (go_ret; exact Fin HQ ⟨by rw [Hok.out]; rfl, hbe⟩)
end Go.Proofs.Lx

namespace Go.Proofs.Lx
open Go Go.RowKit
set_option linter.unusedVariables false
set_option linter.unusedSimpArgs false
theorem infoapIE : (Tryz.prog.info? 3).map (fun i => (i.zero, i.size, i.bytes)) = some (some (.int .i64 0), 1, 8) := by kernel_rfl
theorem infoapIL : (Tryz.prog.info? 26).map (fun i => (i.zero, i.size, i.bytes)) = some (some (.slice none 0 0), 1, 24) := by kernel_rfl
def mkapI (i k : Nat) : Int := -1 - 100003 * ((i : Int) + 1) - 7 * (k : Int)
def mcapI (i k : Nat) (_ : Nat) : Value := .int .i64 (mkapI i k)
theorem markapI (w : World) (i k : Nat) (hi : i ≤ 1000) (hk : k ≤ 80000) :
  Calls Tryz.prog 58 #[.int .i64 (i : Int), .int .i64 (k : Int)] w (Ret fun v w' => v = .int .i64 (mkapI i k) ∧ Below w.heap.size w w') := by
 unfold mkapI
 refine post_gen fun Q HQ => ?_
 go_enter Tryz.func58, Tryz.ntmps58
 go_wp2
 go_ret
 exact Fin HQ ⟨by first | rfl | (congr 1; omega) | (congr 1; go_num), ext_refl _⟩
theorem own_atapI {w : World} {lb m : Nat} {v : Value} {xs : List Value} (h : w.ownsRow lb 26 1 v m xs) {i : Nat} {u : Value} (hu : xs[i]? = some u) : ∃ gl cap, v = .slice (some ⟨gl, 0, none⟩) m cap ∧ w.cell? ⟨gl, i, none⟩ = some u := by
 rcases h.2 with ⟨h1, h2⟩ | ⟨gg, cp, cur, h1, h2, h3, h4, h5, h6, h7⟩
 ·have h3 := h.1
  rw [h2] at h3
  have := (List.getElem?_eq_some_iff.1 hu).1
  omega
 ·have := h.cells (g := gg) (by rw [h1]; rfl) i u hu
  rw [add_plain] at this
  exact ⟨gg, cp, h1, this⟩
theorem own_frmapI {w : World} {base e size n : Nat} {v : Value} {xs : List Value} (h : w.ownsRow base e size v n xs) : ∃ A c, v = .slice A n c := by
 rcases h.2 with ⟨h1, h2⟩ | ⟨g, cap, cur, h1, _⟩
 ·exact ⟨none, 0, by rw [h1, h2]⟩
 ·exact ⟨_, cap, h1⟩
theorem own_frsapI {w : World} {base e size n : Nat} {v : Value} {xs : List Value} (h : w.ownsRow base e size v (n + 1) xs) : ∃ g c, v = .slice (some ⟨g, 0, none⟩) (n + 1) c := by
 rcases h.2 with ⟨_, h2⟩ | ⟨g, cap, cur, h1, _⟩
 ·omega
 ·exact ⟨g, cap, h1⟩
set_option maxRecDepth 100000 in
set_option maxHeartbeats 3200000 in
theorem apI_any (w : World) (b lb base N : Nat) (G n c : Nat → Nat) (x : Nat → List Value) (v : Value) (bk : Array Value) (hbox : w.heap[b]? = some (.cells bk 52 (0, 0))) (hv : bk[1]? = some v)
  (hl : w.ownsRow lb 26 1 v N (listV N G n c)) (hk : Bk w base 3 1 N G n c x) (hN : N ≤ 1000) :
  Calls Tryz.prog 24 #[.pointer (some ⟨b, 0, none⟩)] w (Ret fun r w' => r = .bool true ∧ Chg w w' N G) := by
 obtain ⟨A, cv, rfl⟩ := own_frmapI hl
 have hc0 : w.cell? ⟨b, 1, none⟩ = some (.slice A N cv) := by rw [cell_of_row w b _ _ _ _ hbox]; exact hv
 have Hmk := hid markapI
 have Hl := hid hl
 have Hk0 := hid hk
 obtain ⟨i0, hi0, hz0, hz1, hz2⟩ := info_parts infoapIE
 obtain ⟨i1, hi1, hy0, hy1, hy2⟩ := info_parts infoapIL
 have hne : 3 ≠ 26 := by decide
 clear hl hk hbox hv
 refine post_gen fun Q HQ => ?_
 go_enter Tryz.func24, Tryz.ntmps24
 go_wp2_with fail
 clear hc0
 go_loopw [4] (fun v4 wr => ∃ (i : Nat) (y : Nat → List Value), i ≤ N ∧ v4 = .int .i64 (i : Int) ∧ Bk wr base 3 1 N G n c y ∧ (∀ j, j < i → PW 1 mcapI (y j) j (n j)) ∧ Chg w wr N G) (fun v4 _ => N - (intOf v4).toNat)
 case atStart => exact ⟨0, x, Nat.zero_le _, rfl, Hk0.out, fun j hj => by omega, Chg.refl _ _ _⟩
 case round =>
  obtain ⟨i, y, hi, rfl, hbk, hpw, hch⟩ := hrel
  by_cases hiN : i < N
  ·obtain ⟨gl, cap', e9, hcell⟩ := own_atapI (own_other Hk0.out Hl.out hne hch) (listV_at hiN)
   cases e9
   unfold rowV at hcell
   have Hbk := hid hbk
   have Hpw := hid hpw
   have Hch := hid hch
   clear hbk hpw hch
   go_wp2_with fail
   clear hcell
   go_loopw [5] (fun v5 wr => ∃ (k : Nat) (y : Nat → List Value), k ≤ n i ∧ v5 = .int .i64 (k : Int) ∧ Bk wr base 3 1 N G n c y ∧ (∀ j, j < i → PW 1 mcapI (y j) j (n j)) ∧ PW 1 mcapI (y i) i k ∧ Chg w wr N G) (fun v5 _ => n i - (intOf v5).toNat)
   case atStart => exact ⟨0, y, Nat.zero_le _, rfl, Hbk.out, Hpw.out, fun k hk => by omega, Hch.out⟩
   case round =>
    clear Hbk Hpw Hch
    obtain ⟨k, y, hk, rfl, hbk, hpw, hpk, hch⟩ := hrel
    obtain ⟨gl2, cap2, e9, hcell⟩ := own_atapI (own_other Hk0.out Hl.out hne hch) (listV_at hiN)
    cases e9
    unfold rowV at hcell
    obtain ⟨hn0, hn1⟩ := hbk.pos i hiN
    by_cases hkn : k < n i
    ·have ho := hbk.own i hiN
     unfold rowV at ho
     obtain ⟨cur, hcur, _, hnc, hcx⟩ := row_block ho
     have hlen : (y i).length = n i := by have := ho.1; omega
     have hcq := hcx k _ (List.getElem?_eq_getElem (by omega : k < (y i).length))
     have hgG : gl ≠ G i := fun e9 => by
      obtain ⟨g9, c9, e10, hc9⟩ := own_atapI (own_other Hk0.out Hl.out hne hch) (listV_at hiN)
      have hcc := own_other Hk0.out Hl.out hne hch
      rcases hcc.2 with ⟨h1, h2⟩ | ⟨gg, cp, cu, h1, h2, h3, _⟩
      ·cases h1
      ·cases h1
       rw [e9, hcur] at h3
       injection h3 with h3
       injection h3 with _ h3
       exact hne h3
     have Hs7 : Hid (∀ w7, Below wr.drew.heap.size wr.drew w7 → w7.cell? ⟨gl, i, none⟩ = some (.slice (some ⟨G i, 0, none⟩) (n i) (c i)) ∧ w7.cell? ⟨G i, k, none⟩ = some (y i)[k] ∧ w7.frozen? ⟨G i, k, none⟩ = false ∧ Bk w7 base 3 1 N G n c y) := hid fun w7 hb7 => by
      have hb9 : Below wr.heap.size wr w7 := (Below.drew (ext_refl wr)).trans hb7
      exact ⟨cell_ext hb9 hcell, cell_ext hb9 hcq, frozen_of_row w7 _ _ _ _ ((hb9.block _ (lt_of_block hcur)).trans hcur), hbk.ext hb9⟩
     have Hs8 : Hid (∀ w7, Below wr.drew.heap.size wr.drew w7 → ∀ u, (w7.setCell ⟨G i, k, none⟩ u).cell? ⟨gl, i, none⟩ = some (.slice (some ⟨G i, 0, none⟩) (n i) (c i))) := hid fun w7 hb7 u => by
      have hb9 : Below wr.heap.size wr w7 := (Below.drew (ext_refl wr)).trans hb7
      rw [← cell_ext hb9 hcell]
      exact World.cell?_of_block (heap_setCell_other _ _ _ _ hgG)
     have Hpw := hid hpw
     have Hpk := hid hpk
     have Hch := hid hch
     have hk9 : (k : Int) < (n i : Int) := by omega
     clear hbk hpw hpk hch ho hcur hcx hgG
     go_wp2_with fail
     refine wp_region_noPanic ?_
     refine wp_region_held_drew (S := fun W' : World => W'.cell? ⟨gl, i, none⟩ = some (.slice (some ⟨G i, 0, none⟩) (n i) (c i))) (by kernel_rfl) hcell (fun hHeld => ?_)
     refine wpAnyH_take (i := 0) (v := ?v1) rfl (by kernel_rfl) (by kernel_rfl) (by kernel_rfl) (fun _ _ _ h => h) (Or.inl ⟨by rfl, ?hy1⟩) (by assumption) ?rest1
     case hy1 => (intro w hSw; (try dsimp only at hSw); go_simp) <;> try with_reducible rfl
     try simp only [Act.put, List.setIfInBounds_toArray, List.set_cons_zero, List.set_cons_succ]
     refine wpAnyH_take (i := 1) (v := ?v2) rfl (by kernel_rfl) (by kernel_rfl) (by kernel_rfl) (fun _ _ _ h => h) (Or.inl ⟨by rfl, ?hy2⟩) (by assumption) ?rest2
     case hy2 => (intro w hSw; (try dsimp only at hSw); go_simp) <;> try with_reducible rfl
     try simp only [Act.put, List.setIfInBounds_toArray, List.set_cons_zero, List.set_cons_succ]
     refine wpAnyH_take (i := 2) (v := ?v3) rfl (by kernel_rfl) (by kernel_rfl) (by kernel_rfl) (fun _ _ _ h => h) (Or.inl ⟨by rfl, ?hy3⟩) (by assumption) ?rest3
     case hy3 => (intro w hSw; (try dsimp only at hSw); go_simp) <;> try with_reducible rfl
     try simp only [Act.put, List.setIfInBounds_toArray, List.set_cons_zero, List.set_cons_succ]
     refine wpAnyH_take (i := 3) (v := ?v4) rfl (by kernel_rfl) (by kernel_rfl) (by kernel_rfl) (fun _ _ _ h => h) (Or.inl ⟨by rfl, ?hy4⟩) (by assumption) ?rest4
     case hy4 => (intro w hSw; (try dsimp only at hSw); go_simp) <;> try with_reducible rfl
     try simp only [Act.put, List.setIfInBounds_toArray, List.set_cons_zero, List.set_cons_succ]
     refine wpAnyH_take (i := 4) (v := ?v5) rfl (by kernel_rfl) (by kernel_rfl) (by kernel_rfl) (fun _ _ _ h => h) (Or.inl ⟨by rfl, ?hy5⟩) (by assumption) ?rest5
     case hy5 => (intro w hSw; (try dsimp only at hSw); go_simp) <;> try with_reducible rfl
     try simp only [Act.put, List.setIfInBounds_toArray, List.set_cons_zero, List.set_cons_succ]
     refine wpAnyH_take (i := 5) (v := ?v6) rfl (by kernel_rfl) (by kernel_rfl) (by kernel_rfl) (fun _ _ _ h => h) (Or.inl ⟨by rfl, ?hy6⟩) (by assumption) ?rest6
     case hy6 => (intro w hSw; (try dsimp only at hSw); go_simp) <;> try with_reducible rfl
     try simp only [Act.put, List.setIfInBounds_toArray, List.set_cons_zero, List.set_cons_succ]
     refine wpAnyH_take (i := 6) (v := ?v7) rfl (by kernel_rfl) (by kernel_rfl) (by kernel_rfl) (fun _ _ _ h => h) (Or.inl ⟨by rfl, ?hy7⟩) (by assumption) ?rest7
     case hy7 => (intro w hSw; (try dsimp only at hSw); go_simp) <;> try with_reducible rfl
     try simp only [Act.put, List.setIfInBounds_toArray, List.set_cons_zero, List.set_cons_succ]
     refine wpAnyH_ready (rs := [7]) (by kernel_rfl) (by simp) ?_
     refine AllReadyH.cons rfl (fun K9 hK9 => ?_) AllReadyH.nil
     go_simp
     refine (Hmk.out wr.drew i k (by omega) (by omega)).mono ?_
     rintro e w7 ⟨_, rfl, rfl, hb7⟩
     obtain ⟨hS7, hq7, hf7, hB7⟩ := Hs7.out w7 hb7
     go_simp
     refine hK9.out _ _ hS7 (fun hHeld => ?_)
     clear hK9 K9
     try simp only [Act.put, List.setIfInBounds_toArray, List.set_cons_zero, List.set_cons_succ]
     refine wpAnyH_take (i := 8) (v := ?v8) rfl (by kernel_rfl) (by kernel_rfl) (by kernel_rfl) (fun _ _ _ h => h) (Or.inl ⟨by rfl, ?hy8⟩) (by assumption) ?rest8
     case hy8 => (intro w hSw; (try dsimp only at hSw); go_simp) <;> try with_reducible rfl
     try simp only [Act.put, List.setIfInBounds_toArray, List.set_cons_zero, List.set_cons_succ]
     refine wpAnyH_ready (rs := [9]) (by kernel_rfl) (by simp) ?_
     refine AllReadyH.cons rfl (fun K9 hK9 => ?_) AllReadyH.nil
     go_simp
     refine hK9.out _ _ (Hs8.out w7 hb7 _) (fun hHeld => ?_)
     clear hK9 K9
     try simp only [Act.put, List.setIfInBounds_toArray, List.set_cons_zero, List.set_cons_succ]
     refine wpAnyH_done (by kernel_rfl) (NoPanic.normal ?_) _
     have Hb7 := hid hb7
     have HB7 := hid hB7
     clear hS7 hq7 hf7 hB7 hb7 hcell
     go_wp2_with fail
     go_roundw
     case rel =>
      have hw9 : Chg w w7 N G := Hch.out.trans (Chg.of ((Below.drew (ext_refl wr)).trans Hb7.out))
      refine ⟨k + 1, updF y i ((y i).set k (mcapI i k 0)), by omega, by go_num, HB7.out.set hiN k _, fun j hj => ?_, fun k' hk' q hq => ?_, hw9.trans (Chg.set hiN _ _ _)⟩
      ·rw [updF_ne (by omega)]; exact Hpw.out j hj
      ·rw [updF_same]
       obtain rfl : q = 0 := by omega
       rw [Nat.mul_one, Nat.add_zero, List.getElem?_set]
       by_cases e9 : k = k'
       ·subst e9; rw [if_pos rfl, if_pos (by omega)]
       ·rw [if_neg e9]
        have := Hpk.out k' (by omega) 0 (by omega)
        rwa [Nat.mul_one, Nat.add_zero] at this
     case measure => simp [intOf]; omega
    ·obtain rfl : k = n i := by omega
     have Hbk := hid hbk
     have Hpw := hid hpw
     have Hpk := hid hpk
     have Hch := hid hch
     clear hbk hpw hpk hch
     go_wp2_with fail
     go_roundw
     case rel =>
      refine ⟨i + 1, y, by omega, by go_num, Hbk.out, fun j hj => ?_, Hch.out⟩
      by_cases e9 : j = i
      ·subst e9; exact Hpk.out
      ·exact Hpw.out j (by omega)
     case measure => simp [intOf]; omega
  ·obtain rfl : i = N := by omega
   obtain ⟨w0, rfl⟩ : ∃ w0 : World, w0 = wr := ⟨_, rfl⟩
   have Hbk := hid hbk
   have Hpw := hid hpw
   have Hch := hid hch
   have Hl0 := hid (own_other Hk0.out Hl.out hne hch)
   clear hbk hpw hch
   go_wp2_with fail
   go_loopw [6, 7] (fun v6 v7 wr => ∃ (j : Nat) (H d : Nat → Nat), j ≤ i ∧ v7 = .int .i64 (j : Int) ∧ L2 w0 wr base 3 26 1 i G n c y mcapI j H d v6) (fun _ v7 _ => i - (intOf v7).toNat)
   case atStart => exact ⟨0, G, c, Nat.zero_le _, rfl, L2.start Hbk.out⟩
   case round =>
    obtain ⟨j, H, d, hj, rfl, h2⟩ := hrel
    obtain ⟨wi, rfl⟩ : ∃ wi : World, wi = wr := ⟨_, rfl⟩
    by_cases hjN : j < i
    ·obtain ⟨gl, cap', e9, hcell⟩ := own_atapI (own_other Hbk.out Hl0.out hne h2.chg) (listV_at hjN)
     cases e9
     unfold rowV at hcell
     obtain ⟨hn0, hn1⟩ := Hbk.out.pos j hjN
     have hz9 := h2.chg.size
     have H2 := hid h2
     have H3 := hid (L3.start (h2.rest j (Nat.le_refl _) hjN) (Hpw.out j hjN))
     clear h2
     go_wp2_with fail
     clear hcell
     go_loopw [8, 9] (fun v8 v9 wr => ∃ (k h d' : Nat) (ys : List Value), k ≤ 20 ∧ v9 = .int .i64 (k : Int) ∧ v8 = .slice (some ⟨h, 0, none⟩) (n j + k) d' ∧ L3 wi wr base 3 1 G n mcapI j k h d' ys) (fun _ v9 _ => 20 - (intOf v9).toNat)
     case atStart => exact ⟨0, G j, c j, y j, Nat.zero_le _, rfl, rfl, H3.out⟩
     case round =>
      clear H3
      obtain ⟨k, h, d', ys, hk, rfl, rfl, h3⟩ := hrel
      have hz8 := h3.gr.size
      by_cases hk20 : k < 20
      ·have H3 := hid h3
       clear h3
       go_wp2_with fail
       refine (Hmk.out wr j (n j + k) (by omega) (by omega)).mono ?_
       rintro e w7 ⟨_, rfl, rfl, hb7⟩
       have H7 := hid (H3.out.ext hb7)
       have ho7 := H7.out.own
       have hz7 : base ≤ w7.heap.size := by have := ho7.lt h rfl; omega
       go_wp2_with (at_builtin; refine wpList_append_keep rfl _ _ 26 rfl base 3 i0 (.int .i64 0) 1 8 Tryz.underlying26 hi0 hz0 hz1 hz2 rfl (by decide) _ (n j + k) ys rfl (ho7.alloc _) ⟨w7.heap.size, 0, none⟩ 1 1 [.int .i64 (mkapI j (n j + k))] rfl rfl (cell_one_new _ _ _) (fun u hu => by simp at hu; subst hu; rfl) (by unfold maxLen; omega) (by omega) (by simp; omega) ?_; intro v' w' hown hgrow hat; obtain ⟨gn, cn, rfl⟩ := own_frsapI hown)
       go_roundw
       case rel =>
        exact ⟨k + 1, gn, cn, _, by omega, by go_num, rfl, (H7.out.ext (ext_alloc _ _)).append (fun q hq => by obtain rfl : q = 0 := (by omega); rfl) hown hgrow hat⟩
       case measure => simp [intOf]; omega
      ·obtain rfl : k = 20 := by omega
       have Hgv := hid (H2.out.gvAt hjN h3)
       have H3 := hid h3
       clear h3
       go_wp2_with (at_builtin; refine wpList_append_own_at _ rfl _ _ 22 rfl w0.heap.size 26 i1 (.slice none 0 0) 1 24 Tryz.underlying22 hi1 hy0 hy1 hy2 rfl (by decide) _ j _ rfl (Hgv.out.alloc _) ⟨wr.heap.size, 0, none⟩ 1 1 [.slice (some ⟨h, 0, none⟩) (n j + 20) d'] rfl rfl (cell_one_new _ _ _) (fun u hu => by simp at hu; subst hu; rfl) (by unfold maxLen; omega) (by omega) (by simp; omega) ?_; intro v' w' hown hgrow hnil hat)
       go_roundw
       case rel => exact ⟨j + 1, _, _, by omega, by go_num, H2.out.next Hbk.out hjN H3.out hne hown hgrow⟩
       case measure => simp [intOf]; omega
    ·obtain rfl : j = i := by omega
     have H2 := hid h2
     have hgv := h2.gv
     obtain ⟨Ag, cg, e9⟩ := own_frmapI hgv
     subst e9
     have Hgv := hid hgv
     have Hfin := hid (Hch.out.trans h2.chg)
     have Hl9 := hid (own_other Hbk.out Hl0.out hne h2.chg)
     clear h2 hgv
     go_wp2_with fail
     go_loopw [10] (fun v10 wr => ∃ a : Nat, a ≤ j ∧ v10 = .int .i64 (a : Int) ∧ Below wi.heap.size wi wr) (fun v10 _ => j - (intOf v10).toNat)
     case atStart => exact ⟨0, Nat.zero_le _, rfl, ext_refl _⟩
     case round =>
      obtain ⟨a, ha, rfl, hbl⟩ := hrel
      by_cases haN : a < j
      ·obtain ⟨hn0, hn1⟩ := Hbk.out.pos a haN
       go_wp2_with fail
       go_loopw [11] (fun v11 wr => ∃ k : Nat, k ≤ n a + 20 ∧ v11 = .int .i64 (k : Int) ∧ Below wi.heap.size wi wr) (fun v11 _ => n a + 20 - (intOf v11).toNat)
       case atStart => exact ⟨0, Nat.zero_le _, rfl, hbl⟩
       case round =>
        clear hbl
        obtain ⟨k, hk, rfl, hbl⟩ := hrel
        obtain ⟨gg, cap', e9, hcg⟩ := own_atapI Hgv.out (listV_at haN)
        cases e9
        unfold rowV at hcg
        have hcg1 := cell_ext hbl hcg
        obtain ⟨d1, d2, _⟩ := H2.out.done a haN
        by_cases hk20 : k < n a + 20
        ·have e1 := d1 k hk20 0 (by omega)
         rw [Nat.mul_one, Nat.add_zero] at e1
         unfold mcapI at e1
         go_wp2_with fail
         refine (Hmk.out wr a k (by omega) (by omega)).mono ?_
         rintro e w7 ⟨_, rfl, rfl, hb7⟩
         have hb9 := ext_trans hbl hb7
         have hcg7 := cell_ext hb9 hcg
         have e7 := cell_ext hb9 e1
         obtain ⟨gl, cap2, e9, hcl⟩ := own_atapI Hl9.out (listV_at haN)
         cases e9
         unfold rowV at hcl
         have hcl7 := cell_ext hb9 hcl
         have hk9 : (k : Int) < ((n a + 20 : Nat) : Int) := by omega
         clear e1 hcl hcg hcg1
         by_cases hkn : k < n a
         ·have e2 := d2 k hkn 0 (by omega)
          rw [Nat.mul_one, Nat.add_zero] at e2
          unfold mcapI at e2
          have e27 := cell_ext hb9 e2
          clear e2
          generalize mkapI a k = z at *
          go_wp2_with fail
          go_roundw
          case rel => exact ⟨k + 1, by omega, by go_num, hb9⟩
          case measure => simp [intOf]; omega
         ·generalize mkapI a k = z at *
          go_wp2_with fail
          go_roundw
          case rel => exact ⟨k + 1, by omega, by go_num, hb9⟩
          case measure => simp [intOf]; omega
        ·obtain rfl : k = n a + 20 := by omega
         go_wp2_with fail
         go_roundw
         case rel => exact ⟨a + 1, by omega, by go_num, hbl⟩
         case measure => simp [intOf]; omega
      ·obtain rfl : a = j := by omega
       go_wp2_with fail
       go_ret
       exact Fin HQ ⟨rfl, Hfin.out.trans (Chg.of hbl)⟩
end Go.Proofs.Lx
