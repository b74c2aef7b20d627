/- Parts of the proof: Cc, Lb, Cd, Ce. Contracts of theory.foes, rule, CheckFacts. -/
import Derived.Test.YtalhpldbhogadaaB1
import Derived.Deep.OwnRows
import Derived.Laws.Rows
namespace Go.Proofs.Lx
open Go Go.RowKit
set_option linter.unusedSimpArgs false
set_option linter.unusedVariables false

theorem risB_spec {l : List Int} {n : Int} (h : risB l n = true) : (∀ i (hi : i < l.length), 0 ≤ l[i] ∧ l[i] < n) ∧ l.Pairwise (· < ·) := by
  rw [risB_true] at h
  constructor
  · intro i hi
    have := h i hi
    simp [risOk, hi] at this
    omega
  · rw [List.pairwise_iff_getElem]
    intro i j hi hj hij
    induction j with
    | zero => omega
    | succ j ih =>
      have := h (j + 1) hj
      simp [risOk, hj, show j < l.length by omega] at this
      by_cases e : i = j
      · subst e; omega
      · have := ih (by omega) (by omega); omega
theorem risB_of {l : List Int} {n : Int} (h : ∀ i (hi : i < l.length), 0 ≤ l[i] ∧ l[i] < n) (hp : l.Pairwise (· < ·)) : risB l n = true := by
  rw [risB_true]
  intro i hi
  have h1 := h i hi
  simp only [risOk, List.getD_eq_getElem?_getD, List.getElem?_eq_getElem hi, Option.getD_some, Bool.and_eq_true, decide_eq_true_eq, Bool.or_eq_true]
  refine ⟨h1, ?_⟩
  by_cases e : i = 0
  · exact .inl e
  · right
    rw [List.getElem?_eq_getElem (show i - 1 < l.length by omega), Option.getD_some]
    exact pw_lt hp (by omega) hi

def row (t : List (List Int)) (i : Int) : List Int := t.getD i.toNat []
theorem row_at {t : List (List Int)} {i : Int} (h0 : 0 ≤ i) (h : i < t.length) : row t i = t[i.toNat] := by
  simp [row, show i.toNat < t.length by omega]
def foesOk (T : Th) (q : Nat) : Bool := decide ((T.foes.getD q []).length ≤ 64) && risB (T.foes.getD q []) T.lits && !memB (T.foes.getD q []) q && (T.foes.getD q []).all fun f => memB (row T.foes f) q
def foesAll (T : Th) : Bool := (List.range T.foes.length).all (foesOk T)
theorem foesAll_true {T : Th} : foesAll T = true ↔ ∀ q, q < T.foes.length → foesOk T q = true := by simp [foesAll]
theorem foesAll_false {T : Th} {q : Nat} (h : q < T.foes.length) (hf : foesOk T q = false) : foesAll T = false := by
  rw [Bool.eq_false_iff]; intro ht
  rw [foesAll_true.1 ht q h] at hf; cases hf

set_option maxHeartbeats 800000 in
theorem foes_any (w : World) (V : Value) (T : Th) (hT : RdTh w V T) (hl : (T.foes.length : Int) = T.lits) :
   Calls Try.prog 108 #[V] w (Ret fun v w' => (∃ r : Int, v = .int .i64 r ∧ (r < 0 ↔ foesAll T = true)) ∧ Below w.heap.size w w') := by
  obtain ⟨vF, vR, vB, rfl, ⟨A, c, rfl, hc, hb, hr⟩, _, _⟩ := hT
  have hbel := ext_alloc w (.cells #[.int .i64 T.lits, .slice A T.foes.length c, vR, vB] 25)
  have hr1 := hr.ext llR_mono hbel
  have Hl := hid hl
  clear hr hl
  refine post_gen fun Q HQ => ?_
  go_enter Try.func108, Try.ntmps108
  go_wp2
  go_loop [10] (fun v10 => ∃ k : Nat, k ≤ T.foes.length ∧ v10 = .int .i64 k ∧ Hid (∀ i, i < k → foesOk T i = true)) (fun v10 => T.foes.length - (intOf v10).toNat)
  case atStart => exact ⟨0, Nat.zero_le _, rfl, fun i hk => absurd hk (by omega)⟩
  case round =>
    obtain ⟨k, hk, rfl, hno⟩ := hrel
    by_cases hlt : k < T.foes.length
    · obtain ⟨ad, B, cB, rfl, hcell, hcB, hbB, hrB⟩ := hr1.atRow hlt
      have Hg : Hid (T.foes.getD k [] = T.foes[k]) := by simp [Hid, hlt]
      have Hbad : ∀ r : Int, 0 ≤ r → foesOk T k = false → ∃ r', Value.int .i64 r = .int .i64 r' ∧ (r' < 0 ↔ foesAll T = true) := fun r h0 hf => ⟨r, rfl, by rw [foesAll_false hlt hf]; simp; omega⟩
      have Hbad := hid Hbad
      generalize hL : T.foes[k] = L at *
      have HL := hid hL
      clear hL
      by_cases h64 : 64 < L.length
      · go_wp2_with fail
        go_ret
        exact Fin HQ ⟨Hbad.out k (by omega) (by simp only [foesOk, Hg.out]; rw [decide_eq_false (by omega)]; simp), hbel⟩
      · have hRL : RdI (w.alloc (.cells #[.int .i64 T.lits, .slice (some ad) T.foes.length c, vR, vB] 25)) (.slice B L.length cB) L := ⟨B, cB, rfl, hcB, hbB, hrB⟩
        cases hris : risB L T.lits with
        | false =>
          have Hris := hid hris
          go_wp2_with (go_at_call 112; refine (rising_any _ _ _ _ hRL).mono ?_; rintro e w' ⟨_, rfl, rfl, rfl⟩)
          go_ret
          exact Fin HQ ⟨Hbad.out k (by omega) (by simp only [foesOk, Hg.out]; rw [Hris.out]; simp), hbel⟩
        | true =>
          have Hris := hid hris
          have Hsp := hid (risB_spec hris)
          cases hmem : memB L k with
          | true =>
            have Hmem := hid hmem
            go_wp2_with (first
              | (go_at_call 112; refine (rising_any _ _ _ _ hRL).mono ?_; rintro e w' ⟨_, rfl, rfl, rfl⟩)
              | (go_at_call 153; refine (has_any _ _ _ _ hRL Hsp.out.2).mono ?_; rintro e w' ⟨_, rfl, rfl, rfl⟩))
            go_ret
            exact Fin HQ ⟨Hbad.out k (by omega) (by simp only [foesOk, Hg.out]; rw [Hmem.out]; simp), hbel⟩
          | false =>
            have Hmem := hid hmem
            go_wp2_with (first
              | (go_at_call 112; refine (rising_any _ _ _ _ hRL).mono ?_; rintro e w' ⟨_, rfl, rfl, rfl⟩)
              | (go_at_call 153; refine (has_any _ _ _ _ hRL Hsp.out.2).mono ?_; rintro e w' ⟨_, rfl, rfl, rfl⟩))
            clear hris hmem
            go_loop [33] (fun v33 => ∃ j : Nat, j ≤ L.length ∧ v33 = .int .i64 j ∧ Hid (∀ i (h : i < L.length), i < j → memB (row T.foes L[i]) k = true)) (fun v33 => L.length - (intOf v33).toNat)
            case atStart => exact ⟨0, Nat.zero_le _, rfl, fun i h hk => absurd hk (by omega)⟩
            case round =>
              obtain ⟨j, hj, rfl, hin⟩ := hrel
              by_cases hjl : j < L.length
              · obtain ⟨adb, rfl, hcj⟩ := hrB.at1 hjl
                have hrange := Hsp.out.1 j hjl
                have hfl : L[j].toNat < T.foes.length := by have := Hl.out; omega
                obtain ⟨ad2, C2, c2, e2, hcell2, hc2, hb2, hr2⟩ := hr1.atRow hfl
                cases e2
                have Hrow : Hid (T.foes[L[j].toNat] = row T.foes L[j]) := (row_at hrange.1 (by have := Hl.out; omega)).symm
                have h3 : L[j] < T.foes.length := by have := Hl.out; omega
                have hR2 : RdI (w.alloc (.cells #[.int .i64 T.lits, .slice (some ad) T.foes.length c, vR, vB] 25)) (.slice C2 T.foes[L[j].toNat].length c2) T.foes[L[j].toNat] := ⟨C2, c2, rfl, hc2, hb2, hr2⟩
                generalize hX : L[j] = X at *
                have HX := hid hX
                clear hX
                generalize hY : T.foes[X.toNat] = Y at *
                have HY := hid hY
                clear hY
                cases hm2 : memB Y k with
                | false =>
                  have Hm2 := hid hm2
                  go_wp2_with (go_at_call 154; refine (contains_any _ _ _ _ hR2).mono ?_; rintro e w' ⟨_, rfl, rfl, rfl⟩)
                  go_ret
                  refine Fin HQ ⟨Hbad.out k (by omega) ?_, hbel⟩
                  simp only [foesOk, Hg.out]
                  rw [show (L.all fun f => memB (row T.foes f) k) = false from by
                    rw [List.all_eq_false]; exact ⟨L[j], List.getElem_mem hjl, by rw [HX.out, ← Hrow.out, Hm2.out]; simp⟩]
                  simp
                | true =>
                  have Hm2 := hid hm2
                  go_wp2_with (go_at_call 154; refine (contains_any _ _ _ _ hR2).mono ?_; rintro e w' ⟨_, rfl, rfl, rfl⟩)
                  go_round
                  case rel =>
                    refine ⟨j + 1, by omega, by go_num, fun i h hi => ?_⟩
                    by_cases e : i = j
                    · subst e; rw [HX.out, ← Hrow.out, Hm2.out]
                    · exact hin.out i h (by omega)
                  case measure => simp [intOf]; omega
              · go_wp2
                go_round
                case rel =>
                  refine ⟨k + 1, by omega, by go_num, fun i hi => ?_⟩
                  by_cases e : i = k
                  · subst e
                    simp only [foesOk, Hg.out, Hris.out, Hmem.out]
                    simp only [decide_eq_true (show L.length ≤ 64 by omega), Bool.not_false, Bool.and_self, Bool.true_and]
                    rw [List.all_eq_true]
                    intro f hf
                    obtain ⟨t, ht, rfl⟩ := List.getElem_of_mem hf
                    exact hin.out t ht (by omega)
                  · exact hno.out i (by omega)
                case measure => simp [intOf]; omega
    · go_wp2
      go_ret
      exact Fin HQ ⟨⟨-1, rfl, by simp only [show ((-1 : Int) < 0) by decide, true_iff]; exact foesAll_true.2 fun q hq => hno.out q (by omega)⟩, hbel⟩
end Go.Proofs.Lx

namespace Go.Proofs.Lx
open Go Go.RowKit

/-- Block g holds just these cells. -/
def Arr {α : Type} (enc : α → Value) (e : TypeId) (w : World) (g : Nat) (xs : List α) : Prop := w.heap[g]? = some (.cells (xs.map enc).toArray e (0, 0))
section
variable {α : Type} {enc : α → Value} {e : TypeId} {w w' : World} {g : Nat} {xs : List α}
theorem Arr.lt (h : Arr enc e w g xs) : g < w.heap.size := lt_of_block h
theorem Arr.cell (h : Arr enc e w g xs) {i : Nat} (hi : i < xs.length) : w.cell? ⟨g, i, none⟩ = some (enc xs[i]) := by
  rw [cell_of_row w g i _ e _ h]; simp [hi]
theorem Arr.cellD [Inhabited α] (h : Arr enc e w g xs) {i : Nat} (hi : i < xs.length) : w.cell? ⟨g, i, none⟩ = some (enc (xs.getD i default)) := by
  rw [h.cell hi]; simp [hi]
theorem Arr.free (h : Arr enc e w g xs) (i : Nat) : w.frozen? ⟨g, i, none⟩ = false := frozen_of_row w g i _ e h
theorem Arr.set (h : Arr enc e w g xs) (i : Nat) (x : α) : Arr enc e (w.setCell ⟨g, i, none⟩ (enc x)) g (xs.set i x) := by
  unfold Arr
  rw [heap_setCell_same w g i _ e _ h]
  simp [List.map_set]
theorem Arr.other (h : Arr enc e w g xs) {a : Addr} (hne : g ≠ a.block) (u : Value) : Arr enc e (w.setCell a u) g xs := (heap_setCell_other w a g u hne).trans h
theorem Arr.alloc (h : Arr enc e w g xs) (o : Obj) : Arr enc e (w.alloc o) g xs := (Below.heap_alloc w o g h.lt).trans h
theorem Arr.drew (h : Arr enc e w g xs) : Arr enc e w.drew g xs := h
theorem Arr.drewN (h : Arr enc e w g xs) (n : Nat) : Arr enc e (w.drewN n) g xs := by
  induction n with
  | zero => exact h
  | succ n ih => rw [← World.drew_drewN]; exact ih
theorem Arr.below {B : Nat} (h : Arr enc e w g xs) (hb : Below B w w') (hB : g < B) : Arr enc e w' g xs := (hb.block g hB).trans h
theorem Arr.ext (h : Arr enc e w g xs) (hb : Below w.heap.size w w') : Arr enc e w' g xs := h.below hb h.lt
theorem Arr.reads (h : Arr enc e w g xs) (hl : xs.length ≤ 140737488355328) (c : Nat) (hc : xs.length ≤ c) : Rd 1 (scR enc) w (.slice (some ⟨g, 0, none⟩) xs.length c) xs := by
  refine ⟨_, c, rfl, hc, hl, fun i hi => ⟨_, _, rfl, rfl, rfl, fun j u hu => ?_⟩⟩
  match j, hu with
  | 0, hu =>
    simp at hu; subst hu
    rw [add_plain]; simpa using h.cell hi
end
theorem heap_drewN (w : World) (n : Nat) : (w.drewN n).heap = w.heap := by
  induction n with
  | zero => rfl
  | succ n ih => rw [← World.drew_drewN]; exact ih
theorem below_drewN {B : Nat} {w W : World} (h : Below B w W) (n : Nat) : Below B w (W.drewN n) := by
  induction n with
  | zero => exact h
  | succ n ih => rw [← World.drew_drewN]; exact ih.drew

/-- A box that was laid first. -/
theorem box_cell {w wr : World} {cs : Array Value} {t : TypeId} (h : Below (w.heap.size + 1) (w.alloc (.cells cs t)) wr) (i : Nat) : wr.cell? ⟨w.heap.size, i, none⟩ = cs[i]? := by
  have hb : wr.heap[w.heap.size]? = some (.cells cs t (0, 0)) := (h.block _ (by omega)).trans (heap_alloc_new w _)
  exact cell_of_row wr _ i cs t _ hb
/-- make([]T, n): its block. -/
theorem made_arr {α : Type} (enc : α → Value) (z : α) (e : TypeId) (w : World) (n : Nat) : Arr enc e (w.alloc (.cells (madeCells #[enc z] n) e)) w.heap.size (List.replicate n z) := by
  unfold Arr
  rw [heap_alloc_new]
  congr 2
  rw [← Array.toList_inj, toList_madeCells_one]; simp
end Go.Proofs.Lx

namespace Go.Proofs.Lx
open Go Go.RowKit
set_option linter.unusedSimpArgs false
set_option linter.unusedVariables false

theorem infoI : (Try.prog.info? 3).map (fun i => (i.zero, i.size, i.bytes)) = some (some (.int .i64 0), 1, 8) := by kernel_rfl
theorem infoB : (Try.prog.info? 4).map (fun i => (i.zero, i.size, i.bytes)) = some (some (.bool false), 1, 1) := by kernel_rfl
theorem infoM : (Try.prog.info? 33).map (fun i => (i.zero, i.size, i.bytes)) = some (some (.int .u8 0), 1, 1) := by kernel_rfl
theorem infoL : (Try.prog.info? 26).map (fun i => (i.zero, i.size, i.bytes)) = some (some (.slice none 0 0), 1, 24) := by kernel_rfl
section
variable (n : Int) (h0 : 0 ≤ n) (hn : n ≤ 140737488355)
include h0 hn
theorem mkI : ∀ W : World, (Instr.makeSlice 26 (.int .i64 n) (.int .i64 n)).run Try.prog W = .ok (.slice (some ⟨W.heap.size, 0, none⟩) n.toNat n.toNat) (W.alloc (.cells (madeCells #[.int .i64 0] n.toNat) 3)) := by
  intro W; obtain ⟨m, rfl⟩ := Int.eq_ofNat_of_zero_le h0
  exact run_make_row' _ _ _ 8 Try.underlying26 infoI rfl .i64 .i64 m (by omega) (by omega) W
theorem mkB : ∀ W : World, (Instr.makeSlice 86 (.int .i64 n) (.int .i64 n)).run Try.prog W = .ok (.slice (some ⟨W.heap.size, 0, none⟩) n.toNat n.toNat) (W.alloc (.cells (madeCells #[.bool false] n.toNat) 4)) := by
  intro W; obtain ⟨m, rfl⟩ := Int.eq_ofNat_of_zero_le h0
  exact run_make_row' _ _ _ 1 Try.underlying86 infoB rfl .i64 .i64 m (by omega) (by omega) W
theorem mkM : ∀ W : World, (Instr.makeSlice 28 (.int .i64 n) (.int .i64 n)).run Try.prog W = .ok (.slice (some ⟨W.heap.size, 0, none⟩) n.toNat n.toNat) (W.alloc (.cells (madeCells #[.int .u8 0] n.toNat) 33)) := by
  intro W; obtain ⟨m, rfl⟩ := Int.eq_ofNat_of_zero_le h0
  exact run_make_row' _ _ _ 1 Try.underlying28 infoM rfl .i64 .i64 m (by omega) (by omega) W
theorem mkL : ∀ W : World, (Instr.makeSlice 22 (.int .i64 n) (.int .i64 n)).run Try.prog W = .ok (.slice (some ⟨W.heap.size, 0, none⟩) n.toNat n.toNat) (W.alloc (.cells (madeCells #[.slice none 0 0] n.toNat) 26)) := by
  intro W; obtain ⟨m, rfl⟩ := Int.eq_ofNat_of_zero_le h0
  exact run_make_row' _ _ _ 24 Try.underlying22 infoL rfl .i64 .i64 m (by omega) (by omega) W
end

theorem checkFacts_any (w : World) (V v : Value) (T : Th) (l : List Int) (hT : RdTh w V T) (hv : RdI w v l) :
   Calls Try.prog 84 #[V, v] w (Ret fun v w' => v = .int .i64 (bif risB l T.lits then 0 else 181) ∧ Below w.heap.size w w') := by
  obtain ⟨vF, vR, vB, rfl, _, _, _⟩ := hT
  have hbel := ext_alloc w (.cells #[.int .i64 T.lits, vF, vR, vB] 25)
  have hv1 := hv.ext (scR_mono _) hbel
  refine post_gen fun Q HQ => ?_
  cases hr : risB l T.lits with
  | false =>
    have Hr := hid hr
    go_enter Try.func84, Try.ntmps84
    go_wp2_with (go_at_call 112; refine (rising_any _ _ _ _ hv1).mono ?_; rintro e w' ⟨_, rfl, rfl, rfl⟩)
    go_ret
    exact Fin HQ ⟨by rw [Hr.out]; rfl, hbel⟩
  | true =>
    have Hr := hid hr
    go_enter Try.func84, Try.ntmps84
    go_wp2_with (go_at_call 112; refine (rising_any _ _ _ _ hv1).mono ?_; rintro e w' ⟨_, rfl, rfl, rfl⟩)
    go_ret
    exact Fin HQ ⟨by rw [Hr.out]; rfl, hbel⟩

def RdRule (w : World) (v : Value) (r : Rule) : Prop := ∃ u, v = .agg #[.int .i64 r.kind, .int .i64 r.head, u] ∧ RdI w u r.body
def ruleOk (lits : Int) (r : Rule) : Bool := decide (1 ≤ r.kind) && decide (r.kind ≤ 3) && decide (0 ≤ r.head) && decide (r.head < lits) && decide (r.body.length ≤ 16) && risB r.body lits

set_option maxHeartbeats 800000 in
theorem rule_any (w : World) (V v : Value) (T : Th) (r : Rule) (hT : RdTh w V T) (hv : RdRule w v r) :
   Calls Try.prog 109 #[V, v] w (Ret fun v w' => v = .bool (ruleOk T.lits r) ∧ Below w.heap.size w w') := by
  obtain ⟨vF, vR, vB, rfl, _, _, _⟩ := hT
  obtain ⟨u, rfl, B, cB, rfl, hcB, hbB, hrB⟩ := hv
  have hbel := ext_alloc w (.cells #[.int .i64 T.lits, vF, vR, vB] 25)
  have hbel2 := ext_alloc (w.alloc (.cells #[.int .i64 T.lits, vF, vR, vB] 25)) (.cells #[.int .i64 r.kind, .int .i64 r.head, .slice B r.body.length cB] 37)
  have hbe := ext_trans hbel hbel2
  have hv1 : RdI ((w.alloc (.cells #[.int .i64 T.lits, vF, vR, vB] 25)).alloc (.cells #[.int .i64 r.kind, .int .i64 r.head, .slice B r.body.length cB] 37)) (.slice B r.body.length cB) r.body := ⟨B, cB, rfl, hcB, hbB, hrB.ext (scR_mono _) hbe⟩
  refine post_gen fun Q HQ => ?_
  by_cases h1 : 1 ≤ r.kind ∧ r.kind ≤ 3 ∧ 0 ≤ r.head ∧ r.head < T.lits ∧ r.body.length ≤ 16
  · obtain ⟨a1, a2, a3, a4, a5⟩ := h1
    have Hok : Hid (ruleOk T.lits r = risB r.body T.lits) := by simp [Hid, ruleOk, a1, a2, a3, a4, a5]
    cases hr : risB r.body T.lits with
    | false =>
      have Hr := hid hr
      go_enter Try.func109, Try.ntmps109
      go_wp2_with (go_at_call 112; refine (rising_any _ _ _ _ hv1).mono ?_; rintro e w' ⟨_, rfl, rfl, rfl⟩)
      go_ret
      exact Fin HQ ⟨by rw [Hok.out, Hr.out]; rfl, hbe⟩
    | true =>
      have Hr := hid hr
      go_enter Try.func109, Try.ntmps109
      go_wp2_with (go_at_call 112; refine (rising_any _ _ _ _ hv1).mono ?_; rintro e w' ⟨_, rfl, rfl, rfl⟩)
      go_ret
      exact Fin HQ ⟨by rw [Hok.out, Hr.out]; rfl, hbe⟩
  · have Hok : Hid (ruleOk T.lits r = false) := by
      simp only [Hid, ruleOk]
      rw [Bool.eq_false_iff]; intro h
      simp at h
      omega
    go_enter Try.func109, Try.ntmps109
    go_wp2_with (go_at_call 112; refine (rising_any _ _ _ _ hv1).mono ?_; rintro e w' ⟨_, rfl, rfl, rfl⟩)
    all_goals (go_ret; exact Fin HQ ⟨by rw [Hok.out]; rfl, hbe⟩)
end Go.Proofs.Lx

namespace Go.Proofs.Lx
open Go Go.RowKit
set_option linter.unusedSimpArgs false
set_option linter.unusedVariables false

def hcnt (rs : List Rule) (q : Int) : Nat := rs.countP fun r => r.head == q
def cntUpto (rs : List Rule) (n k : Nat) : List Int := (List.range n).map fun (q : Nat) => (hcnt (rs.take k) (q : Int) : Int)
theorem cntUpto_length (rs : List Rule) (n k : Nat) : (cntUpto rs n k).length = n := by simp [cntUpto]
theorem cntUpto_zero (rs : List Rule) (n : Nat) : cntUpto rs n 0 = List.replicate n 0 := by
  apply List.ext_getElem <;> simp [cntUpto, hcnt]
theorem cntUpto_at (rs : List Rule) (n k q : Nat) (hq : q < n) : (cntUpto rs n k)[q]'(by rw [cntUpto_length]; exact hq) = (hcnt (rs.take k) (q : Int) : Int) := by simp [cntUpto]
theorem hcnt_le (rs : List Rule) (k : Nat) (q : Int) : hcnt (rs.take k) q ≤ k := by
  have h1 := List.countP_le_length (p := fun r : Rule => r.head == q) (l := rs.take k)
  have h2 : (rs.take k).length ≤ k := List.length_take_le _ _
  unfold hcnt; omega
theorem cntUpto_get (rs : List Rule) (n k q : Nat) (hq : q < n) : (cntUpto rs n k).getD q 0 = (hcnt (rs.take k) (q : Int) : Int) := by
  rw [List.getD_eq_getElem?_getD, List.getElem?_eq_getElem (by rw [cntUpto_length]; exact hq), cntUpto_at _ _ _ _ hq]; rfl
theorem cntUpto_succ (rs : List Rule) (n k : Nat) (hk : k < rs.length) (h0 : 0 ≤ rs[k].head) (h1 : rs[k].head < n) :
    cntUpto rs n (k + 1) = (cntUpto rs n k).set rs[k].head.toNat ((hcnt (rs.take k) rs[k].head : Int) + 1) := by
  apply List.ext_getElem
  · simp [cntUpto_length]
  · intro q hq1 hq2
    rw [cntUpto_length] at hq1
    rw [List.getElem_set, cntUpto_at _ _ _ _ hq1]
    rw [hcnt, List.take_succ_eq_append_getElem hk, List.countP_append]
    by_cases e : rs[k].head.toNat = q
    · rw [if_pos e]
      subst e
      have : ((rs[k].head.toNat : Nat) : Int) = rs[k].head := by omega
      rw [this]
      simp [hcnt]
    · rw [if_neg e, cntUpto_at _ _ _ _ hq1, hcnt]
      have : ¬ (rs[k].head = (q : Int)) := by omega
      simp [this]
def hList (rs : List Rule) (n : Nat) : List Int := (List.range n).map fun (q : Nat) => (hcnt rs (q : Int) : Int)
theorem hList_length (rs : List Rule) (n : Nat) : (hList rs n).length = n := by simp [hList]
theorem hList_at (rs : List Rule) (n : Nat) {q : Nat} (hq : q < n) : (hList rs n)[q]'(by rw [hList_length]; exact hq) = (hcnt rs (q : Int) : Int) := by simp [hList]
theorem cntUpto_all (rs : List Rule) (n : Nat) : cntUpto rs n rs.length = hList rs n := by simp [cntUpto, hList]
def pRow (rs : List Rule) (l : List Int) (q j : Nat) : Nat := ((l.take j).map fun f => hcnt rs q * hcnt rs f).sum
def pSum (rs : List Rule) (fo : List (List Int)) (k : Nat) : Nat := ((List.range k).map fun q => pRow rs (fo.getD q []) q (fo.getD q []).length).sum
/-- How many ordered pairs of rules have heads that are foes. -/
def pairCount (T : Th) : Nat := pSum T.rules T.foes T.foes.length
theorem hcnt_len (rs : List Rule) (q : Int) : hcnt rs q ≤ rs.length := List.countP_le_length
theorem pRow_succ {rs : List Rule} {l : List Int} {q j : Nat} (hj : j < l.length) : pRow rs l q (j + 1) = pRow rs l q j + hcnt rs q * hcnt rs l[j] := by
  unfold pRow; rw [List.take_succ_eq_append_getElem hj, List.map_append, List.sum_append]; simp
theorem pSum_succ {rs : List Rule} {fo : List (List Int)} {k : Nat} : pSum rs fo (k + 1) = pSum rs fo k + pRow rs (fo.getD k []) k (fo.getD k []).length := by
  unfold pSum; rw [List.range_succ, List.map_append, List.sum_append]; simp
theorem prod_le {a b : Nat} (ha : a ≤ 4096) (hb : b ≤ 4096) : a * b ≤ 16777216 := Nat.le_trans (Nat.mul_le_mul ha hb) (by decide)
theorem pRow_le {rs : List Rule} {l : List Int} {q : Nat} (hr : rs.length ≤ 4096) : ∀ j, j ≤ l.length → pRow rs l q j ≤ j * 16777216
  | 0, _ => by simp [pRow]
  | j + 1, h => by
    rw [pRow_succ (by omega)]
    have := pRow_le (l := l) (q := q) hr j (by omega)
    have := prod_le (Nat.le_trans (hcnt_len rs q) hr) (Nat.le_trans (hcnt_len rs l[j]) hr)
    omega
theorem pSum_le {rs : List Rule} {fo : List (List Int)} (hr : rs.length ≤ 4096) (hf : ∀ q, q < fo.length → (fo.getD q []).length ≤ 64) : ∀ k, k ≤ fo.length → pSum rs fo k ≤ k * 1073741824
  | 0, _ => by simp [pSum]
  | k + 1, h => by
    rw [pSum_succ]
    have := pSum_le hr hf k (by omega)
    have h2 := pRow_le (l := fo.getD k []) (q := k) hr _ (Nat.le_refl _)
    have h3 := hf k (by omega)
    have : (fo.getD k []).length * 16777216 ≤ 64 * 16777216 := Nat.mul_le_mul_right _ h3
    omega
theorem foesOk_spec {T : Th} (h : foesAll T = true) (q : Nat) (hq : q < T.foes.length) : T.foes[q].length ≤ 64 ∧ risB T.foes[q] T.lits = true ∧ memB T.foes[q] q = false ∧ ∀ f ∈ T.foes[q], memB (row T.foes f) q = true := by
  have := foesAll_true.1 h q hq
  simp only [foesOk, Bool.and_eq_true, decide_eq_true_eq, Bool.not_eq_true', List.all_eq_true] at this
  have e : T.foes.getD q [] = T.foes[q] := by simp [hq]
  rw [e] at this
  exact ⟨this.1.1.1, this.1.1.2, this.1.2, this.2⟩
theorem ruleOk_head {lits : Int} {r : Rule} (h : ruleOk lits r = true) : 0 ≤ r.head ∧ r.head < lits := by
  simp [ruleOk] at h; omega

set_option maxHeartbeats 1600000 in
theorem pairs_any (w : World) (V : Value) (T : Th) (hT : RdTh w V T) (hl : (T.foes.length : Int) = T.lits) (h4 : T.lits ≤ 4096) (hfo : foesAll T = true)
   (hru : T.rules.length ≤ 4096) (hrr : ∀ r ∈ T.rules, ruleOk T.lits r = true) :
   Calls Try.prog 76 #[V] w (Ret fun v w' => v = .int .i64 (pairCount T : Nat) ∧ Below w.heap.size w w') := by
  obtain ⟨lits, foes, rules, beats⟩ := T
  obtain ⟨vF, vR, vB, rfl, ⟨A, c, rfl, hc, hb, hr⟩, ⟨AR, cR, rfl, hcR, hbR, hrR⟩, _⟩ := hT
  dsimp only at *
  obtain rfl : lits = (foes.length : Int) := hl.symm
  clear hl
  have hbel := ext_alloc w (.cells #[.int .i64 foes.length, .slice A foes.length c, .slice AR rules.length cR, vB] 25)
  have hr1 := hr.ext llR_mono hbel
  have hrR1 := hrR.ext ruleR_mono hbel
  have hmk := mkI foes.length (by omega) (by omega)
  rw [Int.toNat_natCast] at hmk
  have Hfo := hid hfo
  have Hrr := hid hrr
  clear hr hrR hfo hrr
  refine post_gen fun Q HQ => ?_
  go_enter Try.func76, Try.ntmps76
  go_wp2
  clear hmk
  go_loopw [17] (fun v17 wr => ∃ k : Nat, k ≤ rules.length ∧ v17 = .int .i64 k ∧ Arr (Value.int .i64) 3 wr (w.heap.size + 1) (cntUpto rules foes.length k) ∧ Below (w.heap.size + 1) (w.alloc (.cells #[.int .i64 foes.length, .slice A foes.length c, .slice AR rules.length cR, vB] 25)) wr) (fun v17 _ => rules.length - (intOf v17).toNat)
  case atStart =>
    refine ⟨0, Nat.zero_le _, rfl, ?_, ?_⟩
    · rw [cntUpto_zero]
      have := made_arr (Value.int .i64) (0 : Int) 3 (w.alloc (.cells #[.int .i64 foes.length, .slice A foes.length c, .slice AR rules.length cR, vB] 25)) foes.length
      simpa using this
    · exact (Below.refl _ _).alloc (by simp) _
  case round =>
    obtain ⟨k, hk, rfl, harr, hbl⟩ := hrel
    have hbl' : Below (w.alloc (.cells #[.int .i64 foes.length, .slice A foes.length c, .slice AR rules.length cR, vB] 25)).heap.size (w.alloc (.cells #[.int .i64 foes.length, .slice A foes.length c, .slice AR rules.length cR, vB] 25)) wr := by simpa using hbl
    by_cases hlt : k < rules.length
    · obtain ⟨ad, B, cB, rfl, hc0, hc1, hc2, hcB, hbB, hrB⟩ := (hrR1.ext ruleR_mono hbl').atRule hlt
      have Hrk := hid (Hrr.out _ (List.getElem_mem hlt))
      obtain ⟨hh0, hh1⟩ := ruleOk_head Hrk.out
      have hg := harr.lt
      have Hs := hid (cntUpto_succ rules foes.length k hlt hh0 hh1)
      have hhc := harr.cell (i := rules[k].head.toNat) (by rw [cntUpto_length]; omega)
      rw [cntUpto_at _ _ _ _ (by omega), show ((rules[k].head.toNat : Nat) : Int) = rules[k].head from by omega] at hhc
      have hhf := harr.free rules[k].head.toNat
      have hle := hcnt_le rules k rules[k].head
      generalize hcnt (rules.take k) rules[k].head = y at *
      generalize hh : rules[k].head = hd at *
      have Hh := hid hh
      clear hh
      go_wp2
      go_roundw
      case rel =>
        refine ⟨k + 1, by omega, by go_num, ?_, ?_⟩
        · rw [Hs.out]
          exact (harr.set hd.toNat ((y : Int) + 1)).alloc _
        · exact (hbl.setCell (Nat.le_refl _) _).alloc (by simp only [World.size_setCell]; omega) _
      case measure => simp [intOf]; omega
    · have hk2 : k = rules.length := by omega
      subst hk2
      rw [cntUpto_all] at harr
      clear hlt hk hbl'
      have hb1 : wr.cell? ⟨w.heap.size, 1, none⟩ = some (.slice A foes.length c) := box_cell hbl 1
      go_wp2
      clear hb1
      obtain ⟨wo, hwo⟩ : ∃ wo : World, wo = wr := ⟨_, rfl⟩
      clear wo hwo
      go_loopw [32, 6] (fun v32 v6 w2 => ∃ k : Nat, k ≤ foes.length ∧ v32 = .int .i64 k ∧ v6 = .int .i64 (pSum rules foes k : Nat) ∧ Arr (Value.int .i64) 3 w2 (w.heap.size + 1) (hList rules foes.length) ∧ Below (w.heap.size + 1) (w.alloc (.cells #[.int .i64 foes.length, .slice A foes.length c, .slice AR rules.length cR, vB] 25)) w2) (fun v32 _ _ => foes.length - (intOf v32).toNat)
      case atStart => exact ⟨0, Nat.zero_le _, rfl, rfl, harr, hbl⟩
      case round =>
        clear harr hbl
        obtain ⟨k, hk, rfl, rfl, harr, hbl⟩ := hrel
        obtain ⟨wo, rfl⟩ : ∃ wo : World, wo = wr := ⟨_, rfl⟩
        by_cases hlt : k < foes.length
        · have hbl' : Below (w.alloc (.cells #[.int .i64 foes.length, .slice A foes.length c, .slice AR rules.length cR, vB] 25)).heap.size (w.alloc (.cells #[.int .i64 foes.length, .slice A foes.length c, .slice AR rules.length cR, vB] 25)) wo := by simpa using hbl
          obtain ⟨ad, B, cB, rfl, hcell, hcB, hbB, hrB⟩ := (hr1.ext llR_mono hbl').atRow hlt
          obtain ⟨h64, hris, _, _⟩ := foesOk_spec Hfo.out k hlt
          have Hris := hid (risB_spec hris).1
          have hps := pSum_le (fo := foes) hru (fun q hq => by rw [List.getD_eq_getElem?_getD, List.getElem?_eq_getElem hq]; exact (foesOk_spec Hfo.out q hq).1) k (by omega)
          have Hgl : Hid (foes.getD k [] = foes[k]) := by simp [Hid, hlt]
          clear hris
          dsimp only at h64 Hris
          generalize hS : pSum rules foes k = S at *
          have HS := hid hS
          clear hS
          generalize hL : foes[k] = L at *
          have HL := hid hL
          clear hL
          go_wp2
          clear hcell
          go_loopw [39, 6] (fun v39 v6 w3 => ∃ j : Nat, j ≤ L.length ∧ v39 = .int .i64 j ∧ v6 = .int .i64 ((S + pRow rules L k j : Nat) : Int) ∧ Arr (Value.int .i64) 3 w3 (w.heap.size + 1) (hList rules foes.length) ∧ Below wo.heap.size wo w3) (fun v39 _ _ => L.length - (intOf v39).toNat)
          case atStart => exact ⟨0, Nat.zero_le _, rfl, by simp [pRow], harr, ext_refl _⟩
          case round =>
            obtain ⟨j, hj, rfl, rfl, harr3, hbl3⟩ := hrel
            have hpr := pRow_le (l := L) (q := k) hru j hj
            by_cases hjl : j < L.length
            · obtain ⟨adb, rfl, hcj⟩ := (hrB.ext (scR_mono _) hbl3).at1 hjl
              have hrange := Hris.out j hjl
              have hX2 : L[j].toNat < foes.length := by omega
              have ha := harr3.cell (i := k) (by rw [hList_length]; omega)
              have hx := harr3.cell (i := L[j].toNat) (by rw [hList_length]; omega)
              rw [hList_at _ _ hlt] at ha
              rw [hList_at _ _ hX2] at hx
              have hp1 := prod_le (Nat.le_trans (hcnt_len rules k) hru) (Nat.le_trans (hcnt_len rules (L[j].toNat : Nat)) hru)
              have hee : ((L[j].toNat : Nat) : Int) = L[j] := by omega
              have Hps : Hid (pRow rules L k (j + 1) = pRow rules L k j + hcnt rules k * hcnt rules (L[j].toNat : Nat)) := by rw [hee]; exact pRow_succ hjl
              generalize pRow rules L k j = R at *
              generalize L[j] = X at *
              generalize hcnt rules k = a at *
              generalize hcnt rules (X.toNat : Nat) = b at *
              have hp2 : (a : Int) * b = ((a * b : Nat) : Int) := by simp
              have hp3 : 0 ≤ (a : Int) * b ∧ (a : Int) * b ≤ 16777216 := by omega
              obtain ⟨hp4, hp5⟩ := hp3
              have Hp2 := hid hp2
              clear hp2 hee
              go_wp2
              go_quiet (fail)
              go_wp2
              go_roundw
              case rel =>
                refine ⟨j + 1, by omega, by go_num, ?_, harr3.drewN _, below_drewN hbl3 _⟩
                rw [Hps.out]
                exact int_eq (by have := Hp2.out; omega)
              case measure => simp [intOf]; omega
            · obtain rfl : j = L.length := by omega
              go_wp2
              go_roundw
              case rel =>
                refine ⟨k + 1, by omega, by go_num, ?_, harr3, hbl.trans (hbl3.mono (by have := hbl.size; simp at this; omega))⟩
                rw [pSum_succ, Hgl.out, HS.out]
              case measure => simp [intOf]; omega
        · obtain rfl : k = foes.length := by omega
          go_wp2
          go_ret
          exact Fin HQ ⟨rfl, hbel.trans (hbl.mono (by omega))⟩
end Go.Proofs.Lx
