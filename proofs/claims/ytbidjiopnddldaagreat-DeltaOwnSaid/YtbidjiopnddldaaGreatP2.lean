/- Parts of the proof: Cd, Ce, Cf, Ta. Contracts of theory.rule, pairs, CheckFacts; make of slices. -/
import Derived.Test.YtbidjiopnddldaaGreatP1
namespace Go.Proofs.Lx
open Go Go.RowKit
set_option linter.unusedSimpArgs false
set_option linter.unusedVariables false

theorem infoI : (Tryz.prog.info? 3).map (fun i => (i.zero, i.size, i.bytes)) = some (some (.int .i64 0), 1, 8) := by kernel_rfl
theorem infoB : (Tryz.prog.info? 4).map (fun i => (i.zero, i.size, i.bytes)) = some (some (.bool false), 1, 1) := by kernel_rfl
theorem infoM : (Tryz.prog.info? 58).map (fun i => (i.zero, i.size, i.bytes)) = some (some (.int .u8 0), 1, 1) := by kernel_rfl
theorem infoL : (Tryz.prog.info? 36).map (fun i => (i.zero, i.size, i.bytes)) = some (some (.slice none 0 0), 1, 24) := by kernel_rfl
section
variable (n : Int) (h0 : 0 ≤ n) (hn : n ≤ 140737488355)
include h0 hn
theorem mkI : ∀ W : World, (Instr.makeSlice 36 (.int .i64 n) (.int .i64 n)).run Tryz.prog W = .ok (.slice (some ⟨W.heap.size, 0, none⟩) n.toNat n.toNat) (W.alloc (.cells (madeCells #[.int .i64 0] n.toNat) 3)) := by
 intro W; obtain ⟨m, rfl⟩ := Int.eq_ofNat_of_zero_le h0
 exact run_make_row' _ _ _ 8 Tryz.underlying36 infoI rfl .i64 .i64 m (by omega) (by omega) W
theorem mkB : ∀ W : World, (Instr.makeSlice 90 (.int .i64 n) (.int .i64 n)).run Tryz.prog W = .ok (.slice (some ⟨W.heap.size, 0, none⟩) n.toNat n.toNat) (W.alloc (.cells (madeCells #[.bool false] n.toNat) 4)) := by
 intro W; obtain ⟨m, rfl⟩ := Int.eq_ofNat_of_zero_le h0
 exact run_make_row' _ _ _ 1 Tryz.underlying90 infoB rfl .i64 .i64 m (by omega) (by omega) W
theorem mkM : ∀ W : World, (Instr.makeSlice 40 (.int .i64 n) (.int .i64 n)).run Tryz.prog W = .ok (.slice (some ⟨W.heap.size, 0, none⟩) n.toNat n.toNat) (W.alloc (.cells (madeCells #[.int .u8 0] n.toNat) 58)) := by
 intro W; obtain ⟨m, rfl⟩ := Int.eq_ofNat_of_zero_le h0
 exact run_make_row' _ _ _ 1 Tryz.underlying40 infoM rfl .i64 .i64 m (by omega) (by omega) W
theorem mkL : ∀ W : World, (Instr.makeSlice 22 (.int .i64 n) (.int .i64 n)).run Tryz.prog W = .ok (.slice (some ⟨W.heap.size, 0, none⟩) n.toNat n.toNat) (W.alloc (.cells (madeCells #[.slice none 0 0] n.toNat) 36)) := by
 intro W; obtain ⟨m, rfl⟩ := Int.eq_ofNat_of_zero_le h0
 exact run_make_row' _ _ _ 24 Tryz.underlying22 infoL rfl .i64 .i64 m (by omega) (by omega) W
end

theorem checkFacts_any (w : World) (V v : Value) (T : Th) (l : List Int) (hT : RdTh w V T) (hv : RdI w v l) :
  Calls Tryz.prog 47 #[V, v] w (Ret fun v w' => v = .int .i64 (bif risB l T.lits then 0 else 181) ∧ Below w.heap.size w w') := by
 obtain ⟨vF, vR, vB, rfl, _, _, _⟩ := hT
 have hbel := ext_alloc w (.cells #[.int .i64 T.lits, vF, vR, vB] 25)
 have hv1 := hv.ext (scR_mono _) hbel
 refine post_gen fun Q HQ => ?_
 cases hr : risB l T.lits with
 | false =>
  have Hr := hid hr
  go_enter Tryz.func47, Tryz.ntmps47
  go_wp2_with (go_at_call 73; refine (rising_any _ _ _ _ hv1).mono ?_; rintro e w' ⟨_, rfl, rfl, rfl⟩)
  go_ret
  exact Fin HQ ⟨by rw [Hr.out]; rfl, hbel⟩
 | true =>
  have Hr := hid hr
  go_enter Tryz.func47, Tryz.ntmps47
  go_wp2_with (go_at_call 73; refine (rising_any _ _ _ _ hv1).mono ?_; rintro e w' ⟨_, rfl, rfl, rfl⟩)
  go_ret
  exact Fin HQ ⟨by rw [Hr.out]; rfl, hbel⟩

def RdRule (w : World) (v : Value) (r : Rule) : Prop := ∃ u, v = .agg #[.int .i64 r.kind, .int .i64 r.head, u] ∧ RdI w u r.body
def ruleOk (lits : Int) (r : Rule) : Bool := decide (1 ≤ r.kind) && decide (r.kind ≤ 3) && decide (0 ≤ r.head) && decide (r.head < lits) && decide (r.body.length ≤ 16) && risB r.body lits

set_option maxHeartbeats 800000 in
theorem rule_any (w : World) (V v : Value) (T : Th) (r : Rule) (hT : RdTh w V T) (hv : RdRule w v r) :
  Calls Tryz.prog 92 #[V, v] w (Ret fun v w' => v = .bool (ruleOk T.lits r) ∧ Below w.heap.size w w') := by
 obtain ⟨vF, vR, vB, rfl, _, _, _⟩ := hT
 obtain ⟨u, rfl, B, cB, rfl, hcB, hbB, hrB⟩ := hv
 have hbel := ext_alloc w (.cells #[.int .i64 T.lits, vF, vR, vB] 25)
 have hbel2 := ext_alloc (w.alloc (.cells #[.int .i64 T.lits, vF, vR, vB] 25)) (.cells #[.int .i64 r.kind, .int .i64 r.head, .slice B r.body.length cB] 93)
 have hbe := ext_trans hbel hbel2
 have hv1 : RdI ((w.alloc (.cells #[.int .i64 T.lits, vF, vR, vB] 25)).alloc (.cells #[.int .i64 r.kind, .int .i64 r.head, .slice B r.body.length cB] 93)) (.slice B r.body.length cB) r.body := ⟨B, cB, rfl, hcB, hbB, hrB.ext (scR_mono _) hbe⟩
 refine post_gen fun Q HQ => ?_
 by_cases h1 : 1 ≤ r.kind ∧ r.kind ≤ 3 ∧ 0 ≤ r.head ∧ r.head < T.lits ∧ r.body.length ≤ 16
 ·obtain ⟨a1, a2, a3, a4, a5⟩ := h1
  have Hok : Hid (ruleOk T.lits r = risB r.body T.lits) := by simp [Hid, ruleOk, a1, a2, a3, a4, a5]
  cases hr : risB r.body T.lits with
  | false =>
   have Hr := hid hr
   go_enter Tryz.func92, Tryz.ntmps92
   go_wp2_with (go_at_call 73; refine (rising_any _ _ _ _ hv1).mono ?_; rintro e w' ⟨_, rfl, rfl, rfl⟩)
   go_ret
   exact Fin HQ ⟨by rw [Hok.out, Hr.out]; rfl, hbe⟩
  | true =>
   have Hr := hid hr
   go_enter Tryz.func92, Tryz.ntmps92
   go_wp2_with (go_at_call 73; refine (rising_any _ _ _ _ hv1).mono ?_; rintro e w' ⟨_, rfl, rfl, rfl⟩)
   go_ret
   exact Fin HQ ⟨by rw [Hok.out, Hr.out]; rfl, hbe⟩
 ·have Hok : Hid (ruleOk T.lits r = false) := by
   simp only [Hid, ruleOk]
   rw [Bool.eq_false_iff]; intro h
   simp at h
   omega
  go_enter Tryz.func92, Tryz.ntmps92
  go_wp2_with (go_at_call 73; refine (rising_any _ _ _ _ hv1).mono ?_; rintro e w' ⟨_, rfl, rfl, rfl⟩)
  all_goals (go_ret; exact Fin HQ ⟨by rw [Hok.out]; rfl, hbe⟩)
end Go.Proofs.Lx

namespace Go.Proofs.Lx
open Go Go.RowKit
set_option linter.unusedSimpArgs false
set_option linter.unusedVariables false

def hcnt (rs : List Rule) (q : Int) : Nat := rs.countP fun r => r.head == q
def cntUpto (rs : List Rule) (n k : Nat) : List Int := (List.range n).map fun (q : Nat) => (hcnt (rs.take k) (q : Int) : Int)
theorem cntUpto_length (rs : List Rule) (n k : Nat) : (cntUpto rs n k).length = n := by simp [cntUpto]
theorem cntUpto_zero (rs : List Rule) (n : Nat) : cntUpto rs n 0 = List.replicate n 0 := by
 apply List.ext_getElem <;> simp [cntUpto, hcnt]
theorem cntUpto_at (rs : List Rule) (n k q : Nat) (hq : q < n) : (cntUpto rs n k)[q]'(by rw [cntUpto_length]; exact hq) = (hcnt (rs.take k) (q : Int) : Int) := by simp [cntUpto]
theorem hcnt_le (rs : List Rule) (k : Nat) (q : Int) : hcnt (rs.take k) q ≤ k := by
 have h1 := List.countP_le_length (p := fun r : Rule => r.head == q) (l := rs.take k)
 have h2 : (rs.take k).length ≤ k := List.length_take_le _ _
 unfold hcnt; omega
theorem cntUpto_succ (rs : List Rule) (n k : Nat) (hk : k < rs.length) (h0 : 0 ≤ rs[k].head) (h1 : rs[k].head < n) :
  cntUpto rs n (k + 1) = (cntUpto rs n k).set rs[k].head.toNat ((hcnt (rs.take k) rs[k].head : Int) + 1) := by
 apply List.ext_getElem
 ·simp [cntUpto_length]
 ·intro q hq1 hq2
  rw [cntUpto_length] at hq1
  rw [List.getElem_set, cntUpto_at _ _ _ _ hq1]
  rw [hcnt, List.take_succ_eq_append_getElem hk, List.countP_append]
  by_cases e : rs[k].head.toNat = q
  ·rw [if_pos e]
   subst e
   have : ((rs[k].head.toNat : Nat) : Int) = rs[k].head := by omega
   rw [this]
   simp [hcnt]
  ·rw [if_neg e, cntUpto_at _ _ _ _ hq1, hcnt]
   have : ¬ (rs[k].head = (q : Int)) := by omega
   simp [this]
def hList (rs : List Rule) (n : Nat) : List Int := (List.range n).map fun (q : Nat) => (hcnt rs (q : Int) : Int)
theorem hList_length (rs : List Rule) (n : Nat) : (hList rs n).length = n := by simp [hList]
theorem hList_at (rs : List Rule) (n : Nat) {q : Nat} (hq : q < n) : (hList rs n)[q]'(by rw [hList_length]; exact hq) = (hcnt rs (q : Int) : Int) := by simp [hList]
theorem cntUpto_all (rs : List Rule) (n : Nat) : cntUpto rs n rs.length = hList rs n := by simp [cntUpto, hList]
def pRow (rs : List Rule) (l : List Int) (q j : Nat) : Nat := ((l.take j).map fun f => hcnt rs q * hcnt rs f).sum
def pSum (rs : List Rule) (fo : List (List Int)) (k : Nat) : Nat := ((List.range k).map fun q => pRow rs (fo.getD q []) q (fo.getD q []).length).sum
/-- How many ordered pairs of rules have heads that are foes. -/
def pairCount (T : Th) : Nat := pSum T.rules T.foes T.foes.length
theorem hcnt_len (rs : List Rule) (q : Int) : hcnt rs q ≤ rs.length := List.countP_le_length
theorem pRow_succ {rs : List Rule} {l : List Int} {q j : Nat} (hj : j < l.length) : pRow rs l q (j + 1) = pRow rs l q j + hcnt rs q * hcnt rs l[j] := by
 unfold pRow; rw [List.take_succ_eq_append_getElem hj, List.map_append, List.sum_append]; simp
theorem pSum_succ {rs : List Rule} {fo : List (List Int)} {k : Nat} : pSum rs fo (k + 1) = pSum rs fo k + pRow rs (fo.getD k []) k (fo.getD k []).length := by
 unfold pSum; rw [List.range_succ, List.map_append, List.sum_append]; simp
theorem prod_le {a b : Nat} (ha : a ≤ 4096) (hb : b ≤ 4096) : a * b ≤ 16777216 := Nat.le_trans (Nat.mul_le_mul ha hb) (by decide)
theorem pRow_le {rs : List Rule} {l : List Int} {q : Nat} (hr : rs.length ≤ 4096) : ∀ j, j ≤ l.length → pRow rs l q j ≤ j * 16777216
 | 0, _ => by simp [pRow]
 | j + 1, h => by
  rw [pRow_succ (by omega)]
  have := pRow_le (l := l) (q := q) hr j (by omega)
  have := prod_le (Nat.le_trans (hcnt_len rs q) hr) (Nat.le_trans (hcnt_len rs l[j]) hr)
  omega
theorem pSum_le {rs : List Rule} {fo : List (List Int)} (hr : rs.length ≤ 4096) (hf : ∀ q, q < fo.length → (fo.getD q []).length ≤ 64) : ∀ k, k ≤ fo.length → pSum rs fo k ≤ k * 1073741824
 | 0, _ => by simp [pSum]
 | k + 1, h => by
  rw [pSum_succ]
  have := pSum_le hr hf k (by omega)
  have h2 := pRow_le (l := fo.getD k []) (q := k) hr _ (Nat.le_refl _)
  have h3 := hf k (by omega)
  have : (fo.getD k []).length * 16777216 ≤ 64 * 16777216 := Nat.mul_le_mul_right _ h3
  omega
theorem foesOk_spec {T : Th} (h : foesAll T = true) (q : Nat) (hq : q < T.foes.length) : T.foes[q].length ≤ 64 ∧ risB T.foes[q] T.lits = true ∧ memB T.foes[q] q = false ∧ ∀ f ∈ T.foes[q], memB (row T.foes f) q = true := by
 have := foesAll_true.1 h q hq
 simp only [foesOk, Bool.and_eq_true, decide_eq_true_eq, Bool.not_eq_true', List.all_eq_true] at this
 have e : T.foes.getD q [] = T.foes[q] := by simp [hq]
 rw [e] at this
 exact ⟨this.1.1.1, this.1.1.2, this.1.2, this.2⟩
theorem ruleOk_head {lits : Int} {r : Rule} (h : ruleOk lits r = true) : 0 ≤ r.head ∧ r.head < lits := by
 simp [ruleOk] at h; omega

set_option maxHeartbeats 1600000 in
theorem pairs_any (w : World) (V : Value) (T : Th) (hT : RdTh w V T) (hl : (T.foes.length : Int) = T.lits) (h4 : T.lits ≤ 4096) (hfo : foesAll T = true)
  (hru : T.rules.length ≤ 4096) (hrr : ∀ r ∈ T.rules, ruleOk T.lits r = true) :
  Calls Tryz.prog 93 #[V] w (Ret fun v w' => v = .int .i64 (pairCount T : Nat) ∧ Below w.heap.size w w') := by
 obtain ⟨lits, foes, rules, beats⟩ := T
 obtain ⟨vF, vR, vB, rfl, ⟨A, c, rfl, hc, hb, hr⟩, ⟨AR, cR, rfl, hcR, hbR, hrR⟩, _⟩ := hT
 dsimp only at *
 obtain rfl : lits = (foes.length : Int) := hl.symm
 clear hl
 have hbel := ext_alloc w (.cells #[.int .i64 foes.length, .slice A foes.length c, .slice AR rules.length cR, vB] 25)
 have hr1 := hr.ext llR_mono hbel
 have hrR1 := hrR.ext ruleR_mono hbel
 have hmk := mkI foes.length (by omega) (by omega)
 rw [Int.toNat_natCast] at hmk
 have Hfo := hid hfo
 have Hrr := hid hrr
 clear hr hrR hfo hrr
 refine post_gen fun Q HQ => ?_
 go_enter Tryz.func93, Tryz.ntmps93
 go_wp2
 clear hmk
 go_loopw [17] (fun v17 wr => ∃ k : Nat, k ≤ rules.length ∧ v17 = .int .i64 k ∧ Arr (Value.int .i64) 3 wr (w.heap.size + 1) (cntUpto rules foes.length k) ∧ Below (w.heap.size + 1) (w.alloc (.cells #[.int .i64 foes.length, .slice A foes.length c, .slice AR rules.length cR, vB] 25)) wr) (fun v17 _ => rules.length - (intOf v17).toNat)
 case atStart =>
  refine ⟨0, Nat.zero_le _, rfl, ?_, ?_⟩
  ·rw [cntUpto_zero]
   have := made_arr (Value.int .i64) (0 : Int) 3 (w.alloc (.cells #[.int .i64 foes.length, .slice A foes.length c, .slice AR rules.length cR, vB] 25)) foes.length
   simpa using this
  ·exact (Below.refl _ _).alloc (by simp) _
 case round =>
  obtain ⟨k, hk, rfl, harr, hbl⟩ := hrel
  have hbl' : Below (w.alloc (.cells #[.int .i64 foes.length, .slice A foes.length c, .slice AR rules.length cR, vB] 25)).heap.size (w.alloc (.cells #[.int .i64 foes.length, .slice A foes.length c, .slice AR rules.length cR, vB] 25)) wr := by simpa using hbl
  by_cases hlt : k < rules.length
  ·obtain ⟨ad, B, cB, rfl, hc0, hc1, hc2, hcB, hbB, hrB⟩ := (hrR1.ext ruleR_mono hbl').atRule hlt
   have Hrk := hid (Hrr.out _ (List.getElem_mem hlt))
   obtain ⟨hh0, hh1⟩ := ruleOk_head Hrk.out
   have hg := harr.lt
   have Hs := hid (cntUpto_succ rules foes.length k hlt hh0 hh1)
   have hhc := harr.cell (i := rules[k].head.toNat) (by rw [cntUpto_length]; omega)
   rw [cntUpto_at _ _ _ _ (by omega), show ((rules[k].head.toNat : Nat) : Int) = rules[k].head from by omega] at hhc
   have hhf := harr.free rules[k].head.toNat
   have hle := hcnt_le rules k rules[k].head
   generalize hcnt (rules.take k) rules[k].head = y at *
   generalize hh : rules[k].head = hd at *
   have Hh := hid hh
   clear hh
   go_wp2
   go_roundw
   case rel =>
    refine ⟨k + 1, by omega, by go_num, ?_, ?_⟩
    ·rw [Hs.out]
     exact (harr.set hd.toNat ((y : Int) + 1)).alloc _
    ·exact (hbl.setCell (Nat.le_refl _) _).alloc (by simp only [World.size_setCell]; omega) _
   case measure => simp [intOf]; omega
  ·have hk2 : k = rules.length := by omega
   subst hk2
   rw [cntUpto_all] at harr
   clear hlt hk hbl'
   have hb1 : wr.cell? ⟨w.heap.size, 1, none⟩ = some (.slice A foes.length c) := box_cell hbl 1
   go_wp2
   clear hb1
   obtain ⟨wo, hwo⟩ : ∃ wo : World, wo = wr := ⟨_, rfl⟩
   clear wo hwo
   go_loopw [32, 6] (fun v32 v6 w2 => ∃ k : Nat, k ≤ foes.length ∧ v32 = .int .i64 k ∧ v6 = .int .i64 (pSum rules foes k : Nat) ∧ Arr (Value.int .i64) 3 w2 (w.heap.size + 1) (hList rules foes.length) ∧ Below (w.heap.size + 1) (w.alloc (.cells #[.int .i64 foes.length, .slice A foes.length c, .slice AR rules.length cR, vB] 25)) w2) (fun v32 _ _ => foes.length - (intOf v32).toNat)
   case atStart => exact ⟨0, Nat.zero_le _, rfl, rfl, harr, hbl⟩
   case round =>
    clear harr hbl
    obtain ⟨k, hk, rfl, rfl, harr, hbl⟩ := hrel
    obtain ⟨wo, rfl⟩ : ∃ wo : World, wo = wr := ⟨_, rfl⟩
    by_cases hlt : k < foes.length
    ·have hbl' : Below (w.alloc (.cells #[.int .i64 foes.length, .slice A foes.length c, .slice AR rules.length cR, vB] 25)).heap.size (w.alloc (.cells #[.int .i64 foes.length, .slice A foes.length c, .slice AR rules.length cR, vB] 25)) wo := by simpa using hbl
     obtain ⟨ad, B, cB, rfl, hcell, hcB, hbB, hrB⟩ := (hr1.ext llR_mono hbl').atRow hlt
     obtain ⟨h64, hris, _, _⟩ := foesOk_spec Hfo.out k hlt
     have Hris := hid (risB_spec hris).1
     have hps := pSum_le (fo := foes) hru (fun q hq => by rw [List.getD_eq_getElem?_getD, List.getElem?_eq_getElem hq]; exact (foesOk_spec Hfo.out q hq).1) k (by omega)
     have Hgl : Hid (foes.getD k [] = foes[k]) := by simp [Hid, hlt]
     clear hris
     dsimp only at h64 Hris
     generalize hS : pSum rules foes k = S at *
     have HS := hid hS
     clear hS
     generalize hL : foes[k] = L at *
     have HL := hid hL
     clear hL
     go_wp2
     clear hcell
     go_loopw [39, 6] (fun v39 v6 w3 => ∃ j : Nat, j ≤ L.length ∧ v39 = .int .i64 j ∧ v6 = .int .i64 ((S + pRow rules L k j : Nat) : Int) ∧ Arr (Value.int .i64) 3 w3 (w.heap.size + 1) (hList rules foes.length) ∧ Below wo.heap.size wo w3) (fun v39 _ _ => L.length - (intOf v39).toNat)
     case atStart => exact ⟨0, Nat.zero_le _, rfl, by simp [pRow], harr, ext_refl _⟩
     case round =>
      obtain ⟨j, hj, rfl, rfl, harr3, hbl3⟩ := hrel
      have hpr := pRow_le (l := L) (q := k) hru j hj
      by_cases hjl : j < L.length
      ·obtain ⟨adb, rfl, hcj⟩ := (hrB.ext (scR_mono _) hbl3).at1 hjl
       have hrange := Hris.out j hjl
       have hX2 : L[j].toNat < foes.length := by omega
       have ha := harr3.cell (i := k) (by rw [hList_length]; omega)
       have hx := harr3.cell (i := L[j].toNat) (by rw [hList_length]; omega)
       rw [hList_at _ _ hlt] at ha
       rw [hList_at _ _ hX2] at hx
       have hp1 := prod_le (Nat.le_trans (hcnt_len rules k) hru) (Nat.le_trans (hcnt_len rules (L[j].toNat : Nat)) hru)
       have hee : ((L[j].toNat : Nat) : Int) = L[j] := by omega
       have Hps : Hid (pRow rules L k (j + 1) = pRow rules L k j + hcnt rules k * hcnt rules (L[j].toNat : Nat)) := by rw [hee]; exact pRow_succ hjl
       generalize pRow rules L k j = R at *
       generalize L[j] = X at *
       generalize hcnt rules k = a at *
       generalize hcnt rules (X.toNat : Nat) = b at *
       have hp2 : (a : Int) * b = ((a * b : Nat) : Int) := by simp
       have hp3 : 0 ≤ (a : Int) * b ∧ (a : Int) * b ≤ 16777216 := by omega
       obtain ⟨hp4, hp5⟩ := hp3
       have Hp2 := hid hp2
       clear hp2 hee
       go_wp2
       go_quiet (fail)
       go_wp2
       go_roundw
       case rel =>
        refine ⟨j + 1, by omega, by go_num, ?_, harr3.drewN _, below_drewN hbl3 _⟩
        rw [Hps.out]
        exact int_eq (by have := Hp2.out; omega)
       case measure => simp [intOf]; omega
      ·obtain rfl : j = L.length := by omega
       go_wp2
       go_roundw
       case rel =>
        refine ⟨k + 1, by omega, by go_num, ?_, harr3, hbl.trans (hbl3.mono (by have := hbl.size; simp at this; omega))⟩
        rw [pSum_succ, Hgl.out, HS.out]
       case measure => simp [intOf]; omega
    ·obtain rfl : k = foes.length := by omega
     go_wp2
     go_ret
     exact Fin HQ ⟨rfl, hbel.trans (hbl.mono (by omega))⟩
end Go.Proofs.Lx

namespace Go.Proofs.Lx
open Go Go.RowKit
set_option linter.unusedSimpArgs false
set_option linter.unusedVariables false

def headOf (T : Th) (i : Int) : Int := (T.rules.getD i.toNat default).head
def beatsOk (T : Th) (r : Nat) : Bool := risB (T.beats.getD r []) T.rules.length && (T.beats.getD r []).all fun s => memB (row T.foes (headOf T r)) (headOf T s)
def beatsAll (T : Th) : Bool := (List.range T.beats.length).all (beatsOk T)
theorem beatsAll_true {T : Th} : beatsAll T = true ↔ ∀ q, q < T.beats.length → beatsOk T q = true := by simp [beatsAll]
theorem beatsAll_false {T : Th} {q : Nat} (h : q < T.beats.length) (hf : beatsOk T q = false) : beatsAll T = false := by
 rw [Bool.eq_false_iff]; intro ht
 rw [beatsAll_true.1 ht q h] at hf; cases hf
theorem has_plain (w : World) (v : Value) (l : List Int) (x : Int) (hv : RdI w v l) (hs : l.Pairwise (· < ·)) :
  Calls Tryz.prog 105 #[v, .int .i64 x] w fun e w' => e = .returned (.bool (memB l x)) ∧ w' = w :=
 (has_any w v l x hv hs).mono fun e w' ⟨v, he, hv, hw⟩ => ⟨by rw [he, hv], hw⟩

set_option maxHeartbeats 1600000 in
theorem beats_any (w : World) (V : Value) (T : Th) (hT : RdTh w V T) (hl : (T.foes.length : Int) = T.lits) (hfo : foesAll T = true)
  (hrr : ∀ r ∈ T.rules, ruleOk T.lits r = true) (hbl : T.beats.length = T.rules.length) (h4 : T.rules.length ≤ 4096) :
  Calls Tryz.prog 94 #[V] w (Ret fun v w' => (∃ r : Int, v = .int .i64 r ∧ (r < 0 ↔ beatsAll T = true)) ∧ Below w.heap.size w w') := by
 obtain ⟨lits, foes, rules, beats⟩ := T
 obtain ⟨vF, vR, vB, rfl, ⟨A, c, rfl, hc, hb, hr⟩, ⟨AR, cR, rfl, hcR, hbR, hrR⟩, ⟨AB, cB, rfl, hcB, hbB, hrB⟩⟩ := hT
 dsimp only at *
 obtain rfl : lits = (foes.length : Int) := hl.symm
 clear hl
 have hbel := ext_alloc w (.cells #[.int .i64 foes.length, .slice A foes.length c, .slice AR rules.length cR, .slice AB beats.length cB] 25)
 have hr1 := hr.ext llR_mono hbel
 have hrR1 := hrR.ext ruleR_mono hbel
 have hrB1 := hrB.ext llR_mono hbel
 have Hfo := hid hfo
 have Hrr := hid hrr
 have Hbl := hid hbl
 have hbl1 : beats.length ≤ rules.length := by omega
 have hbl2 : rules.length ≤ beats.length := by omega
 clear hr hrR hrB hfo hrr hbl
 refine post_gen fun Q HQ => ?_
 go_enter Tryz.func94, Tryz.ntmps94
 go_wp2
 obtain ⟨W1, HW1⟩ : ∃ W1, Hid (W1 = w.alloc (.cells #[.int .i64 foes.length, .slice A foes.length c, .slice AR rules.length cR, .slice AB beats.length cB] 25)) := ⟨_, rfl⟩
 have b1 : W1.cell? ⟨w.heap.size, 1, none⟩ = some (.slice A foes.length c) := by rw [HW1.out]; exact box_cell (Below.refl _ _) 1
 have b2 : W1.cell? ⟨w.heap.size, 2, none⟩ = some (.slice AR rules.length cR) := by rw [HW1.out]; exact box_cell (Below.refl _ _) 2
 rw [← HW1.out] at hbel hr1 hrR1 hrB1 ⊢
 go_loopw [10] (fun v10 wr => ∃ k : Nat, k ≤ beats.length ∧ v10 = .int .i64 k ∧ Hid (∀ i, i < k → beatsOk ⟨foes.length, foes, rules, beats⟩ i = true) ∧ Below W1.heap.size W1 wr) (fun v10 _ => beats.length - (intOf v10).toNat)
 case atStart => exact ⟨0, Nat.zero_le _, rfl, fun i hk => absurd hk (by omega), ext_refl _⟩
 case round =>
  obtain ⟨k, hk, rfl, hno, hbl⟩ := hrel
  have b1' := cell_ext hbl b1
  have b2' := cell_ext hbl b2
  obtain ⟨wo, rfl⟩ : ∃ wo : World, wo = wr := ⟨_, rfl⟩
  by_cases hlt : k < beats.length
  ·obtain ⟨ad, B, cL, rfl, hcell, hcL, hbL, hrL⟩ := (hrB1.ext llR_mono hbl).atRow hlt
   have Hg : Hid (beats.getD k [] = beats[k]) := by simp [Hid, hlt]
   have Hbad : ∀ r : Int, 0 ≤ r → beatsOk ⟨foes.length, foes, rules, beats⟩ k = false → ∃ r', Value.int .i64 r = .int .i64 r' ∧ (r' < 0 ↔ beatsAll ⟨foes.length, foes, rules, beats⟩ = true) := fun r h0 hf => ⟨r, rfl, by rw [beatsAll_false hlt hf]; simp; omega⟩
   have Hbad := hid Hbad
   generalize hL : beats[k] = L at *
   have HL := hid hL
   clear hL
   have hRL : RdI wo (.slice B L.length cL) L := ⟨B, cL, rfl, hcL, hbL, hrL⟩
   cases hris : risB L rules.length with
   | false =>
    have Hris := hid hris
    go_wp2_with (go_at_call 73; refine (rising_any _ _ _ _ hRL).mono ?_; rintro e w' ⟨_, rfl, rfl, rfl⟩)
    go_ret
    exact Fin HQ ⟨Hbad.out k (by omega) (by simp only [beatsOk, Hg.out]; rw [Hris.out]; simp), ext_trans hbel hbl⟩
   | true =>
    have Hris := hid hris
    have Hsp := hid (risB_spec hris)
    go_wp2_with (go_at_call 73; refine (rising_any _ _ _ _ hRL).mono ?_; rintro e w' ⟨_, rfl, rfl, rfl⟩)
    clear hris hcell b1' b2'
    go_loopw [24] (fun v24 w3 => ∃ j : Nat, j ≤ L.length ∧ v24 = .int .i64 j ∧ Hid (∀ i (h : i < L.length), i < j → memB (row foes (headOf ⟨foes.length, foes, rules, beats⟩ k)) (headOf ⟨foes.length, foes, rules, beats⟩ L[i]) = true) ∧ Below w'.heap.size w' w3) (fun v24 _ => L.length - (intOf v24).toNat)
    case atStart => exact ⟨0, Nat.zero_le _, rfl, fun i h hk => absurd hk (by omega), ext_refl _⟩
    case round =>
     obtain ⟨j, hj, rfl, hin, hbl3⟩ := hrel
     have hbl4 := ext_trans hbl hbl3
     have b1' := cell_ext hbl4 b1
     have b2' := cell_ext hbl4 b2
     by_cases hjl : j < L.length
     ·obtain ⟨adL, rfl, hcj⟩ := (hrL.ext (scR_mono _) hbl3).at1 hjl
      have hrange := Hsp.out.1 j hjl
      have hkr : k < rules.length := by omega
      have hxr : L[j].toNat < rules.length := by omega
      obtain ⟨adR, B1, c1, rfl, p0, p1, p2, _, _, _⟩ := (hrR1.ext ruleR_mono hbl4).atRule hkr
      obtain ⟨adR', B2, c2, e2, q0, q1, q2, _, _, _⟩ := (hrR1.ext ruleR_mono hbl4).atRule hxr
      cases e2
      have hk0 := ruleOk_head (Hrr.out _ (List.getElem_mem hkr))
      have hfk : rules[k].head.toNat < foes.length := by omega
      obtain ⟨adF, CF, cF, rfl, hcF, hcF2, hbF, hrF⟩ := (hr1.ext llR_mono hbl4).atRow hfk
      have Hk1 : Hid (headOf ⟨foes.length, foes, rules, beats⟩ k = rules[k].head) := by simp [Hid, headOf, hkr]
      have Hx1 : Hid (headOf ⟨foes.length, foes, rules, beats⟩ L[j] = rules[L[j].toNat].head) := by simp [Hid, headOf, hxr]
      have Hrow : Hid (row foes rules[k].head = foes[rules[k].head.toNat]) := row_at hk0.1 (by omega)
      have Hps := hid (risB_spec (foesOk_spec Hfo.out rules[k].head.toNat hfk).2.1).2
      dsimp only at Hps
      have hRF : ∀ nq : Nat, RdI (wr.drewN nq) (.slice CF foes[rules[k].head.toNat].length cF) foes[rules[k].head.toNat] := fun nq => ⟨CF, cF, rfl, hcF2, hbF, hrF.ext (scR_mono _) (ext_drewN _ _)⟩
      have HRF := hid hRF
      clear hRF
      obtain ⟨hk00, hk01⟩ := hk0
      obtain ⟨hr00, hr01⟩ := hrange
      generalize hX : L[j] = X at *
      have HX := hid hX
      clear hX
      generalize hh : rules[k].head = hd at *
      have Hh := hid hh
      clear hh
      generalize hh2 : rules[X.toNat].head = hx at *
      have Hh2 := hid hh2
      clear hh2
      generalize hY : foes[hd.toNat] = Y at *
      have HY := hid hY
      clear hY
      cases hm : memB Y hx with
      | false =>
       have Hm := hid hm
       go_wp2
       go_quiet ((go_at_call 105; exact Calls.quiet_of_same (has_plain _ _ _ _ (HRF.out _) Hps.out)))
       go_wp2
       go_ret
       refine Fin HQ ⟨Hbad.out k (by omega) ?_, ext_trans hbel (ext_trans hbl4 (ext_drewN _ _))⟩
       simp only [beatsOk, Hg.out]
       rw [show (L.all fun s => memB (row foes (headOf ⟨foes.length, foes, rules, beats⟩ k)) (headOf ⟨foes.length, foes, rules, beats⟩ s)) = false from by
        rw [List.all_eq_false]; exact ⟨L[j], List.getElem_mem hjl, by rw [HX.out, Hx1.out, Hk1.out, Hrow.out, Hm.out]; simp⟩]
       simp
      | true =>
       have Hm := hid hm
       go_wp2
       go_quiet ((go_at_call 105; exact Calls.quiet_of_same (has_plain _ _ _ _ (HRF.out _) Hps.out)))
       go_wp2
       go_roundw
       case rel =>
        refine ⟨j + 1, by omega, by go_num, fun i h hi => ?_, below_drewN hbl3 _⟩
        by_cases e : i = j
        ·subst e; rw [HX.out, Hx1.out, Hk1.out, Hrow.out, Hm.out]
        ·exact hin.out i h (by omega)
       case measure => simp [intOf]; omega
     ·go_wp2
      go_roundw
      case rel =>
       refine ⟨k + 1, by omega, by go_num, fun i hi => ?_, hbl4⟩
       by_cases e : i = k
       ·subst e
        simp only [beatsOk, Hg.out, Hris.out, Bool.true_and]
        rw [List.all_eq_true]
        intro f hf
        obtain ⟨t, ht, rfl⟩ := List.getElem_of_mem hf
        exact hin.out t ht (by omega)
       ·exact hno.out i (by omega)
      case measure => simp [intOf]; omega
  ·go_wp2
   go_ret
   exact Fin HQ ⟨⟨-1, rfl, by simp only [show ((-1 : Int) < 0) by decide, true_iff]; exact beatsAll_true.2 fun q hq => hno.out q (by dsimp only at hq; omega)⟩, ext_trans hbel hbl⟩
end Go.Proofs.Lx

namespace Go.Proofs.Tj

inductive Leads (adj : Nat → List Nat) : Nat → Nat → Prop where
 | refl (x : Nat) : Leads adj x x
 | step {x y z : Nat} : Leads adj x y → z ∈ adj y → Leads adj x z
theorem Leads.trans {adj : Nat → List Nat} {x y z : Nat} (h : Leads adj x y) (k : Leads adj y z) : Leads adj x z := by
 induction k with
 | refl => exact h
 | step _ hz ih => exact .step ih hz
theorem Leads.edge {adj : Nat → List Nat} {x y : Nat} (h : y ∈ adj x) : Leads adj x y := .step (.refl x) h

def upd {α : Type} (f : Nat → α) (i : Nat) (x : α) : Nat → α := fun j => if j = i then x else f j
theorem upd_same {α : Type} (f : Nat → α) (i : Nat) (x : α) : upd f i x i = x := by simp [upd]
theorem upd_ne {α : Type} {f : Nat → α} {i j : Nat} {x : α} (h : j ≠ i) : upd f i x j = f j := by simp [upd, h]

structure TS where
 idx : Nat → Nat
 low : Nat → Nat
 on : Nat → Bool
 of : Nat → Nat
 stk : List Nat
 cnt : Nat
 kn : Nat

def visN (n : Nat) (f : Nat → Nat) : Nat := (List.range n).countP fun x => f x != 0
theorem visN_le (n : Nat) (f : Nat → Nat) : visN n f ≤ n := by
 have := List.countP_le_length (p := fun x => f x != 0) (l := List.range n)
 simpa [visN] using this
theorem visN_upd {f : Nat → Nat} {v c : Nat} (h0 : f v = 0) (hc : c ≠ 0) : ∀ n, visN n (upd f v c) = visN n f + (if v < n then 1 else 0)
 | 0 => by simp [visN]
 | n + 1 => by
  have ih := visN_upd (f := f) h0 hc n
  simp only [visN, List.range_succ, List.countP_append, List.countP_cons, List.countP_nil] at ih ⊢
  rw [ih]
  by_cases e : n = v
  ·subst e; simp [upd, hc, h0]
  ·have e' : v ≠ n := fun h => e h.symm
   rw [upd_ne e]
   by_cases h1 : v < n
   ·simp [h1, show v < n + 1 by omega]; omega
   ·simp [h1, show ¬ v < n + 1 by omega]

structure Inv (n : Nat) (adj : Nat → List Nat) (gs : List Nat) (s : TS) : Prop where
 idx_le : ∀ x, s.idx x ≤ s.cnt
 idx_inj : ∀ x y, s.idx x = s.idx y → s.idx x ≠ 0 → x = y
 vis_lt : ∀ x, s.idx x ≠ 0 → x < n
 cnt_eq : s.cnt = visN n s.idx
 sorted : s.stk.Pairwise fun x y => s.idx x < s.idx y
 stk_vis : ∀ x ∈ s.stk, s.idx x ≠ 0
 on_iff : ∀ x, s.on x = true ↔ x ∈ s.stk
 gs_stk : ∀ g ∈ gs, g ∈ s.stk
 r1 : ∀ x ∈ s.stk, ∀ y ∈ s.stk, s.idx x ≤ s.idx y → Leads adj x y
 r2 : ∀ y ∈ s.stk, ∃ g ∈ gs, s.idx g ≤ s.idx y ∧ Leads adj y g
 b1 : ∀ x, s.idx x ≠ 0 → x ∉ s.stk → ∀ y ∈ adj x, s.idx y ≠ 0 ∧ y ∉ s.stk
 b2 : ∀ x y, s.idx x ≠ 0 → x ∉ s.stk → s.idx y ≠ 0 → y ∉ s.stk → (s.of x = s.of y ↔ Leads adj x y ∧ Leads adj y x)
 b3 : ∀ x, s.idx x ≠ 0 → x ∉ s.stk → s.of x < s.kn
 bl : ∀ x, s.idx x ≠ 0 → x ∉ gs → ∀ y ∈ adj x, s.idx y ≠ 0
 kn_le : s.kn + s.stk.length ≤ s.cnt

structure Post (n : Nat) (adj : Nat → List Nat) (gs : List Nat) (v : Nat) (s s' : TS) : Prop where
 inv : Inv n adj gs s'
 iv : s'.idx v = s.cnt + 1
 old : ∀ x, s.idx x ≠ 0 → s'.idx x = s.idx x ∧ s'.low x = s.low x
 grow : s.cnt < s'.cnt
 ext : ∃ xs, s'.stk = s.stk ++ xs ∧ (∀ x ∈ xs, s.idx x = 0) ∧ ((xs = [] ∧ s'.low v = s'.idx v) ∨ (s'.low v < s'.idx v ∧ ∃ y ∈ s.stk, s.idx y = s'.low v ∧ Leads adj v y)) ∧
  ∀ x ∈ xs, ∀ y ∈ s.stk, y ∈ adj x → s'.low v ≤ s.idx y

structure LI (n : Nat) (adj : Nat → List Nat) (gs : List Nat) (v : Nat) (s : TS) (j : Nat) (c : TS) : Prop where
 inv : Inv n adj (v :: gs) c
 reach : ∀ g ∈ gs, Leads adj g v
 sv : s.idx v = 0
 iv : c.idx v = s.cnt + 1
 sle : ∀ x, s.idx x ≤ s.cnt
 old : ∀ x, s.idx x ≠ 0 → c.idx x = s.idx x ∧ c.low x = s.low x
 grow : s.cnt < c.cnt
 stk : ∃ xs, c.stk = s.stk ++ v :: xs ∧ (∀ x ∈ xs, s.idx x = 0) ∧ ∀ x ∈ xs, ∀ y ∈ s.stk, y ∈ adj x → c.low v ≤ s.idx y
 svis : ∀ x ∈ s.stk, s.idx x ≠ 0
 sgs : ∀ g ∈ gs, g ∈ s.stk
 low_le : c.low v ≤ c.idx v
 low : c.low v = c.idx v ∨ ∃ y ∈ s.stk, s.idx y = c.low v ∧ Leads adj v y
 succ : ∀ i (h : i < (adj v).length), i < j → c.idx (adj v)[i] ≠ 0 ∧ ((adj v)[i] ∈ s.stk → c.low v ≤ s.idx (adj v)[i])

def enter (s : TS) (v : Nat) : TS := { s with idx := upd s.idx v (s.cnt + 1), low := upd s.low v (s.cnt + 1), on := upd s.on v true, stk := s.stk ++ [v], cnt := s.cnt + 1 }
def setLow (s : TS) (v m : Nat) : TS := { s with low := upd s.low v m }

section
variable {n : Nat} {adj : Nat → List Nat} {gs : List Nat} {v : Nat} {s c : TS} {j : Nat}
theorem Post.vis {s' : TS} (h : Post n adj gs v s s') : s'.idx v ≠ 0 := by rw [h.iv]; omega

theorem Inv.setLow (h : Inv n adj gs s) (v m : Nat) : Inv n adj gs (setLow s v m) := ⟨h.1, h.2, h.3, h.4, h.5, h.6, h.7, h.8, h.9, h.10, h.11, h.12, h.13, h.14, h.15⟩

theorem begin0 (h : Inv n adj gs s) (hr : ∀ g ∈ gs, Leads adj g v) (hv : s.idx v = 0) (hn : v < n) : LI n adj gs v s 0 (enter s v) := by
 have hvs : v ∉ s.stk := fun hm => h.stk_vis v hm hv
 have hne : ∀ x, s.idx x ≠ 0 → x ≠ v := fun x hx e => hx (e ▸ hv)
 have hst : ∀ x ∈ s.stk, x ≠ v := fun x hx e => hvs (e ▸ hx)
 have hid : ∀ x, x ≠ v → (enter s v).idx x = s.idx x := fun x hx => upd_ne hx
 have hiv : (enter s v).idx v = s.cnt + 1 := upd_same _ _ _
 have hlv : (enter s v).low v = s.cnt + 1 := upd_same _ _ _
 have hmem : ∀ x, x ∈ (enter s v).stk ↔ x ∈ s.stk ∨ x = v := fun x => by simp [enter]
 refine ⟨⟨?_, ?_, ?_, ?_, ?_, ?_, ?_, ?_, ?_, ?_, ?_, ?_, ?_, ?_, ?_⟩, hr, hv, hiv, h.idx_le, ?_, ?_, ⟨[], by simp [enter], by simp, by simp⟩, h.stk_vis, h.gs_stk, by rw [hiv, hlv]; exact Nat.le_refl _, .inl (by rw [hiv, hlv]), fun i _ hi => absurd hi (by omega)⟩
 ·intro x
  by_cases e : x = v
  ·subst e; rw [hiv]; exact Nat.le_refl _
  ·rw [hid x e]; exact Nat.le_succ_of_le (h.idx_le x)
 ·intro x y hxy hx
  by_cases e : x = v <;> by_cases e' : y = v
  ·rw [e, e']
  ·subst e; rw [hiv, hid y e'] at hxy; have := h.idx_le y; omega
  ·subst e'; rw [hiv, hid x e] at hxy; have := h.idx_le x; omega
  ·rw [hid x e, hid y e'] at hxy; rw [hid x e] at hx; exact h.idx_inj x y hxy hx
 ·intro x hx
  by_cases e : x = v
  ·rw [e]; exact hn
  ·rw [hid x e] at hx; exact h.vis_lt x hx
 ·show s.cnt + 1 = visN n (upd s.idx v (s.cnt + 1))
  rw [visN_upd hv (by omega), if_pos hn, h.cnt_eq]
 ·show (s.stk ++ [v]).Pairwise _
  rw [List.pairwise_append]
  refine ⟨h.sorted.imp_of_mem fun {a b} ha hb hab => by rw [hid a (hst a ha), hid b (hst b hb)]; exact hab, by simp, fun a ha b hb => ?_⟩
  rw [List.mem_singleton] at hb
  subst hb
  rw [hiv, hid a (hst a ha)]; have := h.idx_le a; omega
 ·intro x hx
  by_cases e : x = v
  ·rw [e, hiv]; omega
  ·rw [hid x e]; exact h.stk_vis x (((hmem x).1 hx).resolve_right e)
 ·intro x
  rw [hmem]
  by_cases e : x = v
  ·simp [enter, upd, e]
  ·show upd s.on v true x = true ↔ _
   rw [upd_ne e, h.on_iff]; simp [e]
 ·intro g hg
  rw [hmem]
  rcases List.mem_cons.1 hg with e | hg
  ·exact .inr e
  ·exact .inl (h.gs_stk g hg)
 ·intro x hx y hy hxy
  rw [hmem] at hx hy
  rcases hx with hx | hx <;> rcases hy with hy | hy
  ·rw [hid x (hst x hx), hid y (hst y hy)] at hxy; exact h.r1 x hx y hy hxy
  ·subst hy
   obtain ⟨g, hg, _, hxg⟩ := h.r2 x hx
   exact hxg.trans (hr g hg)
  ·subst hx; rw [hiv, hid y (hst y hy)] at hxy; have := h.idx_le y; omega
  ·subst hx; subst hy; exact .refl _
 ·intro y hy
  rw [hmem] at hy
  rcases hy with hy | hy
  ·obtain ⟨g, hg, hle, hyg⟩ := h.r2 y hy
   exact ⟨g, List.mem_cons_of_mem _ hg, by rw [hid g (hst g (h.gs_stk g hg)), hid y (hst y hy)]; exact hle, hyg⟩
  ·exact ⟨v, List.mem_cons_self, by rw [hy]; exact Nat.le_refl _, by rw [hy]; exact .refl _⟩
 ·intro x hx hxs y hy
  rw [hmem] at hxs
  have e : x ≠ v := fun e => hxs (.inr e)
  rw [hid x e] at hx
  obtain ⟨h1, h2⟩ := h.b1 x hx (fun hm => hxs (.inl hm)) y hy
  have e' : y ≠ v := hne y h1
  rw [hid y e', hmem]
  exact ⟨h1, fun hm => hm.elim h2 e'⟩
 ·intro x y hx hxs hy hys
  rw [hmem] at hxs hys
  have e : x ≠ v := fun e => hxs (.inr e)
  have e' : y ≠ v := fun e => hys (.inr e)
  rw [hid x e] at hx; rw [hid y e'] at hy
  exact h.b2 x y hx (fun hm => hxs (.inl hm)) hy (fun hm => hys (.inl hm))
 ·intro x hx hxs
  rw [hmem] at hxs
  have e : x ≠ v := fun e => hxs (.inr e)
  rw [hid x e] at hx
  exact h.b3 x hx (fun hm => hxs (.inl hm))
 ·intro x hx hxg y hy
  have e : x ≠ v := fun e => hxg (by rw [e]; exact List.mem_cons_self)
  rw [hid x e] at hx
  have := h.bl x hx (fun hm => hxg (List.mem_cons_of_mem _ hm)) y hy
  rw [hid y (hne y this)]; exact this
 ·show s.kn + (s.stk ++ [v]).length ≤ s.cnt + 1
  have := h.kn_le
  simp; omega
 ·intro x hx
  exact ⟨hid x (hne x hx), upd_ne (hne x hx)⟩
 ·show s.cnt < s.cnt + 1
  omega

theorem LI.pre (h : LI n adj gs v s j c) (hj : j < (adj v).length) : ∀ g ∈ v :: gs, Leads adj g (adj v)[j] := by
 intro g hg
 have hvw : Leads adj v (adj v)[j] := .edge (List.getElem_mem hj)
 rcases List.mem_cons.1 hg with e | hg
 ·rw [e]; exact hvw
 ·exact (h.reach g hg).trans hvw

theorem min_cases (a b : Nat) : (min a b = a ∧ a ≤ b) ∨ (min a b = b ∧ b < a) := by omega
end
end Go.Proofs.Tj
