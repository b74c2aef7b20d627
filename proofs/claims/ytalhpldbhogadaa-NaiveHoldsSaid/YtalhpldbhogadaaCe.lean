/- Contract of theory.pairs. -/
import Derived.Test.YtalhpldbhogadaaCd
namespace Go.Proofs.Lx
open Go Go.RowKit
set_option linter.unusedSimpArgs false
set_option linter.unusedVariables false

def hcnt (rs : List Rule) (q : Int) : Nat := rs.countP fun r => r.head == q
def cntUpto (rs : List Rule) (n k : Nat) : List Int := (List.range n).map fun (q : Nat) => (hcnt (rs.take k) (q : Int) : Int)
theorem cntUpto_length (rs : List Rule) (n k : Nat) : (cntUpto rs n k).length = n := by simp [cntUpto]
theorem cntUpto_zero (rs : List Rule) (n : Nat) : cntUpto rs n 0 = List.replicate n 0 := by
  apply List.ext_getElem <;> simp [cntUpto, hcnt]
theorem cntUpto_at (rs : List Rule) (n k q : Nat) (hq : q < n) : (cntUpto rs n k)[q]'(by rw [cntUpto_length]; exact hq) = (hcnt (rs.take k) (q : Int) : Int) := by simp [cntUpto]
theorem hcnt_le (rs : List Rule) (k : Nat) (q : Int) : hcnt (rs.take k) q ≤ k := by
  have h1 := List.countP_le_length (p := fun r : Rule => r.head == q) (l := rs.take k)
  have h2 : (rs.take k).length ≤ k := List.length_take_le _ _
  unfold hcnt; omega
theorem cntUpto_get (rs : List Rule) (n k q : Nat) (hq : q < n) : (cntUpto rs n k).getD q 0 = (hcnt (rs.take k) (q : Int) : Int) := by
  rw [List.getD_eq_getElem?_getD, List.getElem?_eq_getElem (by rw [cntUpto_length]; exact hq), cntUpto_at _ _ _ _ hq]; rfl
theorem cntUpto_succ (rs : List Rule) (n k : Nat) (hk : k < rs.length) (h0 : 0 ≤ rs[k].head) (h1 : rs[k].head < n) :
    cntUpto rs n (k + 1) = (cntUpto rs n k).set rs[k].head.toNat ((hcnt (rs.take k) rs[k].head : Int) + 1) := by
  apply List.ext_getElem
  · simp [cntUpto_length]
  · intro q hq1 hq2
    rw [cntUpto_length] at hq1
    rw [List.getElem_set, cntUpto_at _ _ _ _ hq1]
    rw [hcnt, List.take_succ_eq_append_getElem hk, List.countP_append]
    by_cases e : rs[k].head.toNat = q
    · rw [if_pos e]
      subst e
      have : ((rs[k].head.toNat : Nat) : Int) = rs[k].head := by omega
      rw [this]
      simp [hcnt]
    · rw [if_neg e, cntUpto_at _ _ _ _ hq1, hcnt]
      have : ¬ (rs[k].head = (q : Int)) := by omega
      simp [this]
def hList (rs : List Rule) (n : Nat) : List Int := (List.range n).map fun (q : Nat) => (hcnt rs (q : Int) : Int)
theorem hList_length (rs : List Rule) (n : Nat) : (hList rs n).length = n := by simp [hList]
theorem hList_at (rs : List Rule) (n : Nat) {q : Nat} (hq : q < n) : (hList rs n)[q]'(by rw [hList_length]; exact hq) = (hcnt rs (q : Int) : Int) := by simp [hList]
theorem cntUpto_all (rs : List Rule) (n : Nat) : cntUpto rs n rs.length = hList rs n := by simp [cntUpto, hList]
def pRow (rs : List Rule) (l : List Int) (q j : Nat) : Nat := ((l.take j).map fun f => hcnt rs q * hcnt rs f).sum
def pSum (rs : List Rule) (fo : List (List Int)) (k : Nat) : Nat := ((List.range k).map fun q => pRow rs (fo.getD q []) q (fo.getD q []).length).sum
/-- How many ordered pairs of rules have heads that are foes. -/
def pairCount (T : Th) : Nat := pSum T.rules T.foes T.foes.length
theorem hcnt_len (rs : List Rule) (q : Int) : hcnt rs q ≤ rs.length := List.countP_le_length
theorem pRow_succ {rs : List Rule} {l : List Int} {q j : Nat} (hj : j < l.length) : pRow rs l q (j + 1) = pRow rs l q j + hcnt rs q * hcnt rs l[j] := by
  unfold pRow; rw [List.take_succ_eq_append_getElem hj, List.map_append, List.sum_append]; simp
theorem pSum_succ {rs : List Rule} {fo : List (List Int)} {k : Nat} : pSum rs fo (k + 1) = pSum rs fo k + pRow rs (fo.getD k []) k (fo.getD k []).length := by
  unfold pSum; rw [List.range_succ, List.map_append, List.sum_append]; simp
theorem prod_le {a b : Nat} (ha : a ≤ 4096) (hb : b ≤ 4096) : a * b ≤ 16777216 := Nat.le_trans (Nat.mul_le_mul ha hb) (by decide)
theorem pRow_le {rs : List Rule} {l : List Int} {q : Nat} (hr : rs.length ≤ 4096) : ∀ j, j ≤ l.length → pRow rs l q j ≤ j * 16777216
  | 0, _ => by simp [pRow]
  | j + 1, h => by
    rw [pRow_succ (by omega)]
    have := pRow_le (l := l) (q := q) hr j (by omega)
    have := prod_le (Nat.le_trans (hcnt_len rs q) hr) (Nat.le_trans (hcnt_len rs l[j]) hr)
    omega
theorem pSum_le {rs : List Rule} {fo : List (List Int)} (hr : rs.length ≤ 4096) (hf : ∀ q, q < fo.length → (fo.getD q []).length ≤ 64) : ∀ k, k ≤ fo.length → pSum rs fo k ≤ k * 1073741824
  | 0, _ => by simp [pSum]
  | k + 1, h => by
    rw [pSum_succ]
    have := pSum_le hr hf k (by omega)
    have h2 := pRow_le (l := fo.getD k []) (q := k) hr _ (Nat.le_refl _)
    have h3 := hf k (by omega)
    have : (fo.getD k []).length * 16777216 ≤ 64 * 16777216 := Nat.mul_le_mul_right _ h3
    omega
theorem foesOk_spec {T : Th} (h : foesAll T = true) (q : Nat) (hq : q < T.foes.length) : T.foes[q].length ≤ 64 ∧ risB T.foes[q] T.lits = true ∧ memB T.foes[q] q = false ∧ ∀ f ∈ T.foes[q], memB (row T.foes f) q = true := by
  have := foesAll_true.1 h q hq
  simp only [foesOk, Bool.and_eq_true, decide_eq_true_eq, Bool.not_eq_true', List.all_eq_true] at this
  have e : T.foes.getD q [] = T.foes[q] := by simp [hq]
  rw [e] at this
  exact ⟨this.1.1.1, this.1.1.2, this.1.2, this.2⟩
theorem ruleOk_head {lits : Int} {r : Rule} (h : ruleOk lits r = true) : 0 ≤ r.head ∧ r.head < lits := by
  simp [ruleOk] at h; omega

set_option maxHeartbeats 1600000 in
theorem pairs_any (w : World) (V : Value) (T : Th) (hT : RdTh w V T) (hl : (T.foes.length : Int) = T.lits) (h4 : T.lits ≤ 4096) (hfo : foesAll T = true)
   (hru : T.rules.length ≤ 4096) (hrr : ∀ r ∈ T.rules, ruleOk T.lits r = true) :
   Calls Try.prog 76 #[V] w (Ret fun v w' => v = .int .i64 (pairCount T : Nat) ∧ Below w.heap.size w w') := by
  obtain ⟨lits, foes, rules, beats⟩ := T
  obtain ⟨vF, vR, vB, rfl, ⟨A, c, rfl, hc, hb, hr⟩, ⟨AR, cR, rfl, hcR, hbR, hrR⟩, _⟩ := hT
  dsimp only at *
  obtain rfl : lits = (foes.length : Int) := hl.symm
  clear hl
  have hbel := ext_alloc w (.cells #[.int .i64 foes.length, .slice A foes.length c, .slice AR rules.length cR, vB] 25)
  have hr1 := hr.ext llR_mono hbel
  have hrR1 := hrR.ext ruleR_mono hbel
  have hmk := mkI foes.length (by omega) (by omega)
  rw [Int.toNat_natCast] at hmk
  have Hfo := hid hfo
  have Hrr := hid hrr
  clear hr hrR hfo hrr
  refine post_gen fun Q HQ => ?_
  go_enter Try.func76, Try.ntmps76
  go_wp2
  clear hmk
  go_loopw [17] (fun v17 wr => ∃ k : Nat, k ≤ rules.length ∧ v17 = .int .i64 k ∧ Arr (Value.int .i64) 3 wr (w.heap.size + 1) (cntUpto rules foes.length k) ∧ Below (w.heap.size + 1) (w.alloc (.cells #[.int .i64 foes.length, .slice A foes.length c, .slice AR rules.length cR, vB] 25)) wr) (fun v17 _ => rules.length - (intOf v17).toNat)
  case atStart =>
    refine ⟨0, Nat.zero_le _, rfl, ?_, ?_⟩
    · rw [cntUpto_zero]
      have := made_arr (Value.int .i64) (0 : Int) 3 (w.alloc (.cells #[.int .i64 foes.length, .slice A foes.length c, .slice AR rules.length cR, vB] 25)) foes.length
      simpa using this
    · exact (Below.refl _ _).alloc (by simp) _
  case round =>
    obtain ⟨k, hk, rfl, harr, hbl⟩ := hrel
    have hbl' : Below (w.alloc (.cells #[.int .i64 foes.length, .slice A foes.length c, .slice AR rules.length cR, vB] 25)).heap.size (w.alloc (.cells #[.int .i64 foes.length, .slice A foes.length c, .slice AR rules.length cR, vB] 25)) wr := by simpa using hbl
    by_cases hlt : k < rules.length
    · obtain ⟨ad, B, cB, rfl, hc0, hc1, hc2, hcB, hbB, hrB⟩ := (hrR1.ext ruleR_mono hbl').atRule hlt
      have Hrk := hid (Hrr.out _ (List.getElem_mem hlt))
      obtain ⟨hh0, hh1⟩ := ruleOk_head Hrk.out
      have hg := harr.lt
      have Hs := hid (cntUpto_succ rules foes.length k hlt hh0 hh1)
      have hhc := harr.cell (i := rules[k].head.toNat) (by rw [cntUpto_length]; omega)
      rw [cntUpto_at _ _ _ _ (by omega), show ((rules[k].head.toNat : Nat) : Int) = rules[k].head from by omega] at hhc
      have hhf := harr.free rules[k].head.toNat
      have hle := hcnt_le rules k rules[k].head
      generalize hcnt (rules.take k) rules[k].head = y at *
      generalize hh : rules[k].head = hd at *
      have Hh := hid hh
      clear hh
      go_wp2
      go_roundw
      case rel =>
        refine ⟨k + 1, by omega, by go_num, ?_, ?_⟩
        · rw [Hs.out]
          exact (harr.set hd.toNat ((y : Int) + 1)).alloc _
        · exact (hbl.setCell (Nat.le_refl _) _).alloc (by simp only [World.size_setCell]; omega) _
      case measure => simp [intOf]; omega
    · have hk2 : k = rules.length := by omega
      subst hk2
      rw [cntUpto_all] at harr
      clear hlt hk hbl'
      have hb1 : wr.cell? ⟨w.heap.size, 1, none⟩ = some (.slice A foes.length c) := box_cell hbl 1
      go_wp2
      clear hb1
      obtain ⟨wo, hwo⟩ : ∃ wo : World, wo = wr := ⟨_, rfl⟩
      clear wo hwo
      go_loopw [32, 6] (fun v32 v6 w2 => ∃ k : Nat, k ≤ foes.length ∧ v32 = .int .i64 k ∧ v6 = .int .i64 (pSum rules foes k : Nat) ∧ Arr (Value.int .i64) 3 w2 (w.heap.size + 1) (hList rules foes.length) ∧ Below (w.heap.size + 1) (w.alloc (.cells #[.int .i64 foes.length, .slice A foes.length c, .slice AR rules.length cR, vB] 25)) w2) (fun v32 _ _ => foes.length - (intOf v32).toNat)
      case atStart => exact ⟨0, Nat.zero_le _, rfl, rfl, harr, hbl⟩
      case round =>
        clear harr hbl
        obtain ⟨k, hk, rfl, rfl, harr, hbl⟩ := hrel
        obtain ⟨wo, rfl⟩ : ∃ wo : World, wo = wr := ⟨_, rfl⟩
        by_cases hlt : k < foes.length
        · have hbl' : Below (w.alloc (.cells #[.int .i64 foes.length, .slice A foes.length c, .slice AR rules.length cR, vB] 25)).heap.size (w.alloc (.cells #[.int .i64 foes.length, .slice A foes.length c, .slice AR rules.length cR, vB] 25)) wo := by simpa using hbl
          obtain ⟨ad, B, cB, rfl, hcell, hcB, hbB, hrB⟩ := (hr1.ext llR_mono hbl').atRow hlt
          obtain ⟨h64, hris, _, _⟩ := foesOk_spec Hfo.out k hlt
          have Hris := hid (risB_spec hris).1
          have hps := pSum_le (fo := foes) hru (fun q hq => by rw [List.getD_eq_getElem?_getD, List.getElem?_eq_getElem hq]; exact (foesOk_spec Hfo.out q hq).1) k (by omega)
          have Hgl : Hid (foes.getD k [] = foes[k]) := by simp [Hid, hlt]
          clear hris
          dsimp only at h64 Hris
          generalize hS : pSum rules foes k = S at *
          have HS := hid hS
          clear hS
          generalize hL : foes[k] = L at *
          have HL := hid hL
          clear hL
          go_wp2
          clear hcell
          go_loopw [39, 6] (fun v39 v6 w3 => ∃ j : Nat, j ≤ L.length ∧ v39 = .int .i64 j ∧ v6 = .int .i64 ((S + pRow rules L k j : Nat) : Int) ∧ Arr (Value.int .i64) 3 w3 (w.heap.size + 1) (hList rules foes.length) ∧ Below wo.heap.size wo w3) (fun v39 _ _ => L.length - (intOf v39).toNat)
          case atStart => exact ⟨0, Nat.zero_le _, rfl, by simp [pRow], harr, ext_refl _⟩
          case round =>
            obtain ⟨j, hj, rfl, rfl, harr3, hbl3⟩ := hrel
            have hpr := pRow_le (l := L) (q := k) hru j hj
            by_cases hjl : j < L.length
            · obtain ⟨adb, rfl, hcj⟩ := (hrB.ext (scR_mono _) hbl3).at1 hjl
              have hrange := Hris.out j hjl
              have hX2 : L[j].toNat < foes.length := by omega
              have ha := harr3.cell (i := k) (by rw [hList_length]; omega)
              have hx := harr3.cell (i := L[j].toNat) (by rw [hList_length]; omega)
              rw [hList_at _ _ hlt] at ha
              rw [hList_at _ _ hX2] at hx
              have hp1 := prod_le (Nat.le_trans (hcnt_len rules k) hru) (Nat.le_trans (hcnt_len rules (L[j].toNat : Nat)) hru)
              have hee : ((L[j].toNat : Nat) : Int) = L[j] := by omega
              have Hps : Hid (pRow rules L k (j + 1) = pRow rules L k j + hcnt rules k * hcnt rules (L[j].toNat : Nat)) := by rw [hee]; exact pRow_succ hjl
              generalize pRow rules L k j = R at *
              generalize L[j] = X at *
              generalize hcnt rules k = a at *
              generalize hcnt rules (X.toNat : Nat) = b at *
              have hp2 : (a : Int) * b = ((a * b : Nat) : Int) := by simp
              have hp3 : 0 ≤ (a : Int) * b ∧ (a : Int) * b ≤ 16777216 := by omega
              obtain ⟨hp4, hp5⟩ := hp3
              have Hp2 := hid hp2
              clear hp2 hee
              go_wp2
              go_quiet (fail)
              go_wp2
              go_roundw
              case rel =>
                refine ⟨j + 1, by omega, by go_num, ?_, harr3.drewN _, below_drewN hbl3 _⟩
                rw [Hps.out]
                exact int_eq (by have := Hp2.out; omega)
              case measure => simp [intOf]; omega
            · obtain rfl : j = L.length := by omega
              go_wp2
              go_roundw
              case rel =>
                refine ⟨k + 1, by omega, by go_num, ?_, harr3, hbl.trans (hbl3.mono (by have := hbl.size; simp at this; omega))⟩
                rw [pSum_succ, Hgl.out, HS.out]
              case measure => simp [intOf]; omega
        · obtain rfl : k = foes.length := by omega
          go_wp2
          go_ret
          exact Fin HQ ⟨rfl, hbel.trans (hbl.mono (by omega))⟩
end Go.Proofs.Lx
