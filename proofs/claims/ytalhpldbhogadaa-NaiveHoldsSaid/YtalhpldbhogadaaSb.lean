/- Contracts of the reference's count, pairs (layer 12). -/
import Derived.Test.YtalhpldbhogadaaSa
import Derived.Test.YtalhpldbhogadaaNk
namespace Go.Proofs.Lx
open Go Go.RowKit
set_option linter.unusedSimpArgs false
set_option linter.unusedVariables false

theorem pSum_mono {rs : List Rule} {fo : List (List Int)} {k : Nat} : ∀ d, pSum rs fo k ≤ pSum rs fo (k + d)
  | 0 => Nat.le_refl _
  | d + 1 => by
    rw [show k + (d + 1) = k + d + 1 by omega, pSum_succ]
    exact Nat.le_trans (pSum_mono d) (Nat.le_add_right _ _)

set_option maxHeartbeats 1600000 in
theorem count12_any (w : World) (V : Value) (T : Th) (hT : RdTh w V T) (hl : (T.foes.length : Int) = T.lits) (h4 : T.lits ≤ 4096)
   (hru : T.rules.length ≤ 4096) (hrr : ∀ r ∈ T.rules, ruleOk T.lits r = true) :
   Calls Try.prog 162 #[V] w (Ret fun v w' => ∃ g, v = .slice (some ⟨g, 0, none⟩) T.foes.length T.foes.length ∧ Arr (Value.int .i64) 3 w' g (hList T.rules T.foes.length) ∧ Below w.heap.size w w') := by
  obtain ⟨lits, foes, rules, beats⟩ := T
  obtain ⟨vF, vR, vB, rfl, ⟨A, c, rfl, hc, hb, hr⟩, ⟨AR, cR, rfl, hcR, hbR, hrR⟩, _⟩ := hT
  dsimp only at *
  obtain rfl : lits = (foes.length : Int) := hl.symm
  clear hl
  have hbel := ext_alloc w (.cells #[.int .i64 foes.length, .slice A foes.length c, .slice AR rules.length cR, vB] 25)
  have hrR1 := hrR.ext ruleR_mono hbel
  have hmk := mkI foes.length (by omega) (by omega)
  rw [Int.toNat_natCast] at hmk
  have Hrr := hid hrr
  clear hr hrR hrr
  refine post_gen fun Q HQ => ?_
  go_enter Try.func162, Try.ntmps162
  go_wp2
  clear hmk
  go_loopw [4] (fun v4 wr => ∃ k : Nat, k ≤ rules.length ∧ v4 = .int .i64 k ∧ Arr (Value.int .i64) 3 wr (w.heap.size + 1) (cntUpto rules foes.length k) ∧ Below (w.heap.size + 1) (w.alloc (.cells #[.int .i64 foes.length, .slice A foes.length c, .slice AR rules.length cR, vB] 25)) wr) (fun v4 _ => rules.length - (intOf v4).toNat)
  case atStart =>
    refine ⟨0, Nat.zero_le _, rfl, ?_, ?_⟩
    · rw [cntUpto_zero]
      have := made_arr (Value.int .i64) (0 : Int) 3 (w.alloc (.cells #[.int .i64 foes.length, .slice A foes.length c, .slice AR rules.length cR, vB] 25)) foes.length
      simpa using this
    · exact (Below.refl _ _).alloc (by simp) _
  case round =>
    obtain ⟨k, hk, rfl, harr, hbl⟩ := hrel
    have hbl' : Below (w.alloc (.cells #[.int .i64 foes.length, .slice A foes.length c, .slice AR rules.length cR, vB] 25)).heap.size (w.alloc (.cells #[.int .i64 foes.length, .slice A foes.length c, .slice AR rules.length cR, vB] 25)) wr := by rw [World.size_alloc]; exact hbl
    have b2 : wr.cell? ⟨w.heap.size, 2, none⟩ = some (.slice AR rules.length cR) := box_cell hbl 2
    by_cases hlt : k < rules.length
    · obtain ⟨ad, B, cB, rfl, hc0, hc1, hc2, hcB, hbB, hrB⟩ := (hrR1.ext ruleR_mono hbl').atRule hlt
      have Hrk := hid (Hrr.out _ (List.getElem_mem hlt))
      obtain ⟨hh0, hh1⟩ := ruleOk_head Hrk.out
      have hg := harr.lt
      have Hs := hid (cntUpto_succ rules foes.length k hlt hh0 hh1)
      have hhc := harr.cell (i := rules[k].head.toNat) (by rw [cntUpto_length]; omega)
      rw [cntUpto_at _ _ _ _ (by omega), show ((rules[k].head.toNat : Nat) : Int) = rules[k].head from by omega] at hhc
      have hhf := harr.free rules[k].head.toNat
      have hle := hcnt_le rules k rules[k].head
      generalize hcnt (rules.take k) rules[k].head = y at *
      generalize hh : rules[k].head = hd at *
      have Hh := hid hh
      clear hh
      go_wp2
      go_roundw
      case rel =>
        refine ⟨k + 1, by omega, by go_num, ?_, ?_⟩
        · rw [Hs.out]
          exact harr.set hd.toNat ((y : Int) + 1)
        · exact hbl.setCell (Nat.le_refl _) _
      case measure => simp [intOf]; omega
    · have hk2 : k = rules.length := by omega
      subst hk2
      rw [cntUpto_all] at harr
      have Harr := hid harr
      clear harr
      go_wp2
      go_ret
      exact Fin HQ ⟨w.heap.size + 1, rfl, Harr.out, hbel.trans (hbl.mono (by omega))⟩

set_option maxRecDepth 100000 in
set_option maxHeartbeats 1600000 in
theorem pairs12_any (w : World) (V : Value) (T : Th) (hT : RdTh w V T) (hl : (T.foes.length : Int) = T.lits) (h4 : T.lits ≤ 4096) (hfo : foesAll T = true)
   (hru : T.rules.length ≤ 4096) (hrr : ∀ r ∈ T.rules, ruleOk T.lits r = true) :
   Calls Try.prog 134 #[V] w (Ret fun v w' => (∃ s : Int, v = .int .i64 s ∧ (65536 < s ↔ 65536 < pairCount T)) ∧ Below w.heap.size w w') := by
  have HT := hid hT
  obtain ⟨vF, vR, vB, rfl, ⟨A, c, rfl, hc, hb, hr⟩, hR, hB⟩ := hT
  have hbel := ext_alloc w (.cells #[.int .i64 T.lits, .slice A T.foes.length c, vR, vB] 25)
  have Hcnt := hid (count12_any _ _ T (HT.out.ext hbel) hl h4 hru hrr)
  have hr1 := hr.ext llR_mono hbel
  have Hfo := hid hfo
  have Hl := hid hl
  have Hbel := hid hbel
  clear hr hR hB hfo hrr hbel
  refine post_gen fun Q HQ => ?_
  go_enter Try.func134, Try.ntmps134
  go_wp2_with fail
  refine Hcnt.out.mono ?_
  rintro e w2 ⟨_, rfl, g, rfl, harr, hb2⟩
  have b0 : w2.cell? ⟨w.heap.size, 0, none⟩ = some (.int .i64 T.lits) := (box4 hb2).1
  have b1 : w2.cell? ⟨w.heap.size, 1, none⟩ = some (.slice A T.foes.length c) := (box4 hb2).2.1
  have hr2 := hr1.ext llR_mono hb2
  have Hb2 := hid (ext_trans Hbel.out hb2)
  clear Hcnt hr1 hb2
  rw [← Hl.out] at b0
  generalize hn : T.foes.length = n at *
  have Hn := hid hn
  clear hn hl
  go_wp2
  go_loopw [5, 4] (fun v5 v4 wr => ∃ q : Nat, q ≤ n ∧ v5 = .int .i64 q ∧ v4 = .int .i64 (pSum T.rules T.foes q : Nat) ∧ pSum T.rules T.foes q ≤ 65536 ∧ Below w2.heap.size w2 wr) (fun v5 _ _ => n - (intOf v5).toNat)
  case atStart => exact ⟨0, Nat.zero_le _, rfl, rfl, by simp [pSum], Below.refl _ _⟩
  case round =>
    obtain ⟨k, hk, rfl, rfl, hps, hbl⟩ := hrel
    have c0 := cell_ext hbl b0
    have c1 := cell_ext hbl b1
    obtain ⟨wo, rfl⟩ : ∃ wo : World, wo = wr := ⟨_, rfl⟩
    by_cases hlt : k < n
    · have hlt2 : k < T.foes.length := by rw [Hn.out]; exact hlt
      obtain ⟨ad, B, cB, rfl, hcell, hcB, hbB, hrB⟩ := (hr2.ext llR_mono hbl).atRow hlt2
      obtain ⟨h64, hris, _, _⟩ := foesOk_spec Hfo.out k hlt2
      have Hris := hid (risB_spec hris).1
      have Hgl : Hid (T.foes.getD k [] = T.foes[k]) := by simp [Hid, hlt2]
      clear hris
      generalize hS : pSum T.rules T.foes k = S at *
      have HS := hid hS
      clear hS
      generalize T.foes[k] = L at *
      go_wp2
      go_loopw [6, 4] (fun v6 v4 w3 => ∃ j : Nat, j ≤ L.length ∧ v6 = .int .i64 j ∧ v4 = .int .i64 ((S + pRow T.rules L k j : Nat) : Int) ∧ Below wo.heap.size wo w3) (fun v6 _ _ => L.length - (intOf v6).toNat)
      case atStart => exact ⟨0, Nat.zero_le _, rfl, by simp [pRow], ext_refl _⟩
      case round =>
        obtain ⟨j, hj, rfl, rfl, hbl3⟩ := hrel
        have c1 := cell_ext hbl3 c1
        have hcell := cell_ext hbl3 hcell
        have hpr := pRow_le (l := L) (q := k) hru j hj
        have harr3 := Arr.ext harr (ext_trans hbl hbl3)
        by_cases hjl : j < L.length
        · obtain ⟨adb, rfl, hcj⟩ := (hrB.ext (scR_mono _) hbl3).at1 hjl
          have hrange := Hris.out j hjl
          have hX2 : L[j].toNat < n := by have := Hl.out; omega
          have ha := harr3.cell (i := k) (by rw [hList_length]; omega)
          have hx := harr3.cell (i := L[j].toNat) (by rw [hList_length]; omega)
          rw [hList_at _ _ hlt] at ha
          rw [hList_at _ _ hX2] at hx
          have hp1 := prod_le (Nat.le_trans (hcnt_len T.rules k) hru) (Nat.le_trans (hcnt_len T.rules (L[j].toNat : Nat)) hru)
          have hee : ((L[j].toNat : Nat) : Int) = L[j] := by omega
          have Hps : Hid (pRow T.rules L k (j + 1) = pRow T.rules L k j + hcnt T.rules k * hcnt T.rules (L[j].toNat : Nat)) := by rw [hee]; exact pRow_succ hjl
          generalize pRow T.rules L k j = R at *
          generalize L[j] = X at *
          generalize hcnt T.rules k = a at *
          generalize hcnt T.rules (X.toNat : Nat) = b at *
          have hXn : X < (n : Int) := by omega
          have hX0 : 0 ≤ X := hrange.1
          have hp2 : (a : Int) * b = ((a * b : Nat) : Int) := by simp
          have hp3 : 0 ≤ (a : Int) * b ∧ (a : Int) * b ≤ 16777216 := by omega
          obtain ⟨hp4, hp5⟩ := hp3
          have Hp2 := hid hp2
          clear hp2 hee harr3
          go_wp2
          go_quiet (fail)
          go_wp2
          go_roundw
          case rel =>
            refine ⟨j + 1, by omega, by go_num, ?_, below_drewN hbl3 _⟩
            rw [Hps.out]
            exact int_eq (by have := Hp2.out; omega)
          case measure => simp [intOf]; omega
        · obtain rfl : j = L.length := by omega
          have Hnext : Hid (pSum T.rules T.foes (k + 1) = S + pRow T.rules L k L.length) := hid (by rw [pSum_succ, Hgl.out, HS.out])
          clear harr3
          by_cases hbig : 65536 < S + pRow T.rules L k L.length
          · have hgt : (65536 : Int) < ((S + pRow T.rules L k L.length : Nat) : Int) := by omega
            have Hbig : Hid (65536 < pairCount T) := hid (by
              have := pSum_mono (rs := T.rules) (fo := T.foes) (k := k + 1) (n - (k + 1))
              rw [show k + 1 + (n - (k + 1)) = n by omega, Hnext.out] at this
              unfold pairCount; rw [Hn.out]; omega)
            go_wp2
            go_ret
            exact Fin HQ ⟨⟨65537, rfl, fun _ => Hbig.out, fun _ => by decide⟩, ext_trans Hb2.out (ext_trans hbl hbl3)⟩
          · have hgt : ¬ (65536 : Int) < ((S + pRow T.rules L k L.length : Nat) : Int) := by omega
            go_wp2
            go_roundw
            case rel => exact ⟨k + 1, by omega, by go_num, by rw [Hnext.out], by rw [Hnext.out]; omega, ext_trans hbl hbl3⟩
            case measure => simp [intOf]; omega
    · obtain rfl : k = n := by omega
      have Hp : Hid (pairCount T = pSum T.rules T.foes k) := hid (by unfold pairCount; rw [Hn.out])
      generalize pSum T.rules T.foes k = S at *
      go_wp2
      go_ret
      exact Fin HQ ⟨⟨_, rfl, by rw [Hp.out]; omega⟩, ext_trans Hb2.out hbl⟩
end Go.Proofs.Lx
