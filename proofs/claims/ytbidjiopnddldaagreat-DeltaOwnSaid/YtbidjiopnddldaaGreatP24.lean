/- Parts of the proof: Dx, Dr. delta.become: the loop over the cone. Printed by gen_bec.py. No condition. -/
import Derived.Test.YtbidjiopnddldaaGreatP23
namespace Go.Proofs.Lx
open Go Go.RowKit Go.Proofs.Tj
set_option linter.unusedVariables false
set_option linter.unusedSimpArgs false
set_option maxRecDepth 1000000 in
set_option maxHeartbeats 60000000 in
theorem bec_sB (WB : World) (x bC bm : Nat) (vF : Value) (Ac Am AM : Option Addr) (cc cm cM : Nat) (C : List Int) (S S' Mm : List Nat) (eb : Array Value) (hxb : WB.heap[x]? = some (.cells eb 72 (0, 0))) (he6 : eb[6]? = some (.slice AM S.length cM))
  (hM : WB.ownsRow 0 58 1 (.slice AM S.length cM) S.length (marksV S)) (hC : WB.ownsRow bC 3 1 (.slice Ac C.length cc) C.length (intsV C)) (hm : WB.ownsRow bm 58 1 (.slice Am Mm.length cm) Mm.length (marksV Mm)) (hmM : (Value.slice Am Mm.length cm).ownBlock = none ∨ (Value.slice Am Mm.length cm).ownBlock ≠ (Value.slice AM S.length cM).ownBlock)
  (hok : DOk S.length C) (hl4 : S.length ≤ 4096) (hml : Mm.length ≤ 100000) (hval : ∀ i (h : i < C.length), i < Mm.length ∧ Mm.getD i 0 = S'.getD C[i].toNat 0) (f : Nat → Value) (K : Act → World → Prop) (Q' : Exit → Act → World → Prop)
  (hK : ∀ (t : Array Value) (w' : World) (vo : Value), t.size = 124 → t[0]? = some (.pointer (some ⟨x, 0, none⟩)) → t[1]? = some vF → t[7]? = some (.slice Ac C.length cc) → t[15]? = some vo → w'.ownsRow 0 58 1 (.slice AM S.length cM) S.length (marksV (putC S S' C)) → w'.ownsRow WB.heap.size 60 3 vo (chL S S' C).length (chV (chL S S' C)) → Kv (.slice AM S.length cM) WB w' → K ⟨t, []⟩ w') :
  Code.wp Tryz.prog becSegB (Exit.then K Q') ⟨#[.pointer (some ⟨x, 0, none⟩), vF, (f 2), (f 3), (f 4), (f 5), (f 6), .slice Ac C.length cc, (f 8), (f 9), .slice Am Mm.length cm, (f 11), (f 12), (f 13), (f 14), .slice none 0 0, (f 16), (f 17), (f 18), (f 19), (f 20), (f 21), (f 22), (f 23), (f 24), (f 25), (f 26), (f 27), (f 28), (f 29), (f 30), (f 31), (f 32), (f 33), (f 34), (f 35), (f 36), (f 37), (f 38), (f 39), (f 40), (f 41), (f 42), (f 43), (f 44), (f 45), (f 46), (f 47), (f 48), (f 49), (f 50), (f 51), (f 52), (f 53), (f 54), (f 55), (f 56), (f 57), (f 58), (f 59), (f 60), (f 61), (f 62), (f 63), (f 64), (f 65), (f 66), (f 67), (f 68), (f 69), (f 70), (f 71), (f 72), (f 73), (f 74), (f 75), (f 76), (f 77), (f 78), (f 79), (f 80), (f 81), (f 82), (f 83), (f 84), (f 85), (f 86), (f 87), (f 88), (f 89), (f 90), (f 91), (f 92), (f 93), (f 94), (f 95), (f 96), (f 97), (f 98), (f 99), (f 100), (f 101), (f 102), (f 103), (f 104), (f 105), (f 106), (f 107), (f 108), (f 109), (f 110), (f 111), (f 112), (f 113), (f 114), (f 115), (f 116), (f 117), (f 118), (f 119), (f 120), (f 121), (f 122), (f 123)], []⟩ WB := by
 have HK := hid hK
 have Hxb := hid hxb
 have He6 := hid he6
 have HM := hid hM
 have HC := hid hC
 have Hm := hid hm
 have HmM := hid hmM
 have Hok := hid hok
 have Hval := hid hval
 have hcl := hok.le
 have hxl := lt_of_block hxb
 clear hK hxb he6 hM hC hm hmM hok hval
 conv => arg 2; whnf
 go_wp2
 go_loopw [15, 71] (fun v15 v71 wr => ∃ i : Nat, i ≤ C.length ∧ v71 = .int .i64 (i : Int) ∧ wr.ownsRow 0 58 1 (.slice AM S.length cM) S.length (marksV (putC S S' (C.take i))) ∧ wr.ownsRow WB.heap.size 60 3 v15 (chL S S' (C.take i)).length (chV (chL S S' (C.take i))) ∧ Kv (.slice AM S.length cM) WB wr) (fun _ v71 _ => C.length - (intOf v71).toNat)
 case atStart => exact ⟨0, Nat.zero_le _, rfl, HM.out, World.ownsRow_nil _ _ _ _, Kv.refl _ _⟩
 case round =>
  obtain ⟨i, hi, rfl, hmr, hor, hkv⟩ := hrel
  by_cases hlt : i < C.length
  ·have Hmr := hid hmr
   have Hor := hid hor
   have Hkv := hid hkv
   have hCl : (i : Int) < (C.length : Int) := by omega
   clear hmr hor hkv
   iterate 14 go_step
   refine wp_seq_k fun K9 hK9 => ?_
   have HK9 := hid hK9
   clear hK9
   go_step
   refine bec_round WB wr x bC bm i _ Ac Am AM cc cm cM C S S' Mm eb Hxb.out He6.out HM.out HC.out Hm.out HmM.out Hok.out hl4 hml Hval.out hlt Hmr.out Hor.out Hkv.out _ _ _ _ _ _ _ _ _ _ _ _ _ _ _ _ _ _ _ _ _ _ _ _ _ _ _ _ _ _ _ _ _ _ _ _ _ _ _ _ _ _ _ _ _ _ _ _ _ _ _ _ _ _ _ _ _ _ _ _ _ _ _ _ _ _ _ _ _ _ _ _ _ _ _ _ _ _ _ _ _ _ _ _ _ _ _ _ _ _ _ _ _ _ _ _ _ _ _ _ _ _ _ _ _ _ _ _ _ _ _ _ _ _ _ _ _ _ _ _ ?_
   intro z16 z17 z73 z74 z75 z76 z77 z78 z79 z80 z81 z82 z83 z84 z85 z86 z87 z88 z89 z90 z91 z92 z93 z94 z95 z96 z97 z98 z99 z100 z101 z102 z103 z104 z105 z106 z107 z108 z109 z110 z111 z112 z113 wz vo2 hmr3 hor3 hkv3
   (try simp only [Exit.inBlock, Exit.then])
   refine HK9.out _ _ ?_
   clear HK9
   have Hmr3 := hid hmr3
   have Hor3 := hid hor3
   have Hkv3 := hid hkv3
   clear hmr3 hor3 hkv3
   go_wp2
   go_roundw
   case rel => exact ⟨i + 1, hlt, by go_num, Hmr3.out, Hor3.out, Hkv3.out⟩
   case measure => exact meas_lt hlt
  ·obtain rfl : i = C.length := by omega
   rw [List.take_length] at hmr hor
   have Hmr := hid hmr
   have Hor := hid hor
   have Hkv := hid hkv
   clear hmr hor hkv
   go_wp2
   exact HK.out _ _ _ rfl rfl rfl rfl rfl Hmr.out Hor.out Hkv.out
end Go.Proofs.Lx

namespace Go.Proofs.Lx
open Go Go.RowKit Go.Proofs.Tj
set_option linter.unusedVariables false
set_option linter.unusedSimpArgs false
theorem mkMd (m : Nat) (hn : m ≤ 1048576) : ∀ W : World, (Instr.makeSlice 40 (.int .i64 (m : Int)) (.int .i64 (m : Int))).run Tryz.prog W = .ok (.slice (some ⟨W.heap.size, 0, none⟩) m m) (W.alloc (.cells (Array.replicate m (Value.int .u8 0)) 58)) := fun W => by
 have := mkM (m : Int) (by omega) (by omega) W
 simpa only [made_repD, Int.toNat_natCast, List.toArray_replicate] using this
/-- The first i of the places have their marks. -/
def allU (C : List Int) (S : List Nat) (i : Nat) : List Nat := (List.range C.length).map fun j => if j < i then S.getD (C.getD j 0).toNat 0 else 0
theorem allU_length (C : List Int) (S : List Nat) (i : Nat) : (allU C S i).length = C.length := by simp [allU]
theorem allU_zero (C : List Int) (S : List Nat) : allU C S 0 = List.replicate C.length 0 := by
 apply List.ext_getElem
 ·simp [allU]
 ·intro j h1 h2; simp [allU]
theorem allU_succ {C : List Int} {S : List Nat} {i : Nat} (hi : i < C.length) : allU C S (i + 1) = (allU C S i).set i (S.getD C[i].toNat 0) := by
 apply List.ext_getElem
 ·simp [allU]
 ·intro j h1 h2
  rw [allU_length] at h1
  rw [List.getElem_set]
  simp only [allU, List.getElem_map, List.getElem_range]
  by_cases e : i = j
  ·subst e; simp [h1]
  ·rw [if_neg e]
   by_cases h : j < i
   ·rw [if_pos h, if_pos (by omega)]
   ·rw [if_neg h, if_neg (by omega)]
theorem allU_at {C : List Int} {S : List Nat} {i : Nat} (hi : i < C.length) : (allU C S C.length).getD i 0 = S.getD C[i].toNat 0 := by
 have hl : i < (allU C S C.length).length := by rw [allU_length]; exact hi
 rw [List.getD_eq_getElem?_getD, List.getElem?_eq_getElem hl]
 simp [allU, hi]
set_option maxRecDepth 1000000 in
set_option maxHeartbeats 60000000 in
theorem bec_sA (w W4 : World) (x bC : Nat) (vF v1 v2 v3 v4 : Value) (e : Int) (Ac : Option Addr) (cc : Nat) (C F : List Int) (T : Th) (hE : ∀ W, Below w.heap.size w W → (W.cell? ⟨x, 1, none⟩ = some (.int .i64 T.lits) ∧ W.cell? ⟨x, 2, none⟩ = some v2 ∧ W.cell? ⟨x, 3, none⟩ = some v3 ∧ W.cell? ⟨x, 4, none⟩ = some v4) ∧ RdTh W (.agg #[.int .i64 T.lits, v2, v3, v4]) T ∧ RdI W vF F)
  (hgv : givenErr T F = 0) (hb4 : Below w.heap.size w W4) (hC : W4.ownsRow bC 3 1 (.slice Ac C.length cc) C.length (intsV C)) (hok : DOk T.foes.length C) (hn4 : T.foes.length ≤ 4096)
  (h1 : e = 0 → ∃ Mm : List Nat, W4.ownsRow w.heap.size 58 1 v1 Mm.length (marksV Mm) ∧ Mm.length ≤ 100000 ∧ ∀ i (h : i < C.length), i < Mm.length ∧ Mm.getD i 0 = (solveM T F).getD C[i].toNat 0)
  (f : Nat → Value) (K : Act → World → Prop) (Q' : Exit → Act → World → Prop)
  (hK : ∀ (t : Array Value) (w' : World) (Am : Option Addr) (cm : Nat) (Mm : List Nat), t.size = 124 → t[0]? = some (.pointer (some ⟨x, 0, none⟩)) → t[1]? = some vF → t[7]? = some (.slice Ac C.length cc) → t[10]? = some (.slice Am Mm.length cm) → w'.ownsRow w.heap.size 58 1 (.slice Am Mm.length cm) Mm.length (marksV Mm) → Mm.length ≤ 100000 → (∀ i (h : i < C.length), i < Mm.length ∧ Mm.getD i 0 = (solveM T F).getD C[i].toNat 0) → Below W4.heap.size W4 w' → K ⟨t, []⟩ w') :
  Code.wp Tryz.prog becSegA (Exit.then K Q') ⟨#[.pointer (some ⟨x, 0, none⟩), vF, (f 2), (f 3), (f 4), (f 5), (f 6), .slice Ac C.length cc, (f 8), (f 9), v1, .int .i64 e, (f 12), (f 13), (f 14), (f 15), (f 16), (f 17), (f 18), (f 19), (f 20), (f 21), (f 22), (f 23), (f 24), (f 25), (f 26), (f 27), (f 28), (f 29), (f 30), (f 31), (f 32), (f 33), (f 34), (f 35), (f 36), (f 37), (f 38), (f 39), (f 40), (f 41), (f 42), (f 43), (f 44), (f 45), (f 46), (f 47), (f 48), (f 49), (f 50), (f 51), (f 52), (f 53), (f 54), (f 55), (f 56), (f 57), (f 58), (f 59), (f 60), (f 61), (f 62), (f 63), (f 64), (f 65), (f 66), (f 67), (f 68), (f 69), (f 70), (f 71), (f 72), (f 73), (f 74), (f 75), (f 76), (f 77), (f 78), (f 79), (f 80), (f 81), (f 82), (f 83), (f 84), (f 85), (f 86), (f 87), (f 88), (f 89), (f 90), (f 91), (f 92), (f 93), (f 94), (f 95), (f 96), (f 97), (f 98), (f 99), (f 100), (f 101), (f 102), (f 103), (f 104), (f 105), (f 106), (f 107), (f 108), (f 109), (f 110), (f 111), (f 112), (f 113), (f 114), (f 115), (f 116), (f 117), (f 118), (f 119), (f 120), (f 121), (f 122), (f 123)], []⟩ W4 := by
 have HK := hid hK
 have HE := hid hE
 have Hgv := hid hgv
 have Hb4 := hid hb4
 have HC := hid hC
 have Hok := hid hok
 have H1 := hid h1
 have hcl := hok.le
 clear hK hE hgv hb4 hC hok h1
 conv => arg 2; whnf
 by_cases he : e = 0
 ·subst he
  obtain ⟨Mm, hm, hml, hv⟩ := H1.out rfl
  obtain ⟨Am, cm, rfl⟩ := own_form0 hm
  have Hm := hid hm
  have Hv := hid hv
  clear hm hv
  go_wp2
  exact HK.out _ _ Am cm Mm rfl rfl rfl rfl rfl Hm.out hml Hv.out (ext_refl _)
 ·have hne : (e != 0) = true := by simp [he]
  obtain ⟨⟨c1, c2, c3, c4⟩, hTh, hFr⟩ := HE.out W4 Hb4.out
  have Hs := hid (solve_any W4 _ vF T F hTh hFr)
  rw [Hgv.out] at Hs
  clear hTh hFr he
  go_wp2_with fail
  refine Hs.out.mono ?_
  rintro e9 w5 ⟨_, rfl, vS, rfl, hS, _, hb5⟩
  have hS := hS (by first | rfl | trivial)
  have hSl := solve_length T F
  obtain ⟨AS, cS, rfl⟩ : ∃ A c, vS = .slice A (solveM T F).length c := own_form0 hS
  have HS := hid hS
  have Hb5 := hid hb5
  have hmk := mkMd C.length (by omega)
  clear hS hb5 Hs c1 c2 c3 c4
  go_wp2_with fail
  clear hmk
  go_loopw [55] (fun v55 wr => ∃ i : Nat, i ≤ C.length ∧ v55 = .int .i64 (i : Int) ∧ wr.ownsRow w5.heap.size 58 1 (.slice (some ⟨w5.heap.size, 0, none⟩) C.length C.length) C.length (marksV (allU C (solveM T F) i)) ∧ Below w5.heap.size w5 wr) (fun v55 _ => C.length - (intOf v55).toNat)
  case atStart =>
   refine ⟨0, Nat.zero_le _, rfl, ?_, ext_alloc _ _⟩
   have h9 := World.ownsRow_lit (e := 58) (size := 1) (base := w5.heap.size) w5 (Array.replicate C.length (Value.int .u8 0)) C.length (Nat.le_refl _) (by unfold maxLen; omega) (by simp)
   rw [allU_zero]
   simpa [marksV] using h9
  case round =>
   obtain ⟨i, hi, rfl, hrow, hbl⟩ := hrel
   by_cases hlt : i < C.length
   ·have hb45 := ext_trans Hb5.out hbl
    have hCr := own_ext HC.out hb45
    obtain ⟨Ac2, cc2, e2, _, _, hrc⟩ := own_rdI hCr (by omega)
    obtain ⟨adc, rfl, hcc⟩ := hrc.at1 hlt
    cases e2
    have hq0 := Hok.out.rg _ (List.getElem_mem hlt)
    obtain ⟨q, hq⟩ := Int.eq_ofNat_of_zero_le hq0.1
    have hqS : q < (solveM T F).length := by omega
    obtain ⟨gS, cS2, e4, hcS, _, _, hgSl⟩ := marks_at (own_ext HS.out hbl) hqS
    have hAS : AS = some ⟨gS, 0, none⟩ := by injection e4
    subst hAS
    clear e4 cS2
    rw [hq] at hcc
    have Hsu := hid (allU_succ (S := solveM T F) hlt)
    rw [show C[i].toNat = q by omega] at Hsu
    have hst := hrow.stored i (.int .u8 ((solveM T F).getD q 0 : Nat))
    have hfz := hrow.frozenAt i
    have hca := hrow.cellAt i (by omega)
    have hil : i < (marksV (allU C (solveM T F) i)).length := by simp [marksV, allU]; exact hlt
    rw [List.getElem?_eq_getElem hil] at hca
    have Hst := hid hst
    have hwl := (hrow.lt w5.heap.size rfl).2
    have Hbl := hid hbl
    have hi0 : (0 : Int) ≤ (q : Int) := by omega
    have hi1 : (q : Int) < ((solveM T F).length : Int) := by omega
    generalize (marksV (allU C (solveM T F) i))[i] = old at hca
    clear hrow hbl hb45 hCr hrc hq0 hq hst hil hqS
    generalize (solveM T F).getD q 0 = now at *
    go_wp2_with fail
    go_roundw
    case rel =>
     refine ⟨i + 1, hlt, by go_num, ?_, Hbl.out.setCell (Nat.le_refl _) _⟩
     rw [Hsu.out]
     simp only [marksV, List.map_set]
     exact Hst.out.1
    case measure => exact meas_lt hlt
   ·obtain rfl : i = C.length := by omega
    have hb45 := ext_trans Hb5.out hbl
    have Hb45 := hid hb45
    have Hrow := hid (own_lower hrow (Nat.le_trans Hb4.out.size Hb5.out.size))
    clear hrow hbl hb45
    go_wp2_with fail
    have hal := allU_length C (solveM T F) C.length
    have h9 := Hrow.out
    exact HK.out _ _ (some ⟨w5.heap.size, 0, none⟩) C.length (allU C (solveM T F) C.length) rfl rfl rfl rfl (by rw [hal]; rfl) (by rw [hal]; exact h9) (by rw [hal]; omega) (fun i h => ⟨by rw [hal]; exact h, allU_at h⟩) Hb45.out
end Go.Proofs.Lx
