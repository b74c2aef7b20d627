/- Parts of the proof: Dw, Dx, Dr. delta.become: the marks are written. Printed by gen_bec.py. No condition. -/
import Derived.Test.YtbidjiopnddldaaGreatE20
namespace Go.Proofs.Lx
open Go Go.RowKit Go.Proofs.Tj
set_option linter.unusedVariables false
set_option linter.unusedSimpArgs false
theorem own_own {w : World} {b1 b2 e1 e2 s1 s2 n1 n2 : Nat} {v1 v2 : Value} {x1 x2 : List Value} (h1 : w.ownsRow b1 e1 s1 v1 n1 x1) (h2 : w.ownsRow b2 e2 s2 v2 n2 x2) (hne : e1 ≠ e2) : v1.ownBlock = none ∨ v1.ownBlock ≠ v2.ownBlock := by
 rcases h2.2 with ⟨rfl, _⟩ | ⟨g2, c2, u2, rfl, _, h3, _⟩
 ·cases h : v1.ownBlock with
  | none => exact .inl rfl
  | some g => exact .inr (by simp [Value.ownBlock])
 ·exact .inr (own_ne_tag h1 h3 hne)
theorem meas_lt {n i : Nat} (h : i < n) : n - (intOf (Value.int .i64 ((i : Int) + 1))).toNat < n - (intOf (Value.int .i64 (i : Int))).toNat := by simp only [intOf]; omega
theorem Kv.drew {v : Value} {a b : World} (h : Kv v a b) : Kv v a b.drew := ⟨h.os, h.tape, h.output, h.sz, h.old⟩
theorem own_kv {w w' : World} {v v0 : Value} {b e s n : Nat} {xs : List Value} (h : w.ownsRow b e s v n xs) (hk : Kv v0 w w') (hne : v.ownBlock = none ∨ v.ownBlock ≠ v0.ownBlock) : w'.ownsRow b e s v n xs := by
 refine ⟨h.1, ?_⟩
 rcases h.2 with k1 | ⟨g9, cap, cur, k1, k2, k3, k4⟩
 ·exact .inl k1
 ·refine .inr ⟨g9, cap, cur, k1, k2, (hk.old g9 (lt_of_block k3) fun e => ?_).trans k3, k4⟩
  rw [k1] at hne
  rcases hne with h9 | h9
  ·simp [Value.ownBlock] at h9
  ·exact h9 (by rw [e]; rfl)
theorem marks_at {w : World} {v : Value} {M : List Nat} {b : Nat} (h : w.ownsRow b 58 1 v M.length (marksV M)) {q : Nat} (hq : q < M.length) : ∃ g c, v = .slice (some ⟨g, 0, none⟩) M.length c ∧ w.cell? ⟨g, q, none⟩ = some (.int .u8 (M.getD q 0 : Nat)) ∧ w.frozen? ⟨g, q, none⟩ = false ∧ b ≤ g ∧ g < w.heap.size := by
 rcases h.2 with ⟨_, h0⟩ | ⟨g, c, cur, e, hb, h3, _⟩
 ·omega
 ·subst e
  refine ⟨g, c, rfl, ?_, h.frozenAt q, hb, lt_of_block h3⟩
  rw [h.cellAt q (by omega)]
  simp [hq]
set_option maxRecDepth 1000000 in
set_option maxHeartbeats 60000000 in
theorem bec_round (WB wr : World) (x bC bm i : Nat) (vo : Value) (Ac Am AM : Option Addr) (cc cm cM : Nat) (C : List Int) (S S' Mm : List Nat) (eb : Array Value) (hxb : WB.heap[x]? = some (.cells eb 72 (0, 0))) (he6 : eb[6]? = some (.slice AM S.length cM))
  (hM : WB.ownsRow 0 58 1 (.slice AM S.length cM) S.length (marksV S)) (hC : WB.ownsRow bC 3 1 (.slice Ac C.length cc) C.length (intsV C)) (hm : WB.ownsRow bm 58 1 (.slice Am Mm.length cm) Mm.length (marksV Mm)) (hmM : (Value.slice Am Mm.length cm).ownBlock = none ∨ (Value.slice Am Mm.length cm).ownBlock ≠ (Value.slice AM S.length cM).ownBlock)
  (hok : DOk S.length C) (hl4 : S.length ≤ 4096) (hml : Mm.length ≤ 100000) (hval : ∀ i (h : i < C.length), i < Mm.length ∧ Mm.getD i 0 = S'.getD C[i].toNat 0) (hlt : i < C.length)
  (hmr : wr.ownsRow 0 58 1 (.slice AM S.length cM) S.length (marksV (putC S S' (C.take i)))) (hor : wr.ownsRow WB.heap.size 60 3 vo (chL S S' (C.take i)).length (chV (chL S S' (C.take i)))) (hkv : Kv (.slice AM S.length cM) WB wr) (Q' : Exit → Act → World → Prop)
  (u1 u2 u3 u4 u5 u6 u7 u8 u9 u11 u12 u13 u14 u16 u17 u18 u19 u20 u21 u22 u23 u24 u25 u26 u27 u28 u29 u30 u31 u32 u33 u34 u35 u36 u37 u38 u39 u40 u41 u42 u43 u44 u45 u46 u47 u48 u49 u50 u51 u52 u53 u54 u55 u56 u57 u58 u59 u60 u61 u62 u63 u64 u65 u66 u67 u68 u70 u72 u73 u74 u75 u76 u77 u78 u79 u80 u81 u82 u83 u84 u85 u86 u87 u88 u89 u90 u91 u92 u93 u94 u95 u96 u97 u98 u99 u100 u101 u102 u103 u104 u105 u106 u107 u108 u109 u110 u111 u112 u113 u114 u115 u116 u117 u118 u119 u120 u121 u122 u123 : Value)
  (hK : ∀ (x16 x17 x73 x74 x75 x76 x77 x78 x79 x80 x81 x82 x83 x84 x85 x86 x87 x88 x89 x90 x91 x92 x93 x94 x95 x96 x97 x98 x99 x100 x101 x102 x103 x104 x105 x106 x107 x108 x109 x110 x111 x112 x113 : Value) (wz : World) (v' : Value), wz.ownsRow 0 58 1 (.slice AM S.length cM) S.length (marksV (putC S S' (C.take (i + 1)))) → wz.ownsRow WB.heap.size 60 3 v' (chL S S' (C.take (i + 1))).length (chV (chL S S' (C.take (i + 1)))) → Kv (.slice AM S.length cM) WB wz → Q' .normal ⟨#[.pointer (some ⟨x, 0, none⟩), u1, u2, u3, u4, u5, u6, u7, u8, u9, .slice Am Mm.length cm, u11, u12, u13, u14, v', x16, x17, u18, u19, u20, u21, u22, u23, u24, u25, u26, u27, u28, u29, u30, u31, u32, u33, u34, u35, u36, u37, u38, u39, u40, u41, u42, u43, u44, u45, u46, u47, u48, u49, u50, u51, u52, u53, u54, u55, u56, u57, u58, u59, u60, u61, u62, u63, u64, u65, u66, u67, u68, .slice Ac C.length cc, u70, .int .i64 (i : Int), u72, x73, x74, x75, x76, x77, x78, x79, x80, x81, x82, x83, x84, x85, x86, x87, x88, x89, x90, x91, x92, x93, x94, x95, x96, x97, x98, x99, x100, x101, x102, x103, x104, x105, x106, x107, x108, x109, x110, x111, x112, x113, u114, u115, u116, u117, u118, u119, u120, u121, u122, u123], []⟩ wz) :
  Code.wp Tryz.prog becB3 Q' ⟨#[.pointer (some ⟨x, 0, none⟩), u1, u2, u3, u4, u5, u6, u7, u8, u9, .slice Am Mm.length cm, u11, u12, u13, u14, vo, u16, u17, u18, u19, u20, u21, u22, u23, u24, u25, u26, u27, u28, u29, u30, u31, u32, u33, u34, u35, u36, u37, u38, u39, u40, u41, u42, u43, u44, u45, u46, u47, u48, u49, u50, u51, u52, u53, u54, u55, u56, u57, u58, u59, u60, u61, u62, u63, u64, u65, u66, u67, u68, .slice Ac C.length cc, u70, .int .i64 (i : Int), u72, u73, u74, u75, u76, u77, u78, u79, u80, u81, u82, u83, u84, u85, u86, u87, u88, u89, u90, u91, u92, u93, u94, u95, u96, u97, u98, u99, u100, u101, u102, u103, u104, u105, u106, u107, u108, u109, u110, u111, u112, u113, u114, u115, u116, u117, u118, u119, u120, u121, u122, u123], []⟩ wr := by
 have HK := hid hK
 have Hxb := hid hxb
 have He6 := hid he6
 have HM := hid hM
 have HC := hid hC
 have Hm := hid hm
 have HmM := hid hmM
 have Hok := hid hok
 have Hval := hid hval
 have hcl := hok.le
 have hxl := lt_of_block hxb
 clear hK hxb he6 hM hC hm hmM hok hval
 conv => arg 2; whnf
 have hCr := own_kv HC.out hkv (own_own HC.out HM.out (by decide))
 obtain ⟨Ac2, cc2, e2, _, _, hrc⟩ := own_rdI hCr (by omega)
 obtain ⟨adc, rfl, hcc⟩ := hrc.at1 hlt
 cases e2
 have hq0 := Hok.out.rg _ (List.getElem_mem hlt)
 obtain ⟨q, hq⟩ := Int.eq_ofNat_of_zero_le hq0.1
 have hqS : q < S.length := by omega
 have hqt : C[i].toNat = q := by omega
 have hnn : ∀ y ∈ C, 0 ≤ y := fun y hy => (Hok.out.rg y hy).1
 have hcur := putC_cur (M := S) (M' := S') hlt (by rw [hqt]; exact hqS) hnn Hok.out.nd
 rw [hqt] at hcur
 have hpl := putC_length S S' (C.take i)
 obtain ⟨gM, cM2, e3, hcM, hfM, _, hgl⟩ := marks_at (by rw [hpl]; exact hmr) (q := q) (by rw [hpl]; exact hqS)
 rw [hpl] at e3
 have hAM : AM = some ⟨gM, 0, none⟩ := by injection e3
 subst hAM
 clear e3 cM2
 rw [hcur] at hcM
 obtain ⟨hil, hiv⟩ := Hval.out i hlt
 have hmr2 := own_kv Hm.out hkv HmM.out
 obtain ⟨gm, cm2, e4, hcm, _, _, hgml⟩ := marks_at hmr2 hil
 have hAm : Am = some ⟨gm, 0, none⟩ := by injection e4
 subst hAm
 clear e4 cm2
 have hxv : (Value.slice (some ⟨gM, 0, none⟩) S.length cM).ownBlock ≠ some x := own_ne_tag HM.out Hxb.out (by decide)
 have hgx : gM ≠ x := fun e => hxv (by rw [e]; rfl)
 have c6 : wr.cell? ⟨x, 6, none⟩ = some (.slice (some ⟨gM, 0, none⟩) S.length cM) := by rw [cell_of_row wr x 6 _ _ _ ((hkv.old x hxl hxv).trans Hxb.out)]; exact He6.out
 rw [hq] at hcc
 rw [hiv, hqt] at hcm
 have hgmM : gm ≠ gM := fun e => by
  rcases HmM.out with h9 | h9
  ·simp [Value.ownBlock] at h9
  ·exact h9 (by rw [e]; rfl)
 have hgB : gM < WB.heap.size := (HM.out.lt gM rfl).2
 have hgmB : gm < WB.heap.size := (Hm.out.lt gm rfl).2
 have hsz := hkv.sz
 have hcl2 := chL_le S S' (C.take i)
 rw [List.length_take] at hcl2
 have Hch := hid (chL_succ (M := S) (M' := S') hlt)
 have Hpc := hid (putC_succ (M := S) (M' := S') hlt)
 have Hsame := hid (putC_same (M := S) (M' := S') hlt (by rw [hqt]; exact hqS) hnn Hok.out.nd)
 rw [hqt] at Hpc Hsame
 have Hone1 : Hid (S'.getD q 0 = S.getD q 0 → chOne S S' C[i] = []) := hid fun h => chOne_f (by rw [hqt]; exact h)
 have Hone2 : Hid (S'.getD q 0 ≠ S.getD q 0 → chOne S S' C[i] = [((q : Int), S.getD q 0, S'.getD q 0)]) := hid fun h => by rw [chOne_t (by rw [hqt]; exact h), hqt, hq]
 have Hmr := hid hmr
 have Hor := hid hor
 have Hkv := hid hkv
 have hi0 : (0 : Int) ≤ (q : Int) := by omega
 have hi1 : (q : Int) < (S.length : Int) := by omega
 have hi2 : (0 : Int) ≤ (i : Int) := by omega
 have hi3 : (i : Int) < (Mm.length : Int) := by omega
 clear hmr hor hkv hCr hrc hq0 hcur hpl hmr2 hxv hnn hiv hqt hq
 generalize hnow : S'.getD q 0 = now at *
 generalize hwas : S.getD q 0 = was at *
 clear hnow hwas
 have Hall : Hid (q < S.length ∧ i < Mm.length ∧ x < WB.heap.size ∧ gM < WB.heap.size ∧ gm < WB.heap.size ∧ WB.heap.size ≤ wr.heap.size ∧ gM ≠ x ∧ gm ≠ gM ∧ wr.frozen? ⟨gM, q, none⟩ = false ∧ (chL S S' (C.take i)).length ≤ 1000000) := hid ⟨hqS, hil, hxl, hgB, hgmB, hsz, hgx, hgmM, hfM, by omega⟩
 clear hqS hil hgB hgmB hsz hgx hgmM hfM hcl2 hgl hgml
 by_cases hne : now = was
 ·have hn2 : ((now : Int) != (was : Int)) = false := by simp [hne]
  have Hs := hid (Hsame.out hne)
  have Ho := hid (Hone1.out hne)
  clear Hsame Hone1 Hone2 hne
  go_wp2
  go_region
  go_wp2
  exact HK.out _ _ _ _ _ _ _ _ _ _ _ _ _ _ _ _ _ _ _ _ _ _ _ _ _ _ _ _ _ _ _ _ _ _ _ _ _ _ _ _ _ _ _ _ _ (by rw [Hs.out]; exact Hmr.out.drew) (by rw [Hch.out, Ho.out, List.append_nil]; exact Hor.out.drew) Hkv.out.drew
 ·have hn2 : ((now : Int) != (was : Int)) = true := by simp; omega
  have Ho := hid (Hone2.out hne)
  clear Hsame Hone1 Hone2 hne
  go_wp2
  go_region
  go_step
  go_step
  go_step
  clear hn2
  have hord := Hor.out.drew
  obtain ⟨h1, h2, h3, h4, h5, h6, h7, h8, h9, h10⟩ := Hall.out
  refine becThen wr.drew WB.heap.size x gM S.length cM Mm.length cm i q was now (chL S S' (C.take i)).length gm _ _ c6 hcM h9 hcm h1 h2 h3 h4 h5 h6 (Ne.symm h7) h8 hord h10 _ _ _ _ _ _ _ _ _ _ _ _ _ _ _ _ _ _ _ _ _ _ _ _ _ _ _ _ _ _ _ _ _ _ _ _ _ _ _ _ _ _ _ _ _ _ _ _ _ _ _ _ _ _ _ _ _ _ _ _ _ _ _ _ _ _ _ _ _ _ _ _ _ _ _ _ _ _ _ _ _ _ _ _ _ _ _ _ _ _ _ _ _ _ _ _ _ _ _ _ _ _ _ _ _ _ _ _ _ _ _ _ _ _ _ _ _ _ _ _ ?_
  intro z88 z89 z90 z91 z92 z93 z94 z95 z96 z97 z98 z99 z100 z101 z102 z103 z104 z105 z106 z107 z108 z109 z110 z111 z112 z113 wy wz vo2 hor2 hby hwz
  have hmr3 : wz.ownsRow 0 58 1 (.slice (some ⟨gM, 0, none⟩) S.length cM) S.length (marksV (putC S S' (C.take (i + 1)))) := by
   have h8 : wy.ownsRow 0 58 1 (.slice (some ⟨gM, 0, none⟩) S.length cM) S.length (marksV (putC S S' (C.take i))) := by
    refine ⟨Hmr.out.1, ?_⟩
    rcases Hmr.out.2 with k1 | ⟨g9, cap, cur, k1, k2, k3, k4⟩
    ·exact .inl k1
    ·have e9 : g9 = gM := by injection k1 with k1 _ _; injection k1 with k1; injection k1 with k1 _ _; exact k1.symm
     exact .inr ⟨g9, cap, cur, k1, k2, (hby.block g9 (by rw [e9]; exact h4)).trans k3, k4⟩
   have h9 := (h8.stored q (.int .u8 (now : Int))).1
   rw [hwz, Hpc.out]
   simp only [marksV, List.map_set]
   exact h9.drew
  have hor3 : wz.ownsRow WB.heap.size 60 3 vo2 (chL S S' (C.take (i + 1))).length (chV (chL S S' (C.take (i + 1)))) := by
   rw [hwz, Hch.out, Ho.out, List.length_append, List.length_singleton, chV_snoc]
   exact (ownsRow_setCell_other hor2 (fun e => absurd (hor2.lt _ e).1 (Nat.not_le_of_lt h4)) _).drew
  have hkv3 : Kv (.slice (some ⟨gM, 0, none⟩) S.length cM) WB wz := by
   rw [hwz]
   refine Kv.drew ⟨hby.os.trans Hkv.out.os, hby.tape.trans Hkv.out.tape, hby.output.trans Hkv.out.output, by rw [World.size_setCell]; exact Nat.le_trans Hkv.out.sz hby.size, fun k h1 h2 => ?_⟩
   rw [heap_setCell_other _ _ _ _ (fun e => h2 (by rw [e]; rfl))]
   exact (hby.block k h1).trans (Hkv.out.old k h1 h2)
  exact HK.out _ _ _ _ _ _ _ _ _ _ _ _ _ _ _ _ _ _ _ _ _ _ _ _ _ _ _ _ _ _ _ _ _ _ _ _ _ _ _ _ _ _ _ _ _ hmr3 hor3 hkv3
end Go.Proofs.Lx

namespace Go.Proofs.Lx
open Go Go.RowKit Go.Proofs.Tj
set_option linter.unusedVariables false
set_option linter.unusedSimpArgs false
set_option maxRecDepth 1000000 in
set_option maxHeartbeats 60000000 in
theorem bec_sB (WB : World) (x bC bm : Nat) (vF : Value) (Ac Am AM : Option Addr) (cc cm cM : Nat) (C : List Int) (S S' Mm : List Nat) (eb : Array Value) (hxb : WB.heap[x]? = some (.cells eb 72 (0, 0))) (he6 : eb[6]? = some (.slice AM S.length cM))
  (hM : WB.ownsRow 0 58 1 (.slice AM S.length cM) S.length (marksV S)) (hC : WB.ownsRow bC 3 1 (.slice Ac C.length cc) C.length (intsV C)) (hm : WB.ownsRow bm 58 1 (.slice Am Mm.length cm) Mm.length (marksV Mm)) (hmM : (Value.slice Am Mm.length cm).ownBlock = none ∨ (Value.slice Am Mm.length cm).ownBlock ≠ (Value.slice AM S.length cM).ownBlock)
  (hok : DOk S.length C) (hl4 : S.length ≤ 4096) (hml : Mm.length ≤ 100000) (hval : ∀ i (h : i < C.length), i < Mm.length ∧ Mm.getD i 0 = S'.getD C[i].toNat 0) (f : Nat → Value) (K : Act → World → Prop) (Q' : Exit → Act → World → Prop)
  (hK : ∀ (t : Array Value) (w' : World) (vo : Value), t.size = 124 → t[0]? = some (.pointer (some ⟨x, 0, none⟩)) → t[1]? = some vF → t[7]? = some (.slice Ac C.length cc) → t[15]? = some vo → w'.ownsRow 0 58 1 (.slice AM S.length cM) S.length (marksV (putC S S' C)) → w'.ownsRow WB.heap.size 60 3 vo (chL S S' C).length (chV (chL S S' C)) → Kv (.slice AM S.length cM) WB w' → K ⟨t, []⟩ w') :
  Code.wp Tryz.prog becSegB (Exit.then K Q') ⟨#[.pointer (some ⟨x, 0, none⟩), vF, (f 2), (f 3), (f 4), (f 5), (f 6), .slice Ac C.length cc, (f 8), (f 9), .slice Am Mm.length cm, (f 11), (f 12), (f 13), (f 14), .slice none 0 0, (f 16), (f 17), (f 18), (f 19), (f 20), (f 21), (f 22), (f 23), (f 24), (f 25), (f 26), (f 27), (f 28), (f 29), (f 30), (f 31), (f 32), (f 33), (f 34), (f 35), (f 36), (f 37), (f 38), (f 39), (f 40), (f 41), (f 42), (f 43), (f 44), (f 45), (f 46), (f 47), (f 48), (f 49), (f 50), (f 51), (f 52), (f 53), (f 54), (f 55), (f 56), (f 57), (f 58), (f 59), (f 60), (f 61), (f 62), (f 63), (f 64), (f 65), (f 66), (f 67), (f 68), (f 69), (f 70), (f 71), (f 72), (f 73), (f 74), (f 75), (f 76), (f 77), (f 78), (f 79), (f 80), (f 81), (f 82), (f 83), (f 84), (f 85), (f 86), (f 87), (f 88), (f 89), (f 90), (f 91), (f 92), (f 93), (f 94), (f 95), (f 96), (f 97), (f 98), (f 99), (f 100), (f 101), (f 102), (f 103), (f 104), (f 105), (f 106), (f 107), (f 108), (f 109), (f 110), (f 111), (f 112), (f 113), (f 114), (f 115), (f 116), (f 117), (f 118), (f 119), (f 120), (f 121), (f 122), (f 123)], []⟩ WB := by
 have HK := hid hK
 have Hxb := hid hxb
 have He6 := hid he6
 have HM := hid hM
 have HC := hid hC
 have Hm := hid hm
 have HmM := hid hmM
 have Hok := hid hok
 have Hval := hid hval
 have hcl := hok.le
 have hxl := lt_of_block hxb
 clear hK hxb he6 hM hC hm hmM hok hval
 conv => arg 2; whnf
 go_wp2
 go_loopw [15, 71] (fun v15 v71 wr => ∃ i : Nat, i ≤ C.length ∧ v71 = .int .i64 (i : Int) ∧ wr.ownsRow 0 58 1 (.slice AM S.length cM) S.length (marksV (putC S S' (C.take i))) ∧ wr.ownsRow WB.heap.size 60 3 v15 (chL S S' (C.take i)).length (chV (chL S S' (C.take i))) ∧ Kv (.slice AM S.length cM) WB wr) (fun _ v71 _ => C.length - (intOf v71).toNat)
 case atStart => exact ⟨0, Nat.zero_le _, rfl, HM.out, World.ownsRow_nil _ _ _ _, Kv.refl _ _⟩
 case round =>
  obtain ⟨i, hi, rfl, hmr, hor, hkv⟩ := hrel
  by_cases hlt : i < C.length
  ·have Hmr := hid hmr
   have Hor := hid hor
   have Hkv := hid hkv
   have hCl : (i : Int) < (C.length : Int) := by omega
   clear hmr hor hkv
   iterate 14 go_step
   refine wp_seq_k fun K9 hK9 => ?_
   have HK9 := hid hK9
   clear hK9
   go_step
   refine bec_round WB wr x bC bm i _ Ac Am AM cc cm cM C S S' Mm eb Hxb.out He6.out HM.out HC.out Hm.out HmM.out Hok.out hl4 hml Hval.out hlt Hmr.out Hor.out Hkv.out _ _ _ _ _ _ _ _ _ _ _ _ _ _ _ _ _ _ _ _ _ _ _ _ _ _ _ _ _ _ _ _ _ _ _ _ _ _ _ _ _ _ _ _ _ _ _ _ _ _ _ _ _ _ _ _ _ _ _ _ _ _ _ _ _ _ _ _ _ _ _ _ _ _ _ _ _ _ _ _ _ _ _ _ _ _ _ _ _ _ _ _ _ _ _ _ _ _ _ _ _ _ _ _ _ _ _ _ _ _ _ _ _ _ _ _ _ _ _ _ ?_
   intro z16 z17 z73 z74 z75 z76 z77 z78 z79 z80 z81 z82 z83 z84 z85 z86 z87 z88 z89 z90 z91 z92 z93 z94 z95 z96 z97 z98 z99 z100 z101 z102 z103 z104 z105 z106 z107 z108 z109 z110 z111 z112 z113 wz vo2 hmr3 hor3 hkv3
   (try simp only [Exit.inBlock, Exit.then])
   refine HK9.out _ _ ?_
   clear HK9
   have Hmr3 := hid hmr3
   have Hor3 := hid hor3
   have Hkv3 := hid hkv3
   clear hmr3 hor3 hkv3
   go_wp2
   go_roundw
   case rel => exact ⟨i + 1, hlt, by go_num, Hmr3.out, Hor3.out, Hkv3.out⟩
   case measure => exact meas_lt hlt
  ·obtain rfl : i = C.length := by omega
   rw [List.take_length] at hmr hor
   have Hmr := hid hmr
   have Hor := hid hor
   have Hkv := hid hkv
   clear hmr hor hkv
   go_wp2
   exact HK.out _ _ _ rfl rfl rfl rfl rfl Hmr.out Hor.out Hkv.out
end Go.Proofs.Lx

namespace Go.Proofs.Lx
open Go Go.RowKit Go.Proofs.Tj
set_option linter.unusedVariables false
set_option linter.unusedSimpArgs false
theorem mkMd (m : Nat) (hn : m ≤ 1048576) : ∀ W : World, (Instr.makeSlice 40 (.int .i64 (m : Int)) (.int .i64 (m : Int))).run Tryz.prog W = .ok (.slice (some ⟨W.heap.size, 0, none⟩) m m) (W.alloc (.cells (Array.replicate m (Value.int .u8 0)) 58)) := fun W => by
 have := mkM (m : Int) (by omega) (by omega) W
 simpa only [made_repD, Int.toNat_natCast, List.toArray_replicate] using this
/-- The first i of the places have their marks. -/
def allU (C : List Int) (S : List Nat) (i : Nat) : List Nat := (List.range C.length).map fun j => if j < i then S.getD (C.getD j 0).toNat 0 else 0
theorem allU_length (C : List Int) (S : List Nat) (i : Nat) : (allU C S i).length = C.length := by simp [allU]
theorem allU_zero (C : List Int) (S : List Nat) : allU C S 0 = List.replicate C.length 0 := by
 apply List.ext_getElem
 ·simp [allU]
 ·intro j h1 h2; simp [allU]
theorem allU_succ {C : List Int} {S : List Nat} {i : Nat} (hi : i < C.length) : allU C S (i + 1) = (allU C S i).set i (S.getD C[i].toNat 0) := by
 apply List.ext_getElem
 ·simp [allU]
 ·intro j h1 h2
  rw [allU_length] at h1
  rw [List.getElem_set]
  simp only [allU, List.getElem_map, List.getElem_range]
  by_cases e : i = j
  ·subst e; simp [h1]
  ·rw [if_neg e]
   by_cases h : j < i
   ·rw [if_pos h, if_pos (by omega)]
   ·rw [if_neg h, if_neg (by omega)]
theorem allU_at {C : List Int} {S : List Nat} {i : Nat} (hi : i < C.length) : (allU C S C.length).getD i 0 = S.getD C[i].toNat 0 := by
 have hl : i < (allU C S C.length).length := by rw [allU_length]; exact hi
 rw [List.getD_eq_getElem?_getD, List.getElem?_eq_getElem hl]
 simp [allU, hi]
set_option maxRecDepth 1000000 in
set_option maxHeartbeats 60000000 in
theorem bec_sA (w W4 : World) (x bC : Nat) (vF v1 v2 v3 v4 : Value) (e : Int) (Ac : Option Addr) (cc : Nat) (C F : List Int) (T : Th) (hE : ∀ W, Below w.heap.size w W → (W.cell? ⟨x, 1, none⟩ = some (.int .i64 T.lits) ∧ W.cell? ⟨x, 2, none⟩ = some v2 ∧ W.cell? ⟨x, 3, none⟩ = some v3 ∧ W.cell? ⟨x, 4, none⟩ = some v4) ∧ RdTh W (.agg #[.int .i64 T.lits, v2, v3, v4]) T ∧ RdI W vF F)
  (hgv : givenErr T F = 0) (hb4 : Below w.heap.size w W4) (hC : W4.ownsRow bC 3 1 (.slice Ac C.length cc) C.length (intsV C)) (hok : DOk T.foes.length C) (hn4 : T.foes.length ≤ 4096)
  (h1 : e = 0 → ∃ Mm : List Nat, W4.ownsRow w.heap.size 58 1 v1 Mm.length (marksV Mm) ∧ Mm.length ≤ 100000 ∧ ∀ i (h : i < C.length), i < Mm.length ∧ Mm.getD i 0 = (solveM T F).getD C[i].toNat 0)
  (f : Nat → Value) (K : Act → World → Prop) (Q' : Exit → Act → World → Prop)
  (hK : ∀ (t : Array Value) (w' : World) (Am : Option Addr) (cm : Nat) (Mm : List Nat), t.size = 124 → t[0]? = some (.pointer (some ⟨x, 0, none⟩)) → t[1]? = some vF → t[7]? = some (.slice Ac C.length cc) → t[10]? = some (.slice Am Mm.length cm) → w'.ownsRow w.heap.size 58 1 (.slice Am Mm.length cm) Mm.length (marksV Mm) → Mm.length ≤ 100000 → (∀ i (h : i < C.length), i < Mm.length ∧ Mm.getD i 0 = (solveM T F).getD C[i].toNat 0) → Below W4.heap.size W4 w' → K ⟨t, []⟩ w') :
  Code.wp Tryz.prog becSegA (Exit.then K Q') ⟨#[.pointer (some ⟨x, 0, none⟩), vF, (f 2), (f 3), (f 4), (f 5), (f 6), .slice Ac C.length cc, (f 8), (f 9), v1, .int .i64 e, (f 12), (f 13), (f 14), (f 15), (f 16), (f 17), (f 18), (f 19), (f 20), (f 21), (f 22), (f 23), (f 24), (f 25), (f 26), (f 27), (f 28), (f 29), (f 30), (f 31), (f 32), (f 33), (f 34), (f 35), (f 36), (f 37), (f 38), (f 39), (f 40), (f 41), (f 42), (f 43), (f 44), (f 45), (f 46), (f 47), (f 48), (f 49), (f 50), (f 51), (f 52), (f 53), (f 54), (f 55), (f 56), (f 57), (f 58), (f 59), (f 60), (f 61), (f 62), (f 63), (f 64), (f 65), (f 66), (f 67), (f 68), (f 69), (f 70), (f 71), (f 72), (f 73), (f 74), (f 75), (f 76), (f 77), (f 78), (f 79), (f 80), (f 81), (f 82), (f 83), (f 84), (f 85), (f 86), (f 87), (f 88), (f 89), (f 90), (f 91), (f 92), (f 93), (f 94), (f 95), (f 96), (f 97), (f 98), (f 99), (f 100), (f 101), (f 102), (f 103), (f 104), (f 105), (f 106), (f 107), (f 108), (f 109), (f 110), (f 111), (f 112), (f 113), (f 114), (f 115), (f 116), (f 117), (f 118), (f 119), (f 120), (f 121), (f 122), (f 123)], []⟩ W4 := by
 have HK := hid hK
 have HE := hid hE
 have Hgv := hid hgv
 have Hb4 := hid hb4
 have HC := hid hC
 have Hok := hid hok
 have H1 := hid h1
 have hcl := hok.le
 clear hK hE hgv hb4 hC hok h1
 conv => arg 2; whnf
 by_cases he : e = 0
 ·subst he
  obtain ⟨Mm, hm, hml, hv⟩ := H1.out rfl
  obtain ⟨Am, cm, rfl⟩ := own_form0 hm
  have Hm := hid hm
  have Hv := hid hv
  clear hm hv
  go_wp2
  exact HK.out _ _ Am cm Mm rfl rfl rfl rfl rfl Hm.out hml Hv.out (ext_refl _)
 ·have hne : (e != 0) = true := by simp [he]
  obtain ⟨⟨c1, c2, c3, c4⟩, hTh, hFr⟩ := HE.out W4 Hb4.out
  have Hs := hid (solve_any W4 _ vF T F hTh hFr)
  rw [Hgv.out] at Hs
  clear hTh hFr he
  go_wp2_with fail
  refine Hs.out.mono ?_
  rintro e9 w5 ⟨_, rfl, vS, rfl, hS, _, hb5⟩
  have hS := hS (by first | rfl | trivial)
  have hSl := solve_length T F
  obtain ⟨AS, cS, rfl⟩ : ∃ A c, vS = .slice A (solveM T F).length c := own_form0 hS
  have HS := hid hS
  have Hb5 := hid hb5
  have hmk := mkMd C.length (by omega)
  clear hS hb5 Hs c1 c2 c3 c4
  go_wp2_with fail
  clear hmk
  go_loopw [55] (fun v55 wr => ∃ i : Nat, i ≤ C.length ∧ v55 = .int .i64 (i : Int) ∧ wr.ownsRow w5.heap.size 58 1 (.slice (some ⟨w5.heap.size, 0, none⟩) C.length C.length) C.length (marksV (allU C (solveM T F) i)) ∧ Below w5.heap.size w5 wr) (fun v55 _ => C.length - (intOf v55).toNat)
  case atStart =>
   refine ⟨0, Nat.zero_le _, rfl, ?_, ext_alloc _ _⟩
   have h9 := World.ownsRow_lit (e := 58) (size := 1) (base := w5.heap.size) w5 (Array.replicate C.length (Value.int .u8 0)) C.length (Nat.le_refl _) (by unfold maxLen; omega) (by simp)
   rw [allU_zero]
   simpa [marksV] using h9
  case round =>
   obtain ⟨i, hi, rfl, hrow, hbl⟩ := hrel
   by_cases hlt : i < C.length
   ·have hb45 := ext_trans Hb5.out hbl
    have hCr := own_ext HC.out hb45
    obtain ⟨Ac2, cc2, e2, _, _, hrc⟩ := own_rdI hCr (by omega)
    obtain ⟨adc, rfl, hcc⟩ := hrc.at1 hlt
    cases e2
    have hq0 := Hok.out.rg _ (List.getElem_mem hlt)
    obtain ⟨q, hq⟩ := Int.eq_ofNat_of_zero_le hq0.1
    have hqS : q < (solveM T F).length := by omega
    obtain ⟨gS, cS2, e4, hcS, _, _, hgSl⟩ := marks_at (own_ext HS.out hbl) hqS
    have hAS : AS = some ⟨gS, 0, none⟩ := by injection e4
    subst hAS
    clear e4 cS2
    rw [hq] at hcc
    have Hsu := hid (allU_succ (S := solveM T F) hlt)
    rw [show C[i].toNat = q by omega] at Hsu
    have hst := hrow.stored i (.int .u8 ((solveM T F).getD q 0 : Nat))
    have hfz := hrow.frozenAt i
    have hca := hrow.cellAt i (by omega)
    have hil : i < (marksV (allU C (solveM T F) i)).length := by simp [marksV, allU]; exact hlt
    rw [List.getElem?_eq_getElem hil] at hca
    have Hst := hid hst
    have hwl := (hrow.lt w5.heap.size rfl).2
    have Hbl := hid hbl
    have hi0 : (0 : Int) ≤ (q : Int) := by omega
    have hi1 : (q : Int) < ((solveM T F).length : Int) := by omega
    generalize (marksV (allU C (solveM T F) i))[i] = old at hca
    clear hrow hbl hb45 hCr hrc hq0 hq hst hil hqS
    generalize (solveM T F).getD q 0 = now at *
    go_wp2_with fail
    go_roundw
    case rel =>
     refine ⟨i + 1, hlt, by go_num, ?_, Hbl.out.setCell (Nat.le_refl _) _⟩
     rw [Hsu.out]
     simp only [marksV, List.map_set]
     exact Hst.out.1
    case measure => exact meas_lt hlt
   ·obtain rfl : i = C.length := by omega
    have hb45 := ext_trans Hb5.out hbl
    have Hb45 := hid hb45
    have Hrow := hid (own_lower hrow (Nat.le_trans Hb4.out.size Hb5.out.size))
    clear hrow hbl hb45
    go_wp2_with fail
    have hal := allU_length C (solveM T F) C.length
    have h9 := Hrow.out
    exact HK.out _ _ (some ⟨w5.heap.size, 0, none⟩) C.length (allU C (solveM T F) C.length) rfl rfl rfl rfl (by rw [hal]; rfl) (by rw [hal]; exact h9) (by rw [hal]; omega) (fun i h => ⟨by rw [hal]; exact h, allU_at h⟩) Hb45.out
end Go.Proofs.Lx
