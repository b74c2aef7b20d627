/- Parts of the proof: Ik, Il, Im. delta.twin: the contract. Printed by gen_twin3.py. No condition. -/
import Derived.Test.YtbidjiopnddldaaGreatP30
import Derived.Test.YtbidjiopnddldaaGreatP28
namespace Go.Proofs.Lx
open Go Go.RowKit Go.Proofs.Tj
set_option linter.unusedVariables false
set_option linter.unusedSimpArgs false
set_option maxRecDepth 100000 in
theorem frame73 (t : Array Value) (h : t.size = 73) : ∃ f : Nat → Value, t = #[f 0, f 1, f 2, f 3, f 4, f 5, f 6, f 7, f 8, f 9, f 10, f 11, f 12, f 13, f 14, f 15, f 16, f 17, f 18, f 19, f 20, f 21, f 22, f 23, f 24, f 25, f 26, f 27, f 28, f 29, f 30, f 31, f 32, f 33, f 34, f 35, f 36, f 37, f 38, f 39, f 40, f 41, f 42, f 43, f 44, f 45, f 46, f 47, f 48, f 49, f 50, f 51, f 52, f 53, f 54, f 55, f 56, f 57, f 58, f 59, f 60, f 61, f 62, f 63, f 64, f 65, f 66, f 67, f 68, f 69, f 70, f 71, f 72] ∧ ∀ i (hi : i < t.size), t[i] = f i := by
 obtain ⟨f, hf⟩ : ∃ f : Nat → Value, ∀ i (hi : i < t.size), t[i] = f i := ⟨fun i => t.getD i undef, fun i hi => by simp [Array.getD, hi]⟩
 have e : t.toList = (List.range 73).map f := by
  apply List.ext_getElem
  ·simp [h]
  ·intro i h1 h2
   simp only [Array.getElem_toList, List.getElem_map, List.getElem_range]
   exact hf i _
 have e2 : (List.range 73).map f = [f 0, f 1, f 2, f 3, f 4, f 5, f 6, f 7, f 8, f 9, f 10, f 11, f 12, f 13, f 14, f 15, f 16, f 17, f 18, f 19, f 20, f 21, f 22, f 23, f 24, f 25, f 26, f 27, f 28, f 29, f 30, f 31, f 32, f 33, f 34, f 35, f 36, f 37, f 38, f 39, f 40, f 41, f 42, f 43, f 44, f 45, f 46, f 47, f 48, f 49, f 50, f 51, f 52, f 53, f 54, f 55, f 56, f 57, f 58, f 59, f 60, f 61, f 62, f 63, f 64, f 65, f 66, f 67, f 68, f 69, f 70, f 71, f 72] := rfl
 refine ⟨f, ?_, hf⟩
 apply Array.toList_inj.1
 rw [e, e2]
theorem wp_frameT {c : Code} {Q : Exit → Act → World → Prop} {w : World} {t : Array Value} {p r2 g3 : Nat} (hs : t.size = 73) (h1 : t[1]? = some (.pointer (some ⟨p, 0, none⟩))) (h2 : t[2]? = some (.pointer (some ⟨r2, 0, none⟩))) (h3 : t[3]? = some (.pointer (some ⟨g3, 0, none⟩))) (k : ∀ f : Nat → Value, Code.wp Tryz.prog c Q ⟨#[(f 0), .pointer (some ⟨p, 0, none⟩), .pointer (some ⟨r2, 0, none⟩), .pointer (some ⟨g3, 0, none⟩), (f 4), (f 5), (f 6), (f 7), (f 8), (f 9), (f 10), (f 11), (f 12), (f 13), (f 14), (f 15), (f 16), (f 17), (f 18), (f 19), (f 20), (f 21), (f 22), (f 23), (f 24), (f 25), (f 26), (f 27), (f 28), (f 29), (f 30), (f 31), (f 32), (f 33), (f 34), (f 35), (f 36), (f 37), (f 38), (f 39), (f 40), (f 41), (f 42), (f 43), (f 44), (f 45), (f 46), (f 47), (f 48), (f 49), (f 50), (f 51), (f 52), (f 53), (f 54), (f 55), (f 56), (f 57), (f 58), (f 59), (f 60), (f 61), (f 62), (f 63), (f 64), (f 65), (f 66), (f 67), (f 68), (f 69), (f 70), (f 71), (f 72)], []⟩ w) : Code.wp Tryz.prog c Q ⟨t, []⟩ w := by
 obtain ⟨f, e, hf⟩ := frame73 t hs
 have g1 := atD_f hf h1; have g2 := atD_f hf h2; have g3 := atD_f hf h3
 have := k f
 rw [← g1, ← g2, ← g3] at this
 rw [e]; exact this
theorem WfTh.rowsmall {T : Th} (h : WfTh T) : (∀ l ∈ T.foes, l.length ≤ 1000000) ∧ (∀ r ∈ T.rules, r.body.length ≤ 1000000) ∧ (∀ l ∈ T.beats, l.length ≤ 1000000) := by
 have h1 := h.fl
 have h2 := h.l1
 have h3 := h.rl
 have h4 := h.bl
 refine ⟨fun l hl => ?_, fun r hr => ?_, fun l hl => ?_⟩
 ·obtain ⟨q, hq, rfl⟩ := List.getElem_of_mem hl
  have := foesAll_true.1 h.fo q hq
  simp only [foesOk, Bool.and_eq_true, decide_eq_true_eq, List.getD_eq_getElem?_getD, List.getElem?_eq_getElem hq, Option.getD_some] at this
  omega
 ·have := h.ru r hr
  simp only [ruleOk, Bool.and_eq_true, decide_eq_true_eq] at this
  omega
 ·obtain ⟨i, hi, rfl⟩ := List.getElem_of_mem hl
  have := beatsAll_true.1 h.ba i hi
  simp only [beatsOk, Bool.and_eq_true, List.getD_eq_getElem?_getD, List.getElem?_eq_getElem hi, Option.getD_some] at this
  have := ris_len this.1
  omega
theorem own_kp {w w' : World} {v : Value} {g b e s n : Nat} {xs : List Value} (h : w.ownsRow b e s v n xs) (hk : Kp g w w') (hne : v.ownBlock ≠ some g) : w'.ownsRow b e s v n xs := by
 refine ⟨h.1, ?_⟩
 rcases h.2 with k1 | ⟨g9, cap, cur, k1, k2, k3, k4⟩
 ·exact .inl k1
 ·exact .inr ⟨g9, cap, cur, k1, k2, (hk.old g9 (lt_of_block k3) fun e => hne (by rw [k1, ← e]; rfl)).trans k3, k4⟩
set_option maxRecDepth 1000000 in
set_option maxHeartbeats 60000000 in
theorem twin_any (w : World) (V : Value) (T : Th) (hT : RdTh w V T) (hwf : WfTh T) :
  Calls Tryz.prog 35 #[V] w (Ret fun r w' => TwinEnd w w' T r) := by
 obtain ⟨hf1, hr1, hb1⟩ := hwf.rowsmall
 have hnF : T.foes.length ≤ 4096 := by have := hwf.fl; have := hwf.l1; omega
 have hnR := hwf.rl
 have hnB : T.beats.length ≤ 4096 := by have := hwf.bl; omega
 obtain ⟨vF, vR, vB, rfl, hF, hR, hB⟩ := hT
 obtain ⟨AF, cF, rfl⟩ : ∃ A c, vF = .slice A T.foes.length c := by obtain ⟨A, c, e, _⟩ := hF; exact ⟨A, c, e⟩
 obtain ⟨AR, cR, rfl⟩ : ∃ A c, vR = .slice A T.rules.length c := by obtain ⟨A, c, e, _⟩ := hR; exact ⟨A, c, e⟩
 obtain ⟨AB, cB, rfl⟩ : ∃ A c, vB = .slice A T.beats.length c := by obtain ⟨A, c, e, _⟩ := hB; exact ⟨A, c, e⟩
 have HF := hid hF
 have HR := hid hR
 have HB := hid hB
 have Hf1 := hid hf1
 have Hr1 := hid hr1
 have Hb1 := hid hb1
 clear hF hR hB hf1 hr1 hb1 hwf
 refine post_gen fun Q HQ => ?_
 go_enter Tryz.func35, Tryz.ntmps35
 refine wp_seq_k fun K hK => ?_
 have HK := hid hK
 clear hK
 go_wp2
 refine HK.out _ _ ?_
 clear HK
 obtain ⟨W2, HW2⟩ : ∃ W2, Hid ((w.alloc (.cells #[.int .i64 T.lits, .slice AF T.foes.length cF, .slice AR T.rules.length cR, .slice AB T.beats.length cB] 25)).alloc (.cells #[.int .i64 0, .slice none 0 0, .slice none 0 0, .slice none 0 0] 25) = W2) := ⟨_, hid rfl⟩
 rw [HW2.out]
 have hb2 : Below w.heap.size w W2 := by rw [← HW2.out]; exact ext_trans (ext_alloc _ _) (ext_alloc _ _)
 have hs2 : W2.heap.size = w.heap.size + 2 := by rw [← HW2.out]; simp
 have hp : W2.heap[w.heap.size]? = some (.cells #[.int .i64 T.lits, .slice AF T.foes.length cF, .slice AR T.rules.length cR, .slice AB T.beats.length cB] 25 (0, 0)) := by
  rw [← HW2.out]; exact (Below.heap_alloc _ _ _ (by simp)).trans (heap_alloc_new w _)
 have hz : W2.heap[w.heap.size + 1]? = some (.cells #[.int .i64 0, .slice none 0 0, .slice none 0 0, .slice none 0 0] 25 (0, 0)) := by
  have := heap_alloc_new (w.alloc (.cells #[.int .i64 T.lits, .slice AF T.foes.length cF, .slice AR T.rules.length cR, .slice AB T.beats.length cB] 25)) (.cells #[.int .i64 0, .slice none 0 0, .slice none 0 0, .slice none 0 0] 25)
  rw [← HW2.out]; simpa using this
 clear HW2
 have Hp := hid hp
 have Hz := hid hz
 clear hp hz
 -- region 1
 refine wp_seq_k fun K hK => ?_
 have HK := hid hK
 clear hK
 refine twR1 W2 w.heap.size AF AR AB cF cR cB T Hp.out (HR.out.ext ruleR_mono hb2) (by omega) (by omega) (by omega) _ _ _ _ _ _ _ _ _ _ _ _ _ _ _ _ _ _ _ _ _ _ _ _ _ _ _ _ _ _ _ _ _ _ _ _ _ _ _ _ _ _ _ _ _ _ _ _ _ _ _ _ _ _ _ _ _ _ _ _ _ _ _ _ _ _ _ _ _ _ _ _ _ ?_
 intro x9 x10 x11 x12 x13 x14 x15 x16 x17 x18 x19 x20 x21 x22 wy gF gB g3 v vs htd
 obtain ⟨AV, cV, rfl⟩ : ∃ A c, v = .slice A T.rules.length c := own_form0 htd.row
 (try simp only [Exit.inBlock, Exit.then])
 refine HK.out _ _ ?_
 clear HK
 have Htd := hid htd
 clear htd
 have hsy := Htd.out.below.size
 have hgF := Htd.out.hF.1
 have hgB := Htd.out.hB.1
 have hg3 := Htd.out.h3.1
 obtain ⟨n1, n2, n3⟩ := Htd.out.ne
 have HvF : Hid ((Value.slice AV T.rules.length cV).ownBlock ≠ some gF) := hid (own_ne_tag Htd.out.row Htd.out.hF.2 (by decide))
 have HvB : Hid ((Value.slice AV T.rules.length cV).ownBlock ≠ some gB) := hid (own_ne_tag Htd.out.row Htd.out.hB.2 (by decide))
 have Hv3 : Hid ((Value.slice AV T.rules.length cV).ownBlock ≠ some g3) := hid (own_ne_tag Htd.out.row Htd.out.h3.2 (by decide))
 have Hvl : Hid (∀ g, (Value.slice AV T.rules.length cV).ownBlock = some g → W2.heap.size ≤ g ∧ g < wy.heap.size) := hid fun g hg => Htd.out.row.lt g hg
 -- the foes
 refine wp_seq_k fun K hK => ?_
 have HK := hid hK
 clear hK
 refine wp_frameT (p := w.heap.size) (r2 := w.heap.size + 1) (g3 := g3) rfl rfl rfl rfl fun f => ?_
 refine twF W2 wy w.heap.size (w.heap.size + 1) g3 gF T.foes.length AF cF T.foes _ _ Htd.out.below Hp.out rfl (HF.out.ext llR_mono hb2) rfl Hf1.out (by omega) Htd.out.h3.2 rfl hgF Htd.out.hF.2 n2 f K _ ?_
 intro t3 w3 vF3 hs3 a1 a2 a3 hl3 htl3
 refine HK.out _ _ ?_
 clear HK f
 have Hl3 := hid hl3
 have Htl3 := hid htl3
 clear hl3 htl3
 have hy3 := Htl3.out.kp.sz
 have hb3 : Below W2.heap.size W2 w3 := by
  have hk := Htl3.out.kp
  have hb := Htd.out.below
  exact ⟨hk.os.trans hb.os, hk.tape.trans hb.tape, hk.output.trans hb.output, by omega, fun k h1 => (hk.old k (by omega) (by omega)).trans (hb.block k h1)⟩
 have H33 := hid ((Htl3.out.kp.old g3 (lt_of_block Htd.out.h3.2) (Ne.symm n2)).trans Htd.out.h3.2)
 -- the rules
 refine wp_seq_k fun K hK => ?_
 have HK := hid hK
 clear hK
 refine wp_frameT (p := w.heap.size) (r2 := w.heap.size + 1) (g3 := g3) hs3 a1 a2 a3 fun f => ?_
 refine twR W2 w3 w.heap.size (w.heap.size + 1) g3 T.rules.length W2.heap.size AV cV T.rules vs _ hb3 rfl Hr1.out (by omega) H33.out rfl (Nat.le_refl _) (own_kp Htd.out.row Htl3.out.kp HvF.out) Htd.out.bod f K _ ?_
 clear hs3 a1 a2 a3
 intro t4 w4 vs4 hs4 a1 a2 a3 htq
 refine HK.out _ _ ?_
 clear HK f
 have Htq := hid htq
 clear htq
 have h34 := Htq.out.kv.sz
 have hb4 : Below W2.heap.size W2 w4 := by
  have hk := Htq.out.kv
  exact ⟨hk.os.trans hb3.os, hk.tape.trans hb3.tape, hk.output.trans hb3.output, by omega, fun k h1 => (hk.old k (by omega) fun e => by have := (Hvl.out k e).1; omega).trans (hb3.block k h1)⟩
 have H34 := hid ((Htq.out.kv.old g3 (lt_of_block H33.out) Hv3.out).trans H33.out)
 have HB4 : Hid (w4.heap[gB]? = some (nilRows T.beats.length)) := hid ((Htq.out.kv.old gB (by have := lt_objD Htd.out.hB.2; omega) HvB.out).trans ((Htl3.out.kp.old gB (lt_objD Htd.out.hB.2) (Ne.symm n1)).trans Htd.out.hB.2))
 -- the superiority
 refine wp_seq_k fun K hK => ?_
 have HK := hid hK
 clear hK
 refine wp_frameT (p := w.heap.size) (r2 := w.heap.size + 1) (g3 := g3) hs4 a1 a2 a3 fun f => ?_
 refine twB W2 w4 w.heap.size (w.heap.size + 1) g3 gB T.beats.length AB cB T.beats _ _ hb4 Hp.out rfl (HB.out.ext llR_mono hb2) rfl Hb1.out (by omega) H34.out rfl hgB HB4.out n3 f K _ ?_
 clear hs4 a1 a2 a3
 intro t5 w5 vB5 hs5 a1 a2 a3 hl5 htl5
 refine HK.out _ _ ?_
 clear HK f
 have Hl5 := hid hl5
 have Htl5 := hid htl5
 clear hl5 htl5
 have h45 := Htl5.out.kp.sz
 have hb5 : Below W2.heap.size W2 w5 := by
  have hk := Htl5.out.kp
  exact ⟨hk.os.trans hb4.os, hk.tape.trans hb4.tape, hk.output.trans hb4.output, by omega, fun k h1 => (hk.old k (by omega) (by omega)).trans (hb4.block k h1)⟩
 have h35 := (Htl5.out.kp.old g3 (lt_of_block H34.out) (Ne.symm n3)).trans H34.out
 have hz5 := (hb5.block (w.heap.size + 1) (by omega)).trans Hz.out
 have e0 : w5.cell? ⟨g3, 0, none⟩ = some (.int .i64 T.lits) := by rw [cell_of_row w5 _ 0 _ _ _ h35]; rfl
 have e1 : w5.cell? ⟨g3, 1, none⟩ = some (.slice (some ⟨gF, 0, none⟩) T.foes.length T.foes.length) := by rw [cell_of_row w5 _ 1 _ _ _ h35]; rfl
 have e2 : w5.cell? ⟨g3, 2, none⟩ = some (.slice AV T.rules.length cV) := by rw [cell_of_row w5 _ 2 _ _ _ h35]; rfl
 have e3 : w5.cell? ⟨g3, 3, none⟩ = some (.slice (some ⟨gB, 0, none⟩) T.beats.length T.beats.length) := by rw [cell_of_row w5 _ 3 _ _ _ h35]; rfl
 have q0 : w5.cell? ⟨w.heap.size + 1, 0, none⟩ = some (.int .i64 0) := by rw [cell_of_row w5 _ 0 _ _ _ hz5]; rfl
 have q1 : w5.cell? ⟨w.heap.size + 1, 1, none⟩ = some (.slice none 0 0) := by rw [cell_of_row w5 _ 1 _ _ _ hz5]; rfl
 have q2 : w5.cell? ⟨w.heap.size + 1, 2, none⟩ = some (.slice none 0 0) := by rw [cell_of_row w5 _ 2 _ _ _ hz5]; rfl
 have q3 : w5.cell? ⟨w.heap.size + 1, 3, none⟩ = some (.slice none 0 0) := by rw [cell_of_row w5 _ 3 _ _ _ hz5]; rfl
 have p0 := frozen_of_row w5 (w.heap.size + 1) 0 _ _ hz5
 have p1 := frozen_of_row w5 (w.heap.size + 1) 1 _ _ hz5
 have p2 := frozen_of_row w5 (w.heap.size + 1) 2 _ _ hz5
 have p3 := frozen_of_row w5 (w.heap.size + 1) 3 _ _ hz5
 have j7 := heap_setCell_same _ (w.heap.size + 1) 0 _ _ (.int .i64 T.lits) hz5
 have j8 := heap_setCell_same _ (w.heap.size + 1) 1 _ _ (.slice (some ⟨gF, 0, none⟩) T.foes.length T.foes.length) j7
 have j9 := heap_setCell_same _ (w.heap.size + 1) 2 _ _ (.slice AV T.rules.length cV) j8
 have j10 := heap_setCell_same _ (w.heap.size + 1) 3 _ _ (.slice (some ⟨gB, 0, none⟩) T.beats.length T.beats.length) j9
 have o0 := cell_of_row _ _ 0 _ _ _ j10
 have o1 := cell_of_row _ _ 1 _ _ _ j10
 have o2 := cell_of_row _ _ 2 _ _ _ j10
 have o3 := cell_of_row _ _ 3 _ _ _ j10
 simp only [List.setIfInBounds_toArray, List.set_cons_zero, List.set_cons_succ, List.getElem?_toArray, List.getElem?_cons_zero, List.getElem?_cons_succ] at o0 o1 o2 o3
 have Hend : Hid (TwinEnd w ((((w5.setCell ⟨w.heap.size + 1, 0, none⟩ (.int .i64 T.lits)).setCell ⟨w.heap.size + 1, 1, none⟩ (.slice (some ⟨gF, 0, none⟩) T.foes.length T.foes.length)).setCell ⟨w.heap.size + 1, 2, none⟩ (.slice AV T.rules.length cV)).setCell ⟨w.heap.size + 1, 3, none⟩ (.slice (some ⟨gB, 0, none⟩) T.beats.length T.beats.length)) T (.agg #[.int .i64 T.lits, .slice (some ⟨gF, 0, none⟩) T.foes.length T.foes.length, .slice AV T.rules.length cV, .slice (some ⟨gB, 0, none⟩) T.beats.length T.beats.length])) := hid (by
  have hsE : ((((w5.setCell ⟨w.heap.size + 1, 0, none⟩ (.int .i64 T.lits)).setCell ⟨w.heap.size + 1, 1, none⟩ (.slice (some ⟨gF, 0, none⟩) T.foes.length T.foes.length)).setCell ⟨w.heap.size + 1, 2, none⟩ (.slice AV T.rules.length cV)).setCell ⟨w.heap.size + 1, 3, none⟩ (.slice (some ⟨gB, 0, none⟩) T.beats.length T.beats.length)).heap.size = w5.heap.size := by simp only [World.size_setCell]
  have hkE : ∀ g, g ≠ w.heap.size + 1 → ((((w5.setCell ⟨w.heap.size + 1, 0, none⟩ (.int .i64 T.lits)).setCell ⟨w.heap.size + 1, 1, none⟩ (.slice (some ⟨gF, 0, none⟩) T.foes.length T.foes.length)).setCell ⟨w.heap.size + 1, 2, none⟩ (.slice AV T.rules.length cV)).setCell ⟨w.heap.size + 1, 3, none⟩ (.slice (some ⟨gB, 0, none⟩) T.beats.length T.beats.length)).heap[g]? = w5.heap[g]? := fun g hg =>
   (heap_setCell_other _ _ g _ hg).trans ((heap_setCell_other _ _ g _ hg).trans ((heap_setCell_other _ _ g _ hg).trans (heap_setCell_other _ _ g _ hg)))
  refine ⟨_, _, _, _, _, _, rfl, fun W hW => ?_, ?_⟩
  ·rw [hsE] at hW
   have hW5 : ∀ k, W2.heap.size ≤ k → k < w5.heap.size → W.heap[k]? = w5.heap[k]? := fun k h1 h2 => (hW k (by omega) h2).trans (hkE k (by omega))
   have hW4 : ∀ k, W2.heap.size ≤ k → k < w4.heap.size → k ≠ gB → W.heap[k]? = w4.heap[k]? := fun k h1 h2 h3 => (hW5 k h1 (by omega)).trans (Htl5.out.kp.old k h2 h3)
   have hW3 : ∀ k, W2.heap.size ≤ k → k < w3.heap.size → k ≠ gB → (Value.slice AV T.rules.length cV).ownBlock ≠ some k → W.heap[k]? = w3.heap[k]? := fun k h1 h2 h3 h4 => (hW4 k h1 (by omega) h3).trans (Htq.out.kv.old k h2 h4)
   have lB := lt_objD Htd.out.hB.2
   have lF := lt_objD Htd.out.hF.2
   refine ⟨_, _, _, rfl, ?_, ?_, ?_⟩
   ·exact Htl3.out.reads Hl3.out rfl (by omega) (fun l hl => by have := Hf1.out l hl; omega) (hW3 gF hgF (by omega) n1 HvF.out) fun k h1 h2 => hW3 k (by omega) h2 (by omega) fun e => by have := (Hvl.out k e).2; omega
   ·exact Htq.out.reads (by omega) (fun r hr => by have := Hr1.out r hr; omega) (fun g hg => by
     have h9 := Hvl.out g hg
     exact hW4 g h9.1 (by omega) fun e => HvB.out (by rw [hg, e])) fun k h1 h2 => hW4 k (by omega) h2 (by omega)
   ·exact Htl5.out.reads Hl5.out rfl (by omega) (fun l hl => by have := Hb1.out l hl; omega) (hW5 gB hgB (by omega)) fun k h1 h2 => hW5 k (by omega) h2
  ·have hb9 := ext_trans hb2 hb5
   exact ((((hb9.setCell (by dsimp only; omega) _).setCell (by dsimp only; omega) _).setCell (by dsimp only; omega) _).setCell (by dsimp only; omega) _))
 clear h35 hz5 j7 j8 j9 j10
 refine wp_frameT (p := w.heap.size) (r2 := w.heap.size + 1) (g3 := g3) hs5 a1 a2 a3 fun f => ?_
 go_wp2
 refine bodyPost_ret (by simp [results, Tryz.results35, go_sem, o0, o1, o2, o3]; try rfl) rfl ?_
 exact Fin HQ Hend.out
end Go.Proofs.Lx

namespace Go.Proofs.Lx
open Go Go.RowKit Go.Proofs.Tj
set_option linter.unusedVariables false
set_option linter.unusedSimpArgs false
theorem rdI_nil (W : World) : RdI W (.slice none 0 0) [] := ⟨none, 0, rfl, Nat.le_refl _, Nat.zero_le _, fun i hi => absurd hi (Nat.not_lt_zero _)⟩
/-- A new engine's block, laid behind all that it stands on. -/
theorem EngD.made {w w5 : World} {b : Nat} {vF vR vB vFa vM vTo : Value} {T : Th} {F U : List Int} {M : List Nat} (hb : Below w.heap.size w w5) (hbs : w.heap.size ≤ b)
  (hM : w5.ownsRow w.heap.size 58 1 vM M.length (marksV M))
  (hrd : ∀ W : World, (∀ g, w.heap.size ≤ g → g < w5.heap.size → vM.ownBlock ≠ some g → W.heap[g]? = w5.heap[g]?) → RdTh W (.agg #[.int .i64 T.lits, vF, vR, vB]) T ∧ RdI W vFa F ∧ RdI W vTo U)
  (hsm : M.length ≤ 4096 ∧ F.length ≤ 4096 ∧ U.length ≤ 4096) :
  EngD (w5.alloc (.cells #[.bool true, .int .i64 T.lits, vF, vR, vB, vFa, vM, vTo] 72)) w5.heap.size vM T F M U (fun g => w.heap.size ≤ g ∧ g < (w5.alloc (.cells #[.bool true, .int .i64 T.lits, vF, vR, vB, vFa, vM, vTo] 72)).heap.size) := by
 have hs : (w5.alloc (.cells #[.bool true, .int .i64 T.lits, vF, vR, vB, vFa, vM, vTo] 72)).heap.size = w5.heap.size + 1 := by simp
 have hws := hb.size
 refine ⟨⟨vF, vR, vB, vFa, vTo, heap_alloc_new w5 _, fun W hW => hrd W fun g h1 h2 h3 => ?_⟩, own_ext (own_lower hM (Nat.zero_le _)) (ext_alloc _ _), fun g hg => hg.2, ⟨hws, by omega⟩, fun g hg => ?_, hsm⟩
 ·exact (hW g ⟨h1, by omega⟩ (by omega) h3).trans ((ext_alloc w5 _).block g h2)
 ·have := hM.lt g hg
  exact ⟨⟨this.1, by omega⟩, by omega⟩
set_option maxRecDepth 100000 in
set_option maxHeartbeats 6400000 in
theorem newD_any (w : World) (V : Value) (T : Th) (hT : RdTh w V T) :
  Calls Tryz.prog 8 #[V] w (Ret fun r w' => Below w.heap.size w w' ∧ ((givenErr T [] ≠ 0 ∧ r = .tuple #[.pointer none, .int .i64 (givenErr T [])]) ∨
   (givenErr T [] = 0 ∧ ∃ x vM, r = .tuple #[.pointer (some ⟨x, 0, none⟩), .int .i64 0] ∧ EngD w' x vM T [] (solveM T []) [] (fun g => w.heap.size ≤ g ∧ g < w'.heap.size)))) := by
 have HT := hid hT
 obtain ⟨vF, vR, vB, rfl, hF, hR, hB⟩ := hT
 clear hF hR hB
 obtain ⟨W1, HW1⟩ : ∃ W1, Hid (w.alloc (.cells #[.int .i64 T.lits, vF, vR, vB] 25) = W1) := ⟨_, hid rfl⟩
 have Hb1 : Hid (Below w.heap.size w W1) := hid (by rw [← HW1.out]; exact ext_alloc _ _)
 have Hbox : Hid (∀ W, Below W1.heap.size W1 W → W.cell? ⟨w.heap.size, 0, none⟩ = some (.int .i64 T.lits) ∧ W.cell? ⟨w.heap.size, 1, none⟩ = some vF ∧ W.cell? ⟨w.heap.size, 2, none⟩ = some vR ∧ W.cell? ⟨w.heap.size, 3, none⟩ = some vB) := hid fun W h => by rw [← HW1.out] at h; exact box4 h
 have Hs := hid (solve_any W1 _ (.slice none 0 0) T [] (HT.out.ext Hb1.out) (rdI_nil _))
 refine post_gen fun Q HQ => ?_
 go_enter Tryz.func8, Tryz.ntmps8
 obtain ⟨a0, a1, a2, a3⟩ := Hbox.out W1 (ext_refl W1)
 rw [← HW1.out] at a0 a1 a2 a3
 go_wp2_with fail
 rw [HW1.out]
 refine Hs.out.mono ?_
 rintro e w3 ⟨_, rfl, v, rfl, hok, hno, hb3⟩
 clear a0 a1 a2 a3 Hs
 by_cases he : givenErr T [] = 0
 ·have hwf := (givenErr_ok.1 he).1
  have Hwf := hid hwf
  have hown := hok he
  have Hown := hid hown
  obtain ⟨AM, cM, rfl⟩ := own_form0 hown
  have He := hid he
  rw [he]
  have Hb3 := hid hb3
  clear hok hno hb3 hown hwf he
  obtain ⟨a0, a1, a2, a3⟩ := Hbox.out w3 Hb3.out
  have Htw := hid (twin_any w3 _ T (HT.out.ext (ext_trans Hb1.out Hb3.out)) Hwf.out)
  obtain ⟨ML, HML⟩ : ∃ ML, Hid (solveM T [] = ML) := ⟨_, hid rfl⟩
  rw [HML.out] at Hown ⊢
  generalize hMl : ML.length = nM at *
  go_wp2_with fail
  refine Htw.out.mono ?_
  rintro e w5 ⟨_, rfl, AF, cF, AR, cR, AB, cB, rfl, hrd, hb5⟩
  have Hrd := hid hrd
  have Hb5 := hid hb5
  clear hrd hb5 Htw a0 a1 a2 a3
  go_wp2_with fail
  go_ret2
  have hb05 : Below w.heap.size w w5 := ext_trans (ext_trans Hb1.out Hb3.out) Hb5.out
  have h13 := Hb3.out.size
  have h01 := Hb1.out.size
  subst hMl
  have eM := HML.out
  subst eM
  refine Fin HQ ⟨ext_trans hb05 (ext_alloc _ _), .inr ⟨He.out, w5.heap.size, .slice AM (solveM T []).length cM, rfl, ?_⟩⟩
  refine EngD.made hb05 (Nat.le_refl _) (own_lower (own_ext Hown.out Hb5.out) h01) (fun W hW => ⟨Hrd.out W fun k h1 h2 => hW k (by omega) h2 fun e => ?_, rdI_nil _, rdI_nil _⟩) ⟨?_, Nat.zero_le _, Nat.zero_le _⟩
  ·have := (Hown.out.lt k e).2; omega
  ·rw [solve_length]
   have := Hwf.out.fl; have := Hwf.out.l1; omega
 ·have hv := hno he
  subst hv
  have He := hid he
  obtain ⟨g, Hg⟩ : ∃ g, Hid (givenErr T [] = g) := ⟨_, hid rfl⟩
  rw [Hg.out]
  have hg : g ≠ 0 := by rw [← Hg.out]; exact he
  clear hok hno he
  go_wp2_with fail
  go_ret2
  exact Fin HQ ⟨ext_trans Hb1.out hb3, .inl ⟨He.out, by rw [Hg.out]; rfl⟩⟩
end Go.Proofs.Lx

namespace Go.Proofs.Lx
open Go Go.RowKit Go.Proofs.Tj
set_option linter.unusedVariables false
set_option linter.unusedSimpArgs false
set_option maxRecDepth 1000000 in
set_option maxHeartbeats 60000000 in
theorem copyD_any (w : World) (x : Nat) (vM : Value) (T : Th) (F : List Int) (M : List Nat) (U : List Int) (Ft : Nat → Prop) (h : EngD w x vM T F M U Ft) (hwf : WfTh T) :
  Calls Tryz.prog 26 #[.pointer (some ⟨x, 0, none⟩)] w (Ret fun r w' => Below w.heap.size w w' ∧ ∃ y vM', r = .pointer (some ⟨y, 0, none⟩) ∧ EngD w' y vM' T F M U (fun g => w.heap.size ≤ g ∧ g < w'.heap.size)) := by
 obtain ⟨vF, vR, vB, vFa, vTo, ⟨c0, c1, c2, c3, c4, c5, c6, c7⟩, hT, hF, hU⟩ := h.cells
 have Hu := hid (unmade_any w x c0)
 have Hwf := hid hwf
 have Hsm := hid h.sm
 have HT := hid hT
 have HF := hid hF
 have HU := hid hU
 have HM := hid h.rdM
 have HS : Hid (∀ W : World, Below w.heap.size w W → (fun w' : World => w'.cell? ⟨x, 1, none⟩ = some (.int .i64 T.lits) ∧ w'.cell? ⟨x, 2, none⟩ = some vF ∧ w'.cell? ⟨x, 3, none⟩ = some vR ∧ w'.cell? ⟨x, 4, none⟩ = some vB ∧ w'.cell? ⟨x, 5, none⟩ = some vFa ∧ w'.cell? ⟨x, 6, none⟩ = some vM ∧ w'.cell? ⟨x, 7, none⟩ = some vTo) W) := hid fun W hW => ⟨cell_ext hW c1, cell_ext hW c2, cell_ext hW c3, cell_ext hW c4, cell_ext hW c5, cell_ext hW c6, cell_ext hW c7⟩
 clear h hT hF hU hwf c1 c2 c3 c4 c5 c6 c7
 refine post_gen fun Q HQ => ?_
 go_enter Tryz.func26, Tryz.ntmps26
 go_wp2_with (go_at_call 38; refine Hu.out.mono ?_; rintro e w1 ⟨_, rfl, rfl, rfl⟩)
 clear Hu c0
 refine wp_region_noPanic ?_
 refine wp_region_held_drew (S := (fun w' : World => w'.cell? ⟨x, 1, none⟩ = some (.int .i64 T.lits) ∧ w'.cell? ⟨x, 2, none⟩ = some vF ∧ w'.cell? ⟨x, 3, none⟩ = some vR ∧ w'.cell? ⟨x, 4, none⟩ = some vB ∧ w'.cell? ⟨x, 5, none⟩ = some vFa ∧ w'.cell? ⟨x, 6, none⟩ = some vM ∧ w'.cell? ⟨x, 7, none⟩ = some vTo)) (by kernel_rfl) (HS.out _ (ext_refl w).drew) (fun hHeld => ?_)
 obtain ⟨W0, hW0⟩ : ∃ W, W = w.drew := ⟨_, rfl⟩
 have Hb0 : Hid (Below w.heap.size w W0) := hid (by rw [hW0]; exact (ext_refl w).drew)
 rw [← hW0]
 clear hW0 hHeld
 have hHeld := HS.out _ Hb0.out

 refine wpAnyH_take (i := 0) (v := ?v1) (by simp only [List.getElem?_toArray, List.getElem?_cons_zero, List.getElem?_cons_succ]; rfl) (by kernel_rfl) (by kernel_rfl) (by kernel_rfl) (fun _ _ _ h => h) (Or.inl ⟨by rfl, ?hy1⟩) (by assumption) ?rest1
 case hy1 => (intro w hSw; (try dsimp only at hSw); go_simp) <;> try with_reducible rfl
 simp only [Act.put, List.setIfInBounds_toArray, List.set_cons_zero, List.set_cons_succ]
 refine wpAnyH_take (i := 1) (v := ?v2) (by simp only [List.getElem?_toArray, List.getElem?_cons_zero, List.getElem?_cons_succ]; rfl) (by kernel_rfl) (by kernel_rfl) (by kernel_rfl) (fun _ _ _ h => h) (Or.inl ⟨by rfl, ?hy2⟩) (by assumption) ?rest2
 case hy2 => (intro w hSw; (try dsimp only at hSw); go_simp) <;> try with_reducible rfl
 simp only [Act.put, List.setIfInBounds_toArray, List.set_cons_zero, List.set_cons_succ]
 refine wpAnyH_take (i := 2) (v := ?v3) (by simp only [List.getElem?_toArray, List.getElem?_cons_zero, List.getElem?_cons_succ]; rfl) (by kernel_rfl) (by kernel_rfl) (by kernel_rfl) (fun _ _ _ h => h) (Or.inl ⟨by rfl, ?hy3⟩) (by assumption) ?rest3
 case hy3 => (intro w hSw; (try dsimp only at hSw); go_simp) <;> try with_reducible rfl
 simp only [Act.put, List.setIfInBounds_toArray, List.set_cons_zero, List.set_cons_succ]
 refine wpAnyH_take (i := 3) (v := ?v4) (by simp only [List.getElem?_toArray, List.getElem?_cons_zero, List.getElem?_cons_succ]; rfl) (by kernel_rfl) (by kernel_rfl) (by kernel_rfl) (fun _ _ _ h => h) (Or.inl ⟨by rfl, ?hy4⟩) (by assumption) ?rest4
 case hy4 => (intro w hSw; (try dsimp only at hSw); go_simp) <;> try with_reducible rfl
 simp only [Act.put, List.setIfInBounds_toArray, List.set_cons_zero, List.set_cons_succ]
 refine wpAnyH_take (i := 5) (v := ?v5) (by simp only [List.getElem?_toArray, List.getElem?_cons_zero, List.getElem?_cons_succ]; rfl) (by kernel_rfl) (by kernel_rfl) (by kernel_rfl) (fun _ _ _ h => h) (Or.inl ⟨by rfl, ?hy5⟩) (by assumption) ?rest5
 case hy5 => (intro w hSw; (try dsimp only at hSw); go_simp) <;> try with_reducible rfl
 simp only [Act.put, List.setIfInBounds_toArray, List.set_cons_zero, List.set_cons_succ]
 refine wpAnyH_take (i := 6) (v := ?v6) (by simp only [List.getElem?_toArray, List.getElem?_cons_zero, List.getElem?_cons_succ]; rfl) (by kernel_rfl) (by kernel_rfl) (by kernel_rfl) (fun _ _ _ h => h) (Or.inl ⟨by rfl, ?hy6⟩) (by assumption) ?rest6
 case hy6 => (intro w hSw; (try dsimp only at hSw); go_simp) <;> try with_reducible rfl
 simp only [Act.put, List.setIfInBounds_toArray, List.set_cons_zero, List.set_cons_succ]
 refine wpAnyH_take (i := 7) (v := ?v7) (by simp only [List.getElem?_toArray, List.getElem?_cons_zero, List.getElem?_cons_succ]; rfl) (by kernel_rfl) (by kernel_rfl) (by kernel_rfl) (fun _ _ _ h => h) (Or.inl ⟨by rfl, ?hy7⟩) (by assumption) ?rest7
 case hy7 => (intro w hSw; (try dsimp only at hSw); go_simp) <;> try with_reducible rfl
 simp only [Act.put, List.setIfInBounds_toArray, List.set_cons_zero, List.set_cons_succ]
 refine wpAnyH_take (i := 8) (v := ?v8) (by simp only [List.getElem?_toArray, List.getElem?_cons_zero, List.getElem?_cons_succ]; rfl) (by kernel_rfl) (by kernel_rfl) (by kernel_rfl) (fun _ _ _ h => h) (Or.inl ⟨by rfl, ?hy8⟩) (by assumption) ?rest8
 case hy8 => (intro w hSw; (try dsimp only at hSw); go_simp) <;> try with_reducible rfl
 simp only [Act.put, List.setIfInBounds_toArray, List.set_cons_zero, List.set_cons_succ]
 refine wpAnyH_take (i := 10) (v := ?v9) (by simp only [List.getElem?_toArray, List.getElem?_cons_zero, List.getElem?_cons_succ]; rfl) (by kernel_rfl) (by kernel_rfl) (by kernel_rfl) (fun _ _ _ h => h) (Or.inl ⟨by rfl, ?hy9⟩) (by assumption) ?rest9
 case hy9 => (intro w hSw; (try dsimp only at hSw); go_simp) <;> try with_reducible rfl
 simp only [Act.put, List.setIfInBounds_toArray, List.set_cons_zero, List.set_cons_succ]
 refine wpAnyH_take (i := 11) (v := ?v10) (by simp only [List.getElem?_toArray, List.getElem?_cons_zero, List.getElem?_cons_succ]; rfl) (by kernel_rfl) (by kernel_rfl) (by kernel_rfl) (fun _ _ _ h => h) (Or.inl ⟨by rfl, ?hy10⟩) (by assumption) ?rest10
 case hy10 => (intro w hSw; (try dsimp only at hSw); go_simp) <;> try with_reducible rfl
 simp only [Act.put, List.setIfInBounds_toArray, List.set_cons_zero, List.set_cons_succ]
 refine wpAnyH_take (i := 12) (v := ?v11) (by simp only [List.getElem?_toArray, List.getElem?_cons_zero, List.getElem?_cons_succ]; rfl) (by kernel_rfl) (by kernel_rfl) (by kernel_rfl) (fun _ _ _ h => h) (Or.inl ⟨by rfl, ?hy11⟩) (by assumption) ?rest11
 case hy11 => (intro w hSw; (try dsimp only at hSw); go_simp) <;> try with_reducible rfl
 simp only [Act.put, List.setIfInBounds_toArray, List.set_cons_zero, List.set_cons_succ]
 refine wpAnyH_take (i := 13) (v := ?v12) (by simp only [List.getElem?_toArray, List.getElem?_cons_zero, List.getElem?_cons_succ]; rfl) (by kernel_rfl) (by kernel_rfl) (by kernel_rfl) (fun _ _ _ h => h) (Or.inl ⟨by rfl, ?hy12⟩) (by assumption) ?rest12
 case hy12 => (intro w hSw; (try dsimp only at hSw); go_simp) <;> try with_reducible rfl
 simp only [Act.put, List.setIfInBounds_toArray, List.set_cons_zero, List.set_cons_succ]
 refine wpAnyH_take (i := 15) (v := ?v13) (by simp only [List.getElem?_toArray, List.getElem?_cons_zero, List.getElem?_cons_succ]; rfl) (by kernel_rfl) (by kernel_rfl) (by kernel_rfl) (fun _ _ _ h => h) (Or.inl ⟨by rfl, ?hy13⟩) (by assumption) ?rest13
 case hy13 => (intro w hSw; (try dsimp only at hSw); go_simp) <;> try with_reducible rfl
 simp only [Act.put, List.setIfInBounds_toArray, List.set_cons_zero, List.set_cons_succ]
 refine wpAnyH_take (i := 16) (v := ?v14) (by simp only [List.getElem?_toArray, List.getElem?_cons_zero, List.getElem?_cons_succ]; rfl) (by kernel_rfl) (by kernel_rfl) (by kernel_rfl) (fun _ _ _ h => h) (Or.inl ⟨by rfl, ?hy14⟩) (by assumption) ?rest14
 case hy14 => (intro w hSw; (try dsimp only at hSw); go_simp) <;> try with_reducible rfl
 simp only [Act.put, List.setIfInBounds_toArray, List.set_cons_zero, List.set_cons_succ]
 refine wpAnyH_take (i := 17) (v := ?v15) (by simp only [List.getElem?_toArray, List.getElem?_cons_zero, List.getElem?_cons_succ]; rfl) (by kernel_rfl) (by kernel_rfl) (by kernel_rfl) (fun _ _ _ h => h) (Or.inl ⟨by rfl, ?hy15⟩) (by assumption) ?rest15
 case hy15 => (intro w hSw; (try dsimp only at hSw); go_simp) <;> try with_reducible rfl
 simp only [Act.put, List.setIfInBounds_toArray, List.set_cons_zero, List.set_cons_succ]
 refine wpAnyH_take (i := 18) (v := ?v16) (by simp only [List.getElem?_toArray, List.getElem?_cons_zero, List.getElem?_cons_succ]; rfl) (by kernel_rfl) (by kernel_rfl) (by kernel_rfl) (fun _ _ _ h => h) (Or.inl ⟨by rfl, ?hy16⟩) (by assumption) ?rest16
 case hy16 => (intro w hSw; (try dsimp only at hSw); go_simp) <;> try with_reducible rfl
 simp only [Act.put, List.setIfInBounds_toArray, List.set_cons_zero, List.set_cons_succ]
 refine wpAnyH_ready (rs := [4]) (by kernel_rfl) (by simp) ?_
 refine AllReadyH.cons (by simp only [List.getElem?_toArray, List.getElem?_cons_zero, List.getElem?_cons_succ]; rfl) (fun K9 hK9 => ?_) ?_
 rotate_left
 exact AllReadyH.nil
 go_simp
 refine (twin_any W0 _ T (HT.out.ext Hb0.out) Hwf.out).mono ?_
 rintro e W1 ⟨_, rfl, A1, a1, A2, a2, A3, a3, rfl, hrd, hb⟩
 have Hrd := hid hrd
 have Hc1 := hid hb
 have Hb1 := hid (ext_trans Hb0.out hb)
 clear hrd hb
 go_simp
 refine hK9.out _ _ ?_ (fun hHeld => ?_)
 ·exact HS.out _ Hb1.out
 clear hK9 K9
 try simp only [Act.put, List.setIfInBounds_toArray, List.set_cons_zero, List.set_cons_succ]
 refine wpAnyH_ready (rs := [9]) (by kernel_rfl) (by simp) ?_
 refine AllReadyH.cons (by simp only [List.getElem?_toArray, List.getElem?_cons_zero, List.getElem?_cons_succ]; rfl) (fun K9 hK9 => ?_) ?_
 rotate_left
 exact AllReadyH.nil
 go_simp
 refine (cloneI_any W1 _ F (HF.out.ext (scR_mono _) Hb1.out) (by have := Hsm.out; omega)).mono ?_
 rintro e W2 ⟨v, rfl, hown, hb⟩
 obtain ⟨A4, a4, rfl⟩ : ∃ A c, v = .slice A F.length c := own_form0 hown
 have Ho2 := hid hown
 have Hc2 := hid hb
 have Hb2 := hid (ext_trans Hb1.out hb)
 clear hown hb
 go_simp
 refine hK9.out _ _ ?_ (fun hHeld => ?_)
 ·exact HS.out _ Hb2.out
 clear hK9 K9
 try simp only [Act.put, List.setIfInBounds_toArray, List.set_cons_zero, List.set_cons_succ]
 refine wpAnyH_ready (rs := [14]) (by kernel_rfl) (by simp) ?_
 refine AllReadyH.cons (by simp only [List.getElem?_toArray, List.getElem?_cons_zero, List.getElem?_cons_succ]; rfl) (fun K9 hK9 => ?_) ?_
 rotate_left
 exact AllReadyH.nil
 go_simp
 refine (cloneM_any W2 _ M (HM.out.ext (scR_mono _) Hb2.out)).mono ?_
 rintro e W3 ⟨v, rfl, hown, hb⟩
 obtain ⟨A5, a5, rfl⟩ : ∃ A c, v = .slice A M.length c := own_form0 hown
 have Ho3 := hid hown
 have Hc3 := hid hb
 have Hb3 := hid (ext_trans Hb2.out hb)
 clear hown hb
 go_simp
 refine hK9.out _ _ ?_ (fun hHeld => ?_)
 ·exact HS.out _ Hb3.out
 clear hK9 K9
 try simp only [Act.put, List.setIfInBounds_toArray, List.set_cons_zero, List.set_cons_succ]
 refine wpAnyH_ready (rs := [19]) (by kernel_rfl) (by simp) ?_
 refine AllReadyH.cons (by simp only [List.getElem?_toArray, List.getElem?_cons_zero, List.getElem?_cons_succ]; rfl) (fun K9 hK9 => ?_) ?_
 rotate_left
 exact AllReadyH.nil
 go_simp
 refine (cloneI_any W3 _ U (HU.out.ext (scR_mono _) Hb3.out) (by have := Hsm.out; omega)).mono ?_
 rintro e W4 ⟨v, rfl, hown, hb⟩
 obtain ⟨A6, a6, rfl⟩ : ∃ A c, v = .slice A U.length c := own_form0 hown
 have Ho4 := hid hown
 have Hc4 := hid hb
 have Hb4 := hid (ext_trans Hb3.out hb)
 clear hown hb
 go_simp
 refine hK9.out _ _ ?_ (fun hHeld => ?_)
 ·exact HS.out _ Hb4.out
 clear hK9 K9
 try simp only [Act.put, List.setIfInBounds_toArray, List.set_cons_zero, List.set_cons_succ]
 refine wpAnyH_take (i := 20) (v := ?v17) (by simp only [List.getElem?_toArray, List.getElem?_cons_zero, List.getElem?_cons_succ]; rfl) (by kernel_rfl) (by kernel_rfl) (by kernel_rfl) (fun _ _ _ h => h) (Or.inl ⟨by rfl, ?hy17⟩) (by assumption) ?rest17
 case hy17 => (intro w hSw; (try dsimp only at hSw); go_simp) <;> try with_reducible rfl
 simp only [Act.put, List.setIfInBounds_toArray, List.set_cons_zero, List.set_cons_succ]
 refine wpAnyH_ready (rs := [21]) (by kernel_rfl) (by simp) ?_
 refine AllReadyH.cons (by simp only [List.getElem?_toArray, List.getElem?_cons_zero, List.getElem?_cons_succ]; rfl) (fun K9 hK9 => ?_) ?_
 rotate_left
 exact AllReadyH.nil
 go_simp
 have Hb5 : Hid (Below w.heap.size w (W4.alloc (.cells #[.bool true, .int .i64 T.lits, .slice A1 T.foes.length a1, .slice A2 T.rules.length a2, .slice A3 T.beats.length a3, .slice A4 F.length a4, .slice A5 M.length a5, .slice A6 U.length a6] 72))) := hid (ext_trans Hb4.out (ext_alloc _ _))
 refine hK9.out _ _ ?_ (fun hHeld => ?_)
 ·exact HS.out _ Hb5.out
 clear hK9 K9
 try simp only [Act.put, List.setIfInBounds_toArray, List.set_cons_zero, List.set_cons_succ]
 refine wpAnyH_take (i := 22) (v := ?v18) (by simp only [List.getElem?_toArray, List.getElem?_cons_zero, List.getElem?_cons_succ]; rfl) (by kernel_rfl) (by kernel_rfl) (by kernel_rfl) (fun _ _ _ h => h) (Or.inl ⟨by rfl, ?hy18⟩) (by assumption) ?rest18
 case hy18 => (intro w hSw; (try dsimp only at hSw); go_simp) <;> try with_reducible rfl
 simp only [Act.put, List.setIfInBounds_toArray, List.set_cons_zero, List.set_cons_succ]
 refine wpAnyH_done (by kernel_rfl) (NoPanic.normal ?_) _
 go_wp2
 go_ret
 have h0 := Hb0.out.size
 have h1 := Hc1.out.size
 have h2 := Hc2.out.size
 have h3 := Hc3.out.size
 have h4 := Hc4.out.size
 refine Fin HQ ⟨Hb5.out, W4.heap.size, .slice A5 M.length a5, rfl, ?_⟩
 refine EngD.made Hb4.out (Nat.le_refl _) (own_lower (own_ext Ho3.out Hc4.out) (by omega)) (fun W hW => ⟨Hrd.out W fun k k1 k2 => (hW k (by omega) (by omega) fun e => ?_).trans ((ext_trans (ext_trans Hc2.out Hc3.out) Hc4.out).block k k2), ?_, ?_⟩) Hsm.out
 ·have := (Ho3.out.lt k e).1; omega
 ·refine own_rdI (own_heap Ho2.out fun k k1 k2 => (hW k (by omega) (by omega) fun e => ?_).trans ((ext_trans Hc3.out Hc4.out).block k k2)) (by have := Hsm.out; omega)
  have := (Ho3.out.lt k e).1; omega
 ·refine own_rdI (own_heap Ho4.out fun k k1 k2 => hW k (by omega) (by omega) fun e => ?_) (by have := Hsm.out; omega)
  have := (Ho3.out.lt k e).2; omega
end Go.Proofs.Lx
