/- Parts of the proof: Dz, Ia, Ib. delta.become: the contract. Printed by gen_bec.py. No condition. -/
import Derived.Test.YtbidjiopnddldaaGreatE21
import Derived.Test.YtbidjiopnddldaaGreatE22
import Derived.Test.YtbidjiopnddldaaGreatProg
import Derived.Shelf.Spec.SlicesInsert
import Derived.Shelf.Spec.SlicesInsertGrow
import Derived.Shelf.Slices.Delete
import Derived.Shelf.Slices.Cells
import Derived.Shelf.Slices.Empties
import Derived.Test.YtbidjiopnddldaaGreatE20
namespace Go.Proofs.Lx
open Go Go.RowKit Go.Proofs.Tj
set_option linter.unusedVariables false
set_option linter.unusedSimpArgs false
set_option maxRecDepth 100000 in
theorem frame124 (t : Array Value) (h : t.size = 124) : ∃ f : Nat → Value, t = #[f 0, f 1, f 2, f 3, f 4, f 5, f 6, f 7, f 8, f 9, f 10, f 11, f 12, f 13, f 14, f 15, f 16, f 17, f 18, f 19, f 20, f 21, f 22, f 23, f 24, f 25, f 26, f 27, f 28, f 29, f 30, f 31, f 32, f 33, f 34, f 35, f 36, f 37, f 38, f 39, f 40, f 41, f 42, f 43, f 44, f 45, f 46, f 47, f 48, f 49, f 50, f 51, f 52, f 53, f 54, f 55, f 56, f 57, f 58, f 59, f 60, f 61, f 62, f 63, f 64, f 65, f 66, f 67, f 68, f 69, f 70, f 71, f 72, f 73, f 74, f 75, f 76, f 77, f 78, f 79, f 80, f 81, f 82, f 83, f 84, f 85, f 86, f 87, f 88, f 89, f 90, f 91, f 92, f 93, f 94, f 95, f 96, f 97, f 98, f 99, f 100, f 101, f 102, f 103, f 104, f 105, f 106, f 107, f 108, f 109, f 110, f 111, f 112, f 113, f 114, f 115, f 116, f 117, f 118, f 119, f 120, f 121, f 122, f 123] ∧ ∀ i (hi : i < t.size), t[i] = f i := by
 obtain ⟨f, hf⟩ : ∃ f : Nat → Value, ∀ i (hi : i < t.size), t[i] = f i := ⟨fun i => t.getD i undef, fun i hi => by simp [Array.getD, hi]⟩
 have e : t.toList = (List.range 124).map f := by
  apply List.ext_getElem
  ·simp [h]
  ·intro i h1 h2
   simp only [Array.getElem_toList, List.getElem_map, List.getElem_range]
   exact hf i _
 have e2 : (List.range 124).map f = [f 0, f 1, f 2, f 3, f 4, f 5, f 6, f 7, f 8, f 9, f 10, f 11, f 12, f 13, f 14, f 15, f 16, f 17, f 18, f 19, f 20, f 21, f 22, f 23, f 24, f 25, f 26, f 27, f 28, f 29, f 30, f 31, f 32, f 33, f 34, f 35, f 36, f 37, f 38, f 39, f 40, f 41, f 42, f 43, f 44, f 45, f 46, f 47, f 48, f 49, f 50, f 51, f 52, f 53, f 54, f 55, f 56, f 57, f 58, f 59, f 60, f 61, f 62, f 63, f 64, f 65, f 66, f 67, f 68, f 69, f 70, f 71, f 72, f 73, f 74, f 75, f 76, f 77, f 78, f 79, f 80, f 81, f 82, f 83, f 84, f 85, f 86, f 87, f 88, f 89, f 90, f 91, f 92, f 93, f 94, f 95, f 96, f 97, f 98, f 99, f 100, f 101, f 102, f 103, f 104, f 105, f 106, f 107, f 108, f 109, f 110, f 111, f 112, f 113, f 114, f 115, f 116, f 117, f 118, f 119, f 120, f 121, f 122, f 123] := rfl
 refine ⟨f, ?_, hf⟩
 apply Array.toList_inj.1
 rw [e, e2]
theorem wp_frameB0 {c : Code} {Q : Exit → Act → World → Prop} {w : World} {t : Array Value} {x : Nat} {vF vC v1 v9 : Value} (hs : t.size = 124) (h0 : t[0]? = some (.pointer (some ⟨x, 0, none⟩))) (h1 : t[1]? = some (vF)) (h7 : t[7]? = some (vC)) (h10 : t[10]? = some (v1)) (h11 : t[11]? = some (v9)) (k : ∀ f : Nat → Value, Code.wp Tryz.prog c Q ⟨#[.pointer (some ⟨x, 0, none⟩), vF, (f 2), (f 3), (f 4), (f 5), (f 6), vC, (f 8), (f 9), v1, v9, (f 12), (f 13), (f 14), (f 15), (f 16), (f 17), (f 18), (f 19), (f 20), (f 21), (f 22), (f 23), (f 24), (f 25), (f 26), (f 27), (f 28), (f 29), (f 30), (f 31), (f 32), (f 33), (f 34), (f 35), (f 36), (f 37), (f 38), (f 39), (f 40), (f 41), (f 42), (f 43), (f 44), (f 45), (f 46), (f 47), (f 48), (f 49), (f 50), (f 51), (f 52), (f 53), (f 54), (f 55), (f 56), (f 57), (f 58), (f 59), (f 60), (f 61), (f 62), (f 63), (f 64), (f 65), (f 66), (f 67), (f 68), (f 69), (f 70), (f 71), (f 72), (f 73), (f 74), (f 75), (f 76), (f 77), (f 78), (f 79), (f 80), (f 81), (f 82), (f 83), (f 84), (f 85), (f 86), (f 87), (f 88), (f 89), (f 90), (f 91), (f 92), (f 93), (f 94), (f 95), (f 96), (f 97), (f 98), (f 99), (f 100), (f 101), (f 102), (f 103), (f 104), (f 105), (f 106), (f 107), (f 108), (f 109), (f 110), (f 111), (f 112), (f 113), (f 114), (f 115), (f 116), (f 117), (f 118), (f 119), (f 120), (f 121), (f 122), (f 123)], []⟩ w) : Code.wp Tryz.prog c Q ⟨t, []⟩ w := by
 obtain ⟨f, e, hf⟩ := frame124 t hs
 have g0 := atD_f hf h0; have g1 := atD_f hf h1; have g7 := atD_f hf h7; have g10 := atD_f hf h10; have g11 := atD_f hf h11
 have := k f
 rw [← g0, ← g1, ← g7, ← g10, ← g11] at this
 rw [e]; exact this
theorem wp_frameB1 {c : Code} {Q : Exit → Act → World → Prop} {w : World} {t : Array Value} {x : Nat} {vF vC v1 v9 : Value} (hs : t.size = 124) (h0 : t[0]? = some (.pointer (some ⟨x, 0, none⟩))) (h1 : t[1]? = some (vF)) (h7 : t[7]? = some (vC)) (h10 : t[10]? = some (v1)) (h15 : t[15]? = some (v9)) (k : ∀ f : Nat → Value, Code.wp Tryz.prog c Q ⟨#[.pointer (some ⟨x, 0, none⟩), vF, (f 2), (f 3), (f 4), (f 5), (f 6), vC, (f 8), (f 9), v1, (f 11), (f 12), (f 13), (f 14), v9, (f 16), (f 17), (f 18), (f 19), (f 20), (f 21), (f 22), (f 23), (f 24), (f 25), (f 26), (f 27), (f 28), (f 29), (f 30), (f 31), (f 32), (f 33), (f 34), (f 35), (f 36), (f 37), (f 38), (f 39), (f 40), (f 41), (f 42), (f 43), (f 44), (f 45), (f 46), (f 47), (f 48), (f 49), (f 50), (f 51), (f 52), (f 53), (f 54), (f 55), (f 56), (f 57), (f 58), (f 59), (f 60), (f 61), (f 62), (f 63), (f 64), (f 65), (f 66), (f 67), (f 68), (f 69), (f 70), (f 71), (f 72), (f 73), (f 74), (f 75), (f 76), (f 77), (f 78), (f 79), (f 80), (f 81), (f 82), (f 83), (f 84), (f 85), (f 86), (f 87), (f 88), (f 89), (f 90), (f 91), (f 92), (f 93), (f 94), (f 95), (f 96), (f 97), (f 98), (f 99), (f 100), (f 101), (f 102), (f 103), (f 104), (f 105), (f 106), (f 107), (f 108), (f 109), (f 110), (f 111), (f 112), (f 113), (f 114), (f 115), (f 116), (f 117), (f 118), (f 119), (f 120), (f 121), (f 122), (f 123)], []⟩ w) : Code.wp Tryz.prog c Q ⟨t, []⟩ w := by
 obtain ⟨f, e, hf⟩ := frame124 t hs
 have g0 := atD_f hf h0; have g1 := atD_f hf h1; have g7 := atD_f hf h7; have g10 := atD_f hf h10; have g15 := atD_f hf h15
 have := k f
 rw [← g0, ← g1, ← g7, ← g10, ← g15] at this
 rw [e]; exact this
theorem coneErr_ok {T : Th} (hwf : WfTh T) {o : List Int} (ho : ∀ q ∈ o, 0 ≤ q ∧ q < T.foes.length) : coneErr T o = 0 := by
 unfold coneErr
 rw [if_pos ((checkErr_ok T).2 hwf), if_pos ho]
theorem coneX_ok {T : Th} (hwf : WfTh T) {o : List Int} (ho : ∀ q ∈ o, 0 ≤ q ∧ q < T.foes.length) : coneX T o = coneL T o := by
 unfold coneX; rw [if_pos (coneErr_ok hwf ho)]
/-- All but an engine's box and its marks is as it was. -/
structure Alt (x : Nat) (vM : Value) (a b : World) : Prop where
 os : b.os = a.os
 tape : b.tape = a.tape
 output : b.output = a.output
 sz : a.heap.size ≤ b.heap.size
 old : ∀ k, k < a.heap.size → k ≠ x → vM.ownBlock ≠ some k → b.heap[k]? = a.heap[k]?
theorem Alt.low {x : Nat} {vM : Value} {a b : World} (h : Alt x vM a b) {B : Nat} (hB : B ≤ a.heap.size) (hx : B ≤ x) (hm : ∀ g, vM.ownBlock = some g → B ≤ g) : Below B a b := ⟨h.os, h.tape, h.output, h.sz, fun k hk => h.old k (by omega) (by omega) fun e => by have := hm k e; omega⟩
/-- The marks that the part gives are those of the new facts. -/
theorem cut_vals {T P : Th} {F G l o : List Int} {ol mL : List Nat} (hwf : WfTh T) (hcut : Cut T P F l o (solveM T G) ol (coneL T o).length mL) (htk : ol.take (coneL T o).length = (coneL T o).map Int.toNat) (hg : givenErr P l = 0) (hodd : ∀ x : Nat, x < T.foes.length → ¬ InCone T o x → ((x : Int) ∈ G ↔ (x : Int) ∈ F)) :
  (solveM P l).length ≤ 100000 ∧ ∀ i (h : i < (coneL T o).length), i < (solveM P l).length ∧ (solveM P l).getD i 0 = (solveM T F).getD (coneL T o)[i].toNat 0 := by
 have hl : (solveM P l).length = ol.length := by rw [solve_length, hcut.pfl]
 have hn4 : T.foes.length ≤ 4096 := by have := hwf.fl; have := hwf.l1; omega
 refine ⟨by rw [hl]; have := nd_le hcut.nd hcut.lt; omega, fun i h => ?_⟩
 have hi : i < ol.length := by have := hcut.nl; omega
 refine ⟨by rw [hl]; exact hi, ?_⟩
 rw [hcut.marks hwf hg hodd hi]
 have e : ol[i] = (coneL T o)[i].toNat := by
  have h1 : (ol.take (coneL T o).length)[i]? = some ol[i] := by rw [List.getElem?_take_of_lt h, List.getElem?_eq_getElem hi]
  rw [htk, List.getElem?_map, List.getElem?_eq_getElem h] at h1
  simpa using h1.symm
 rw [e]
set_option maxRecDepth 1000000 in
set_option maxHeartbeats 60000000 in
theorem becomeD_any (w : World) (x : Nat) (vM vF vT : Value) (T : Th) (G F o U : List Int) (Ft : Nat → Prop) (h : EngD w x vM T G (solveM T G) U Ft) (hwf : WfTh T) (hF : risB F T.lits = true) (bF : Nat) (hFo : w.ownsRow bF 3 1 vF F.length (intsV F)) (hto : RdI w vT o) (ho : ∀ q ∈ o, 0 ≤ q ∧ q < T.foes.length)
  (hodd : ∀ x : Nat, x < T.foes.length → ¬ InCone T o x → ((x : Int) ∈ G ↔ (x : Int) ∈ F)) :
  Calls Tryz.prog 41 #[.pointer (some ⟨x, 0, none⟩), vF, vT] w (Ret fun r w' => w'.ownsRow w.heap.size 60 3 r (chL (solveM T G) (solveM T F) (coneL T o)).length (chV (chL (solveM T G) (solveM T F) (coneL T o))) ∧
   EngD w' x vM T F (solveM T F) (coneL T o) (fun g => Ft g ∨ vF.ownBlock = some g ∨ (w.heap.size ≤ g ∧ g < w'.heap.size)) ∧ Alt x vM w w') := by
 have hn4 : T.foes.length ≤ 4096 := by have := hwf.fl; have := hwf.l1; omega
 have hFr := (risB_spec hF).1
 have hFm : ∀ q ∈ F, 0 ≤ q ∧ q < T.foes.length := fun q hq => by
  obtain ⟨i, hi, rfl⟩ := List.getElem_of_mem hq
  have := hFr i hi; have := hwf.fl; omega
 have hFl : F.length ≤ 4096 := by have := ris_len (l := F) (n := T.foes.length) (by rw [hwf.fl]; exact hF); omega
 obtain ⟨vFo, vR, vB, vFa, vTo, hbox, hrd⟩ := h.ex
 have hxl := lt_of_block hbox
 obtain ⟨AM, cM, rfl⟩ : ∃ A c, vM = .slice A (solveM T G).length c := own_form0 h.own
 obtain ⟨AF9, cF9, rfl⟩ : ∃ A c, vF = .slice A F.length c := own_form0 hFo
 obtain ⟨AG9, cG9, rfl⟩ : ∃ A c, vFa = .slice A G.length c := by obtain ⟨_, ⟨A, c, e9, _⟩, _⟩ := hrd w (fun _ _ _ _ => rfl); exact ⟨A, c, e9⟩
 obtain ⟨AU9, cU9, rfl⟩ : ∃ A c, vTo = .slice A U.length c := by obtain ⟨_, _, ⟨A, c, e9, _⟩⟩ := hrd w (fun _ _ _ _ => rfl); exact ⟨A, c, e9⟩
 have hSl := solve_length T G
 have hSl2 := solve_length T F
 have hxM : (Value.slice AM (solveM T G).length cM).ownBlock ≠ some x := own_ne_tag h.own hbox (by decide)
 have hMlt := h.own.lt
 -- what is read of the engine in every world above
 have hEr : ∀ W, Below w.heap.size w W → (W.cell? ⟨x, 1, none⟩ = some (.int .i64 T.lits) ∧ W.cell? ⟨x, 2, none⟩ = some vFo ∧ W.cell? ⟨x, 3, none⟩ = some vR ∧ W.cell? ⟨x, 4, none⟩ = some vB) ∧ RdTh W (.agg #[.int .i64 T.lits, vFo, vR, vB]) T ∧ RdI W (.slice AF9 F.length cF9) F := fun W hW => by
  have hb := (hW.block x hxl).trans hbox
  refine ⟨⟨?_, ?_, ?_, ?_⟩, (hrd W fun g hg _ _ => hW.block g (h.ft g hg)).1, (own_rdI hFo (by omega)).ext (scR_mono _) hW⟩
  ·rw [cell_of_row W x 1 _ _ _ hb]; rfl
  ·rw [cell_of_row W x 2 _ _ _ hb]; rfl
  ·rw [cell_of_row W x 3 _ _ _ hb]; rfl
  ·rw [cell_of_row W x 4 _ _ _ hb]; rfl
 obtain ⟨⟨c1, c2, c3, c4⟩, hTh, _⟩ := hEr w (ext_refl _)
 have Hcone := hid (coneT_any w _ vT T o hTh hto)
 rw [coneErr_ok hwf ho, coneX_ok hwf ho] at Hcone
 have HEr := hid hEr
 have H := hid h
 have Hwf := hid hwf
 have Hodd := hid hodd
 have Hgv : Hid (givenErr T F = 0) := hid (givenErr_ok.2 ⟨hwf, hF⟩)
 have HFo := hid hFo
 have HFm := hid hFm
 have Hok := hid (coneL_ok T o)
 have hcl := Hok.out.le
 have Hbox := hid hbox
 have Hrd := hid hrd
 clear h hEr hTh hwf hodd hFo hFm hto ho hF hFr hbox hrd
 generalize hC : coneL T o = C at *
 have HC := hid hC
 clear hC
 refine post_gen fun Q HQ => ?_
 go_enter Tryz.func41, Tryz.ntmps41
 -- regions 0, 1
 refine wp_seq_k fun K hK => ?_
 have HK := hid hK
 clear hK
 go_wp2
 refine HK.out _ _ ?_
 clear HK
 refine wp_seq_k fun K hK => ?_
 have HK := hid hK
 clear hK
 go_wp2_with fail
 refine Hcone.out.mono ?_
 rintro e w1 ⟨_, rfl, vC, rfl, hownC, hb1⟩
 obtain ⟨Ac, cc, rfl⟩ : ∃ A c, vC = .slice A C.length c := own_form0 hownC
 have HownC := hid hownC
 have Hb1 := hid hb1
 clear hownC hb1 Hcone c1 c2 c3 c4
 go_wp2_with fail
 refine HK.out _ _ ?_
 clear HK
 -- region 2
 refine wp_seq_k fun K hK => ?_
 have HK := hid hK
 clear hK
 have Hcut : Hid (Calls Tryz.prog 70 #[.pointer (some ⟨x, 0, none⟩), .slice Ac C.length cc, .slice AF9 F.length cF9] w1 (Ret (CutPost w1 T (solveM T G) F o (.slice Ac C.length cc)))) := hid (by
  have e := HC.out
  subst e
  exact cutD_any w1 x _ _ (.slice AF9 F.length cF9) T G (solveM T G) U Ft (H.out.ext Hb1.out) Hwf.out o F (own_rdI HownC.out (by omega)) ((own_rdI HFo.out (by omega)).ext (scR_mono _) Hb1.out) HFm.out hFl hSl (six_at T G))
 go_wp2_with fail
 refine Hcut.out.mono ?_
 rintro e w2 ⟨_, rfl, P, l, ol, mL, vPo, vPu, vPe, vPa, rfl, hPT, hPl, hcut, htk, hb2⟩
 obtain ⟨APo, cPo, rfl⟩ : ∃ A c, vPo = .slice A P.foes.length c := by
  obtain ⟨a1, a2, a3, e9, k1, k2, k3⟩ := hPT
  injection e9 with e9; simp only [Array.mk.injEq, List.cons.injEq, and_true] at e9
  obtain ⟨_, rfl, rfl, rfl⟩ := e9
  obtain ⟨A, c, e9, _⟩ := k1; exact ⟨A, c, e9⟩
 obtain ⟨APu, cPu, rfl⟩ : ∃ A c, vPu = .slice A P.rules.length c := by
  obtain ⟨a1, a2, a3, e9, k1, k2, k3⟩ := hPT
  injection e9 with e9; simp only [Array.mk.injEq, List.cons.injEq, and_true] at e9
  obtain ⟨_, rfl, rfl, rfl⟩ := e9
  obtain ⟨A, c, e9, _⟩ := k2; exact ⟨A, c, e9⟩
 obtain ⟨APe, cPe, rfl⟩ : ∃ A c, vPe = .slice A P.beats.length c := by
  obtain ⟨a1, a2, a3, e9, k1, k2, k3⟩ := hPT
  injection e9 with e9; simp only [Array.mk.injEq, List.cons.injEq, and_true] at e9
  obtain ⟨_, rfl, rfl, rfl⟩ := e9
  obtain ⟨A, c, e9, _⟩ := k3; exact ⟨A, c, e9⟩
 obtain ⟨APa, cPa, rfl⟩ : ∃ A c, vPa = .slice A l.length c := by obtain ⟨A, c, e9, _⟩ := hPl; exact ⟨A, c, e9⟩
 have HPT := hid hPT
 have HPl := hid hPl
 have Hcu := hid hcut
 have Htk := hid htk
 have Hb2 := hid hb2
 clear hPT hPl hcut htk hb2 Hcut
 go_wp2_with fail
 refine HK.out _ _ ?_
 clear HK
 obtain ⟨w3, Hw3⟩ : ∃ w3, Hid (w2.alloc (.cells #[.int .i64 P.lits, (.slice APo P.foes.length cPo), (.slice APu P.rules.length cPu), (.slice APe P.beats.length cPe), (.slice APa l.length cPa), .slice Ac C.length cc] 111) = w3) := ⟨_, hid rfl⟩
 rw [Hw3.out]
 have hb3 : Below w2.heap.size w2 w3 := by rw [← Hw3.out]; exact ext_alloc _ _
 have hbx3 : w3.heap[w2.heap.size]? = some (.cells #[.int .i64 P.lits, (.slice APo P.foes.length cPo), (.slice APu P.rules.length cPu), (.slice APe P.beats.length cPe), (.slice APa l.length cPa), .slice Ac C.length cc] 111 (0, 0)) := by rw [← Hw3.out]; exact heap_alloc_new _ _
 have p0 := cell_of_row w3 w2.heap.size 0 _ _ _ hbx3
 have p1 := cell_of_row w3 w2.heap.size 1 _ _ _ hbx3
 have p2 := cell_of_row w3 w2.heap.size 2 _ _ _ hbx3
 have p3 := cell_of_row w3 w2.heap.size 3 _ _ _ hbx3
 have p4 := cell_of_row w3 w2.heap.size 4 _ _ _ hbx3
 simp only [List.getElem?_toArray, List.getElem?_cons_zero, List.getElem?_cons_succ] at p0 p1 p2 p3 p4
 have Hsol := hid (solve_any w3 _ (.slice APa l.length cPa) P l (HPT.out.ext hb3) (HPl.out.ext (scR_mono _) hb3))
 have Hb3 := hid hb3
 clear hb3 hbx3
 -- region 3
 refine wp_seq_k fun K hK => ?_
 have HK := hid hK
 clear hK
 go_wp2_with fail
 refine Hsol.out.mono ?_
 rintro e w4 ⟨_, rfl, v1, rfl, hS1, hS2, hb4⟩
 have HS1 := hid hS1
 have Hb4 := hid (ext_trans Hb1.out (ext_trans Hb2.out (ext_trans Hb3.out hb4)))
 have Hb14 := hid (ext_trans Hb2.out (ext_trans Hb3.out hb4))
 have Hsz := hid (show w.heap.size ≤ w3.heap.size from Nat.le_trans Hb1.out.size (Nat.le_trans Hb2.out.size Hb3.out.size))
 clear hS1 hS2 hb4 p0 p1 p2 p3 p4 Hsol
 generalize hge : givenErr P l = ge at *
 have Hge := hid hge
 clear hge
 go_wp2_with fail
 refine HK.out _ _ ?_
 clear HK
 -- segment A
 have h1 : ge = 0 → ∃ Mm : List Nat, w4.ownsRow w.heap.size 58 1 v1 Mm.length (marksV Mm) ∧ Mm.length ≤ 100000 ∧ ∀ i (h : i < C.length), i < Mm.length ∧ Mm.getD i 0 = (solveM T F).getD C[i].toNat 0 := fun he => by
  have e := HC.out
  subst e
  obtain ⟨k1, k2⟩ := cut_vals Hwf.out Hcu.out Htk.out (Hge.out.trans he) Hodd.out
  exact ⟨solveM P l, own_lower (HS1.out he) Hsz.out, k1, k2⟩
 have hC4 : w4.ownsRow w.heap.size 3 1 (.slice Ac C.length cc) C.length (intsV C) := own_ext HownC.out Hb14.out
 refine wp_seq_k fun K hK => ?_
 have HK := hid hK
 clear hK
 refine wp_frameB0 (x := x) (vF := .slice AF9 F.length cF9) (vC := .slice Ac C.length cc) (v1 := v1) (v9 := .int .i64 ge) rfl rfl rfl rfl rfl rfl fun f => ?_
 refine bec_sA w w4 x w.heap.size (.slice AF9 F.length cF9) v1 vFo vR vB ge Ac cc C F T HEr.out Hgv.out Hb4.out hC4 Hok.out hn4 h1 f K _ ?_
 clear h1 hC4
 intro t5 w5 Am cm Mm hs5 t50 t51 t57 t510 hMm hMml hMv hb5
 have HMm := hid hMm
 have HMv := hid hMv
 have Hb5 := hid hb5
 have Hb05 := hid (ext_trans Hb4.out hb5)
 clear hMm hMv hb5
 refine HK.out _ _ ?_
 clear HK
 -- region 13
 obtain ⟨f, e5, hf5⟩ := frame124 t5 hs5
 have g0 := atD_f hf5 t50
 have g1 := atD_f hf5 t51
 have g7 := atD_f hf5 t57
 have g10 := atD_f hf5 t510
 rw [e5, g0, g1, g7, g10]
 clear e5 hf5 g0 g1 g7 g10 hs5 t50 t51 t57 t510
 refine wp_seq_k fun K hK => ?_
 have HK := hid hK
 clear hK
 go_wp2
 refine HK.out _ _ ?_
 clear HK
 -- segment B
 refine wp_seq_k fun K hK => ?_
 have HK := hid hK
 clear hK
 refine wp_frameB1 (x := x) (vF := .slice AF9 F.length cF9) (vC := .slice Ac C.length cc) (v1 := .slice Am Mm.length cm) (v9 := .slice none 0 0) rfl rfl rfl rfl rfl rfl fun f => ?_
 have hbx5 := (Hb05.out.block x hxl).trans Hbox.out
 have hmM : (Value.slice Am Mm.length cm).ownBlock = none ∨ (Value.slice Am Mm.length cm).ownBlock ≠ (Value.slice AM (solveM T G).length cM).ownBlock := by
  cases hk : (Value.slice Am Mm.length cm).ownBlock with
  | none => exact .inl rfl
  | some g =>
   right
   intro e
   have k1 := (HMm.out.lt g hk).1
   have k2 := (hMlt g e.symm).2
   omega
 refine bec_sB w5 x w.heap.size w.heap.size (.slice AF9 F.length cF9) Ac Am AM cc cm cM C (solveM T G) (solveM T F) Mm _ hbx5 rfl (own_ext H.out.own Hb05.out) (own_ext HownC.out (ext_trans Hb14.out Hb5.out)) HMm.out hmM (by rw [hSl]; exact Hok.out) (by rw [hSl]; omega) hMml HMv.out f K _ ?_
 intro t6 w6 vo hs6 t60 t61 t67 t615 hmr hor hkv
 refine HK.out _ _ ?_
 clear HK hmM
 obtain ⟨f, e6, hf6⟩ := frame124 t6 hs6
 have g0 := atD_f hf6 t60
 have g1 := atD_f hf6 t61
 have g7 := atD_f hf6 t67
 have g15 := atD_f hf6 t615
 rw [e6, g0, g1, g7, g15]
 clear e6 hf6 g0 g1 g7 g15 hs6 t60 t61 t67 t615
 have hbx6 := (hkv.old x (by have := Hb05.out.size; omega) hxM).trans hbx5
 have q5 := frozen_of_row w6 x 5 _ _ hbx6
 have q7 := frozen_of_row w6 x 7 _ _ hbx6
 have s5 := cell_of_row w6 x 5 _ _ _ hbx6
 have s7 := cell_of_row w6 x 7 _ _ _ hbx6
 simp only [List.getElem?_toArray, List.getElem?_cons_zero, List.getElem?_cons_succ] at s5 s7
 have hxl6 := lt_of_block hbx6
 have Hmr := hid hmr
 have Hor := hid hor
 have Hkv := hid hkv
 have Hbx6 := hid hbx6
 clear hmr hor hkv hbx5 hbx6
 go_wp2
 go_ret
 have hE5 := heap_setCell_same w6 x 5 _ _ (.slice AF9 F.length cF9) Hbx6.out
 have hE7 := heap_setCell_same _ x 7 _ _ (.slice Ac C.length cc) hE5
 have hput : putC (solveM T G) (solveM T F) C = solveM T F := by
  have e := HC.out
  subst e
  refine putC_all (by rw [hSl, hSl2]) (fun y hy => (Hok.out.rg y hy).1) fun q hq hn => ?_
  rw [hSl] at hq
  exact cone_solve Hwf.out Hodd.out hq fun hc => hn (mem_coneL.2 ⟨hq, hc⟩)
 have hw5 := Hb05.out.size
 have hw6 := Hkv.out.sz
 have hsE : ((w6.setCell ⟨x, 5, none⟩ (.slice AF9 F.length cF9)).setCell ⟨x, 7, none⟩ (.slice Ac C.length cc)).heap.size = w6.heap.size := by simp
 have hkE : ∀ g, g < w5.heap.size → g ≠ x → (Value.slice AM (solveM T G).length cM).ownBlock ≠ some g → ((w6.setCell ⟨x, 5, none⟩ (.slice AF9 F.length cF9)).setCell ⟨x, 7, none⟩ (.slice Ac C.length cc)).heap[g]? = w5.heap[g]? := fun g k1 k2 k3 =>
  (heap_setCell_other _ _ g _ k2).trans ((heap_setCell_other _ _ g _ k2).trans (Hkv.out.old g k1 k3))
 have hk0 : ∀ g, g < w.heap.size → g ≠ x → (Value.slice AM (solveM T G).length cM).ownBlock ≠ some g → ((w6.setCell ⟨x, 5, none⟩ (.slice AF9 F.length cF9)).setCell ⟨x, 7, none⟩ (.slice Ac C.length cc)).heap[g]? = w.heap[g]? := fun g k1 k2 k3 => (hkE g (by omega) k2 k3).trans (Hb05.out.block g k1)
 have hmrE : ((w6.setCell ⟨x, 5, none⟩ (.slice AF9 F.length cF9)).setCell ⟨x, 7, none⟩ (.slice Ac C.length cc)).ownsRow 0 58 1 (.slice AM (solveM T G).length cM) (solveM T F).length (marksV (solveM T F)) := by
  have h9 := Hmr.out
  rw [hput] at h9
  have h8 := ownsRow_setCell_other (ownsRow_setCell_other h9 (a := ⟨x, 5, none⟩) hxM (.slice AF9 F.length cF9)) (a := ⟨x, 7, none⟩) hxM (.slice Ac C.length cc)
  rw [show (solveM T F).length = (solveM T G).length by rw [hSl, hSl2]]
  exact h8
 have horE : ((w6.setCell ⟨x, 5, none⟩ (.slice AF9 F.length cF9)).setCell ⟨x, 7, none⟩ (.slice Ac C.length cc)).ownsRow w.heap.size 60 3 vo (chL (solveM T G) (solveM T F) C).length (chV (chL (solveM T G) (solveM T F) C)) :=
  own_lower (ownsRow_setCell_other (ownsRow_setCell_other Hor.out (a := ⟨x, 5, none⟩) (fun e => by have := (Hor.out.lt _ e).1; dsimp only at this; omega) _) (a := ⟨x, 7, none⟩) (fun e => by have := (Hor.out.lt _ e).1; dsimp only at this; omega) _) hw5
 have hFM : (Value.slice AF9 F.length cF9).ownBlock = none ∨ (Value.slice AF9 F.length cF9).ownBlock ≠ (Value.slice AM (solveM T G).length cM).ownBlock := own_own HFo.out H.out.own (by decide)
 have hFx : (Value.slice AF9 F.length cF9).ownBlock ≠ some x := own_ne_tag HFo.out Hbox.out (by decide)
 have hCM : (Value.slice Ac C.length cc).ownBlock = none ∨ (Value.slice Ac C.length cc).ownBlock ≠ (Value.slice AM (solveM T G).length cM).ownBlock := by
  cases hk : (Value.slice Ac C.length cc).ownBlock with
  | none => exact .inl rfl
  | some g => exact .inr fun e => by have := (HownC.out.lt g hk).1; have := (hMlt g e.symm).2; omega
 have hw1 : w1.heap.size ≤ w5.heap.size := (ext_trans Hb14.out Hb5.out).size
 refine Fin HQ ⟨horE, ⟨⟨vFo, vR, vB, .slice AF9 F.length cF9, .slice Ac C.length cc, hE7, fun W hW => ⟨?_, ?_, ?_⟩⟩, hmrE, fun g hg => ?_, .inl H.out.fx, fun g hg => ⟨.inl (H.out.fm g hg).1, (H.out.fm g hg).2⟩, by rw [hSl2]; omega, hFl, by omega⟩, ⟨Hkv.out.os.trans Hb05.out.os, Hkv.out.tape.trans Hb05.out.tape, Hkv.out.output.trans Hb05.out.output, by rw [hsE]; omega, hk0⟩⟩
 ·exact (Hrd.out W fun g k1 k2 k3 => (hW g (.inl k1) k2 k3).trans (hk0 g (H.out.ft g k1) k2 k3)).1
 ·refine own_rdI (base := bF) (eI := 3) ⟨HFo.out.1, ?_⟩ (by omega)
  rcases HFo.out.2 with k1 | ⟨g9, cap, cur, k1, k2, k3, k4⟩
  ·exact .inl k1
  ·have k5 : g9 ≠ x := fun e => hFx (by rw [k1, e]; rfl)
   have k6 : (Value.slice AM (solveM T G).length cM).ownBlock ≠ some g9 := fun e => by
    rw [k1] at hFM
    rcases hFM with h9 | h9
    ·simp [Value.ownBlock] at h9
    ·exact h9 (by rw [e]; rfl)
   exact .inr ⟨g9, cap, cur, k1, k2, ((hW g9 (.inr (.inl (by rw [k1]; rfl))) k5 k6).trans (hk0 g9 (lt_of_block k3) k5 k6)).trans k3, k4⟩
 ·refine own_rdI (base := w.heap.size) (eI := 3) ⟨HownC.out.1, ?_⟩ (by omega)
  rcases HownC.out.2 with k1 | ⟨g9, cap, cur, k1, k2, k3, k4⟩
  ·exact .inl k1
  ·have k9 := lt_of_block k3
   have k6 : (Value.slice AM (solveM T G).length cM).ownBlock ≠ some g9 := fun e => by have := (hMlt g9 e).2; omega
   have k10 : w5.heap[g9]? = w1.heap[g9]? := (ext_trans Hb14.out Hb5.out).block g9 k9
   exact .inr ⟨g9, cap, cur, k1, k2, ((hW g9 (.inr (.inr ⟨k2, by rw [hsE]; omega⟩)) (by omega) k6).trans ((hkE g9 (by omega) (by omega) k6).trans k10)).trans k3, k4⟩
 ·rcases hg with h9 | h9 | h9
  ·have := H.out.ft g h9; rw [hsE]; omega
  ·have := (HFo.out.lt g h9).2; rw [hsE]; omega
  ·exact h9.2
end Go.Proofs.Lx

namespace Go.Proofs
open Go.Shelf
def Tryz.lays2n21_ren : Go.Shelf.Ren := ⟨fun | 21 => 42 | 27 => 71 | 28 => 72 | 35 => 90 | 39 => 104 | n => n, fun | 22 => 36 | 3 => 3 | 4 => 4 | 0 => 0 | n => n, fun | n => n⟩
theorem Tryz.lays2n21 : Go.Proofs.Lays2.n21 Tryz.prog Tryz.lays2n21_ren := {
 mixed := by kernel_rfl
 f21 := Tryz.func42.trans (congrArg some (by kernel_rfl))
 f27 := Tryz.func71.trans (congrArg some (by kernel_rfl))
 f28 := Tryz.func72.trans (congrArg some (by kernel_rfl))
 f35 := Tryz.func90.trans (congrArg some (by kernel_rfl))
 f39 := Tryz.func104.trans (congrArg some (by kernel_rfl))
 t0 := Tryz.underlying0
 a0 := Tryz.isAgg0
 z0 := Tryz.sizeOf0
 v0 := Tryz.zeroValue0
 t3 := Tryz.underlying3
 a3 := Tryz.isAgg3
 z3 := Tryz.sizeOf3
 v3 := Tryz.zeroValue3
 t4 := Tryz.underlying4
 a4 := Tryz.isAgg4
 z4 := Tryz.sizeOf4
 v4 := Tryz.zeroValue4
 t22 := Tryz.underlying36
 a22 := Tryz.isAgg36
 z22 := Tryz.sizeOf36
 v22 := Tryz.zeroValue36
 i3 := by kernel_rfl }
def Tryz.lays2n23_ren : Go.Shelf.Ren := ⟨fun | 23 => 45 | n => n, fun | 22 => 36 | 3 => 3 | 4 => 4 | 0 => 0 | n => n, fun | n => n⟩
theorem Tryz.lays2n23 : Go.Proofs.Lays2.n23 Tryz.prog Tryz.lays2n23_ren := {
 mixed := by kernel_rfl
 f23 := Tryz.func45.trans (congrArg some (by kernel_rfl))
 t0 := Tryz.underlying0
 a0 := Tryz.isAgg0
 z0 := Tryz.sizeOf0
 v0 := Tryz.zeroValue0
 t3 := Tryz.underlying3
 a3 := Tryz.isAgg3
 z3 := Tryz.sizeOf3
 v3 := Tryz.zeroValue3
 t4 := Tryz.underlying4
 a4 := Tryz.isAgg4
 z4 := Tryz.sizeOf4
 v4 := Tryz.zeroValue4
 t22 := Tryz.underlying36
 a22 := Tryz.isAgg36
 z22 := Tryz.sizeOf36
 v22 := Tryz.zeroValue36
 i3 := by kernel_rfl }
end Go.Proofs

namespace Go.Proofs.Lx
open Go Go.RowKit Go.Proofs Go.Lib
set_option linter.unusedVariables false
set_option linter.unusedSimpArgs false
/-- Cells written one after the other. -/
def setL : Array Value → Nat → List Value → Array Value
 | cur, _, [] => cur
 | cur, o, v :: r => setL (cur.setIfInBounds o v) (o + 1) r
theorem heap_setCellsD (b : Nat) : ∀ (vs : List Value) (o : Nat) (w : World) (cur : Array Value) (e : TypeId), w.heap[b]? = some (.cells cur e (0, 0)) → (w.setCells b o vs).heap[b]? = some (.cells (setL cur o vs) e (0, 0))
 | [], _, _, _, _, h => h
 | v :: r, o, w, cur, e, h => heap_setCellsD b r (o + 1) _ _ e (heap_setCell_same w b o _ _ v h)
theorem heap_setCellsO (b : Nat) : ∀ (vs : List Value) (o : Nat) (w : World) (k : Nat), k ≠ b → (w.setCells b o vs).heap[k]? = w.heap[k]?
 | [], _, _, _, _ => rfl
 | v :: r, o, w, k, h => (heap_setCellsO b r (o + 1) _ k h).trans (heap_setCell_other _ _ _ _ h)
theorem setCells_rest (b : Nat) : ∀ (vs : List Value) (o : Nat) (w : World), (w.setCells b o vs).os = w.os ∧ (w.setCells b o vs).tape = w.tape ∧ (w.setCells b o vs).output = w.output ∧ (w.setCells b o vs).heap.size = w.heap.size
 | [], _, _ => ⟨rfl, rfl, rfl, rfl⟩
 | v :: r, o, w => by
  obtain ⟨h1, h2, h3, h4⟩ := setCells_rest b r (o + 1) (w.setCell ⟨b, o, none⟩ v)
  exact ⟨h1, h2, h3, h4.trans (by simp)⟩
theorem setL_toList : ∀ (vs : List Value) (o : Nat) (cur : Array Value), o + vs.length ≤ cur.size → (setL cur o vs).toList = cur.toList.take o ++ vs ++ cur.toList.drop (o + vs.length)
 | [], o, cur, _ => by simp [setL]
 | v :: r, o, cur, h => by
  rw [List.length_cons] at h
  show (setL (cur.setIfInBounds o v) (o + 1) r).toList = _
  rw [setL_toList r (o + 1) _ (by simp; omega)]
  simp only [Array.toList_setIfInBounds, List.length_cons]
  have ho : o < cur.toList.length := by rw [Array.length_toList]; omega
  have e1 : (cur.toList.set o v).take (o + 1) = cur.toList.take o ++ [v] := by
   rw [List.take_succ_eq_append_getElem (by rw [List.length_set]; exact ho), List.getElem_set_self, List.take_set_of_le (Nat.le_refl _)]
  have e2 : (cur.toList.set o v).drop (o + 1 + r.length) = cur.toList.drop (o + (r.length + 1)) := by
   rw [List.drop_set_of_lt (by omega)]
   congr 1; omega
  rw [e1, e2]
  simp
theorem setL_size : ∀ (vs : List Value) (o : Nat) (cur : Array Value), (setL cur o vs).size = cur.size
 | [], _, _ => rfl
 | v :: r, o, cur => by
  show (setL (cur.setIfInBounds o v) (o + 1) r).size = _
  rw [setL_size r, Array.size_setIfInBounds]
theorem grown_of_kept {w w' : World} {g : Nat} (h1 : w'.os = w.os) (h2 : w'.tape = w.tape) (h3 : w'.output = w.output) (h4 : w'.heap.size = w.heap.size) (h5 : ∀ k, k ≠ g → w'.heap[k]? = w.heap[k]?) : w.grownBy w' (some g) :=
 ⟨h1, h2, h3, by omega, fun k _ hne => h5 k fun e => hne (by rw [e])⟩
theorem one_int (xs : List Int) : ∀ u ∈ intsV xs, u.oneCell' = true := by
 intro u hu; obtain ⟨x, _, rfl⟩ := List.mem_map.1 hu; rfl
theorem insertI_any (w : World) (base : Nat) (v : Value) (xs : List Int) (i : Nat) (x : Int) (vb : Nat) (h : w.ownsRow base 3 1 v xs.length (intsV xs)) (hv : w.heap[vb]? = some (.cells #[.int .i64 x] 3 (0, 0))) (hne : v.ownBlock ≠ some vb) (hi : i ≤ xs.length) (hl : xs.length ≤ 100000) (hbase : base ≤ w.heap.size) :
  Calls Tryz.prog 42 #[v, .int .i64 (i : Int), .slice (some ⟨vb, 0, none⟩) 1 1] w (Ret fun r w' => w'.ownsRow base 3 1 r (xs.length + 1) (intsV (xs.take i ++ x :: xs.drop i)) ∧ w.grownBy w' v.ownBlock) := by
 have hvs : ∀ j (u : Value), [Value.int .i64 x][j]? = some u → w.cell? ⟨vb, 0 + j, none⟩ = some u := fun j u hj => by
  match j, hj with
  | 0, hj => simp at hj; subst hj; rw [cell_of_row w vb _ _ _ _ hv]; rfl
 have h1v : ∀ u ∈ [Value.int .i64 x], u.oneCell' = true := fun u hu => by simp at hu; subst hu; rfl
 rcases h.2 with ⟨rfl, h0⟩ | ⟨g, cap, cur, rfl, hb, hg, hc1, hc2, hc3, ht⟩
 ·have e0 : xs = [] := List.eq_nil_of_length_eq_zero h0
  subst e0
  obtain rfl : i = 0 := by simpa using hi
  have h9 := Any2.slices_Insert_int_end_grow Tryz.lays2n21 none 0 0 vb 0 1 1 [] [.int .i64 x] w (by omega) (by omega) (by omega) (by omega) rfl rfl (fun _ => rfl) (fun a e => by cases e) hvs h1v
  rw [show Tryz.lays2n21_ren.t 3 = 3 from rfl] at h9
  refine h9.mono ?_
  rintro e w' ⟨rfl, rfl⟩
  refine ⟨_, rfl, ?_, ⟨rfl, rfl, rfl, (ext_alloc w.drew _).size, fun k hk _ => Below.heap_alloc w.drew _ k hk⟩⟩
  refine ⟨by simp [intsV], .inr ⟨w.heap.size, _, _, rfl, hbase, heap_alloc_new w.drew _, grownCap_ge _ _ _ _, grownCap_le_maxLen _ _ _ _ (by unfold maxLen; omega), ?_, ?_⟩⟩
  ·have := grownCap_ge w (0 + 1) 0 3
   have h8 := grownCap_ge w 1 0 3
   simp [Builtin.zeroCells, Value.cells]
   omega
  ·simp [intsV]
 ·rw [Nat.mul_one] at ht hc3
  have hgl := lt_of_block hg
  have hgv : vb ≠ g := fun e => hne (by rw [e]; rfl)
  have hcl : cur.toList.length = cap := by rw [Array.length_toList]; exact hc3
  have hcs : ∀ j (u : Value), (intsV xs)[j]? = some u → w.cell? ⟨g, 0 + j, none⟩ = some u := fun j u hj => by
   rw [Nat.zero_add, cell_of_row w g j _ _ _ hg]
   rw [← ht, List.getElem?_take] at hj
   split at hj
   ·rw [← Array.getElem?_toList]; exact hj
   ·cases hj
  have hsome : ∀ j, j < cap → (w.cell? ⟨g, 0 + j, none⟩).isSome = true := fun j hj => by
   rw [Nat.zero_add, cell_of_row w g j _ _ _ hg]; simp [hc3, hj]
  have hfz : ∀ j, w.frozen? ⟨g, 0 + j, none⟩ = false := fun j => frozen_of_row w g _ _ _ hg
  by_cases hroom : xs.length + 1 ≤ cap
  ·by_cases hin : i = xs.length
   ·subst hin
    have h9 := Any2.slices_Insert_int_end_room Tryz.lays2n21 g 0 xs.length cap vb 0 1 1 [.int .i64 x] w (by omega) hroom (by unfold maxLen at hc2; omega) rfl (fun j hj => by have := hsome (xs.length + j) (by omega); rw [Nat.zero_add] at this ⊢; exact this) (fun j _ => by have := hfz (xs.length + j); rw [Nat.zero_add] at this ⊢; exact this) hvs h1v
    refine h9.mono ?_
    rintro e w' ⟨rfl, rfl⟩
    rw [Nat.zero_add]
    obtain ⟨k1, k2, k3, k4⟩ := setCells_rest g [.int .i64 x] xs.length w
    refine ⟨_, rfl, ⟨by simp [intsV], .inr ⟨g, cap, _, rfl, hb, heap_setCellsD g _ _ _ _ _ hg, hroom, hc2, by rw [setL_size, Nat.mul_one]; exact hc3, ?_⟩⟩, grown_of_kept k1 k2 k3 k4 fun k hk => heap_setCellsO g _ _ _ k hk⟩
    rw [setL_toList _ _ _ (by simp; omega), Nat.mul_one, ht]
    have e4 : intsV (xs.take xs.length ++ x :: xs.drop xs.length) = intsV xs ++ [.int .i64 x] := by simp [intsV]
    rw [e4]
    exact List.take_left' (by simp [intsV])
   ·have hlt : i < xs.length := by omega
    have h9 := Any2.slices_Insert_int_shift Tryz.lays2n21 g 0 xs.length cap i vb 0 1 1 (intsV xs) [.int .i64 x] w hlt (by omega) hroom (by unfold maxLen at hc2; omega) hgv (by simp [intsV]) rfl hcs (fun j hj => hsome j (by omega)) (fun j _ => hfz j) hvs (one_int xs) h1v 3 3 1 cap (by simp [World.shape?, hv]) (by simp [World.shape?, hg, hc3]) (by omega) (frozen_of_row w vb _ _ _ hv) (frozen_of_row w vb _ _ _ hv)
    refine h9.mono ?_
    rintro e w' ⟨rfl, rfl⟩
    obtain ⟨k1, k2, k3, k4⟩ := setCells_rest g ((intsV xs).drop i) (0 + (i + 1)) w.drew
    obtain ⟨m1, m2, m3, m4⟩ := setCells_rest g [.int .i64 x] (0 + i) (w.drew.setCells g (0 + (i + 1)) ((intsV xs).drop i))
    have hA := heap_setCellsD g ((intsV xs).drop i) (0 + (i + 1)) w.drew cur _ hg
    have hB := heap_setCellsD g [.int .i64 x] (0 + i) _ _ _ hA
    have hil : (intsV xs).length = xs.length := by simp [intsV]
    refine ⟨_, rfl, ⟨by simp [intsV]; omega, .inr ⟨g, cap, _, rfl, hb, hB, hroom, hc2, by rw [setL_size, setL_size, Nat.mul_one]; exact hc3, ?_⟩⟩, grown_of_kept (m1.trans k1) (m2.trans k2) (m3.trans k3) (m4.trans k4) fun k hk => (heap_setCellsO g _ _ _ k hk).trans (heap_setCellsO g _ _ _ k hk)⟩
    rw [setL_toList _ _ _ (by rw [setL_size, hc3]; simp; omega), setL_toList _ _ _ (by rw [hc3, List.length_drop, hil]; omega), Nat.mul_one, Nat.zero_add, Nat.zero_add]
    have e1 : cur.toList.take i = (intsV xs).take i := by rw [← ht, List.take_take]; congr 1; omega
    have e2 : ((cur.toList.take (i + 1) ++ (intsV xs).drop i ++ cur.toList.drop (i + 1 + ((intsV xs).drop i).length)).take i) = (intsV xs).take i := by
     rw [List.append_assoc, List.take_append_of_le_length (by rw [List.length_take, hcl]; omega), List.take_take, show min i (i + 1) = i by omega, e1]
    have e3 : (cur.toList.take (i + 1) ++ (intsV xs).drop i ++ cur.toList.drop (i + 1 + ((intsV xs).drop i).length)).drop (i + 1) = (intsV xs).drop i ++ cur.toList.drop (i + 1 + ((intsV xs).drop i).length) := by
     rw [List.append_assoc, List.drop_append_of_le_length (by rw [List.length_take, hcl]; omega), List.drop_eq_nil_of_le (by rw [List.length_take, hcl]; omega), List.nil_append]
    simp only [List.length_singleton]
    rw [e2, e3]
    have e4 : intsV (xs.take i ++ x :: xs.drop i) = (intsV xs).take i ++ [.int .i64 x] ++ (intsV xs).drop i := by simp [intsV]
    rw [e4, ← List.append_assoc]
    exact List.take_left' (by simp [intsV]; omega)
  ·by_cases hin : i = xs.length
   ·subst hin
    have h9 := Any2.slices_Insert_int_end_grow Tryz.lays2n21 (some ⟨g, 0, none⟩) xs.length cap vb 0 1 1 (intsV xs) [.int .i64 x] w (by omega) hc1 (by omega) (by omega) (by simp [intsV]) rfl (fun e => by cases e) (fun a e j u hj => by cases e; have := hcs j u hj; rw [Nat.zero_add] at this; rw [add_plain]; exact this) hvs h1v
    rw [show Tryz.lays2n21_ren.t 3 = 3 from rfl] at h9
    refine h9.mono ?_
    rintro e w' ⟨rfl, rfl⟩
    refine ⟨_, rfl, ?_, ⟨rfl, rfl, rfl, (ext_alloc w.drew _).size, fun k hk _ => Below.heap_alloc w.drew _ k hk⟩⟩
    have hcap := grownCap_ge w (xs.length + 1) cap 3
    refine ⟨by simp [intsV], .inr ⟨w.heap.size, _, _, rfl, hbase, heap_alloc_new w.drew _, hcap, grownCap_le_maxLen _ _ _ _ (by unfold maxLen; omega), ?_, ?_⟩⟩
    ·simp [Builtin.zeroCells, Value.cells, intsV]
     omega
    ·simp only [Array.toList_append, List.toList_toArray, Nat.mul_one]
     have e4 : intsV (xs.take xs.length ++ x :: xs.drop xs.length) = intsV xs ++ [.int .i64 x] := by simp [intsV]
     rw [e4]
     exact List.take_left' (by simp [intsV])
   ·have hlt : i < xs.length := by omega
    have h9 := Any2.slices_Insert_int_grow Tryz.lays2n21 g 0 xs.length cap i vb 0 1 1 (intsV xs) [.int .i64 x] w hlt (by omega) hc1 (by omega) (by omega) (by simp [intsV]) rfl hcs hvs (one_int xs) h1v
    rw [show Tryz.lays2n21_ren.t 3 = 3 from rfl] at h9
    refine h9.mono ?_
    rintro e w' ⟨rfl, rfl⟩
    have hcap := grownCap_ge w (xs.length + 1) cap 3
    have hcm := grownCap_le_maxLen w (xs.length + 1) cap 3 (by unfold maxLen; omega)
    have hil : (intsV xs).length = xs.length := by simp [intsV]
    generalize hC : grownCap w (xs.length + 1) cap 3 = cp at *
    generalize hZ : (((intsV xs).take i).toArray ++ Builtin.zeroCells (Value.int .i64 0).cells (xs.length + 1 - i) ++ Builtin.zeroCells (Value.int .i64 0).cells (cp - (xs.length + 1))) = Z at *
    have hZs : Z.size = cp := by
     rw [← hZ]; simp [Builtin.zeroCells, Value.cells, intsV]; omega
    have hZl : Z.toList.length = cp := by rw [Array.length_toList]; exact hZs
    have hZt : Z.toList.take i = (intsV xs).take i := by
     rw [← hZ]
     simp only [Array.toList_append, List.toList_toArray, List.append_assoc]
     exact List.take_left' (by rw [List.length_take, hil]; omega)
    have h0 := heap_alloc_new w (.cells Z 3)
    have hA := heap_setCellsD w.heap.size [.int .i64 x] i (w.alloc (.cells Z 3)).drew Z _ h0
    have hB := heap_setCellsD w.heap.size ((intsV xs).drop i) (i + 1) (((w.alloc (.cells Z 3)).drew.setCells w.heap.size i [.int .i64 x]).drew) _ _ hA
    obtain ⟨k1, k2, k3, k4⟩ := setCells_rest w.heap.size [.int .i64 x] i (w.alloc (.cells Z 3)).drew
    obtain ⟨m1, m2, m3, m4⟩ := setCells_rest w.heap.size ((intsV xs).drop i) (i + 1) (((w.alloc (.cells Z 3)).drew.setCells w.heap.size i [.int .i64 x]).drew)
    have hsz : w.heap.size ≤ (w.alloc (.cells Z 3)).heap.size := (ext_alloc w _).size
    refine ⟨_, rfl, ⟨by simp [intsV]; omega, .inr ⟨w.heap.size, cp, _, rfl, hbase, hB, hcap, hcm, by rw [setL_size, setL_size, Nat.mul_one]; exact hZs, ?_⟩⟩, ⟨m1.trans k1, m2.trans k2, m3.trans k3, Nat.le_trans hsz (Nat.le_of_eq (m4.trans k4).symm), fun k hk _ => (heap_setCellsO _ _ _ _ k (by omega)).trans ((heap_setCellsO _ _ _ _ k (by omega)).trans (Below.heap_alloc w _ k hk))⟩⟩
    rw [setL_toList _ _ _ (by rw [setL_size, hZs, List.length_drop, hil]; omega), setL_toList _ _ _ (by rw [hZs]; simp; omega), Nat.mul_one]
    have e5 : (Z.toList.take i ++ [Value.int .i64 x] ++ Z.toList.drop (i + [Value.int .i64 x].length)).take (i + 1) = (intsV xs).take i ++ [.int .i64 x] := by
     rw [hZt]
     exact List.take_left' (by rw [List.length_append, List.length_take, hil]; simp; omega)
    rw [e5]
    have e4 : intsV (xs.take i ++ x :: xs.drop i) = (intsV xs).take i ++ [.int .i64 x] ++ (intsV xs).drop i := by simp [intsV]
    rw [e4]
    exact List.take_left' (by simp [intsV]; omega)
/-- One number less. -/
theorem deleteI_any (w : World) (base : Nat) (v : Value) (xs : List Int) (i : Nat) (h : w.ownsRow base 3 1 v xs.length (intsV xs)) (hi : i < xs.length) (hl : xs.length ≤ 100000) :
  Calls Tryz.prog 45 #[v, .int .i64 (i : Int), .int .i64 ((i : Int) + 1)] w (Ret fun r w' => w'.ownsRow base 3 1 r (xs.length - 1) (intsV (xs.take i ++ xs.drop (i + 1))) ∧ w.grownBy w' v.ownBlock) := by
 rcases h.2 with ⟨rfl, h0⟩ | ⟨g, cap, cur, rfl, hb, hg, hc1, hc2, hc3, ht⟩
 ·omega
 ·rw [Nat.mul_one] at ht hc3
  have hcl : cur.toList.length = cap := by rw [Array.length_toList]; exact hc3
  have hc : ∀ j, j < xs.length → w.cell? ⟨g, 0 + j, none⟩ = some (.int .i64 (xs.getD j 0)) := fun j hj => by
   rw [Nat.zero_add, h.cellAt j (by omega)]
   simp [hj]
  have h9 := Any.slices_Delete_int_cells Tryz.lays2n23 g 0 xs.length cap i (i + 1) xs w (Nat.le_refl _) hc1 (by unfold maxLen at hc2; omega) (by omega) (by omega) hc (fun j _ => frozen_of_row w g _ _ _ hg)
  have hcast : ((i + 1 : Nat) : Int) = (i : Int) + 1 := by omega
  rw [hcast] at h9
  refine h9.mono ?_
  rintro e w' ⟨rfl, q, rfl⟩
  have hn : xs.length - (i + 1 - i) = xs.length - 1 := by omega
  rw [hn]
  generalize hZ : ((((xs.take xs.length).take i ++ (xs.take xs.length).drop (i + 1) ++ List.replicate (i + 1 - i) 0).map (Value.int .i64)) : List Value) = Z at *
  have hZl : Z.length = xs.length := by rw [← hZ]; simp; omega
  have hg2 : (w.drewN q).heap[g]? = some (.cells cur 3 (0, 0)) := ((ext_drewN w q).block g (lt_of_block hg)).trans hg
  have hA := heap_setCellsD g Z 0 (w.drewN q) cur _ hg2
  obtain ⟨k1, k2, k3, k4⟩ := setCells_rest g Z 0 (w.drewN q)
  have hd := ext_drewN w q
  refine ⟨_, rfl, ⟨by simp [intsV]; omega, .inr ⟨g, cap, _, rfl, hb, hA, by omega, hc2, by rw [setL_size, Nat.mul_one]; exact hc3, ?_⟩⟩, ⟨k1.trans hd.os, k2.trans hd.tape, k3.trans hd.output, Nat.le_trans hd.size (Nat.le_of_eq k4.symm), fun k hk hne => (heap_setCellsO g _ _ _ k (fun e => hne (by rw [e]; rfl))).trans (hd.block k hk)⟩⟩
  rw [setL_toList _ _ _ (by rw [hc3, hZl]; omega), Nat.mul_one, List.take_zero, List.nil_append]
  have e4 : Z = intsV (xs.take i ++ xs.drop (i + 1)) ++ [.int .i64 0] := by rw [← hZ]; simp [intsV, show i + 1 - i = 1 by omega]
  rw [e4, List.append_assoc]
  exact List.take_left' (by simp [intsV]; omega)
end Go.Proofs.Lx
