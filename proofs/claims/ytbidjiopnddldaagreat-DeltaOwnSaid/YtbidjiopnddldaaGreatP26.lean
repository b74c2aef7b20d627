/- Parts of the proof: Dz, Ia. delta.become: the contract. Printed by gen_bec.py. No condition. -/
import Derived.Test.YtbidjiopnddldaaGreatP24
import Derived.Test.YtbidjiopnddldaaGreatP25
import Derived.Test.YtbidjiopnddldaaGreatProg
import Derived.Shelf.Spec.SlicesInsert
import Derived.Shelf.Spec.SlicesInsertGrow
import Derived.Shelf.Slices.Delete
import Derived.Shelf.Slices.Cells
import Derived.Shelf.Slices.Empties
namespace Go.Proofs.Lx
open Go Go.RowKit Go.Proofs.Tj
set_option linter.unusedVariables false
set_option linter.unusedSimpArgs false
set_option maxRecDepth 100000 in
theorem frame124 (t : Array Value) (h : t.size = 124) : ∃ f : Nat → Value, t = #[f 0, f 1, f 2, f 3, f 4, f 5, f 6, f 7, f 8, f 9, f 10, f 11, f 12, f 13, f 14, f 15, f 16, f 17, f 18, f 19, f 20, f 21, f 22, f 23, f 24, f 25, f 26, f 27, f 28, f 29, f 30, f 31, f 32, f 33, f 34, f 35, f 36, f 37, f 38, f 39, f 40, f 41, f 42, f 43, f 44, f 45, f 46, f 47, f 48, f 49, f 50, f 51, f 52, f 53, f 54, f 55, f 56, f 57, f 58, f 59, f 60, f 61, f 62, f 63, f 64, f 65, f 66, f 67, f 68, f 69, f 70, f 71, f 72, f 73, f 74, f 75, f 76, f 77, f 78, f 79, f 80, f 81, f 82, f 83, f 84, f 85, f 86, f 87, f 88, f 89, f 90, f 91, f 92, f 93, f 94, f 95, f 96, f 97, f 98, f 99, f 100, f 101, f 102, f 103, f 104, f 105, f 106, f 107, f 108, f 109, f 110, f 111, f 112, f 113, f 114, f 115, f 116, f 117, f 118, f 119, f 120, f 121, f 122, f 123] ∧ ∀ i (hi : i < t.size), t[i] = f i := by
 obtain ⟨f, hf⟩ : ∃ f : Nat → Value, ∀ i (hi : i < t.size), t[i] = f i := ⟨fun i => t.getD i undef, fun i hi => by simp [Array.getD, hi]⟩
 have e : t.toList = (List.range 124).map f := by
  apply List.ext_getElem
  ·simp [h]
  ·intro i h1 h2
   simp only [Array.getElem_toList, List.getElem_map, List.getElem_range]
   exact hf i _
 have e2 : (List.range 124).map f = [f 0, f 1, f 2, f 3, f 4, f 5, f 6, f 7, f 8, f 9, f 10, f 11, f 12, f 13, f 14, f 15, f 16, f 17, f 18, f 19, f 20, f 21, f 22, f 23, f 24, f 25, f 26, f 27, f 28, f 29, f 30, f 31, f 32, f 33, f 34, f 35, f 36, f 37, f 38, f 39, f 40, f 41, f 42, f 43, f 44, f 45, f 46, f 47, f 48, f 49, f 50, f 51, f 52, f 53, f 54, f 55, f 56, f 57, f 58, f 59, f 60, f 61, f 62, f 63, f 64, f 65, f 66, f 67, f 68, f 69, f 70, f 71, f 72, f 73, f 74, f 75, f 76, f 77, f 78, f 79, f 80, f 81, f 82, f 83, f 84, f 85, f 86, f 87, f 88, f 89, f 90, f 91, f 92, f 93, f 94, f 95, f 96, f 97, f 98, f 99, f 100, f 101, f 102, f 103, f 104, f 105, f 106, f 107, f 108, f 109, f 110, f 111, f 112, f 113, f 114, f 115, f 116, f 117, f 118, f 119, f 120, f 121, f 122, f 123] := rfl
 refine ⟨f, ?_, hf⟩
 apply Array.toList_inj.1
 rw [e, e2]
theorem wp_frameB0 {c : Code} {Q : Exit → Act → World → Prop} {w : World} {t : Array Value} {x : Nat} {vF vC v1 v9 : Value} (hs : t.size = 124) (h0 : t[0]? = some (.pointer (some ⟨x, 0, none⟩))) (h1 : t[1]? = some (vF)) (h7 : t[7]? = some (vC)) (h10 : t[10]? = some (v1)) (h11 : t[11]? = some (v9)) (k : ∀ f : Nat → Value, Code.wp Tryz.prog c Q ⟨#[.pointer (some ⟨x, 0, none⟩), vF, (f 2), (f 3), (f 4), (f 5), (f 6), vC, (f 8), (f 9), v1, v9, (f 12), (f 13), (f 14), (f 15), (f 16), (f 17), (f 18), (f 19), (f 20), (f 21), (f 22), (f 23), (f 24), (f 25), (f 26), (f 27), (f 28), (f 29), (f 30), (f 31), (f 32), (f 33), (f 34), (f 35), (f 36), (f 37), (f 38), (f 39), (f 40), (f 41), (f 42), (f 43), (f 44), (f 45), (f 46), (f 47), (f 48), (f 49), (f 50), (f 51), (f 52), (f 53), (f 54), (f 55), (f 56), (f 57), (f 58), (f 59), (f 60), (f 61), (f 62), (f 63), (f 64), (f 65), (f 66), (f 67), (f 68), (f 69), (f 70), (f 71), (f 72), (f 73), (f 74), (f 75), (f 76), (f 77), (f 78), (f 79), (f 80), (f 81), (f 82), (f 83), (f 84), (f 85), (f 86), (f 87), (f 88), (f 89), (f 90), (f 91), (f 92), (f 93), (f 94), (f 95), (f 96), (f 97), (f 98), (f 99), (f 100), (f 101), (f 102), (f 103), (f 104), (f 105), (f 106), (f 107), (f 108), (f 109), (f 110), (f 111), (f 112), (f 113), (f 114), (f 115), (f 116), (f 117), (f 118), (f 119), (f 120), (f 121), (f 122), (f 123)], []⟩ w) : Code.wp Tryz.prog c Q ⟨t, []⟩ w := by
 obtain ⟨f, e, hf⟩ := frame124 t hs
 have g0 := atD_f hf h0; have g1 := atD_f hf h1; have g7 := atD_f hf h7; have g10 := atD_f hf h10; have g11 := atD_f hf h11
 have := k f
 rw [← g0, ← g1, ← g7, ← g10, ← g11] at this
 rw [e]; exact this
theorem wp_frameB1 {c : Code} {Q : Exit → Act → World → Prop} {w : World} {t : Array Value} {x : Nat} {vF vC v1 v9 : Value} (hs : t.size = 124) (h0 : t[0]? = some (.pointer (some ⟨x, 0, none⟩))) (h1 : t[1]? = some (vF)) (h7 : t[7]? = some (vC)) (h10 : t[10]? = some (v1)) (h15 : t[15]? = some (v9)) (k : ∀ f : Nat → Value, Code.wp Tryz.prog c Q ⟨#[.pointer (some ⟨x, 0, none⟩), vF, (f 2), (f 3), (f 4), (f 5), (f 6), vC, (f 8), (f 9), v1, (f 11), (f 12), (f 13), (f 14), v9, (f 16), (f 17), (f 18), (f 19), (f 20), (f 21), (f 22), (f 23), (f 24), (f 25), (f 26), (f 27), (f 28), (f 29), (f 30), (f 31), (f 32), (f 33), (f 34), (f 35), (f 36), (f 37), (f 38), (f 39), (f 40), (f 41), (f 42), (f 43), (f 44), (f 45), (f 46), (f 47), (f 48), (f 49), (f 50), (f 51), (f 52), (f 53), (f 54), (f 55), (f 56), (f 57), (f 58), (f 59), (f 60), (f 61), (f 62), (f 63), (f 64), (f 65), (f 66), (f 67), (f 68), (f 69), (f 70), (f 71), (f 72), (f 73), (f 74), (f 75), (f 76), (f 77), (f 78), (f 79), (f 80), (f 81), (f 82), (f 83), (f 84), (f 85), (f 86), (f 87), (f 88), (f 89), (f 90), (f 91), (f 92), (f 93), (f 94), (f 95), (f 96), (f 97), (f 98), (f 99), (f 100), (f 101), (f 102), (f 103), (f 104), (f 105), (f 106), (f 107), (f 108), (f 109), (f 110), (f 111), (f 112), (f 113), (f 114), (f 115), (f 116), (f 117), (f 118), (f 119), (f 120), (f 121), (f 122), (f 123)], []⟩ w) : Code.wp Tryz.prog c Q ⟨t, []⟩ w := by
 obtain ⟨f, e, hf⟩ := frame124 t hs
 have g0 := atD_f hf h0; have g1 := atD_f hf h1; have g7 := atD_f hf h7; have g10 := atD_f hf h10; have g15 := atD_f hf h15
 have := k f
 rw [← g0, ← g1, ← g7, ← g10, ← g15] at this
 rw [e]; exact this
theorem coneErr_ok {T : Th} (hwf : WfTh T) {o : List Int} (ho : ∀ q ∈ o, 0 ≤ q ∧ q < T.foes.length) : coneErr T o = 0 := by
 unfold coneErr
 rw [if_pos ((checkErr_ok T).2 hwf), if_pos ho]
theorem coneX_ok {T : Th} (hwf : WfTh T) {o : List Int} (ho : ∀ q ∈ o, 0 ≤ q ∧ q < T.foes.length) : coneX T o = coneL T o := by
 unfold coneX; rw [if_pos (coneErr_ok hwf ho)]
/-- All but an engine's box and its marks is as it was. -/
structure Alt (x : Nat) (vM : Value) (a b : World) : Prop where
 os : b.os = a.os
 tape : b.tape = a.tape
 output : b.output = a.output
 sz : a.heap.size ≤ b.heap.size
 old : ∀ k, k < a.heap.size → k ≠ x → vM.ownBlock ≠ some k → b.heap[k]? = a.heap[k]?
theorem Alt.low {x : Nat} {vM : Value} {a b : World} (h : Alt x vM a b) {B : Nat} (hB : B ≤ a.heap.size) (hx : B ≤ x) (hm : ∀ g, vM.ownBlock = some g → B ≤ g) : Below B a b := ⟨h.os, h.tape, h.output, h.sz, fun k hk => h.old k (by omega) (by omega) fun e => by have := hm k e; omega⟩
/-- The marks that the part gives are those of the new facts. -/
theorem cut_vals {T P : Th} {F G l o : List Int} {ol mL : List Nat} (hwf : WfTh T) (hcut : Cut T P F l o (solveM T G) ol (coneL T o).length mL) (htk : ol.take (coneL T o).length = (coneL T o).map Int.toNat) (hg : givenErr P l = 0) (hodd : ∀ x : Nat, x < T.foes.length → ¬ InCone T o x → ((x : Int) ∈ G ↔ (x : Int) ∈ F)) :
  (solveM P l).length ≤ 100000 ∧ ∀ i (h : i < (coneL T o).length), i < (solveM P l).length ∧ (solveM P l).getD i 0 = (solveM T F).getD (coneL T o)[i].toNat 0 := by
 have hl : (solveM P l).length = ol.length := by rw [solve_length, hcut.pfl]
 have hn4 : T.foes.length ≤ 4096 := by have := hwf.fl; have := hwf.l1; omega
 refine ⟨by rw [hl]; have := nd_le hcut.nd hcut.lt; omega, fun i h => ?_⟩
 have hi : i < ol.length := by have := hcut.nl; omega
 refine ⟨by rw [hl]; exact hi, ?_⟩
 rw [hcut.marks hwf hg hodd hi]
 have e : ol[i] = (coneL T o)[i].toNat := by
  have h1 : (ol.take (coneL T o).length)[i]? = some ol[i] := by rw [List.getElem?_take_of_lt h, List.getElem?_eq_getElem hi]
  rw [htk, List.getElem?_map, List.getElem?_eq_getElem h] at h1
  simpa using h1.symm
 rw [e]
set_option maxRecDepth 1000000 in
set_option maxHeartbeats 60000000 in
theorem becomeD_any (w : World) (x : Nat) (vM vF vT : Value) (T : Th) (G F o U : List Int) (Ft : Nat → Prop) (h : EngD w x vM T G (solveM T G) U Ft) (hwf : WfTh T) (hF : risB F T.lits = true) (bF : Nat) (hFo : w.ownsRow bF 3 1 vF F.length (intsV F)) (hto : RdI w vT o) (ho : ∀ q ∈ o, 0 ≤ q ∧ q < T.foes.length)
  (hodd : ∀ x : Nat, x < T.foes.length → ¬ InCone T o x → ((x : Int) ∈ G ↔ (x : Int) ∈ F)) :
  Calls Tryz.prog 41 #[.pointer (some ⟨x, 0, none⟩), vF, vT] w (Ret fun r w' => w'.ownsRow w.heap.size 60 3 r (chL (solveM T G) (solveM T F) (coneL T o)).length (chV (chL (solveM T G) (solveM T F) (coneL T o))) ∧
   EngD w' x vM T F (solveM T F) (coneL T o) (fun g => Ft g ∨ vF.ownBlock = some g ∨ (w.heap.size ≤ g ∧ g < w'.heap.size)) ∧ Alt x vM w w') := by
 have hn4 : T.foes.length ≤ 4096 := by have := hwf.fl; have := hwf.l1; omega
 have hFr := (risB_spec hF).1
 have hFm : ∀ q ∈ F, 0 ≤ q ∧ q < T.foes.length := fun q hq => by
  obtain ⟨i, hi, rfl⟩ := List.getElem_of_mem hq
  have := hFr i hi; have := hwf.fl; omega
 have hFl : F.length ≤ 4096 := by have := ris_len (l := F) (n := T.foes.length) (by rw [hwf.fl]; exact hF); omega
 obtain ⟨vFo, vR, vB, vFa, vTo, hbox, hrd⟩ := h.ex
 have hxl := lt_of_block hbox
 obtain ⟨AM, cM, rfl⟩ : ∃ A c, vM = .slice A (solveM T G).length c := own_form0 h.own
 obtain ⟨AF9, cF9, rfl⟩ : ∃ A c, vF = .slice A F.length c := own_form0 hFo
 obtain ⟨AG9, cG9, rfl⟩ : ∃ A c, vFa = .slice A G.length c := by obtain ⟨_, ⟨A, c, e9, _⟩, _⟩ := hrd w (fun _ _ _ _ => rfl); exact ⟨A, c, e9⟩
 obtain ⟨AU9, cU9, rfl⟩ : ∃ A c, vTo = .slice A U.length c := by obtain ⟨_, _, ⟨A, c, e9, _⟩⟩ := hrd w (fun _ _ _ _ => rfl); exact ⟨A, c, e9⟩
 have hSl := solve_length T G
 have hSl2 := solve_length T F
 have hxM : (Value.slice AM (solveM T G).length cM).ownBlock ≠ some x := own_ne_tag h.own hbox (by decide)
 have hMlt := h.own.lt
 -- what is read of the engine in every world above
 have hEr : ∀ W, Below w.heap.size w W → (W.cell? ⟨x, 1, none⟩ = some (.int .i64 T.lits) ∧ W.cell? ⟨x, 2, none⟩ = some vFo ∧ W.cell? ⟨x, 3, none⟩ = some vR ∧ W.cell? ⟨x, 4, none⟩ = some vB) ∧ RdTh W (.agg #[.int .i64 T.lits, vFo, vR, vB]) T ∧ RdI W (.slice AF9 F.length cF9) F := fun W hW => by
  have hb := (hW.block x hxl).trans hbox
  refine ⟨⟨?_, ?_, ?_, ?_⟩, (hrd W fun g hg _ _ => hW.block g (h.ft g hg)).1, (own_rdI hFo (by omega)).ext (scR_mono _) hW⟩
  ·rw [cell_of_row W x 1 _ _ _ hb]; rfl
  ·rw [cell_of_row W x 2 _ _ _ hb]; rfl
  ·rw [cell_of_row W x 3 _ _ _ hb]; rfl
  ·rw [cell_of_row W x 4 _ _ _ hb]; rfl
 obtain ⟨⟨c1, c2, c3, c4⟩, hTh, _⟩ := hEr w (ext_refl _)
 have Hcone := hid (coneT_any w _ vT T o hTh hto)
 rw [coneErr_ok hwf ho, coneX_ok hwf ho] at Hcone
 have HEr := hid hEr
 have H := hid h
 have Hwf := hid hwf
 have Hodd := hid hodd
 have Hgv : Hid (givenErr T F = 0) := hid (givenErr_ok.2 ⟨hwf, hF⟩)
 have HFo := hid hFo
 have HFm := hid hFm
 have Hok := hid (coneL_ok T o)
 have hcl := Hok.out.le
 have Hbox := hid hbox
 have Hrd := hid hrd
 clear h hEr hTh hwf hodd hFo hFm hto ho hF hFr hbox hrd
 generalize hC : coneL T o = C at *
 have HC := hid hC
 clear hC
 refine post_gen fun Q HQ => ?_
 go_enter Tryz.func41, Tryz.ntmps41
 -- regions 0, 1
 refine wp_seq_k fun K hK => ?_
 have HK := hid hK
 clear hK
 go_wp2
 refine HK.out _ _ ?_
 clear HK
 refine wp_seq_k fun K hK => ?_
 have HK := hid hK
 clear hK
 go_wp2_with fail
 refine Hcone.out.mono ?_
 rintro e w1 ⟨_, rfl, vC, rfl, hownC, hb1⟩
 obtain ⟨Ac, cc, rfl⟩ : ∃ A c, vC = .slice A C.length c := own_form0 hownC
 have HownC := hid hownC
 have Hb1 := hid hb1
 clear hownC hb1 Hcone c1 c2 c3 c4
 go_wp2_with fail
 refine HK.out _ _ ?_
 clear HK
 -- region 2
 refine wp_seq_k fun K hK => ?_
 have HK := hid hK
 clear hK
 have Hcut : Hid (Calls Tryz.prog 70 #[.pointer (some ⟨x, 0, none⟩), .slice Ac C.length cc, .slice AF9 F.length cF9] w1 (Ret (CutPost w1 T (solveM T G) F o (.slice Ac C.length cc)))) := hid (by
  have e := HC.out
  subst e
  exact cutD_any w1 x _ _ (.slice AF9 F.length cF9) T G (solveM T G) U Ft (H.out.ext Hb1.out) Hwf.out o F (own_rdI HownC.out (by omega)) ((own_rdI HFo.out (by omega)).ext (scR_mono _) Hb1.out) HFm.out hFl hSl (six_at T G))
 go_wp2_with fail
 refine Hcut.out.mono ?_
 rintro e w2 ⟨_, rfl, P, l, ol, mL, vPo, vPu, vPe, vPa, rfl, hPT, hPl, hcut, htk, hb2⟩
 obtain ⟨APo, cPo, rfl⟩ : ∃ A c, vPo = .slice A P.foes.length c := by
  obtain ⟨a1, a2, a3, e9, k1, k2, k3⟩ := hPT
  injection e9 with e9; simp only [Array.mk.injEq, List.cons.injEq, and_true] at e9
  obtain ⟨_, rfl, rfl, rfl⟩ := e9
  obtain ⟨A, c, e9, _⟩ := k1; exact ⟨A, c, e9⟩
 obtain ⟨APu, cPu, rfl⟩ : ∃ A c, vPu = .slice A P.rules.length c := by
  obtain ⟨a1, a2, a3, e9, k1, k2, k3⟩ := hPT
  injection e9 with e9; simp only [Array.mk.injEq, List.cons.injEq, and_true] at e9
  obtain ⟨_, rfl, rfl, rfl⟩ := e9
  obtain ⟨A, c, e9, _⟩ := k2; exact ⟨A, c, e9⟩
 obtain ⟨APe, cPe, rfl⟩ : ∃ A c, vPe = .slice A P.beats.length c := by
  obtain ⟨a1, a2, a3, e9, k1, k2, k3⟩ := hPT
  injection e9 with e9; simp only [Array.mk.injEq, List.cons.injEq, and_true] at e9
  obtain ⟨_, rfl, rfl, rfl⟩ := e9
  obtain ⟨A, c, e9, _⟩ := k3; exact ⟨A, c, e9⟩
 obtain ⟨APa, cPa, rfl⟩ : ∃ A c, vPa = .slice A l.length c := by obtain ⟨A, c, e9, _⟩ := hPl; exact ⟨A, c, e9⟩
 have HPT := hid hPT
 have HPl := hid hPl
 have Hcu := hid hcut
 have Htk := hid htk
 have Hb2 := hid hb2
 clear hPT hPl hcut htk hb2 Hcut
 go_wp2_with fail
 refine HK.out _ _ ?_
 clear HK
 obtain ⟨w3, Hw3⟩ : ∃ w3, Hid (w2.alloc (.cells #[.int .i64 P.lits, (.slice APo P.foes.length cPo), (.slice APu P.rules.length cPu), (.slice APe P.beats.length cPe), (.slice APa l.length cPa), .slice Ac C.length cc] 111) = w3) := ⟨_, hid rfl⟩
 rw [Hw3.out]
 have hb3 : Below w2.heap.size w2 w3 := by rw [← Hw3.out]; exact ext_alloc _ _
 have hbx3 : w3.heap[w2.heap.size]? = some (.cells #[.int .i64 P.lits, (.slice APo P.foes.length cPo), (.slice APu P.rules.length cPu), (.slice APe P.beats.length cPe), (.slice APa l.length cPa), .slice Ac C.length cc] 111 (0, 0)) := by rw [← Hw3.out]; exact heap_alloc_new _ _
 have p0 := cell_of_row w3 w2.heap.size 0 _ _ _ hbx3
 have p1 := cell_of_row w3 w2.heap.size 1 _ _ _ hbx3
 have p2 := cell_of_row w3 w2.heap.size 2 _ _ _ hbx3
 have p3 := cell_of_row w3 w2.heap.size 3 _ _ _ hbx3
 have p4 := cell_of_row w3 w2.heap.size 4 _ _ _ hbx3
 simp only [List.getElem?_toArray, List.getElem?_cons_zero, List.getElem?_cons_succ] at p0 p1 p2 p3 p4
 have Hsol := hid (solve_any w3 _ (.slice APa l.length cPa) P l (HPT.out.ext hb3) (HPl.out.ext (scR_mono _) hb3))
 have Hb3 := hid hb3
 clear hb3 hbx3
 -- region 3
 refine wp_seq_k fun K hK => ?_
 have HK := hid hK
 clear hK
 go_wp2_with fail
 refine Hsol.out.mono ?_
 rintro e w4 ⟨_, rfl, v1, rfl, hS1, hS2, hb4⟩
 have HS1 := hid hS1
 have Hb4 := hid (ext_trans Hb1.out (ext_trans Hb2.out (ext_trans Hb3.out hb4)))
 have Hb14 := hid (ext_trans Hb2.out (ext_trans Hb3.out hb4))
 have Hsz := hid (show w.heap.size ≤ w3.heap.size from Nat.le_trans Hb1.out.size (Nat.le_trans Hb2.out.size Hb3.out.size))
 clear hS1 hS2 hb4 p0 p1 p2 p3 p4 Hsol
 generalize hge : givenErr P l = ge at *
 have Hge := hid hge
 clear hge
 go_wp2_with fail
 refine HK.out _ _ ?_
 clear HK
 -- segment A
 have h1 : ge = 0 → ∃ Mm : List Nat, w4.ownsRow w.heap.size 58 1 v1 Mm.length (marksV Mm) ∧ Mm.length ≤ 100000 ∧ ∀ i (h : i < C.length), i < Mm.length ∧ Mm.getD i 0 = (solveM T F).getD C[i].toNat 0 := fun he => by
  have e := HC.out
  subst e
  obtain ⟨k1, k2⟩ := cut_vals Hwf.out Hcu.out Htk.out (Hge.out.trans he) Hodd.out
  exact ⟨solveM P l, own_lower (HS1.out he) Hsz.out, k1, k2⟩
 have hC4 : w4.ownsRow w.heap.size 3 1 (.slice Ac C.length cc) C.length (intsV C) := own_ext HownC.out Hb14.out
 refine wp_seq_k fun K hK => ?_
 have HK := hid hK
 clear hK
 refine wp_frameB0 (x := x) (vF := .slice AF9 F.length cF9) (vC := .slice Ac C.length cc) (v1 := v1) (v9 := .int .i64 ge) rfl rfl rfl rfl rfl rfl fun f => ?_
 refine bec_sA w w4 x w.heap.size (.slice AF9 F.length cF9) v1 vFo vR vB ge Ac cc C F T HEr.out Hgv.out Hb4.out hC4 Hok.out hn4 h1 f K _ ?_
 clear h1 hC4
 intro t5 w5 Am cm Mm hs5 t50 t51 t57 t510 hMm hMml hMv hb5
 have HMm := hid hMm
 have HMv := hid hMv
 have Hb5 := hid hb5
 have Hb05 := hid (ext_trans Hb4.out hb5)
 clear hMm hMv hb5
 refine HK.out _ _ ?_
 clear HK
 -- region 13
 obtain ⟨f, e5, hf5⟩ := frame124 t5 hs5
 have g0 := atD_f hf5 t50
 have g1 := atD_f hf5 t51
 have g7 := atD_f hf5 t57
 have g10 := atD_f hf5 t510
 rw [e5, g0, g1, g7, g10]
 clear e5 hf5 g0 g1 g7 g10 hs5 t50 t51 t57 t510
 refine wp_seq_k fun K hK => ?_
 have HK := hid hK
 clear hK
 go_wp2
 refine HK.out _ _ ?_
 clear HK
 -- segment B
 refine wp_seq_k fun K hK => ?_
 have HK := hid hK
 clear hK
 refine wp_frameB1 (x := x) (vF := .slice AF9 F.length cF9) (vC := .slice Ac C.length cc) (v1 := .slice Am Mm.length cm) (v9 := .slice none 0 0) rfl rfl rfl rfl rfl rfl fun f => ?_
 have hbx5 := (Hb05.out.block x hxl).trans Hbox.out
 have hmM : (Value.slice Am Mm.length cm).ownBlock = none ∨ (Value.slice Am Mm.length cm).ownBlock ≠ (Value.slice AM (solveM T G).length cM).ownBlock := by
  cases hk : (Value.slice Am Mm.length cm).ownBlock with
  | none => exact .inl rfl
  | some g =>
   right
   intro e
   have k1 := (HMm.out.lt g hk).1
   have k2 := (hMlt g e.symm).2
   omega
 refine bec_sB w5 x w.heap.size w.heap.size (.slice AF9 F.length cF9) Ac Am AM cc cm cM C (solveM T G) (solveM T F) Mm _ hbx5 rfl (own_ext H.out.own Hb05.out) (own_ext HownC.out (ext_trans Hb14.out Hb5.out)) HMm.out hmM (by rw [hSl]; exact Hok.out) (by rw [hSl]; omega) hMml HMv.out f K _ ?_
 intro t6 w6 vo hs6 t60 t61 t67 t615 hmr hor hkv
 refine HK.out _ _ ?_
 clear HK hmM
 obtain ⟨f, e6, hf6⟩ := frame124 t6 hs6
 have g0 := atD_f hf6 t60
 have g1 := atD_f hf6 t61
 have g7 := atD_f hf6 t67
 have g15 := atD_f hf6 t615
 rw [e6, g0, g1, g7, g15]
 clear e6 hf6 g0 g1 g7 g15 hs6 t60 t61 t67 t615
 have hbx6 := (hkv.old x (by have := Hb05.out.size; omega) hxM).trans hbx5
 have q5 := frozen_of_row w6 x 5 _ _ hbx6
 have q7 := frozen_of_row w6 x 7 _ _ hbx6
 have s5 := cell_of_row w6 x 5 _ _ _ hbx6
 have s7 := cell_of_row w6 x 7 _ _ _ hbx6
 simp only [List.getElem?_toArray, List.getElem?_cons_zero, List.getElem?_cons_succ] at s5 s7
 have hxl6 := lt_of_block hbx6
 have Hmr := hid hmr
 have Hor := hid hor
 have Hkv := hid hkv
 have Hbx6 := hid hbx6
 clear hmr hor hkv hbx5 hbx6
 go_wp2
 go_ret
 have hE5 := heap_setCell_same w6 x 5 _ _ (.slice AF9 F.length cF9) Hbx6.out
 have hE7 := heap_setCell_same _ x 7 _ _ (.slice Ac C.length cc) hE5
 have hput : putC (solveM T G) (solveM T F) C = solveM T F := by
  have e := HC.out
  subst e
  refine putC_all (by rw [hSl, hSl2]) (fun y hy => (Hok.out.rg y hy).1) fun q hq hn => ?_
  rw [hSl] at hq
  exact cone_solve Hwf.out Hodd.out hq fun hc => hn (mem_coneL.2 ⟨hq, hc⟩)
 have hw5 := Hb05.out.size
 have hw6 := Hkv.out.sz
 have hsE : ((w6.setCell ⟨x, 5, none⟩ (.slice AF9 F.length cF9)).setCell ⟨x, 7, none⟩ (.slice Ac C.length cc)).heap.size = w6.heap.size := by simp
 have hkE : ∀ g, g < w5.heap.size → g ≠ x → (Value.slice AM (solveM T G).length cM).ownBlock ≠ some g → ((w6.setCell ⟨x, 5, none⟩ (.slice AF9 F.length cF9)).setCell ⟨x, 7, none⟩ (.slice Ac C.length cc)).heap[g]? = w5.heap[g]? := fun g k1 k2 k3 =>
  (heap_setCell_other _ _ g _ k2).trans ((heap_setCell_other _ _ g _ k2).trans (Hkv.out.old g k1 k3))
 have hk0 : ∀ g, g < w.heap.size → g ≠ x → (Value.slice AM (solveM T G).length cM).ownBlock ≠ some g → ((w6.setCell ⟨x, 5, none⟩ (.slice AF9 F.length cF9)).setCell ⟨x, 7, none⟩ (.slice Ac C.length cc)).heap[g]? = w.heap[g]? := fun g k1 k2 k3 => (hkE g (by omega) k2 k3).trans (Hb05.out.block g k1)
 have hmrE : ((w6.setCell ⟨x, 5, none⟩ (.slice AF9 F.length cF9)).setCell ⟨x, 7, none⟩ (.slice Ac C.length cc)).ownsRow 0 58 1 (.slice AM (solveM T G).length cM) (solveM T F).length (marksV (solveM T F)) := by
  have h9 := Hmr.out
  rw [hput] at h9
  have h8 := ownsRow_setCell_other (ownsRow_setCell_other h9 (a := ⟨x, 5, none⟩) hxM (.slice AF9 F.length cF9)) (a := ⟨x, 7, none⟩) hxM (.slice Ac C.length cc)
  rw [show (solveM T F).length = (solveM T G).length by rw [hSl, hSl2]]
  exact h8
 have horE : ((w6.setCell ⟨x, 5, none⟩ (.slice AF9 F.length cF9)).setCell ⟨x, 7, none⟩ (.slice Ac C.length cc)).ownsRow w.heap.size 60 3 vo (chL (solveM T G) (solveM T F) C).length (chV (chL (solveM T G) (solveM T F) C)) :=
  own_lower (ownsRow_setCell_other (ownsRow_setCell_other Hor.out (a := ⟨x, 5, none⟩) (fun e => by have := (Hor.out.lt _ e).1; dsimp only at this; omega) _) (a := ⟨x, 7, none⟩) (fun e => by have := (Hor.out.lt _ e).1; dsimp only at this; omega) _) hw5
 have hFM : (Value.slice AF9 F.length cF9).ownBlock = none ∨ (Value.slice AF9 F.length cF9).ownBlock ≠ (Value.slice AM (solveM T G).length cM).ownBlock := own_own HFo.out H.out.own (by decide)
 have hFx : (Value.slice AF9 F.length cF9).ownBlock ≠ some x := own_ne_tag HFo.out Hbox.out (by decide)
 have hCM : (Value.slice Ac C.length cc).ownBlock = none ∨ (Value.slice Ac C.length cc).ownBlock ≠ (Value.slice AM (solveM T G).length cM).ownBlock := by
  cases hk : (Value.slice Ac C.length cc).ownBlock with
  | none => exact .inl rfl
  | some g => exact .inr fun e => by have := (HownC.out.lt g hk).1; have := (hMlt g e.symm).2; omega
 have hw1 : w1.heap.size ≤ w5.heap.size := (ext_trans Hb14.out Hb5.out).size
 refine Fin HQ ⟨horE, ⟨⟨vFo, vR, vB, .slice AF9 F.length cF9, .slice Ac C.length cc, hE7, fun W hW => ⟨?_, ?_, ?_⟩⟩, hmrE, fun g hg => ?_, .inl H.out.fx, fun g hg => ⟨.inl (H.out.fm g hg).1, (H.out.fm g hg).2⟩, by rw [hSl2]; omega, hFl, by omega⟩, ⟨Hkv.out.os.trans Hb05.out.os, Hkv.out.tape.trans Hb05.out.tape, Hkv.out.output.trans Hb05.out.output, by rw [hsE]; omega, hk0⟩⟩
 ·exact (Hrd.out W fun g k1 k2 k3 => (hW g (.inl k1) k2 k3).trans (hk0 g (H.out.ft g k1) k2 k3)).1
 ·refine own_rdI (base := bF) (eI := 3) ⟨HFo.out.1, ?_⟩ (by omega)
  rcases HFo.out.2 with k1 | ⟨g9, cap, cur, k1, k2, k3, k4⟩
  ·exact .inl k1
  ·have k5 : g9 ≠ x := fun e => hFx (by rw [k1, e]; rfl)
   have k6 : (Value.slice AM (solveM T G).length cM).ownBlock ≠ some g9 := fun e => by
    rw [k1] at hFM
    rcases hFM with h9 | h9
    ·simp [Value.ownBlock] at h9
    ·exact h9 (by rw [e]; rfl)
   exact .inr ⟨g9, cap, cur, k1, k2, ((hW g9 (.inr (.inl (by rw [k1]; rfl))) k5 k6).trans (hk0 g9 (lt_of_block k3) k5 k6)).trans k3, k4⟩
 ·refine own_rdI (base := w.heap.size) (eI := 3) ⟨HownC.out.1, ?_⟩ (by omega)
  rcases HownC.out.2 with k1 | ⟨g9, cap, cur, k1, k2, k3, k4⟩
  ·exact .inl k1
  ·have k9 := lt_of_block k3
   have k6 : (Value.slice AM (solveM T G).length cM).ownBlock ≠ some g9 := fun e => by have := (hMlt g9 e).2; omega
   have k10 : w5.heap[g9]? = w1.heap[g9]? := (ext_trans Hb14.out Hb5.out).block g9 k9
   exact .inr ⟨g9, cap, cur, k1, k2, ((hW g9 (.inr (.inr ⟨k2, by rw [hsE]; omega⟩)) (by omega) k6).trans ((hkE g9 (by omega) (by omega) k6).trans k10)).trans k3, k4⟩
 ·rcases hg with h9 | h9 | h9
  ·have := H.out.ft g h9; rw [hsE]; omega
  ·have := (HFo.out.lt g h9).2; rw [hsE]; omega
  ·exact h9.2
end Go.Proofs.Lx

namespace Go.Proofs
open Go.Shelf
def Tryz.lays2n21_ren : Go.Shelf.Ren := ⟨fun | 21 => 42 | 27 => 71 | 28 => 72 | 35 => 90 | 39 => 104 | n => n, fun | 22 => 36 | 3 => 3 | 4 => 4 | 0 => 0 | n => n, fun | n => n⟩
theorem Tryz.lays2n21 : Go.Proofs.Lays2.n21 Tryz.prog Tryz.lays2n21_ren := {
 mixed := by kernel_rfl
 f21 := Tryz.func42.trans (congrArg some (by kernel_rfl))
 f27 := Tryz.func71.trans (congrArg some (by kernel_rfl))
 f28 := Tryz.func72.trans (congrArg some (by kernel_rfl))
 f35 := Tryz.func90.trans (congrArg some (by kernel_rfl))
 f39 := Tryz.func104.trans (congrArg some (by kernel_rfl))
 t0 := Tryz.underlying0
 a0 := Tryz.isAgg0
 z0 := Tryz.sizeOf0
 v0 := Tryz.zeroValue0
 t3 := Tryz.underlying3
 a3 := Tryz.isAgg3
 z3 := Tryz.sizeOf3
 v3 := Tryz.zeroValue3
 t4 := Tryz.underlying4
 a4 := Tryz.isAgg4
 z4 := Tryz.sizeOf4
 v4 := Tryz.zeroValue4
 t22 := Tryz.underlying36
 a22 := Tryz.isAgg36
 z22 := Tryz.sizeOf36
 v22 := Tryz.zeroValue36
 i3 := by kernel_rfl }
def Tryz.lays2n23_ren : Go.Shelf.Ren := ⟨fun | 23 => 45 | n => n, fun | 22 => 36 | 3 => 3 | 4 => 4 | 0 => 0 | n => n, fun | n => n⟩
theorem Tryz.lays2n23 : Go.Proofs.Lays2.n23 Tryz.prog Tryz.lays2n23_ren := {
 mixed := by kernel_rfl
 f23 := Tryz.func45.trans (congrArg some (by kernel_rfl))
 t0 := Tryz.underlying0
 a0 := Tryz.isAgg0
 z0 := Tryz.sizeOf0
 v0 := Tryz.zeroValue0
 t3 := Tryz.underlying3
 a3 := Tryz.isAgg3
 z3 := Tryz.sizeOf3
 v3 := Tryz.zeroValue3
 t4 := Tryz.underlying4
 a4 := Tryz.isAgg4
 z4 := Tryz.sizeOf4
 v4 := Tryz.zeroValue4
 t22 := Tryz.underlying36
 a22 := Tryz.isAgg36
 z22 := Tryz.sizeOf36
 v22 := Tryz.zeroValue36
 i3 := by kernel_rfl }
end Go.Proofs
