/- Parts of the proof: Ah, Rw. DeltaPlays: the walk. Printed by gen_plays.py. -/
import Derived.Test.YtbidjiopnddldaaGreatP45
import Derived.Test.YtbidjiopnddldaaGreatP46
import Derived.Test.YtbidjiopnddldaaGreatP1
import Derived.SizedLaws
import Derived.Lib.SmallJoins
import Derived.ProofKit
import Derived.OpenShut
namespace Go.Proofs.Lx
open Go Go.RowKit Go.Proofs.Tj
set_option linter.unusedVariables false
set_option linter.unusedSimpArgs false
theorem given_nil (T : Th) : givenErr T [] = checkErr T := by
 by_cases h : checkErr T = 0
 ·rw [h]; exact givenErr_ok.2 ⟨(checkErr_ok T).1 h, rfl⟩
 ·unfold givenErr; rw [if_neg h]
theorem cp_rd {w w' W : World} {T : Th} {r : Value} (hs : Small T) (h : CpTh w w' T r) (hW : ∀ g, w.heap.size ≤ g → g < w'.heap.size → W.heap[g]? = w'.heap[g]?) : RdTh W r T := by
 obtain ⟨uF, uR, uB, b1, b2, rfl, h0, h01, h12, hrF, hoR, hoB, hb⟩ := h
 exact ⟨uF, uR, uB, rfl, hrF W fun g h1 h2 => hW g (by omega) (by omega), OwnRs.rd (hoR.keep fun g h1 h2 => hW g (by omega) h2) (by have := hs.r; omega) (fun r hr => by have := hs.rb r hr; omega), OwnLL.rd (hoB.keep fun g h1 h2 => hW g (by omega) h2) (by have := hs.b; omega) (fun r hr => by have := hs.br r hr; omega)⟩
theorem cp_form {w w' : World} {T : Th} {r : Value} (hs : Small T) (h : CpTh w w' T r) : ∃ AF cF AR cR AB cB, r = .agg #[.int .i64 T.lits, .slice AF T.foes.length cF, .slice AR T.rules.length cR, .slice AB T.beats.length cB] := by
 obtain ⟨v1, v2, v3, e, ⟨AF, cF, rfl, _⟩, ⟨AR, cR, rfl, _⟩, ⟨AB, cB, rfl, _⟩⟩ := cp_rd (W := w') hs h fun _ _ _ => rfl
 exact ⟨AF, cF, AR, cR, AB, cB, e⟩
set_option maxRecDepth 1000000 in
set_option maxHeartbeats 60000000 in
theorem lawPlays_any (w : World) (V vl : Value) (T : Th) (L : List Rule) (hT : RdTh w V T) (hS : Small T) (hL : RdRs w vl L) (h8 : ∀ r ∈ L, r.body.length * 8 ≤ 140737488355328) :
  Calls Tryz.prog 5 #[V, vl] w (Ret fun v w' => v = .bool true ∧ Below w.heap.size w w') := by
 have HT := hid hT
 have HS := hid hS
 have HL := hid hL
 have H8 := hid h8
 have Hnum := hid num19_any
 obtain ⟨vF, vR, vB, rfl, _, _, _⟩ := hT
 obtain ⟨Al, cl, rfl, hcl, hll, hrl⟩ := hL
 have Hrl := hid hrl
 clear hrl hS h8
 obtain ⟨W1, HW1⟩ : ∃ W1, Hid (w.alloc (.cells #[.int .i64 T.lits, vF, vR, vB] 25) = W1) := ⟨_, hid rfl⟩
 have Hb1 : Hid (Below w.heap.size w W1) := hid (by rw [← HW1.out]; exact ext_alloc _ _)
 have Hbox : Hid (∀ W, Below W1.heap.size W1 W → W.cell? ⟨w.heap.size, 0, none⟩ = some (.int .i64 T.lits) ∧ W.cell? ⟨w.heap.size, 1, none⟩ = some vF ∧ W.cell? ⟨w.heap.size, 2, none⟩ = some vR ∧ W.cell? ⟨w.heap.size, 3, none⟩ = some vB) := hid fun W h => by rw [← HW1.out] at h; exact box4 h
 have Hcp := hid (copyThO_any W1 _ T (HT.out.ext Hb1.out) HS.out)
 refine post_gen fun Q HQ => ?_
 go_enter Tryz.func5, Tryz.ntmps5
 obtain ⟨a0, a1, a2, a3⟩ := Hbox.out W1 (ext_refl W1)
 rw [← HW1.out] at a0 a1 a2 a3
 go_wp2_with fail
 rw [HW1.out]
 refine Hcp.out.mono ?_
 rintro e w2 ⟨_, rfl, hcp⟩
 have HCP := hid hcp
 obtain ⟨AF, cF, AR, cR, AB, cB, rfl⟩ := cp_form HS.out hcp
 have Hb2 : Hid (Below W1.heap.size W1 w2) := hid (by obtain ⟨_, _, _, _, _, _, _, _, _, _, _, _, h9⟩ := hcp; exact h9)
 obtain ⟨W3, HW3⟩ : ∃ W3, Hid (w2.alloc (.cells #[.int .i64 T.lits, .slice AF T.foes.length cF, .slice AR T.rules.length cR, .slice AB T.beats.length cB] 25) = W3) := ⟨_, hid rfl⟩
 have Hb3 : Hid (Below w2.heap.size w2 W3) := hid (by rw [← HW3.out]; exact ext_alloc _ _)
 have Hbx3 : Hid (∀ W, Below W3.heap.size W3 W → W.cell? ⟨w2.heap.size, 0, none⟩ = some (.int .i64 T.lits) ∧ W.cell? ⟨w2.heap.size, 1, none⟩ = some (.slice AF T.foes.length cF) ∧ W.cell? ⟨w2.heap.size, 2, none⟩ = some (.slice AR T.rules.length cR) ∧ W.cell? ⟨w2.heap.size, 3, none⟩ = some (.slice AB T.beats.length cB)) := hid fun W h => by rw [← HW3.out] at h; exact box4 h
 have Hrd3 : Hid (∀ W, Below W3.heap.size W3 W → RdTh W (.agg #[.int .i64 T.lits, .slice AF T.foes.length cF, .slice AR T.rules.length cR, .slice AB T.beats.length cB]) T) := hid fun W hW => cp_rd HS.out HCP.out fun g h1 h2 => ((ext_trans Hb3.out hW).block g h2)
 have Hnew := hid (newD_any W3 _ T (Hrd3.out W3 (ext_refl W3)))
 clear hcp Hcp a0 a1 a2 a3
 rw [given_nil] at Hnew
 obtain ⟨a0, a1, a2, a3⟩ := Hbx3.out W3 (ext_refl W3)
 rw [← HW3.out] at a0 a1 a2 a3
 go_wp2_with fail
 rw [HW3.out]
 refine Hnew.out.mono ?_
 rintro e w4 ⟨_, rfl, hb4, hcase⟩
 have Hb4 := hid hb4
 clear hb4 a0 a1 a2 a3 Hnew
 rcases hcase with ⟨he, rfl⟩ | ⟨he, x, vM, rfl, heng⟩
 ·have He := hid he
  obtain ⟨W5, HW5⟩ : ∃ W5, Hid (w4.alloc (.cells #[.pointer none] 28) = W5) := ⟨_, hid rfl⟩
  have Hb5 : Hid (Below w4.heap.size w4 W5) := hid (by rw [← HW5.out]; exact ext_alloc _ _)
  have Hb15 := hid (ext_trans Hb2.out (ext_trans Hb3.out (ext_trans Hb4.out Hb5.out)))
  have Hnew2 := hid (new19_any W5 _ T (HT.out.ext (ext_trans Hb1.out Hb15.out)))
  have Hnil : Hid (W5.cell? ⟨w4.heap.size, 0, none⟩ = some (.pointer none)) := hid (by rw [← HW5.out]; exact cell_of_row _ _ 0 _ _ _ (heap_alloc_new w4 _))
  obtain ⟨a0, a1, a2, a3⟩ := Hbox.out W5 Hb15.out
  rw [← HW5.out] at a0 a1 a2 a3
  generalize checkErr T = g at *
  go_wp2_with fail
  rw [HW5.out]
  refine Hnew2.out.mono ?_
  rintro e w6 ⟨_, rfl, hb6, ⟨_, rfl⟩ | ⟨h9, _⟩⟩
  rotate_left
  ·exact absurd h9 He.out
  have Hb6 := hid hb6
  clear hb6 a0 a1 a2 a3
  obtain ⟨a0, a1, a2, a3⟩ := Hbox.out w6 (ext_trans Hb15.out Hb6.out)
  obtain ⟨c0, c1, c2, c3⟩ := Hbx3.out w6 (ext_trans Hb4.out (ext_trans Hb5.out Hb6.out))
  have c4 := cell_ext Hb6.out Hnil.out
  have Hst := hid (sameTh_self w6 _ _ T (Hrd3.out w6 (ext_trans Hb4.out (ext_trans Hb5.out Hb6.out))) (HT.out.ext (ext_trans Hb1.out (ext_trans Hb15.out Hb6.out))))
  have hne : (g == 0) = false := by simp [He.out]
  go_wp2_with (first | (go_at_call 10; refine (Hnum.out _ _).mono ?_; rintro e w' ⟨_, rfl, rfl, hw9⟩; rw [hw9]; clear hw9 w') | (go_at_call 30; refine Hst.out.mono ?_; rintro e w7 ⟨_, rfl, rfl, hb7⟩; have Hb7 := hid hb7; have c5 := cell_ext hb7 c4; clear hb7))
  refine (alive19_any w7).mono ?_
  rintro e w8 ⟨_, rfl, rfl, hb8⟩
  have Hb8 := hid hb8
  clear hb8
  go_wp2_with fail
  go_ret
  exact Fin HQ ⟨rfl, ext_trans Hb1.out (ext_trans Hb15.out (ext_trans Hb6.out (ext_trans Hb7.out Hb8.out)))⟩
 have He := hid he
 have Hwf := hid ((checkErr_ok T).1 he)
 obtain ⟨W5, HW5⟩ : ∃ W5, Hid (w4.alloc (.cells #[.pointer (some ⟨x, 0, none⟩)] 28) = W5) := ⟨_, hid rfl⟩
 have Hb5 : Hid (Below w4.heap.size w4 W5) := hid (by rw [← HW5.out]; exact ext_alloc _ _)
 have Hb15 := hid (ext_trans Hb2.out (ext_trans Hb3.out (ext_trans Hb4.out Hb5.out)))
 have Hnew2 := hid (new19_any W5 _ T (HT.out.ext (ext_trans Hb1.out Hb15.out)))
 have Hs5 : Hid (W5.heap.size = w4.heap.size + 1) := hid (by rw [← HW5.out]; simp)
 have Hbxb : Hid (W5.heap[w4.heap.size]? = some (.cells #[.pointer (some ⟨x, 0, none⟩)] 28 (0, 0))) := hid (by rw [← HW5.out]; exact heap_alloc_new w4 _)
 have Heng := hid heng
 clear heng he
 obtain ⟨a0, a1, a2, a3⟩ := Hbox.out W5 Hb15.out
 rw [← HW5.out] at a0 a1 a2 a3
 go_wp2_with fail
 rw [HW5.out]
 refine Hnew2.out.mono ?_
 rintro e w6 ⟨_, rfl, hb6, ⟨h9, _⟩ | ⟨_, b, rfl, hr⟩⟩
 ·exact absurd He.out h9
 have Hb6 := hid hb6
 have HP := hid (show PM w w6 w4.heap.size x vM b T [] [] [] (fun g => W3.heap.size ≤ g ∧ g < w4.heap.size) (fun g => W5.heap.size ≤ g ∧ g < w6.heap.size) from by
  have s1 := Hb1.out.size
  have s2 := Hb2.out.size
  have s3 := Hb3.out.size
  have s4 := Hb4.out.size
  have s5 := Hs5.out
  have hx := Heng.out.fx
  have hm := Heng.out.fm
  refine ⟨⟨(Heng.out.ext Hb5.out).ext hb6, rfl, fun g hg => by omega, ext_trans Hb1.out (ext_trans Hb15.out hb6)⟩, hr, fun g hg => by omega, (hb6.block _ (by omega)).trans Hbxb.out, by omega, fun g hg => ⟨by omega, fun e => by have := (hm g e).1; omega⟩, fun h9 => ?_, fun h9 => by omega, fun h9 => by omega⟩
  have := hr.fb; omega)
 clear hb6 hr a0 a1 a2 a3 Hnew2 HW5 Hbxb
 obtain ⟨a0, a1, a2, a3⟩ := Hbox.out w6 (ext_trans Hb15.out Hb6.out)
 obtain ⟨c0, c1, c2, c3⟩ := Hbx3.out w6 (ext_trans Hb4.out (ext_trans Hb5.out Hb6.out))
 have c4 := HP.out.boxc
 have Hst := hid (sameTh_self w6 _ _ T (Hrd3.out w6 (ext_trans Hb4.out (ext_trans Hb5.out Hb6.out))) (HT.out.ext (ext_trans Hb1.out (ext_trans Hb15.out Hb6.out))))
 generalize (fun g => W3.heap.size ≤ g ∧ g < w4.heap.size) = Ft at HP
 generalize (fun g => W5.heap.size ≤ g ∧ g < w6.heap.size) = Fr at HP
 generalize w4.heap.size = bx at *
 clear Heng Hs5 HW3 HW1 Hbx3 Hrd3 HCP Hbox
 go_wp2_with (first | (go_at_call 10; refine (Hnum.out _ _).mono ?_; rintro e w' ⟨_, rfl, rfl, hw9⟩; rw [hw9]; clear hw9 w') | (go_at_call 30; refine Hst.out.mono ?_; rintro e w7 ⟨_, rfl, rfl, hb7⟩; have HP7 := hid (HP.out.ext hb7); have c5 := HP7.out.boxc; clear hb7 a0 a1 a2 a3 c0 c1 c2 c3 c4))
 clear Hst HP c5
 obtain ⟨uF, uR, uB, uFa, uN, ⟨d0, d1, d2, d3, d4, d5⟩, _, hN⟩ := HP7.out.facts
 have c5 := HP7.out.boxc
 have HN := hid hN
 have HSS : Hid (∀ W : World, Below w7.heap.size w7 W → (fun w' : World => w'.cell? ⟨bx, 0, none⟩ = some (.pointer (some ⟨x, 0, none⟩)) ∧ w'.cell? ⟨b, 5, none⟩ = some uN) W) := hid fun W hW => ⟨cell_ext hW c5, cell_ext hW d5⟩
 clear d0 d1 d2 d3 d4 d5 c5 hN
 refine wp_region_noPanic ?_
 refine wp_region_held_drew (S := (fun w' : World => w'.cell? ⟨bx, 0, none⟩ = some (.pointer (some ⟨x, 0, none⟩)) ∧ w'.cell? ⟨b, 5, none⟩ = some uN)) (by kernel_rfl) (HSS.out _ (ext_refl w7).drew) (fun hHeld => ?_)
 obtain ⟨W0, hW0⟩ : ∃ W, W = w7.drew := ⟨_, rfl⟩
 have Hd0 : Hid (Below w7.heap.size w7 W0) := hid (by rw [hW0]; exact (ext_refl w7).drew)
 rw [← hW0]
 clear hW0 hHeld
 have hHeld := HSS.out _ Hd0.out
 refine wpAnyH_take (i := 0) (v := ?v1) (by simp only [List.getElem?_toArray, List.getElem?_cons_zero, List.getElem?_cons_succ]; rfl) (by kernel_rfl) (by kernel_rfl) (by kernel_rfl) (fun _ _ _ h => h) (Or.inl ⟨by rfl, ?hy1⟩) (by assumption) ?rest1
 case hy1 => (intro w hSw; (try dsimp only at hSw); go_simp) <;> try with_reducible rfl
 simp only [Act.put, List.setIfInBounds_toArray, List.set_cons_zero, List.set_cons_succ]
 refine wpAnyH_take (i := 2) (v := ?v2) (by simp only [List.getElem?_toArray, List.getElem?_cons_zero, List.getElem?_cons_succ]; rfl) (by kernel_rfl) (by kernel_rfl) (by kernel_rfl) (fun _ _ _ h => h) (Or.inl ⟨by rfl, ?hy2⟩) (by assumption) ?rest2
 case hy2 => (intro w hSw; (try dsimp only at hSw); go_simp) <;> try with_reducible rfl
 simp only [Act.put, List.setIfInBounds_toArray, List.set_cons_zero, List.set_cons_succ]
 refine wpAnyH_take (i := 3) (v := ?v3) (by simp only [List.getElem?_toArray, List.getElem?_cons_zero, List.getElem?_cons_succ]; rfl) (by kernel_rfl) (by kernel_rfl) (by kernel_rfl) (fun _ _ _ h => h) (Or.inl ⟨by rfl, ?hy3⟩) (by assumption) ?rest3
 case hy3 => (intro w hSw; (try dsimp only at hSw); go_simp) <;> try with_reducible rfl
 simp only [Act.put, List.setIfInBounds_toArray, List.set_cons_zero, List.set_cons_succ]
 refine wpAnyH_take (i := 4) (v := ?v4) (by simp only [List.getElem?_toArray, List.getElem?_cons_zero, List.getElem?_cons_succ]; rfl) (by kernel_rfl) (by kernel_rfl) (by kernel_rfl) (fun _ _ _ h => h) (Or.inl ⟨by rfl, ?hy4⟩) (by assumption) ?rest4
 case hy4 => (intro w hSw; (try dsimp only at hSw); go_simp) <;> try with_reducible rfl
 simp only [Act.put, List.setIfInBounds_toArray, List.set_cons_zero, List.set_cons_succ]
 refine wpAnyH_take (i := 5) (v := ?v5) (by simp only [List.getElem?_toArray, List.getElem?_cons_zero, List.getElem?_cons_succ]; rfl) (by kernel_rfl) (by kernel_rfl) (by kernel_rfl) (fun _ _ _ h => h) (Or.inl ⟨by rfl, ?hy5⟩) (by assumption) ?rest5
 case hy5 => (intro w hSw; (try dsimp only at hSw); go_simp) <;> try with_reducible rfl
 simp only [Act.put, List.setIfInBounds_toArray, List.set_cons_zero, List.set_cons_succ]
 refine wpAnyH_ready (rs := [1]) (by kernel_rfl) (by simp) ?_
 refine AllReadyH.cons (by simp only [List.getElem?_toArray, List.getElem?_cons_zero, List.getElem?_cons_succ]; rfl) (fun K9 hK9 => ?_) ?_
 rotate_left
 exact AllReadyH.nil
 go_simp
 refine (marksD_any W0 x vM T _ _ _ Ft (HP7.out.ex.e.ext Hd0.out)).mono ?_
 rintro e W1a ⟨vm, rfl, hm, hb⟩
 obtain ⟨Am, cm, rfl⟩ := own_form0 hm
 have Hm := hid hm
 have Hd1 := hid (ext_trans Hd0.out hb)
 clear hm hb
 go_simp
 refine hK9.out _ _ ?_ (fun hHeld => ?_)
 ·exact HSS.out _ Hd1.out
 clear hK9 K9
 try simp only [Act.put, List.setIfInBounds_toArray, List.set_cons_zero, List.set_cons_succ]
 refine wpAnyH_ready (rs := [6]) (by kernel_rfl) (by simp) ?_
 refine AllReadyH.cons (by simp only [List.getElem?_toArray, List.getElem?_cons_zero, List.getElem?_cons_succ]; rfl) (fun K9 hK9 => ?_) ?_
 rotate_left
 exact AllReadyH.nil
 go_simp
 have hlen : (solveM T []).length ≤ 140737488355328 := by have := HP7.out.ex.e.sm; omega
 refine (sameM_any W1a _ uN (solveM T []) (solveM T []) (own_rdS (enc := fun x : Nat => Value.int .u8 (x : Int)) Hm.out hlen) (HN.out.ext (scR_mono _) Hd1.out)).mono ?_
 rintro e W2 ⟨_, rfl, rfl, hb⟩
 have Hd2 := hid (ext_trans Hd1.out hb)
 clear hb hlen
 simp only [decide_true]
 go_simp
 refine hK9.out _ _ ?_ (fun hHeld => ?_)
 ·exact HSS.out _ Hd2.out
 clear hK9 K9
 try simp only [Act.put, List.setIfInBounds_toArray, List.set_cons_zero, List.set_cons_succ]
 refine wpAnyH_take (i := 7) (v := ?v6) (by simp only [List.getElem?_toArray, List.getElem?_cons_zero, List.getElem?_cons_succ]; rfl) (by kernel_rfl) (by kernel_rfl) (by kernel_rfl) (fun _ _ _ h => h) (Or.inl ⟨by rfl, ?hy6⟩) (by assumption) ?rest6
 case hy6 => (intro w hSw; (try dsimp only at hSw); go_simp) <;> try with_reducible rfl
 simp only [Act.put, List.setIfInBounds_toArray, List.set_cons_zero, List.set_cons_succ]
 refine wpAnyH_take (i := 8) (v := ?v7) (by simp only [List.getElem?_toArray, List.getElem?_cons_zero, List.getElem?_cons_succ]; rfl) (by kernel_rfl) (by kernel_rfl) (by kernel_rfl) (fun _ _ _ h => h) (Or.inl ⟨by rfl, ?hy7⟩) (by assumption) ?rest7
 case hy7 => (intro w hSw; (try dsimp only at hSw); go_simp) <;> try with_reducible rfl
 simp only [Act.put, List.setIfInBounds_toArray, List.set_cons_zero, List.set_cons_succ]
 refine wpAnyH_take (i := 9) (v := ?v8) (by simp only [List.getElem?_toArray, List.getElem?_cons_zero, List.getElem?_cons_succ]; rfl) (by kernel_rfl) (by kernel_rfl) (by kernel_rfl) (fun _ _ _ h => h) (Or.inl ⟨by rfl, ?hy8⟩) (by assumption) ?rest8
 case hy8 => (intro w hSw; (try dsimp only at hSw); go_simp) <;> try with_reducible rfl
 simp only [Act.put, List.setIfInBounds_toArray, List.set_cons_zero, List.set_cons_succ]
 refine wpAnyH_ready (rs := [10]) (by kernel_rfl) (by simp) ?_
 refine AllReadyH.cons (by simp only [List.getElem?_toArray, List.getElem?_cons_zero, List.getElem?_cons_succ]; rfl) (fun K9 hK9 => ?_) ?_
 rotate_left
 exact AllReadyH.nil
 go_simp
 refine (touchedD_any W2 x vM T _ _ _ Ft (HP7.out.ex.e.ext Hd2.out)).mono ?_
 rintro e W3 ⟨vt, rfl, ht, hb⟩
 obtain ⟨At, ct, rfl⟩ := own_form0 ht
 have Hd3 := hid (ext_trans Hd2.out hb)
 clear ht hb
 go_simp
 refine hK9.out _ _ ?_ (fun hHeld => ?_)
 ·exact HSS.out _ Hd3.out
 clear hK9 K9
 try simp only [Act.put, List.setIfInBounds_toArray, List.set_cons_zero, List.set_cons_succ]
 refine wpAnyH_ready (rs := [11]) (by kernel_rfl) (by simp) ?_
 refine AllReadyH.cons (by simp only [List.getElem?_toArray, List.getElem?_cons_zero, List.getElem?_cons_succ]; rfl) (fun K9 hK9 => ?_) ?_
 rotate_left
 exact AllReadyH.nil
 go_simp
 refine hK9.out _ _ ?_ (fun hHeld => ?_)
 ·exact HSS.out _ Hd3.out
 clear hK9 K9
 try simp only [Act.put, List.setIfInBounds_toArray, List.set_cons_zero, List.set_cons_succ]
 refine wpAnyH_take (i := 12) (v := ?v9) (by simp only [List.getElem?_toArray, List.getElem?_cons_zero, List.getElem?_cons_succ]; rfl) (by kernel_rfl) (by kernel_rfl) (by kernel_rfl) (fun _ _ _ h => h) (Or.inl ⟨by rfl, ?hy9⟩) (by assumption) ?rest9
 case hy9 => (intro w hSw; (try dsimp only at hSw); go_simp) <;> try with_reducible rfl
 simp only [Act.put, List.setIfInBounds_toArray, List.set_cons_zero, List.set_cons_succ]
 refine wpAnyH_take (i := 13) (v := ?v10) (by simp only [List.getElem?_toArray, List.getElem?_cons_zero, List.getElem?_cons_succ]; rfl) (by kernel_rfl) (by kernel_rfl) (by kernel_rfl) (fun _ _ _ h => h) (Or.inl ⟨by rfl, ?hy10⟩) (by assumption) ?rest10
 case hy10 => (intro w hSw; (try dsimp only at hSw); go_simp) <;> try with_reducible rfl
 simp only [Act.put, List.setIfInBounds_toArray, List.set_cons_zero, List.set_cons_succ]
 refine wpAnyH_done (by kernel_rfl) (NoPanic.normal ?_) _
 have HP8 := hid (HP7.out.ext Hd3.out)
 clear hHeld HSS Hd0 Hd1 Hd2 Hm
 have Hll := hid hll
 generalize hn : L.length = n at *
 have Hn := hid hn
 clear hn
 go_wp2_with fail
 go_loopw [10] (fun v10 wr => ∃ (k x : Nat) (vM : Value) (G U : List Int) (Ft Fr : Nat → Prop), k ≤ n ∧ v10 = .int .i64 (k : Int) ∧ PM w wr bx x vM b T G G U Ft Fr) (fun v10 _ => n - (intOf v10).toNat)
 case atStart => exact ⟨0, x, vM, [], _, Ft, Fr, Nat.zero_le _, rfl, HP8.out⟩
 case round =>
  clear HP8 HP7 Hd3 HN
  obtain ⟨k, x, vM, G, U, Ft, Fr, hk, rfl, hp⟩ := hrel
  have HP := hid hp
  clear hp
  by_cases hlt : k < n
  rotate_left
  ·go_wp2_with fail
   refine (alive19_any _).mono ?_
   rintro e w9 ⟨_, rfl, rfl, hb9⟩
   have Hb9 := hid (ext_trans HP.out.ex.bel hb9)
   clear hb9
   go_wp2_with fail
   go_ret
   exact Fin HQ ⟨rfl, Hb9.out⟩
  have hx : k < L.length := by rw [Hn.out]; exact hlt
  obtain ⟨ad, B, cB, rfl, h0, h1, h2, h3, h4, h5⟩ := Hrl.out.atRule hx
  have hbd : RdI w (.slice B L[k].body.length cB) L[k].body := ⟨B, cB, rfl, h3, h4, h5⟩
  have Hd := hid (does_any w _ bx x b vM _ T G U L[k].body Ft Fr L[k].kind L[k].head HP.out Hwf.out hbd (H8.out _ (List.getElem_mem hx)))
  replace h0 := cell_ext HP.out.ex.bel h0
  replace h1 := cell_ext HP.out.ex.bel h1
  replace h2 := cell_ext HP.out.ex.bel h2
  unfold DoesEnd at Hd
  generalize L[k].kind = what at *
  generalize L[k].head = q at *
  generalize L[k].body.length = nA at *
  clear h3 h4 h5 hbd hx
  go_wp2_with fail
  refine Hd.out.mono ?_
  rintro e w9 ⟨_, rfl, vd, x', vM', G', U', Ft', Fr', rfl, hp9⟩
  have HP9 := hid hp9
  clear hp9 Hd HP h0 h1 h2
  go_wp2_with fail
  obtain ⟨uF, uR, uB, uFa, uN, ⟨d0, d1, d2, d3, d4, d5⟩, hFa, hN⟩ := HP9.out.facts
  have c5 := HP9.out.boxc
  have HN := hid hN
  have HFa := hid hFa
  have HSS : Hid (∀ W : World, Below w9.heap.size w9 W → (fun w' : World => w'.cell? ⟨bx, 0, none⟩ = some (.pointer (some ⟨x', 0, none⟩)) ∧ w'.cell? ⟨b, 4, none⟩ = some uFa ∧ w'.cell? ⟨b, 5, none⟩ = some uN) W) := hid fun W hW => ⟨cell_ext hW c5, cell_ext hW d4, cell_ext hW d5⟩
  clear d0 d1 d2 d3 d4 d5 c5 hN hFa
  refine wp_region_noPanic ?_
  refine wp_region_held_drew (S := (fun w' : World => w'.cell? ⟨bx, 0, none⟩ = some (.pointer (some ⟨x', 0, none⟩)) ∧ w'.cell? ⟨b, 4, none⟩ = some uFa ∧ w'.cell? ⟨b, 5, none⟩ = some uN)) (by kernel_rfl) (HSS.out _ (ext_refl w9).drew) (fun hHeld => ?_)
  obtain ⟨W0, hW0⟩ : ∃ W, W = w9.drew := ⟨_, rfl⟩
  have Hd0 : Hid (Below w9.heap.size w9 W0) := hid (by rw [hW0]; exact (ext_refl w9).drew)
  rw [← hW0]
  clear hW0 hHeld
  have hHeld := HSS.out _ Hd0.out
  refine wpAnyH_take (i := 0) (v := ?v101) (by simp only [List.getElem?_toArray, List.getElem?_cons_zero, List.getElem?_cons_succ]; rfl) (by kernel_rfl) (by kernel_rfl) (by kernel_rfl) (fun _ _ _ h => h) (Or.inl ⟨by rfl, ?hy101⟩) (by assumption) ?rest101
  case hy101 => (intro w hSw; (try dsimp only at hSw); go_simp) <;> try with_reducible rfl
  simp only [Act.put, List.setIfInBounds_toArray, List.set_cons_zero, List.set_cons_succ]
  refine wpAnyH_take (i := 1) (v := ?v102) (by simp only [List.getElem?_toArray, List.getElem?_cons_zero, List.getElem?_cons_succ]; rfl) (by kernel_rfl) (by kernel_rfl) (by kernel_rfl) (fun _ _ _ h => h) (Or.inl ⟨by rfl, ?hy102⟩) (by assumption) ?rest102
  case hy102 => (intro w hSw; (try dsimp only at hSw); go_simp) <;> try with_reducible rfl
  simp only [Act.put, List.setIfInBounds_toArray, List.set_cons_zero, List.set_cons_succ]
  refine wpAnyH_take (i := 2) (v := ?v103) (by simp only [List.getElem?_toArray, List.getElem?_cons_zero, List.getElem?_cons_succ]; rfl) (by kernel_rfl) (by kernel_rfl) (by kernel_rfl) (fun _ _ _ h => h) (Or.inl ⟨by rfl, ?hy103⟩) (by assumption) ?rest103
  case hy103 => (intro w hSw; (try dsimp only at hSw); go_simp) <;> try with_reducible rfl
  simp only [Act.put, List.setIfInBounds_toArray, List.set_cons_zero, List.set_cons_succ]
  refine wpAnyH_take (i := 3) (v := ?v104) (by simp only [List.getElem?_toArray, List.getElem?_cons_zero, List.getElem?_cons_succ]; rfl) (by kernel_rfl) (by kernel_rfl) (by kernel_rfl) (fun _ _ _ h => h) (Or.inl ⟨by rfl, ?hy104⟩) (by assumption) ?rest104
  case hy104 => (intro w hSw; (try dsimp only at hSw); go_simp) <;> try with_reducible rfl
  simp only [Act.put, List.setIfInBounds_toArray, List.set_cons_zero, List.set_cons_succ]
  refine wpAnyH_take (i := 5) (v := ?v105) (by simp only [List.getElem?_toArray, List.getElem?_cons_zero, List.getElem?_cons_succ]; rfl) (by kernel_rfl) (by kernel_rfl) (by kernel_rfl) (fun _ _ _ h => h) (Or.inl ⟨by rfl, ?hy105⟩) (by assumption) ?rest105
  case hy105 => (intro w hSw; (try dsimp only at hSw); go_simp) <;> try with_reducible rfl
  simp only [Act.put, List.setIfInBounds_toArray, List.set_cons_zero, List.set_cons_succ]
  refine wpAnyH_take (i := 6) (v := ?v106) (by simp only [List.getElem?_toArray, List.getElem?_cons_zero, List.getElem?_cons_succ]; rfl) (by kernel_rfl) (by kernel_rfl) (by kernel_rfl) (fun _ _ _ h => h) (Or.inl ⟨by rfl, ?hy106⟩) (by assumption) ?rest106
  case hy106 => (intro w hSw; (try dsimp only at hSw); go_simp) <;> try with_reducible rfl
  simp only [Act.put, List.setIfInBounds_toArray, List.set_cons_zero, List.set_cons_succ]
  refine wpAnyH_take (i := 7) (v := ?v107) (by simp only [List.getElem?_toArray, List.getElem?_cons_zero, List.getElem?_cons_succ]; rfl) (by kernel_rfl) (by kernel_rfl) (by kernel_rfl) (fun _ _ _ h => h) (Or.inl ⟨by rfl, ?hy107⟩) (by assumption) ?rest107
  case hy107 => (intro w hSw; (try dsimp only at hSw); go_simp) <;> try with_reducible rfl
  simp only [Act.put, List.setIfInBounds_toArray, List.set_cons_zero, List.set_cons_succ]
  refine wpAnyH_take (i := 8) (v := ?v108) (by simp only [List.getElem?_toArray, List.getElem?_cons_zero, List.getElem?_cons_succ]; rfl) (by kernel_rfl) (by kernel_rfl) (by kernel_rfl) (fun _ _ _ h => h) (Or.inl ⟨by rfl, ?hy108⟩) (by assumption) ?rest108
  case hy108 => (intro w hSw; (try dsimp only at hSw); go_simp) <;> try with_reducible rfl
  simp only [Act.put, List.setIfInBounds_toArray, List.set_cons_zero, List.set_cons_succ]
  refine wpAnyH_ready (rs := [4]) (by kernel_rfl) (by simp) ?_
  refine AllReadyH.cons (by simp only [List.getElem?_toArray, List.getElem?_cons_zero, List.getElem?_cons_succ]; rfl) (fun K9 hK9 => ?_) ?_
  rotate_left
  exact AllReadyH.nil
  go_simp
  refine (marksD_any W0 x' vM' T _ _ _ Ft' (HP9.out.ex.e.ext Hd0.out)).mono ?_
  rintro e W1a ⟨vm, rfl, hm, hb⟩
  obtain ⟨Am, cm, rfl⟩ := own_form0 hm
  have Hm := hid hm
  have Hd1 := hid (ext_trans Hd0.out hb)
  clear hm hb
  go_simp
  refine hK9.out _ _ ?_ (fun hHeld => ?_)
  ·exact HSS.out _ Hd1.out
  clear hK9 K9
  try simp only [Act.put, List.setIfInBounds_toArray, List.set_cons_zero, List.set_cons_succ]
  refine wpAnyH_ready (rs := [9]) (by kernel_rfl) (by simp) ?_
  refine AllReadyH.cons (by simp only [List.getElem?_toArray, List.getElem?_cons_zero, List.getElem?_cons_succ]; rfl) (fun K9 hK9 => ?_) ?_
  rotate_left
  exact AllReadyH.nil
  go_simp
  have hlen : (solveM T G').length ≤ 140737488355328 := by have := HP9.out.ex.e.sm; omega
  refine (sameM_any W1a _ uN (solveM T G') (solveM T G') (own_rdS (enc := fun x : Nat => Value.int .u8 (x : Int)) Hm.out hlen) (HN.out.ext (scR_mono _) Hd1.out)).mono ?_
  rintro e W2 ⟨_, rfl, rfl, hb⟩
  have Hd2 := hid (ext_trans Hd1.out hb)
  clear hb hlen
  simp only [decide_true]
  go_simp
  refine hK9.out _ _ ?_ (fun hHeld => ?_)
  ·exact HSS.out _ Hd2.out
  clear hK9 K9
  try simp only [Act.put, List.setIfInBounds_toArray, List.set_cons_zero, List.set_cons_succ]
  refine wpAnyH_take (i := 10) (v := ?v109) (by simp only [List.getElem?_toArray, List.getElem?_cons_zero, List.getElem?_cons_succ]; rfl) (by kernel_rfl) (by kernel_rfl) (by kernel_rfl) (fun _ _ _ h => h) (Or.inl ⟨by rfl, ?hy109⟩) (by assumption) ?rest109
  case hy109 => (intro w hSw; (try dsimp only at hSw); go_simp) <;> try with_reducible rfl
  simp only [Act.put, List.setIfInBounds_toArray, List.set_cons_zero, List.set_cons_succ]
  refine wpAnyH_take (i := 11) (v := ?v110) (by simp only [List.getElem?_toArray, List.getElem?_cons_zero, List.getElem?_cons_succ]; rfl) (by kernel_rfl) (by kernel_rfl) (by kernel_rfl) (fun _ _ _ h => h) (Or.inl ⟨by rfl, ?hy110⟩) (by assumption) ?rest110
  case hy110 => (intro w hSw; (try dsimp only at hSw); go_simp) <;> try with_reducible rfl
  simp only [Act.put, List.setIfInBounds_toArray, List.set_cons_zero, List.set_cons_succ]
  refine wpAnyH_take (i := 12) (v := ?v111) (by simp only [List.getElem?_toArray, List.getElem?_cons_zero, List.getElem?_cons_succ]; rfl) (by kernel_rfl) (by kernel_rfl) (by kernel_rfl) (fun _ _ _ h => h) (Or.inl ⟨by rfl, ?hy111⟩) (by assumption) ?rest111
  case hy111 => (intro w hSw; (try dsimp only at hSw); go_simp) <;> try with_reducible rfl
  simp only [Act.put, List.setIfInBounds_toArray, List.set_cons_zero, List.set_cons_succ]
  refine wpAnyH_take (i := 13) (v := ?v112) (by simp only [List.getElem?_toArray, List.getElem?_cons_zero, List.getElem?_cons_succ]; rfl) (by kernel_rfl) (by kernel_rfl) (by kernel_rfl) (fun _ _ _ h => h) (Or.inl ⟨by rfl, ?hy112⟩) (by assumption) ?rest112
  case hy112 => (intro w hSw; (try dsimp only at hSw); go_simp) <;> try with_reducible rfl
  simp only [Act.put, List.setIfInBounds_toArray, List.set_cons_zero, List.set_cons_succ]
  refine wpAnyH_take (i := 15) (v := ?v113) (by simp only [List.getElem?_toArray, List.getElem?_cons_zero, List.getElem?_cons_succ]; rfl) (by kernel_rfl) (by kernel_rfl) (by kernel_rfl) (fun _ _ _ h => h) (Or.inl ⟨by rfl, ?hy113⟩) (by assumption) ?rest113
  case hy113 => (intro w hSw; (try dsimp only at hSw); go_simp) <;> try with_reducible rfl
  simp only [Act.put, List.setIfInBounds_toArray, List.set_cons_zero, List.set_cons_succ]
  refine wpAnyH_take (i := 16) (v := ?v114) (by simp only [List.getElem?_toArray, List.getElem?_cons_zero, List.getElem?_cons_succ]; rfl) (by kernel_rfl) (by kernel_rfl) (by kernel_rfl) (fun _ _ _ h => h) (Or.inl ⟨by rfl, ?hy114⟩) (by assumption) ?rest114
  case hy114 => (intro w hSw; (try dsimp only at hSw); go_simp) <;> try with_reducible rfl
  simp only [Act.put, List.setIfInBounds_toArray, List.set_cons_zero, List.set_cons_succ]
  refine wpAnyH_take (i := 17) (v := ?v115) (by simp only [List.getElem?_toArray, List.getElem?_cons_zero, List.getElem?_cons_succ]; rfl) (by kernel_rfl) (by kernel_rfl) (by kernel_rfl) (fun _ _ _ h => h) (Or.inl ⟨by rfl, ?hy115⟩) (by assumption) ?rest115
  case hy115 => (intro w hSw; (try dsimp only at hSw); go_simp) <;> try with_reducible rfl
  simp only [Act.put, List.setIfInBounds_toArray, List.set_cons_zero, List.set_cons_succ]
  refine wpAnyH_take (i := 18) (v := ?v116) (by simp only [List.getElem?_toArray, List.getElem?_cons_zero, List.getElem?_cons_succ]; rfl) (by kernel_rfl) (by kernel_rfl) (by kernel_rfl) (fun _ _ _ h => h) (Or.inl ⟨by rfl, ?hy116⟩) (by assumption) ?rest116
  case hy116 => (intro w hSw; (try dsimp only at hSw); go_simp) <;> try with_reducible rfl
  simp only [Act.put, List.setIfInBounds_toArray, List.set_cons_zero, List.set_cons_succ]
  refine wpAnyH_ready (rs := [14]) (by kernel_rfl) (by simp) ?_
  refine AllReadyH.cons (by simp only [List.getElem?_toArray, List.getElem?_cons_zero, List.getElem?_cons_succ]; rfl) (fun K9 hK9 => ?_) ?_
  rotate_left
  exact AllReadyH.nil
  go_simp
  refine (factsD_any W2 x' vM' T _ _ _ Ft' (HP9.out.ex.e.ext Hd2.out)).mono ?_
  rintro e W3 ⟨vt, rfl, ht, hb⟩
  obtain ⟨At, ct, rfl⟩ := own_form0 ht
  have Ht := hid ht
  have Hd3 := hid (ext_trans Hd2.out hb)
  clear ht hb
  go_simp
  refine hK9.out _ _ ?_ (fun hHeld => ?_)
  ·exact HSS.out _ Hd3.out
  clear hK9 K9
  try simp only [Act.put, List.setIfInBounds_toArray, List.set_cons_zero, List.set_cons_succ]
  refine wpAnyH_ready (rs := [19]) (by kernel_rfl) (by simp) ?_
  refine AllReadyH.cons (by simp only [List.getElem?_toArray, List.getElem?_cons_zero, List.getElem?_cons_succ]; rfl) (fun K9 hK9 => ?_) ?_
  rotate_left
  exact AllReadyH.nil
  go_simp
  have hlen : G'.length ≤ 140737488355328 := by have := HP9.out.ex.e.sm; omega
  refine (sameI_any W3 _ uFa G' G' (own_rdI Ht.out hlen) (HFa.out.ext (scR_mono _) Hd3.out)).mono ?_
  rintro e W4 ⟨_, rfl, rfl, hb⟩
  have Hd4 := hid (ext_trans Hd3.out hb)
  clear hb hlen
  simp only [decide_true]
  go_simp
  refine hK9.out _ _ ?_ (fun hHeld => ?_)
  ·exact HSS.out _ Hd4.out
  clear hK9 K9
  try simp only [Act.put, List.setIfInBounds_toArray, List.set_cons_zero, List.set_cons_succ]
  refine wpAnyH_take (i := 20) (v := ?v117) (by simp only [List.getElem?_toArray, List.getElem?_cons_zero, List.getElem?_cons_succ]; rfl) (by kernel_rfl) (by kernel_rfl) (by kernel_rfl) (fun _ _ _ h => h) (Or.inl ⟨by rfl, ?hy117⟩) (by assumption) ?rest117
  case hy117 => (intro w hSw; (try dsimp only at hSw); go_simp) <;> try with_reducible rfl
  simp only [Act.put, List.setIfInBounds_toArray, List.set_cons_zero, List.set_cons_succ]
  refine wpAnyH_take (i := 21) (v := ?v118) (by simp only [List.getElem?_toArray, List.getElem?_cons_zero, List.getElem?_cons_succ]; rfl) (by kernel_rfl) (by kernel_rfl) (by kernel_rfl) (fun _ _ _ h => h) (Or.inl ⟨by rfl, ?hy118⟩) (by assumption) ?rest118
  case hy118 => (intro w hSw; (try dsimp only at hSw); go_simp) <;> try with_reducible rfl
  simp only [Act.put, List.setIfInBounds_toArray, List.set_cons_zero, List.set_cons_succ]
  refine wpAnyH_done (by kernel_rfl) (NoPanic.normal ?_) _
  have HP10 := hid (HP9.out.ext Hd4.out)
  clear hHeld HSS Hd0 Hd1 Hd2 Hd3 Hd4 Hm Ht HN HFa HP9
  go_wp2_with fail
  go_roundw
  case rel => exact ⟨k + 1, x', vM', G', U', Ft', Fr', by omega, by go_num, HP10.out⟩
  case measure => simp [intOf]; omega
end Go.Proofs.Lx

namespace Go.Proofs.Lx
open Go Go.RowKit Go.ChangeShapes Go.WideShapes Go.ChangeAt Go.Joins Go.Deep
set_option linter.unusedSimpArgs false
set_option linter.unusedVariables false

instance : Inhabited { y : Nat // y < 256 } := ⟨⟨0, by decide⟩⟩
section
variable {H : Type} {enc : TypeId × Value → H} {P : Program} {w : World} {base : Nat} {held : Bool}
/-- Each part is within the form's reach. -/
def Fits (P : Program) (t : TypeId) (d : DataW H) : Prop := ∀ n ∈ d.weights P t, n ≤ reachBytes
theorem weightsAll_mem {e : TypeId} {d : DataW H} : ∀ {ds : List (DataW H)}, d ∈ ds → ∀ n ∈ d.weights P e, n ∈ DataW.weightsAll P e ds
 | [], h => by simp at h
 | x :: ds, h => fun n hn => by
  rw [DataW.weightsAll, List.mem_append]
  rcases List.mem_cons.1 h with rfl | h
  ·exact .inl hn
  ·exact .inr (weightsAll_mem h n hn)
theorem Fits.elems {t e : TypeId} {es sp : List (DataW H)} (ht : P.underlying t = some (.slice e)) (h : Fits P t (.slice es sp)) :
  (es.length + sp.length) * P.bytesOf e ≤ reachBytes ∧ ∀ d ∈ es, Fits P e d := by
 have hw : (DataW.slice es sp).weights P t = (es.length + sp.length) * P.bytesOf e :: (DataW.weightsAll P e es ++ DataW.weightsAll P e sp) := by simp [DataW.weights, ht]
 unfold Fits at h
 rw [hw] at h
 exact ⟨h _ List.mem_cons_self, fun d hd n hn => h n (List.mem_cons_of_mem _ (List.mem_append_left _ (weightsAll_mem hd n hn)))⟩
theorem each_mem : ∀ {ts : List TypeId} {ds : List (DataW H)} {j : Nat} {t : TypeId} {d : DataW H}, ts[j]? = some t → ds[j]? = some d → ∀ n ∈ d.weights P t, n ∈ DataW.weightsEach P ts ds
 | [], _, _, _, _, h, _ => by simp at h
 | _ :: _, [], _, _, _, _, h => by simp at h
 | t0 :: ts, d0 :: ds, j, t, d, ht, hd => fun n hn => by
  rw [DataW.weightsEach, List.mem_append]
  match j, ht, hd with
  | 0, ht, hd =>
   simp at ht hd; subst ht; subst hd
   exact .inl hn
  | j + 1, ht, hd => exact .inr (each_mem (j := j) (by simpa using ht) (by simpa using hd) n hn)
theorem Fits.part {t u : TypeId} {fs : Array Field} {ps : List (DataW H)} {d : DataW H} (ht : P.underlying t = some (.struct fs)) (h : Fits P t (.agg ps)) (j : Nat) (hj : (fs.toList.map (·.type))[j]? = some u) (hd : ps[j]? = some d) : Fits P u d := by
 have hw : (DataW.agg ps).weights P t = DataW.weightsEach P (fs.toList.map (·.type)) ps := by simp [DataW.weights, ht]
 unfold Fits at h
 rw [hw] at h
 exact fun n hn => h n (each_mem hj hd n hn)
theorem Fits.arg {ts : List TypeId} {ds : List (DataW H)} (h : (DataW.weightsEach P ts ds).all (· ≤ reachBytes) = true) (j : Nat) {t : TypeId} {d : DataW H} (ht : ts[j]? = some t) (hd : ds[j]? = some d) : Fits P t d := fun n hn => by
 have := List.all_eq_true.1 h n (each_mem ht hd n hn)
 simpa using this

end
end Go.Proofs.Lx
