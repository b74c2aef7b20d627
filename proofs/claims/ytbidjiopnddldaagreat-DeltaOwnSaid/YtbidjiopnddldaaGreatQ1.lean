/- Parts of the proof: Am, An, Rw, Rt, Rs, Rv. Law 19: engines that no call made. -/
import Derived.Test.YtbidjiopnddldaaGreatP34
import Derived.Test.YtbidjiopnddldaaGreatP45
import Derived.Deep.RegionHeld3
import Derived.Test.YtbidjiopnddldaaGreatP1
import Derived.SizedLaws
import Derived.Lib.SmallJoins
import Derived.ProofKit
import Derived.OpenShut
import Derived.Test.YtbidjiopnddldaaGreatRows
import Derived.Test.YtbidjiopnddldaaGreatP14
namespace Go.Proofs.Lx
open Go Go.RowKit Go.Proofs.Tj
set_option linter.unusedVariables false
set_option linter.unusedSimpArgs false
/-- It says that no call made it. -/
def Dead (w : World) (v : Value) : Prop := Calls Tryz.prog 38 #[v] w (Ret fun r w' => r = .bool true ∧ w = w')
theorem dead_nil (w : World) : Dead w (.pointer none) := by
 unfold Dead
 refine post_gen fun Q HQ => ?_
 go_enter Tryz.func38, Tryz.ntmps38
 go_wp2
 go_ret
 exact Fin HQ ⟨rfl, rfl⟩
theorem dead_zero (w : World) (z : Nat) (h : w.cell? ⟨z, 0, none⟩ = some (.bool false)) : Dead w (.pointer (some ⟨z, 0, none⟩)) := by
 unfold Dead
 refine post_gen fun Q HQ => ?_
 go_enter Tryz.func38, Tryz.ntmps38
 go_wp2
 go_ret
 exact Fin HQ ⟨rfl, rfl⟩
section
variable (w : World) (v : Value) (h : Dead w v)
include h
theorem dead_add (q : Int) : Calls Tryz.prog 14 #[v, .int .i64 q] w (Ret fun r w' => r = .tuple #[.slice none 0 0, .int .i64 2] ∧ w = w') := by
 have H := hid h
 unfold Dead at H
 clear h
 refine post_gen fun Q HQ => ?_
 go_enter Tryz.func14, Tryz.ntmps14
 go_wp2_with (go_at_call 38; refine H.out.mono ?_; rintro e w1 ⟨_, rfl, rfl, rfl⟩)
 go_ret2
 exact Fin HQ ⟨rfl, rfl⟩
theorem dead_drop (q : Int) : Calls Tryz.prog 16 #[v, .int .i64 q] w (Ret fun r w' => r = .tuple #[.slice none 0 0, .int .i64 2] ∧ w = w') := by
 have H := hid h
 unfold Dead at H
 clear h
 refine post_gen fun Q HQ => ?_
 go_enter Tryz.func16, Tryz.ntmps16
 go_wp2_with (go_at_call 38; refine H.out.mono ?_; rintro e w1 ⟨_, rfl, rfl, rfl⟩)
 go_ret2
 exact Fin HQ ⟨rfl, rfl⟩
theorem dead_set (u : Value) : Calls Tryz.prog 18 #[v, u] w (Ret fun r w' => r = .tuple #[.slice none 0 0, .int .i64 2] ∧ w = w') := by
 have H := hid h
 unfold Dead at H
 clear h
 refine post_gen fun Q HQ => ?_
 go_enter Tryz.func18, Tryz.ntmps18
 go_wp2_with (go_at_call 38; refine H.out.mono ?_; rintro e w1 ⟨_, rfl, rfl, rfl⟩)
 go_ret2
 exact Fin HQ ⟨rfl, rfl⟩
theorem dead_marks : Calls Tryz.prog 25 #[v] w (Ret fun r w' => r = .slice none 0 0 ∧ w = w') := by
 have H := hid h
 unfold Dead at H
 clear h
 refine post_gen fun Q HQ => ?_
 go_enter Tryz.func25, Tryz.ntmps25
 go_wp2_with (go_at_call 38; refine H.out.mono ?_; rintro e w1 ⟨_, rfl, rfl, rfl⟩)
 go_ret
 exact Fin HQ ⟨rfl, rfl⟩
theorem dead_facts : Calls Tryz.prog 28 #[v] w (Ret fun r w' => r = .slice none 0 0 ∧ w = w') := by
 have H := hid h
 unfold Dead at H
 clear h
 refine post_gen fun Q HQ => ?_
 go_enter Tryz.func28, Tryz.ntmps28
 go_wp2_with (go_at_call 38; refine H.out.mono ?_; rintro e w1 ⟨_, rfl, rfl, rfl⟩)
 go_ret
 exact Fin HQ ⟨rfl, rfl⟩
theorem dead_touched : Calls Tryz.prog 11 #[v] w (Ret fun r w' => r = .slice none 0 0 ∧ w = w') := by
 have H := hid h
 unfold Dead at H
 clear h
 refine post_gen fun Q HQ => ?_
 go_enter Tryz.func11, Tryz.ntmps11
 go_wp2_with (go_at_call 38; refine H.out.mono ?_; rintro e w1 ⟨_, rfl, rfl, rfl⟩)
 go_ret
 exact Fin HQ ⟨rfl, rfl⟩
theorem dead_copy : Calls Tryz.prog 26 #[v] w (Ret fun r w' => r = .pointer none ∧ w = w') := by
 have H := hid h
 unfold Dead at H
 clear h
 refine post_gen fun Q HQ => ?_
 go_enter Tryz.func26, Tryz.ntmps26
 go_wp2_with (go_at_call 38; refine H.out.mono ?_; rintro e w1 ⟨_, rfl, rfl, rfl⟩)
 go_ret
 exact Fin HQ ⟨rfl, rfl⟩
set_option maxRecDepth 1000000 in
set_option maxHeartbeats 6400000 in
theorem nothing_any : Calls Tryz.prog 32 #[v] w (Ret fun r w' => r = .bool true ∧ w = w') := by
 have Hnum := hid num19_any
 have Ha := hid (dead_add w v h 0)
 have Hd := hid (dead_drop w v h 0)
 have Hs := hid (dead_set w v h (.slice none 0 0))
 have Hm := hid (dead_marks w v h)
 have Hf := hid (dead_facts w v h)
 have Ht := hid (dead_touched w v h)
 have Hc := hid (dead_copy w v h)
 clear h
 refine post_gen fun Q HQ => ?_
 go_enter Tryz.func32, Tryz.ntmps32
 go_wp2_with (first | (go_at_call 10; refine (Hnum.out _ _).mono ?_; rintro e w' ⟨_, rfl, rfl, hw9⟩; rw [hw9]; clear hw9 w') | (go_at_call 14; refine Ha.out.mono ?_; rintro e w1 ⟨_, rfl, rfl, rfl⟩) | (go_at_call 16; refine Hd.out.mono ?_; rintro e w1 ⟨_, rfl, rfl, rfl⟩) | (go_at_call 18; refine Hs.out.mono ?_; rintro e w1 ⟨_, rfl, rfl, rfl⟩) | (go_at_call 25; refine Hm.out.mono ?_; rintro e w1 ⟨_, rfl, rfl, rfl⟩) | (go_at_call 28; refine Hf.out.mono ?_; rintro e w1 ⟨_, rfl, rfl, rfl⟩) | (go_at_call 11; refine Ht.out.mono ?_; rintro e w1 ⟨_, rfl, rfl, rfl⟩) | (go_at_call 26; refine Hc.out.mono ?_; rintro e w1 ⟨_, rfl, rfl, rfl⟩))
 go_ret
 exact Fin HQ ⟨by simp, rfl⟩
end
end Go.Proofs.Lx

namespace Go.Proofs.Lx
open Go Go.RowKit Go.Proofs.Tj
set_option linter.unusedVariables false
set_option linter.unusedSimpArgs false
theorem given_nil3 (T : Th) : givenErr T [] = checkErr T := by
 by_cases h : checkErr T = 0
 ·rw [h]; exact givenErr_ok.2 ⟨(checkErr_ok T).1 h, rfl⟩
 ·unfold givenErr; rw [if_neg h]
/-- A row's cell can be written. -/
theorem own_wr {w : World} {b e n c : Nat} {A : Option Addr} {xs : List Value} (h : w.ownsRow b e 1 (.slice A n c) n xs) {i : Nat} (hi : i < n) : ∃ g u, A = some ⟨g, 0, none⟩ ∧ b ≤ g ∧ w.cell? ⟨g, i, none⟩ = some u ∧ w.frozen? ⟨g, i, none⟩ = false := by
 rcases h.2 with ⟨_, h0⟩ | ⟨g, cap, cur, e1, hb, h3, _⟩
 ·omega
 ·injection e1 with e1
  subst e1
  have hl : xs.length = n * 1 := h.1
  have hxi : i < xs.length := by omega
  exact ⟨g, xs[i], rfl, hb, by rw [h.cellAt i (by omega)]; exact List.getElem?_eq_getElem hxi, h.frozenAt i⟩
set_option maxRecDepth 1000000 in
set_option maxHeartbeats 100000000 in
theorem lawDOwn_any (w : World) (V vl : Value) (T : Th) (L : List Rule) (hT : RdTh w V T) (hL : RdRs w vl L) (h8 : ∀ r ∈ L, r.body.length * 8 ≤ 140737488355328) :
  Calls Tryz.prog 6 #[V, vl] w (Ret fun v w' => v = .bool true ∧ Below w.heap.size w w') := by
 have HT := hid hT
 have HL := hid hL
 have H8 := hid h8
 have Hnum := hid num19_any
 obtain ⟨vF, vR, vB, rfl, _, _, _⟩ := hT
 obtain ⟨Al, cl, rfl, hcl, hll, hrl⟩ := hL
 have Hrl := hid hrl
 have Hll := hid hll
 clear hrl h8 hll
 obtain ⟨W1, HW1⟩ : ∃ W1, Hid (w.alloc (.cells #[.int .i64 T.lits, vF, vR, vB] 25) = W1) := ⟨_, hid rfl⟩
 have Hb1 : Hid (Below w.heap.size w W1) := hid (by rw [← HW1.out]; exact ext_alloc _ _)
 have Hbox : Hid (∀ W, Below W1.heap.size W1 W → W.cell? ⟨w.heap.size, 0, none⟩ = some (.int .i64 T.lits) ∧ W.cell? ⟨w.heap.size, 1, none⟩ = some vF ∧ W.cell? ⟨w.heap.size, 2, none⟩ = some vR ∧ W.cell? ⟨w.heap.size, 3, none⟩ = some vB) := hid fun W h => by rw [← HW1.out] at h; exact box4 h
 refine post_gen fun Q HQ => ?_
 go_enter Tryz.func6, Tryz.ntmps6
 go_wp2_with fail
 rw [HW1.out]
 refine (alive19_any W1).mono ?_
 rintro e w2 ⟨_, rfl, rfl, hb2⟩
 obtain ⟨a0, a1, a2, a3⟩ := Hbox.out w2 hb2
 have Hb12 := hid hb2
 have Hb2 := hid (ext_trans Hb1.out hb2)
 have Hnew := hid (newD_any w2 _ T (HT.out.ext Hb2.out))
 rw [given_nil3] at Hnew
 clear hb2 HW1
 go_wp2_with fail
 refine Hnew.out.mono ?_
 rintro e w3 ⟨_, rfl, hb3, hcase⟩
 have Hb3 := hid hb3
 clear a0 a1 a2 a3 hb3 Hnew
 rcases hcase with ⟨he, rfl⟩ | ⟨he, x, vM, rfl, heng⟩
 ·generalize checkErr T = g at *
  have hne : (g == 0) = false := by simp [he]
  obtain ⟨W5, HW5⟩ : ∃ W5, Hid (w3.alloc (.cells #[.pointer none] 28) = W5) := ⟨_, hid rfl⟩
  have Hb5 : Hid (Below w3.heap.size w3 W5) := hid (by rw [← HW5.out]; exact ext_alloc _ _)
  go_wp2_with (go_at_call 10; refine (Hnum.out _ _).mono ?_; rintro e w' ⟨_, rfl, rfl, hw9⟩; rw [hw9]; clear hw9 w')
  rw [HW5.out]
  obtain ⟨WZ, HWZ⟩ : ∃ WZ, Hid (W5.alloc (.cells #[.bool false, .int .i64 0, .slice none 0 0, .slice none 0 0, .slice none 0 0, .slice none 0 0, .slice none 0 0, .slice none 0 0] 72) = WZ) := ⟨_, hid rfl⟩
  have hz0 : WZ.heap[w3.heap.size + 1]? = some (.cells #[.bool false, .int .i64 0, .slice none 0 0, .slice none 0 0, .slice none 0 0, .slice none 0 0, .slice none 0 0, .slice none 0 0] 72 (0, 0)) := by rw [← HWZ.out, show w3.heap.size + 1 = W5.heap.size from by rw [← HW5.out]; simp]; exact heap_alloc_new _ _
  have hzb : Below W5.heap.size W5 WZ := by rw [← HWZ.out]; exact ext_alloc _ _
  rw [HWZ.out]
  refine (nothing_any WZ _ (dead_nil WZ)).mono ?_
  rintro e wp ⟨_, rfl, rfl, hwp⟩
  rw [← hwp]
  clear hwp wp
  have HZ0 := hid hz0
  clear hz0
  go_wp2_with fail
  refine (nothing_any WZ _ (dead_zero WZ _ (cell_of_row _ _ 0 _ _ _ HZ0.out))).mono ?_
  rintro e wp ⟨_, rfl, rfl, hwp⟩
  rw [← hwp]
  clear hwp wp
  go_wp2_with fail
  go_ret
  exact Fin HQ ⟨by simp, ext_trans Hb2.out (ext_trans Hb3.out (ext_trans Hb5.out hzb))⟩
 have Hwf := hid ((checkErr_ok T).1 he)
 have He := hid he
 have Heng := hid heng
 clear heng he
 obtain ⟨W5, HW5⟩ : ∃ W5, Hid (w3.alloc (.cells #[.pointer (some ⟨x, 0, none⟩)] 28) = W5) := ⟨_, hid rfl⟩
 have Hb5 : Hid (Below w3.heap.size w3 W5) := hid (by rw [← HW5.out]; exact ext_alloc _ _)
 have Hb15 := hid (ext_trans Hb12.out (ext_trans Hb3.out Hb5.out))
 have Hnew2 := hid (new19_any W5 _ T (HT.out.ext (ext_trans Hb1.out Hb15.out)))
 have Hs5 : Hid (W5.heap.size = w3.heap.size + 1) := hid (by rw [← HW5.out]; simp)
 have Hbxb : Hid (W5.heap[w3.heap.size]? = some (.cells #[.pointer (some ⟨x, 0, none⟩)] 28 (0, 0))) := hid (by rw [← HW5.out]; exact heap_alloc_new w3 _)
 obtain ⟨a0, a1, a2, a3⟩ := Hbox.out W5 Hb15.out
 have c5 := cell_of_row W5 w3.heap.size 0 _ _ _ Hbxb.out
 rw [← HW5.out] at a0 a1 a2 a3 c5
 go_wp2_with (go_at_call 10; refine (Hnum.out _ _).mono ?_; rintro e w' ⟨_, rfl, rfl, hw9⟩; rw [hw9]; clear hw9 w')
 rw [HW5.out]
 refine Hnew2.out.mono ?_
 rintro e w6 ⟨_, rfl, hb6, ⟨h9, _⟩ | ⟨_, b, rfl, hr⟩⟩
 ·exact absurd He.out h9
 have Hb6 := hid hb6
 have HP := hid (show PM w w6 w3.heap.size x vM b T [] [] [] (fun g => w2.heap.size ≤ g ∧ g < w3.heap.size) (fun g => W5.heap.size ≤ g ∧ g < w6.heap.size) from by
  have s1 := Hb1.out.size
  have s2 := Hb2.out.size
  have s3 := Hb3.out.size
  have s5 := Hs5.out
  have hx := Heng.out.fx
  have hm := Heng.out.fm
  refine ⟨⟨(Heng.out.ext Hb5.out).ext hb6, rfl, fun g hg => by omega, ext_trans Hb1.out (ext_trans Hb15.out hb6)⟩, hr, fun g hg => by omega, (hb6.block _ (by omega)).trans Hbxb.out, by omega, fun g hg => ⟨by omega, fun e => by have := (hm g e).1; omega⟩, fun h9 => ?_, fun h9 => by omega, fun h9 => by omega⟩
  have := hr.fb; omega)
 clear hb6 hr a0 a1 a2 a3 c5 Hnew2 HW5 Hbxb
 generalize (fun g => w2.heap.size ≤ g ∧ g < w3.heap.size) = Ft at HP
 generalize (fun g => W5.heap.size ≤ g ∧ g < w6.heap.size) = Fr at HP
 clear Heng Hs5 Hbox Hb15 Hb6 Hb5 Hb3 Hb12
 generalize w3.heap.size = bx at *
 generalize hn : L.length = n at *
 have Hn := hid hn
 clear hn
 go_wp2_with fail
 go_loopw [9] (fun v9 wr => ∃ (k x : Nat) (vM : Value) (G U : List Int) (Ft Fr : Nat → Prop), k ≤ n ∧ v9 = .int .i64 (k : Int) ∧ PM w wr bx x vM b T G G U Ft Fr) (fun v9 _ => n - (intOf v9).toNat)
 case atStart => exact ⟨0, x, vM, [], _, Ft, Fr, Nat.zero_le _, rfl, HP.out⟩
 case round =>
  clear HP
  obtain ⟨k, x, vM, G, U, Ft, Fr, hk, rfl, hp⟩ := hrel
  have HP := hid hp
  clear hp
  have hnb : n ≤ 140737488355328 := Hll.out
  by_cases hlt : k < n
  ·have hx : k < L.length := by rw [Hn.out]; exact hlt
   obtain ⟨ad, B, cB, rfl, h0, h1, h2, h3, h4, h5⟩ := Hrl.out.atRule hx
   have hbd : RdI w (.slice B L[k].body.length cB) L[k].body := ⟨B, cB, rfl, h3, h4, h5⟩
   have Hd := hid (does_any w _ bx x b vM _ T G U L[k].body Ft Fr L[k].kind L[k].head HP.out Hwf.out hbd (H8.out _ (List.getElem_mem hx)))
   replace h0 := cell_ext HP.out.ex.bel h0
   replace h1 := cell_ext HP.out.ex.bel h1
   replace h2 := cell_ext HP.out.ex.bel h2
   unfold DoesEnd at Hd
   generalize L[k].kind = what at *
   generalize L[k].head = q at *
   generalize L[k].body.length = nA at *
   clear h3 h4 h5 hbd hx
   go_wp2_with fail
   refine Hd.out.mono ?_
   rintro e w9 ⟨_, rfl, vd, x', vM', G', U', Ft', Fr', rfl, hp9⟩
   have HP9 := hid hp9
   clear hp9 Hd HP h0 h1 h2
   go_wp2_with fail
   go_roundw
   case rel => exact ⟨k + 1, x', vM', G', U', Ft', Fr', by omega, by go_num, HP9.out⟩
   case measure => simp [intOf]; omega
  obtain rfl : k = n := by omega
  clear hlt hk hnb
  have Hsm := hid HP.out.ex.e.sm
  go_wp2_with fail
  have HSa : Hid (∀ W : World, Below wr.heap.size wr W → (fun w' : World => w'.cell? ⟨bx, 0, none⟩ = some (.pointer (some ⟨x, 0, none⟩))) W) := hid fun W hW => cell_ext hW HP.out.boxc
  refine wp_region_noPanic ?_
  refine wp_region_held_drew (S := (fun w' : World => w'.cell? ⟨bx, 0, none⟩ = some (.pointer (some ⟨x, 0, none⟩)))) (by kernel_rfl) (HSa.out _ (ext_refl wr).drew) (fun hHeld => ?_)
  obtain ⟨W0a, hW0⟩ : ∃ W, W = wr.drew := ⟨_, rfl⟩
  have Ha0 : Hid (Below wr.heap.size wr W0a) := hid (by rw [hW0]; exact (ext_refl wr).drew)
  rw [← hW0]
  clear hW0 hHeld
  have hHeld := HSa.out _ Ha0.out
  refine wpAnyH_take (i := 0) (v := ?v1) (by simp only [List.getElem?_toArray, List.getElem?_cons_zero, List.getElem?_cons_succ]; rfl) (by kernel_rfl) (by kernel_rfl) (by kernel_rfl) (fun _ _ _ h => h) (Or.inl ⟨by rfl, ?hy1⟩) (by assumption) ?rest1
  case hy1 => (intro w hSw; (try dsimp only at hSw); go_simp) <;> try with_reducible rfl
  simp only [Act.put, List.setIfInBounds_toArray, List.set_cons_zero, List.set_cons_succ]
  refine wpAnyH_take (i := 2) (v := ?v2) (by simp only [List.getElem?_toArray, List.getElem?_cons_zero, List.getElem?_cons_succ]; rfl) (by kernel_rfl) (by kernel_rfl) (by kernel_rfl) (fun _ _ _ h => h) (Or.inl ⟨by rfl, ?hy2⟩) (by assumption) ?rest2
  case hy2 => (intro w hSw; (try dsimp only at hSw); go_simp) <;> try with_reducible rfl
  simp only [Act.put, List.setIfInBounds_toArray, List.set_cons_zero, List.set_cons_succ]
  refine wpAnyH_take (i := 4) (v := ?v3) (by simp only [List.getElem?_toArray, List.getElem?_cons_zero, List.getElem?_cons_succ]; rfl) (by kernel_rfl) (by kernel_rfl) (by kernel_rfl) (fun _ _ _ h => h) (Or.inl ⟨by rfl, ?hy3⟩) (by assumption) ?rest3
  case hy3 => (intro w hSw; (try dsimp only at hSw); go_simp) <;> try with_reducible rfl
  simp only [Act.put, List.setIfInBounds_toArray, List.set_cons_zero, List.set_cons_succ]
  refine wpAnyH_ready (rs := [1]) (by kernel_rfl) (by simp) ?_
  refine AllReadyH.cons (by simp only [List.getElem?_toArray, List.getElem?_cons_zero, List.getElem?_cons_succ]; rfl) (fun K9 hK9 => ?_) ?_
  rotate_left
  exact AllReadyH.nil
  go_simp
  refine (marksD_any W0a x vM T G _ U Ft (HP.out.ex.e.ext Ha0.out)).mono ?_
  rintro e W1a ⟨vam, rfl, ho, hb⟩
  obtain ⟨Aam, cam, rfl⟩ := own_form0 ho
  have Hoam := hid ho
  have Hbam := hid hb
  have Ha1 := hid (ext_trans Ha0.out hb)
  clear ho hb
  go_simp
  refine hK9.out _ _ ?_ (fun hHeld => ?_)
  ·exact HSa.out _ Ha1.out
  clear hK9 K9
  try simp only [Act.put, List.setIfInBounds_toArray, List.set_cons_zero, List.set_cons_succ]
  refine wpAnyH_ready (rs := [3]) (by kernel_rfl) (by simp) ?_
  refine AllReadyH.cons (by simp only [List.getElem?_toArray, List.getElem?_cons_zero, List.getElem?_cons_succ]; rfl) (fun K9 hK9 => ?_) ?_
  rotate_left
  exact AllReadyH.nil
  go_simp
  refine (factsD_any W1a x vM T G _ U Ft (HP.out.ex.e.ext Ha1.out)).mono ?_
  rintro e W2a ⟨vaf, rfl, ho, hb⟩
  obtain ⟨Aaf, caf, rfl⟩ := own_form0 ho
  have Hoaf := hid ho
  have Hbaf := hid hb
  have Ha2 := hid (ext_trans Ha1.out hb)
  clear ho hb
  go_simp
  refine hK9.out _ _ ?_ (fun hHeld => ?_)
  ·exact HSa.out _ Ha2.out
  clear hK9 K9
  try simp only [Act.put, List.setIfInBounds_toArray, List.set_cons_zero, List.set_cons_succ]
  refine wpAnyH_ready (rs := [5]) (by kernel_rfl) (by simp) ?_
  refine AllReadyH.cons (by simp only [List.getElem?_toArray, List.getElem?_cons_zero, List.getElem?_cons_succ]; rfl) (fun K9 hK9 => ?_) ?_
  rotate_left
  exact AllReadyH.nil
  go_simp
  refine (touchedD_any W2a x vM T G _ U Ft (HP.out.ex.e.ext Ha2.out)).mono ?_
  rintro e W3a ⟨vat, rfl, ho, hb⟩
  obtain ⟨Aat, cat, rfl⟩ := own_form0 ho
  have Hoat := hid ho
  have Hbat := hid hb
  have Ha3 := hid (ext_trans Ha2.out hb)
  clear ho hb
  go_simp
  refine hK9.out _ _ ?_ (fun hHeld => ?_)
  ·exact HSa.out _ Ha3.out
  clear hK9 K9
  try simp only [Act.put, List.setIfInBounds_toArray, List.set_cons_zero, List.set_cons_succ]
  refine wpAnyH_take (i := 6) (v := ?v4) (by simp only [List.getElem?_toArray, List.getElem?_cons_zero, List.getElem?_cons_succ]; rfl) (by kernel_rfl) (by kernel_rfl) (by kernel_rfl) (fun _ _ _ h => h) (Or.inl ⟨by rfl, ?hy4⟩) (by assumption) ?rest4
  case hy4 => (intro w hSw; (try dsimp only at hSw); go_simp) <;> try with_reducible rfl
  simp only [Act.put, List.setIfInBounds_toArray, List.set_cons_zero, List.set_cons_succ]
  refine wpAnyH_take (i := 7) (v := ?v5) (by simp only [List.getElem?_toArray, List.getElem?_cons_zero, List.getElem?_cons_succ]; rfl) (by kernel_rfl) (by kernel_rfl) (by kernel_rfl) (fun _ _ _ h => h) (Or.inl ⟨by rfl, ?hy5⟩) (by assumption) ?rest5
  case hy5 => (intro w hSw; (try dsimp only at hSw); go_simp) <;> try with_reducible rfl
  simp only [Act.put, List.setIfInBounds_toArray, List.set_cons_zero, List.set_cons_succ]
  refine wpAnyH_take (i := 8) (v := ?v6) (by simp only [List.getElem?_toArray, List.getElem?_cons_zero, List.getElem?_cons_succ]; rfl) (by kernel_rfl) (by kernel_rfl) (by kernel_rfl) (fun _ _ _ h => h) (Or.inl ⟨by rfl, ?hy6⟩) (by assumption) ?rest6
  case hy6 => (intro w hSw; (try dsimp only at hSw); go_simp) <;> try with_reducible rfl
  simp only [Act.put, List.setIfInBounds_toArray, List.set_cons_zero, List.set_cons_succ]
  refine wpAnyH_done (by kernel_rfl) (NoPanic.normal ?_) _
  have HPx := hid (HP.out.ext Ha3.out)
  clear hHeld
  go_wp2_with fail
  have HSd : Hid (∀ W : World, Below W3a.heap.size W3a W → (fun w' : World => w'.cell? ⟨bx, 0, none⟩ = some (.pointer (some ⟨x, 0, none⟩))) W) := hid fun W hW => cell_ext hW HPx.out.boxc
  refine wp_region_noPanic ?_
  refine wp_region_held_drew (S := (fun w' : World => w'.cell? ⟨bx, 0, none⟩ = some (.pointer (some ⟨x, 0, none⟩)))) (by kernel_rfl) (HSd.out _ (ext_refl W3a).drew) (fun hHeld => ?_)
  obtain ⟨W0d, hW0⟩ : ∃ W, W = W3a.drew := ⟨_, rfl⟩
  have Hd0 : Hid (Below W3a.heap.size W3a W0d) := hid (by rw [hW0]; exact (ext_refl W3a).drew)
  rw [← hW0]
  clear hW0 hHeld
  have hHeld := HSd.out _ Hd0.out
  refine wpAnyH_take (i := 0) (v := ?v301) (by simp only [List.getElem?_toArray, List.getElem?_cons_zero, List.getElem?_cons_succ]; rfl) (by kernel_rfl) (by kernel_rfl) (by kernel_rfl) (fun _ _ _ h => h) (Or.inl ⟨by rfl, ?hy301⟩) (by assumption) ?rest301
  case hy301 => (intro w hSw; (try dsimp only at hSw); go_simp) <;> try with_reducible rfl
  simp only [Act.put, List.setIfInBounds_toArray, List.set_cons_zero, List.set_cons_succ]
  refine wpAnyH_take (i := 2) (v := ?v302) (by simp only [List.getElem?_toArray, List.getElem?_cons_zero, List.getElem?_cons_succ]; rfl) (by kernel_rfl) (by kernel_rfl) (by kernel_rfl) (fun _ _ _ h => h) (Or.inl ⟨by rfl, ?hy302⟩) (by assumption) ?rest302
  case hy302 => (intro w hSw; (try dsimp only at hSw); go_simp) <;> try with_reducible rfl
  simp only [Act.put, List.setIfInBounds_toArray, List.set_cons_zero, List.set_cons_succ]
  refine wpAnyH_take (i := 4) (v := ?v303) (by simp only [List.getElem?_toArray, List.getElem?_cons_zero, List.getElem?_cons_succ]; rfl) (by kernel_rfl) (by kernel_rfl) (by kernel_rfl) (fun _ _ _ h => h) (Or.inl ⟨by rfl, ?hy303⟩) (by assumption) ?rest303
  case hy303 => (intro w hSw; (try dsimp only at hSw); go_simp) <;> try with_reducible rfl
  simp only [Act.put, List.setIfInBounds_toArray, List.set_cons_zero, List.set_cons_succ]
  refine wpAnyH_ready (rs := [1]) (by kernel_rfl) (by simp) ?_
  refine AllReadyH.cons (by simp only [List.getElem?_toArray, List.getElem?_cons_zero, List.getElem?_cons_succ]; rfl) (fun K9 hK9 => ?_) ?_
  rotate_left
  exact AllReadyH.nil
  go_simp
  refine (marksD_any W0d x vM T G _ U Ft (HPx.out.ex.e.ext Hd0.out)).mono ?_
  rintro e W1d ⟨vdm, rfl, ho, hb⟩
  obtain ⟨Adm, cdm, rfl⟩ := own_form0 ho
  have Hodm := hid ho
  have Hbdm := hid hb
  have Hd1 := hid (ext_trans Hd0.out hb)
  clear ho hb
  go_simp
  refine hK9.out _ _ ?_ (fun hHeld => ?_)
  ·exact HSd.out _ Hd1.out
  clear hK9 K9
  try simp only [Act.put, List.setIfInBounds_toArray, List.set_cons_zero, List.set_cons_succ]
  refine wpAnyH_ready (rs := [3]) (by kernel_rfl) (by simp) ?_
  refine AllReadyH.cons (by simp only [List.getElem?_toArray, List.getElem?_cons_zero, List.getElem?_cons_succ]; rfl) (fun K9 hK9 => ?_) ?_
  rotate_left
  exact AllReadyH.nil
  go_simp
  refine (factsD_any W1d x vM T G _ U Ft (HPx.out.ex.e.ext Hd1.out)).mono ?_
  rintro e W2d ⟨vdf, rfl, ho, hb⟩
  obtain ⟨Adf, cdf, rfl⟩ := own_form0 ho
  have Hodf := hid ho
  have Hbdf := hid hb
  have Hd2 := hid (ext_trans Hd1.out hb)
  clear ho hb
  go_simp
  refine hK9.out _ _ ?_ (fun hHeld => ?_)
  ·exact HSd.out _ Hd2.out
  clear hK9 K9
  try simp only [Act.put, List.setIfInBounds_toArray, List.set_cons_zero, List.set_cons_succ]
  refine wpAnyH_ready (rs := [5]) (by kernel_rfl) (by simp) ?_
  refine AllReadyH.cons (by simp only [List.getElem?_toArray, List.getElem?_cons_zero, List.getElem?_cons_succ]; rfl) (fun K9 hK9 => ?_) ?_
  rotate_left
  exact AllReadyH.nil
  go_simp
  refine (touchedD_any W2d x vM T G _ U Ft (HPx.out.ex.e.ext Hd2.out)).mono ?_
  rintro e W3d ⟨vdt, rfl, ho, hb⟩
  obtain ⟨Adt, cdt, rfl⟩ := own_form0 ho
  have Hodt := hid ho
  have Hbdt := hid hb
  have Hd3 := hid (ext_trans Hd2.out hb)
  clear ho hb
  go_simp
  refine hK9.out _ _ ?_ (fun hHeld => ?_)
  ·exact HSd.out _ Hd3.out
  clear hK9 K9
  try simp only [Act.put, List.setIfInBounds_toArray, List.set_cons_zero, List.set_cons_succ]
  refine wpAnyH_take (i := 6) (v := ?v304) (by simp only [List.getElem?_toArray, List.getElem?_cons_zero, List.getElem?_cons_succ]; rfl) (by kernel_rfl) (by kernel_rfl) (by kernel_rfl) (fun _ _ _ h => h) (Or.inl ⟨by rfl, ?hy304⟩) (by assumption) ?rest304
  case hy304 => (intro w hSw; (try dsimp only at hSw); go_simp) <;> try with_reducible rfl
  simp only [Act.put, List.setIfInBounds_toArray, List.set_cons_zero, List.set_cons_succ]
  refine wpAnyH_take (i := 7) (v := ?v305) (by simp only [List.getElem?_toArray, List.getElem?_cons_zero, List.getElem?_cons_succ]; rfl) (by kernel_rfl) (by kernel_rfl) (by kernel_rfl) (fun _ _ _ h => h) (Or.inl ⟨by rfl, ?hy305⟩) (by assumption) ?rest305
  case hy305 => (intro w hSw; (try dsimp only at hSw); go_simp) <;> try with_reducible rfl
  simp only [Act.put, List.setIfInBounds_toArray, List.set_cons_zero, List.set_cons_succ]
  refine wpAnyH_take (i := 8) (v := ?v306) (by simp only [List.getElem?_toArray, List.getElem?_cons_zero, List.getElem?_cons_succ]; rfl) (by kernel_rfl) (by kernel_rfl) (by kernel_rfl) (fun _ _ _ h => h) (Or.inl ⟨by rfl, ?hy306⟩) (by assumption) ?rest306
  case hy306 => (intro w hSw; (try dsimp only at hSw); go_simp) <;> try with_reducible rfl
  simp only [Act.put, List.setIfInBounds_toArray, List.set_cons_zero, List.set_cons_succ]
  refine wpAnyH_done (by kernel_rfl) (NoPanic.normal ?_) _
  clear hHeld HSd
  have Ham0 := hid (own_ext (own_ext Hoam.out Hbaf.out) Hbat.out)
  have Haf0 := hid (own_ext Hoaf.out Hbat.out)
  have Hat0 := hid Hoat.out
  have HPd := hid (HP.out.ext (ext_trans Ha3.out Hd3.out))
  have HPa := hid (HP.out.ext Ha3.out)
  have Ham := hid (own_ext Ham0.out Hd3.out)
  have Haf := hid (own_ext (own_ext Hoaf.out Hbat.out) Hd3.out)
  have Hat := hid (own_ext Hoat.out Hd3.out)
  have Hdm := hid (own_lower (own_ext (own_ext Hodm.out Hbdf.out) Hbdt.out) (show W3a.heap.size ≤ W0d.heap.size from Hd0.out.size))
  have Hdf := hid (own_lower (own_ext Hodf.out Hbdt.out) (show W3a.heap.size ≤ W1d.heap.size from Hd1.out.size))
  have Hdt := hid (own_lower Hodt.out (show W3a.heap.size ≤ W2d.heap.size from Hd2.out.size))
  have Hfm : Hid (∀ g, (Value.slice Adm (solveM T G).length cdm).ownBlock = some g → (Value.slice Adf G.length cdf).ownBlock ≠ some g ∧ (Value.slice Adt U.length cdt).ownBlock ≠ some g) := hid fun g hg => by
   have h1 := (Hodm.out.lt g hg).2
   exact ⟨fun e => by have := (Hodf.out.lt g e).1; omega, fun e => by have := (Hodt.out.lt g e).1; have := Hbdf.out.size; omega⟩
  have Hft : Hid (∀ g, (Value.slice Adf G.length cdf).ownBlock = some g → (Value.slice Adt U.length cdt).ownBlock ≠ some g) := hid fun g hg => by
   have h1 := (Hodf.out.lt g hg).2
   exact fun e => by have := (Hodt.out.lt g e).1; omega
  have HBd := hid Hd3.out
  have HB0 := hid Hd3.out.size
  clear Hoam Hoaf Hoat Hodm Hodf Hodt Hbam Hbaf Hbat Hbdm Hbdf Hbdt Ha0 Ha1 Ha2 Hd0 Hd1 Hd2
  generalize hSl : (solveM T G).length = nS at *
  have HSl := hid hSl
  clear hSl
  generalize hGn : G.length = nG at *
  have HGn := hid hGn
  clear hGn
  generalize hUn : U.length = nU at *
  have HUn := hid hUn
  clear hUn
  obtain ⟨hs1, hs2, hs3⟩ := Hsm.out
  go_wp2_with fail
  go_loopw [18] (fun v18 wr => ∃ (i : Nat) (xs : List Value), i ≤ nS ∧ v18 = .int .i64 (i : Int) ∧ wr.ownsRow W3a.heap.size 58 1 (.slice Adm nS cdm) nS xs ∧ (∃ ys, wr.ownsRow W3a.heap.size 3 1 (.slice Adf nG cdf) nG ys) ∧ (∃ zs, wr.ownsRow W3a.heap.size 3 1 (.slice Adt nU cdt) nU zs) ∧ Below W3a.heap.size W3d wr) (fun v18 _ => nS - (intOf v18).toNat)
  case atStart => exact ⟨0, _, Nat.zero_le _, rfl, Hdm.out, ⟨_, Hdf.out⟩, ⟨_, Hdt.out⟩, Below.refl _ _⟩
  case round =>
   clear Hdm Hdf Hdt
   obtain ⟨i, xs, hi, rfl, hom, ⟨ys, hof⟩, ⟨zs, hot⟩, hbr⟩ := hrel
   have Hom := hid hom
   have Hof := hid hof
   have Hot := hid hot
   have Hbr := hid hbr
   clear hom hof hot hbr
   by_cases hil : i < nS
   ·obtain ⟨g, u, rfl, hgb, hcu, hfu⟩ := own_wr Hom.out hil
    have hi0 : (0 : Int) ≤ (i : Int) := by omega
    have hi1 : (i : Int) < (nS : Int) := by omega
    obtain ⟨n1, n2⟩ := Hfm.out g rfl
    go_wp2
    go_roundw
    case rel => exact ⟨i + 1, _, by omega, by go_num, (Hom.out.stored i (.int .u8 77)).1, ⟨_, ownsRow_setCell_other Hof.out (a := ⟨g, i, none⟩) n1 _⟩, ⟨_, ownsRow_setCell_other Hot.out (a := ⟨g, i, none⟩) n2 _⟩, Hbr.out.setCell hgb _⟩
    case measure => simp [intOf]; omega
   obtain rfl : nS = i := by omega
   clear Hom hil
   go_wp2
   go_loopw [19] (fun v19 wr => ∃ (i : Nat) (ys : List Value), i ≤ nG ∧ v19 = .int .i64 (i : Int) ∧ wr.ownsRow W3a.heap.size 3 1 (.slice Adf nG cdf) nG ys ∧ (∃ zs, wr.ownsRow W3a.heap.size 3 1 (.slice Adt nU cdt) nU zs) ∧ Below W3a.heap.size W3d wr) (fun v19 _ => nG - (intOf v19).toNat)
   case atStart => exact ⟨0, _, Nat.zero_le _, rfl, Hof.out, ⟨_, Hot.out⟩, Hbr.out⟩
   case round =>
    clear Hof Hot Hbr
    obtain ⟨i, ys, hi, rfl, hof, ⟨zs, hot⟩, hbr⟩ := hrel
    have Hof := hid hof
    have Hot := hid hot
    have Hbr := hid hbr
    clear hof hot hbr
    by_cases hil : i < nG
    ·obtain ⟨g, u, rfl, hgb, hcu, hfu⟩ := own_wr Hof.out hil
     have hi0 : (0 : Int) ≤ (i : Int) := by omega
     have hi1 : (i : Int) < (nG : Int) := by omega
     have n2 := Hft.out g rfl
     go_wp2
     go_roundw
     case rel => exact ⟨i + 1, _, by omega, by go_num, (Hof.out.stored i (.int .i64 (-1))).1, ⟨_, ownsRow_setCell_other Hot.out (a := ⟨g, i, none⟩) n2 _⟩, Hbr.out.setCell hgb _⟩
     case measure => simp [intOf]; omega
    obtain rfl : nG = i := by omega
    clear Hof hil
    go_wp2
    go_loopw [20] (fun v20 wr => ∃ (i : Nat) (zs : List Value), i ≤ nU ∧ v20 = .int .i64 (i : Int) ∧ wr.ownsRow W3a.heap.size 3 1 (.slice Adt nU cdt) nU zs ∧ Below W3a.heap.size W3d wr) (fun v20 _ => nU - (intOf v20).toNat)
    case atStart => exact ⟨0, _, Nat.zero_le _, rfl, Hot.out, Hbr.out⟩
    case round =>
     clear Hot Hbr
     obtain ⟨i, zs, hi, rfl, hot, hbr⟩ := hrel
     have Hot := hid hot
     have Hbr := hid hbr
     clear hot hbr
     by_cases hil : i < nU
     ·obtain ⟨g, u, rfl, hgb, hcu, hfu⟩ := own_wr Hot.out hil
      have hi0 : (0 : Int) ≤ (i : Int) := by omega
      have hi1 : (i : Int) < (nU : Int) := by omega
      go_wp2
      go_roundw
      case rel => exact ⟨i + 1, _, by omega, by go_num, (Hot.out.stored i (.int .i64 (-1))).1, Hbr.out.setCell hgb _⟩
      case measure => simp [intOf]; omega
     obtain rfl : nU = i := by omega
     clear Hot hil
     have Hbr2 := hid (HBd.out.trans (Hbr.out.mono (Nat.le_refl _)))
     have HPk := hid (HPa.out.ext Hbr2.out)
     have Ham2 := hid (own_ext Ham0.out Hbr2.out)
     have Haf2 := hid (own_ext Haf0.out Hbr2.out)
     have Hat2 := hid (own_ext Hat0.out Hbr2.out)
     clear Ham Haf Hat Ham0 Haf0 Hat0 HPd HPx HPa Hbr Hbr2 HBd HB0 Hfm Hft
     have c0 := HPk.out.boxc
     go_wp2_with fail
     refine (copyD_any wr x vM T G _ U Ft HPk.out.ex.e Hwf.out).mono ?_
     rintro e wy ⟨_, rfl, hby, y, vN, rfl, hy⟩
     have HPy := hid (HPk.out.ext hby)
     have Hby := hid hby
     have HY := hid hy
     clear hby hy c0
     go_wp2_with fail
     refine (setD_any wy y vN T G U _ HY.out Hwf.out HPk.out.ex.ris (.slice none 0 0) [] (rdI_nil _)).mono ?_
     rintro e wz ⟨_, rfl, hc⟩
     have hbz : Below wr.heap.size wr wz := by
      have h1 := HY.out.fx.1
      exact Hby.out.trans (hc.alt.low Hby.out.size h1 fun g hg => (HY.out.fm g hg).1.1)
     have HPz := hid (HPk.out.ext hbz)
     have Ham3 := hid (own_ext Ham2.out hbz)
     have Haf3 := hid (own_ext Haf2.out hbz)
     have Hat3 := hid (own_ext Hat2.out hbz)
     obtain ⟨v9, rfl, _⟩ := hc
     clear hbz HPy HY Hby HPk Ham2 Haf2 Hat2
     have c0 := HPz.out.boxc
     go_wp2_with fail
     refine (marksD_any wz x vM T G _ U Ft HPz.out.ex.e).mono ?_
     rintro e w1 ⟨vm, rfl, hm, hb1⟩
     rw [HSl.out] at hm
     obtain ⟨A1, c1, rfl⟩ := own_form0 hm
     have Hsm1 := hid (sameM_any w1 _ (.slice Aam nS cam) (solveM T G) (solveM T G) (own_rdS (enc := fun x : Nat => Value.int .u8 (x : Int)) (by rw [HSl.out]; exact hm) (by rw [HSl.out]; omega)) (own_rdS (enc := fun x : Nat => Value.int .u8 (x : Int)) (by rw [HSl.out]; exact own_ext Ham3.out hb1) (by rw [HSl.out]; omega)))
     have HP1 := hid (HPz.out.ext hb1)
     have Haf4 := hid (own_ext Haf3.out hb1)
     have Hat4 := hid (own_ext Hat3.out hb1)
     clear hm hb1 c0 HPz Haf3 Hat3 Ham3
     go_wp2_with fail
     refine Hsm1.out.mono ?_
     rintro e w2b ⟨_, rfl, rfl, hb2⟩
     simp only [decide_true]
     have HP2 := hid (HP1.out.ext hb2)
     have Haf5 := hid (own_ext Haf4.out hb2)
     have Hat5 := hid (own_ext Hat4.out hb2)
     clear hb2 HP1 Haf4 Hat4 Hsm1
     have c0 := HP2.out.boxc
     go_wp2_with fail
     refine (factsD_any w2b x vM T G _ U Ft HP2.out.ex.e).mono ?_
     rintro e w3b ⟨vf, rfl, hf, hb3⟩
     rw [HGn.out] at hf
     obtain ⟨A2, c2, rfl⟩ := own_form0 hf
     have Hsi1 := hid (sameI_any w3b _ (.slice Aaf nG caf) G G (own_rdI (by rw [HGn.out]; exact hf) (by rw [HGn.out]; omega)) (own_rdI (by rw [HGn.out]; exact own_ext Haf5.out hb3) (by rw [HGn.out]; omega)))
     have HP3 := hid (HP2.out.ext hb3)
     have Hat6 := hid (own_ext Hat5.out hb3)
     clear hf hb3 c0 HP2 Haf5 Hat5
     go_wp2_with fail
     refine Hsi1.out.mono ?_
     rintro e w4b ⟨_, rfl, rfl, hb4⟩
     simp only [decide_true]
     have HP4 := hid (HP3.out.ext hb4)
     have Hat7 := hid (own_ext Hat6.out hb4)
     clear hb4 HP3 Hat6 Hsi1
     have c0 := HP4.out.boxc
     go_wp2_with fail
     refine (touchedD_any w4b x vM T G _ U Ft HP4.out.ex.e).mono ?_
     rintro e w5b ⟨vt, rfl, ht, hb5⟩
     rw [HUn.out] at ht
     obtain ⟨A3, c3, rfl⟩ := own_form0 ht
     have Hsi2 := hid (sameI_any w5b _ (.slice Aat nU cat) U U (own_rdI (by rw [HUn.out]; exact ht) (by rw [HUn.out]; omega)) (own_rdI (by rw [HUn.out]; exact own_ext Hat7.out hb5) (by rw [HUn.out]; omega)))
     have HP5 := hid (HP4.out.ext hb5)
     clear ht hb5 c0 HP4 Hat7
     go_wp2_with fail
     refine Hsi2.out.mono ?_
     rintro e wk ⟨_, rfl, rfl, hb6⟩
     simp only [decide_true]
     have HP6 := hid (HP5.out.ext hb6)
     clear hb6 HP5 Hsi2
     go_wp2_with fail
     obtain ⟨WZ, HWZ⟩ : ∃ WZ, Hid (wk.alloc (.cells #[.bool false, .int .i64 0, .slice none 0 0, .slice none 0 0, .slice none 0 0, .slice none 0 0, .slice none 0 0, .slice none 0 0] 72) = WZ) := ⟨_, hid rfl⟩
     have hz0 : WZ.heap[wk.heap.size]? = some (.cells #[.bool false, .int .i64 0, .slice none 0 0, .slice none 0 0, .slice none 0 0, .slice none 0 0, .slice none 0 0, .slice none 0 0] 72 (0, 0)) := by rw [← HWZ.out]; exact heap_alloc_new _ _
     have hzb : Below wk.heap.size wk WZ := by rw [← HWZ.out]; exact ext_alloc _ _
     rw [HWZ.out]
     refine (nothing_any WZ _ (dead_nil WZ)).mono ?_
     rintro e wp ⟨_, rfl, rfl, hwp⟩
     rw [← hwp]
     clear hwp wp
     have HZ0 := hid hz0
     clear hz0
     go_wp2_with fail
     refine (nothing_any WZ _ (dead_zero WZ _ (cell_of_row _ _ 0 _ _ _ HZ0.out))).mono ?_
     rintro e wp ⟨_, rfl, rfl, hwp⟩
     rw [← hwp]
     clear hwp wp
     go_wp2_with fail
     go_ret
     exact Fin HQ ⟨by simp, ext_trans HP6.out.ex.bel hzb⟩
end Go.Proofs.Lx

namespace Go.Proofs.Lx
open Go Go.RowKit Go.ChangeShapes Go.WideShapes Go.ChangeAt Go.Joins Go.Deep
set_option linter.unusedSimpArgs false
set_option linter.unusedVariables false

instance : Inhabited { y : Nat // y < 256 } := ⟨⟨0, by decide⟩⟩
section
variable {H : Type} {enc : TypeId × Value → H} {P : Program} {w : World} {base : Nat} {held : Bool}
/-- Each part is within the form's reach. -/
def Fits (P : Program) (t : TypeId) (d : DataW H) : Prop := ∀ n ∈ d.weights P t, n ≤ reachBytes
theorem weightsAll_mem {e : TypeId} {d : DataW H} : ∀ {ds : List (DataW H)}, d ∈ ds → ∀ n ∈ d.weights P e, n ∈ DataW.weightsAll P e ds
 | [], h => by simp at h
 | x :: ds, h => fun n hn => by
  rw [DataW.weightsAll, List.mem_append]
  rcases List.mem_cons.1 h with rfl | h
  ·exact .inl hn
  ·exact .inr (weightsAll_mem h n hn)
theorem Fits.elems {t e : TypeId} {es sp : List (DataW H)} (ht : P.underlying t = some (.slice e)) (h : Fits P t (.slice es sp)) :
  (es.length + sp.length) * P.bytesOf e ≤ reachBytes ∧ ∀ d ∈ es, Fits P e d := by
 have hw : (DataW.slice es sp).weights P t = (es.length + sp.length) * P.bytesOf e :: (DataW.weightsAll P e es ++ DataW.weightsAll P e sp) := by simp [DataW.weights, ht]
 unfold Fits at h
 rw [hw] at h
 exact ⟨h _ List.mem_cons_self, fun d hd n hn => h n (List.mem_cons_of_mem _ (List.mem_append_left _ (weightsAll_mem hd n hn)))⟩
theorem each_mem : ∀ {ts : List TypeId} {ds : List (DataW H)} {j : Nat} {t : TypeId} {d : DataW H}, ts[j]? = some t → ds[j]? = some d → ∀ n ∈ d.weights P t, n ∈ DataW.weightsEach P ts ds
 | [], _, _, _, _, h, _ => by simp at h
 | _ :: _, [], _, _, _, _, h => by simp at h
 | t0 :: ts, d0 :: ds, j, t, d, ht, hd => fun n hn => by
  rw [DataW.weightsEach, List.mem_append]
  match j, ht, hd with
  | 0, ht, hd =>
   simp at ht hd; subst ht; subst hd
   exact .inl hn
  | j + 1, ht, hd => exact .inr (each_mem (j := j) (by simpa using ht) (by simpa using hd) n hn)
theorem Fits.part {t u : TypeId} {fs : Array Field} {ps : List (DataW H)} {d : DataW H} (ht : P.underlying t = some (.struct fs)) (h : Fits P t (.agg ps)) (j : Nat) (hj : (fs.toList.map (·.type))[j]? = some u) (hd : ps[j]? = some d) : Fits P u d := by
 have hw : (DataW.agg ps).weights P t = DataW.weightsEach P (fs.toList.map (·.type)) ps := by simp [DataW.weights, ht]
 unfold Fits at h
 rw [hw] at h
 exact fun n hn => h n (each_mem hj hd n hn)
theorem Fits.arg {ts : List TypeId} {ds : List (DataW H)} (h : (DataW.weightsEach P ts ds).all (· ≤ reachBytes) = true) (j : Nat) {t : TypeId} {d : DataW H} (ht : ts[j]? = some t) (hd : ds[j]? = some d) : Fits P t d := fun n hn => by
 have := List.all_eq_true.1 h n (each_mem ht hd n hn)
 simpa using this

/-- A slice that reads, as a list. -/
theorem rd_trod {α : Type} [Inhabited α] {sz : Nat} {R : World → α → List Value → Prop} {t e : TypeId} {v : Value} {fuel : Nat} {x : DataW H × List MemPlace} (ht : P.underlying t = some (.slice e)) (hc : P.cellsOf e = sz) (hby : 1 ≤ P.bytesOf e)
  (elem : ∀ n cs (y : DataW H × List MemPlace), cs.length = sz → DataW.trod enc P w base (fun _ => true) held n e cs = some y → Fits P e y.1 → ∃ a : α, R w a cs)
  (h : DataW.trod enc P w base (fun _ => true) held fuel t [v] = some x) (hf : Fits P t x.1) : ∃ ys : List α, Rd sz R w v ys := by
 rcases open_slice ht h with ⟨hcs, hx⟩ | ⟨a, len, cap, m, n, D, Pl, hcs, hb, hl, hm, hmm, rfl, hel⟩
 ·simp only [List.cons.injEq, and_true] at hcs
  subst hcs
  exact ⟨[], Rd.nil⟩
 ·simp only [List.cons.injEq, and_true] at hcs
  subst hcs
  simp only [if_true] at hmm
  subst hmm
  obtain ⟨h1, h2⟩ := hf.elems ht
  have hlen : len ≤ 140737488355328 := by
   simp only [List.length_map, List.length_range, reachBytes] at h1
   have : len * 1 ≤ (len + (m - len)) * P.bytesOf e := Nat.mul_le_mul (by omega) hby
   omega
  obtain ⟨f, hfam⟩ := choose_lt (α := α) (n := len) (p := fun i y => ∃ cs', cs'.length = sz ∧ R w y cs' ∧ ∀ j, j < sz → w.cell? ((a.add (i * sz)).add j) = cs'[j]?) (fun i hi => by
   obtain ⟨cs', c1, c2⟩ := hel i (by omega)
   obtain ⟨_, c3, c4⟩ := World.cells?_some c1
   rw [hc] at c3 c4
   obtain ⟨y, hy⟩ := elem _ _ _ c3 c2 (h2 _ (List.mem_map.2 ⟨i, List.mem_range.2 hi, rfl⟩))
   exact ⟨y, cs', c3, hy, c4⟩)
  refine ⟨(List.range len).map f, some a, m, by simp, by simp; omega, by simp; omega, fun i hi => ?_⟩
  simp only [List.length_map, List.length_range] at hi
  obtain ⟨cs', c1, c2, c3⟩ := hfam i hi
  refine ⟨a, cs', rfl, by simpa using c2, c1, fun j u hu => ?_⟩
  have hj : j < sz := by rw [← c1]; exact (List.getElem?_eq_some_iff.1 hu).1
  rw [← add_add, c3 j hj, hu]
theorem rd_ints {t e : TypeId} {k : IntKind} {v : Value} {fuel : Nat} {x : DataW H × List MemPlace} (ht : P.underlying t = some (.slice e)) (he : P.underlying e = some (.int k)) (hc : P.cellsOf e = 1) (hby : 1 ≤ P.bytesOf e)
  (h : DataW.trod enc P w base (fun _ => true) held fuel t [v] = some x) (hf : Fits P t x.1) : ∃ ys : List Int, Rd 1 (scR (Value.int k)) w v ys := by
 refine rd_trod ht hc hby (fun n cs y _ hy _ => ?_) h hf
 obtain ⟨z, rfl, _⟩ := DataW.trod_int he hy
 exact ⟨z, rfl⟩
theorem rd_rows {t e q : TypeId} {k : IntKind} {v : Value} {fuel : Nat} {x : DataW H × List MemPlace} (ht : P.underlying t = some (.slice e)) (he : P.underlying e = some (.slice q)) (hq : P.underlying q = some (.int k)) (hc : P.cellsOf e = 1) (hcq : P.cellsOf q = 1) (hby : 1 ≤ P.bytesOf e) (hbq : 1 ≤ P.bytesOf q)
  (h : DataW.trod enc P w base (fun _ => true) held fuel t [v] = some x) (hf : Fits P t x.1) : ∃ ys : List (List Int), Rd 1 (rowR 1 (scR (Value.int k))) w v ys := by
 refine rd_trod ht hc hby (fun n cs y hl hy hfy => ?_) h hf
 match cs, hl with
 | [u], _ =>
  obtain ⟨ys, hys⟩ := rd_ints he hq hcq hbq hy hfy
  exact ⟨ys, u, rfl, hys⟩
theorem rd_rules {t e ti : TypeId} {f0 f1 f2 : Field} {v : Value} {fuel : Nat} {x : DataW H × List MemPlace} (ht : P.underlying t = some (.slice e)) (he : P.underlying e = some (.struct #[f0, f1, f2])) (hc : P.cellsOf e = 3) (hby : 1 ≤ P.bytesOf e)
  (o0 : f0.offset = 0) (o1 : f1.offset = 1) (o2 : f2.offset = 2) (u0 : P.underlying f0.type = some (.int .i64)) (u1 : P.underlying f1.type = some (.int .i64)) (u2 : P.underlying f2.type = some (.slice ti)) (ui : P.underlying ti = some (.int .i64))
  (c0 : P.cellsOf f0.type = 1) (c1 : P.cellsOf f1.type = 1) (c2 : P.cellsOf f2.type = 1) (ci : P.cellsOf ti = 1) (bi : 1 ≤ P.bytesOf ti)
  (h : DataW.trod enc P w base (fun _ => true) held fuel t [v] = some x) (hf : Fits P t x.1) : ∃ ys : List Rule, Rd 3 ruleR w v ys := by
 refine rd_trod ht hc hby (fun n cs y hl hy hfy => ?_) h hf
 match cs, hl with
 | [a, b, c], _ =>
  obtain ⟨y0, y1, y2, n', hy', _, h0, h1, h2⟩ := trod_struct3 he hy
  subst hy'
  rw [o0, c0] at h0; rw [o1, c1] at h1; rw [o2, c2] at h2
  simp at h0 h1 h2
  obtain ⟨z0, e0, _⟩ := DataW.trod_int u0 h0
  obtain ⟨z1, e1, _⟩ := DataW.trod_int u1 h1
  simp at e0 e1
  obtain ⟨ys, hys⟩ := rd_ints u2 ui ci bi h2 (hfy.part he 2 rfl rfl)
  exact ⟨⟨z0, z1, ys⟩, c, by rw [e0, e1], hys⟩
end
end Go.Proofs.Lx

namespace Go.Proofs.Lx
open Go Go.RowKit Go.ChangeShapes Go.WideShapes Go.ChangeAt Go.Joins Go.Deep
set_option linter.unusedSimpArgs false
set_option linter.unusedVariables false

theorem ownTry : ownKnob Tryz.prog.godebug = none := by kernel_rfl
theorem laidTry : laidOutB Tryz.prog = true := by kernel_rfl
theorem cellsTheory : Tryz.prog.cellsOf 25 = 4 := by kernel_rfl
theorem cellsRule : Tryz.prog.cellsOf 93 = 3 := by kernel_rfl
theorem cellsInt : Tryz.prog.cellsOf 3 = 1 := by kernel_rfl
theorem cellsInts : Tryz.prog.cellsOf 36 = 1 := by kernel_rfl
theorem cellsKind : Tryz.prog.cellsOf 91 = 1 := by kernel_rfl
theorem bytesInt : 1 ≤ Tryz.prog.bytesOf 3 := of_decide_eq_true (by kernel_rfl)
theorem bytesInts : 1 ≤ Tryz.prog.bytesOf 36 := of_decide_eq_true (by kernel_rfl)
theorem bytesRule : 1 ≤ Tryz.prog.bytesOf 93 := of_decide_eq_true (by kernel_rfl)
theorem oneTheory : ∀ fs, Tryz.prog.underlying 25 = some (.struct fs) → oneCellFields Tryz.prog fs = true := by
 intro fs h
 rw [Tryz.underlying25] at h
 cases h; kernel_rfl
section
variable {H : Type} {enc : TypeId × Value → H} {w : World} {base : Nat}
set_option maxRecDepth 100000 in
theorem rd_theory {v : Value} {d : DataW H} {p : List MemPlace} (hv : Value.okWide Tryz.prog w .any base 25 v) (h : DataW.Trod enc Tryz.prog w 0 (fun _ => true) true 25 v d p) (hf : Fits Tryz.prog 25 d) : ∃ T, RdTh w v T := by
 obtain ⟨v0, v1, v2, v3, y0, y1, y2, y3, n, rfl, rfl, _, h0, h1, h2, h3⟩ := open_agg4 Tryz.underlying25 (oneTheory _ Tryz.underlying25) cellsTheory hv h
 obtain ⟨z0, e0, _⟩ := DataW.trod_int Tryz.underlying3 h0
 simp only [List.cons.injEq, and_true] at e0
 subst e0
 obtain ⟨fo, hfo⟩ := rd_rows Tryz.underlying22 Tryz.underlying36 Tryz.underlying3 cellsInts cellsInt bytesInts bytesInt h1 (hf.part Tryz.underlying25 1 rfl rfl)
 obtain ⟨rs, hrs⟩ := rd_rules Tryz.underlying23 Tryz.underlying93 cellsRule bytesRule rfl rfl rfl Tryz.underlying91 Tryz.underlying3 Tryz.underlying36 Tryz.underlying3 cellsKind cellsInt cellsInts cellsInt bytesInt h2 (hf.part Tryz.underlying25 2 rfl rfl)
 obtain ⟨bs, hbs⟩ := rd_rows Tryz.underlying22 Tryz.underlying36 Tryz.underlying3 cellsInts cellsInt bytesInts bytesInt h3 (hf.part Tryz.underlying25 3 rfl rfl)
 exact ⟨⟨z0, fo, rs, bs⟩, v1, v2, v3, rfl, hfo, hrs, hbs⟩
end
end Go.Proofs.Lx

namespace Go.Proofs.Lx
open Go Go.RowKit Go.ChangeShapes Go.WideShapes Go.ChangeAt Go.Joins Go.Deep
set_option linter.unusedSimpArgs false
set_option linter.unusedVariables false

section
variable {H : Type} {enc : TypeId × Value → H} {P : Program} {w : World} {base : Nat} {held : Bool}
theorem rd_trod2 {α : Type} [Inhabited α] {Pr : α → Prop} {sz : Nat} {R : World → α → List Value → Prop} {t e : TypeId} {v : Value} {fuel : Nat} {x : DataW H × List MemPlace} (ht : P.underlying t = some (.slice e)) (hc : P.cellsOf e = sz) (hby : 1 ≤ P.bytesOf e)
  (elem : ∀ n cs (y : DataW H × List MemPlace), cs.length = sz → DataW.trod enc P w base (fun _ => true) held n e cs = some y → Fits P e y.1 → ∃ a : α, R w a cs ∧ Pr a)
  (h : DataW.trod enc P w base (fun _ => true) held fuel t [v] = some x) (hf : Fits P t x.1) : ∃ ys : List α, Rd sz R w v ys ∧ (∀ y ∈ ys, Pr y) ∧ ys.length * P.bytesOf e ≤ 140737488355328 := by
 rcases open_slice ht h with ⟨hcs, hx⟩ | ⟨a, len, cap, m, n, D, Pl, hcs, hb, hl, hm, hmm, rfl, hel⟩
 ·simp only [List.cons.injEq, and_true] at hcs
  subst hcs
  exact ⟨[], Rd.nil, by simp, by simp⟩
 ·simp only [List.cons.injEq, and_true] at hcs
  subst hcs
  simp only [if_true] at hmm
  subst hmm
  obtain ⟨h1, h2⟩ := hf.elems ht
  have hlb : len * P.bytesOf e ≤ 140737488355328 := by
   simp only [List.length_map, List.length_range, reachBytes] at h1
   exact Nat.le_trans (Nat.mul_le_mul_right _ (Nat.le_add_right _ _)) (Nat.le_trans h1 (by decide))
  have hlen : len ≤ 140737488355328 := by
   have : len * 1 ≤ len * P.bytesOf e := Nat.mul_le_mul_left _ hby
   omega
  obtain ⟨f, hfam⟩ := choose_lt (α := α) (n := len) (p := fun i y => Pr y ∧ ∃ cs', cs'.length = sz ∧ R w y cs' ∧ ∀ j, j < sz → w.cell? ((a.add (i * sz)).add j) = cs'[j]?) (fun i hi => by
   obtain ⟨cs', c1, c2⟩ := hel i (by omega)
   obtain ⟨_, c3, c4⟩ := World.cells?_some c1
   rw [hc] at c3 c4
   obtain ⟨y, hy, hp⟩ := elem _ _ _ c3 c2 (h2 _ (List.mem_map.2 ⟨i, List.mem_range.2 hi, rfl⟩))
   exact ⟨y, hp, cs', c3, hy, c4⟩)
  refine ⟨(List.range len).map f, ⟨some a, m, by simp, by simp; omega, by simp; omega, fun i hi => ?_⟩, ?_, by simpa using hlb⟩
  ·simp only [List.length_map, List.length_range] at hi
   obtain ⟨_, cs', c1, c2, c3⟩ := hfam i hi
   refine ⟨a, cs', rfl, by simpa using c2, c1, fun j u hu => ?_⟩
   have hj : j < sz := by rw [← c1]; exact (List.getElem?_eq_some_iff.1 hu).1
   rw [← add_add, c3 j hj, hu]
  ·intro y hy
   obtain ⟨i, hi, rfl⟩ := List.mem_map.1 hy
   exact (hfam i (List.mem_range.1 hi)).1
theorem rd_ints2 {t e : TypeId} {k : IntKind} {v : Value} {fuel : Nat} {x : DataW H × List MemPlace} (ht : P.underlying t = some (.slice e)) (he : P.underlying e = some (.int k)) (hc : P.cellsOf e = 1) (hby : P.bytesOf e = 8)
  (h : DataW.trod enc P w base (fun _ => true) held fuel t [v] = some x) (hf : Fits P t x.1) : ∃ ys : List Int, Rd 1 (scR (Value.int k)) w v ys ∧ ys.length * 8 ≤ 140737488355328 := by
 obtain ⟨ys, h1, _, h3⟩ := rd_trod2 (R := scR (Value.int k)) (Pr := fun _ : Int => True) ht hc (by omega) (fun n cs y _ hy _ => by
  obtain ⟨z, rfl, _⟩ := DataW.trod_int he hy
  exact ⟨z, rfl, trivial⟩) h hf
 rw [hby] at h3
 exact ⟨ys, h1, h3⟩
theorem rd_rules2 {t e ti : TypeId} {f0 f1 f2 : Field} {v : Value} {fuel : Nat} {x : DataW H × List MemPlace} (ht : P.underlying t = some (.slice e)) (he : P.underlying e = some (.struct #[f0, f1, f2])) (hc : P.cellsOf e = 3) (hby : P.bytesOf e = 40)
  (o0 : f0.offset = 0) (o1 : f1.offset = 1) (o2 : f2.offset = 2) (u0 : P.underlying f0.type = some (.int .i64)) (u1 : P.underlying f1.type = some (.int .i64)) (u2 : P.underlying f2.type = some (.slice ti)) (ui : P.underlying ti = some (.int .i64))
  (c0 : P.cellsOf f0.type = 1) (c1 : P.cellsOf f1.type = 1) (c2 : P.cellsOf f2.type = 1) (ci : P.cellsOf ti = 1) (bi : P.bytesOf ti = 8)
  (h : DataW.trod enc P w base (fun _ => true) held fuel t [v] = some x) (hf : Fits P t x.1) : ∃ ys : List Rule, Rd 3 ruleR w v ys ∧ (∀ r ∈ ys, r.body.length * 8 ≤ 140737488355328) ∧ ys.length * 40 ≤ 140737488355328 := by
 obtain ⟨ys, h1, h2, h3⟩ := rd_trod2 (R := ruleR) (Pr := fun r : Rule => r.body.length * 8 ≤ 140737488355328) ht hc (by omega) (fun n cs y hl hy hfy => by
  match cs, hl with
  | [a, b, c], _ =>
   obtain ⟨y0, y1, y2, n', hy', _, h0, h1, h2⟩ := trod_struct3 he hy
   subst hy'
   rw [o0, c0] at h0; rw [o1, c1] at h1; rw [o2, c2] at h2
   simp at h0 h1 h2
   obtain ⟨z0, e0, _⟩ := DataW.trod_int u0 h0
   obtain ⟨z1, e1, _⟩ := DataW.trod_int u1 h1
   simp at e0 e1
   obtain ⟨ys, hys, hb⟩ := rd_ints2 u2 ui ci bi h2 (hfy.part he 2 rfl rfl)
   exact ⟨⟨z0, z1, ys⟩, ⟨c, by rw [e0, e1], hys⟩, hb⟩) h hf
 rw [hby] at h3
 exact ⟨ys, h1, h2, h3⟩
end
theorem bytesInt8 : Tryz.prog.bytesOf 3 = 8 := by kernel_rfl
section
variable {H : Type} {enc : TypeId × Value → H} {w : World} {base : Nat}
end
end Go.Proofs.Lx

namespace Go.Proofs.Lx
open Go Go.RowKit Go.ChangeShapes Go.WideShapes Go.ChangeAt Go.Joins Go.Deep
set_option linter.unusedSimpArgs false
set_option linter.unusedVariables false
theorem cellsStep : Tryz.prog.cellsOf 38 = 3 := by kernel_rfl
theorem bytesStep40 : Tryz.prog.bytesOf 38 = 40 := by kernel_rfl
section
variable {H : Type} {enc : TypeId × Value → H} {w : World} {base : Nat}
set_option maxRecDepth 100000 in
theorem rd_steps_small {v : Value} {d : DataW H} {p : List MemPlace} (hv : Value.okWide Tryz.prog w .any base 26 v) (h : DataW.Trod enc Tryz.prog w 0 (fun _ => true) true 26 v d p) (hf : Fits Tryz.prog 26 d) : ∃ L : List Rule, RdRs w v L ∧ ∀ r ∈ L, r.body.length * 8 ≤ 140737488355328 := by
 obtain ⟨a0, len, cap, rfl⟩ := okWide_slice Tryz.underlying26 hv
 obtain ⟨fuel, h⟩ := h
 obtain ⟨L, h1, h2, _⟩ := rd_rules2 Tryz.underlying26 Tryz.underlying38 cellsStep bytesStep40 rfl rfl rfl Tryz.underlying3 Tryz.underlying3 Tryz.underlying36 Tryz.underlying3 cellsInt cellsInt cellsInts cellsInt bytesInt8 h hf
 exact ⟨L, h1, h2⟩
end
end Go.Proofs.Lx
