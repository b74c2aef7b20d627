/- Parts of the proof: Ag. Law 19: one step of a script, on the engine and on the reference's. Printed by gen_does.py. -/
import Derived.Test.YtbidjiopnddldaaGreatP44
import Derived.Deep.RegionHeld3
namespace Go.Proofs.Lx
open Go Go.RowKit Go.Proofs.Tj
set_option linter.unusedVariables false
set_option linter.unusedSimpArgs false
/-- Behind a step. -/
def DoesEnd (w0 : World) (bx b : Nat) (T : Th) (r : Value) (w' : World) : Prop := ∃ v x vM G U Ft Fr, r = .tuple #[v, .bool true] ∧ PM w0 w' bx x vM b T G G U Ft Fr
set_option maxRecDepth 1000000 in
set_option maxHeartbeats 60000000 in
theorem does_any (w0 w : World) (bx x b : Nat) (vM vA : Value) (T : Th) (G U A : List Int) (Ft Fr : Nat → Prop) (what q : Int) (hp : PM w0 w bx x vM b T G G U Ft Fr) (hwf : WfTh T) (hA : RdI w0 vA A) (hA8 : A.length * 8 ≤ 140737488355328) :
  Calls Tryz.prog 31 #[.pointer (some ⟨bx, 0, none⟩), .pointer (some ⟨b, 0, none⟩), .agg #[.int .i64 what, .int .i64 q, vA]] w (Ret (DoesEnd w0 bx b T)) := by
 obtain ⟨A0, cA0, rfl, hAc, hAb, hAr⟩ := hA
 have hA : RdI w0 (.slice A0 A.length cA0) A := ⟨A0, cA0, rfl, hAc, hAb, hAr⟩
 have HA := hid hA
 have HA8 := hid hA8
 have Hwf := hid hwf
 have HP0 := hid hp
 have HP0b := hid hp.box
 have Hnum := hid num19_any
 clear hA hAc hAb hAr hA8 hwf
 unfold DoesEnd
 refine post_gen fun Q HQ => ?_
 obtain ⟨W1, HW1⟩ : ∃ W1, Hid (w.alloc (.cells #[.int .i64 what, .int .i64 q, .slice A0 A.length cA0] 38) = W1) := ⟨_, hid rfl⟩
 have Hb1 : Hid (Below w.heap.size w W1) := hid (by rw [← HW1.out]; exact ext_alloc _ _)
 have Hs1 : Hid (W1.heap.size = w.heap.size + 1) := hid (by rw [← HW1.out]; simp)
 have HB1 : Hid (W1.heap[w.heap.size]? = some (.cells #[.int .i64 what, .int .i64 q, .slice A0 A.length cA0] 38 (0, 0))) := hid (by rw [← HW1.out]; exact heap_alloc_new _ _)
 have Hsb : Hid (∀ W : World, W.heap[w.heap.size]? = some (.cells #[.int .i64 what, .int .i64 q, .slice A0 A.length cA0] 38 (0, 0)) → W.cell? ⟨w.heap.size, 0, none⟩ = some (.int .i64 what) ∧ W.cell? ⟨w.heap.size, 1, none⟩ = some (.int .i64 q) ∧ W.cell? ⟨w.heap.size, 2, none⟩ = some (.slice A0 A.length cA0)) := hid fun W h => ⟨cell_of_row _ _ 0 _ _ _ h, cell_of_row _ _ 1 _ _ _ h, cell_of_row _ _ 2 _ _ _ h⟩
 have HP1 := hid (HP0.out.ext Hb1.out)
 have Hxl := hid (And.intro (HP0.out.ex.xhi.1) (And.intro HP0.out.ex.xhi.2 (HP0.out.er.ft b HP0.out.er.fb)))
 have HGl := hid (risT_len Hwf.out hp.ex.ris)
 obtain ⟨uF, uR, uB, uFa, uN, ⟨c0, c1, c2, c3, c4, c5⟩, hGr, _⟩ := HP1.out.facts
 have Hcp := hid (copyI_any W1 uFa G hGr (by have := HGl.out; omega))
 clear hp hGr c0 c1 c2 c3 c5
 go_enter Tryz.func31, Tryz.ntmps31
 rw [← HW1.out] at c4
 go_wp2_with fail
 rw [HW1.out]
 refine Hcp.out.mono ?_
 rintro e w2 ⟨v8, rfl, ho8, hb2⟩
 obtain ⟨A8, c8, rfl⟩ := own_form0 ho8
 have Ho8 := hid ho8
 have HP2 := hid (HP1.out.ext hb2)
 have HB2 := hid ((hb2.block w.heap.size (by have := Hs1.out; omega)).trans HB1.out)
 have Hs2 := hid hb2.size
 have HA2 := hid (HA.out.ext (scR_mono _) HP2.out.ex.bel)
 clear ho8 hb2 Hcp c4 HP1 HB1 HP0
 obtain ⟨z0, z1, z2⟩ := Hsb.out w2 HB2.out
 have Hz1 := hid z1
 have Hz2 := hid z2
 clear z1 z2
 by_cases h0 : what = 0
 ·subst h0
  go_wp2_with fail
  clear z0
  have HS : Hid (∀ W : World, W.heap[bx]? = some (.cells #[.pointer (some ⟨x, 0, none⟩)] 28 (0, 0)) → W.heap[w.heap.size]? = some (.cells #[.int .i64 0, .int .i64 q, .slice A0 A.length cA0] 38 (0, 0)) → (fun w' : World => w'.cell? ⟨bx, 0, none⟩ = some (.pointer (some ⟨x, 0, none⟩)) ∧ w'.cell? ⟨w.heap.size, 1, none⟩ = some (.int .i64 q)) W) := hid fun W h1 h2 => ⟨cell_of_row _ _ 0 _ _ _ h1, (Hsb.out W h2).2.1⟩
  refine wp_region_noPanic ?_
  refine wp_region_held_drew (S := (fun w' : World => w'.cell? ⟨bx, 0, none⟩ = some (.pointer (some ⟨x, 0, none⟩)) ∧ w'.cell? ⟨w.heap.size, 1, none⟩ = some (.int .i64 q))) (by kernel_rfl) (HS.out _ HP2.out.box HB2.out) (fun hHeld => ?_)
  obtain ⟨W0, hW0⟩ : ∃ W, W = w2.drew := ⟨_, rfl⟩
  have HP3 : Hid (PM w0 W0 bx x vM b T G G U Ft Fr) := hid (by rw [hW0]; exact HP2.out.ext (ext_refl w2).drew)
  have Ho3 : Hid (W0.ownsRow W1.heap.size 3 1 (.slice A8 G.length c8) G.length (intsV G)) := hid (by rw [hW0]; exact own_ext Ho8.out (ext_refl w2).drew)
  have HB3 : Hid (W0.heap[w.heap.size]? = some (.cells #[.int .i64 0, .int .i64 q, .slice A0 A.length cA0] 38 (0, 0))) := hid (by rw [hW0]; exact HB2.out)
  have HA3 : Hid (RdI W0 (.slice A0 A.length cA0) A) := hid (by rw [hW0]; exact HA2.out.ext (scR_mono _) (ext_refl w2).drew)
  have Hs3 : Hid (W1.heap.size ≤ W0.heap.size) := hid (by rw [hW0]; exact Hs2.out)
  rw [← hW0]
  clear hW0 hHeld
  have hHeld := HS.out _ HP3.out.box HB3.out
  refine wpAnyH_take (i := 0) (v := ?v1) (by simp only [List.getElem?_toArray, List.getElem?_cons_zero, List.getElem?_cons_succ]; rfl) (by kernel_rfl) (by kernel_rfl) (by kernel_rfl) (fun _ _ _ h => h) (Or.inl ⟨by rfl, ?hy1⟩) (by assumption) ?rest1
  case hy1 => (intro w hSw; (try dsimp only at hSw); go_simp) <;> try with_reducible rfl
  simp only [Act.put, List.setIfInBounds_toArray, List.set_cons_zero, List.set_cons_succ]
  refine wpAnyH_take (i := 1) (v := ?v2) (by simp only [List.getElem?_toArray, List.getElem?_cons_zero, List.getElem?_cons_succ]; rfl) (by kernel_rfl) (by kernel_rfl) (by kernel_rfl) (fun _ _ _ h => h) (Or.inl ⟨by rfl, ?hy2⟩) (by assumption) ?rest2
  case hy2 => (intro w hSw; (try dsimp only at hSw); go_simp) <;> try with_reducible rfl
  simp only [Act.put, List.setIfInBounds_toArray, List.set_cons_zero, List.set_cons_succ]
  refine wpAnyH_take (i := 2) (v := ?v3) (by simp only [List.getElem?_toArray, List.getElem?_cons_zero, List.getElem?_cons_succ]; rfl) (by kernel_rfl) (by kernel_rfl) (by kernel_rfl) (fun _ _ _ h => h) (Or.inl ⟨by rfl, ?hy3⟩) (by assumption) ?rest3
  case hy3 => (intro w hSw; (try dsimp only at hSw); go_simp) <;> try with_reducible rfl
  simp only [Act.put, List.setIfInBounds_toArray, List.set_cons_zero, List.set_cons_succ]
  refine wpAnyH_take (i := 3) (v := ?v4) (by simp only [List.getElem?_toArray, List.getElem?_cons_zero, List.getElem?_cons_succ]; rfl) (by kernel_rfl) (by kernel_rfl) (by kernel_rfl) (fun _ _ _ h => h) (Or.inl ⟨by rfl, ?hy4⟩) (by assumption) ?rest4
  case hy4 => (intro w hSw; (try dsimp only at hSw); go_simp) <;> try with_reducible rfl
  simp only [Act.put, List.setIfInBounds_toArray, List.set_cons_zero, List.set_cons_succ]
  refine wpAnyH_take (i := 4) (v := ?v5) (by simp only [List.getElem?_toArray, List.getElem?_cons_zero, List.getElem?_cons_succ]; rfl) (by kernel_rfl) (by kernel_rfl) (by kernel_rfl) (fun _ _ _ h => h) (Or.inl ⟨by rfl, ?hy5⟩) (by assumption) ?rest5
  case hy5 => (intro w hSw; (try dsimp only at hSw); go_simp) <;> try with_reducible rfl
  simp only [Act.put, List.setIfInBounds_toArray, List.set_cons_zero, List.set_cons_succ]
  refine wpAnyH_ready (rs := [5]) (by kernel_rfl) (by simp) ?_
  refine AllReadyH.cons (by simp only [List.getElem?_toArray, List.getElem?_cons_zero, List.getElem?_cons_succ]; rfl) (fun K9 hK9 => ?_) ?_
  rotate_left
  exact AllReadyH.nil
  go_simp
  refine (addD_any W0 x vM T G U Ft HP3.out.ex.e Hwf.out HP3.out.ex.ris q).mono ?_
  rintro e w3 ⟨_, rfl, hc⟩
  rw [nx_add Hwf.out q] at hc
  have HP4 := hid (HP3.out.callx hc)
  have ha := hc.alt
  have Ho4 := hid (own_alt Ho3.out ha (by have := Hxl.out.1; have := Hs1.out; omega) (fun g hg => by have := Hxl.out.2.1 g hg; have := Hs1.out; omega))
  have HB4 := hid ((ha.old w.heap.size (by have := Hs1.out; have := Hs3.out; omega) (by have := Hxl.out.1; omega) (fun e => by have := Hxl.out.2.1 _ e; omega)).trans HB3.out)
  obtain ⟨v9, rfl, ho9, _⟩ := hc
  obtain ⟨A9, c9, rfl⟩ := own_form0 ho9
  have Ho9 := hid ho9
  have Hs9 := hid ha.sz
  clear ho9 ha
  go_simp
  refine hK9.out _ _ ?_ (fun hHeld => ?_)
  ·exact HS.out _ HP4.out.box HB4.out
  clear hK9 K9
  try simp only [Act.put, List.setIfInBounds_toArray, List.set_cons_zero, List.set_cons_succ]
  refine wpAnyH_take (i := 6) (v := ?v6) (by simp only [List.getElem?_toArray, List.getElem?_cons_zero, List.getElem?_cons_succ]; rfl) (by kernel_rfl) (by kernel_rfl) (by kernel_rfl) (fun _ _ _ h => h) (Or.inl ⟨by rfl, ?hy6⟩) (by assumption) ?rest6
  case hy6 => (intro w hSw; (try dsimp only at hSw); go_simp) <;> try with_reducible rfl
  simp only [Act.put, List.setIfInBounds_toArray, List.set_cons_zero, List.set_cons_succ]
  refine wpAnyH_take (i := 7) (v := ?v7) (by simp only [List.getElem?_toArray, List.getElem?_cons_zero, List.getElem?_cons_succ]; rfl) (by kernel_rfl) (by kernel_rfl) (by kernel_rfl) (fun _ _ _ h => h) (Or.inl ⟨by rfl, ?hy7⟩) (by assumption) ?rest7
  case hy7 => (intro w hSw; (try dsimp only at hSw); go_simp) <;> try with_reducible rfl
  simp only [Act.put, List.setIfInBounds_toArray, List.set_cons_zero, List.set_cons_succ]
  refine wpAnyH_take (i := 8) (v := ?v8) (by simp only [List.getElem?_toArray, List.getElem?_cons_zero, List.getElem?_cons_succ]; rfl) (by kernel_rfl) (by kernel_rfl) (by kernel_rfl) (fun _ _ _ h => h) (Or.inl ⟨by rfl, ?hy8⟩) (by assumption) ?rest8
  case hy8 => (intro w hSw; (try dsimp only at hSw); go_simp) <;> try with_reducible rfl
  simp only [Act.put, List.setIfInBounds_toArray, List.set_cons_zero, List.set_cons_succ]
  refine wpAnyH_take (i := 9) (v := ?v9) (by simp only [List.getElem?_toArray, List.getElem?_cons_zero, List.getElem?_cons_succ]; rfl) (by kernel_rfl) (by kernel_rfl) (by kernel_rfl) (fun _ _ _ h => h) (Or.inl ⟨by rfl, ?hy9⟩) (by assumption) ?rest9
  case hy9 => (intro w hSw; (try dsimp only at hSw); go_simp) <;> try with_reducible rfl
  simp only [Act.put, List.setIfInBounds_toArray, List.set_cons_zero, List.set_cons_succ]
  refine wpAnyH_take (i := 10) (v := ?v10) (by simp only [List.getElem?_toArray, List.getElem?_cons_zero, List.getElem?_cons_succ]; rfl) (by kernel_rfl) (by kernel_rfl) (by kernel_rfl) (fun _ _ _ h => h) (Or.inl ⟨by rfl, ?hy10⟩) (by assumption) ?rest10
  case hy10 => (intro w hSw; (try dsimp only at hSw); go_simp) <;> try with_reducible rfl
  simp only [Act.put, List.setIfInBounds_toArray, List.set_cons_zero, List.set_cons_succ]
  refine wpAnyH_done (by kernel_rfl) (NoPanic.normal ?_) _
  clear hHeld
  obtain ⟨y0, y1, y2⟩ := Hsb.out w3 HB4.out
  clear y0 y2
  go_wp2_with fail
  refine (add19_any w3 b T G Fr HP4.out.er Hwf.out HP2.out.ex.ris q).mono ?_
  rintro e w4 ⟨_, rfl, hc⟩
  have HP5 := hid (HP4.out.callm hc)
  clear y1
  obtain ⟨v10, rfl, ho10, _, ha⟩ := hc
  obtain ⟨A10, c10, rfl⟩ := own_form0 ho10
  have Ho10 := hid ho10
  have hbl := Hxl.out.2.2
  have hnil : ∀ g, (Value.slice none 0 0).ownBlock = some g → g < 0 := fun g e => by simp [Value.ownBlock] at e
  have Ho5 := hid (own_alt Ho4.out ha (by have := Hs1.out; omega) (fun g hg => by have := hnil g hg; omega))
  have Ho95 := hid (own_alt Ho9.out ha (by have := Hs1.out; have := Hs3.out; omega) (fun g hg => by have := hnil g hg; omega))
  clear ho10 ha hnil hbl
  obtain ⟨uF, uR, uB, uFa, uN, ⟨d0, d1, d2, d3, d4, d5⟩, hG9, _⟩ := HP5.out.facts
  have Hmv := hid (moved19_any w4 (.slice A8 G.length c8) uFa G (nxG (addE T G q) (addL G q) G) (own_rdI Ho5.out (by have := HGl.out; omega)) hG9 HGl.out (risT_len Hwf.out HP5.out.ex.ris))
  clear hG9 d0 d1 d2 d3 d5
  go_wp2_with fail
  refine Hmv.out.mono ?_
  rintro e wm ⟨vm, rfl, _, hbm⟩
  have HPm := hid (HP5.out.ext hbm)
  have Hsc := hid (sameCh_any wm _ _ _ _ (nxR (addE T G q) T (addL G q) G) (own_ext Ho95.out hbm) (own_ext Ho10.out hbm) (by have := nx_len (e := addE T G q) (F := addL G q) (G := G) Hwf.out; omega))
  clear hbm d4 Hmv
  go_wp2_with fail
  refine Hsc.out.mono ?_
  rintro e ws ⟨_, rfl, rfl, hbs⟩
  have HPs := hid (HPm.out.ext hbs)
  clear hbs Hsc
  go_wp2_with (go_at_call 10; refine (Hnum.out _ _).mono ?_; rintro e w' ⟨_, rfl, rfl, hw9⟩; rw [hw9]; clear hw9 w')
  go_ret2
  exact Fin HQ ⟨vm, _, _, _, _, _, _, by simp, HPs.out⟩
 have e0 : (what == 0) = false := by simp [h0]
 by_cases h1 : what = 1
 ·subst h1
  go_wp2_with fail
  clear z0
  have HS : Hid (∀ W : World, W.heap[bx]? = some (.cells #[.pointer (some ⟨x, 0, none⟩)] 28 (0, 0)) → W.heap[w.heap.size]? = some (.cells #[.int .i64 1, .int .i64 q, .slice A0 A.length cA0] 38 (0, 0)) → (fun w' : World => w'.cell? ⟨bx, 0, none⟩ = some (.pointer (some ⟨x, 0, none⟩)) ∧ w'.cell? ⟨w.heap.size, 1, none⟩ = some (.int .i64 q)) W) := hid fun W h1 h2 => ⟨cell_of_row _ _ 0 _ _ _ h1, (Hsb.out W h2).2.1⟩
  refine wp_region_noPanic ?_
  refine wp_region_held_drew (S := (fun w' : World => w'.cell? ⟨bx, 0, none⟩ = some (.pointer (some ⟨x, 0, none⟩)) ∧ w'.cell? ⟨w.heap.size, 1, none⟩ = some (.int .i64 q))) (by kernel_rfl) (HS.out _ HP2.out.box HB2.out) (fun hHeld => ?_)
  obtain ⟨W0, hW0⟩ : ∃ W, W = w2.drew := ⟨_, rfl⟩
  have HP3 : Hid (PM w0 W0 bx x vM b T G G U Ft Fr) := hid (by rw [hW0]; exact HP2.out.ext (ext_refl w2).drew)
  have Ho3 : Hid (W0.ownsRow W1.heap.size 3 1 (.slice A8 G.length c8) G.length (intsV G)) := hid (by rw [hW0]; exact own_ext Ho8.out (ext_refl w2).drew)
  have HB3 : Hid (W0.heap[w.heap.size]? = some (.cells #[.int .i64 1, .int .i64 q, .slice A0 A.length cA0] 38 (0, 0))) := hid (by rw [hW0]; exact HB2.out)
  have HA3 : Hid (RdI W0 (.slice A0 A.length cA0) A) := hid (by rw [hW0]; exact HA2.out.ext (scR_mono _) (ext_refl w2).drew)
  have Hs3 : Hid (W1.heap.size ≤ W0.heap.size) := hid (by rw [hW0]; exact Hs2.out)
  rw [← hW0]
  clear hW0 hHeld
  have hHeld := HS.out _ HP3.out.box HB3.out
  refine wpAnyH_take (i := 0) (v := ?v101) (by simp only [List.getElem?_toArray, List.getElem?_cons_zero, List.getElem?_cons_succ]; rfl) (by kernel_rfl) (by kernel_rfl) (by kernel_rfl) (fun _ _ _ h => h) (Or.inl ⟨by rfl, ?hy101⟩) (by assumption) ?rest101
  case hy101 => (intro w hSw; (try dsimp only at hSw); go_simp) <;> try with_reducible rfl
  simp only [Act.put, List.setIfInBounds_toArray, List.set_cons_zero, List.set_cons_succ]
  refine wpAnyH_take (i := 1) (v := ?v102) (by simp only [List.getElem?_toArray, List.getElem?_cons_zero, List.getElem?_cons_succ]; rfl) (by kernel_rfl) (by kernel_rfl) (by kernel_rfl) (fun _ _ _ h => h) (Or.inl ⟨by rfl, ?hy102⟩) (by assumption) ?rest102
  case hy102 => (intro w hSw; (try dsimp only at hSw); go_simp) <;> try with_reducible rfl
  simp only [Act.put, List.setIfInBounds_toArray, List.set_cons_zero, List.set_cons_succ]
  refine wpAnyH_take (i := 2) (v := ?v103) (by simp only [List.getElem?_toArray, List.getElem?_cons_zero, List.getElem?_cons_succ]; rfl) (by kernel_rfl) (by kernel_rfl) (by kernel_rfl) (fun _ _ _ h => h) (Or.inl ⟨by rfl, ?hy103⟩) (by assumption) ?rest103
  case hy103 => (intro w hSw; (try dsimp only at hSw); go_simp) <;> try with_reducible rfl
  simp only [Act.put, List.setIfInBounds_toArray, List.set_cons_zero, List.set_cons_succ]
  refine wpAnyH_take (i := 3) (v := ?v104) (by simp only [List.getElem?_toArray, List.getElem?_cons_zero, List.getElem?_cons_succ]; rfl) (by kernel_rfl) (by kernel_rfl) (by kernel_rfl) (fun _ _ _ h => h) (Or.inl ⟨by rfl, ?hy104⟩) (by assumption) ?rest104
  case hy104 => (intro w hSw; (try dsimp only at hSw); go_simp) <;> try with_reducible rfl
  simp only [Act.put, List.setIfInBounds_toArray, List.set_cons_zero, List.set_cons_succ]
  refine wpAnyH_take (i := 4) (v := ?v105) (by simp only [List.getElem?_toArray, List.getElem?_cons_zero, List.getElem?_cons_succ]; rfl) (by kernel_rfl) (by kernel_rfl) (by kernel_rfl) (fun _ _ _ h => h) (Or.inl ⟨by rfl, ?hy105⟩) (by assumption) ?rest105
  case hy105 => (intro w hSw; (try dsimp only at hSw); go_simp) <;> try with_reducible rfl
  simp only [Act.put, List.setIfInBounds_toArray, List.set_cons_zero, List.set_cons_succ]
  refine wpAnyH_ready (rs := [5]) (by kernel_rfl) (by simp) ?_
  refine AllReadyH.cons (by simp only [List.getElem?_toArray, List.getElem?_cons_zero, List.getElem?_cons_succ]; rfl) (fun K9 hK9 => ?_) ?_
  rotate_left
  exact AllReadyH.nil
  go_simp
  refine (dropD_any W0 x vM T G U Ft HP3.out.ex.e Hwf.out HP3.out.ex.ris q).mono ?_
  rintro e w3 ⟨_, rfl, hc⟩
  rw [nx_drop Hwf.out HP2.out.ex.ris q] at hc
  have HP4 := hid (HP3.out.callx hc)
  have ha := hc.alt
  have Ho4 := hid (own_alt Ho3.out ha (by have := Hxl.out.1; have := Hs1.out; omega) (fun g hg => by have := Hxl.out.2.1 g hg; have := Hs1.out; omega))
  have HB4 := hid ((ha.old w.heap.size (by have := Hs1.out; have := Hs3.out; omega) (by have := Hxl.out.1; omega) (fun e => by have := Hxl.out.2.1 _ e; omega)).trans HB3.out)
  obtain ⟨v9, rfl, ho9, _⟩ := hc
  obtain ⟨A9, c9, rfl⟩ := own_form0 ho9
  have Ho9 := hid ho9
  have Hs9 := hid ha.sz
  clear ho9 ha
  go_simp
  refine hK9.out _ _ ?_ (fun hHeld => ?_)
  ·exact HS.out _ HP4.out.box HB4.out
  clear hK9 K9
  try simp only [Act.put, List.setIfInBounds_toArray, List.set_cons_zero, List.set_cons_succ]
  refine wpAnyH_take (i := 6) (v := ?v106) (by simp only [List.getElem?_toArray, List.getElem?_cons_zero, List.getElem?_cons_succ]; rfl) (by kernel_rfl) (by kernel_rfl) (by kernel_rfl) (fun _ _ _ h => h) (Or.inl ⟨by rfl, ?hy106⟩) (by assumption) ?rest106
  case hy106 => (intro w hSw; (try dsimp only at hSw); go_simp) <;> try with_reducible rfl
  simp only [Act.put, List.setIfInBounds_toArray, List.set_cons_zero, List.set_cons_succ]
  refine wpAnyH_take (i := 7) (v := ?v107) (by simp only [List.getElem?_toArray, List.getElem?_cons_zero, List.getElem?_cons_succ]; rfl) (by kernel_rfl) (by kernel_rfl) (by kernel_rfl) (fun _ _ _ h => h) (Or.inl ⟨by rfl, ?hy107⟩) (by assumption) ?rest107
  case hy107 => (intro w hSw; (try dsimp only at hSw); go_simp) <;> try with_reducible rfl
  simp only [Act.put, List.setIfInBounds_toArray, List.set_cons_zero, List.set_cons_succ]
  refine wpAnyH_take (i := 8) (v := ?v108) (by simp only [List.getElem?_toArray, List.getElem?_cons_zero, List.getElem?_cons_succ]; rfl) (by kernel_rfl) (by kernel_rfl) (by kernel_rfl) (fun _ _ _ h => h) (Or.inl ⟨by rfl, ?hy108⟩) (by assumption) ?rest108
  case hy108 => (intro w hSw; (try dsimp only at hSw); go_simp) <;> try with_reducible rfl
  simp only [Act.put, List.setIfInBounds_toArray, List.set_cons_zero, List.set_cons_succ]
  refine wpAnyH_take (i := 9) (v := ?v109) (by simp only [List.getElem?_toArray, List.getElem?_cons_zero, List.getElem?_cons_succ]; rfl) (by kernel_rfl) (by kernel_rfl) (by kernel_rfl) (fun _ _ _ h => h) (Or.inl ⟨by rfl, ?hy109⟩) (by assumption) ?rest109
  case hy109 => (intro w hSw; (try dsimp only at hSw); go_simp) <;> try with_reducible rfl
  simp only [Act.put, List.setIfInBounds_toArray, List.set_cons_zero, List.set_cons_succ]
  refine wpAnyH_take (i := 10) (v := ?v110) (by simp only [List.getElem?_toArray, List.getElem?_cons_zero, List.getElem?_cons_succ]; rfl) (by kernel_rfl) (by kernel_rfl) (by kernel_rfl) (fun _ _ _ h => h) (Or.inl ⟨by rfl, ?hy110⟩) (by assumption) ?rest110
  case hy110 => (intro w hSw; (try dsimp only at hSw); go_simp) <;> try with_reducible rfl
  simp only [Act.put, List.setIfInBounds_toArray, List.set_cons_zero, List.set_cons_succ]
  refine wpAnyH_done (by kernel_rfl) (NoPanic.normal ?_) _
  clear hHeld
  obtain ⟨y0, y1, y2⟩ := Hsb.out w3 HB4.out
  clear y0 y2
  go_wp2_with fail
  refine (drop19_any w3 b T G Fr HP4.out.er Hwf.out HP2.out.ex.ris q).mono ?_
  rintro e w4 ⟨_, rfl, hc⟩
  have HP5 := hid (HP4.out.callm hc)
  clear y1
  obtain ⟨v10, rfl, ho10, _, ha⟩ := hc
  obtain ⟨A10, c10, rfl⟩ := own_form0 ho10
  have Ho10 := hid ho10
  have hbl := Hxl.out.2.2
  have hnil : ∀ g, (Value.slice none 0 0).ownBlock = some g → g < 0 := fun g e => by simp [Value.ownBlock] at e
  have Ho5 := hid (own_alt Ho4.out ha (by have := Hs1.out; omega) (fun g hg => by have := hnil g hg; omega))
  have Ho95 := hid (own_alt Ho9.out ha (by have := Hs1.out; have := Hs3.out; omega) (fun g hg => by have := hnil g hg; omega))
  clear ho10 ha hnil hbl
  obtain ⟨uF, uR, uB, uFa, uN, ⟨d0, d1, d2, d3, d4, d5⟩, hG9, _⟩ := HP5.out.facts
  have Hmv := hid (moved19_any w4 (.slice A8 G.length c8) uFa G (nxG (dropE T G q) (dropL G q) G) (own_rdI Ho5.out (by have := HGl.out; omega)) hG9 HGl.out (risT_len Hwf.out HP5.out.ex.ris))
  clear hG9 d0 d1 d2 d3 d5
  go_wp2_with fail
  refine Hmv.out.mono ?_
  rintro e wm ⟨vm, rfl, _, hbm⟩
  have HPm := hid (HP5.out.ext hbm)
  have Hsc := hid (sameCh_any wm _ _ _ _ (nxR (dropE T G q) T (dropL G q) G) (own_ext Ho95.out hbm) (own_ext Ho10.out hbm) (by have := nx_len (e := dropE T G q) (F := dropL G q) (G := G) Hwf.out; omega))
  clear hbm d4 Hmv
  go_wp2_with fail
  refine Hsc.out.mono ?_
  rintro e ws ⟨_, rfl, rfl, hbs⟩
  have HPs := hid (HPm.out.ext hbs)
  clear hbs Hsc
  go_wp2_with (go_at_call 10; refine (Hnum.out _ _).mono ?_; rintro e w' ⟨_, rfl, rfl, hw9⟩; rw [hw9]; clear hw9 w')
  go_ret2
  exact Fin HQ ⟨vm, _, _, _, _, _, _, by simp, HPs.out⟩
 have e1 : (what == 1) = false := by simp [h1]
 by_cases h2 : what = 2
 ·subst h2
  go_wp2_with fail
  clear z0
  have HS : Hid (∀ W : World, W.heap[bx]? = some (.cells #[.pointer (some ⟨x, 0, none⟩)] 28 (0, 0)) → W.heap[w.heap.size]? = some (.cells #[.int .i64 2, .int .i64 q, .slice A0 A.length cA0] 38 (0, 0)) → (fun w' : World => w'.cell? ⟨bx, 0, none⟩ = some (.pointer (some ⟨x, 0, none⟩)) ∧ w'.cell? ⟨w.heap.size, 2, none⟩ = some (.slice A0 A.length cA0)) W) := hid fun W h1 h2 => ⟨cell_of_row _ _ 0 _ _ _ h1, (Hsb.out W h2).2.2⟩
  refine wp_region_noPanic ?_
  refine wp_region_held_drew (S := (fun w' : World => w'.cell? ⟨bx, 0, none⟩ = some (.pointer (some ⟨x, 0, none⟩)) ∧ w'.cell? ⟨w.heap.size, 2, none⟩ = some (.slice A0 A.length cA0))) (by kernel_rfl) (HS.out _ HP2.out.box HB2.out) (fun hHeld => ?_)
  obtain ⟨W0, hW0⟩ : ∃ W, W = w2.drew := ⟨_, rfl⟩
  have HP3 : Hid (PM w0 W0 bx x vM b T G G U Ft Fr) := hid (by rw [hW0]; exact HP2.out.ext (ext_refl w2).drew)
  have Ho3 : Hid (W0.ownsRow W1.heap.size 3 1 (.slice A8 G.length c8) G.length (intsV G)) := hid (by rw [hW0]; exact own_ext Ho8.out (ext_refl w2).drew)
  have HB3 : Hid (W0.heap[w.heap.size]? = some (.cells #[.int .i64 2, .int .i64 q, .slice A0 A.length cA0] 38 (0, 0))) := hid (by rw [hW0]; exact HB2.out)
  have HA3 : Hid (RdI W0 (.slice A0 A.length cA0) A) := hid (by rw [hW0]; exact HA2.out.ext (scR_mono _) (ext_refl w2).drew)
  have Hs3 : Hid (W1.heap.size ≤ W0.heap.size) := hid (by rw [hW0]; exact Hs2.out)
  rw [← hW0]
  clear hW0 hHeld
  have hHeld := HS.out _ HP3.out.box HB3.out
  refine wpAnyH_take (i := 0) (v := ?v201) (by simp only [List.getElem?_toArray, List.getElem?_cons_zero, List.getElem?_cons_succ]; rfl) (by kernel_rfl) (by kernel_rfl) (by kernel_rfl) (fun _ _ _ h => h) (Or.inl ⟨by rfl, ?hy201⟩) (by assumption) ?rest201
  case hy201 => (intro w hSw; (try dsimp only at hSw); go_simp) <;> try with_reducible rfl
  simp only [Act.put, List.setIfInBounds_toArray, List.set_cons_zero, List.set_cons_succ]
  refine wpAnyH_take (i := 1) (v := ?v202) (by simp only [List.getElem?_toArray, List.getElem?_cons_zero, List.getElem?_cons_succ]; rfl) (by kernel_rfl) (by kernel_rfl) (by kernel_rfl) (fun _ _ _ h => h) (Or.inl ⟨by rfl, ?hy202⟩) (by assumption) ?rest202
  case hy202 => (intro w hSw; (try dsimp only at hSw); go_simp) <;> try with_reducible rfl
  simp only [Act.put, List.setIfInBounds_toArray, List.set_cons_zero, List.set_cons_succ]
  refine wpAnyH_take (i := 2) (v := ?v203) (by simp only [List.getElem?_toArray, List.getElem?_cons_zero, List.getElem?_cons_succ]; rfl) (by kernel_rfl) (by kernel_rfl) (by kernel_rfl) (fun _ _ _ h => h) (Or.inl ⟨by rfl, ?hy203⟩) (by assumption) ?rest203
  case hy203 => (intro w hSw; (try dsimp only at hSw); go_simp) <;> try with_reducible rfl
  simp only [Act.put, List.setIfInBounds_toArray, List.set_cons_zero, List.set_cons_succ]
  refine wpAnyH_take (i := 3) (v := ?v204) (by simp only [List.getElem?_toArray, List.getElem?_cons_zero, List.getElem?_cons_succ]; rfl) (by kernel_rfl) (by kernel_rfl) (by kernel_rfl) (fun _ _ _ h => h) (Or.inl ⟨by rfl, ?hy204⟩) (by assumption) ?rest204
  case hy204 => (intro w hSw; (try dsimp only at hSw); go_simp) <;> try with_reducible rfl
  simp only [Act.put, List.setIfInBounds_toArray, List.set_cons_zero, List.set_cons_succ]
  refine wpAnyH_take (i := 4) (v := ?v205) (by simp only [List.getElem?_toArray, List.getElem?_cons_zero, List.getElem?_cons_succ]; rfl) (by kernel_rfl) (by kernel_rfl) (by kernel_rfl) (fun _ _ _ h => h) (Or.inl ⟨by rfl, ?hy205⟩) (by assumption) ?rest205
  case hy205 => (intro w hSw; (try dsimp only at hSw); go_simp) <;> try with_reducible rfl
  simp only [Act.put, List.setIfInBounds_toArray, List.set_cons_zero, List.set_cons_succ]
  refine wpAnyH_ready (rs := [5]) (by kernel_rfl) (by simp) ?_
  refine AllReadyH.cons (by simp only [List.getElem?_toArray, List.getElem?_cons_zero, List.getElem?_cons_succ]; rfl) (fun K9 hK9 => ?_) ?_
  rotate_left
  exact AllReadyH.nil
  go_simp
  refine (copyI_any W0 _ A HA3.out HA8.out).mono ?_
  rintro e W0b ⟨vg, rfl, hog, hbg⟩
  obtain ⟨Ag, cg, rfl⟩ := own_form0 hog
  have Hog := hid hog
  have Hsg := hid hbg.size
  have HP3 := hid (HP3.out.ext hbg)
  have Ho3 := hid (own_ext Ho3.out hbg)
  have HB3 := hid ((hbg.block w.heap.size (by have := Hs1.out; have := Hs3.out; omega)).trans HB3.out)
  clear hog hbg
  go_simp
  refine hK9.out _ _ ?_ (fun hHeld => ?_)
  ·exact HS.out _ HP3.out.box HB3.out
  clear hK9 K9
  try simp only [Act.put, List.setIfInBounds_toArray, List.set_cons_zero, List.set_cons_succ]
  refine wpAnyH_ready (rs := [6]) (by kernel_rfl) (by simp) ?_
  refine AllReadyH.cons (by simp only [List.getElem?_toArray, List.getElem?_cons_zero, List.getElem?_cons_succ]; rfl) (fun K9 hK9 => ?_) ?_
  rotate_left
  exact AllReadyH.nil
  go_simp
  refine (setD_any W0b x vM T G U Ft HP3.out.ex.e Hwf.out HP3.out.ex.ris _ A (own_rdI Hog.out (by have := HA8.out; omega))).mono ?_
  rintro e w3 ⟨_, rfl, hc⟩
  rw [nx_set Hwf.out A] at hc
  have HP4 := hid (HP3.out.callx hc)
  have ha := hc.alt
  have Ho4 := hid (own_alt Ho3.out ha (by have := Hxl.out.1; have := Hs1.out; omega) (fun g hg => by have := Hxl.out.2.1 g hg; have := Hs1.out; omega))
  have HB4 := hid ((ha.old w.heap.size (by have := Hs1.out; have := Hs3.out; have := Hsg.out; omega) (by have := Hxl.out.1; omega) (fun e => by have := Hxl.out.2.1 _ e; omega)).trans HB3.out)
  obtain ⟨v9, rfl, ho9, _⟩ := hc
  obtain ⟨A9, c9, rfl⟩ := own_form0 ho9
  have Ho9 := hid ho9
  have Hs9 := hid ha.sz
  clear ho9 ha
  go_simp
  refine hK9.out _ _ ?_ (fun hHeld => ?_)
  ·exact HS.out _ HP4.out.box HB4.out
  clear hK9 K9
  try simp only [Act.put, List.setIfInBounds_toArray, List.set_cons_zero, List.set_cons_succ]
  refine wpAnyH_take (i := 7) (v := ?v206) (by simp only [List.getElem?_toArray, List.getElem?_cons_zero, List.getElem?_cons_succ]; rfl) (by kernel_rfl) (by kernel_rfl) (by kernel_rfl) (fun _ _ _ h => h) (Or.inl ⟨by rfl, ?hy206⟩) (by assumption) ?rest206
  case hy206 => (intro w hSw; (try dsimp only at hSw); go_simp) <;> try with_reducible rfl
  simp only [Act.put, List.setIfInBounds_toArray, List.set_cons_zero, List.set_cons_succ]
  refine wpAnyH_take (i := 8) (v := ?v207) (by simp only [List.getElem?_toArray, List.getElem?_cons_zero, List.getElem?_cons_succ]; rfl) (by kernel_rfl) (by kernel_rfl) (by kernel_rfl) (fun _ _ _ h => h) (Or.inl ⟨by rfl, ?hy207⟩) (by assumption) ?rest207
  case hy207 => (intro w hSw; (try dsimp only at hSw); go_simp) <;> try with_reducible rfl
  simp only [Act.put, List.setIfInBounds_toArray, List.set_cons_zero, List.set_cons_succ]
  refine wpAnyH_take (i := 9) (v := ?v208) (by simp only [List.getElem?_toArray, List.getElem?_cons_zero, List.getElem?_cons_succ]; rfl) (by kernel_rfl) (by kernel_rfl) (by kernel_rfl) (fun _ _ _ h => h) (Or.inl ⟨by rfl, ?hy208⟩) (by assumption) ?rest208
  case hy208 => (intro w hSw; (try dsimp only at hSw); go_simp) <;> try with_reducible rfl
  simp only [Act.put, List.setIfInBounds_toArray, List.set_cons_zero, List.set_cons_succ]
  refine wpAnyH_take (i := 10) (v := ?v209) (by simp only [List.getElem?_toArray, List.getElem?_cons_zero, List.getElem?_cons_succ]; rfl) (by kernel_rfl) (by kernel_rfl) (by kernel_rfl) (fun _ _ _ h => h) (Or.inl ⟨by rfl, ?hy209⟩) (by assumption) ?rest209
  case hy209 => (intro w hSw; (try dsimp only at hSw); go_simp) <;> try with_reducible rfl
  simp only [Act.put, List.setIfInBounds_toArray, List.set_cons_zero, List.set_cons_succ]
  refine wpAnyH_take (i := 11) (v := ?v210) (by simp only [List.getElem?_toArray, List.getElem?_cons_zero, List.getElem?_cons_succ]; rfl) (by kernel_rfl) (by kernel_rfl) (by kernel_rfl) (fun _ _ _ h => h) (Or.inl ⟨by rfl, ?hy210⟩) (by assumption) ?rest210
  case hy210 => (intro w hSw; (try dsimp only at hSw); go_simp) <;> try with_reducible rfl
  simp only [Act.put, List.setIfInBounds_toArray, List.set_cons_zero, List.set_cons_succ]
  refine wpAnyH_done (by kernel_rfl) (NoPanic.normal ?_) _
  clear hHeld
  obtain ⟨y0, y1, y2⟩ := Hsb.out w3 HB4.out
  clear y0 y1
  have HA4 : Hid (RdI w3 (.slice A0 A.length cA0) A) := hid (HA.out.ext (scR_mono _) HP4.out.ex.bel)
  go_wp2_with fail
  refine (set19_any w3 b T G Fr HP4.out.er Hwf.out HP2.out.ex.ris (.slice A0 A.length cA0) A HA4.out HA8.out).mono ?_
  rintro e w4 ⟨_, rfl, hc⟩
  have HP5 := hid (HP4.out.callm hc)
  clear y2
  obtain ⟨v10, rfl, ho10, _, ha⟩ := hc
  obtain ⟨A10, c10, rfl⟩ := own_form0 ho10
  have Ho10 := hid ho10
  have hbl := Hxl.out.2.2
  have hnil : ∀ g, (Value.slice none 0 0).ownBlock = some g → g < 0 := fun g e => by simp [Value.ownBlock] at e
  have Ho5 := hid (own_alt Ho4.out ha (by have := Hs1.out; omega) (fun g hg => by have := hnil g hg; omega))
  have Ho95 := hid (own_alt Ho9.out ha (by have := Hs1.out; have := Hs3.out; have := Hsg.out; omega) (fun g hg => by have := hnil g hg; omega))
  clear ho10 ha hnil hbl
  obtain ⟨uF, uR, uB, uFa, uN, ⟨d0, d1, d2, d3, d4, d5⟩, hG9, _⟩ := HP5.out.facts
  have Hmv := hid (moved19_any w4 (.slice A8 G.length c8) uFa G (nxG (setE T A) (A) G) (own_rdI Ho5.out (by have := HGl.out; omega)) hG9 HGl.out (risT_len Hwf.out HP5.out.ex.ris))
  clear hG9 d0 d1 d2 d3 d5
  go_wp2_with fail
  refine Hmv.out.mono ?_
  rintro e wm ⟨vm, rfl, _, hbm⟩
  have HPm := hid (HP5.out.ext hbm)
  have Hsc := hid (sameCh_any wm _ _ _ _ (nxR (setE T A) T (A) G) (own_ext Ho95.out hbm) (own_ext Ho10.out hbm) (by have := nx_len (e := setE T A) (F := A) (G := G) Hwf.out; omega))
  clear hbm d4 Hmv
  go_wp2_with fail
  refine Hsc.out.mono ?_
  rintro e ws ⟨_, rfl, rfl, hbs⟩
  have HPs := hid (HPm.out.ext hbs)
  clear hbs Hsc
  go_wp2_with (go_at_call 10; refine (Hnum.out _ _).mono ?_; rintro e w' ⟨_, rfl, rfl, hw9⟩; rw [hw9]; clear hw9 w')
  go_ret2
  exact Fin HQ ⟨vm, _, _, _, _, _, _, by simp, HPs.out⟩
 have e2 : (what == 2) = false := by simp [h2]
 by_cases h3 : what = 3
 ·subst h3
  have y0 := HP2.out.boxc
  clear h0 h1 h2
  go_wp2_with fail
  refine (copyD_any w2 x vM T G _ U Ft HP2.out.ex.e Hwf.out).mono ?_
  rintro e w3 ⟨_, rfl, hb3, y, vN, rfl, hy⟩
  have HP3 := hid (HP2.out.ext hb3)
  have Hy := hid hy
  have Hb3 := hid hb3
  have Ho3 := hid (own_ext Ho8.out hb3)
  clear hb3 hy y0
  have y0 := HP3.out.boxc
  go_wp2_with fail
  refine (setD_any w3 x vM T G U Ft HP3.out.ex.e Hwf.out HP3.out.ex.ris (.slice none 0 0) [] (rdI_nil _)).mono ?_
  rintro e w4 ⟨_, rfl, hc⟩
  have HP4 := hid (HP3.out.callx hc)
  have HP5 := hid (HP2.out.swap Hb3.out Hy.out hc)
  have Ho4 := hid (own_alt Ho3.out hc.alt (by have := Hxl.out.1; have := Hs1.out; omega) (fun g hg => by have := Hxl.out.2.1 g hg; have := Hs1.out; omega))
  have Ho5 := hid (ownsRow_setCell_other Ho4.out (a := ⟨bx, 0, none⟩) (fun e => by have h9 := (Ho4.out.lt _ e).1; have h8 := lt_of_block HP0b.out; have := Hs1.out; dsimp only at h9; omega) (.pointer (some ⟨y, 0, none⟩)))
  have hf := frozen_of_row w4 bx 0 _ _ HP4.out.box
  obtain ⟨v9, rfl, _⟩ := hc
  clear y0 HP3 Hy Hb3 Ho3 Ho4
  have y0 := HP4.out.boxc
  obtain ⟨uF, uR, uB, uFa, uN, ⟨d0, d1, d2, d3, d4, d5⟩, hG9, _⟩ := HP5.out.facts
  have hbne := HP4.out.ne.2.2.2.2
  have k4 : w4.cell? ⟨b, 4, none⟩ = some uFa := by rw [World.cell?_setCell_far _ _ _ _ (show bx ≠ b from hbne)] at d4; exact d4
  have Hmv := hid (moved19_any (w4.setCell ⟨bx, 0, none⟩ (.pointer (some ⟨y, 0, none⟩))) (.slice A8 G.length c8) uFa G G (own_rdI Ho5.out (by have := HGl.out; omega)) hG9 HGl.out HGl.out)
  clear d0 d1 d2 d3 d4 d5 hG9

  go_wp2_with fail
  refine Hmv.out.mono ?_
  rintro e wm ⟨vm, rfl, _, hbm⟩
  have HPm := hid (HP5.out.ext hbm)
  have Hsc := hid (sameCh_any wm (.slice none 0 0) (.slice none 0 0) _ _ [] (own_ext (World.ownsRow_nil _ 0 60 3) hbm) (own_ext (World.ownsRow_nil _ 0 60 3) hbm) (by simp))
  clear hbm Hmv
  go_wp2_with fail
  refine Hsc.out.mono ?_
  rintro e ws ⟨_, rfl, rfl, hbs⟩
  have HPs := hid (HPm.out.ext hbs)
  clear hbs Hsc
  go_wp2_with (go_at_call 10; refine (Hnum.out _ _).mono ?_; rintro e w' ⟨_, rfl, rfl, hw9⟩; rw [hw9]; clear hw9 w')
  go_ret2
  exact Fin HQ ⟨vm, _, _, _, _, _, _, by simp, HPs.out⟩
 have e3 : (what == 3) = false := by simp [h3]
 clear h0 h1 h2 h3
 obtain ⟨uF, uR, uB, uFa, uN, ⟨d0, d1, d2, d3, d4, d5⟩, hG9, _⟩ := HP2.out.facts
 have Hmv := hid (moved19_any w2 (.slice A8 G.length c8) uFa G G (own_rdI Ho8.out (by have := HGl.out; omega)) hG9 HGl.out HGl.out)
 clear hG9 d0 d1 d2 d3 d5
 go_wp2_with fail
 refine Hmv.out.mono ?_
 rintro e wm ⟨vm, rfl, _, hbm⟩
 have HPm := hid (HP2.out.ext hbm)
 have Hsc := hid (sameCh_any wm (.slice none 0 0) (.slice none 0 0) _ _ [] (own_ext (World.ownsRow_nil _ 0 60 3) hbm) (own_ext (World.ownsRow_nil _ 0 60 3) hbm) (by simp))
 clear hbm d4 Hmv
 go_wp2_with fail
 refine Hsc.out.mono ?_
 rintro e ws ⟨_, rfl, rfl, hbs⟩
 have HPs := hid (HPm.out.ext hbs)
 clear hbs Hsc
 go_wp2_with (go_at_call 10; refine (Hnum.out _ _).mono ?_; rintro e w' ⟨_, rfl, rfl, hw9⟩; rw [hw9]; clear hw9 w')
 go_ret2
 exact Fin HQ ⟨vm, _, _, _, _, _, _, by simp, HPs.out⟩
end Go.Proofs.Lx
