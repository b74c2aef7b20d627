/- Parts of the proof: Mp. The book's lists of Pairs: marked, grown, looked at. -/
import Derived.Test.YtalhpldbhogadaaGreatO1
import Derived.Test.YtalhpldbhogadaaGreatO3
import Derived.Deep.RegionHeld3
namespace Go.Proofs.Lx
open Go Go.RowKit
set_option linter.unusedVariables false
set_option linter.unusedSimpArgs false
theorem infoapPE : (Tryz.prog.info? 98).map (fun i => (i.zero, i.size, i.bytes)) = some (some (.agg #[.int .i64 0, .int .i64 0]), 2, 16) := by kernel_rfl
theorem infoapPL : (Tryz.prog.info? 61).map (fun i => (i.zero, i.size, i.bytes)) = some (some (.slice none 0 0), 1, 24) := by kernel_rfl
def mcapP (i k : Nat) (q : Nat) : Value := .int .i64 (if q = 0 then -1 - (i : Int) else -1 - (k : Int))
theorem markapP (w : World) (i k : Nat) (hi : i ≤ 1000) (hk : k ≤ 80000) :
  Calls Tryz.prog 61 #[.int .i64 (i : Int), .int .i64 (k : Int)] w (Ret fun v w' => v = .agg #[.int .i64 (-1 - (i : Int)), .int .i64 (-1 - (k : Int))] ∧ Below w.heap.size w w') := by
 have hn := heap_alloc_new w (.cells #[.int .i64 (-1 - (i : Int)), .int .i64 (-1 - (k : Int))] 98)
 have o0 := cell_of_row _ _ 0 _ _ _ hn
 have o1 := cell_of_row _ _ 1 _ _ _ hn
 simp only [List.getElem?_toArray, List.getElem?_cons_zero, List.getElem?_cons_succ] at o0 o1
 clear hn
 refine post_gen fun Q HQ => ?_
 go_enter Tryz.func61, Tryz.ntmps61
 go_wp2
 refine bodyPost_ret (by simp [results, Tryz.results61, go_sem, o0, o1]; try rfl) rfl ?_
 exact Fin HQ ⟨rfl, ext_alloc _ _⟩
theorem cell_two_newB (w : World) (x y : Value) (t : TypeId) : ∀ j u, [x, y][j]? = some u → (w.alloc (.cells #[x, y] t)).cell? ((⟨w.heap.size, 0, none⟩ : Addr).add j) = some u := by
 intro j u hj
 have hn := heap_alloc_new w (.cells #[x, y] t)
 rw [add_plain, cell_of_row _ _ j _ _ _ hn]
 simpa using hj
theorem own_atapP {w : World} {lb m : Nat} {v : Value} {xs : List Value} (h : w.ownsRow lb 61 1 v m xs) {i : Nat} {u : Value} (hu : xs[i]? = some u) : ∃ gl cap, v = .slice (some ⟨gl, 0, none⟩) m cap ∧ w.cell? ⟨gl, i, none⟩ = some u := by
 rcases h.2 with ⟨h1, h2⟩ | ⟨gg, cp, cur, h1, h2, h3, h4, h5, h6, h7⟩
 ·have h3 := h.1
  rw [h2] at h3
  have := (List.getElem?_eq_some_iff.1 hu).1
  omega
 ·have := h.cells (g := gg) (by rw [h1]; rfl) i u hu
  rw [add_plain] at this
  exact ⟨gg, cp, h1, this⟩
theorem own_frmapP {w : World} {base e size n : Nat} {v : Value} {xs : List Value} (h : w.ownsRow base e size v n xs) : ∃ A c, v = .slice A n c := by
 rcases h.2 with ⟨h1, h2⟩ | ⟨g, cap, cur, h1, _⟩
 ·exact ⟨none, 0, by rw [h1, h2]⟩
 ·exact ⟨_, cap, h1⟩
theorem own_frsapP {w : World} {base e size n : Nat} {v : Value} {xs : List Value} (h : w.ownsRow base e size v (n + 1) xs) : ∃ g c, v = .slice (some ⟨g, 0, none⟩) (n + 1) c := by
 rcases h.2 with ⟨_, h2⟩ | ⟨g, cap, cur, h1, _⟩
 ·omega
 ·exact ⟨g, cap, h1⟩
set_option maxRecDepth 100000 in
set_option maxHeartbeats 3200000 in
theorem apP_any (w : World) (b lb base N : Nat) (G n c : Nat → Nat) (x : Nat → List Value) (v : Value) (bk : Array Value) (hbox : w.heap[b]? = some (.cells bk 52 (0, 0))) (hv : bk[4]? = some v)
  (hl : w.ownsRow lb 61 1 v N (listV N G n c)) (hk : Bk w base 98 2 N G n c x) (hN : N ≤ 1000) :
  Calls Tryz.prog 27 #[.pointer (some ⟨b, 0, none⟩)] w (Ret fun r w' => r = .bool true ∧ Chg w w' N G) := by
 obtain ⟨A, cv, rfl⟩ := own_frmapP hl
 have hc0 : w.cell? ⟨b, 4, none⟩ = some (.slice A N cv) := by rw [cell_of_row w b _ _ _ _ hbox]; exact hv
 have Hmk := hid markapP
 have Hl := hid hl
 have Hk0 := hid hk
 obtain ⟨i0, hi0, hz0, hz1, hz2⟩ := info_parts infoapPE
 obtain ⟨i1, hi1, hy0, hy1, hy2⟩ := info_parts infoapPL
 have hne : 98 ≠ 61 := by decide
 clear hl hk hbox hv
 refine post_gen fun Q HQ => ?_
 go_enter Tryz.func27, Tryz.ntmps27
 go_wp2_with fail
 clear hc0
 go_loopw [4] (fun v4 wr => ∃ (i : Nat) (y : Nat → List Value), i ≤ N ∧ v4 = .int .i64 (i : Int) ∧ Bk wr base 98 2 N G n c y ∧ (∀ j, j < i → PW 2 mcapP (y j) j (n j)) ∧ Chg w wr N G) (fun v4 _ => N - (intOf v4).toNat)
 case atStart => exact ⟨0, x, Nat.zero_le _, rfl, Hk0.out, fun j hj => by omega, Chg.refl _ _ _⟩
 case round =>
  obtain ⟨i, y, hi, rfl, hbk, hpw, hch⟩ := hrel
  by_cases hiN : i < N
  ·obtain ⟨gl, cap', e9, hcell⟩ := own_atapP (own_other Hk0.out Hl.out hne hch) (listV_at hiN)
   cases e9
   unfold rowV at hcell
   have Hbk := hid hbk
   have Hpw := hid hpw
   have Hch := hid hch
   clear hbk hpw hch
   go_wp2_with fail
   clear hcell
   go_loopw [5] (fun v5 wr => ∃ (k : Nat) (y : Nat → List Value), k ≤ n i ∧ v5 = .int .i64 (k : Int) ∧ Bk wr base 98 2 N G n c y ∧ (∀ j, j < i → PW 2 mcapP (y j) j (n j)) ∧ PW 2 mcapP (y i) i k ∧ Chg w wr N G) (fun v5 _ => n i - (intOf v5).toNat)
   case atStart => exact ⟨0, y, Nat.zero_le _, rfl, Hbk.out, Hpw.out, fun k hk => by omega, Hch.out⟩
   case round =>
    clear Hbk Hpw Hch
    obtain ⟨k, y, hk, rfl, hbk, hpw, hpk, hch⟩ := hrel
    obtain ⟨gl2, cap2, e9, hcell⟩ := own_atapP (own_other Hk0.out Hl.out hne hch) (listV_at hiN)
    cases e9
    unfold rowV at hcell
    obtain ⟨hn0, hn1⟩ := hbk.pos i hiN
    by_cases hkn : k < n i
    ·have ho := hbk.own i hiN
     unfold rowV at ho
     obtain ⟨cur, hcur, _, hnc, hcx⟩ := row_block ho
     have hlen : (y i).length = n i * 2 := ho.1
     have hcq := hcx (k * 2) _ (List.getElem?_eq_getElem (by omega : k * 2 < (y i).length))
     have hcr := hcx (k * 2 + 1) _ (List.getElem?_eq_getElem (by omega : k * 2 + 1 < (y i).length))
     have hgG : gl ≠ G i := fun e9 => by
      obtain ⟨g9, c9, e10, hc9⟩ := own_atapP (own_other Hk0.out Hl.out hne hch) (listV_at hiN)
      have hcc := own_other Hk0.out Hl.out hne hch
      rcases hcc.2 with ⟨h1, h2⟩ | ⟨gg, cp, cu, h1, h2, h3, _⟩
      ·cases h1
      ·cases h1
       rw [e9, hcur] at h3
       injection h3 with h3
       injection h3 with _ h3
       exact hne h3
     have Hs7 : Hid (∀ w7, Below wr.drew.heap.size wr.drew w7 → w7.cell? ⟨gl, i, none⟩ = some (.slice (some ⟨G i, 0, none⟩) (n i) (c i)) ∧ w7.cell? ⟨G i, k * 2, none⟩ = some (y i)[k * 2] ∧ w7.cell? ⟨G i, k * 2 + 1, none⟩ = some (y i)[k * 2 + 1] ∧ w7.frozen? ⟨G i, k * 2, none⟩ = false ∧ w7.frozen? ⟨G i, k * 2 + 1, none⟩ = false ∧ Bk w7 base 98 2 N G n c y) := hid fun w7 hb7 => by
      have hb9 : Below wr.heap.size wr w7 := (Below.drew (ext_refl wr)).trans hb7
      exact ⟨cell_ext hb9 hcell, cell_ext hb9 hcq, cell_ext hb9 hcr, frozen_of_row w7 _ _ _ _ ((hb9.block _ (lt_of_block hcur)).trans hcur), frozen_of_row w7 _ _ _ _ ((hb9.block _ (lt_of_block hcur)).trans hcur), hbk.ext hb9⟩
     have Hs8 : Hid (∀ w7, Below wr.drew.heap.size wr.drew w7 → ∀ u u', ((w7.setCell ⟨G i, k * 2, none⟩ u).setCell ⟨G i, k * 2 + 1, none⟩ u').cell? ⟨gl, i, none⟩ = some (.slice (some ⟨G i, 0, none⟩) (n i) (c i))) := hid fun w7 hb7 u u' => by
      have hb9 : Below wr.heap.size wr w7 := (Below.drew (ext_refl wr)).trans hb7
      rw [← cell_ext hb9 hcell]
      exact World.cell?_of_block ((heap_setCell_other _ _ _ _ hgG).trans (heap_setCell_other _ _ _ _ hgG))
     have Hpw := hid hpw
     have Hpk := hid hpk
     have Hch := hid hch
     have hk9 : (k : Int) < (n i : Int) := by omega
     clear hbk hpw hpk hch ho hcur hcx hgG
     go_wp2_with fail
     refine wp_region_noPanic ?_
     refine wp_region_held_drew (S := fun W' : World => W'.cell? ⟨gl, i, none⟩ = some (.slice (some ⟨G i, 0, none⟩) (n i) (c i))) (by kernel_rfl) hcell (fun hHeld => ?_)
     refine wpAnyH_take (i := 0) (v := ?v1) rfl (by kernel_rfl) (by kernel_rfl) (by kernel_rfl) (fun _ _ _ h => h) (Or.inl ⟨by rfl, ?hy1⟩) (by assumption) ?rest1
     case hy1 => (intro w hSw; (try dsimp only at hSw); go_simp) <;> try with_reducible rfl
     try simp only [Act.put, List.setIfInBounds_toArray, List.set_cons_zero, List.set_cons_succ]
     refine wpAnyH_take (i := 1) (v := ?v2) rfl (by kernel_rfl) (by kernel_rfl) (by kernel_rfl) (fun _ _ _ h => h) (Or.inl ⟨by rfl, ?hy2⟩) (by assumption) ?rest2
     case hy2 => (intro w hSw; (try dsimp only at hSw); go_simp) <;> try with_reducible rfl
     try simp only [Act.put, List.setIfInBounds_toArray, List.set_cons_zero, List.set_cons_succ]
     refine wpAnyH_take (i := 2) (v := ?v3) rfl (by kernel_rfl) (by kernel_rfl) (by kernel_rfl) (fun _ _ _ h => h) (Or.inl ⟨by rfl, ?hy3⟩) (by assumption) ?rest3
     case hy3 => (intro w hSw; (try dsimp only at hSw); go_simp) <;> try with_reducible rfl
     try simp only [Act.put, List.setIfInBounds_toArray, List.set_cons_zero, List.set_cons_succ]
     refine wpAnyH_take (i := 3) (v := ?v4) rfl (by kernel_rfl) (by kernel_rfl) (by kernel_rfl) (fun _ _ _ h => h) (Or.inl ⟨by rfl, ?hy4⟩) (by assumption) ?rest4
     case hy4 => (intro w hSw; (try dsimp only at hSw); go_simp) <;> try with_reducible rfl
     try simp only [Act.put, List.setIfInBounds_toArray, List.set_cons_zero, List.set_cons_succ]
     refine wpAnyH_take (i := 4) (v := ?v5) rfl (by kernel_rfl) (by kernel_rfl) (by kernel_rfl) (fun _ _ _ h => h) (Or.inl ⟨by rfl, ?hy5⟩) (by assumption) ?rest5
     case hy5 => (intro w hSw; (try dsimp only at hSw); go_simp) <;> try with_reducible rfl
     try simp only [Act.put, List.setIfInBounds_toArray, List.set_cons_zero, List.set_cons_succ]
     refine wpAnyH_take (i := 5) (v := ?v6) rfl (by kernel_rfl) (by kernel_rfl) (by kernel_rfl) (fun _ _ _ h => h) (Or.inl ⟨by rfl, ?hy6⟩) (by assumption) ?rest6
     case hy6 => (intro w hSw; (try dsimp only at hSw); go_simp) <;> try with_reducible rfl
     try simp only [Act.put, List.setIfInBounds_toArray, List.set_cons_zero, List.set_cons_succ]
     refine wpAnyH_take (i := 6) (v := ?v7) rfl (by kernel_rfl) (by kernel_rfl) (by kernel_rfl) (fun _ _ _ h => h) (Or.inl ⟨by rfl, ?hy7⟩) (by assumption) ?rest7
     case hy7 => (intro w hSw; (try dsimp only at hSw); go_simp) <;> try with_reducible rfl
     try simp only [Act.put, List.setIfInBounds_toArray, List.set_cons_zero, List.set_cons_succ]
     refine wpAnyH_ready (rs := [7]) (by kernel_rfl) (by simp) ?_
     refine AllReadyH.cons rfl (fun K9 hK9 => ?_) AllReadyH.nil
     go_simp
     refine (Hmk.out wr.drew i k (by omega) (by omega)).mono ?_
     rintro e w7 ⟨_, rfl, rfl, hb7⟩
     obtain ⟨hS7, hq7, hr7, hf7, hg7, hB7⟩ := Hs7.out w7 hb7
     go_simp
     refine hK9.out _ _ hS7 (fun hHeld => ?_)
     clear hK9 K9
     try simp only [Act.put, List.setIfInBounds_toArray, List.set_cons_zero, List.set_cons_succ]
     refine wpAnyH_take (i := 8) (v := ?v8) rfl (by kernel_rfl) (by kernel_rfl) (by kernel_rfl) (fun _ _ _ h => h) (Or.inl ⟨by rfl, ?hy8⟩) (by assumption) ?rest8
     case hy8 => (intro w hSw; (try dsimp only at hSw); go_simp) <;> try with_reducible rfl
     try simp only [Act.put, List.setIfInBounds_toArray, List.set_cons_zero, List.set_cons_succ]
     refine wpAnyH_ready (rs := [9]) (by kernel_rfl) (by simp) ?_
     refine AllReadyH.cons rfl (fun K9 hK9 => ?_) AllReadyH.nil
     go_simp
     refine hK9.out _ _ (Hs8.out w7 hb7 _ _) (fun hHeld => ?_)
     clear hK9 K9
     try simp only [Act.put, List.setIfInBounds_toArray, List.set_cons_zero, List.set_cons_succ]
     refine wpAnyH_done (by kernel_rfl) (NoPanic.normal ?_) _
     have Hb7 := hid hb7
     have HB7 := hid hB7
     clear hS7 hq7 hr7 hf7 hg7 hB7 hb7 hcell
     go_wp2_with fail
     go_roundw
     case rel =>
      have hw9 : Chg w w7 N G := Hch.out.trans (Chg.of ((Below.drew (ext_refl wr)).trans Hb7.out))
      refine ⟨k + 1, _, by omega, by go_num, (HB7.out.set hiN (k * 2) (.int .i64 (-1 - (i : Int)))).set hiN (k * 2 + 1) (.int .i64 (-1 - (k : Int))), fun j hj => ?_, fun k' hk' q hq => ?_, (hw9.trans (Chg.set hiN _ _ _)).trans (Chg.set hiN _ _ _)⟩
      ·rw [updF_ne (by omega), updF_ne (by omega)]; exact Hpw.out j hj
      ·rw [updF_same, updF_same, List.getElem?_set, List.getElem?_set]
       simp only [List.length_set]
       by_cases e9 : k = k'
       ·subst e9
        by_cases hq0 : q = 0
        ·subst hq0
         rw [if_neg (by omega), if_pos (by omega), if_pos (by omega)]
         simp [mcapP]
        ·obtain rfl : q = 1 := by omega
         rw [if_pos (by omega), if_pos (by omega)]
         simp [mcapP]
       ·rw [if_neg (by omega), if_neg (by omega)]
        exact Hpk.out k' (by omega) q hq
     case measure => simp [intOf]; omega
    ·obtain rfl : k = n i := by omega
     have Hbk := hid hbk
     have Hpw := hid hpw
     have Hpk := hid hpk
     have Hch := hid hch
     clear hbk hpw hpk hch
     go_wp2_with fail
     go_roundw
     case rel =>
      refine ⟨i + 1, y, by omega, by go_num, Hbk.out, fun j hj => ?_, Hch.out⟩
      by_cases e9 : j = i
      ·subst e9; exact Hpk.out
      ·exact Hpw.out j (by omega)
     case measure => simp [intOf]; omega
  ·obtain rfl : i = N := by omega
   obtain ⟨w0, rfl⟩ : ∃ w0 : World, w0 = wr := ⟨_, rfl⟩
   have Hbk := hid hbk
   have Hpw := hid hpw
   have Hch := hid hch
   have Hl0 := hid (own_other Hk0.out Hl.out hne hch)
   clear hbk hpw hch
   go_wp2_with fail
   go_loopw [6, 7] (fun v6 v7 wr => ∃ (j : Nat) (H d : Nat → Nat), j ≤ i ∧ v7 = .int .i64 (j : Int) ∧ L2 w0 wr base 98 61 2 i G n c y mcapP j H d v6) (fun _ v7 _ => i - (intOf v7).toNat)
   case atStart => exact ⟨0, G, c, Nat.zero_le _, rfl, L2.start Hbk.out⟩
   case round =>
    obtain ⟨j, H, d, hj, rfl, h2⟩ := hrel
    obtain ⟨wi, rfl⟩ : ∃ wi : World, wi = wr := ⟨_, rfl⟩
    by_cases hjN : j < i
    ·obtain ⟨gl, cap', e9, hcell⟩ := own_atapP (own_other Hbk.out Hl0.out hne h2.chg) (listV_at hjN)
     cases e9
     unfold rowV at hcell
     obtain ⟨hn0, hn1⟩ := Hbk.out.pos j hjN
     have hz9 := h2.chg.size
     have H2 := hid h2
     have H3 := hid (L3.start (h2.rest j (Nat.le_refl _) hjN) (Hpw.out j hjN))
     clear h2
     go_wp2_with fail
     clear hcell
     go_loopw [8, 9] (fun v8 v9 wr => ∃ (k h d' : Nat) (ys : List Value), k ≤ 20 ∧ v9 = .int .i64 (k : Int) ∧ v8 = .slice (some ⟨h, 0, none⟩) (n j + k) d' ∧ L3 wi wr base 98 2 G n mcapP j k h d' ys) (fun _ v9 _ => 20 - (intOf v9).toNat)
     case atStart => exact ⟨0, G j, c j, y j, Nat.zero_le _, rfl, rfl, H3.out⟩
     case round =>
      clear H3
      obtain ⟨k, h, d', ys, hk, rfl, rfl, h3⟩ := hrel
      have hz8 := h3.gr.size
      by_cases hk20 : k < 20
      ·have H3 := hid h3
       clear h3
       go_wp2_with fail
       refine (Hmk.out wr j (n j + k) (by omega) (by omega)).mono ?_
       rintro e w7 ⟨_, rfl, rfl, hb7⟩
       have H7 := hid (H3.out.ext hb7)
       have ho7 := H7.out.own
       have hz7 : base ≤ w7.heap.size := by have := ho7.lt h rfl; omega
       go_wp2_with (at_builtin; refine wpList_append_keep rfl _ _ 61 rfl base 98 i0 (.agg #[.int .i64 0, .int .i64 0]) 2 16 Tryz.underlying61 hi0 hz0 hz1 hz2 rfl (by decide) _ (n j + k) ys rfl (ho7.alloc _) ⟨w7.heap.size, 0, none⟩ 1 1 [.int .i64 (-1 - (j : Int)), .int .i64 (-1 - ((n j + k : Nat) : Int))] rfl rfl (cell_two_newB _ _ _ _) (fun u hu => by simp at hu; rcases hu with rfl | rfl <;> rfl) (by unfold maxLen; omega) (by omega) (by simp; omega) ?_; intro v' w' hown hgrow hat; obtain ⟨gn, cn, rfl⟩ := own_frsapP hown)
       go_roundw
       case rel =>
        exact ⟨k + 1, gn, cn, _, by omega, by go_num, rfl, (H7.out.ext (ext_alloc _ _)).append (fun q hq => by match q, hq with | 0, _ => rfl | 1, _ => rfl) hown hgrow hat⟩
       case measure => simp [intOf]; omega
      ·obtain rfl : k = 20 := by omega
       have Hgv := hid (H2.out.gvAt hjN h3)
       have H3 := hid h3
       clear h3
       go_wp2_with (at_builtin; refine wpList_append_own_at _ rfl _ _ 31 rfl w0.heap.size 61 i1 (.slice none 0 0) 1 24 Tryz.underlying31 hi1 hy0 hy1 hy2 rfl (by decide) _ j _ rfl (Hgv.out.alloc _) ⟨wr.heap.size, 0, none⟩ 1 1 [.slice (some ⟨h, 0, none⟩) (n j + 20) d'] rfl rfl (cell_one_new _ _ _) (fun u hu => by simp at hu; subst hu; rfl) (by unfold maxLen; omega) (by omega) (by simp; omega) ?_; intro v' w' hown hgrow hnil hat)
       go_roundw
       case rel => exact ⟨j + 1, _, _, by omega, by go_num, H2.out.next Hbk.out hjN H3.out hne hown hgrow⟩
       case measure => simp [intOf]; omega
    ·obtain rfl : j = i := by omega
     have H2 := hid h2
     have hgv := h2.gv
     obtain ⟨Ag, cg, e9⟩ := own_frmapP hgv
     subst e9
     have Hgv := hid hgv
     have Hfin := hid (Hch.out.trans h2.chg)
     have Hl9 := hid (own_other Hbk.out Hl0.out hne h2.chg)
     clear h2 hgv
     go_wp2_with fail
     go_loopw [10] (fun v10 wr => ∃ a : Nat, a ≤ j ∧ v10 = .int .i64 (a : Int) ∧ Below wi.heap.size wi wr) (fun v10 _ => j - (intOf v10).toNat)
     case atStart => exact ⟨0, Nat.zero_le _, rfl, ext_refl _⟩
     case round =>
      obtain ⟨a, ha, rfl, hbl⟩ := hrel
      by_cases haN : a < j
      ·obtain ⟨hn0, hn1⟩ := Hbk.out.pos a haN
       go_wp2_with fail
       go_loopw [11] (fun v11 wr => ∃ k : Nat, k ≤ n a + 20 ∧ v11 = .int .i64 (k : Int) ∧ Below wi.heap.size wi wr) (fun v11 _ => n a + 20 - (intOf v11).toNat)
       case atStart => exact ⟨0, Nat.zero_le _, rfl, hbl⟩
       case round =>
        clear hbl
        obtain ⟨k, hk, rfl, hbl⟩ := hrel
        obtain ⟨gg, cap', e9, hcg⟩ := own_atapP Hgv.out (listV_at haN)
        cases e9
        unfold rowV at hcg
        have hcg1 := cell_ext hbl hcg
        obtain ⟨d1, d2, _⟩ := H2.out.done a haN
        by_cases hk20 : k < n a + 20
        ·have e1 := d1 k hk20 0 (by omega)
         have e2 := d1 k hk20 1 (by omega)
         rw [Nat.add_zero] at e1
         simp only [mcapP, if_true, Nat.one_ne_zero, if_false] at e1 e2
         go_wp2_with fail
         refine (Hmk.out wr a k (by omega) (by omega)).mono ?_
         rintro e w7 ⟨_, rfl, rfl, hb7⟩
         have hb9 := ext_trans hbl hb7
         have hcg7 := cell_ext hb9 hcg
         obtain ⟨gl, cap2, e9, hcl⟩ := own_atapP Hl9.out (listV_at haN)
         cases e9
         unfold rowV at hcl
         have hk9 : (k : Int) < ((n a + 20 : Nat) : Int) := by omega
         obtain ⟨w8, Hw8⟩ : ∃ w8, Hid (w8 = w7.alloc (.cells #[.int .i64 (-1 - (a : Int)), .int .i64 (-1 - (k : Int))] 98)) := ⟨_, hid rfl⟩
         have hb78 : Below w7.heap.size w7 w8 := by rw [Hw8.out]; exact ext_alloc _ _
         have hb98 := ext_trans hb9 hb78
         have hn9 : w8.heap[w7.heap.size]? = some (.cells #[.int .i64 (-1 - (a : Int)), .int .i64 (-1 - (k : Int))] 98 (0, 0)) := by rw [Hw8.out]; exact heap_alloc_new _ _
         have t0 : w8.cell? ⟨w7.heap.size, 0, none⟩ = some (.int .i64 (-1 - (a : Int))) := by rw [cell_of_row _ _ 0 _ _ _ hn9]; rfl
         have t1 : w8.cell? ⟨w7.heap.size, 1, none⟩ = some (.int .i64 (-1 - (k : Int))) := by rw [cell_of_row _ _ 1 _ _ _ hn9]; rfl
         have k1 := cell_ext hb98 hcg
         have k2 := cell_ext hb98 e1
         have k3 := cell_ext hb98 e2
         have k4 := cell_ext hb98 hcl
         have Hb98 := hid hb98
         have hlt9 : w7.heap.size < w8.heap.size := lt_of_block hn9
         clear hcg7 hcl e1 e2 hcg hcg1 hb9 hb78 hb7 hn9 hb98
         by_cases hkn : k < n a
         ·have e3 := d2 k hkn 0 (by omega)
          have e4 := d2 k hkn 1 (by omega)
          rw [Nat.add_zero] at e3
          simp only [mcapP, if_true, Nat.one_ne_zero, if_false] at e3 e4
          have k5 := cell_ext Hb98.out e3
          have k6 := cell_ext Hb98.out e4
          have hdk : decide (k < n a) = true := by simp [hkn]
          clear e3 e4 d1 d2 hbl
          go_wp2_with fail
          rw [← Hw8.out]
          go_region_held3 (fun W' : World => W'.cell? ⟨gg, a, none⟩ = some (.slice (some ⟨H a, 0, none⟩) (n a + 20) (d a)) ∧ W'.cell? ⟨H a, k * 2, none⟩ = some (.int .i64 (-1 - (a : Int))) ∧ W'.cell? ⟨H a, k * 2 + 1, none⟩ = some (.int .i64 (-1 - (k : Int))) ∧ W'.cell? ⟨w7.heap.size, 0, none⟩ = some (.int .i64 (-1 - (a : Int))) ∧ W'.cell? ⟨w7.heap.size, 1, none⟩ = some (.int .i64 (-1 - (k : Int))) ∧ W'.cell? ⟨gl, a, none⟩ = some (.slice (some ⟨G a, 0, none⟩) (n a) (c a)) ∧ W'.cell? ⟨G a, k * 2, none⟩ = some (.int .i64 (-1 - (a : Int))) ∧ W'.cell? ⟨G a, k * 2 + 1, none⟩ = some (.int .i64 (-1 - (k : Int)))) (exact ⟨k1, k2, k3, t0, t1, k4, k5, k6⟩) (fail)
          go_wp2_with fail
          go_roundw
          case rel => exact ⟨k + 1, by omega, by go_num, Hb98.out.drew⟩
          case measure => simp [intOf]; omega
         ·have hdk : decide (k < n a) = false := by simp; omega
          clear d1 d2 hbl
          go_wp2_with fail
          rw [← Hw8.out]
          refine wp_region_noPanic ?_
          refine wp_region_held_drew (S := fun W' : World => W'.cell? ⟨gg, a, none⟩ = some (.slice (some ⟨H a, 0, none⟩) (n a + 20) (d a)) ∧ W'.cell? ⟨H a, k * 2, none⟩ = some (.int .i64 (-1 - (a : Int))) ∧ W'.cell? ⟨H a, k * 2 + 1, none⟩ = some (.int .i64 (-1 - (k : Int))) ∧ W'.cell? ⟨w7.heap.size, 0, none⟩ = some (.int .i64 (-1 - (a : Int))) ∧ W'.cell? ⟨w7.heap.size, 1, none⟩ = some (.int .i64 (-1 - (k : Int))) ∧ W'.cell? ⟨gl, a, none⟩ = some (.slice (some ⟨G a, 0, none⟩) (n a) (c a))) (by kernel_rfl) ⟨k1, k2, k3, t0, t1, k4⟩ (fun hHeld => ?_)
          refine wpAnyH_take (i := 0) (v := ?v9) (by simp only [List.getElem?_toArray, List.getElem?_cons_zero, List.getElem?_cons_succ]; rfl) (by kernel_rfl) (by kernel_rfl) (by kernel_rfl) (fun _ _ _ h => h) (Or.inl ⟨by rfl, ?hy9⟩) (by assumption) ?rest9
          case hy9 => (intro w hSw; (try dsimp only at hSw); go_simp) <;> try with_reducible rfl
          try simp only [Act.put, List.setIfInBounds_toArray, List.set_cons_zero, List.set_cons_succ]
          refine wpAnyH_take (i := 1) (v := ?v10) (by simp only [List.getElem?_toArray, List.getElem?_cons_zero, List.getElem?_cons_succ]; rfl) (by kernel_rfl) (by kernel_rfl) (by kernel_rfl) (fun _ _ _ h => h) (Or.inl ⟨by rfl, ?hy10⟩) (by assumption) ?rest10
          case hy10 => (intro w hSw; (try dsimp only at hSw); go_simp) <;> try with_reducible rfl
          try simp only [Act.put, List.setIfInBounds_toArray, List.set_cons_zero, List.set_cons_succ]
          refine wpAnyH_take (i := 2) (v := ?v11) (by simp only [List.getElem?_toArray, List.getElem?_cons_zero, List.getElem?_cons_succ]; rfl) (by kernel_rfl) (by kernel_rfl) (by kernel_rfl) (fun _ _ _ h => h) (Or.inl ⟨by rfl, ?hy11⟩) (by assumption) ?rest11
          case hy11 => (intro w hSw; (try dsimp only at hSw); go_simp) <;> try with_reducible rfl
          try simp only [Act.put, List.setIfInBounds_toArray, List.set_cons_zero, List.set_cons_succ]
          refine wpAnyH_take (i := 3) (v := ?v12) (by simp only [List.getElem?_toArray, List.getElem?_cons_zero, List.getElem?_cons_succ]; rfl) (by kernel_rfl) (by kernel_rfl) (by kernel_rfl) (fun _ _ _ h => h) (Or.inl ⟨by rfl, ?hy12⟩) (by assumption) ?rest12
          case hy12 => (intro w hSw; (try dsimp only at hSw); go_simp) <;> try with_reducible rfl
          try simp only [Act.put, List.setIfInBounds_toArray, List.set_cons_zero, List.set_cons_succ]
          refine wpAnyH_take (i := 4) (v := ?v13) (by simp only [List.getElem?_toArray, List.getElem?_cons_zero, List.getElem?_cons_succ]; rfl) (by kernel_rfl) (by kernel_rfl) (by kernel_rfl) (fun _ _ _ h => h) (Or.inl ⟨by rfl, ?hy13⟩) (by assumption) ?rest13
          case hy13 => (intro w hSw; (try dsimp only at hSw); go_simp) <;> try with_reducible rfl
          try simp only [Act.put, List.setIfInBounds_toArray, List.set_cons_zero, List.set_cons_succ]
          refine wpAnyH_take (i := 5) (v := ?v14) (by simp only [List.getElem?_toArray, List.getElem?_cons_zero, List.getElem?_cons_succ]; rfl) (by kernel_rfl) (by kernel_rfl) (by kernel_rfl) (fun _ _ _ h => h) (Or.inl ⟨by rfl, ?hy14⟩) (by assumption) ?rest14
          case hy14 => (intro w hSw; (try dsimp only at hSw); go_simp) <;> try with_reducible rfl
          try simp only [Act.put, List.setIfInBounds_toArray, List.set_cons_zero, List.set_cons_succ]
          refine wpAnyH_take (i := 6) (v := ?v15) (by simp only [List.getElem?_toArray, List.getElem?_cons_zero, List.getElem?_cons_succ]; rfl) (by kernel_rfl) (by kernel_rfl) (by kernel_rfl) (fun _ _ _ h => h) (Or.inl ⟨by rfl, ?hy15⟩) (by assumption) ?rest15
          case hy15 => (intro w hSw; (try dsimp only at hSw); go_simp) <;> try with_reducible rfl
          try simp only [Act.put, List.setIfInBounds_toArray, List.set_cons_zero, List.set_cons_succ]
          refine wpAnyH_take (i := 7) (v := ?v16) (by simp only [List.getElem?_toArray, List.getElem?_cons_zero, List.getElem?_cons_succ]; rfl) (by kernel_rfl) (by kernel_rfl) (by kernel_rfl) (fun _ _ _ h => h) (Or.inl ⟨by rfl, ?hy16⟩) (by assumption) ?rest16
          case hy16 => (intro w hSw; (try dsimp only at hSw); go_simp) <;> try with_reducible rfl
          try simp only [Act.put, List.setIfInBounds_toArray, List.set_cons_zero, List.set_cons_succ]
          refine wpAnyH_take (i := 8) (v := ?v17) (by simp only [List.getElem?_toArray, List.getElem?_cons_zero, List.getElem?_cons_succ]; rfl) (by kernel_rfl) (by kernel_rfl) (by kernel_rfl) (fun _ _ _ h => h) (Or.inl ⟨by rfl, ?hy17⟩) (by assumption) ?rest17
          case hy17 => (intro w hSw; (try dsimp only at hSw); go_simp) <;> try with_reducible rfl
          try simp only [Act.put, List.setIfInBounds_toArray, List.set_cons_zero, List.set_cons_succ]
          refine wpAnyH_take (i := 9) (v := ?v18) (by simp only [List.getElem?_toArray, List.getElem?_cons_zero, List.getElem?_cons_succ]; rfl) (by kernel_rfl) (by kernel_rfl) (by kernel_rfl) (fun _ _ _ h => h) (Or.inl ⟨by rfl, ?hy18⟩) (by assumption) ?rest18
          case hy18 => (intro w hSw; (try dsimp only at hSw); go_simp) <;> try with_reducible rfl
          try simp only [Act.put, List.setIfInBounds_toArray, List.set_cons_zero, List.set_cons_succ]
          refine wpAnyH_take (i := 10) (v := ?v19) (by simp only [List.getElem?_toArray, List.getElem?_cons_zero, List.getElem?_cons_succ]; rfl) (by kernel_rfl) (by kernel_rfl) (by kernel_rfl) (fun _ _ _ h => h) (Or.inl ⟨by rfl, ?hy19⟩) (by assumption) ?rest19
          case hy19 => (intro w hSw; (try dsimp only at hSw); go_simp) <;> try with_reducible rfl
          try simp only [Act.put, List.setIfInBounds_toArray, List.set_cons_zero, List.set_cons_succ]
          refine wpAnyH_take (i := 11) (v := ?v20) (by simp only [List.getElem?_toArray, List.getElem?_cons_zero, List.getElem?_cons_succ]; rfl) (by kernel_rfl) (by kernel_rfl) (by kernel_rfl) (fun _ _ _ h => h) (Or.inl ⟨by rfl, ?hy20⟩) (by assumption) ?rest20
          case hy20 => (intro w hSw; (try dsimp only at hSw); go_simp) <;> try with_reducible rfl
          try simp only [Act.put, List.setIfInBounds_toArray, List.set_cons_zero, List.set_cons_succ]
          refine wpAnyH_take (i := 12) (v := ?v21) (by simp only [List.getElem?_toArray, List.getElem?_cons_zero, List.getElem?_cons_succ]; rfl) (by kernel_rfl) (by kernel_rfl) (by kernel_rfl) (fun _ _ _ h => h) (Or.inl ⟨by rfl, ?hy21⟩) (by assumption) ?rest21
          case hy21 => (intro w hSw; (try dsimp only at hSw); go_simp) <;> try with_reducible rfl
          try simp only [Act.put, List.setIfInBounds_toArray, List.set_cons_zero, List.set_cons_succ]
          refine wpAnyH_take (i := 13) (v := ?v22) (by simp only [List.getElem?_toArray, List.getElem?_cons_zero, List.getElem?_cons_succ]; rfl) (by kernel_rfl) (by kernel_rfl) (by kernel_rfl) (fun _ _ _ h => h) (Or.inl ⟨by rfl, ?hy22⟩) (by assumption) ?rest22
          case hy22 => (intro w hSw; (try dsimp only at hSw); go_simp) <;> try with_reducible rfl
          try simp only [Act.put, List.setIfInBounds_toArray, List.set_cons_zero, List.set_cons_succ]
          refine wpAnyH_take (i := 14) (v := ?v23) (by simp only [List.getElem?_toArray, List.getElem?_cons_zero, List.getElem?_cons_succ]; rfl) (by kernel_rfl) (by kernel_rfl) (by kernel_rfl) (fun _ _ _ h => h) (Or.inl ⟨by rfl, ?hy23⟩) (by assumption) ?rest23
          case hy23 => (intro w hSw; (try dsimp only at hSw); go_simp) <;> try with_reducible rfl
          try simp only [Act.put, List.setIfInBounds_toArray, List.set_cons_zero, List.set_cons_succ]
          refine wpAnyH_take (i := 15) (v := ?v24) (by simp only [List.getElem?_toArray, List.getElem?_cons_zero, List.getElem?_cons_succ]; rfl) (by kernel_rfl) (by kernel_rfl) (by kernel_rfl) (fun _ _ _ h => h) (Or.inl ⟨by rfl, ?hy24⟩) (by assumption) ?rest24
          case hy24 => (intro w hSw; (try dsimp only at hSw); go_simp) <;> try with_reducible rfl
          try simp only [Act.put, List.setIfInBounds_toArray, List.set_cons_zero, List.set_cons_succ]
          refine wpAnyH_take (i := 16) (v := ?v25) (by simp only [List.getElem?_toArray, List.getElem?_cons_zero, List.getElem?_cons_succ]; rfl) (by kernel_rfl) (by kernel_rfl) (by kernel_rfl) (fun _ _ _ h => h) (Or.inl ⟨by rfl, ?hy25⟩) (by assumption) ?rest25
          case hy25 => (intro w hSw; (try dsimp only at hSw); go_simp) <;> try with_reducible rfl
          try simp only [Act.put, List.setIfInBounds_toArray, List.set_cons_zero, List.set_cons_succ]
          refine wpAnyH_take (i := 17) (v := ?v26) (by simp only [List.getElem?_toArray, List.getElem?_cons_zero, List.getElem?_cons_succ]; rfl) (by kernel_rfl) (by kernel_rfl) (by kernel_rfl) (fun _ _ _ h => h) (Or.inl ⟨by rfl, ?hy26⟩) (by assumption) ?rest26
          case hy26 => (intro w hSw; (try dsimp only at hSw); go_simp) <;> try with_reducible rfl
          try simp only [Act.put, List.setIfInBounds_toArray, List.set_cons_zero, List.set_cons_succ]
          refine wpAnyH_take (i := 18) (v := undef) (by simp only [List.getElem?_toArray, List.getElem?_cons_zero, List.getElem?_cons_succ]; rfl) (by kernel_rfl) (by kernel_rfl) (by kernel_rfl) (fun _ _ _ h => h) (Or.inr ⟨by rfl, rfl⟩) (by assumption) ?_
          try simp only [Act.put, List.setIfInBounds_toArray, List.set_cons_zero, List.set_cons_succ]
          refine wpAnyH_take (i := 19) (v := undef) (by simp only [List.getElem?_toArray, List.getElem?_cons_zero, List.getElem?_cons_succ]; rfl) (by kernel_rfl) (by kernel_rfl) (by kernel_rfl) (fun _ _ _ h => h) (Or.inr ⟨by rfl, rfl⟩) (by assumption) ?_
          try simp only [Act.put, List.setIfInBounds_toArray, List.set_cons_zero, List.set_cons_succ]
          refine wpAnyH_take (i := 20) (v := undef) (by simp only [List.getElem?_toArray, List.getElem?_cons_zero, List.getElem?_cons_succ]; rfl) (by kernel_rfl) (by kernel_rfl) (by kernel_rfl) (fun _ _ _ h => h) (Or.inr ⟨by rfl, rfl⟩) (by assumption) ?_
          try simp only [Act.put, List.setIfInBounds_toArray, List.set_cons_zero, List.set_cons_succ]
          refine wpAnyH_take (i := 21) (v := undef) (by simp only [List.getElem?_toArray, List.getElem?_cons_zero, List.getElem?_cons_succ]; rfl) (by kernel_rfl) (by kernel_rfl) (by kernel_rfl) (fun _ _ _ h => h) (Or.inr ⟨by rfl, rfl⟩) (by assumption) ?_
          try simp only [Act.put, List.setIfInBounds_toArray, List.set_cons_zero, List.set_cons_succ]
          refine wpAnyH_take (i := 22) (v := undef) (by simp only [List.getElem?_toArray, List.getElem?_cons_zero, List.getElem?_cons_succ]; rfl) (by kernel_rfl) (by kernel_rfl) (by kernel_rfl) (fun _ _ _ h => h) (Or.inr ⟨by rfl, rfl⟩) (by assumption) ?_
          try simp only [Act.put, List.setIfInBounds_toArray, List.set_cons_zero, List.set_cons_succ]
          refine wpAnyH_take (i := 23) (v := undef) (by simp only [List.getElem?_toArray, List.getElem?_cons_zero, List.getElem?_cons_succ]; rfl) (by kernel_rfl) (by kernel_rfl) (by kernel_rfl) (fun _ _ _ h => h) (Or.inr ⟨by rfl, rfl⟩) (by assumption) ?_
          try simp only [Act.put, List.setIfInBounds_toArray, List.set_cons_zero, List.set_cons_succ]
          refine wpAnyH_take (i := 24) (v := undef) (by simp only [List.getElem?_toArray, List.getElem?_cons_zero, List.getElem?_cons_succ]; rfl) (by kernel_rfl) (by kernel_rfl) (by kernel_rfl) (fun _ _ _ h => h) (Or.inr ⟨by rfl, rfl⟩) (by assumption) ?_
          try simp only [Act.put, List.setIfInBounds_toArray, List.set_cons_zero, List.set_cons_succ]
          refine wpAnyH_take (i := 25) (v := undef) (by simp only [List.getElem?_toArray, List.getElem?_cons_zero, List.getElem?_cons_succ]; rfl) (by kernel_rfl) (by kernel_rfl) (by kernel_rfl) (fun _ _ _ h => h) (Or.inr ⟨by rfl, rfl⟩) (by assumption) ?_
          try simp only [Act.put, List.setIfInBounds_toArray, List.set_cons_zero, List.set_cons_succ]
          refine wpAnyH_take (i := 26) (v := undef) (by simp only [List.getElem?_toArray, List.getElem?_cons_zero, List.getElem?_cons_succ]; rfl) (by kernel_rfl) (by kernel_rfl) (by kernel_rfl) (fun _ _ _ h => h) (Or.inr ⟨by rfl, rfl⟩) (by assumption) ?_
          try simp only [Act.put, List.setIfInBounds_toArray, List.set_cons_zero, List.set_cons_succ]
          refine wpAnyH_take (i := 27) (v := ?v27) (by simp only [List.getElem?_toArray, List.getElem?_cons_zero, List.getElem?_cons_succ]; rfl) (by kernel_rfl) (by kernel_rfl) (by kernel_rfl) (fun _ _ _ h => h) (Or.inl ⟨by rfl, ?hy27⟩) (by assumption) ?rest27
          case hy27 => (intro w hSw; (try dsimp only at hSw); go_simp) <;> try with_reducible rfl
          try simp only [Act.put, List.setIfInBounds_toArray, List.set_cons_zero, List.set_cons_succ]
          refine wpAnyH_take (i := 28) (v := ?v28) (by simp only [List.getElem?_toArray, List.getElem?_cons_zero, List.getElem?_cons_succ]; rfl) (by kernel_rfl) (by kernel_rfl) (by kernel_rfl) (fun _ _ _ h => h) (Or.inl ⟨by rfl, ?hy28⟩) (by assumption) ?rest28
          case hy28 => (intro w hSw; (try dsimp only at hSw); go_simp) <;> try with_reducible rfl
          try simp only [Act.put, List.setIfInBounds_toArray, List.set_cons_zero, List.set_cons_succ]
          refine wpAnyH_done (by kernel_rfl) (NoPanic.normal ?_) _
          go_wp2_with fail
          go_roundw
          case rel => exact ⟨k + 1, by omega, by go_num, Hb98.out.drew⟩
          case measure => simp [intOf]; omega
        ·obtain rfl : k = n a + 20 := by omega
         go_wp2_with fail
         go_roundw
         case rel => exact ⟨a + 1, by omega, by go_num, hbl⟩
         case measure => simp [intOf]; omega
      ·obtain rfl : a = j := by omega
       go_wp2_with fail
       go_ret
       exact Fin HQ ⟨rfl, Hfin.out.trans (Chg.of hbl)⟩
end Go.Proofs.Lx
