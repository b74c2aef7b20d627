/- Parts of the proof: Eo. The engine's run: the walk. No condition. -/
import Derived.Test.YtalhpldbhogadaaGreatO29
namespace Go.Proofs.Lx
attribute [local go_sem] Oper.semAt_some
open Go Go.RowKit Go.Proofs.Tj Go.Shelf
set_option linter.unusedVariables false
set_option linter.unusedSimpArgs false

theorem ework_any (w : World) (b : Nat) : Calls Tryz.prog 55 #[.pointer (some ⟨b, 0, none⟩)] w (Ret fun v w' => v = .func (.func 95) #[] #[.pointer (some ⟨w.heap.size, 0, none⟩)] ∧ w' = w.alloc (.cells #[.pointer (some ⟨b, 0, none⟩)] 79)) := by
 refine post_gen fun Q HQ => ?_
 go_enter Tryz.func55, Tryz.ntmps55
 go_wp2
 go_ret
 exact Fin HQ ⟨rfl, rfl⟩

/-- The array of what a told tag does. -/
def doesV (b : Nat) : Array Value := #[.nilFunc, .func (.func 50) #[.pointer (some ⟨b, 0, none⟩)] #[], .func (.func 51) #[.pointer (some ⟨b, 0, none⟩)] #[], .func (.func 52) #[.pointer (some ⟨b, 0, none⟩)] #[], .func (.func 53) #[.pointer (some ⟨b, 0, none⟩)] #[]]
/-- What lay answers: the engine laid out, its first state. -/
def LayPost (w : World) (T : Th) (M : Stc → Dyn → Prop) (v : Value) (w' : World) : Prop :=
 ∃ (W1 : World) (G : Gh) (S : Stc) (D : Dyn), M S D ∧ v = .pointer (some ⟨G.b, 0, none⟩) ∧ G.x1 = .no ∧ G.x2 = .no ∧ SOk S ∧ S.P ≤ 65536 ∧ TI S.n D ∧ Below w.heap.size w W1 ∧ Eng w' W1 G S T D
/-- What run answers: the engine at its end. -/
def RunEnd (w : World) (T : Th) (M : Stc → Dyn → Prop) (v : Value) (w' : World) : Prop :=
 ∃ (G : Gh) (S : Stc) (D : Dyn) (W0 : World) (k : Nat), M S D ∧ v = .pointer (some ⟨G.b, 0, none⟩) ∧ (iterD S (looksD D S.n) k).told.length ≤ k ∧ (∀ j, j < k → j < (iterD S (looksD D S.n) j).told.length) ∧ (∀ j, TI S.n (iterD S (looksD D S.n) j)) ∧
  Below w.heap.size w W0 ∧ Eng w' W0 G S T (iterD S (looksD D S.n) k)

set_option maxRecDepth 100000 in
set_option maxHeartbeats 6400000 in
theorem erun_any (w : World) (V vl : Value) (T : Th) (M : Stc → Dyn → Prop) (hT : RdTh w V T)
  (hlay : ∀ w1 V, Below w.heap.size w w1 → RdTh w1 V T → Calls Tryz.prog 49 #[V, vl] w1 (Ret (LayPost w1 T M))) :
  Calls Tryz.prog 17 #[V, vl] w (Ret (RunEnd w T M)) := by
 unfold RunEnd
 have HT := hid hT
 obtain ⟨vF, vR, vB, rfl, hF, hR, hB⟩ := hT
 have hbel := ext_alloc w (.cells #[.int .i64 T.lits, vF, vR, vB] 25)
 have Hlay := hid (hlay (w.alloc (.cells #[.int .i64 T.lits, vF, vR, vB] 25)) _ hbel (HT.out.ext hbel))
 unfold LayPost at Hlay
 clear hF hR hB hlay
 refine post_gen fun Q HQ => ?_
 refine (callsIn_wide (n := 8)).1 (callsIn_of_wp_marks Tryz.func17 rfl trivial ?_ rfl)
 refine wpIn_wide.2 ?_
 simp only [Tryz.ntmps17, List.size_toArray, List.length_cons, List.length_nil, Nat.reduceAdd, Nat.reduceSub, Array.replicate_succ, Array.replicate_zero, List.push_toArray, List.append_toArray, List.nil_append, List.cons_append]
 go_wp2_with fail
 refine Hlay.out.mono ?_
 rintro e w1 ⟨_, rfl, W1, G, S, D, hMM, rfl, hx1, hx2, hok, hP, hti, hW1, he⟩
 have HW1 := hid (ext_trans hbel hW1)
 obtain ⟨v1, h1⟩ := he
 have h2 := (h1.startX1 hx1).addX1 rfl (.cells #[.pointer (some ⟨G.b, 0, none⟩)] 79)
 have h3 := h2.addX1 rfl (.cells (doesV G.b) 93)
 rw [World.size_alloc] at h3
 have hlits := h1.st.lits
 have hn4 := h1.st.n4
 have hbox := (box4 (ext_trans hW1 h3.sp.old)).1
 clear hW1
 rw [hlits] at hbox
 have H3 := hid h3
 have Hok := hid hok
 have HMM := hid hMM
 clear hMM
 have Hti := hid hti
 have Hx2 := hid hx2
 clear h1 h2 h3 hok hti hx1 hx2 hlits
 unfold doesV at H3 hbox
 have hsf : ∀ (a : Addr) (g : Fn) (vs : Array Value) (W : World), Sem.run Tryz.prog (store a (.func g vs #[]) .plain) W = stored Tryz.prog W a (.func g vs #[]) .plain := fun a g vs W => run_store Tryz.prog W a _ _ rfl
 have hsn : ∀ (a : Addr) (W : World), Sem.run Tryz.prog (store a .nilFunc .plain) W = stored Tryz.prog W a .nilFunc .plain := fun a W => run_store Tryz.prog W a _ _ rfl
 go_wp2
 clear hbox hsf hsn
 generalize (w1.alloc (.cells #[.pointer (some ⟨G.b, 0, none⟩)] 79)).alloc (.cells #[.nilFunc, .func (.func 50) #[.pointer (some ⟨G.b, 0, none⟩)] #[], .func (.func 51) #[.pointer (some ⟨G.b, 0, none⟩)] #[], .func (.func 52) #[.pointer (some ⟨G.b, 0, none⟩)] #[], .func (.func 53) #[.pointer (some ⟨G.b, 0, none⟩)] #[]] 93) = w2 at *
 generalize hG1 : ({ G with x1 := Cont.blks [(w1.heap.size + 1, Obj.cells #[.nilFunc, .func (.func 50) #[.pointer (some ⟨G.b, 0, none⟩)] #[], .func (.func 51) #[.pointer (some ⟨G.b, 0, none⟩)] #[], .func (.func 52) #[.pointer (some ⟨G.b, 0, none⟩)] #[], .func (.func 53) #[.pointer (some ⟨G.b, 0, none⟩)] #[]] 93), (w1.heap.size, Obj.cells #[.pointer (some ⟨G.b, 0, none⟩)] 79)] } : Gh) = G1 at *
 have HG1 := hid hG1
 have Hb : Hid (G1.b = G.b) := hid (by rw [← hG1])
 have HX1 : Hid (G1.x1 = Cont.blks [(w1.heap.size + 1, Obj.cells (doesV G.b) 93), (w1.heap.size, Obj.cells #[.pointer (some ⟨G.b, 0, none⟩)] 79)]) := hid (by rw [← hG1]; rfl)
 have HX2 : Hid (G1.x2 = .no) := hid (by rw [← hG1]; exact Hx2.out)
 clear hG1
 go_loopw [24] (fun v24 wr => ∃ k : Nat, k ≤ S.n ∧ v24 = .int .i64 k ∧ Eng wr W1 G1 S T (looksD D k)) (fun v24 _ => S.n - (intOf v24).toNat)
 case atStart => exact ⟨0, Nat.zero_le _, rfl, v1, H3.out⟩
 case round =>
  obtain ⟨k, hk, rfl, v2, h2⟩ := hrel
  have hbx := cell_of_row wr w1.heap.size 0 _ _ _ (h2.getX1 HX1.out (List.mem_cons_of_mem _ List.mem_cons_self))
  simp only [List.getElem?_toArray, List.getElem?_cons_zero] at hbx
  by_cases hlt : k < S.n
  ·have Hlook := hid (elook_any wr _ G1 S T _ ⟨v2, h2⟩ (Hti.out.steps (steps_looks D k hk)) k hlt)
   unfold Stp at Hlook
   rw [Hb.out] at Hlook
   have hs : lookD (looksD D k) k = looksD D (k + 1) := by unfold looksD; rw [List.range_succ, List.foldl_append]; rfl
   rw [hs] at Hlook
   clear h2 hs
   go_wp2_with fail
   refine Hlook.out.mono ?_
   rintro e w5 ⟨_, rfl, rfl, he5⟩
   go_wp2
   go_roundw
   case rel => exact ⟨k + 1, by omega, by go_num, he5⟩
   case measure => simp [intOf]; omega
  ·obtain rfl : k = S.n := by omega
   have H4 := hid h2
   have Hwork := hid (ework_any wr G.b)
   clear h2
   go_wp2_with fail
   refine Hwork.out.mono ?_
   rintro e w5 ⟨_, rfl, rfl, hw5⟩
   have h5 := H4.out.addX1 HX1.out (.cells #[.pointer (some ⟨G.b, 0, none⟩)] 79)
   rw [← hw5] at h5
   have Hw5 := hid hw5
   clear hw5 Hwork hbx
   go_wp2
   have Hfon := hid (h5.st.fon)
   have Hhd := hid (h5.st.hdn)
   have HtiK := hid (TI.iter Hfon.out Hhd.out Hok.out (Hti.out.steps (steps_looks D S.n (Nat.le_refl _))))
   have HGx : ∀ (X2 : Cont), ({ G1 with x1 := Cont.blks ((wr.heap.size, Obj.cells #[.pointer (some ⟨G.b, 0, none⟩)] 79) :: [(w1.heap.size + 1, Obj.cells (doesV G.b) 93), (w1.heap.size, Obj.cells #[.pointer (some ⟨G.b, 0, none⟩)] 79)]), x2 := X2 } : Gh).x1 = Cont.blks [(wr.heap.size, Obj.cells #[.pointer (some ⟨G.b, 0, none⟩)] 79), (w1.heap.size + 1, Obj.cells (doesV G.b) 93), (w1.heap.size, Obj.cells #[.pointer (some ⟨G.b, 0, none⟩)] 79)] := fun _ => rfl
   have HGx := hid HGx
   generalize hG2 : ({ G1 with x1 := Cont.blks ((wr.heap.size, Obj.cells #[.pointer (some ⟨G.b, 0, none⟩)] 79) :: [(w1.heap.size + 1, Obj.cells (doesV G.b) 93), (w1.heap.size, Obj.cells #[.pointer (some ⟨G.b, 0, none⟩)] 79)]) } : Gh) = G2 at *
   have Hb2 : Hid (G2.b = G.b) := hid (by rw [← hG2]; exact Hb.out)
   have HX12 : Hid (G2.x1 = Cont.blks [(wr.heap.size, Obj.cells #[.pointer (some ⟨G.b, 0, none⟩)] 79), (w1.heap.size + 1, Obj.cells (doesV G.b) 93), (w1.heap.size, Obj.cells #[.pointer (some ⟨G.b, 0, none⟩)] 79)]) := hid (by rw [← hG2])
   have HX22 : Hid (G2.x2 = .no) := hid (by rw [← hG2]; exact HX2.out)
   have H5 := hid h5
   clear h5 HGx hG2
   have Hbox : Hid (∀ (X2 : Cont) (w' : World), (∃ D, Eng w' W1 { G2 with x2 := X2 } S T D) → w'.cell? ⟨wr.heap.size, 0, none⟩ = some (.pointer (some ⟨G2.b, 0, none⟩)) ∧ w'.cell? ⟨w1.heap.size, 0, none⟩ = some (.pointer (some ⟨G2.b, 0, none⟩)) ∧ ∀ j, w'.cell? ⟨w1.heap.size + 1, j, none⟩ = (doesV G2.b)[j]?) := hid (by
    rintro X2 w' ⟨D, v, h⟩
    rw [Hb2.out]
    have hx : ({ G2 with x2 := X2 } : Gh).x1 = _ := HX12.out
    refine ⟨?_, ?_, fun j => ?_⟩
    ·have := cell_of_row w' wr.heap.size 0 _ _ _ (h.getX1 hx List.mem_cons_self); simpa using this
    ·have := cell_of_row w' w1.heap.size 0 _ _ _ (h.getX1 hx (List.mem_cons_of_mem _ (List.mem_cons_of_mem _ List.mem_cons_self))); simpa using this
    ·exact cell_of_row w' (w1.heap.size + 1) j _ _ _ (h.getX1 hx (List.mem_cons_of_mem _ List.mem_cons_self)))
   refine (wpIn_wide (n := 8)).1 ?_
   refine erange (bn := wr.heap.size) (G := G2) (S := S) (T := T) (D0 := looksD D S.n) (W0 := W1) 8 (by omega) rfl rfl ⟨v2, H5.out⟩ HX22.out ?hbn HtiK.out (fun X2 w' h => (Hbox.out X2 w' h).1) ?hround ?hbody ?hdone
   case hbn =>
    rw [Hb2.out]
    have := lt_of_block H4.out.sp.hdr
    rw [Hb.out] at this; omega
   case hround =>
    intro l X2 W k q tag he hx
    simp only [List.zip_toArray, List.foldl_toArray, Array.zip, List.zip_cons_cons, List.zip_nil_right, List.foldl_cons, List.foldl_nil, List.setIfInBounds_toArray, List.set_cons_zero, List.set_cons_succ]
    gi_wp2
    refine ⟨he.ext (ext_alloc _ _), W.heap.size, rfl, heap_alloc_new _ _⟩
   case hbody =>
    intro l X2 W k q tag B he hx hB
    unfold engFr
    simp only [List.setIfInBounds_toArray, List.set_cons_zero, List.set_cons_succ]
    have c0 : W.cell? ⟨B, 0, none⟩ = some (.int .i64 (q : Int)) := cell_of_row W B 0 _ _ _ hB
    have c1 : W.cell? ⟨B, 1, none⟩ = some (.int .i64 (tag : Int)) := cell_of_row W B 1 _ _ _ hB
    obtain ⟨_, b2, b3⟩ := Hbox.out X2 W ⟨_, he⟩
    obtain ⟨hq, ht1, ht4⟩ := (HtiK.out k).mem q tag (List.mem_of_getElem? hx)
    have HD : Hid (iterD S (looksD D S.n) (k + 1) = dispD S (tick (iterD S (looksD D S.n) k) 1) k q tag) := hid (by
     show oneD S (iterD S (looksD D S.n) k) k = _
     unfold oneD; rw [hx])
    have Htk := hid ((HtiK.out k).other (F := tick (iterD S (looksD D S.n) k) 1) rfl rfl)
    have HE := hid he
    have e6 : W.cell? ⟨G2.b, 6, none⟩ = some (.int .i64 (S.first : Int)) := by obtain ⟨v, h⟩ := he; exact h.hFirst
    rw [Hb2.out] at b2 b3 e6
    have hk60 : k ≤ 16384 := by have h1 := told_length_le (HtiK.out k); have h2 := (List.getElem?_eq_some_iff.1 hx).1; omega
    clear he hx hB
    generalize iterD S (looksD D S.n) k = DK at *
    have hmix : Tryz.prog.follows .mixedOrders = true := by kernel_rfl
    rcases (show tag = 1 ∨ tag = 2 ∨ tag = 3 ∨ tag = 4 by omega) with rfl | rfl | rfl | rfl
    ·have HDk := hid (HD.out.trans (show dispD S (tick DK 1) k q _ = _ by unfold dispD; rw [if_neg (by omega), if_pos rfl]))
     have Hcall := hid (eonPlusD_any W.drew _ { G2 with x2 := X2 } S T _ (HE.out.ext (Below.refl _ _).drew) Hok.out Htk.out q hq hP)
     unfold Stp at Hcall
     rw [← HDk.out] at Hcall
     have Hcall : Hid (Calls Tryz.prog 50 #[.pointer (some ⟨G2.b, 0, none⟩), .int .i64 (q : Int)] W.drew (Ret _)) := Hcall
     rw [Hb2.out] at Hcall
     clear HD HDk
     rw [show ((1 : Nat) : Int) = 1 from rfl] at c1 ⊢
     have b4 := b3 1
     simp only [doesV, List.getElem?_toArray, List.getElem?_cons_zero, List.getElem?_cons_succ] at b4
     clear b3
     gi_wp2
     gi_region_with_o (refine ⟨trivial, ?_⟩; gi_at_call 50; refine (CallsIn.inRound l (callsIn_wide.2 Hcall.out)).mono ?_; rintro e w6 ⟨_, rfl, rfl, he6⟩)
     all_goals gi_wp2
     all_goals (rw [← Hb2.out] at he6; exact he6)
    ·by_cases hf : S.first ≤ k
     ·have hdf : decide (S.first ≤ k) = true := decide_eq_true hf
      have HDk := hid (HD.out.trans (show dispD S (tick DK 1) k q _ = _ by unfold dispD; rw [if_pos rfl, if_pos hf]))
      have Hcall := hid (eonLate_any W _ { G2 with x2 := X2 } S T _ HE.out Hok.out Htk.out q hq hP)
      unfold Stp at Hcall
      rw [← HDk.out] at Hcall
      have Hcall : Hid (Calls Tryz.prog 56 #[.pointer (some ⟨G2.b, 0, none⟩), .int .i64 (q : Int)] W (Ret _)) := Hcall
      rw [Hb2.out] at Hcall
      clear HD HDk
      rw [show ((2 : Nat) : Int) = 2 from rfl] at c1 ⊢
      clear b3
      gi_wp2_with fail
      refine ⟨trivial, ?_⟩
      gi_at_call 56
      refine (CallsIn.inRound l (callsIn_wide.2 Hcall.out)).mono ?_
      rintro e w6 ⟨_, rfl, rfl, he6⟩
      gi_wp2
      rw [← Hb2.out] at he6
      exact he6
     ·have hdf : decide (S.first ≤ k) = false := decide_eq_false hf
      have HDk := hid (HD.out.trans (show dispD S (tick DK 1) k q _ = _ by unfold dispD; rw [if_pos rfl, if_neg hf]))
      have Hcall := hid (eonNoD_any W.drew _ { G2 with x2 := X2 } S T _ (HE.out.ext (Below.refl _ _).drew) Hok.out Htk.out q hq hP)
      unfold Stp at Hcall
      rw [← HDk.out] at Hcall
      have Hcall : Hid (Calls Tryz.prog 51 #[.pointer (some ⟨G2.b, 0, none⟩), .int .i64 (q : Int)] W.drew (Ret _)) := Hcall
      rw [Hb2.out] at Hcall
      clear HD HDk
      rw [show ((2 : Nat) : Int) = 2 from rfl] at c1 ⊢
      have b4 := b3 2
      simp only [doesV, List.getElem?_toArray, List.getElem?_cons_zero, List.getElem?_cons_succ] at b4
      clear b3
      gi_wp2
      gi_region_with_o (refine ⟨trivial, ?_⟩; gi_at_call 51; refine (CallsIn.inRound l (callsIn_wide.2 Hcall.out)).mono ?_; rintro e w6 ⟨_, rfl, rfl, he6⟩)
      all_goals gi_wp2
      all_goals (rw [← Hb2.out] at he6; exact he6)
    ·have HDk := hid (HD.out.trans (show dispD S (tick DK 1) k q _ = _ by unfold dispD; rw [if_neg (by omega), if_neg (by omega), if_pos rfl]))
     have Hcall := hid (eonPlus_any W.drew _ { G2 with x2 := X2 } S T _ (HE.out.ext (Below.refl _ _).drew) Hok.out Htk.out q hq hP)
     unfold Stp at Hcall
     rw [← HDk.out] at Hcall
     have Hcall : Hid (Calls Tryz.prog 52 #[.pointer (some ⟨G2.b, 0, none⟩), .int .i64 (q : Int)] W.drew (Ret _)) := Hcall
     rw [Hb2.out] at Hcall
     clear HD HDk
     rw [show ((3 : Nat) : Int) = 3 from rfl] at c1 ⊢
     have b4 := b3 3
     simp only [doesV, List.getElem?_toArray, List.getElem?_cons_zero, List.getElem?_cons_succ] at b4
     clear b3
     gi_wp2
     gi_region_with_o (refine ⟨trivial, ?_⟩; gi_at_call 52; refine (CallsIn.inRound l (callsIn_wide.2 Hcall.out)).mono ?_; rintro e w6 ⟨_, rfl, rfl, he6⟩)
     all_goals gi_wp2
     all_goals (rw [← Hb2.out] at he6; exact he6)
    ·have HDk := hid (HD.out.trans (show dispD S (tick DK 1) k q _ = _ by unfold dispD; rw [if_neg (by omega), if_neg (by omega), if_neg (by omega)]))
     have Hcall := hid (eonMinus_any W.drew _ { G2 with x2 := X2 } S T _ (HE.out.ext (Below.refl _ _).drew) Hok.out Htk.out q hq hP)
     unfold Stp at Hcall
     rw [← HDk.out] at Hcall
     have Hcall : Hid (Calls Tryz.prog 53 #[.pointer (some ⟨G2.b, 0, none⟩), .int .i64 (q : Int)] W.drew (Ret _)) := Hcall
     rw [Hb2.out] at Hcall
     clear HD HDk
     rw [show ((4 : Nat) : Int) = 4 from rfl] at c1 ⊢
     have b4 := b3 4
     simp only [doesV, List.getElem?_toArray, List.getElem?_cons_zero, List.getElem?_cons_succ] at b4
     clear b3
     gi_wp2
     gi_region_with_o (refine ⟨trivial, ?_⟩; gi_at_call 53; refine (CallsIn.inRound l (callsIn_wide.2 Hcall.out)).mono ?_; rintro e w6 ⟨_, rfl, rfl, he6⟩)
     all_goals gi_wp2
     all_goals (rw [← Hb2.out] at he6; exact he6)
   case hdone =>
    intro d l o W k hdl hk hall he
    obtain ⟨_, b2, _⟩ := Hbox.out _ W ⟨_, he⟩
    rw [Hb2.out] at b2
    obtain ⟨v7, h7⟩ := he
    have hK : W.heap[d]? = some (.deferred (some [])) := h7.getX2 rfl List.mem_cons_self
    have h8 := h7.turnX2a rfl hdl (.deferred none)
    have Hk := hid hk
    have Hall := hid hall
    have H8 := hid h8
    have HK := hid hK
    clear h7 h8 hk hall hK
    go_wp2
    refine ⟨by simp, .inl ⟨_, _, rfl, run_takeDeferred HK.out, ?_⟩⟩
    refine ⟨_, results_tmp rfl _ _ _, Fin HQ ⟨{ G2 with x2 := _ }, S, D, _, k, HMM.out, ?_, Hk.out, Hall.out, HtiK.out, HW1.out, _, H8.out⟩⟩
    show _ = Value.pointer (some ⟨G2.b, 0, none⟩)
    rw [Hb2.out]; rfl
end Go.Proofs.Lx
