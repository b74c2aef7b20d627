/- Parts of the proof: Wr. Contract of fast.Differ. Its drawn region printed by gen_dif.py. No condition. -/
import Derived.Test.YtalhpldbhogadaaGreatO35
import Derived.Deep.DeepCutAuto
import Derived.Deep.RegionHeld3
namespace Go.Proofs.Lx
open Go Go.RowKit Go.Proofs.Tj
set_option linter.unusedSimpArgs false
set_option linter.unusedVariables false
theorem ptr_far {w : World} {p : Nat} {v0 : Value} {e : TypeId} (hp : w.heap[p]? = some (.cells #[v0] e (0, 0))) {a : Addr} {u : Value} (h : w.cell? a = some u) (hne : u ≠ v0) (x : Value) : (w.setCell ⟨p, 0, none⟩ x).cell? a = some u := by
 by_cases hb : a.block = p
 ·exfalso
  unfold World.cell? at h
  rw [hb, hp] at h
  dsimp only at h
  split at h
  ·cases h
  ·cases ho : a.off with
   | zero => rw [ho] at h; simp at h; exact hne h.symm
   | succ n => rw [ho] at h; simp at h
 ·exact (World.cell?_of_block (heap_setCell_other w ⟨p, 0, none⟩ a.block x (by simpa using fun k => hb k))).trans h
theorem ptr_farM {w : World} {p : Nat} {e : TypeId} (hp : w.heap[p]? = some (.cells #[.pointer none] e (0, 0))) {v : Value} {X : List Nat} (h : RdMk w v X) (x : Value) : RdMk (w.setCell ⟨p, 0, none⟩ x) v X := by
 obtain ⟨A, c, rfl, h1, h2, h3⟩ := h
 refine ⟨A, c, rfl, h1, h2, fun i hi => ?_⟩
 obtain ⟨ad, cs, hA, hr, hl, hc⟩ := h3 i hi
 refine ⟨ad, cs, hA, hr, hl, fun j u hu => ptr_far hp (hc j u hu) ?_ x⟩
 have hr : cs = [Value.int .u8 (X[i] : Int)] := hr
 rw [hr] at hu
 match j, hu with
 | 0, hu => simp at hu; subst hu; exact fun k => by cases k
theorem new_ptr (W : World) (W' : World) (h : Below (W.alloc (.cells #[.pointer none] 79)).heap.size (W.alloc (.cells #[.pointer none] 79)) W') : W'.heap[W.heap.size]? = some (.cells #[.pointer none] 79 (0, 0)) :=
 (h.block _ (by simp)).trans (heap_alloc_new W _)
set_option maxHeartbeats 800000 in
theorem dif1_any (W : World) (n p1 p2 b1 b2 q : Nat) (v1 v2 : Value) (X Y : List Nat) (hq : q < n) (hn : n ≤ 4096) (hX : X.length = n) (hY : Y.length = n) (hc1 : W.cell? ⟨p1, 0, none⟩ = some (.pointer (some ⟨b1, 0, none⟩))) (hc2 : W.cell? ⟨p2, 0, none⟩ = some (.pointer (some ⟨b2, 0, none⟩))) (h41 : W.cell? ⟨b1, 4, none⟩ = some v1) (h42 : W.cell? ⟨b2, 4, none⟩ = some v2) (h1 : RdMk W v1 X) (h2 : RdMk W v2 Y) :
  Calls Tryz.prog 22 ((#[Value.int .i64 (q : Int)] : Array Value) ++ #[.pointer (some ⟨p1, 0, none⟩), .pointer (some ⟨p2, 0, none⟩)]) W (Ret fun v w2 => v = .bool (X.getD q 0 != Y.getD q 0) ∧ Below W.heap.size W w2) := by
 obtain ⟨A, c, rfl, _, _, hr1⟩ := h1
 obtain ⟨A2, c2, rfl, _, _, hr2⟩ := h2
 have k1 : q < X.length := by omega
 have k2 : q < Y.length := by omega
 obtain ⟨ad, rfl, e1⟩ := hr1.at1 k1
 obtain ⟨ad2, rfl, e2⟩ := hr2.at1 k2
 rw [show X.getD q 0 = X[q] by simp [k1], show Y.getD q 0 = Y[q] by simp [k2]]
 rw [hX] at h41
 rw [hY] at h42
 generalize X[q] = x at *
 generalize Y[q] = y at *
 have hxy : ((x : Int) != (y : Int)) = (x != y) := by
  by_cases e : x = y
  ·subst e; simp
  ·have : (x : Int) ≠ (y : Int) := by omega
   rw [show ((x : Int) != (y : Int)) = true from bne_iff_ne.2 this, show (x != y) = true from bne_iff_ne.2 e]
 have Hxy := hid hxy
 clear hxy hX hY k1 k2 hr1 hr2
 refine post_gen fun Q HQ => ?_
 rw [← Hxy.out] at HQ
 go_enter Tryz.func22, Tryz.ntmps22
 go_wp2
 go_region
 all_goals
  go_wp2
  go_ret
  exact Fin HQ ⟨rfl, (ext_refl W).drew⟩
noncomputable def difErr (T : Th) (a b : List Int) : Int := givenErrs T [a, b]
noncomputable def difL (T : Th) (a b : List Int) : List Int := if difErr T a b = 0 then pickL (fun q => (solveM T a).getD q 0 != (solveM T b).getD q 0) T.foes.length else []
/-- What run leaves, to Differ. -/
def DifRun (w : World) (X : List Nat) (v : Value) (w' : World) : Prop := ∃ b v1, v = .pointer (some ⟨b, 0, none⟩) ∧ Hid (∀ W, Below w'.heap.size w' W → W.cell? ⟨b, 4, none⟩ = some v1 ∧ RdMk W v1 X) ∧ Below w.heap.size w w'
theorem difrun_any (w : World) (V vl : Value) (T : Th) (l : List Int) (hT : RdTh w V T) (hl : RdI w vl l) (hwf : WfTh T) (hr : risB l T.lits = true) : Calls Tryz.prog 17 #[V, vl] w (Ret (DifRun w (solveM T l))) :=
 (frun_any w V vl T l hT hl hwf hr).mono fun e w' h => h.mono fun v w' h => by
  obtain ⟨b, D, vM, vT, rfl, he, hfr, S, hfe⟩ := h.flat
  have hm : RdMk w' vM (solveM T l) := by
   have := he.mo
   rw [← solve_length T l] at this
   exact own_marks this (by rw [solve_length]; have := hwf.fl; have := hwf.l1; omega)
  exact ⟨b, vM, rfl, hid fun W hW => ⟨cell_ext hW he.c4, hm.ext (scR_mono _) hW⟩, he.bel⟩
set_option maxRecDepth 100000 in
set_option maxHeartbeats 3200000 in
theorem fdiffer_any (w : World) (V va vb : Value) (T : Th) (a b : List Int) (hT : RdTh w V T) (ha : RdI w va a) (hb : RdI w vb b) :
  Calls Tryz.prog 10 #[V, va, vb] w (Ret (IntsPost w (difL T a b) (difErr T a b))) := by
 have HT := hid hT
 have Ha := hid ha
 have Hb := hid hb
 obtain ⟨vF, vR, vB, rfl, hF, hR, hB⟩ := hT
 obtain ⟨AL, cL, rfl, _⟩ := ha
 obtain ⟨AM, cM, rfl, _⟩ := hb
 generalize a.length = nl at *
 generalize b.length = ml at *
 have hA := allocs [.cells #[.int .i64 T.lits, vF, vR, vB] 25, .cells #[.slice AL nl cL, .slice AM ml cM] 26] w
 obtain ⟨W1, HW1⟩ : ∃ W1, Hid (W1 = (w.alloc (.cells #[.int .i64 T.lits, vF, vR, vB] 25)).alloc (.cells #[.slice AL nl cL, .slice AM ml cM] 26)) := ⟨_, hid rfl⟩
 have e1 : [Obj.cells #[.int .i64 T.lits, vF, vR, vB] 25, .cells #[.slice AL nl cL, .slice AM ml cM] 26].foldl World.alloc w = W1 := HW1.out.symm
 rw [e1] at hA
 obtain ⟨hsz, hat, hbel⟩ := hA
 have hsz : W1.heap.size = w.heap.size + 2 := hsz
 have hg := fgiven_any W1 (.agg #[.int .i64 T.lits, vF, vR, vB]) (.slice (some ⟨w.heap.size + 1, 0, none⟩) 2 2) T [a, b] (HT.out.ext hbel) (rd_row2 (hat 1 _ rfl) (Ha.out.ext (scR_mono _) hbel) (Hb.out.ext (scR_mono _) hbel))
 have Hg := hid hg
 have hok : givenErrs T [a, b] = 0 → WfTh T ∧ risB a T.lits = true ∧ risB b T.lits = true := fun h => by
  obtain ⟨k1, k2⟩ := givenErrs_ok.1 h
  exact ⟨k1, k2 a (by simp), k2 b (by simp)⟩
 have Hra : Hid (givenErrs T [a, b] = 0 → ∀ W, Below W1.heap.size W1 W → Calls Tryz.prog 17 #[.agg #[.int .i64 T.lits, vF, vR, vB], .slice AL nl cL] W (Ret (DifRun W (solveM T a)))) := hid fun h W hw => difrun_any W _ _ T a (HT.out.ext (ext_trans hbel hw)) (Ha.out.ext (scR_mono _) (ext_trans hbel hw)) (hok h).1 (hok h).2.1
 have Hrb : Hid (givenErrs T [a, b] = 0 → ∀ W, Below W1.heap.size W1 W → Calls Tryz.prog 17 #[.agg #[.int .i64 T.lits, vF, vR, vB], .slice AM ml cM] W (Ret (DifRun W (solveM T b)))) := hid fun h W hw => difrun_any W _ _ T b (HT.out.ext (ext_trans hbel hw)) (Hb.out.ext (scR_mono _) (ext_trans hbel hw)) (hok h).1 (hok h).2.2
 have Hbox : Hid (∀ W, Below W1.heap.size W1 W → W.cell? ⟨w.heap.size, 0, none⟩ = some (.int .i64 T.lits) ∧ W.cell? ⟨w.heap.size, 1, none⟩ = some vF ∧ W.cell? ⟨w.heap.size, 2, none⟩ = some vR ∧ W.cell? ⟨w.heap.size, 3, none⟩ = some vB) := hid fun W hb => by
  have h0 : W.heap[w.heap.size]? = some (.cells #[.int .i64 T.lits, vF, vR, vB] 25 (0, 0)) := (hb.block _ (by omega)).trans (hat 0 _ rfl)
  exact ⟨cell_of_row _ _ 0 _ _ _ h0, cell_of_row _ _ 1 _ _ _ h0, cell_of_row _ _ 2 _ _ _ h0, cell_of_row _ _ 3 _ _ _ h0⟩
 have Hbel := hid hbel
 have Hok := hid hok
 clear hF hR hB hg hat hsz hbel e1 hok
 unfold IntsPost
 have HL0 : Hid (difErr T a b ≠ 0 → difL T a b = []) := hid fun h => by unfold difL; rw [if_neg h]
 have HL1 : Hid (difErr T a b = 0 → difL T a b = pickL (fun q => (solveM T a).getD q 0 != (solveM T b).getD q 0) T.foes.length) := hid fun h => by unfold difL; rw [if_pos h]
 have Hde : Hid (difErr T a b = givenErrs T [a, b]) := hid rfl
 rw [Hde.out] at HL0 HL1 ⊢
 generalize givenErrs T [a, b] = c at *
 have hnil : ∀ W : World, W.ownsRow w.heap.size 3 1 (.slice none 0 0) ([] : List Int).length (intsV []) := fun W => by simpa [intsV] using World.ownsRow_nil _ _ _ _
 have Hnil := hid hnil
 clear hnil
 refine post_gen fun Q HQ => ?_
 go_enter Tryz.func10, Tryz.ntmps10
 go_wp2_with fail
 rw [← HW1.out]
 refine Hg.out.mono ?_
 rintro e w2 ⟨_, rfl, rfl, hb2⟩
 have Hb2 := hid hb2
 by_cases h : c = 0
 case neg =>
  have hne : (c != 0) = true := by simp [h]
  have hL := HL0.out h
  rw [hL] at HQ
  clear hL hb2
  go_wp2_with fail
  go_ret2
  exact Fin HQ ⟨_, rfl, Hnil.out _, ext_trans Hbel.out Hb2.out⟩
 subst h
 obtain ⟨b0, b1, b2, b3⟩ := Hbox.out w2 hb2
 have hL := HL1.out rfl
 rw [hL] at HQ
 clear hL
 have hwf := (Hok.out rfl).1
 have hfl := hwf.fl
 have hn4 : T.foes.length ≤ 4096 := by have := hwf.l1; omega
 have Hn4 := hid hn4
 have Hfl := hid hfl
 have Hla : Hid ((solveM T a).length = T.foes.length) := hid (solve_length T a)
 have Hlb : Hid ((solveM T b).length = T.foes.length) := hid (solve_length T b)
 have Hrun1 : Hid (∀ W, Below w2.heap.size w2 W → Calls Tryz.prog 17 #[.agg #[.int .i64 T.lits, vF, vR, vB], .slice AL nl cL] W (Ret (DifRun W (solveM T a)))) := hid fun W hW => Hra.out rfl W (ext_trans Hb2.out hW)
 have Hrun2 : Hid (∀ W, Below w2.heap.size w2 W → Calls Tryz.prog 17 #[.agg #[.int .i64 T.lits, vF, vR, vB], .slice AM ml cM] W (Ret (DifRun W (solveM T b)))) := hid fun W hW => Hrb.out rfl W (ext_trans Hb2.out hW)
 unfold DifRun at Hrun1 Hrun2
 have HS : Hid (∀ W, Below w2.heap.size w2 W → W.cell? ⟨w.heap.size, 0, none⟩ = some (.int .i64 T.lits) ∧ W.cell? ⟨w.heap.size, 1, none⟩ = some vF ∧ W.cell? ⟨w.heap.size, 2, none⟩ = some vR ∧ W.cell? ⟨w.heap.size, 3, none⟩ = some vB) := hid fun W hW => Hbox.out W (ext_trans Hb2.out hW)
 clear hb2 hwf hfl hn4
 go_wp2_with fail
 rename_i KB aB
 have HKB := hid aB
 clear aB
 have HK : Hid (∀ (x19 x20 x21 x22 x23 x24 : Value) (p1 p2 b1 b2 : Nat) (v1 v2 : Value) (Wz : World), Wz.heap[p1]? = some (.cells #[.pointer none] 79 (0, 0)) → Wz.heap[p2]? = some (.cells #[.pointer none] 79 (0, 0)) → p1 ≠ p2 → w2.heap.size ≤ p1 → w2.heap.size ≤ p2 → Wz.cell? ⟨b1, 4, none⟩ = some v1 → RdMk Wz v1 (solveM T a) → Wz.cell? ⟨b2, 4, none⟩ = some v2 → RdMk Wz v2 (solveM T b) → Below w2.heap.size w2 Wz → KB ⟨#[Value.agg #[Value.int IntKind.i64 T.lits, vF, vR, vB], Value.slice AL nl cL, Value.slice AM ml cM, Value.pointer (some ⟨w.heap.size, 0, none⟩), undef, undef, Value.slice none 0 0, Value.int IntKind.i64 0, Value.int IntKind.i64 0, Value.pointer (some ⟨p1, 0, none⟩), Value.pointer (some ⟨p2, 0, none⟩), Value.agg #[Value.int IntKind.i64 T.lits, vF, vR, vB], Value.slice AL nl cL, Value.slice AM ml cM, Value.slice (some ⟨w.heap.size + 1, 0, none⟩) 2 2, Value.int IntKind.i64 0, Value.int IntKind.i64 0, Value.bool false, undef, x19, x20, x21, x22, x23, x24, undef, undef, undef, undef], []⟩ ((Wz.setCell ⟨p1, 0, none⟩ (.pointer (some ⟨b1, 0, none⟩))).setCell ⟨p2, 0, none⟩ (.pointer (some ⟨b2, 0, none⟩)))) := hid (by
  intro x19 x20 x21 x22 x23 x24 p1 p2 b1 b2 v1 v2 Wz hp1 hp2 hne hl1 hl2 h41 hr1 h42 hr2 hbz
  obtain ⟨Wf, HWf⟩ : ∃ Wf, Hid (Wf = (Wz.setCell ⟨p1, 0, none⟩ (.pointer (some ⟨b1, 0, none⟩))).setCell ⟨p2, 0, none⟩ (.pointer (some ⟨b2, 0, none⟩))) := ⟨_, hid rfl⟩
  have hp2' : (Wz.setCell ⟨p1, 0, none⟩ (.pointer (some ⟨b1, 0, none⟩))).heap[p2]? = some (.cells #[.pointer none] 79 (0, 0)) := (heap_setCell_other _ _ _ _ (by simpa using fun k => hne k.symm)).trans hp2
  have hfar : ∀ ad u, Wz.cell? ad = some u → u ≠ .pointer none → Wf.cell? ad = some u := fun ad u hc hu => by
   rw [HWf.out]; exact ptr_far hp2' (ptr_far hp1 hc hu _) hu _
  have hbf : Below w2.heap.size w2 Wf := by rw [HWf.out]; exact (hbz.setCell hl1 _).setCell hl2 _
  have hc1 : Wf.cell? ⟨p1, 0, none⟩ = some (.pointer (some ⟨b1, 0, none⟩)) := by
   rw [HWf.out]
   refine ptr_far hp2' ?_ (fun k => by cases k) _
   exact cell_of_row _ _ 0 _ _ _ (heap_setCell_same _ _ 0 _ _ _ hp1)
  have hc2 : Wf.cell? ⟨p2, 0, none⟩ = some (.pointer (some ⟨b2, 0, none⟩)) := by
   rw [HWf.out]
   exact cell_of_row _ _ 0 _ _ _ (heap_setCell_same _ _ 0 _ _ _ hp2')
  have hv1 : v1 ≠ .pointer none := by obtain ⟨A, c, rfl, _⟩ := hr1; exact fun k => by cases k
  have hv2 : v2 ≠ .pointer none := by obtain ⟨A, c, rfl, _⟩ := hr2; exact fun k => by cases k
  have f41 := hfar _ _ h41 hv1
  have f42 := hfar _ _ h42 hv2
  have fr1 : RdMk Wf v1 (solveM T a) := by rw [HWf.out]; exact ptr_farM hp2' (ptr_farM hp1 hr1 _) _
  have fr2 : RdMk Wf v2 (solveM T b) := by rw [HWf.out]; exact ptr_farM hp2' (ptr_farM hp1 hr2 _) _
  obtain ⟨b0, b1', b2', b3⟩ := HS.out Wf hbf
  have hch := chosen_any Wf T.foes.length 22 #[.pointer (some ⟨p1, 0, none⟩), .pointer (some ⟨p2, 0, none⟩)] (fun q => (solveM T a).getD q 0 != (solveM T b).getD q 0) enters_dif1 Hn4.out (fun q hqn W hW =>
   dif1_any W T.foes.length p1 p2 b1 b2 q v1 v2 _ _ hqn Hn4.out Hla.out Hlb.out (cell_ext hW hc1) (cell_ext hW hc2) (cell_ext hW f41) (cell_ext hW f42) (fr1.ext (scR_mono _) hW) (fr2.ext (scR_mono _) hW))
  rw [Hfl.out] at hch
  have Hch := hid hch
  have Hb1f := hid (ext_trans Hb2.out hbf)
  clear hch f41 f42 fr1 fr2 hc1 hc2 hfar hbf hp2' hp1 hp2 h41 h42 hr1 hr2 hv1 hv2 hl1 hl2 hne hbz
  rw [← HWf.out]
  refine HKB.out _ _ ?_
  clear HKB
  go_wp2_with fail
  refine Hch.out.mono ?_
  rintro e w5 ⟨_, rfl, hown, hb5⟩
  have Hown := hid hown
  clear hown
  go_wp2_with fail
  go_ret2
  exact Fin HQ ⟨_, rfl, own_lower Hown.out (ext_trans Hbel.out Hb1f.out).size, ext_trans Hbel.out (ext_trans Hb1f.out hb5)⟩)
 clear HKB HQ Hbox Hbel Hok Hra Hrb HL0 HL1 Hde Hnil Hfl Hla Hlb Hn4 HT Ha Hb Hg
 have hb0 : Below w2.heap.size w2 w2.drew := (ext_refl w2).drew
 refine wp_region_noPanic ?_
 refine wp_region_held_drew (S := (fun w' : World => w'.cell? ⟨w.heap.size, 0, none⟩ = some (.int .i64 T.lits) ∧ w'.cell? ⟨w.heap.size, 1, none⟩ = some vF ∧ w'.cell? ⟨w.heap.size, 2, none⟩ = some vR ∧ w'.cell? ⟨w.heap.size, 3, none⟩ = some vB)) (by kernel_rfl) ?_ (fun hHeld => ?_)
 ·exact HS.out _ hb0
 refine wpAnyH_take (i := 0) (v := ?v1) rfl (by kernel_rfl) (by kernel_rfl) (by kernel_rfl) (fun _ _ _ h => h) (Or.inl ⟨by rfl, ?hy1⟩) (by assumption) ?rest1
 case hy1 => (intro w hSw; (try dsimp only at hSw); go_simp) <;> try with_reducible rfl
 simp only [Act.put, List.setIfInBounds_toArray, List.set_cons_zero, List.set_cons_succ]
 refine wpAnyH_take (i := 1) (v := ?v2) rfl (by kernel_rfl) (by kernel_rfl) (by kernel_rfl) (fun _ _ _ h => h) (Or.inl ⟨by rfl, ?hy2⟩) (by assumption) ?rest2
 case hy2 => (intro w hSw; (try dsimp only at hSw); go_simp) <;> try with_reducible rfl
 simp only [Act.put, List.setIfInBounds_toArray, List.set_cons_zero, List.set_cons_succ]
 refine wpAnyH_take (i := 3) (v := ?v3) rfl (by kernel_rfl) (by kernel_rfl) (by kernel_rfl) (fun _ _ _ h => h) (Or.inl ⟨by rfl, ?hy3⟩) (by assumption) ?rest3
 case hy3 => (intro w hSw; (try dsimp only at hSw); go_simp) <;> try with_reducible rfl
 simp only [Act.put, List.setIfInBounds_toArray, List.set_cons_zero, List.set_cons_succ]
 refine wpAnyH_take (i := 4) (v := ?v4) rfl (by kernel_rfl) (by kernel_rfl) (by kernel_rfl) (fun _ _ _ h => h) (Or.inl ⟨by rfl, ?hy4⟩) (by assumption) ?rest4
 case hy4 => (intro w hSw; (try dsimp only at hSw); go_simp) <;> try with_reducible rfl
 simp only [Act.put, List.setIfInBounds_toArray, List.set_cons_zero, List.set_cons_succ]
 refine wpAnyH_ready (rs := [2, 6, 7]) (by kernel_rfl) (by simp) ?_
 refine AllReadyH.cons rfl (fun K9 hK9 => ?_) (AllReadyH.cons rfl (fun K9 hK9 => ?_) (AllReadyH.cons rfl (fun K9 hK9 => ?_) AllReadyH.nil))
 ·skip
  go_simp
  refine (Hrun1.out _ (hb0)).mono ?_
  rintro e wc1 ⟨_, rfl, bq1, vq1, rfl, hC1, hbc1⟩
  refine hK9.out _ _ ?_ (fun hHeld => ?_)
  ·exact HS.out _ (ext_trans (hb0) hbc1)
  clear hK9 K9
  try simp only [Act.put, List.setIfInBounds_toArray, List.set_cons_zero, List.set_cons_succ]
  refine wpAnyH_ready (rs := [5, 6, 7]) (by kernel_rfl) (by simp) ?_
  refine AllReadyH.cons rfl (fun K9 hK9 => ?_) (AllReadyH.cons rfl (fun K9 hK9 => ?_) (AllReadyH.cons rfl (fun K9 hK9 => ?_) AllReadyH.nil))
  ·skip
   go_simp
   refine (Hrun2.out _ ((ext_trans (hb0) hbc1))).mono ?_
   rintro e wc2 ⟨_, rfl, bq2, vq2, rfl, hC2, hbc2⟩
   refine hK9.out _ _ ?_ (fun hHeld => ?_)
   ·exact HS.out _ (ext_trans ((ext_trans (hb0) hbc1)) hbc2)
   clear hK9 K9
   try simp only [Act.put, List.setIfInBounds_toArray, List.set_cons_zero, List.set_cons_succ]
   refine wpAnyH_ready (rs := [6, 7]) (by kernel_rfl) (by simp) ?_
   refine AllReadyH.cons rfl (fun K9 hK9 => ?_) (AllReadyH.cons rfl (fun K9 hK9 => ?_) AllReadyH.nil)
   ·skip
    have hN3 : Hid (∀ W, Below (wc2.alloc (.cells #[.pointer none] 79)).heap.size (wc2.alloc (.cells #[.pointer none] 79)) W → W.heap[wc2.heap.size]? = some (.cells #[.pointer none] 79 (0, 0))) := hid fun W hW => by have h := new_ptr wc2 W hW; exact h
    have hZ3 : w2.heap.size ≤ wc2.heap.size := by have h := ((ext_trans ((ext_trans (hb0) hbc1)) hbc2)).size; exact h
    go_simp
    refine hK9.out _ _ ?_ (fun hHeld => ?_)
    ·exact HS.out _ (((ext_trans ((ext_trans (hb0) hbc1)) hbc2)).alloc ((ext_trans ((ext_trans (hb0) hbc1)) hbc2)).size (.cells #[.pointer none] 79))
    clear hK9 K9
    try simp only [Act.put, List.setIfInBounds_toArray, List.set_cons_zero, List.set_cons_succ]
    refine wpAnyH_ready (rs := [7]) (by kernel_rfl) (by simp) ?_
    refine AllReadyH.cons rfl (fun K9 hK9 => ?_) AllReadyH.nil
    have hN4 : Hid (∀ W, Below ((wc2.alloc (.cells #[.pointer none] 79)).alloc (.cells #[.pointer none] 79)).heap.size ((wc2.alloc (.cells #[.pointer none] 79)).alloc (.cells #[.pointer none] 79)) W → W.heap[wc2.heap.size + 1]? = some (.cells #[.pointer none] 79 (0, 0))) := hid fun W hW => by have h := new_ptr (wc2.alloc (.cells #[.pointer none] 79)) W hW; rw [World.size_alloc] at h; exact h
    have hZ4 : w2.heap.size ≤ wc2.heap.size + 1 := by have h := ((((ext_trans ((ext_trans (hb0) hbc1)) hbc2)).alloc ((ext_trans ((ext_trans (hb0) hbc1)) hbc2)).size (.cells #[.pointer none] 79))).size; rw [World.size_alloc] at h; exact h
    go_simp
    refine hK9.out _ _ ?_ (fun hHeld => ?_)
    ·exact HS.out _ (((((ext_trans ((ext_trans (hb0) hbc1)) hbc2)).alloc ((ext_trans ((ext_trans (hb0) hbc1)) hbc2)).size (.cells #[.pointer none] 79))).alloc ((((ext_trans ((ext_trans (hb0) hbc1)) hbc2)).alloc ((ext_trans ((ext_trans (hb0) hbc1)) hbc2)).size (.cells #[.pointer none] 79))).size (.cells #[.pointer none] 79))
    clear hK9 K9
    try simp only [Act.put, List.setIfInBounds_toArray, List.set_cons_zero, List.set_cons_succ]
    refine wpAnyH_ready (rs := [8]) (by kernel_rfl) (by simp) ?_
    refine AllReadyH.cons rfl (fun K9 hK9 => ?_) AllReadyH.nil
    have hp1 := hN3.out _ (ext_trans (ext_refl (wc2.alloc (.cells #[.pointer none] 79))) (ext_alloc _ (.cells #[.pointer none] 79)))
    have hp2 := hN4.out _ (ext_refl ((wc2.alloc (.cells #[.pointer none] 79)).alloc (.cells #[.pointer none] 79)))
    have hne : wc2.heap.size ≠ wc2.heap.size + 1 := by
     have := ((ext_refl (wc2.alloc (.cells #[.pointer none] 79)))).size
     simp only [World.size_alloc] at this
     try dsimp only [World.drew] at this
     omega
    have q1 := hC1.out _ (ext_trans (ext_trans (ext_trans (ext_refl wc1) hbc2) (ext_alloc _ (.cells #[.pointer none] 79))) (ext_alloc _ (.cells #[.pointer none] 79)))
    have q2 := hC2.out _ (ext_trans (ext_trans (ext_refl wc2) (ext_alloc _ (.cells #[.pointer none] 79))) (ext_alloc _ (.cells #[.pointer none] 79)))
    have hbz := (((((ext_trans ((ext_trans (hb0) hbc1)) hbc2)).alloc ((ext_trans ((ext_trans (hb0) hbc1)) hbc2)).size (.cells #[.pointer none] 79))).alloc ((((ext_trans ((ext_trans (hb0) hbc1)) hbc2)).alloc ((ext_trans ((ext_trans (hb0) hbc1)) hbc2)).size (.cells #[.pointer none] 79))).size (.cells #[.pointer none] 79))
    generalize ((wc2.alloc (.cells #[.pointer none] 79)).alloc (.cells #[.pointer none] 79)) = Wz at hp1 hp2 q1 q2 hbz ⊢
    have hcz : Wz.cell? ⟨wc2.heap.size, 0, none⟩ = some (.pointer none) := cell_of_row _ _ 0 _ _ _ hp1
    have hfz : Wz.frozen? ⟨wc2.heap.size, 0, none⟩ = false := frozen_of_row _ _ 0 _ _ hp1
    go_simp
    refine hK9.out _ _ ?_ (fun hHeld => ?_)
    ·exact HS.out _ (hbz.setCell (p := ⟨wc2.heap.size, 0, none⟩) hZ3 _)
    clear hK9 K9
    try simp only [Act.put, List.setIfInBounds_toArray, List.set_cons_zero, List.set_cons_succ]
    refine wpAnyH_ready (rs := [9]) (by kernel_rfl) (by simp) ?_
    refine AllReadyH.cons rfl (fun K9 hK9 => ?_) AllReadyH.nil
    have hp2s : (Wz.setCell ⟨wc2.heap.size, 0, none⟩ (.pointer (some ⟨bq1, 0, none⟩))).heap[wc2.heap.size + 1]? = some (.cells #[.pointer none] 79 (0, 0)) := (heap_setCell_other _ _ _ _ (by dsimp only; exact fun k => hne k.symm)).trans hp2
    have hcy : (Wz.setCell ⟨wc2.heap.size, 0, none⟩ (.pointer (some ⟨bq1, 0, none⟩))).cell? ⟨wc2.heap.size + 1, 0, none⟩ = some (.pointer none) := cell_of_row _ _ 0 _ _ _ hp2s
    have hfy : (Wz.setCell ⟨wc2.heap.size, 0, none⟩ (.pointer (some ⟨bq1, 0, none⟩))).frozen? ⟨wc2.heap.size + 1, 0, none⟩ = false := frozen_of_row _ _ 0 _ _ hp2s
    go_simp
    refine hK9.out _ _ ?_ (fun hHeld => ?_)
    ·exact HS.out _ (((hbz.setCell (p := ⟨wc2.heap.size, 0, none⟩) hZ3 _)).setCell (p := ⟨wc2.heap.size + 1, 0, none⟩) hZ4 _)
    clear hK9 K9
    try simp only [Act.put, List.setIfInBounds_toArray, List.set_cons_zero, List.set_cons_succ]
    refine wpAnyH_done (by kernel_rfl) (NoPanic.normal ?_) _
    exact HK.out _ _ _ _ _ _ (wc2.heap.size) (wc2.heap.size + 1) _ _ _ _ Wz hp1 hp2 hne hZ3 hZ4 q1.1 q1.2 q2.1 q2.2 hbz
   ·skip
    have hN7 : Hid (∀ W, Below (wc2.alloc (.cells #[.pointer none] 79)).heap.size (wc2.alloc (.cells #[.pointer none] 79)) W → W.heap[wc2.heap.size]? = some (.cells #[.pointer none] 79 (0, 0))) := hid fun W hW => by have h := new_ptr wc2 W hW; exact h
    have hZ7 : w2.heap.size ≤ wc2.heap.size := by have h := ((ext_trans ((ext_trans (hb0) hbc1)) hbc2)).size; exact h
    go_simp
    refine hK9.out _ _ ?_ (fun hHeld => ?_)
    ·exact HS.out _ (((ext_trans ((ext_trans (hb0) hbc1)) hbc2)).alloc ((ext_trans ((ext_trans (hb0) hbc1)) hbc2)).size (.cells #[.pointer none] 79))
    clear hK9 K9
    try simp only [Act.put, List.setIfInBounds_toArray, List.set_cons_zero, List.set_cons_succ]
    refine wpAnyH_ready (rs := [6]) (by kernel_rfl) (by simp) ?_
    refine AllReadyH.cons rfl (fun K9 hK9 => ?_) AllReadyH.nil
    have hN8 : Hid (∀ W, Below ((wc2.alloc (.cells #[.pointer none] 79)).alloc (.cells #[.pointer none] 79)).heap.size ((wc2.alloc (.cells #[.pointer none] 79)).alloc (.cells #[.pointer none] 79)) W → W.heap[wc2.heap.size + 1]? = some (.cells #[.pointer none] 79 (0, 0))) := hid fun W hW => by have h := new_ptr (wc2.alloc (.cells #[.pointer none] 79)) W hW; rw [World.size_alloc] at h; exact h
    have hZ8 : w2.heap.size ≤ wc2.heap.size + 1 := by have h := ((((ext_trans ((ext_trans (hb0) hbc1)) hbc2)).alloc ((ext_trans ((ext_trans (hb0) hbc1)) hbc2)).size (.cells #[.pointer none] 79))).size; rw [World.size_alloc] at h; exact h
    go_simp
    refine hK9.out _ _ ?_ (fun hHeld => ?_)
    ·exact HS.out _ (((((ext_trans ((ext_trans (hb0) hbc1)) hbc2)).alloc ((ext_trans ((ext_trans (hb0) hbc1)) hbc2)).size (.cells #[.pointer none] 79))).alloc ((((ext_trans ((ext_trans (hb0) hbc1)) hbc2)).alloc ((ext_trans ((ext_trans (hb0) hbc1)) hbc2)).size (.cells #[.pointer none] 79))).size (.cells #[.pointer none] 79))
    clear hK9 K9
    try simp only [Act.put, List.setIfInBounds_toArray, List.set_cons_zero, List.set_cons_succ]
    refine wpAnyH_ready (rs := [8]) (by kernel_rfl) (by simp) ?_
    refine AllReadyH.cons rfl (fun K9 hK9 => ?_) AllReadyH.nil
    have hp1 := hN8.out _ (ext_refl ((wc2.alloc (.cells #[.pointer none] 79)).alloc (.cells #[.pointer none] 79)))
    have hp2 := hN7.out _ (ext_trans (ext_refl (wc2.alloc (.cells #[.pointer none] 79))) (ext_alloc _ (.cells #[.pointer none] 79)))
    have hne : wc2.heap.size + 1 ≠ wc2.heap.size := by
     have := ((ext_refl (wc2.alloc (.cells #[.pointer none] 79)))).size
     simp only [World.size_alloc] at this
     try dsimp only [World.drew] at this
     omega
    have q1 := hC1.out _ (ext_trans (ext_trans (ext_trans (ext_refl wc1) hbc2) (ext_alloc _ (.cells #[.pointer none] 79))) (ext_alloc _ (.cells #[.pointer none] 79)))
    have q2 := hC2.out _ (ext_trans (ext_trans (ext_refl wc2) (ext_alloc _ (.cells #[.pointer none] 79))) (ext_alloc _ (.cells #[.pointer none] 79)))
    have hbz := (((((ext_trans ((ext_trans (hb0) hbc1)) hbc2)).alloc ((ext_trans ((ext_trans (hb0) hbc1)) hbc2)).size (.cells #[.pointer none] 79))).alloc ((((ext_trans ((ext_trans (hb0) hbc1)) hbc2)).alloc ((ext_trans ((ext_trans (hb0) hbc1)) hbc2)).size (.cells #[.pointer none] 79))).size (.cells #[.pointer none] 79))
    generalize ((wc2.alloc (.cells #[.pointer none] 79)).alloc (.cells #[.pointer none] 79)) = Wz at hp1 hp2 q1 q2 hbz ⊢
    have hcz : Wz.cell? ⟨wc2.heap.size + 1, 0, none⟩ = some (.pointer none) := cell_of_row _ _ 0 _ _ _ hp1
    have hfz : Wz.frozen? ⟨wc2.heap.size + 1, 0, none⟩ = false := frozen_of_row _ _ 0 _ _ hp1
    go_simp
    refine hK9.out _ _ ?_ (fun hHeld => ?_)
    ·exact HS.out _ (hbz.setCell (p := ⟨wc2.heap.size + 1, 0, none⟩) hZ8 _)
    clear hK9 K9
    try simp only [Act.put, List.setIfInBounds_toArray, List.set_cons_zero, List.set_cons_succ]
    refine wpAnyH_ready (rs := [9]) (by kernel_rfl) (by simp) ?_
    refine AllReadyH.cons rfl (fun K9 hK9 => ?_) AllReadyH.nil
    have hp2s : (Wz.setCell ⟨wc2.heap.size + 1, 0, none⟩ (.pointer (some ⟨bq1, 0, none⟩))).heap[wc2.heap.size]? = some (.cells #[.pointer none] 79 (0, 0)) := (heap_setCell_other _ _ _ _ (by dsimp only; exact fun k => hne k.symm)).trans hp2
    have hcy : (Wz.setCell ⟨wc2.heap.size + 1, 0, none⟩ (.pointer (some ⟨bq1, 0, none⟩))).cell? ⟨wc2.heap.size, 0, none⟩ = some (.pointer none) := cell_of_row _ _ 0 _ _ _ hp2s
    have hfy : (Wz.setCell ⟨wc2.heap.size + 1, 0, none⟩ (.pointer (some ⟨bq1, 0, none⟩))).frozen? ⟨wc2.heap.size, 0, none⟩ = false := frozen_of_row _ _ 0 _ _ hp2s
    go_simp
    refine hK9.out _ _ ?_ (fun hHeld => ?_)
    ·exact HS.out _ (((hbz.setCell (p := ⟨wc2.heap.size + 1, 0, none⟩) hZ8 _)).setCell (p := ⟨wc2.heap.size, 0, none⟩) hZ7 _)
    clear hK9 K9
    try simp only [Act.put, List.setIfInBounds_toArray, List.set_cons_zero, List.set_cons_succ]
    refine wpAnyH_done (by kernel_rfl) (NoPanic.normal ?_) _
    exact HK.out _ _ _ _ _ _ (wc2.heap.size + 1) (wc2.heap.size) _ _ _ _ Wz hp1 hp2 hne hZ8 hZ7 q1.1 q1.2 q2.1 q2.2 hbz
  ·skip
   have hN11 : Hid (∀ W, Below (wc1.alloc (.cells #[.pointer none] 79)).heap.size (wc1.alloc (.cells #[.pointer none] 79)) W → W.heap[wc1.heap.size]? = some (.cells #[.pointer none] 79 (0, 0))) := hid fun W hW => by have h := new_ptr wc1 W hW; exact h
   have hZ11 : w2.heap.size ≤ wc1.heap.size := by have h := ((ext_trans (hb0) hbc1)).size; exact h
   go_simp
   refine hK9.out _ _ ?_ (fun hHeld => ?_)
   ·exact HS.out _ (((ext_trans (hb0) hbc1)).alloc ((ext_trans (hb0) hbc1)).size (.cells #[.pointer none] 79))
   clear hK9 K9
   try simp only [Act.put, List.setIfInBounds_toArray, List.set_cons_zero, List.set_cons_succ]
   refine wpAnyH_ready (rs := [5, 7]) (by kernel_rfl) (by simp) ?_
   refine AllReadyH.cons rfl (fun K9 hK9 => ?_) (AllReadyH.cons rfl (fun K9 hK9 => ?_) AllReadyH.nil)
   ·skip
    go_simp
    refine (Hrun2.out _ ((((ext_trans (hb0) hbc1)).alloc ((ext_trans (hb0) hbc1)).size (.cells #[.pointer none] 79)))).mono ?_
    rintro e wc12 ⟨_, rfl, bq12, vq12, rfl, hC12, hbc12⟩
    refine hK9.out _ _ ?_ (fun hHeld => ?_)
    ·exact HS.out _ (ext_trans ((((ext_trans (hb0) hbc1)).alloc ((ext_trans (hb0) hbc1)).size (.cells #[.pointer none] 79))) hbc12)
    clear hK9 K9
    try simp only [Act.put, List.setIfInBounds_toArray, List.set_cons_zero, List.set_cons_succ]
    refine wpAnyH_ready (rs := [7]) (by kernel_rfl) (by simp) ?_
    refine AllReadyH.cons rfl (fun K9 hK9 => ?_) AllReadyH.nil
    have hN13 : Hid (∀ W, Below (wc12.alloc (.cells #[.pointer none] 79)).heap.size (wc12.alloc (.cells #[.pointer none] 79)) W → W.heap[wc12.heap.size]? = some (.cells #[.pointer none] 79 (0, 0))) := hid fun W hW => by have h := new_ptr wc12 W hW; exact h
    have hZ13 : w2.heap.size ≤ wc12.heap.size := by have h := ((ext_trans ((((ext_trans (hb0) hbc1)).alloc ((ext_trans (hb0) hbc1)).size (.cells #[.pointer none] 79))) hbc12)).size; exact h
    go_simp
    refine hK9.out _ _ ?_ (fun hHeld => ?_)
    ·exact HS.out _ (((ext_trans ((((ext_trans (hb0) hbc1)).alloc ((ext_trans (hb0) hbc1)).size (.cells #[.pointer none] 79))) hbc12)).alloc ((ext_trans ((((ext_trans (hb0) hbc1)).alloc ((ext_trans (hb0) hbc1)).size (.cells #[.pointer none] 79))) hbc12)).size (.cells #[.pointer none] 79))
    clear hK9 K9
    try simp only [Act.put, List.setIfInBounds_toArray, List.set_cons_zero, List.set_cons_succ]
    refine wpAnyH_ready (rs := [8]) (by kernel_rfl) (by simp) ?_
    refine AllReadyH.cons rfl (fun K9 hK9 => ?_) AllReadyH.nil
    have hp1 := hN11.out _ (ext_trans (ext_trans (ext_refl (wc1.alloc (.cells #[.pointer none] 79))) hbc12) (ext_alloc _ (.cells #[.pointer none] 79)))
    have hp2 := hN13.out _ (ext_refl (wc12.alloc (.cells #[.pointer none] 79)))
    have hne : wc1.heap.size ≠ wc12.heap.size := by
     have := ((ext_trans (ext_refl (wc1.alloc (.cells #[.pointer none] 79))) hbc12)).size
     simp only [World.size_alloc] at this
     try dsimp only [World.drew] at this
     omega
    have q1 := hC1.out _ (ext_trans (ext_trans (ext_trans (ext_refl wc1) (ext_alloc _ (.cells #[.pointer none] 79))) hbc12) (ext_alloc _ (.cells #[.pointer none] 79)))
    have q2 := hC12.out _ (ext_trans (ext_refl wc12) (ext_alloc _ (.cells #[.pointer none] 79)))
    have hbz := (((ext_trans ((((ext_trans (hb0) hbc1)).alloc ((ext_trans (hb0) hbc1)).size (.cells #[.pointer none] 79))) hbc12)).alloc ((ext_trans ((((ext_trans (hb0) hbc1)).alloc ((ext_trans (hb0) hbc1)).size (.cells #[.pointer none] 79))) hbc12)).size (.cells #[.pointer none] 79))
    generalize (wc12.alloc (.cells #[.pointer none] 79)) = Wz at hp1 hp2 q1 q2 hbz ⊢
    have hcz : Wz.cell? ⟨wc1.heap.size, 0, none⟩ = some (.pointer none) := cell_of_row _ _ 0 _ _ _ hp1
    have hfz : Wz.frozen? ⟨wc1.heap.size, 0, none⟩ = false := frozen_of_row _ _ 0 _ _ hp1
    go_simp
    refine hK9.out _ _ ?_ (fun hHeld => ?_)
    ·exact HS.out _ (hbz.setCell (p := ⟨wc1.heap.size, 0, none⟩) hZ11 _)
    clear hK9 K9
    try simp only [Act.put, List.setIfInBounds_toArray, List.set_cons_zero, List.set_cons_succ]
    refine wpAnyH_ready (rs := [9]) (by kernel_rfl) (by simp) ?_
    refine AllReadyH.cons rfl (fun K9 hK9 => ?_) AllReadyH.nil
    have hp2s : (Wz.setCell ⟨wc1.heap.size, 0, none⟩ (.pointer (some ⟨bq1, 0, none⟩))).heap[wc12.heap.size]? = some (.cells #[.pointer none] 79 (0, 0)) := (heap_setCell_other _ _ _ _ (by dsimp only; exact fun k => hne k.symm)).trans hp2
    have hcy : (Wz.setCell ⟨wc1.heap.size, 0, none⟩ (.pointer (some ⟨bq1, 0, none⟩))).cell? ⟨wc12.heap.size, 0, none⟩ = some (.pointer none) := cell_of_row _ _ 0 _ _ _ hp2s
    have hfy : (Wz.setCell ⟨wc1.heap.size, 0, none⟩ (.pointer (some ⟨bq1, 0, none⟩))).frozen? ⟨wc12.heap.size, 0, none⟩ = false := frozen_of_row _ _ 0 _ _ hp2s
    go_simp
    refine hK9.out _ _ ?_ (fun hHeld => ?_)
    ·exact HS.out _ (((hbz.setCell (p := ⟨wc1.heap.size, 0, none⟩) hZ11 _)).setCell (p := ⟨wc12.heap.size, 0, none⟩) hZ13 _)
    clear hK9 K9
    try simp only [Act.put, List.setIfInBounds_toArray, List.set_cons_zero, List.set_cons_succ]
    refine wpAnyH_done (by kernel_rfl) (NoPanic.normal ?_) _
    exact HK.out _ _ _ _ _ _ (wc1.heap.size) (wc12.heap.size) _ _ _ _ Wz hp1 hp2 hne hZ11 hZ13 q1.1 q1.2 q2.1 q2.2 hbz
   ·skip
    have hN16 : Hid (∀ W, Below ((wc1.alloc (.cells #[.pointer none] 79)).alloc (.cells #[.pointer none] 79)).heap.size ((wc1.alloc (.cells #[.pointer none] 79)).alloc (.cells #[.pointer none] 79)) W → W.heap[wc1.heap.size + 1]? = some (.cells #[.pointer none] 79 (0, 0))) := hid fun W hW => by have h := new_ptr (wc1.alloc (.cells #[.pointer none] 79)) W hW; rw [World.size_alloc] at h; exact h
    have hZ16 : w2.heap.size ≤ wc1.heap.size + 1 := by have h := ((((ext_trans (hb0) hbc1)).alloc ((ext_trans (hb0) hbc1)).size (.cells #[.pointer none] 79))).size; rw [World.size_alloc] at h; exact h
    go_simp
    refine hK9.out _ _ ?_ (fun hHeld => ?_)
    ·exact HS.out _ (((((ext_trans (hb0) hbc1)).alloc ((ext_trans (hb0) hbc1)).size (.cells #[.pointer none] 79))).alloc ((((ext_trans (hb0) hbc1)).alloc ((ext_trans (hb0) hbc1)).size (.cells #[.pointer none] 79))).size (.cells #[.pointer none] 79))
    clear hK9 K9
    try simp only [Act.put, List.setIfInBounds_toArray, List.set_cons_zero, List.set_cons_succ]
    refine wpAnyH_ready (rs := [5]) (by kernel_rfl) (by simp) ?_
    refine AllReadyH.cons rfl (fun K9 hK9 => ?_) AllReadyH.nil
    go_simp
    refine (Hrun2.out _ ((((((ext_trans (hb0) hbc1)).alloc ((ext_trans (hb0) hbc1)).size (.cells #[.pointer none] 79))).alloc ((((ext_trans (hb0) hbc1)).alloc ((ext_trans (hb0) hbc1)).size (.cells #[.pointer none] 79))).size (.cells #[.pointer none] 79)))).mono ?_
    rintro e wc17 ⟨_, rfl, bq17, vq17, rfl, hC17, hbc17⟩
    refine hK9.out _ _ ?_ (fun hHeld => ?_)
    ·exact HS.out _ (ext_trans ((((((ext_trans (hb0) hbc1)).alloc ((ext_trans (hb0) hbc1)).size (.cells #[.pointer none] 79))).alloc ((((ext_trans (hb0) hbc1)).alloc ((ext_trans (hb0) hbc1)).size (.cells #[.pointer none] 79))).size (.cells #[.pointer none] 79))) hbc17)
    clear hK9 K9
    try simp only [Act.put, List.setIfInBounds_toArray, List.set_cons_zero, List.set_cons_succ]
    refine wpAnyH_ready (rs := [8]) (by kernel_rfl) (by simp) ?_
    refine AllReadyH.cons rfl (fun K9 hK9 => ?_) AllReadyH.nil
    have hp1 := hN11.out _ (ext_trans (ext_trans (ext_refl (wc1.alloc (.cells #[.pointer none] 79))) (ext_alloc _ (.cells #[.pointer none] 79))) hbc17)
    have hp2 := hN16.out _ (ext_trans (ext_refl ((wc1.alloc (.cells #[.pointer none] 79)).alloc (.cells #[.pointer none] 79))) hbc17)
    have hne : wc1.heap.size ≠ wc1.heap.size + 1 := by
     have := ((ext_refl (wc1.alloc (.cells #[.pointer none] 79)))).size
     simp only [World.size_alloc] at this
     try dsimp only [World.drew] at this
     omega
    have q1 := hC1.out _ (ext_trans (ext_trans (ext_trans (ext_refl wc1) (ext_alloc _ (.cells #[.pointer none] 79))) (ext_alloc _ (.cells #[.pointer none] 79))) hbc17)
    have q2 := hC17.out _ (ext_refl wc17)
    have hbz := (ext_trans ((((((ext_trans (hb0) hbc1)).alloc ((ext_trans (hb0) hbc1)).size (.cells #[.pointer none] 79))).alloc ((((ext_trans (hb0) hbc1)).alloc ((ext_trans (hb0) hbc1)).size (.cells #[.pointer none] 79))).size (.cells #[.pointer none] 79))) hbc17)
    generalize wc17 = Wz at hp1 hp2 q1 q2 hbz ⊢
    have hcz : Wz.cell? ⟨wc1.heap.size, 0, none⟩ = some (.pointer none) := cell_of_row _ _ 0 _ _ _ hp1
    have hfz : Wz.frozen? ⟨wc1.heap.size, 0, none⟩ = false := frozen_of_row _ _ 0 _ _ hp1
    go_simp
    refine hK9.out _ _ ?_ (fun hHeld => ?_)
    ·exact HS.out _ (hbz.setCell (p := ⟨wc1.heap.size, 0, none⟩) hZ11 _)
    clear hK9 K9
    try simp only [Act.put, List.setIfInBounds_toArray, List.set_cons_zero, List.set_cons_succ]
    refine wpAnyH_ready (rs := [9]) (by kernel_rfl) (by simp) ?_
    refine AllReadyH.cons rfl (fun K9 hK9 => ?_) AllReadyH.nil
    have hp2s : (Wz.setCell ⟨wc1.heap.size, 0, none⟩ (.pointer (some ⟨bq1, 0, none⟩))).heap[wc1.heap.size + 1]? = some (.cells #[.pointer none] 79 (0, 0)) := (heap_setCell_other _ _ _ _ (by dsimp only; exact fun k => hne k.symm)).trans hp2
    have hcy : (Wz.setCell ⟨wc1.heap.size, 0, none⟩ (.pointer (some ⟨bq1, 0, none⟩))).cell? ⟨wc1.heap.size + 1, 0, none⟩ = some (.pointer none) := cell_of_row _ _ 0 _ _ _ hp2s
    have hfy : (Wz.setCell ⟨wc1.heap.size, 0, none⟩ (.pointer (some ⟨bq1, 0, none⟩))).frozen? ⟨wc1.heap.size + 1, 0, none⟩ = false := frozen_of_row _ _ 0 _ _ hp2s
    go_simp
    refine hK9.out _ _ ?_ (fun hHeld => ?_)
    ·exact HS.out _ (((hbz.setCell (p := ⟨wc1.heap.size, 0, none⟩) hZ11 _)).setCell (p := ⟨wc1.heap.size + 1, 0, none⟩) hZ16 _)
    clear hK9 K9
    try simp only [Act.put, List.setIfInBounds_toArray, List.set_cons_zero, List.set_cons_succ]
    refine wpAnyH_done (by kernel_rfl) (NoPanic.normal ?_) _
    exact HK.out _ _ _ _ _ _ (wc1.heap.size) (wc1.heap.size + 1) _ _ _ _ Wz hp1 hp2 hne hZ11 hZ16 q1.1 q1.2 q2.1 q2.2 hbz
  ·skip
   have hN20 : Hid (∀ W, Below (wc1.alloc (.cells #[.pointer none] 79)).heap.size (wc1.alloc (.cells #[.pointer none] 79)) W → W.heap[wc1.heap.size]? = some (.cells #[.pointer none] 79 (0, 0))) := hid fun W hW => by have h := new_ptr wc1 W hW; exact h
   have hZ20 : w2.heap.size ≤ wc1.heap.size := by have h := ((ext_trans (hb0) hbc1)).size; exact h
   go_simp
   refine hK9.out _ _ ?_ (fun hHeld => ?_)
   ·exact HS.out _ (((ext_trans (hb0) hbc1)).alloc ((ext_trans (hb0) hbc1)).size (.cells #[.pointer none] 79))
   clear hK9 K9
   try simp only [Act.put, List.setIfInBounds_toArray, List.set_cons_zero, List.set_cons_succ]
   refine wpAnyH_ready (rs := [5, 6]) (by kernel_rfl) (by simp) ?_
   refine AllReadyH.cons rfl (fun K9 hK9 => ?_) (AllReadyH.cons rfl (fun K9 hK9 => ?_) AllReadyH.nil)
   ·skip
    go_simp
    refine (Hrun2.out _ ((((ext_trans (hb0) hbc1)).alloc ((ext_trans (hb0) hbc1)).size (.cells #[.pointer none] 79)))).mono ?_
    rintro e wc21 ⟨_, rfl, bq21, vq21, rfl, hC21, hbc21⟩
    refine hK9.out _ _ ?_ (fun hHeld => ?_)
    ·exact HS.out _ (ext_trans ((((ext_trans (hb0) hbc1)).alloc ((ext_trans (hb0) hbc1)).size (.cells #[.pointer none] 79))) hbc21)
    clear hK9 K9
    try simp only [Act.put, List.setIfInBounds_toArray, List.set_cons_zero, List.set_cons_succ]
    refine wpAnyH_ready (rs := [6]) (by kernel_rfl) (by simp) ?_
    refine AllReadyH.cons rfl (fun K9 hK9 => ?_) AllReadyH.nil
    have hN22 : Hid (∀ W, Below (wc21.alloc (.cells #[.pointer none] 79)).heap.size (wc21.alloc (.cells #[.pointer none] 79)) W → W.heap[wc21.heap.size]? = some (.cells #[.pointer none] 79 (0, 0))) := hid fun W hW => by have h := new_ptr wc21 W hW; exact h
    have hZ22 : w2.heap.size ≤ wc21.heap.size := by have h := ((ext_trans ((((ext_trans (hb0) hbc1)).alloc ((ext_trans (hb0) hbc1)).size (.cells #[.pointer none] 79))) hbc21)).size; exact h
    go_simp
    refine hK9.out _ _ ?_ (fun hHeld => ?_)
    ·exact HS.out _ (((ext_trans ((((ext_trans (hb0) hbc1)).alloc ((ext_trans (hb0) hbc1)).size (.cells #[.pointer none] 79))) hbc21)).alloc ((ext_trans ((((ext_trans (hb0) hbc1)).alloc ((ext_trans (hb0) hbc1)).size (.cells #[.pointer none] 79))) hbc21)).size (.cells #[.pointer none] 79))
    clear hK9 K9
    try simp only [Act.put, List.setIfInBounds_toArray, List.set_cons_zero, List.set_cons_succ]
    refine wpAnyH_ready (rs := [8]) (by kernel_rfl) (by simp) ?_
    refine AllReadyH.cons rfl (fun K9 hK9 => ?_) AllReadyH.nil
    have hp1 := hN22.out _ (ext_refl (wc21.alloc (.cells #[.pointer none] 79)))
    have hp2 := hN20.out _ (ext_trans (ext_trans (ext_refl (wc1.alloc (.cells #[.pointer none] 79))) hbc21) (ext_alloc _ (.cells #[.pointer none] 79)))
    have hne : wc21.heap.size ≠ wc1.heap.size := by
     have := ((ext_trans (ext_refl (wc1.alloc (.cells #[.pointer none] 79))) hbc21)).size
     simp only [World.size_alloc] at this
     try dsimp only [World.drew] at this
     omega
    have q1 := hC1.out _ (ext_trans (ext_trans (ext_trans (ext_refl wc1) (ext_alloc _ (.cells #[.pointer none] 79))) hbc21) (ext_alloc _ (.cells #[.pointer none] 79)))
    have q2 := hC21.out _ (ext_trans (ext_refl wc21) (ext_alloc _ (.cells #[.pointer none] 79)))
    have hbz := (((ext_trans ((((ext_trans (hb0) hbc1)).alloc ((ext_trans (hb0) hbc1)).size (.cells #[.pointer none] 79))) hbc21)).alloc ((ext_trans ((((ext_trans (hb0) hbc1)).alloc ((ext_trans (hb0) hbc1)).size (.cells #[.pointer none] 79))) hbc21)).size (.cells #[.pointer none] 79))
    generalize (wc21.alloc (.cells #[.pointer none] 79)) = Wz at hp1 hp2 q1 q2 hbz ⊢
    have hcz : Wz.cell? ⟨wc21.heap.size, 0, none⟩ = some (.pointer none) := cell_of_row _ _ 0 _ _ _ hp1
    have hfz : Wz.frozen? ⟨wc21.heap.size, 0, none⟩ = false := frozen_of_row _ _ 0 _ _ hp1
    go_simp
    refine hK9.out _ _ ?_ (fun hHeld => ?_)
    ·exact HS.out _ (hbz.setCell (p := ⟨wc21.heap.size, 0, none⟩) hZ22 _)
    clear hK9 K9
    try simp only [Act.put, List.setIfInBounds_toArray, List.set_cons_zero, List.set_cons_succ]
    refine wpAnyH_ready (rs := [9]) (by kernel_rfl) (by simp) ?_
    refine AllReadyH.cons rfl (fun K9 hK9 => ?_) AllReadyH.nil
    have hp2s : (Wz.setCell ⟨wc21.heap.size, 0, none⟩ (.pointer (some ⟨bq1, 0, none⟩))).heap[wc1.heap.size]? = some (.cells #[.pointer none] 79 (0, 0)) := (heap_setCell_other _ _ _ _ (by dsimp only; exact fun k => hne k.symm)).trans hp2
    have hcy : (Wz.setCell ⟨wc21.heap.size, 0, none⟩ (.pointer (some ⟨bq1, 0, none⟩))).cell? ⟨wc1.heap.size, 0, none⟩ = some (.pointer none) := cell_of_row _ _ 0 _ _ _ hp2s
    have hfy : (Wz.setCell ⟨wc21.heap.size, 0, none⟩ (.pointer (some ⟨bq1, 0, none⟩))).frozen? ⟨wc1.heap.size, 0, none⟩ = false := frozen_of_row _ _ 0 _ _ hp2s
    go_simp
    refine hK9.out _ _ ?_ (fun hHeld => ?_)
    ·exact HS.out _ (((hbz.setCell (p := ⟨wc21.heap.size, 0, none⟩) hZ22 _)).setCell (p := ⟨wc1.heap.size, 0, none⟩) hZ20 _)
    clear hK9 K9
    try simp only [Act.put, List.setIfInBounds_toArray, List.set_cons_zero, List.set_cons_succ]
    refine wpAnyH_done (by kernel_rfl) (NoPanic.normal ?_) _
    exact HK.out _ _ _ _ _ _ (wc21.heap.size) (wc1.heap.size) _ _ _ _ Wz hp1 hp2 hne hZ22 hZ20 q1.1 q1.2 q2.1 q2.2 hbz
   ·skip
    have hN25 : Hid (∀ W, Below ((wc1.alloc (.cells #[.pointer none] 79)).alloc (.cells #[.pointer none] 79)).heap.size ((wc1.alloc (.cells #[.pointer none] 79)).alloc (.cells #[.pointer none] 79)) W → W.heap[wc1.heap.size + 1]? = some (.cells #[.pointer none] 79 (0, 0))) := hid fun W hW => by have h := new_ptr (wc1.alloc (.cells #[.pointer none] 79)) W hW; rw [World.size_alloc] at h; exact h
    have hZ25 : w2.heap.size ≤ wc1.heap.size + 1 := by have h := ((((ext_trans (hb0) hbc1)).alloc ((ext_trans (hb0) hbc1)).size (.cells #[.pointer none] 79))).size; rw [World.size_alloc] at h; exact h
    go_simp
    refine hK9.out _ _ ?_ (fun hHeld => ?_)
    ·exact HS.out _ (((((ext_trans (hb0) hbc1)).alloc ((ext_trans (hb0) hbc1)).size (.cells #[.pointer none] 79))).alloc ((((ext_trans (hb0) hbc1)).alloc ((ext_trans (hb0) hbc1)).size (.cells #[.pointer none] 79))).size (.cells #[.pointer none] 79))
    clear hK9 K9
    try simp only [Act.put, List.setIfInBounds_toArray, List.set_cons_zero, List.set_cons_succ]
    refine wpAnyH_ready (rs := [5]) (by kernel_rfl) (by simp) ?_
    refine AllReadyH.cons rfl (fun K9 hK9 => ?_) AllReadyH.nil
    go_simp
    refine (Hrun2.out _ ((((((ext_trans (hb0) hbc1)).alloc ((ext_trans (hb0) hbc1)).size (.cells #[.pointer none] 79))).alloc ((((ext_trans (hb0) hbc1)).alloc ((ext_trans (hb0) hbc1)).size (.cells #[.pointer none] 79))).size (.cells #[.pointer none] 79)))).mono ?_
    rintro e wc26 ⟨_, rfl, bq26, vq26, rfl, hC26, hbc26⟩
    refine hK9.out _ _ ?_ (fun hHeld => ?_)
    ·exact HS.out _ (ext_trans ((((((ext_trans (hb0) hbc1)).alloc ((ext_trans (hb0) hbc1)).size (.cells #[.pointer none] 79))).alloc ((((ext_trans (hb0) hbc1)).alloc ((ext_trans (hb0) hbc1)).size (.cells #[.pointer none] 79))).size (.cells #[.pointer none] 79))) hbc26)
    clear hK9 K9
    try simp only [Act.put, List.setIfInBounds_toArray, List.set_cons_zero, List.set_cons_succ]
    refine wpAnyH_ready (rs := [8]) (by kernel_rfl) (by simp) ?_
    refine AllReadyH.cons rfl (fun K9 hK9 => ?_) AllReadyH.nil
    have hp1 := hN25.out _ (ext_trans (ext_refl ((wc1.alloc (.cells #[.pointer none] 79)).alloc (.cells #[.pointer none] 79))) hbc26)
    have hp2 := hN20.out _ (ext_trans (ext_trans (ext_refl (wc1.alloc (.cells #[.pointer none] 79))) (ext_alloc _ (.cells #[.pointer none] 79))) hbc26)
    have hne : wc1.heap.size + 1 ≠ wc1.heap.size := by
     have := ((ext_refl (wc1.alloc (.cells #[.pointer none] 79)))).size
     simp only [World.size_alloc] at this
     try dsimp only [World.drew] at this
     omega
    have q1 := hC1.out _ (ext_trans (ext_trans (ext_trans (ext_refl wc1) (ext_alloc _ (.cells #[.pointer none] 79))) (ext_alloc _ (.cells #[.pointer none] 79))) hbc26)
    have q2 := hC26.out _ (ext_refl wc26)
    have hbz := (ext_trans ((((((ext_trans (hb0) hbc1)).alloc ((ext_trans (hb0) hbc1)).size (.cells #[.pointer none] 79))).alloc ((((ext_trans (hb0) hbc1)).alloc ((ext_trans (hb0) hbc1)).size (.cells #[.pointer none] 79))).size (.cells #[.pointer none] 79))) hbc26)
    generalize wc26 = Wz at hp1 hp2 q1 q2 hbz ⊢
    have hcz : Wz.cell? ⟨wc1.heap.size + 1, 0, none⟩ = some (.pointer none) := cell_of_row _ _ 0 _ _ _ hp1
    have hfz : Wz.frozen? ⟨wc1.heap.size + 1, 0, none⟩ = false := frozen_of_row _ _ 0 _ _ hp1
    go_simp
    refine hK9.out _ _ ?_ (fun hHeld => ?_)
    ·exact HS.out _ (hbz.setCell (p := ⟨wc1.heap.size + 1, 0, none⟩) hZ25 _)
    clear hK9 K9
    try simp only [Act.put, List.setIfInBounds_toArray, List.set_cons_zero, List.set_cons_succ]
    refine wpAnyH_ready (rs := [9]) (by kernel_rfl) (by simp) ?_
    refine AllReadyH.cons rfl (fun K9 hK9 => ?_) AllReadyH.nil
    have hp2s : (Wz.setCell ⟨wc1.heap.size + 1, 0, none⟩ (.pointer (some ⟨bq1, 0, none⟩))).heap[wc1.heap.size]? = some (.cells #[.pointer none] 79 (0, 0)) := (heap_setCell_other _ _ _ _ (by dsimp only; exact fun k => hne k.symm)).trans hp2
    have hcy : (Wz.setCell ⟨wc1.heap.size + 1, 0, none⟩ (.pointer (some ⟨bq1, 0, none⟩))).cell? ⟨wc1.heap.size, 0, none⟩ = some (.pointer none) := cell_of_row _ _ 0 _ _ _ hp2s
    have hfy : (Wz.setCell ⟨wc1.heap.size + 1, 0, none⟩ (.pointer (some ⟨bq1, 0, none⟩))).frozen? ⟨wc1.heap.size, 0, none⟩ = false := frozen_of_row _ _ 0 _ _ hp2s
    go_simp
    refine hK9.out _ _ ?_ (fun hHeld => ?_)
    ·exact HS.out _ (((hbz.setCell (p := ⟨wc1.heap.size + 1, 0, none⟩) hZ25 _)).setCell (p := ⟨wc1.heap.size, 0, none⟩) hZ20 _)
    clear hK9 K9
    try simp only [Act.put, List.setIfInBounds_toArray, List.set_cons_zero, List.set_cons_succ]
    refine wpAnyH_done (by kernel_rfl) (NoPanic.normal ?_) _
    exact HK.out _ _ _ _ _ _ (wc1.heap.size + 1) (wc1.heap.size) _ _ _ _ Wz hp1 hp2 hne hZ25 hZ20 q1.1 q1.2 q2.1 q2.2 hbz
 ·skip
  have hN29 : Hid (∀ W, Below (w2.drew.alloc (.cells #[.pointer none] 79)).heap.size (w2.drew.alloc (.cells #[.pointer none] 79)) W → W.heap[w2.heap.size]? = some (.cells #[.pointer none] 79 (0, 0))) := hid fun W hW => by have h := new_ptr w2.drew W hW; exact h
  have hZ29 : w2.heap.size ≤ w2.heap.size := by have h := (hb0).size; exact h
  go_simp
  refine hK9.out _ _ ?_ (fun hHeld => ?_)
  ·exact HS.out _ ((hb0).alloc (hb0).size (.cells #[.pointer none] 79))
  clear hK9 K9
  try simp only [Act.put, List.setIfInBounds_toArray, List.set_cons_zero, List.set_cons_succ]
  refine wpAnyH_ready (rs := [2, 7]) (by kernel_rfl) (by simp) ?_
  refine AllReadyH.cons rfl (fun K9 hK9 => ?_) (AllReadyH.cons rfl (fun K9 hK9 => ?_) AllReadyH.nil)
  ·skip
   go_simp
   refine (Hrun1.out _ (((hb0).alloc (hb0).size (.cells #[.pointer none] 79)))).mono ?_
   rintro e wc30 ⟨_, rfl, bq30, vq30, rfl, hC30, hbc30⟩
   refine hK9.out _ _ ?_ (fun hHeld => ?_)
   ·exact HS.out _ (ext_trans (((hb0).alloc (hb0).size (.cells #[.pointer none] 79))) hbc30)
   clear hK9 K9
   try simp only [Act.put, List.setIfInBounds_toArray, List.set_cons_zero, List.set_cons_succ]
   refine wpAnyH_ready (rs := [5, 7]) (by kernel_rfl) (by simp) ?_
   refine AllReadyH.cons rfl (fun K9 hK9 => ?_) (AllReadyH.cons rfl (fun K9 hK9 => ?_) AllReadyH.nil)
   ·skip
    go_simp
    refine (Hrun2.out _ ((ext_trans (((hb0).alloc (hb0).size (.cells #[.pointer none] 79))) hbc30))).mono ?_
    rintro e wc31 ⟨_, rfl, bq31, vq31, rfl, hC31, hbc31⟩
    refine hK9.out _ _ ?_ (fun hHeld => ?_)
    ·exact HS.out _ (ext_trans ((ext_trans (((hb0).alloc (hb0).size (.cells #[.pointer none] 79))) hbc30)) hbc31)
    clear hK9 K9
    try simp only [Act.put, List.setIfInBounds_toArray, List.set_cons_zero, List.set_cons_succ]
    refine wpAnyH_ready (rs := [7]) (by kernel_rfl) (by simp) ?_
    refine AllReadyH.cons rfl (fun K9 hK9 => ?_) AllReadyH.nil
    have hN32 : Hid (∀ W, Below (wc31.alloc (.cells #[.pointer none] 79)).heap.size (wc31.alloc (.cells #[.pointer none] 79)) W → W.heap[wc31.heap.size]? = some (.cells #[.pointer none] 79 (0, 0))) := hid fun W hW => by have h := new_ptr wc31 W hW; exact h
    have hZ32 : w2.heap.size ≤ wc31.heap.size := by have h := ((ext_trans ((ext_trans (((hb0).alloc (hb0).size (.cells #[.pointer none] 79))) hbc30)) hbc31)).size; exact h
    go_simp
    refine hK9.out _ _ ?_ (fun hHeld => ?_)
    ·exact HS.out _ (((ext_trans ((ext_trans (((hb0).alloc (hb0).size (.cells #[.pointer none] 79))) hbc30)) hbc31)).alloc ((ext_trans ((ext_trans (((hb0).alloc (hb0).size (.cells #[.pointer none] 79))) hbc30)) hbc31)).size (.cells #[.pointer none] 79))
    clear hK9 K9
    try simp only [Act.put, List.setIfInBounds_toArray, List.set_cons_zero, List.set_cons_succ]
    refine wpAnyH_ready (rs := [8]) (by kernel_rfl) (by simp) ?_
    refine AllReadyH.cons rfl (fun K9 hK9 => ?_) AllReadyH.nil
    have hp1 := hN29.out _ (ext_trans (ext_trans (ext_trans (ext_refl (w2.drew.alloc (.cells #[.pointer none] 79))) hbc30) hbc31) (ext_alloc _ (.cells #[.pointer none] 79)))
    have hp2 := hN32.out _ (ext_refl (wc31.alloc (.cells #[.pointer none] 79)))
    have hne : w2.heap.size ≠ wc31.heap.size := by
     have := ((ext_trans (ext_trans (ext_refl (w2.drew.alloc (.cells #[.pointer none] 79))) hbc30) hbc31)).size
     simp only [World.size_alloc] at this
     try dsimp only [World.drew] at this
     omega
    have q1 := hC30.out _ (ext_trans (ext_trans (ext_refl wc30) hbc31) (ext_alloc _ (.cells #[.pointer none] 79)))
    have q2 := hC31.out _ (ext_trans (ext_refl wc31) (ext_alloc _ (.cells #[.pointer none] 79)))
    have hbz := (((ext_trans ((ext_trans (((hb0).alloc (hb0).size (.cells #[.pointer none] 79))) hbc30)) hbc31)).alloc ((ext_trans ((ext_trans (((hb0).alloc (hb0).size (.cells #[.pointer none] 79))) hbc30)) hbc31)).size (.cells #[.pointer none] 79))
    generalize (wc31.alloc (.cells #[.pointer none] 79)) = Wz at hp1 hp2 q1 q2 hbz ⊢
    have hcz : Wz.cell? ⟨w2.heap.size, 0, none⟩ = some (.pointer none) := cell_of_row _ _ 0 _ _ _ hp1
    have hfz : Wz.frozen? ⟨w2.heap.size, 0, none⟩ = false := frozen_of_row _ _ 0 _ _ hp1
    go_simp
    refine hK9.out _ _ ?_ (fun hHeld => ?_)
    ·exact HS.out _ (hbz.setCell (p := ⟨w2.heap.size, 0, none⟩) hZ29 _)
    clear hK9 K9
    try simp only [Act.put, List.setIfInBounds_toArray, List.set_cons_zero, List.set_cons_succ]
    refine wpAnyH_ready (rs := [9]) (by kernel_rfl) (by simp) ?_
    refine AllReadyH.cons rfl (fun K9 hK9 => ?_) AllReadyH.nil
    have hp2s : (Wz.setCell ⟨w2.heap.size, 0, none⟩ (.pointer (some ⟨bq30, 0, none⟩))).heap[wc31.heap.size]? = some (.cells #[.pointer none] 79 (0, 0)) := (heap_setCell_other _ _ _ _ (by dsimp only; exact fun k => hne k.symm)).trans hp2
    have hcy : (Wz.setCell ⟨w2.heap.size, 0, none⟩ (.pointer (some ⟨bq30, 0, none⟩))).cell? ⟨wc31.heap.size, 0, none⟩ = some (.pointer none) := cell_of_row _ _ 0 _ _ _ hp2s
    have hfy : (Wz.setCell ⟨w2.heap.size, 0, none⟩ (.pointer (some ⟨bq30, 0, none⟩))).frozen? ⟨wc31.heap.size, 0, none⟩ = false := frozen_of_row _ _ 0 _ _ hp2s
    go_simp
    refine hK9.out _ _ ?_ (fun hHeld => ?_)
    ·exact HS.out _ (((hbz.setCell (p := ⟨w2.heap.size, 0, none⟩) hZ29 _)).setCell (p := ⟨wc31.heap.size, 0, none⟩) hZ32 _)
    clear hK9 K9
    try simp only [Act.put, List.setIfInBounds_toArray, List.set_cons_zero, List.set_cons_succ]
    refine wpAnyH_done (by kernel_rfl) (NoPanic.normal ?_) _
    exact HK.out _ _ _ _ _ _ (w2.heap.size) (wc31.heap.size) _ _ _ _ Wz hp1 hp2 hne hZ29 hZ32 q1.1 q1.2 q2.1 q2.2 hbz
   ·skip
    have hN35 : Hid (∀ W, Below (wc30.alloc (.cells #[.pointer none] 79)).heap.size (wc30.alloc (.cells #[.pointer none] 79)) W → W.heap[wc30.heap.size]? = some (.cells #[.pointer none] 79 (0, 0))) := hid fun W hW => by have h := new_ptr wc30 W hW; exact h
    have hZ35 : w2.heap.size ≤ wc30.heap.size := by have h := ((ext_trans (((hb0).alloc (hb0).size (.cells #[.pointer none] 79))) hbc30)).size; exact h
    go_simp
    refine hK9.out _ _ ?_ (fun hHeld => ?_)
    ·exact HS.out _ (((ext_trans (((hb0).alloc (hb0).size (.cells #[.pointer none] 79))) hbc30)).alloc ((ext_trans (((hb0).alloc (hb0).size (.cells #[.pointer none] 79))) hbc30)).size (.cells #[.pointer none] 79))
    clear hK9 K9
    try simp only [Act.put, List.setIfInBounds_toArray, List.set_cons_zero, List.set_cons_succ]
    refine wpAnyH_ready (rs := [5]) (by kernel_rfl) (by simp) ?_
    refine AllReadyH.cons rfl (fun K9 hK9 => ?_) AllReadyH.nil
    go_simp
    refine (Hrun2.out _ ((((ext_trans (((hb0).alloc (hb0).size (.cells #[.pointer none] 79))) hbc30)).alloc ((ext_trans (((hb0).alloc (hb0).size (.cells #[.pointer none] 79))) hbc30)).size (.cells #[.pointer none] 79)))).mono ?_
    rintro e wc36 ⟨_, rfl, bq36, vq36, rfl, hC36, hbc36⟩
    refine hK9.out _ _ ?_ (fun hHeld => ?_)
    ·exact HS.out _ (ext_trans ((((ext_trans (((hb0).alloc (hb0).size (.cells #[.pointer none] 79))) hbc30)).alloc ((ext_trans (((hb0).alloc (hb0).size (.cells #[.pointer none] 79))) hbc30)).size (.cells #[.pointer none] 79))) hbc36)
    clear hK9 K9
    try simp only [Act.put, List.setIfInBounds_toArray, List.set_cons_zero, List.set_cons_succ]
    refine wpAnyH_ready (rs := [8]) (by kernel_rfl) (by simp) ?_
    refine AllReadyH.cons rfl (fun K9 hK9 => ?_) AllReadyH.nil
    have hp1 := hN29.out _ (ext_trans (ext_trans (ext_trans (ext_refl (w2.drew.alloc (.cells #[.pointer none] 79))) hbc30) (ext_alloc _ (.cells #[.pointer none] 79))) hbc36)
    have hp2 := hN35.out _ (ext_trans (ext_refl (wc30.alloc (.cells #[.pointer none] 79))) hbc36)
    have hne : w2.heap.size ≠ wc30.heap.size := by
     have := ((ext_trans (ext_refl (w2.drew.alloc (.cells #[.pointer none] 79))) hbc30)).size
     simp only [World.size_alloc] at this
     try dsimp only [World.drew] at this
     omega
    have q1 := hC30.out _ (ext_trans (ext_trans (ext_refl wc30) (ext_alloc _ (.cells #[.pointer none] 79))) hbc36)
    have q2 := hC36.out _ (ext_refl wc36)
    have hbz := (ext_trans ((((ext_trans (((hb0).alloc (hb0).size (.cells #[.pointer none] 79))) hbc30)).alloc ((ext_trans (((hb0).alloc (hb0).size (.cells #[.pointer none] 79))) hbc30)).size (.cells #[.pointer none] 79))) hbc36)
    generalize wc36 = Wz at hp1 hp2 q1 q2 hbz ⊢
    have hcz : Wz.cell? ⟨w2.heap.size, 0, none⟩ = some (.pointer none) := cell_of_row _ _ 0 _ _ _ hp1
    have hfz : Wz.frozen? ⟨w2.heap.size, 0, none⟩ = false := frozen_of_row _ _ 0 _ _ hp1
    go_simp
    refine hK9.out _ _ ?_ (fun hHeld => ?_)
    ·exact HS.out _ (hbz.setCell (p := ⟨w2.heap.size, 0, none⟩) hZ29 _)
    clear hK9 K9
    try simp only [Act.put, List.setIfInBounds_toArray, List.set_cons_zero, List.set_cons_succ]
    refine wpAnyH_ready (rs := [9]) (by kernel_rfl) (by simp) ?_
    refine AllReadyH.cons rfl (fun K9 hK9 => ?_) AllReadyH.nil
    have hp2s : (Wz.setCell ⟨w2.heap.size, 0, none⟩ (.pointer (some ⟨bq30, 0, none⟩))).heap[wc30.heap.size]? = some (.cells #[.pointer none] 79 (0, 0)) := (heap_setCell_other _ _ _ _ (by dsimp only; exact fun k => hne k.symm)).trans hp2
    have hcy : (Wz.setCell ⟨w2.heap.size, 0, none⟩ (.pointer (some ⟨bq30, 0, none⟩))).cell? ⟨wc30.heap.size, 0, none⟩ = some (.pointer none) := cell_of_row _ _ 0 _ _ _ hp2s
    have hfy : (Wz.setCell ⟨w2.heap.size, 0, none⟩ (.pointer (some ⟨bq30, 0, none⟩))).frozen? ⟨wc30.heap.size, 0, none⟩ = false := frozen_of_row _ _ 0 _ _ hp2s
    go_simp
    refine hK9.out _ _ ?_ (fun hHeld => ?_)
    ·exact HS.out _ (((hbz.setCell (p := ⟨w2.heap.size, 0, none⟩) hZ29 _)).setCell (p := ⟨wc30.heap.size, 0, none⟩) hZ35 _)
    clear hK9 K9
    try simp only [Act.put, List.setIfInBounds_toArray, List.set_cons_zero, List.set_cons_succ]
    refine wpAnyH_done (by kernel_rfl) (NoPanic.normal ?_) _
    exact HK.out _ _ _ _ _ _ (w2.heap.size) (wc30.heap.size) _ _ _ _ Wz hp1 hp2 hne hZ29 hZ35 q1.1 q1.2 q2.1 q2.2 hbz
  ·skip
   have hN39 : Hid (∀ W, Below ((w2.drew.alloc (.cells #[.pointer none] 79)).alloc (.cells #[.pointer none] 79)).heap.size ((w2.drew.alloc (.cells #[.pointer none] 79)).alloc (.cells #[.pointer none] 79)) W → W.heap[w2.heap.size + 1]? = some (.cells #[.pointer none] 79 (0, 0))) := hid fun W hW => by have h := new_ptr (w2.drew.alloc (.cells #[.pointer none] 79)) W hW; rw [World.size_alloc] at h; exact h
   have hZ39 : w2.heap.size ≤ w2.heap.size + 1 := by have h := (((hb0).alloc (hb0).size (.cells #[.pointer none] 79))).size; rw [World.size_alloc] at h; exact h
   go_simp
   refine hK9.out _ _ ?_ (fun hHeld => ?_)
   ·exact HS.out _ ((((hb0).alloc (hb0).size (.cells #[.pointer none] 79))).alloc (((hb0).alloc (hb0).size (.cells #[.pointer none] 79))).size (.cells #[.pointer none] 79))
   clear hK9 K9
   try simp only [Act.put, List.setIfInBounds_toArray, List.set_cons_zero, List.set_cons_succ]
   refine wpAnyH_ready (rs := [2]) (by kernel_rfl) (by simp) ?_
   refine AllReadyH.cons rfl (fun K9 hK9 => ?_) AllReadyH.nil
   go_simp
   refine (Hrun1.out _ (((((hb0).alloc (hb0).size (.cells #[.pointer none] 79))).alloc (((hb0).alloc (hb0).size (.cells #[.pointer none] 79))).size (.cells #[.pointer none] 79)))).mono ?_
   rintro e wc40 ⟨_, rfl, bq40, vq40, rfl, hC40, hbc40⟩
   refine hK9.out _ _ ?_ (fun hHeld => ?_)
   ·exact HS.out _ (ext_trans (((((hb0).alloc (hb0).size (.cells #[.pointer none] 79))).alloc (((hb0).alloc (hb0).size (.cells #[.pointer none] 79))).size (.cells #[.pointer none] 79))) hbc40)
   clear hK9 K9
   try simp only [Act.put, List.setIfInBounds_toArray, List.set_cons_zero, List.set_cons_succ]
   refine wpAnyH_ready (rs := [5]) (by kernel_rfl) (by simp) ?_
   refine AllReadyH.cons rfl (fun K9 hK9 => ?_) AllReadyH.nil
   go_simp
   refine (Hrun2.out _ ((ext_trans (((((hb0).alloc (hb0).size (.cells #[.pointer none] 79))).alloc (((hb0).alloc (hb0).size (.cells #[.pointer none] 79))).size (.cells #[.pointer none] 79))) hbc40))).mono ?_
   rintro e wc41 ⟨_, rfl, bq41, vq41, rfl, hC41, hbc41⟩
   refine hK9.out _ _ ?_ (fun hHeld => ?_)
   ·exact HS.out _ (ext_trans ((ext_trans (((((hb0).alloc (hb0).size (.cells #[.pointer none] 79))).alloc (((hb0).alloc (hb0).size (.cells #[.pointer none] 79))).size (.cells #[.pointer none] 79))) hbc40)) hbc41)
   clear hK9 K9
   try simp only [Act.put, List.setIfInBounds_toArray, List.set_cons_zero, List.set_cons_succ]
   refine wpAnyH_ready (rs := [8]) (by kernel_rfl) (by simp) ?_
   refine AllReadyH.cons rfl (fun K9 hK9 => ?_) AllReadyH.nil
   have hp1 := hN29.out _ (ext_trans (ext_trans (ext_trans (ext_refl (w2.drew.alloc (.cells #[.pointer none] 79))) (ext_alloc _ (.cells #[.pointer none] 79))) hbc40) hbc41)
   have hp2 := hN39.out _ (ext_trans (ext_trans (ext_refl ((w2.drew.alloc (.cells #[.pointer none] 79)).alloc (.cells #[.pointer none] 79))) hbc40) hbc41)
   have hne : w2.heap.size ≠ w2.heap.size + 1 := by
    have := ((ext_refl (w2.drew.alloc (.cells #[.pointer none] 79)))).size
    simp only [World.size_alloc] at this
    try dsimp only [World.drew] at this
    omega
   have q1 := hC40.out _ (ext_trans (ext_refl wc40) hbc41)
   have q2 := hC41.out _ (ext_refl wc41)
   have hbz := (ext_trans ((ext_trans (((((hb0).alloc (hb0).size (.cells #[.pointer none] 79))).alloc (((hb0).alloc (hb0).size (.cells #[.pointer none] 79))).size (.cells #[.pointer none] 79))) hbc40)) hbc41)
   generalize wc41 = Wz at hp1 hp2 q1 q2 hbz ⊢
   have hcz : Wz.cell? ⟨w2.heap.size, 0, none⟩ = some (.pointer none) := cell_of_row _ _ 0 _ _ _ hp1
   have hfz : Wz.frozen? ⟨w2.heap.size, 0, none⟩ = false := frozen_of_row _ _ 0 _ _ hp1
   go_simp
   refine hK9.out _ _ ?_ (fun hHeld => ?_)
   ·exact HS.out _ (hbz.setCell (p := ⟨w2.heap.size, 0, none⟩) hZ29 _)
   clear hK9 K9
   try simp only [Act.put, List.setIfInBounds_toArray, List.set_cons_zero, List.set_cons_succ]
   refine wpAnyH_ready (rs := [9]) (by kernel_rfl) (by simp) ?_
   refine AllReadyH.cons rfl (fun K9 hK9 => ?_) AllReadyH.nil
   have hp2s : (Wz.setCell ⟨w2.heap.size, 0, none⟩ (.pointer (some ⟨bq40, 0, none⟩))).heap[w2.heap.size + 1]? = some (.cells #[.pointer none] 79 (0, 0)) := (heap_setCell_other _ _ _ _ (by dsimp only; exact fun k => hne k.symm)).trans hp2
   have hcy : (Wz.setCell ⟨w2.heap.size, 0, none⟩ (.pointer (some ⟨bq40, 0, none⟩))).cell? ⟨w2.heap.size + 1, 0, none⟩ = some (.pointer none) := cell_of_row _ _ 0 _ _ _ hp2s
   have hfy : (Wz.setCell ⟨w2.heap.size, 0, none⟩ (.pointer (some ⟨bq40, 0, none⟩))).frozen? ⟨w2.heap.size + 1, 0, none⟩ = false := frozen_of_row _ _ 0 _ _ hp2s
   go_simp
   refine hK9.out _ _ ?_ (fun hHeld => ?_)
   ·exact HS.out _ (((hbz.setCell (p := ⟨w2.heap.size, 0, none⟩) hZ29 _)).setCell (p := ⟨w2.heap.size + 1, 0, none⟩) hZ39 _)
   clear hK9 K9
   try simp only [Act.put, List.setIfInBounds_toArray, List.set_cons_zero, List.set_cons_succ]
   refine wpAnyH_done (by kernel_rfl) (NoPanic.normal ?_) _
   exact HK.out _ _ _ _ _ _ (w2.heap.size) (w2.heap.size + 1) _ _ _ _ Wz hp1 hp2 hne hZ29 hZ39 q1.1 q1.2 q2.1 q2.2 hbz
 ·skip
  have hN44 : Hid (∀ W, Below (w2.drew.alloc (.cells #[.pointer none] 79)).heap.size (w2.drew.alloc (.cells #[.pointer none] 79)) W → W.heap[w2.heap.size]? = some (.cells #[.pointer none] 79 (0, 0))) := hid fun W hW => by have h := new_ptr w2.drew W hW; exact h
  have hZ44 : w2.heap.size ≤ w2.heap.size := by have h := (hb0).size; exact h
  go_simp
  refine hK9.out _ _ ?_ (fun hHeld => ?_)
  ·exact HS.out _ ((hb0).alloc (hb0).size (.cells #[.pointer none] 79))
  clear hK9 K9
  try simp only [Act.put, List.setIfInBounds_toArray, List.set_cons_zero, List.set_cons_succ]
  refine wpAnyH_ready (rs := [2, 6]) (by kernel_rfl) (by simp) ?_
  refine AllReadyH.cons rfl (fun K9 hK9 => ?_) (AllReadyH.cons rfl (fun K9 hK9 => ?_) AllReadyH.nil)
  ·skip
   go_simp
   refine (Hrun1.out _ (((hb0).alloc (hb0).size (.cells #[.pointer none] 79)))).mono ?_
   rintro e wc45 ⟨_, rfl, bq45, vq45, rfl, hC45, hbc45⟩
   refine hK9.out _ _ ?_ (fun hHeld => ?_)
   ·exact HS.out _ (ext_trans (((hb0).alloc (hb0).size (.cells #[.pointer none] 79))) hbc45)
   clear hK9 K9
   try simp only [Act.put, List.setIfInBounds_toArray, List.set_cons_zero, List.set_cons_succ]
   refine wpAnyH_ready (rs := [5, 6]) (by kernel_rfl) (by simp) ?_
   refine AllReadyH.cons rfl (fun K9 hK9 => ?_) (AllReadyH.cons rfl (fun K9 hK9 => ?_) AllReadyH.nil)
   ·skip
    go_simp
    refine (Hrun2.out _ ((ext_trans (((hb0).alloc (hb0).size (.cells #[.pointer none] 79))) hbc45))).mono ?_
    rintro e wc46 ⟨_, rfl, bq46, vq46, rfl, hC46, hbc46⟩
    refine hK9.out _ _ ?_ (fun hHeld => ?_)
    ·exact HS.out _ (ext_trans ((ext_trans (((hb0).alloc (hb0).size (.cells #[.pointer none] 79))) hbc45)) hbc46)
    clear hK9 K9
    try simp only [Act.put, List.setIfInBounds_toArray, List.set_cons_zero, List.set_cons_succ]
    refine wpAnyH_ready (rs := [6]) (by kernel_rfl) (by simp) ?_
    refine AllReadyH.cons rfl (fun K9 hK9 => ?_) AllReadyH.nil
    have hN47 : Hid (∀ W, Below (wc46.alloc (.cells #[.pointer none] 79)).heap.size (wc46.alloc (.cells #[.pointer none] 79)) W → W.heap[wc46.heap.size]? = some (.cells #[.pointer none] 79 (0, 0))) := hid fun W hW => by have h := new_ptr wc46 W hW; exact h
    have hZ47 : w2.heap.size ≤ wc46.heap.size := by have h := ((ext_trans ((ext_trans (((hb0).alloc (hb0).size (.cells #[.pointer none] 79))) hbc45)) hbc46)).size; exact h
    go_simp
    refine hK9.out _ _ ?_ (fun hHeld => ?_)
    ·exact HS.out _ (((ext_trans ((ext_trans (((hb0).alloc (hb0).size (.cells #[.pointer none] 79))) hbc45)) hbc46)).alloc ((ext_trans ((ext_trans (((hb0).alloc (hb0).size (.cells #[.pointer none] 79))) hbc45)) hbc46)).size (.cells #[.pointer none] 79))
    clear hK9 K9
    try simp only [Act.put, List.setIfInBounds_toArray, List.set_cons_zero, List.set_cons_succ]
    refine wpAnyH_ready (rs := [8]) (by kernel_rfl) (by simp) ?_
    refine AllReadyH.cons rfl (fun K9 hK9 => ?_) AllReadyH.nil
    have hp1 := hN47.out _ (ext_refl (wc46.alloc (.cells #[.pointer none] 79)))
    have hp2 := hN44.out _ (ext_trans (ext_trans (ext_trans (ext_refl (w2.drew.alloc (.cells #[.pointer none] 79))) hbc45) hbc46) (ext_alloc _ (.cells #[.pointer none] 79)))
    have hne : wc46.heap.size ≠ w2.heap.size := by
     have := ((ext_trans (ext_trans (ext_refl (w2.drew.alloc (.cells #[.pointer none] 79))) hbc45) hbc46)).size
     simp only [World.size_alloc] at this
     try dsimp only [World.drew] at this
     omega
    have q1 := hC45.out _ (ext_trans (ext_trans (ext_refl wc45) hbc46) (ext_alloc _ (.cells #[.pointer none] 79)))
    have q2 := hC46.out _ (ext_trans (ext_refl wc46) (ext_alloc _ (.cells #[.pointer none] 79)))
    have hbz := (((ext_trans ((ext_trans (((hb0).alloc (hb0).size (.cells #[.pointer none] 79))) hbc45)) hbc46)).alloc ((ext_trans ((ext_trans (((hb0).alloc (hb0).size (.cells #[.pointer none] 79))) hbc45)) hbc46)).size (.cells #[.pointer none] 79))
    generalize (wc46.alloc (.cells #[.pointer none] 79)) = Wz at hp1 hp2 q1 q2 hbz ⊢
    have hcz : Wz.cell? ⟨wc46.heap.size, 0, none⟩ = some (.pointer none) := cell_of_row _ _ 0 _ _ _ hp1
    have hfz : Wz.frozen? ⟨wc46.heap.size, 0, none⟩ = false := frozen_of_row _ _ 0 _ _ hp1
    go_simp
    refine hK9.out _ _ ?_ (fun hHeld => ?_)
    ·exact HS.out _ (hbz.setCell (p := ⟨wc46.heap.size, 0, none⟩) hZ47 _)
    clear hK9 K9
    try simp only [Act.put, List.setIfInBounds_toArray, List.set_cons_zero, List.set_cons_succ]
    refine wpAnyH_ready (rs := [9]) (by kernel_rfl) (by simp) ?_
    refine AllReadyH.cons rfl (fun K9 hK9 => ?_) AllReadyH.nil
    have hp2s : (Wz.setCell ⟨wc46.heap.size, 0, none⟩ (.pointer (some ⟨bq45, 0, none⟩))).heap[w2.heap.size]? = some (.cells #[.pointer none] 79 (0, 0)) := (heap_setCell_other _ _ _ _ (by dsimp only; exact fun k => hne k.symm)).trans hp2
    have hcy : (Wz.setCell ⟨wc46.heap.size, 0, none⟩ (.pointer (some ⟨bq45, 0, none⟩))).cell? ⟨w2.heap.size, 0, none⟩ = some (.pointer none) := cell_of_row _ _ 0 _ _ _ hp2s
    have hfy : (Wz.setCell ⟨wc46.heap.size, 0, none⟩ (.pointer (some ⟨bq45, 0, none⟩))).frozen? ⟨w2.heap.size, 0, none⟩ = false := frozen_of_row _ _ 0 _ _ hp2s
    go_simp
    refine hK9.out _ _ ?_ (fun hHeld => ?_)
    ·exact HS.out _ (((hbz.setCell (p := ⟨wc46.heap.size, 0, none⟩) hZ47 _)).setCell (p := ⟨w2.heap.size, 0, none⟩) hZ44 _)
    clear hK9 K9
    try simp only [Act.put, List.setIfInBounds_toArray, List.set_cons_zero, List.set_cons_succ]
    refine wpAnyH_done (by kernel_rfl) (NoPanic.normal ?_) _
    exact HK.out _ _ _ _ _ _ (wc46.heap.size) (w2.heap.size) _ _ _ _ Wz hp1 hp2 hne hZ47 hZ44 q1.1 q1.2 q2.1 q2.2 hbz
   ·skip
    have hN50 : Hid (∀ W, Below (wc45.alloc (.cells #[.pointer none] 79)).heap.size (wc45.alloc (.cells #[.pointer none] 79)) W → W.heap[wc45.heap.size]? = some (.cells #[.pointer none] 79 (0, 0))) := hid fun W hW => by have h := new_ptr wc45 W hW; exact h
    have hZ50 : w2.heap.size ≤ wc45.heap.size := by have h := ((ext_trans (((hb0).alloc (hb0).size (.cells #[.pointer none] 79))) hbc45)).size; exact h
    go_simp
    refine hK9.out _ _ ?_ (fun hHeld => ?_)
    ·exact HS.out _ (((ext_trans (((hb0).alloc (hb0).size (.cells #[.pointer none] 79))) hbc45)).alloc ((ext_trans (((hb0).alloc (hb0).size (.cells #[.pointer none] 79))) hbc45)).size (.cells #[.pointer none] 79))
    clear hK9 K9
    try simp only [Act.put, List.setIfInBounds_toArray, List.set_cons_zero, List.set_cons_succ]
    refine wpAnyH_ready (rs := [5]) (by kernel_rfl) (by simp) ?_
    refine AllReadyH.cons rfl (fun K9 hK9 => ?_) AllReadyH.nil
    go_simp
    refine (Hrun2.out _ ((((ext_trans (((hb0).alloc (hb0).size (.cells #[.pointer none] 79))) hbc45)).alloc ((ext_trans (((hb0).alloc (hb0).size (.cells #[.pointer none] 79))) hbc45)).size (.cells #[.pointer none] 79)))).mono ?_
    rintro e wc51 ⟨_, rfl, bq51, vq51, rfl, hC51, hbc51⟩
    refine hK9.out _ _ ?_ (fun hHeld => ?_)
    ·exact HS.out _ (ext_trans ((((ext_trans (((hb0).alloc (hb0).size (.cells #[.pointer none] 79))) hbc45)).alloc ((ext_trans (((hb0).alloc (hb0).size (.cells #[.pointer none] 79))) hbc45)).size (.cells #[.pointer none] 79))) hbc51)
    clear hK9 K9
    try simp only [Act.put, List.setIfInBounds_toArray, List.set_cons_zero, List.set_cons_succ]
    refine wpAnyH_ready (rs := [8]) (by kernel_rfl) (by simp) ?_
    refine AllReadyH.cons rfl (fun K9 hK9 => ?_) AllReadyH.nil
    have hp1 := hN50.out _ (ext_trans (ext_refl (wc45.alloc (.cells #[.pointer none] 79))) hbc51)
    have hp2 := hN44.out _ (ext_trans (ext_trans (ext_trans (ext_refl (w2.drew.alloc (.cells #[.pointer none] 79))) hbc45) (ext_alloc _ (.cells #[.pointer none] 79))) hbc51)
    have hne : wc45.heap.size ≠ w2.heap.size := by
     have := ((ext_trans (ext_refl (w2.drew.alloc (.cells #[.pointer none] 79))) hbc45)).size
     simp only [World.size_alloc] at this
     try dsimp only [World.drew] at this
     omega
    have q1 := hC45.out _ (ext_trans (ext_trans (ext_refl wc45) (ext_alloc _ (.cells #[.pointer none] 79))) hbc51)
    have q2 := hC51.out _ (ext_refl wc51)
    have hbz := (ext_trans ((((ext_trans (((hb0).alloc (hb0).size (.cells #[.pointer none] 79))) hbc45)).alloc ((ext_trans (((hb0).alloc (hb0).size (.cells #[.pointer none] 79))) hbc45)).size (.cells #[.pointer none] 79))) hbc51)
    generalize wc51 = Wz at hp1 hp2 q1 q2 hbz ⊢
    have hcz : Wz.cell? ⟨wc45.heap.size, 0, none⟩ = some (.pointer none) := cell_of_row _ _ 0 _ _ _ hp1
    have hfz : Wz.frozen? ⟨wc45.heap.size, 0, none⟩ = false := frozen_of_row _ _ 0 _ _ hp1
    go_simp
    refine hK9.out _ _ ?_ (fun hHeld => ?_)
    ·exact HS.out _ (hbz.setCell (p := ⟨wc45.heap.size, 0, none⟩) hZ50 _)
    clear hK9 K9
    try simp only [Act.put, List.setIfInBounds_toArray, List.set_cons_zero, List.set_cons_succ]
    refine wpAnyH_ready (rs := [9]) (by kernel_rfl) (by simp) ?_
    refine AllReadyH.cons rfl (fun K9 hK9 => ?_) AllReadyH.nil
    have hp2s : (Wz.setCell ⟨wc45.heap.size, 0, none⟩ (.pointer (some ⟨bq45, 0, none⟩))).heap[w2.heap.size]? = some (.cells #[.pointer none] 79 (0, 0)) := (heap_setCell_other _ _ _ _ (by dsimp only; exact fun k => hne k.symm)).trans hp2
    have hcy : (Wz.setCell ⟨wc45.heap.size, 0, none⟩ (.pointer (some ⟨bq45, 0, none⟩))).cell? ⟨w2.heap.size, 0, none⟩ = some (.pointer none) := cell_of_row _ _ 0 _ _ _ hp2s
    have hfy : (Wz.setCell ⟨wc45.heap.size, 0, none⟩ (.pointer (some ⟨bq45, 0, none⟩))).frozen? ⟨w2.heap.size, 0, none⟩ = false := frozen_of_row _ _ 0 _ _ hp2s
    go_simp
    refine hK9.out _ _ ?_ (fun hHeld => ?_)
    ·exact HS.out _ (((hbz.setCell (p := ⟨wc45.heap.size, 0, none⟩) hZ50 _)).setCell (p := ⟨w2.heap.size, 0, none⟩) hZ44 _)
    clear hK9 K9
    try simp only [Act.put, List.setIfInBounds_toArray, List.set_cons_zero, List.set_cons_succ]
    refine wpAnyH_done (by kernel_rfl) (NoPanic.normal ?_) _
    exact HK.out _ _ _ _ _ _ (wc45.heap.size) (w2.heap.size) _ _ _ _ Wz hp1 hp2 hne hZ50 hZ44 q1.1 q1.2 q2.1 q2.2 hbz
  ·skip
   have hN54 : Hid (∀ W, Below ((w2.drew.alloc (.cells #[.pointer none] 79)).alloc (.cells #[.pointer none] 79)).heap.size ((w2.drew.alloc (.cells #[.pointer none] 79)).alloc (.cells #[.pointer none] 79)) W → W.heap[w2.heap.size + 1]? = some (.cells #[.pointer none] 79 (0, 0))) := hid fun W hW => by have h := new_ptr (w2.drew.alloc (.cells #[.pointer none] 79)) W hW; rw [World.size_alloc] at h; exact h
   have hZ54 : w2.heap.size ≤ w2.heap.size + 1 := by have h := (((hb0).alloc (hb0).size (.cells #[.pointer none] 79))).size; rw [World.size_alloc] at h; exact h
   go_simp
   refine hK9.out _ _ ?_ (fun hHeld => ?_)
   ·exact HS.out _ ((((hb0).alloc (hb0).size (.cells #[.pointer none] 79))).alloc (((hb0).alloc (hb0).size (.cells #[.pointer none] 79))).size (.cells #[.pointer none] 79))
   clear hK9 K9
   try simp only [Act.put, List.setIfInBounds_toArray, List.set_cons_zero, List.set_cons_succ]
   refine wpAnyH_ready (rs := [2]) (by kernel_rfl) (by simp) ?_
   refine AllReadyH.cons rfl (fun K9 hK9 => ?_) AllReadyH.nil
   go_simp
   refine (Hrun1.out _ (((((hb0).alloc (hb0).size (.cells #[.pointer none] 79))).alloc (((hb0).alloc (hb0).size (.cells #[.pointer none] 79))).size (.cells #[.pointer none] 79)))).mono ?_
   rintro e wc55 ⟨_, rfl, bq55, vq55, rfl, hC55, hbc55⟩
   refine hK9.out _ _ ?_ (fun hHeld => ?_)
   ·exact HS.out _ (ext_trans (((((hb0).alloc (hb0).size (.cells #[.pointer none] 79))).alloc (((hb0).alloc (hb0).size (.cells #[.pointer none] 79))).size (.cells #[.pointer none] 79))) hbc55)
   clear hK9 K9
   try simp only [Act.put, List.setIfInBounds_toArray, List.set_cons_zero, List.set_cons_succ]
   refine wpAnyH_ready (rs := [5]) (by kernel_rfl) (by simp) ?_
   refine AllReadyH.cons rfl (fun K9 hK9 => ?_) AllReadyH.nil
   go_simp
   refine (Hrun2.out _ ((ext_trans (((((hb0).alloc (hb0).size (.cells #[.pointer none] 79))).alloc (((hb0).alloc (hb0).size (.cells #[.pointer none] 79))).size (.cells #[.pointer none] 79))) hbc55))).mono ?_
   rintro e wc56 ⟨_, rfl, bq56, vq56, rfl, hC56, hbc56⟩
   refine hK9.out _ _ ?_ (fun hHeld => ?_)
   ·exact HS.out _ (ext_trans ((ext_trans (((((hb0).alloc (hb0).size (.cells #[.pointer none] 79))).alloc (((hb0).alloc (hb0).size (.cells #[.pointer none] 79))).size (.cells #[.pointer none] 79))) hbc55)) hbc56)
   clear hK9 K9
   try simp only [Act.put, List.setIfInBounds_toArray, List.set_cons_zero, List.set_cons_succ]
   refine wpAnyH_ready (rs := [8]) (by kernel_rfl) (by simp) ?_
   refine AllReadyH.cons rfl (fun K9 hK9 => ?_) AllReadyH.nil
   have hp1 := hN54.out _ (ext_trans (ext_trans (ext_refl ((w2.drew.alloc (.cells #[.pointer none] 79)).alloc (.cells #[.pointer none] 79))) hbc55) hbc56)
   have hp2 := hN44.out _ (ext_trans (ext_trans (ext_trans (ext_refl (w2.drew.alloc (.cells #[.pointer none] 79))) (ext_alloc _ (.cells #[.pointer none] 79))) hbc55) hbc56)
   have hne : w2.heap.size + 1 ≠ w2.heap.size := by
    have := ((ext_refl (w2.drew.alloc (.cells #[.pointer none] 79)))).size
    simp only [World.size_alloc] at this
    try dsimp only [World.drew] at this
    omega
   have q1 := hC55.out _ (ext_trans (ext_refl wc55) hbc56)
   have q2 := hC56.out _ (ext_refl wc56)
   have hbz := (ext_trans ((ext_trans (((((hb0).alloc (hb0).size (.cells #[.pointer none] 79))).alloc (((hb0).alloc (hb0).size (.cells #[.pointer none] 79))).size (.cells #[.pointer none] 79))) hbc55)) hbc56)
   generalize wc56 = Wz at hp1 hp2 q1 q2 hbz ⊢
   have hcz : Wz.cell? ⟨w2.heap.size + 1, 0, none⟩ = some (.pointer none) := cell_of_row _ _ 0 _ _ _ hp1
   have hfz : Wz.frozen? ⟨w2.heap.size + 1, 0, none⟩ = false := frozen_of_row _ _ 0 _ _ hp1
   go_simp
   refine hK9.out _ _ ?_ (fun hHeld => ?_)
   ·exact HS.out _ (hbz.setCell (p := ⟨w2.heap.size + 1, 0, none⟩) hZ54 _)
   clear hK9 K9
   try simp only [Act.put, List.setIfInBounds_toArray, List.set_cons_zero, List.set_cons_succ]
   refine wpAnyH_ready (rs := [9]) (by kernel_rfl) (by simp) ?_
   refine AllReadyH.cons rfl (fun K9 hK9 => ?_) AllReadyH.nil
   have hp2s : (Wz.setCell ⟨w2.heap.size + 1, 0, none⟩ (.pointer (some ⟨bq55, 0, none⟩))).heap[w2.heap.size]? = some (.cells #[.pointer none] 79 (0, 0)) := (heap_setCell_other _ _ _ _ (by dsimp only; exact fun k => hne k.symm)).trans hp2
   have hcy : (Wz.setCell ⟨w2.heap.size + 1, 0, none⟩ (.pointer (some ⟨bq55, 0, none⟩))).cell? ⟨w2.heap.size, 0, none⟩ = some (.pointer none) := cell_of_row _ _ 0 _ _ _ hp2s
   have hfy : (Wz.setCell ⟨w2.heap.size + 1, 0, none⟩ (.pointer (some ⟨bq55, 0, none⟩))).frozen? ⟨w2.heap.size, 0, none⟩ = false := frozen_of_row _ _ 0 _ _ hp2s
   go_simp
   refine hK9.out _ _ ?_ (fun hHeld => ?_)
   ·exact HS.out _ (((hbz.setCell (p := ⟨w2.heap.size + 1, 0, none⟩) hZ54 _)).setCell (p := ⟨w2.heap.size, 0, none⟩) hZ44 _)
   clear hK9 K9
   try simp only [Act.put, List.setIfInBounds_toArray, List.set_cons_zero, List.set_cons_succ]
   refine wpAnyH_done (by kernel_rfl) (NoPanic.normal ?_) _
   exact HK.out _ _ _ _ _ _ (w2.heap.size + 1) (w2.heap.size) _ _ _ _ Wz hp1 hp2 hne hZ54 hZ44 q1.1 q1.2 q2.1 q2.2 hbz
end Go.Proofs.Lx
