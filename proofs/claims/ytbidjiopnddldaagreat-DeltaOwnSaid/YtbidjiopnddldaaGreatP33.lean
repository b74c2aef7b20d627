/- Parts of the proof: Ip. The example's theory is made (small of law 19). Printed by gen_small.py. -/
import Derived.Test.YtbidjiopnddldaaGreatP27
import Derived.Test.YtbidjiopnddldaaGreatP32
import Derived.Test.YtbidjiopnddldaaGreatP13
namespace Go.Proofs.Lx
open Go Go.RowKit Go.Proofs.Tj
set_option linter.unusedVariables false
set_option linter.unusedSimpArgs false
/-- Blocks that are there, behind all that was. -/
def Has (wx W : World) (L : List (Nat × Obj)) : Prop := Below wx.heap.size wx W ∧ ∀ p ∈ L, wx.heap.size ≤ p.1 ∧ W.heap[p.1]? = some p.2
theorem Has.ext {wx W W' : World} {L : List (Nat × Obj)} (h : Has wx W L) (hb : Below W.heap.size W W') : Has wx W' L := ⟨base_trans h.1 h.1.size hb, fun p hp => ⟨(h.2 p hp).1, (hb.block p.1 (lt_objD (h.2 p hp).2)).trans (h.2 p hp).2⟩⟩
theorem Has.alloc {wx W : World} {L : List (Nat × Obj)} (h : Has wx W L) (o : Obj) : Has wx (W.alloc o) ((W.heap.size, o) :: L) := by
 have h2 := h.ext (ext_alloc W o)
 refine ⟨h2.1, fun p hp => ?_⟩
 rcases List.mem_cons.1 hp with rfl | hp
 ·exact ⟨h.1.size, heap_alloc_new W o⟩
 ·exact h2.2 p hp
theorem small_rd {W : World} {gA gI gR gB : Nat} (hA : W.heap[gA]? = some (.cells #[.slice none 0 0, .slice none 0 0, .slice none 0 0] 36 (0, 0))) (hI : W.heap[gI]? = some (.cells #[.int .i64 0] 3 (0, 0))) (hR : W.heap[gR]? = some (.cells #[.int .i64 2, .int .i64 1, .slice (some ⟨gI, 0, none⟩) 1 1] 93 (0, 0))) (hB : W.heap[gB]? = some (.cells #[.slice none 0 0] 36 (0, 0))) :
  RdTh W (.agg #[.int .i64 3, .slice (some ⟨gA, 0, none⟩) 3 3, .slice (some ⟨gR, 0, none⟩) 1 1, .slice (some ⟨gB, 0, none⟩) 1 1]) exS := by
 refine ⟨_, _, _, rfl, ?_, ?_, ?_⟩
 ·refine rd_lit1 hA rfl (by simp [exS]) fun i hi => ?_
  match i, hi with
  | 0, _ => exact ⟨_, rfl, _, rfl, Rd.nil⟩
  | 1, _ => exact ⟨_, rfl, _, rfl, Rd.nil⟩
  | 2, _ => exact ⟨_, rfl, _, rfl, Rd.nil⟩
 ·refine rd_lit3 hR rfl (by simp [exS]) fun i hi => ?_
  match i, hi with
  | 0, _ => exact ⟨_, _, _, rfl, rfl, rfl, _, rfl, rd_int1 hI⟩
 ·refine rd_lit1 hB rfl (by simp [exS]) fun i hi => ?_
  match i, hi with
  | 0, _ => exact ⟨_, rfl, _, rfl, Rd.nil⟩
theorem small_end {w W : World} (h : Below w.heap.size w W) (hz : W.heap[w.heap.size]? = some (.cells #[.int .i64 0, .slice none 0 0, .slice none 0 0, .slice none 0 0] 25 (0, 0))) {gA gI gR gB : Nat} (hA : W.heap[gA]? = some (.cells #[.slice none 0 0, .slice none 0 0, .slice none 0 0] 36 (0, 0))) (hI : W.heap[gI]? = some (.cells #[.int .i64 0] 3 (0, 0))) (hR : W.heap[gR]? = some (.cells #[.int .i64 2, .int .i64 1, .slice (some ⟨gI, 0, none⟩) 1 1] 93 (0, 0))) (hB : W.heap[gB]? = some (.cells #[.slice none 0 0] 36 (0, 0))) :
  RdTh ((((W.setCell ⟨w.heap.size, 0, none⟩ (.int .i64 3)).setCell ⟨w.heap.size, 1, none⟩ (.slice (some ⟨gA, 0, none⟩) 3 3)).setCell ⟨w.heap.size, 2, none⟩ (.slice (some ⟨gR, 0, none⟩) 1 1)).setCell ⟨w.heap.size, 3, none⟩ (.slice (some ⟨gB, 0, none⟩) 1 1)) (.agg #[.int .i64 3, .slice (some ⟨gA, 0, none⟩) 3 3, .slice (some ⟨gR, 0, none⟩) 1 1, .slice (some ⟨gB, 0, none⟩) 1 1]) exS ∧
  Below w.heap.size w ((((W.setCell ⟨w.heap.size, 0, none⟩ (.int .i64 3)).setCell ⟨w.heap.size, 1, none⟩ (.slice (some ⟨gA, 0, none⟩) 3 3)).setCell ⟨w.heap.size, 2, none⟩ (.slice (some ⟨gR, 0, none⟩) 1 1)).setCell ⟨w.heap.size, 3, none⟩ (.slice (some ⟨gB, 0, none⟩) 1 1)) := by
 have hk : ∀ g, g ≠ w.heap.size → ((((W.setCell ⟨w.heap.size, 0, none⟩ (.int .i64 3)).setCell ⟨w.heap.size, 1, none⟩ (.slice (some ⟨gA, 0, none⟩) 3 3)).setCell ⟨w.heap.size, 2, none⟩ (.slice (some ⟨gR, 0, none⟩) 1 1)).setCell ⟨w.heap.size, 3, none⟩ (.slice (some ⟨gB, 0, none⟩) 1 1)).heap[g]? = W.heap[g]? := fun g hg =>
  (heap_setCell_other _ _ g _ hg).trans ((heap_setCell_other _ _ g _ hg).trans ((heap_setCell_other _ _ g _ hg).trans (heap_setCell_other _ _ g _ hg)))
 refine ⟨small_rd ((hk _ fun e => ?_).trans hA) ((hk _ fun e => ?_).trans hI) ((hk _ fun e => ?_).trans hR) ((hk _ fun e => ?_).trans hB), (((h.setCell (Nat.le_refl _) _).setCell (Nat.le_refl _) _).setCell (Nat.le_refl _) _).setCell (Nat.le_refl _) _⟩
 ·rw [e, hz] at hA; cases hA
 ·rw [e, hz] at hI; cases hI
 ·rw [e, hz] at hR; cases hR
 ·rw [e, hz] at hB; cases hB
set_option maxRecDepth 1000000 in
set_option maxHeartbeats 60000000 in
theorem small_any (w : World) : Calls Tryz.prog 33 #[] w (Ret fun r w' => RdTh w' r exS ∧ Below w.heap.size w w') := by
 have HL0 : Hid (Has w (w.alloc (.cells #[.int .i64 0, .slice none 0 0, .slice none 0 0, .slice none 0 0] 25)).drew [(w.heap.size, (.cells #[.int .i64 0, .slice none 0 0, .slice none 0 0, .slice none 0 0] 25))]) := hid ⟨(ext_alloc w _).drew, fun p hp => by
  rcases List.mem_cons.1 hp with rfl | hp
  ·exact ⟨Nat.le_refl _, heap_alloc_new w _⟩
  ·cases hp⟩
 refine post_gen fun Q HQ => ?_
 go_enter Tryz.func33, Tryz.ntmps33
 go_wp2
 have hm3 := mkLd 3 (by omega)
 have hm1 := mkLd 1 (by omega)
 simp only [Int.cast_ofNat_Int, List.replicate] at hm3 hm1
 refine wp_region_noPanic ?_
 refine wp_region_held_drew (S := fun _ => True) (by kernel_rfl) trivial (fun hHeld => ?_)
 obtain ⟨W0, hW0⟩ : ∃ W, W = (w.alloc (.cells #[.int .i64 0, .slice none 0 0, .slice none 0 0, .slice none 0 0] 25)).drew := ⟨_, rfl⟩
 rw [← hW0] at HL0 ⊢
 clear hW0 hHeld
 have hHeld : True := trivial
 refine wpAnyH_ready (rs := [0, 1, 4]) (by kernel_rfl) (by simp) ?_
 refine AllReadyH.cons (by simp only [List.getElem?_toArray, List.getElem?_cons_zero, List.getElem?_cons_succ]; rfl) (fun K9 hK9 => ?_) ?_
 rotate_left
 refine AllReadyH.cons (by simp only [List.getElem?_toArray, List.getElem?_cons_zero, List.getElem?_cons_succ]; rfl) (fun K9 hK9 => ?_) ?_
 rotate_left
 refine AllReadyH.cons (by simp only [List.getElem?_toArray, List.getElem?_cons_zero, List.getElem?_cons_succ]; rfl) (fun K9 hK9 => ?_) ?_
 rotate_left
 exact AllReadyH.nil
 ·skip
  go_simp
  refine kgen (fun W => Has w W [(W0.heap.size, (.cells #[.slice none 0 0, .slice none 0 0, .slice none 0 0] 36)), (w.heap.size, (.cells #[.int .i64 0, .slice none 0 0, .slice none 0 0, .slice none 0 0] 25))]) (HL0.out.alloc _) (fun W1 hl => ?_)
  have HL1 := hid hl
  clear hl
  refine hK9.out _ _ ?_ (fun hHeld => ?_)
  ·exact trivial
  clear hK9 K9
  try simp only [Act.put, List.setIfInBounds_toArray, List.set_cons_zero, List.set_cons_succ]
  refine wpAnyH_ready (rs := [1, 4]) (by kernel_rfl) (by simp) ?_
  refine AllReadyH.cons (by simp only [List.getElem?_toArray, List.getElem?_cons_zero, List.getElem?_cons_succ]; rfl) (fun K9 hK9 => ?_) ?_
  rotate_left
  refine AllReadyH.cons (by simp only [List.getElem?_toArray, List.getElem?_cons_zero, List.getElem?_cons_succ]; rfl) (fun K9 hK9 => ?_) ?_
  rotate_left
  exact AllReadyH.nil
  ·skip
   go_simp
   refine kgen (fun W => Has w W [(W1.heap.size, (.cells #[.int .i64 0] 3)), (W0.heap.size, (.cells #[.slice none 0 0, .slice none 0 0, .slice none 0 0] 36)), (w.heap.size, (.cells #[.int .i64 0, .slice none 0 0, .slice none 0 0, .slice none 0 0] 25))]) (HL1.out.alloc _) (fun W2 hl => ?_)
   have HL2 := hid hl
   clear hl
   refine hK9.out _ _ ?_ (fun hHeld => ?_)
   ·exact trivial
   clear hK9 K9
   try simp only [Act.put, List.setIfInBounds_toArray, List.set_cons_zero, List.set_cons_succ]
   refine wpAnyH_take (i := 2) (v := ?v1) (by simp only [List.getElem?_toArray, List.getElem?_cons_zero, List.getElem?_cons_succ]; rfl) (by kernel_rfl) (by kernel_rfl) (by kernel_rfl) (fun _ _ _ h => h) (Or.inl ⟨by rfl, ?hy1⟩) (by assumption) ?rest1
   case hy1 => (intro w hSw; (try dsimp only at hSw); go_simp) <;> try with_reducible rfl
   simp only [Act.put, List.setIfInBounds_toArray, List.set_cons_zero, List.set_cons_succ]
   refine wpAnyH_ready (rs := [3, 4]) (by kernel_rfl) (by simp) ?_
   refine AllReadyH.cons (by simp only [List.getElem?_toArray, List.getElem?_cons_zero, List.getElem?_cons_succ]; rfl) (fun K9 hK9 => ?_) ?_
   rotate_left
   refine AllReadyH.cons (by simp only [List.getElem?_toArray, List.getElem?_cons_zero, List.getElem?_cons_succ]; rfl) (fun K9 hK9 => ?_) ?_
   rotate_left
   exact AllReadyH.nil
   ·skip
    go_simp
    refine kgen (fun W => Has w W [(W2.heap.size, (.cells #[.int .i64 2, .int .i64 1, .slice (some ⟨W1.heap.size, 0, none⟩) 1 1] 93)), (W1.heap.size, (.cells #[.int .i64 0] 3)), (W0.heap.size, (.cells #[.slice none 0 0, .slice none 0 0, .slice none 0 0] 36)), (w.heap.size, (.cells #[.int .i64 0, .slice none 0 0, .slice none 0 0, .slice none 0 0] 25))]) (HL2.out.alloc _) (fun W3 hl => ?_)
    have HL3 := hid hl
    clear hl
    refine hK9.out _ _ ?_ (fun hHeld => ?_)
    ·exact trivial
    clear hK9 K9
    try simp only [Act.put, List.setIfInBounds_toArray, List.set_cons_zero, List.set_cons_succ]
    refine wpAnyH_ready (rs := [4]) (by kernel_rfl) (by simp) ?_
    refine AllReadyH.cons (by simp only [List.getElem?_toArray, List.getElem?_cons_zero, List.getElem?_cons_succ]; rfl) (fun K9 hK9 => ?_) ?_
    rotate_left
    exact AllReadyH.nil
    go_simp
    refine kgen (fun W => Has w W [(W3.heap.size, (.cells #[.slice none 0 0] 36)), (W2.heap.size, (.cells #[.int .i64 2, .int .i64 1, .slice (some ⟨W1.heap.size, 0, none⟩) 1 1] 93)), (W1.heap.size, (.cells #[.int .i64 0] 3)), (W0.heap.size, (.cells #[.slice none 0 0, .slice none 0 0, .slice none 0 0] 36)), (w.heap.size, (.cells #[.int .i64 0, .slice none 0 0, .slice none 0 0, .slice none 0 0] 25))]) (HL3.out.alloc _) (fun W4 hl => ?_)
    have HL4 := hid hl
    clear hl
    refine hK9.out _ _ ?_ (fun hHeld => ?_)
    ·exact trivial
    clear hK9 K9
    try simp only [Act.put, List.setIfInBounds_toArray, List.set_cons_zero, List.set_cons_succ]
    refine wpAnyH_take (i := 5) (v := ?v2) (by simp only [List.getElem?_toArray, List.getElem?_cons_zero, List.getElem?_cons_succ]; rfl) (by kernel_rfl) (by kernel_rfl) (by kernel_rfl) (fun _ _ _ h => h) (Or.inl ⟨by rfl, ?hy2⟩) (by assumption) ?rest2
    case hy2 => (intro w hSw; (try dsimp only at hSw); go_simp) <;> try with_reducible rfl
    simp only [Act.put, List.setIfInBounds_toArray, List.set_cons_zero, List.set_cons_succ]
    refine wpAnyH_ready (rs := [6]) (by kernel_rfl) (by simp) ?_
    refine AllReadyH.cons (by simp only [List.getElem?_toArray, List.getElem?_cons_zero, List.getElem?_cons_succ]; rfl) (fun K9 hK9 => ?_) ?_
    rotate_left
    exact AllReadyH.nil
    have t2 := (HL4.out.2 (w.heap.size, (.cells #[.int .i64 0, .slice none 0 0, .slice none 0 0, .slice none 0 0] 25)) (by simp)).2
    have p0 := frozen_of_row W4 _ 0 _ _ t2
    have p1 := frozen_of_row W4 _ 1 _ _ t2
    have p2 := frozen_of_row W4 _ 2 _ _ t2
    have p3 := frozen_of_row W4 _ 3 _ _ t2
    have q0 : W4.cell? ⟨w.heap.size, 0, none⟩ = some ((.int .i64 0)) := by rw [cell_of_row W4 _ 0 _ _ _ t2]; rfl
    have q1 : W4.cell? ⟨w.heap.size, 1, none⟩ = some ((.slice none 0 0)) := by rw [cell_of_row W4 _ 1 _ _ _ t2]; rfl
    have q2 : W4.cell? ⟨w.heap.size, 2, none⟩ = some ((.slice none 0 0)) := by rw [cell_of_row W4 _ 2 _ _ _ t2]; rfl
    have q3 : W4.cell? ⟨w.heap.size, 3, none⟩ = some ((.slice none 0 0)) := by rw [cell_of_row W4 _ 3 _ _ _ t2]; rfl
    go_simp
    refine hK9.out _ _ ?_ (fun hHeld => ?_)
    ·exact trivial
    clear hK9 K9
    try simp only [Act.put, List.setIfInBounds_toArray, List.set_cons_zero, List.set_cons_succ]
    refine wpAnyH_done (by kernel_rfl) (NoPanic.normal ?_) _
    have Ht2 := hid t2
    clear p0 p1 p2 p3 q0 q1 q2 q3 t2
    have hend := hid (small_end HL4.out.1 Ht2.out (HL4.out.2 (W0.heap.size, _) (by simp)).2 (HL4.out.2 (W1.heap.size, _) (by simp)).2 (HL4.out.2 (W2.heap.size, _) (by simp)).2 (HL4.out.2 (W3.heap.size, _) (by simp)).2)
    have j0 := heap_setCell_same _ w.heap.size 0 _ _ (.int .i64 3) Ht2.out
    have j1 := heap_setCell_same _ w.heap.size 1 _ _ (.slice (some ⟨W0.heap.size, 0, none⟩) 3 3) j0
    have j2 := heap_setCell_same _ w.heap.size 2 _ _ (.slice (some ⟨W2.heap.size, 0, none⟩) 1 1) j1
    have j3 := heap_setCell_same _ w.heap.size 3 _ _ (.slice (some ⟨W3.heap.size, 0, none⟩) 1 1) j2
    have o0 := cell_of_row _ _ 0 _ _ _ j3
    have o1 := cell_of_row _ _ 1 _ _ _ j3
    have o2 := cell_of_row _ _ 2 _ _ _ j3
    have o3 := cell_of_row _ _ 3 _ _ _ j3
    simp only [List.setIfInBounds_toArray, List.set_cons_zero, List.set_cons_succ, List.getElem?_toArray, List.getElem?_cons_zero, List.getElem?_cons_succ] at o0 o1 o2 o3
    generalize ((((W4.setCell ⟨w.heap.size, 0, none⟩ (.int .i64 3)).setCell ⟨w.heap.size, 1, none⟩ (.slice (some ⟨W0.heap.size, 0, none⟩) 3 3)).setCell ⟨w.heap.size, 2, none⟩ (.slice (some ⟨W2.heap.size, 0, none⟩) 1 1)).setCell ⟨w.heap.size, 3, none⟩ (.slice (some ⟨W3.heap.size, 0, none⟩) 1 1)) = wE at *
    clear j0 j1 j2 j3
    go_wp2
    refine bodyPost_ret (by simp [results, Tryz.results33, go_sem, o0, o1, o2, o3]; try rfl) rfl ?_
    exact Fin HQ hend.out
   ·skip
    go_simp
    refine kgen (fun W => Has w W [(W2.heap.size, (.cells #[.slice none 0 0] 36)), (W1.heap.size, (.cells #[.int .i64 0] 3)), (W0.heap.size, (.cells #[.slice none 0 0, .slice none 0 0, .slice none 0 0] 36)), (w.heap.size, (.cells #[.int .i64 0, .slice none 0 0, .slice none 0 0, .slice none 0 0] 25))]) (HL2.out.alloc _) (fun W6 hl => ?_)
    have HL6 := hid hl
    clear hl
    refine hK9.out _ _ ?_ (fun hHeld => ?_)
    ·exact trivial
    clear hK9 K9
    try simp only [Act.put, List.setIfInBounds_toArray, List.set_cons_zero, List.set_cons_succ]
    refine wpAnyH_ready (rs := [3]) (by kernel_rfl) (by simp) ?_
    refine AllReadyH.cons (by simp only [List.getElem?_toArray, List.getElem?_cons_zero, List.getElem?_cons_succ]; rfl) (fun K9 hK9 => ?_) ?_
    rotate_left
    exact AllReadyH.nil
    go_simp
    refine kgen (fun W => Has w W [(W6.heap.size, (.cells #[.int .i64 2, .int .i64 1, .slice (some ⟨W1.heap.size, 0, none⟩) 1 1] 93)), (W2.heap.size, (.cells #[.slice none 0 0] 36)), (W1.heap.size, (.cells #[.int .i64 0] 3)), (W0.heap.size, (.cells #[.slice none 0 0, .slice none 0 0, .slice none 0 0] 36)), (w.heap.size, (.cells #[.int .i64 0, .slice none 0 0, .slice none 0 0, .slice none 0 0] 25))]) (HL6.out.alloc _) (fun W7 hl => ?_)
    have HL7 := hid hl
    clear hl
    refine hK9.out _ _ ?_ (fun hHeld => ?_)
    ·exact trivial
    clear hK9 K9
    try simp only [Act.put, List.setIfInBounds_toArray, List.set_cons_zero, List.set_cons_succ]
    refine wpAnyH_take (i := 5) (v := ?v3) (by simp only [List.getElem?_toArray, List.getElem?_cons_zero, List.getElem?_cons_succ]; rfl) (by kernel_rfl) (by kernel_rfl) (by kernel_rfl) (fun _ _ _ h => h) (Or.inl ⟨by rfl, ?hy3⟩) (by assumption) ?rest3
    case hy3 => (intro w hSw; (try dsimp only at hSw); go_simp) <;> try with_reducible rfl
    simp only [Act.put, List.setIfInBounds_toArray, List.set_cons_zero, List.set_cons_succ]
    refine wpAnyH_ready (rs := [6]) (by kernel_rfl) (by simp) ?_
    refine AllReadyH.cons (by simp only [List.getElem?_toArray, List.getElem?_cons_zero, List.getElem?_cons_succ]; rfl) (fun K9 hK9 => ?_) ?_
    rotate_left
    exact AllReadyH.nil
    have t2 := (HL7.out.2 (w.heap.size, (.cells #[.int .i64 0, .slice none 0 0, .slice none 0 0, .slice none 0 0] 25)) (by simp)).2
    have p0 := frozen_of_row W7 _ 0 _ _ t2
    have p1 := frozen_of_row W7 _ 1 _ _ t2
    have p2 := frozen_of_row W7 _ 2 _ _ t2
    have p3 := frozen_of_row W7 _ 3 _ _ t2
    have q0 : W7.cell? ⟨w.heap.size, 0, none⟩ = some ((.int .i64 0)) := by rw [cell_of_row W7 _ 0 _ _ _ t2]; rfl
    have q1 : W7.cell? ⟨w.heap.size, 1, none⟩ = some ((.slice none 0 0)) := by rw [cell_of_row W7 _ 1 _ _ _ t2]; rfl
    have q2 : W7.cell? ⟨w.heap.size, 2, none⟩ = some ((.slice none 0 0)) := by rw [cell_of_row W7 _ 2 _ _ _ t2]; rfl
    have q3 : W7.cell? ⟨w.heap.size, 3, none⟩ = some ((.slice none 0 0)) := by rw [cell_of_row W7 _ 3 _ _ _ t2]; rfl
    go_simp
    refine hK9.out _ _ ?_ (fun hHeld => ?_)
    ·exact trivial
    clear hK9 K9
    try simp only [Act.put, List.setIfInBounds_toArray, List.set_cons_zero, List.set_cons_succ]
    refine wpAnyH_done (by kernel_rfl) (NoPanic.normal ?_) _
    have Ht2 := hid t2
    clear p0 p1 p2 p3 q0 q1 q2 q3 t2
    have hend := hid (small_end HL7.out.1 Ht2.out (HL7.out.2 (W0.heap.size, _) (by simp)).2 (HL7.out.2 (W1.heap.size, _) (by simp)).2 (HL7.out.2 (W6.heap.size, _) (by simp)).2 (HL7.out.2 (W2.heap.size, _) (by simp)).2)
    have j0 := heap_setCell_same _ w.heap.size 0 _ _ (.int .i64 3) Ht2.out
    have j1 := heap_setCell_same _ w.heap.size 1 _ _ (.slice (some ⟨W0.heap.size, 0, none⟩) 3 3) j0
    have j2 := heap_setCell_same _ w.heap.size 2 _ _ (.slice (some ⟨W6.heap.size, 0, none⟩) 1 1) j1
    have j3 := heap_setCell_same _ w.heap.size 3 _ _ (.slice (some ⟨W2.heap.size, 0, none⟩) 1 1) j2
    have o0 := cell_of_row _ _ 0 _ _ _ j3
    have o1 := cell_of_row _ _ 1 _ _ _ j3
    have o2 := cell_of_row _ _ 2 _ _ _ j3
    have o3 := cell_of_row _ _ 3 _ _ _ j3
    simp only [List.setIfInBounds_toArray, List.set_cons_zero, List.set_cons_succ, List.getElem?_toArray, List.getElem?_cons_zero, List.getElem?_cons_succ] at o0 o1 o2 o3
    generalize ((((W7.setCell ⟨w.heap.size, 0, none⟩ (.int .i64 3)).setCell ⟨w.heap.size, 1, none⟩ (.slice (some ⟨W0.heap.size, 0, none⟩) 3 3)).setCell ⟨w.heap.size, 2, none⟩ (.slice (some ⟨W6.heap.size, 0, none⟩) 1 1)).setCell ⟨w.heap.size, 3, none⟩ (.slice (some ⟨W2.heap.size, 0, none⟩) 1 1)) = wE at *
    clear j0 j1 j2 j3
    go_wp2
    refine bodyPost_ret (by simp [results, Tryz.results33, go_sem, o0, o1, o2, o3]; try rfl) rfl ?_
    exact Fin HQ hend.out
  ·skip
   go_simp
   refine kgen (fun W => Has w W [(W1.heap.size, (.cells #[.slice none 0 0] 36)), (W0.heap.size, (.cells #[.slice none 0 0, .slice none 0 0, .slice none 0 0] 36)), (w.heap.size, (.cells #[.int .i64 0, .slice none 0 0, .slice none 0 0, .slice none 0 0] 25))]) (HL1.out.alloc _) (fun W9 hl => ?_)
   have HL9 := hid hl
   clear hl
   refine hK9.out _ _ ?_ (fun hHeld => ?_)
   ·exact trivial
   clear hK9 K9
   try simp only [Act.put, List.setIfInBounds_toArray, List.set_cons_zero, List.set_cons_succ]
   refine wpAnyH_ready (rs := [1]) (by kernel_rfl) (by simp) ?_
   refine AllReadyH.cons (by simp only [List.getElem?_toArray, List.getElem?_cons_zero, List.getElem?_cons_succ]; rfl) (fun K9 hK9 => ?_) ?_
   rotate_left
   exact AllReadyH.nil
   go_simp
   refine kgen (fun W => Has w W [(W9.heap.size, (.cells #[.int .i64 0] 3)), (W1.heap.size, (.cells #[.slice none 0 0] 36)), (W0.heap.size, (.cells #[.slice none 0 0, .slice none 0 0, .slice none 0 0] 36)), (w.heap.size, (.cells #[.int .i64 0, .slice none 0 0, .slice none 0 0, .slice none 0 0] 25))]) (HL9.out.alloc _) (fun W10 hl => ?_)
   have HL10 := hid hl
   clear hl
   refine hK9.out _ _ ?_ (fun hHeld => ?_)
   ·exact trivial
   clear hK9 K9
   try simp only [Act.put, List.setIfInBounds_toArray, List.set_cons_zero, List.set_cons_succ]
   refine wpAnyH_take (i := 2) (v := ?v4) (by simp only [List.getElem?_toArray, List.getElem?_cons_zero, List.getElem?_cons_succ]; rfl) (by kernel_rfl) (by kernel_rfl) (by kernel_rfl) (fun _ _ _ h => h) (Or.inl ⟨by rfl, ?hy4⟩) (by assumption) ?rest4
   case hy4 => (intro w hSw; (try dsimp only at hSw); go_simp) <;> try with_reducible rfl
   simp only [Act.put, List.setIfInBounds_toArray, List.set_cons_zero, List.set_cons_succ]
   refine wpAnyH_ready (rs := [3]) (by kernel_rfl) (by simp) ?_
   refine AllReadyH.cons (by simp only [List.getElem?_toArray, List.getElem?_cons_zero, List.getElem?_cons_succ]; rfl) (fun K9 hK9 => ?_) ?_
   rotate_left
   exact AllReadyH.nil
   go_simp
   refine kgen (fun W => Has w W [(W10.heap.size, (.cells #[.int .i64 2, .int .i64 1, .slice (some ⟨W9.heap.size, 0, none⟩) 1 1] 93)), (W9.heap.size, (.cells #[.int .i64 0] 3)), (W1.heap.size, (.cells #[.slice none 0 0] 36)), (W0.heap.size, (.cells #[.slice none 0 0, .slice none 0 0, .slice none 0 0] 36)), (w.heap.size, (.cells #[.int .i64 0, .slice none 0 0, .slice none 0 0, .slice none 0 0] 25))]) (HL10.out.alloc _) (fun W11 hl => ?_)
   have HL11 := hid hl
   clear hl
   refine hK9.out _ _ ?_ (fun hHeld => ?_)
   ·exact trivial
   clear hK9 K9
   try simp only [Act.put, List.setIfInBounds_toArray, List.set_cons_zero, List.set_cons_succ]
   refine wpAnyH_take (i := 5) (v := ?v5) (by simp only [List.getElem?_toArray, List.getElem?_cons_zero, List.getElem?_cons_succ]; rfl) (by kernel_rfl) (by kernel_rfl) (by kernel_rfl) (fun _ _ _ h => h) (Or.inl ⟨by rfl, ?hy5⟩) (by assumption) ?rest5
   case hy5 => (intro w hSw; (try dsimp only at hSw); go_simp) <;> try with_reducible rfl
   simp only [Act.put, List.setIfInBounds_toArray, List.set_cons_zero, List.set_cons_succ]
   refine wpAnyH_ready (rs := [6]) (by kernel_rfl) (by simp) ?_
   refine AllReadyH.cons (by simp only [List.getElem?_toArray, List.getElem?_cons_zero, List.getElem?_cons_succ]; rfl) (fun K9 hK9 => ?_) ?_
   rotate_left
   exact AllReadyH.nil
   have t2 := (HL11.out.2 (w.heap.size, (.cells #[.int .i64 0, .slice none 0 0, .slice none 0 0, .slice none 0 0] 25)) (by simp)).2
   have p0 := frozen_of_row W11 _ 0 _ _ t2
   have p1 := frozen_of_row W11 _ 1 _ _ t2
   have p2 := frozen_of_row W11 _ 2 _ _ t2
   have p3 := frozen_of_row W11 _ 3 _ _ t2
   have q0 : W11.cell? ⟨w.heap.size, 0, none⟩ = some ((.int .i64 0)) := by rw [cell_of_row W11 _ 0 _ _ _ t2]; rfl
   have q1 : W11.cell? ⟨w.heap.size, 1, none⟩ = some ((.slice none 0 0)) := by rw [cell_of_row W11 _ 1 _ _ _ t2]; rfl
   have q2 : W11.cell? ⟨w.heap.size, 2, none⟩ = some ((.slice none 0 0)) := by rw [cell_of_row W11 _ 2 _ _ _ t2]; rfl
   have q3 : W11.cell? ⟨w.heap.size, 3, none⟩ = some ((.slice none 0 0)) := by rw [cell_of_row W11 _ 3 _ _ _ t2]; rfl
   go_simp
   refine hK9.out _ _ ?_ (fun hHeld => ?_)
   ·exact trivial
   clear hK9 K9
   try simp only [Act.put, List.setIfInBounds_toArray, List.set_cons_zero, List.set_cons_succ]
   refine wpAnyH_done (by kernel_rfl) (NoPanic.normal ?_) _
   have Ht2 := hid t2
   clear p0 p1 p2 p3 q0 q1 q2 q3 t2
   have hend := hid (small_end HL11.out.1 Ht2.out (HL11.out.2 (W0.heap.size, _) (by simp)).2 (HL11.out.2 (W9.heap.size, _) (by simp)).2 (HL11.out.2 (W10.heap.size, _) (by simp)).2 (HL11.out.2 (W1.heap.size, _) (by simp)).2)
   have j0 := heap_setCell_same _ w.heap.size 0 _ _ (.int .i64 3) Ht2.out
   have j1 := heap_setCell_same _ w.heap.size 1 _ _ (.slice (some ⟨W0.heap.size, 0, none⟩) 3 3) j0
   have j2 := heap_setCell_same _ w.heap.size 2 _ _ (.slice (some ⟨W10.heap.size, 0, none⟩) 1 1) j1
   have j3 := heap_setCell_same _ w.heap.size 3 _ _ (.slice (some ⟨W1.heap.size, 0, none⟩) 1 1) j2
   have o0 := cell_of_row _ _ 0 _ _ _ j3
   have o1 := cell_of_row _ _ 1 _ _ _ j3
   have o2 := cell_of_row _ _ 2 _ _ _ j3
   have o3 := cell_of_row _ _ 3 _ _ _ j3
   simp only [List.setIfInBounds_toArray, List.set_cons_zero, List.set_cons_succ, List.getElem?_toArray, List.getElem?_cons_zero, List.getElem?_cons_succ] at o0 o1 o2 o3
   generalize ((((W11.setCell ⟨w.heap.size, 0, none⟩ (.int .i64 3)).setCell ⟨w.heap.size, 1, none⟩ (.slice (some ⟨W0.heap.size, 0, none⟩) 3 3)).setCell ⟨w.heap.size, 2, none⟩ (.slice (some ⟨W10.heap.size, 0, none⟩) 1 1)).setCell ⟨w.heap.size, 3, none⟩ (.slice (some ⟨W1.heap.size, 0, none⟩) 1 1)) = wE at *
   clear j0 j1 j2 j3
   go_wp2
   refine bodyPost_ret (by simp [results, Tryz.results33, go_sem, o0, o1, o2, o3]; try rfl) rfl ?_
   exact Fin HQ hend.out
 ·skip
  go_simp
  refine kgen (fun W => Has w W [(W0.heap.size, (.cells #[.int .i64 0] 3)), (w.heap.size, (.cells #[.int .i64 0, .slice none 0 0, .slice none 0 0, .slice none 0 0] 25))]) (HL0.out.alloc _) (fun W13 hl => ?_)
  have HL13 := hid hl
  clear hl
  refine hK9.out _ _ ?_ (fun hHeld => ?_)
  ·exact trivial
  clear hK9 K9
  try simp only [Act.put, List.setIfInBounds_toArray, List.set_cons_zero, List.set_cons_succ]
  refine wpAnyH_take (i := 2) (v := ?v6) (by simp only [List.getElem?_toArray, List.getElem?_cons_zero, List.getElem?_cons_succ]; rfl) (by kernel_rfl) (by kernel_rfl) (by kernel_rfl) (fun _ _ _ h => h) (Or.inl ⟨by rfl, ?hy6⟩) (by assumption) ?rest6
  case hy6 => (intro w hSw; (try dsimp only at hSw); go_simp) <;> try with_reducible rfl
  simp only [Act.put, List.setIfInBounds_toArray, List.set_cons_zero, List.set_cons_succ]
  refine wpAnyH_ready (rs := [0, 3, 4]) (by kernel_rfl) (by simp) ?_
  refine AllReadyH.cons (by simp only [List.getElem?_toArray, List.getElem?_cons_zero, List.getElem?_cons_succ]; rfl) (fun K9 hK9 => ?_) ?_
  rotate_left
  refine AllReadyH.cons (by simp only [List.getElem?_toArray, List.getElem?_cons_zero, List.getElem?_cons_succ]; rfl) (fun K9 hK9 => ?_) ?_
  rotate_left
  refine AllReadyH.cons (by simp only [List.getElem?_toArray, List.getElem?_cons_zero, List.getElem?_cons_succ]; rfl) (fun K9 hK9 => ?_) ?_
  rotate_left
  exact AllReadyH.nil
  ·skip
   go_simp
   refine kgen (fun W => Has w W [(W13.heap.size, (.cells #[.slice none 0 0, .slice none 0 0, .slice none 0 0] 36)), (W0.heap.size, (.cells #[.int .i64 0] 3)), (w.heap.size, (.cells #[.int .i64 0, .slice none 0 0, .slice none 0 0, .slice none 0 0] 25))]) (HL13.out.alloc _) (fun W14 hl => ?_)
   have HL14 := hid hl
   clear hl
   refine hK9.out _ _ ?_ (fun hHeld => ?_)
   ·exact trivial
   clear hK9 K9
   try simp only [Act.put, List.setIfInBounds_toArray, List.set_cons_zero, List.set_cons_succ]
   refine wpAnyH_ready (rs := [3, 4]) (by kernel_rfl) (by simp) ?_
   refine AllReadyH.cons (by simp only [List.getElem?_toArray, List.getElem?_cons_zero, List.getElem?_cons_succ]; rfl) (fun K9 hK9 => ?_) ?_
   rotate_left
   refine AllReadyH.cons (by simp only [List.getElem?_toArray, List.getElem?_cons_zero, List.getElem?_cons_succ]; rfl) (fun K9 hK9 => ?_) ?_
   rotate_left
   exact AllReadyH.nil
   ·skip
    go_simp
    refine kgen (fun W => Has w W [(W14.heap.size, (.cells #[.int .i64 2, .int .i64 1, .slice (some ⟨W0.heap.size, 0, none⟩) 1 1] 93)), (W13.heap.size, (.cells #[.slice none 0 0, .slice none 0 0, .slice none 0 0] 36)), (W0.heap.size, (.cells #[.int .i64 0] 3)), (w.heap.size, (.cells #[.int .i64 0, .slice none 0 0, .slice none 0 0, .slice none 0 0] 25))]) (HL14.out.alloc _) (fun W15 hl => ?_)
    have HL15 := hid hl
    clear hl
    refine hK9.out _ _ ?_ (fun hHeld => ?_)
    ·exact trivial
    clear hK9 K9
    try simp only [Act.put, List.setIfInBounds_toArray, List.set_cons_zero, List.set_cons_succ]
    refine wpAnyH_ready (rs := [4]) (by kernel_rfl) (by simp) ?_
    refine AllReadyH.cons (by simp only [List.getElem?_toArray, List.getElem?_cons_zero, List.getElem?_cons_succ]; rfl) (fun K9 hK9 => ?_) ?_
    rotate_left
    exact AllReadyH.nil
    go_simp
    refine kgen (fun W => Has w W [(W15.heap.size, (.cells #[.slice none 0 0] 36)), (W14.heap.size, (.cells #[.int .i64 2, .int .i64 1, .slice (some ⟨W0.heap.size, 0, none⟩) 1 1] 93)), (W13.heap.size, (.cells #[.slice none 0 0, .slice none 0 0, .slice none 0 0] 36)), (W0.heap.size, (.cells #[.int .i64 0] 3)), (w.heap.size, (.cells #[.int .i64 0, .slice none 0 0, .slice none 0 0, .slice none 0 0] 25))]) (HL15.out.alloc _) (fun W16 hl => ?_)
    have HL16 := hid hl
    clear hl
    refine hK9.out _ _ ?_ (fun hHeld => ?_)
    ·exact trivial
    clear hK9 K9
    try simp only [Act.put, List.setIfInBounds_toArray, List.set_cons_zero, List.set_cons_succ]
    refine wpAnyH_take (i := 5) (v := ?v7) (by simp only [List.getElem?_toArray, List.getElem?_cons_zero, List.getElem?_cons_succ]; rfl) (by kernel_rfl) (by kernel_rfl) (by kernel_rfl) (fun _ _ _ h => h) (Or.inl ⟨by rfl, ?hy7⟩) (by assumption) ?rest7
    case hy7 => (intro w hSw; (try dsimp only at hSw); go_simp) <;> try with_reducible rfl
    simp only [Act.put, List.setIfInBounds_toArray, List.set_cons_zero, List.set_cons_succ]
    refine wpAnyH_ready (rs := [6]) (by kernel_rfl) (by simp) ?_
    refine AllReadyH.cons (by simp only [List.getElem?_toArray, List.getElem?_cons_zero, List.getElem?_cons_succ]; rfl) (fun K9 hK9 => ?_) ?_
    rotate_left
    exact AllReadyH.nil
    have t2 := (HL16.out.2 (w.heap.size, (.cells #[.int .i64 0, .slice none 0 0, .slice none 0 0, .slice none 0 0] 25)) (by simp)).2
    have p0 := frozen_of_row W16 _ 0 _ _ t2
    have p1 := frozen_of_row W16 _ 1 _ _ t2
    have p2 := frozen_of_row W16 _ 2 _ _ t2
    have p3 := frozen_of_row W16 _ 3 _ _ t2
    have q0 : W16.cell? ⟨w.heap.size, 0, none⟩ = some ((.int .i64 0)) := by rw [cell_of_row W16 _ 0 _ _ _ t2]; rfl
    have q1 : W16.cell? ⟨w.heap.size, 1, none⟩ = some ((.slice none 0 0)) := by rw [cell_of_row W16 _ 1 _ _ _ t2]; rfl
    have q2 : W16.cell? ⟨w.heap.size, 2, none⟩ = some ((.slice none 0 0)) := by rw [cell_of_row W16 _ 2 _ _ _ t2]; rfl
    have q3 : W16.cell? ⟨w.heap.size, 3, none⟩ = some ((.slice none 0 0)) := by rw [cell_of_row W16 _ 3 _ _ _ t2]; rfl
    go_simp
    refine hK9.out _ _ ?_ (fun hHeld => ?_)
    ·exact trivial
    clear hK9 K9
    try simp only [Act.put, List.setIfInBounds_toArray, List.set_cons_zero, List.set_cons_succ]
    refine wpAnyH_done (by kernel_rfl) (NoPanic.normal ?_) _
    have Ht2 := hid t2
    clear p0 p1 p2 p3 q0 q1 q2 q3 t2
    have hend := hid (small_end HL16.out.1 Ht2.out (HL16.out.2 (W13.heap.size, _) (by simp)).2 (HL16.out.2 (W0.heap.size, _) (by simp)).2 (HL16.out.2 (W14.heap.size, _) (by simp)).2 (HL16.out.2 (W15.heap.size, _) (by simp)).2)
    have j0 := heap_setCell_same _ w.heap.size 0 _ _ (.int .i64 3) Ht2.out
    have j1 := heap_setCell_same _ w.heap.size 1 _ _ (.slice (some ⟨W13.heap.size, 0, none⟩) 3 3) j0
    have j2 := heap_setCell_same _ w.heap.size 2 _ _ (.slice (some ⟨W14.heap.size, 0, none⟩) 1 1) j1
    have j3 := heap_setCell_same _ w.heap.size 3 _ _ (.slice (some ⟨W15.heap.size, 0, none⟩) 1 1) j2
    have o0 := cell_of_row _ _ 0 _ _ _ j3
    have o1 := cell_of_row _ _ 1 _ _ _ j3
    have o2 := cell_of_row _ _ 2 _ _ _ j3
    have o3 := cell_of_row _ _ 3 _ _ _ j3
    simp only [List.setIfInBounds_toArray, List.set_cons_zero, List.set_cons_succ, List.getElem?_toArray, List.getElem?_cons_zero, List.getElem?_cons_succ] at o0 o1 o2 o3
    generalize ((((W16.setCell ⟨w.heap.size, 0, none⟩ (.int .i64 3)).setCell ⟨w.heap.size, 1, none⟩ (.slice (some ⟨W13.heap.size, 0, none⟩) 3 3)).setCell ⟨w.heap.size, 2, none⟩ (.slice (some ⟨W14.heap.size, 0, none⟩) 1 1)).setCell ⟨w.heap.size, 3, none⟩ (.slice (some ⟨W15.heap.size, 0, none⟩) 1 1)) = wE at *
    clear j0 j1 j2 j3
    go_wp2
    refine bodyPost_ret (by simp [results, Tryz.results33, go_sem, o0, o1, o2, o3]; try rfl) rfl ?_
    exact Fin HQ hend.out
   ·skip
    go_simp
    refine kgen (fun W => Has w W [(W14.heap.size, (.cells #[.slice none 0 0] 36)), (W13.heap.size, (.cells #[.slice none 0 0, .slice none 0 0, .slice none 0 0] 36)), (W0.heap.size, (.cells #[.int .i64 0] 3)), (w.heap.size, (.cells #[.int .i64 0, .slice none 0 0, .slice none 0 0, .slice none 0 0] 25))]) (HL14.out.alloc _) (fun W18 hl => ?_)
    have HL18 := hid hl
    clear hl
    refine hK9.out _ _ ?_ (fun hHeld => ?_)
    ·exact trivial
    clear hK9 K9
    try simp only [Act.put, List.setIfInBounds_toArray, List.set_cons_zero, List.set_cons_succ]
    refine wpAnyH_ready (rs := [3]) (by kernel_rfl) (by simp) ?_
    refine AllReadyH.cons (by simp only [List.getElem?_toArray, List.getElem?_cons_zero, List.getElem?_cons_succ]; rfl) (fun K9 hK9 => ?_) ?_
    rotate_left
    exact AllReadyH.nil
    go_simp
    refine kgen (fun W => Has w W [(W18.heap.size, (.cells #[.int .i64 2, .int .i64 1, .slice (some ⟨W0.heap.size, 0, none⟩) 1 1] 93)), (W14.heap.size, (.cells #[.slice none 0 0] 36)), (W13.heap.size, (.cells #[.slice none 0 0, .slice none 0 0, .slice none 0 0] 36)), (W0.heap.size, (.cells #[.int .i64 0] 3)), (w.heap.size, (.cells #[.int .i64 0, .slice none 0 0, .slice none 0 0, .slice none 0 0] 25))]) (HL18.out.alloc _) (fun W19 hl => ?_)
    have HL19 := hid hl
    clear hl
    refine hK9.out _ _ ?_ (fun hHeld => ?_)
    ·exact trivial
    clear hK9 K9
    try simp only [Act.put, List.setIfInBounds_toArray, List.set_cons_zero, List.set_cons_succ]
    refine wpAnyH_take (i := 5) (v := ?v8) (by simp only [List.getElem?_toArray, List.getElem?_cons_zero, List.getElem?_cons_succ]; rfl) (by kernel_rfl) (by kernel_rfl) (by kernel_rfl) (fun _ _ _ h => h) (Or.inl ⟨by rfl, ?hy8⟩) (by assumption) ?rest8
    case hy8 => (intro w hSw; (try dsimp only at hSw); go_simp) <;> try with_reducible rfl
    simp only [Act.put, List.setIfInBounds_toArray, List.set_cons_zero, List.set_cons_succ]
    refine wpAnyH_ready (rs := [6]) (by kernel_rfl) (by simp) ?_
    refine AllReadyH.cons (by simp only [List.getElem?_toArray, List.getElem?_cons_zero, List.getElem?_cons_succ]; rfl) (fun K9 hK9 => ?_) ?_
    rotate_left
    exact AllReadyH.nil
    have t2 := (HL19.out.2 (w.heap.size, (.cells #[.int .i64 0, .slice none 0 0, .slice none 0 0, .slice none 0 0] 25)) (by simp)).2
    have p0 := frozen_of_row W19 _ 0 _ _ t2
    have p1 := frozen_of_row W19 _ 1 _ _ t2
    have p2 := frozen_of_row W19 _ 2 _ _ t2
    have p3 := frozen_of_row W19 _ 3 _ _ t2
    have q0 : W19.cell? ⟨w.heap.size, 0, none⟩ = some ((.int .i64 0)) := by rw [cell_of_row W19 _ 0 _ _ _ t2]; rfl
    have q1 : W19.cell? ⟨w.heap.size, 1, none⟩ = some ((.slice none 0 0)) := by rw [cell_of_row W19 _ 1 _ _ _ t2]; rfl
    have q2 : W19.cell? ⟨w.heap.size, 2, none⟩ = some ((.slice none 0 0)) := by rw [cell_of_row W19 _ 2 _ _ _ t2]; rfl
    have q3 : W19.cell? ⟨w.heap.size, 3, none⟩ = some ((.slice none 0 0)) := by rw [cell_of_row W19 _ 3 _ _ _ t2]; rfl
    go_simp
    refine hK9.out _ _ ?_ (fun hHeld => ?_)
    ·exact trivial
    clear hK9 K9
    try simp only [Act.put, List.setIfInBounds_toArray, List.set_cons_zero, List.set_cons_succ]
    refine wpAnyH_done (by kernel_rfl) (NoPanic.normal ?_) _
    have Ht2 := hid t2
    clear p0 p1 p2 p3 q0 q1 q2 q3 t2
    have hend := hid (small_end HL19.out.1 Ht2.out (HL19.out.2 (W13.heap.size, _) (by simp)).2 (HL19.out.2 (W0.heap.size, _) (by simp)).2 (HL19.out.2 (W18.heap.size, _) (by simp)).2 (HL19.out.2 (W14.heap.size, _) (by simp)).2)
    have j0 := heap_setCell_same _ w.heap.size 0 _ _ (.int .i64 3) Ht2.out
    have j1 := heap_setCell_same _ w.heap.size 1 _ _ (.slice (some ⟨W13.heap.size, 0, none⟩) 3 3) j0
    have j2 := heap_setCell_same _ w.heap.size 2 _ _ (.slice (some ⟨W18.heap.size, 0, none⟩) 1 1) j1
    have j3 := heap_setCell_same _ w.heap.size 3 _ _ (.slice (some ⟨W14.heap.size, 0, none⟩) 1 1) j2
    have o0 := cell_of_row _ _ 0 _ _ _ j3
    have o1 := cell_of_row _ _ 1 _ _ _ j3
    have o2 := cell_of_row _ _ 2 _ _ _ j3
    have o3 := cell_of_row _ _ 3 _ _ _ j3
    simp only [List.setIfInBounds_toArray, List.set_cons_zero, List.set_cons_succ, List.getElem?_toArray, List.getElem?_cons_zero, List.getElem?_cons_succ] at o0 o1 o2 o3
    generalize ((((W19.setCell ⟨w.heap.size, 0, none⟩ (.int .i64 3)).setCell ⟨w.heap.size, 1, none⟩ (.slice (some ⟨W13.heap.size, 0, none⟩) 3 3)).setCell ⟨w.heap.size, 2, none⟩ (.slice (some ⟨W18.heap.size, 0, none⟩) 1 1)).setCell ⟨w.heap.size, 3, none⟩ (.slice (some ⟨W14.heap.size, 0, none⟩) 1 1)) = wE at *
    clear j0 j1 j2 j3
    go_wp2
    refine bodyPost_ret (by simp [results, Tryz.results33, go_sem, o0, o1, o2, o3]; try rfl) rfl ?_
    exact Fin HQ hend.out
  ·skip
   go_simp
   refine kgen (fun W => Has w W [(W13.heap.size, (.cells #[.int .i64 2, .int .i64 1, .slice (some ⟨W0.heap.size, 0, none⟩) 1 1] 93)), (W0.heap.size, (.cells #[.int .i64 0] 3)), (w.heap.size, (.cells #[.int .i64 0, .slice none 0 0, .slice none 0 0, .slice none 0 0] 25))]) (HL13.out.alloc _) (fun W21 hl => ?_)
   have HL21 := hid hl
   clear hl
   refine hK9.out _ _ ?_ (fun hHeld => ?_)
   ·exact trivial
   clear hK9 K9
   try simp only [Act.put, List.setIfInBounds_toArray, List.set_cons_zero, List.set_cons_succ]
   refine wpAnyH_ready (rs := [0, 4]) (by kernel_rfl) (by simp) ?_
   refine AllReadyH.cons (by simp only [List.getElem?_toArray, List.getElem?_cons_zero, List.getElem?_cons_succ]; rfl) (fun K9 hK9 => ?_) ?_
   rotate_left
   refine AllReadyH.cons (by simp only [List.getElem?_toArray, List.getElem?_cons_zero, List.getElem?_cons_succ]; rfl) (fun K9 hK9 => ?_) ?_
   rotate_left
   exact AllReadyH.nil
   ·skip
    go_simp
    refine kgen (fun W => Has w W [(W21.heap.size, (.cells #[.slice none 0 0, .slice none 0 0, .slice none 0 0] 36)), (W13.heap.size, (.cells #[.int .i64 2, .int .i64 1, .slice (some ⟨W0.heap.size, 0, none⟩) 1 1] 93)), (W0.heap.size, (.cells #[.int .i64 0] 3)), (w.heap.size, (.cells #[.int .i64 0, .slice none 0 0, .slice none 0 0, .slice none 0 0] 25))]) (HL21.out.alloc _) (fun W22 hl => ?_)
    have HL22 := hid hl
    clear hl
    refine hK9.out _ _ ?_ (fun hHeld => ?_)
    ·exact trivial
    clear hK9 K9
    try simp only [Act.put, List.setIfInBounds_toArray, List.set_cons_zero, List.set_cons_succ]
    refine wpAnyH_ready (rs := [4]) (by kernel_rfl) (by simp) ?_
    refine AllReadyH.cons (by simp only [List.getElem?_toArray, List.getElem?_cons_zero, List.getElem?_cons_succ]; rfl) (fun K9 hK9 => ?_) ?_
    rotate_left
    exact AllReadyH.nil
    go_simp
    refine kgen (fun W => Has w W [(W22.heap.size, (.cells #[.slice none 0 0] 36)), (W21.heap.size, (.cells #[.slice none 0 0, .slice none 0 0, .slice none 0 0] 36)), (W13.heap.size, (.cells #[.int .i64 2, .int .i64 1, .slice (some ⟨W0.heap.size, 0, none⟩) 1 1] 93)), (W0.heap.size, (.cells #[.int .i64 0] 3)), (w.heap.size, (.cells #[.int .i64 0, .slice none 0 0, .slice none 0 0, .slice none 0 0] 25))]) (HL22.out.alloc _) (fun W23 hl => ?_)
    have HL23 := hid hl
    clear hl
    refine hK9.out _ _ ?_ (fun hHeld => ?_)
    ·exact trivial
    clear hK9 K9
    try simp only [Act.put, List.setIfInBounds_toArray, List.set_cons_zero, List.set_cons_succ]
    refine wpAnyH_take (i := 5) (v := ?v9) (by simp only [List.getElem?_toArray, List.getElem?_cons_zero, List.getElem?_cons_succ]; rfl) (by kernel_rfl) (by kernel_rfl) (by kernel_rfl) (fun _ _ _ h => h) (Or.inl ⟨by rfl, ?hy9⟩) (by assumption) ?rest9
    case hy9 => (intro w hSw; (try dsimp only at hSw); go_simp) <;> try with_reducible rfl
    simp only [Act.put, List.setIfInBounds_toArray, List.set_cons_zero, List.set_cons_succ]
    refine wpAnyH_ready (rs := [6]) (by kernel_rfl) (by simp) ?_
    refine AllReadyH.cons (by simp only [List.getElem?_toArray, List.getElem?_cons_zero, List.getElem?_cons_succ]; rfl) (fun K9 hK9 => ?_) ?_
    rotate_left
    exact AllReadyH.nil
    have t2 := (HL23.out.2 (w.heap.size, (.cells #[.int .i64 0, .slice none 0 0, .slice none 0 0, .slice none 0 0] 25)) (by simp)).2
    have p0 := frozen_of_row W23 _ 0 _ _ t2
    have p1 := frozen_of_row W23 _ 1 _ _ t2
    have p2 := frozen_of_row W23 _ 2 _ _ t2
    have p3 := frozen_of_row W23 _ 3 _ _ t2
    have q0 : W23.cell? ⟨w.heap.size, 0, none⟩ = some ((.int .i64 0)) := by rw [cell_of_row W23 _ 0 _ _ _ t2]; rfl
    have q1 : W23.cell? ⟨w.heap.size, 1, none⟩ = some ((.slice none 0 0)) := by rw [cell_of_row W23 _ 1 _ _ _ t2]; rfl
    have q2 : W23.cell? ⟨w.heap.size, 2, none⟩ = some ((.slice none 0 0)) := by rw [cell_of_row W23 _ 2 _ _ _ t2]; rfl
    have q3 : W23.cell? ⟨w.heap.size, 3, none⟩ = some ((.slice none 0 0)) := by rw [cell_of_row W23 _ 3 _ _ _ t2]; rfl
    go_simp
    refine hK9.out _ _ ?_ (fun hHeld => ?_)
    ·exact trivial
    clear hK9 K9
    try simp only [Act.put, List.setIfInBounds_toArray, List.set_cons_zero, List.set_cons_succ]
    refine wpAnyH_done (by kernel_rfl) (NoPanic.normal ?_) _
    have Ht2 := hid t2
    clear p0 p1 p2 p3 q0 q1 q2 q3 t2
    have hend := hid (small_end HL23.out.1 Ht2.out (HL23.out.2 (W21.heap.size, _) (by simp)).2 (HL23.out.2 (W0.heap.size, _) (by simp)).2 (HL23.out.2 (W13.heap.size, _) (by simp)).2 (HL23.out.2 (W22.heap.size, _) (by simp)).2)
    have j0 := heap_setCell_same _ w.heap.size 0 _ _ (.int .i64 3) Ht2.out
    have j1 := heap_setCell_same _ w.heap.size 1 _ _ (.slice (some ⟨W21.heap.size, 0, none⟩) 3 3) j0
    have j2 := heap_setCell_same _ w.heap.size 2 _ _ (.slice (some ⟨W13.heap.size, 0, none⟩) 1 1) j1
    have j3 := heap_setCell_same _ w.heap.size 3 _ _ (.slice (some ⟨W22.heap.size, 0, none⟩) 1 1) j2
    have o0 := cell_of_row _ _ 0 _ _ _ j3
    have o1 := cell_of_row _ _ 1 _ _ _ j3
    have o2 := cell_of_row _ _ 2 _ _ _ j3
    have o3 := cell_of_row _ _ 3 _ _ _ j3
    simp only [List.setIfInBounds_toArray, List.set_cons_zero, List.set_cons_succ, List.getElem?_toArray, List.getElem?_cons_zero, List.getElem?_cons_succ] at o0 o1 o2 o3
    generalize ((((W23.setCell ⟨w.heap.size, 0, none⟩ (.int .i64 3)).setCell ⟨w.heap.size, 1, none⟩ (.slice (some ⟨W21.heap.size, 0, none⟩) 3 3)).setCell ⟨w.heap.size, 2, none⟩ (.slice (some ⟨W13.heap.size, 0, none⟩) 1 1)).setCell ⟨w.heap.size, 3, none⟩ (.slice (some ⟨W22.heap.size, 0, none⟩) 1 1)) = wE at *
    clear j0 j1 j2 j3
    go_wp2
    refine bodyPost_ret (by simp [results, Tryz.results33, go_sem, o0, o1, o2, o3]; try rfl) rfl ?_
    exact Fin HQ hend.out
   ·skip
    go_simp
    refine kgen (fun W => Has w W [(W21.heap.size, (.cells #[.slice none 0 0] 36)), (W13.heap.size, (.cells #[.int .i64 2, .int .i64 1, .slice (some ⟨W0.heap.size, 0, none⟩) 1 1] 93)), (W0.heap.size, (.cells #[.int .i64 0] 3)), (w.heap.size, (.cells #[.int .i64 0, .slice none 0 0, .slice none 0 0, .slice none 0 0] 25))]) (HL21.out.alloc _) (fun W25 hl => ?_)
    have HL25 := hid hl
    clear hl
    refine hK9.out _ _ ?_ (fun hHeld => ?_)
    ·exact trivial
    clear hK9 K9
    try simp only [Act.put, List.setIfInBounds_toArray, List.set_cons_zero, List.set_cons_succ]
    refine wpAnyH_ready (rs := [0]) (by kernel_rfl) (by simp) ?_
    refine AllReadyH.cons (by simp only [List.getElem?_toArray, List.getElem?_cons_zero, List.getElem?_cons_succ]; rfl) (fun K9 hK9 => ?_) ?_
    rotate_left
    exact AllReadyH.nil
    go_simp
    refine kgen (fun W => Has w W [(W25.heap.size, (.cells #[.slice none 0 0, .slice none 0 0, .slice none 0 0] 36)), (W21.heap.size, (.cells #[.slice none 0 0] 36)), (W13.heap.size, (.cells #[.int .i64 2, .int .i64 1, .slice (some ⟨W0.heap.size, 0, none⟩) 1 1] 93)), (W0.heap.size, (.cells #[.int .i64 0] 3)), (w.heap.size, (.cells #[.int .i64 0, .slice none 0 0, .slice none 0 0, .slice none 0 0] 25))]) (HL25.out.alloc _) (fun W26 hl => ?_)
    have HL26 := hid hl
    clear hl
    refine hK9.out _ _ ?_ (fun hHeld => ?_)
    ·exact trivial
    clear hK9 K9
    try simp only [Act.put, List.setIfInBounds_toArray, List.set_cons_zero, List.set_cons_succ]
    refine wpAnyH_take (i := 5) (v := ?v10) (by simp only [List.getElem?_toArray, List.getElem?_cons_zero, List.getElem?_cons_succ]; rfl) (by kernel_rfl) (by kernel_rfl) (by kernel_rfl) (fun _ _ _ h => h) (Or.inl ⟨by rfl, ?hy10⟩) (by assumption) ?rest10
    case hy10 => (intro w hSw; (try dsimp only at hSw); go_simp) <;> try with_reducible rfl
    simp only [Act.put, List.setIfInBounds_toArray, List.set_cons_zero, List.set_cons_succ]
    refine wpAnyH_ready (rs := [6]) (by kernel_rfl) (by simp) ?_
    refine AllReadyH.cons (by simp only [List.getElem?_toArray, List.getElem?_cons_zero, List.getElem?_cons_succ]; rfl) (fun K9 hK9 => ?_) ?_
    rotate_left
    exact AllReadyH.nil
    have t2 := (HL26.out.2 (w.heap.size, (.cells #[.int .i64 0, .slice none 0 0, .slice none 0 0, .slice none 0 0] 25)) (by simp)).2
    have p0 := frozen_of_row W26 _ 0 _ _ t2
    have p1 := frozen_of_row W26 _ 1 _ _ t2
    have p2 := frozen_of_row W26 _ 2 _ _ t2
    have p3 := frozen_of_row W26 _ 3 _ _ t2
    have q0 : W26.cell? ⟨w.heap.size, 0, none⟩ = some ((.int .i64 0)) := by rw [cell_of_row W26 _ 0 _ _ _ t2]; rfl
    have q1 : W26.cell? ⟨w.heap.size, 1, none⟩ = some ((.slice none 0 0)) := by rw [cell_of_row W26 _ 1 _ _ _ t2]; rfl
    have q2 : W26.cell? ⟨w.heap.size, 2, none⟩ = some ((.slice none 0 0)) := by rw [cell_of_row W26 _ 2 _ _ _ t2]; rfl
    have q3 : W26.cell? ⟨w.heap.size, 3, none⟩ = some ((.slice none 0 0)) := by rw [cell_of_row W26 _ 3 _ _ _ t2]; rfl
    go_simp
    refine hK9.out _ _ ?_ (fun hHeld => ?_)
    ·exact trivial
    clear hK9 K9
    try simp only [Act.put, List.setIfInBounds_toArray, List.set_cons_zero, List.set_cons_succ]
    refine wpAnyH_done (by kernel_rfl) (NoPanic.normal ?_) _
    have Ht2 := hid t2
    clear p0 p1 p2 p3 q0 q1 q2 q3 t2
    have hend := hid (small_end HL26.out.1 Ht2.out (HL26.out.2 (W25.heap.size, _) (by simp)).2 (HL26.out.2 (W0.heap.size, _) (by simp)).2 (HL26.out.2 (W13.heap.size, _) (by simp)).2 (HL26.out.2 (W21.heap.size, _) (by simp)).2)
    have j0 := heap_setCell_same _ w.heap.size 0 _ _ (.int .i64 3) Ht2.out
    have j1 := heap_setCell_same _ w.heap.size 1 _ _ (.slice (some ⟨W25.heap.size, 0, none⟩) 3 3) j0
    have j2 := heap_setCell_same _ w.heap.size 2 _ _ (.slice (some ⟨W13.heap.size, 0, none⟩) 1 1) j1
    have j3 := heap_setCell_same _ w.heap.size 3 _ _ (.slice (some ⟨W21.heap.size, 0, none⟩) 1 1) j2
    have o0 := cell_of_row _ _ 0 _ _ _ j3
    have o1 := cell_of_row _ _ 1 _ _ _ j3
    have o2 := cell_of_row _ _ 2 _ _ _ j3
    have o3 := cell_of_row _ _ 3 _ _ _ j3
    simp only [List.setIfInBounds_toArray, List.set_cons_zero, List.set_cons_succ, List.getElem?_toArray, List.getElem?_cons_zero, List.getElem?_cons_succ] at o0 o1 o2 o3
    generalize ((((W26.setCell ⟨w.heap.size, 0, none⟩ (.int .i64 3)).setCell ⟨w.heap.size, 1, none⟩ (.slice (some ⟨W25.heap.size, 0, none⟩) 3 3)).setCell ⟨w.heap.size, 2, none⟩ (.slice (some ⟨W13.heap.size, 0, none⟩) 1 1)).setCell ⟨w.heap.size, 3, none⟩ (.slice (some ⟨W21.heap.size, 0, none⟩) 1 1)) = wE at *
    clear j0 j1 j2 j3
    go_wp2
    refine bodyPost_ret (by simp [results, Tryz.results33, go_sem, o0, o1, o2, o3]; try rfl) rfl ?_
    exact Fin HQ hend.out
  ·skip
   go_simp
   refine kgen (fun W => Has w W [(W13.heap.size, (.cells #[.slice none 0 0] 36)), (W0.heap.size, (.cells #[.int .i64 0] 3)), (w.heap.size, (.cells #[.int .i64 0, .slice none 0 0, .slice none 0 0, .slice none 0 0] 25))]) (HL13.out.alloc _) (fun W28 hl => ?_)
   have HL28 := hid hl
   clear hl
   refine hK9.out _ _ ?_ (fun hHeld => ?_)
   ·exact trivial
   clear hK9 K9
   try simp only [Act.put, List.setIfInBounds_toArray, List.set_cons_zero, List.set_cons_succ]
   refine wpAnyH_ready (rs := [0, 3]) (by kernel_rfl) (by simp) ?_
   refine AllReadyH.cons (by simp only [List.getElem?_toArray, List.getElem?_cons_zero, List.getElem?_cons_succ]; rfl) (fun K9 hK9 => ?_) ?_
   rotate_left
   refine AllReadyH.cons (by simp only [List.getElem?_toArray, List.getElem?_cons_zero, List.getElem?_cons_succ]; rfl) (fun K9 hK9 => ?_) ?_
   rotate_left
   exact AllReadyH.nil
   ·skip
    go_simp
    refine kgen (fun W => Has w W [(W28.heap.size, (.cells #[.slice none 0 0, .slice none 0 0, .slice none 0 0] 36)), (W13.heap.size, (.cells #[.slice none 0 0] 36)), (W0.heap.size, (.cells #[.int .i64 0] 3)), (w.heap.size, (.cells #[.int .i64 0, .slice none 0 0, .slice none 0 0, .slice none 0 0] 25))]) (HL28.out.alloc _) (fun W29 hl => ?_)
    have HL29 := hid hl
    clear hl
    refine hK9.out _ _ ?_ (fun hHeld => ?_)
    ·exact trivial
    clear hK9 K9
    try simp only [Act.put, List.setIfInBounds_toArray, List.set_cons_zero, List.set_cons_succ]
    refine wpAnyH_ready (rs := [3]) (by kernel_rfl) (by simp) ?_
    refine AllReadyH.cons (by simp only [List.getElem?_toArray, List.getElem?_cons_zero, List.getElem?_cons_succ]; rfl) (fun K9 hK9 => ?_) ?_
    rotate_left
    exact AllReadyH.nil
    go_simp
    refine kgen (fun W => Has w W [(W29.heap.size, (.cells #[.int .i64 2, .int .i64 1, .slice (some ⟨W0.heap.size, 0, none⟩) 1 1] 93)), (W28.heap.size, (.cells #[.slice none 0 0, .slice none 0 0, .slice none 0 0] 36)), (W13.heap.size, (.cells #[.slice none 0 0] 36)), (W0.heap.size, (.cells #[.int .i64 0] 3)), (w.heap.size, (.cells #[.int .i64 0, .slice none 0 0, .slice none 0 0, .slice none 0 0] 25))]) (HL29.out.alloc _) (fun W30 hl => ?_)
    have HL30 := hid hl
    clear hl
    refine hK9.out _ _ ?_ (fun hHeld => ?_)
    ·exact trivial
    clear hK9 K9
    try simp only [Act.put, List.setIfInBounds_toArray, List.set_cons_zero, List.set_cons_succ]
    refine wpAnyH_take (i := 5) (v := ?v11) (by simp only [List.getElem?_toArray, List.getElem?_cons_zero, List.getElem?_cons_succ]; rfl) (by kernel_rfl) (by kernel_rfl) (by kernel_rfl) (fun _ _ _ h => h) (Or.inl ⟨by rfl, ?hy11⟩) (by assumption) ?rest11
    case hy11 => (intro w hSw; (try dsimp only at hSw); go_simp) <;> try with_reducible rfl
    simp only [Act.put, List.setIfInBounds_toArray, List.set_cons_zero, List.set_cons_succ]
    refine wpAnyH_ready (rs := [6]) (by kernel_rfl) (by simp) ?_
    refine AllReadyH.cons (by simp only [List.getElem?_toArray, List.getElem?_cons_zero, List.getElem?_cons_succ]; rfl) (fun K9 hK9 => ?_) ?_
    rotate_left
    exact AllReadyH.nil
    have t2 := (HL30.out.2 (w.heap.size, (.cells #[.int .i64 0, .slice none 0 0, .slice none 0 0, .slice none 0 0] 25)) (by simp)).2
    have p0 := frozen_of_row W30 _ 0 _ _ t2
    have p1 := frozen_of_row W30 _ 1 _ _ t2
    have p2 := frozen_of_row W30 _ 2 _ _ t2
    have p3 := frozen_of_row W30 _ 3 _ _ t2
    have q0 : W30.cell? ⟨w.heap.size, 0, none⟩ = some ((.int .i64 0)) := by rw [cell_of_row W30 _ 0 _ _ _ t2]; rfl
    have q1 : W30.cell? ⟨w.heap.size, 1, none⟩ = some ((.slice none 0 0)) := by rw [cell_of_row W30 _ 1 _ _ _ t2]; rfl
    have q2 : W30.cell? ⟨w.heap.size, 2, none⟩ = some ((.slice none 0 0)) := by rw [cell_of_row W30 _ 2 _ _ _ t2]; rfl
    have q3 : W30.cell? ⟨w.heap.size, 3, none⟩ = some ((.slice none 0 0)) := by rw [cell_of_row W30 _ 3 _ _ _ t2]; rfl
    go_simp
    refine hK9.out _ _ ?_ (fun hHeld => ?_)
    ·exact trivial
    clear hK9 K9
    try simp only [Act.put, List.setIfInBounds_toArray, List.set_cons_zero, List.set_cons_succ]
    refine wpAnyH_done (by kernel_rfl) (NoPanic.normal ?_) _
    have Ht2 := hid t2
    clear p0 p1 p2 p3 q0 q1 q2 q3 t2
    have hend := hid (small_end HL30.out.1 Ht2.out (HL30.out.2 (W28.heap.size, _) (by simp)).2 (HL30.out.2 (W0.heap.size, _) (by simp)).2 (HL30.out.2 (W29.heap.size, _) (by simp)).2 (HL30.out.2 (W13.heap.size, _) (by simp)).2)
    have j0 := heap_setCell_same _ w.heap.size 0 _ _ (.int .i64 3) Ht2.out
    have j1 := heap_setCell_same _ w.heap.size 1 _ _ (.slice (some ⟨W28.heap.size, 0, none⟩) 3 3) j0
    have j2 := heap_setCell_same _ w.heap.size 2 _ _ (.slice (some ⟨W29.heap.size, 0, none⟩) 1 1) j1
    have j3 := heap_setCell_same _ w.heap.size 3 _ _ (.slice (some ⟨W13.heap.size, 0, none⟩) 1 1) j2
    have o0 := cell_of_row _ _ 0 _ _ _ j3
    have o1 := cell_of_row _ _ 1 _ _ _ j3
    have o2 := cell_of_row _ _ 2 _ _ _ j3
    have o3 := cell_of_row _ _ 3 _ _ _ j3
    simp only [List.setIfInBounds_toArray, List.set_cons_zero, List.set_cons_succ, List.getElem?_toArray, List.getElem?_cons_zero, List.getElem?_cons_succ] at o0 o1 o2 o3
    generalize ((((W30.setCell ⟨w.heap.size, 0, none⟩ (.int .i64 3)).setCell ⟨w.heap.size, 1, none⟩ (.slice (some ⟨W28.heap.size, 0, none⟩) 3 3)).setCell ⟨w.heap.size, 2, none⟩ (.slice (some ⟨W29.heap.size, 0, none⟩) 1 1)).setCell ⟨w.heap.size, 3, none⟩ (.slice (some ⟨W13.heap.size, 0, none⟩) 1 1)) = wE at *
    clear j0 j1 j2 j3
    go_wp2
    refine bodyPost_ret (by simp [results, Tryz.results33, go_sem, o0, o1, o2, o3]; try rfl) rfl ?_
    exact Fin HQ hend.out
   ·skip
    go_simp
    refine kgen (fun W => Has w W [(W28.heap.size, (.cells #[.int .i64 2, .int .i64 1, .slice (some ⟨W0.heap.size, 0, none⟩) 1 1] 93)), (W13.heap.size, (.cells #[.slice none 0 0] 36)), (W0.heap.size, (.cells #[.int .i64 0] 3)), (w.heap.size, (.cells #[.int .i64 0, .slice none 0 0, .slice none 0 0, .slice none 0 0] 25))]) (HL28.out.alloc _) (fun W32 hl => ?_)
    have HL32 := hid hl
    clear hl
    refine hK9.out _ _ ?_ (fun hHeld => ?_)
    ·exact trivial
    clear hK9 K9
    try simp only [Act.put, List.setIfInBounds_toArray, List.set_cons_zero, List.set_cons_succ]
    refine wpAnyH_ready (rs := [0]) (by kernel_rfl) (by simp) ?_
    refine AllReadyH.cons (by simp only [List.getElem?_toArray, List.getElem?_cons_zero, List.getElem?_cons_succ]; rfl) (fun K9 hK9 => ?_) ?_
    rotate_left
    exact AllReadyH.nil
    go_simp
    refine kgen (fun W => Has w W [(W32.heap.size, (.cells #[.slice none 0 0, .slice none 0 0, .slice none 0 0] 36)), (W28.heap.size, (.cells #[.int .i64 2, .int .i64 1, .slice (some ⟨W0.heap.size, 0, none⟩) 1 1] 93)), (W13.heap.size, (.cells #[.slice none 0 0] 36)), (W0.heap.size, (.cells #[.int .i64 0] 3)), (w.heap.size, (.cells #[.int .i64 0, .slice none 0 0, .slice none 0 0, .slice none 0 0] 25))]) (HL32.out.alloc _) (fun W33 hl => ?_)
    have HL33 := hid hl
    clear hl
    refine hK9.out _ _ ?_ (fun hHeld => ?_)
    ·exact trivial
    clear hK9 K9
    try simp only [Act.put, List.setIfInBounds_toArray, List.set_cons_zero, List.set_cons_succ]
    refine wpAnyH_take (i := 5) (v := ?v12) (by simp only [List.getElem?_toArray, List.getElem?_cons_zero, List.getElem?_cons_succ]; rfl) (by kernel_rfl) (by kernel_rfl) (by kernel_rfl) (fun _ _ _ h => h) (Or.inl ⟨by rfl, ?hy12⟩) (by assumption) ?rest12
    case hy12 => (intro w hSw; (try dsimp only at hSw); go_simp) <;> try with_reducible rfl
    simp only [Act.put, List.setIfInBounds_toArray, List.set_cons_zero, List.set_cons_succ]
    refine wpAnyH_ready (rs := [6]) (by kernel_rfl) (by simp) ?_
    refine AllReadyH.cons (by simp only [List.getElem?_toArray, List.getElem?_cons_zero, List.getElem?_cons_succ]; rfl) (fun K9 hK9 => ?_) ?_
    rotate_left
    exact AllReadyH.nil
    have t2 := (HL33.out.2 (w.heap.size, (.cells #[.int .i64 0, .slice none 0 0, .slice none 0 0, .slice none 0 0] 25)) (by simp)).2
    have p0 := frozen_of_row W33 _ 0 _ _ t2
    have p1 := frozen_of_row W33 _ 1 _ _ t2
    have p2 := frozen_of_row W33 _ 2 _ _ t2
    have p3 := frozen_of_row W33 _ 3 _ _ t2
    have q0 : W33.cell? ⟨w.heap.size, 0, none⟩ = some ((.int .i64 0)) := by rw [cell_of_row W33 _ 0 _ _ _ t2]; rfl
    have q1 : W33.cell? ⟨w.heap.size, 1, none⟩ = some ((.slice none 0 0)) := by rw [cell_of_row W33 _ 1 _ _ _ t2]; rfl
    have q2 : W33.cell? ⟨w.heap.size, 2, none⟩ = some ((.slice none 0 0)) := by rw [cell_of_row W33 _ 2 _ _ _ t2]; rfl
    have q3 : W33.cell? ⟨w.heap.size, 3, none⟩ = some ((.slice none 0 0)) := by rw [cell_of_row W33 _ 3 _ _ _ t2]; rfl
    go_simp
    refine hK9.out _ _ ?_ (fun hHeld => ?_)
    ·exact trivial
    clear hK9 K9
    try simp only [Act.put, List.setIfInBounds_toArray, List.set_cons_zero, List.set_cons_succ]
    refine wpAnyH_done (by kernel_rfl) (NoPanic.normal ?_) _
    have Ht2 := hid t2
    clear p0 p1 p2 p3 q0 q1 q2 q3 t2
    have hend := hid (small_end HL33.out.1 Ht2.out (HL33.out.2 (W32.heap.size, _) (by simp)).2 (HL33.out.2 (W0.heap.size, _) (by simp)).2 (HL33.out.2 (W28.heap.size, _) (by simp)).2 (HL33.out.2 (W13.heap.size, _) (by simp)).2)
    have j0 := heap_setCell_same _ w.heap.size 0 _ _ (.int .i64 3) Ht2.out
    have j1 := heap_setCell_same _ w.heap.size 1 _ _ (.slice (some ⟨W32.heap.size, 0, none⟩) 3 3) j0
    have j2 := heap_setCell_same _ w.heap.size 2 _ _ (.slice (some ⟨W28.heap.size, 0, none⟩) 1 1) j1
    have j3 := heap_setCell_same _ w.heap.size 3 _ _ (.slice (some ⟨W13.heap.size, 0, none⟩) 1 1) j2
    have o0 := cell_of_row _ _ 0 _ _ _ j3
    have o1 := cell_of_row _ _ 1 _ _ _ j3
    have o2 := cell_of_row _ _ 2 _ _ _ j3
    have o3 := cell_of_row _ _ 3 _ _ _ j3
    simp only [List.setIfInBounds_toArray, List.set_cons_zero, List.set_cons_succ, List.getElem?_toArray, List.getElem?_cons_zero, List.getElem?_cons_succ] at o0 o1 o2 o3
    generalize ((((W33.setCell ⟨w.heap.size, 0, none⟩ (.int .i64 3)).setCell ⟨w.heap.size, 1, none⟩ (.slice (some ⟨W32.heap.size, 0, none⟩) 3 3)).setCell ⟨w.heap.size, 2, none⟩ (.slice (some ⟨W28.heap.size, 0, none⟩) 1 1)).setCell ⟨w.heap.size, 3, none⟩ (.slice (some ⟨W13.heap.size, 0, none⟩) 1 1)) = wE at *
    clear j0 j1 j2 j3
    go_wp2
    refine bodyPost_ret (by simp [results, Tryz.results33, go_sem, o0, o1, o2, o3]; try rfl) rfl ?_
    exact Fin HQ hend.out
 ·skip
  go_simp
  refine kgen (fun W => Has w W [(W0.heap.size, (.cells #[.slice none 0 0] 36)), (w.heap.size, (.cells #[.int .i64 0, .slice none 0 0, .slice none 0 0, .slice none 0 0] 25))]) (HL0.out.alloc _) (fun W35 hl => ?_)
  have HL35 := hid hl
  clear hl
  refine hK9.out _ _ ?_ (fun hHeld => ?_)
  ·exact trivial
  clear hK9 K9
  try simp only [Act.put, List.setIfInBounds_toArray, List.set_cons_zero, List.set_cons_succ]
  refine wpAnyH_ready (rs := [0, 1]) (by kernel_rfl) (by simp) ?_
  refine AllReadyH.cons (by simp only [List.getElem?_toArray, List.getElem?_cons_zero, List.getElem?_cons_succ]; rfl) (fun K9 hK9 => ?_) ?_
  rotate_left
  refine AllReadyH.cons (by simp only [List.getElem?_toArray, List.getElem?_cons_zero, List.getElem?_cons_succ]; rfl) (fun K9 hK9 => ?_) ?_
  rotate_left
  exact AllReadyH.nil
  ·skip
   go_simp
   refine kgen (fun W => Has w W [(W35.heap.size, (.cells #[.slice none 0 0, .slice none 0 0, .slice none 0 0] 36)), (W0.heap.size, (.cells #[.slice none 0 0] 36)), (w.heap.size, (.cells #[.int .i64 0, .slice none 0 0, .slice none 0 0, .slice none 0 0] 25))]) (HL35.out.alloc _) (fun W36 hl => ?_)
   have HL36 := hid hl
   clear hl
   refine hK9.out _ _ ?_ (fun hHeld => ?_)
   ·exact trivial
   clear hK9 K9
   try simp only [Act.put, List.setIfInBounds_toArray, List.set_cons_zero, List.set_cons_succ]
   refine wpAnyH_ready (rs := [1]) (by kernel_rfl) (by simp) ?_
   refine AllReadyH.cons (by simp only [List.getElem?_toArray, List.getElem?_cons_zero, List.getElem?_cons_succ]; rfl) (fun K9 hK9 => ?_) ?_
   rotate_left
   exact AllReadyH.nil
   go_simp
   refine kgen (fun W => Has w W [(W36.heap.size, (.cells #[.int .i64 0] 3)), (W35.heap.size, (.cells #[.slice none 0 0, .slice none 0 0, .slice none 0 0] 36)), (W0.heap.size, (.cells #[.slice none 0 0] 36)), (w.heap.size, (.cells #[.int .i64 0, .slice none 0 0, .slice none 0 0, .slice none 0 0] 25))]) (HL36.out.alloc _) (fun W37 hl => ?_)
   have HL37 := hid hl
   clear hl
   refine hK9.out _ _ ?_ (fun hHeld => ?_)
   ·exact trivial
   clear hK9 K9
   try simp only [Act.put, List.setIfInBounds_toArray, List.set_cons_zero, List.set_cons_succ]
   refine wpAnyH_take (i := 2) (v := ?v13) (by simp only [List.getElem?_toArray, List.getElem?_cons_zero, List.getElem?_cons_succ]; rfl) (by kernel_rfl) (by kernel_rfl) (by kernel_rfl) (fun _ _ _ h => h) (Or.inl ⟨by rfl, ?hy13⟩) (by assumption) ?rest13
   case hy13 => (intro w hSw; (try dsimp only at hSw); go_simp) <;> try with_reducible rfl
   simp only [Act.put, List.setIfInBounds_toArray, List.set_cons_zero, List.set_cons_succ]
   refine wpAnyH_ready (rs := [3]) (by kernel_rfl) (by simp) ?_
   refine AllReadyH.cons (by simp only [List.getElem?_toArray, List.getElem?_cons_zero, List.getElem?_cons_succ]; rfl) (fun K9 hK9 => ?_) ?_
   rotate_left
   exact AllReadyH.nil
   go_simp
   refine kgen (fun W => Has w W [(W37.heap.size, (.cells #[.int .i64 2, .int .i64 1, .slice (some ⟨W36.heap.size, 0, none⟩) 1 1] 93)), (W36.heap.size, (.cells #[.int .i64 0] 3)), (W35.heap.size, (.cells #[.slice none 0 0, .slice none 0 0, .slice none 0 0] 36)), (W0.heap.size, (.cells #[.slice none 0 0] 36)), (w.heap.size, (.cells #[.int .i64 0, .slice none 0 0, .slice none 0 0, .slice none 0 0] 25))]) (HL37.out.alloc _) (fun W38 hl => ?_)
   have HL38 := hid hl
   clear hl
   refine hK9.out _ _ ?_ (fun hHeld => ?_)
   ·exact trivial
   clear hK9 K9
   try simp only [Act.put, List.setIfInBounds_toArray, List.set_cons_zero, List.set_cons_succ]
   refine wpAnyH_take (i := 5) (v := ?v14) (by simp only [List.getElem?_toArray, List.getElem?_cons_zero, List.getElem?_cons_succ]; rfl) (by kernel_rfl) (by kernel_rfl) (by kernel_rfl) (fun _ _ _ h => h) (Or.inl ⟨by rfl, ?hy14⟩) (by assumption) ?rest14
   case hy14 => (intro w hSw; (try dsimp only at hSw); go_simp) <;> try with_reducible rfl
   simp only [Act.put, List.setIfInBounds_toArray, List.set_cons_zero, List.set_cons_succ]
   refine wpAnyH_ready (rs := [6]) (by kernel_rfl) (by simp) ?_
   refine AllReadyH.cons (by simp only [List.getElem?_toArray, List.getElem?_cons_zero, List.getElem?_cons_succ]; rfl) (fun K9 hK9 => ?_) ?_
   rotate_left
   exact AllReadyH.nil
   have t2 := (HL38.out.2 (w.heap.size, (.cells #[.int .i64 0, .slice none 0 0, .slice none 0 0, .slice none 0 0] 25)) (by simp)).2
   have p0 := frozen_of_row W38 _ 0 _ _ t2
   have p1 := frozen_of_row W38 _ 1 _ _ t2
   have p2 := frozen_of_row W38 _ 2 _ _ t2
   have p3 := frozen_of_row W38 _ 3 _ _ t2
   have q0 : W38.cell? ⟨w.heap.size, 0, none⟩ = some ((.int .i64 0)) := by rw [cell_of_row W38 _ 0 _ _ _ t2]; rfl
   have q1 : W38.cell? ⟨w.heap.size, 1, none⟩ = some ((.slice none 0 0)) := by rw [cell_of_row W38 _ 1 _ _ _ t2]; rfl
   have q2 : W38.cell? ⟨w.heap.size, 2, none⟩ = some ((.slice none 0 0)) := by rw [cell_of_row W38 _ 2 _ _ _ t2]; rfl
   have q3 : W38.cell? ⟨w.heap.size, 3, none⟩ = some ((.slice none 0 0)) := by rw [cell_of_row W38 _ 3 _ _ _ t2]; rfl
   go_simp
   refine hK9.out _ _ ?_ (fun hHeld => ?_)
   ·exact trivial
   clear hK9 K9
   try simp only [Act.put, List.setIfInBounds_toArray, List.set_cons_zero, List.set_cons_succ]
   refine wpAnyH_done (by kernel_rfl) (NoPanic.normal ?_) _
   have Ht2 := hid t2
   clear p0 p1 p2 p3 q0 q1 q2 q3 t2
   have hend := hid (small_end HL38.out.1 Ht2.out (HL38.out.2 (W35.heap.size, _) (by simp)).2 (HL38.out.2 (W36.heap.size, _) (by simp)).2 (HL38.out.2 (W37.heap.size, _) (by simp)).2 (HL38.out.2 (W0.heap.size, _) (by simp)).2)
   have j0 := heap_setCell_same _ w.heap.size 0 _ _ (.int .i64 3) Ht2.out
   have j1 := heap_setCell_same _ w.heap.size 1 _ _ (.slice (some ⟨W35.heap.size, 0, none⟩) 3 3) j0
   have j2 := heap_setCell_same _ w.heap.size 2 _ _ (.slice (some ⟨W37.heap.size, 0, none⟩) 1 1) j1
   have j3 := heap_setCell_same _ w.heap.size 3 _ _ (.slice (some ⟨W0.heap.size, 0, none⟩) 1 1) j2
   have o0 := cell_of_row _ _ 0 _ _ _ j3
   have o1 := cell_of_row _ _ 1 _ _ _ j3
   have o2 := cell_of_row _ _ 2 _ _ _ j3
   have o3 := cell_of_row _ _ 3 _ _ _ j3
   simp only [List.setIfInBounds_toArray, List.set_cons_zero, List.set_cons_succ, List.getElem?_toArray, List.getElem?_cons_zero, List.getElem?_cons_succ] at o0 o1 o2 o3
   generalize ((((W38.setCell ⟨w.heap.size, 0, none⟩ (.int .i64 3)).setCell ⟨w.heap.size, 1, none⟩ (.slice (some ⟨W35.heap.size, 0, none⟩) 3 3)).setCell ⟨w.heap.size, 2, none⟩ (.slice (some ⟨W37.heap.size, 0, none⟩) 1 1)).setCell ⟨w.heap.size, 3, none⟩ (.slice (some ⟨W0.heap.size, 0, none⟩) 1 1)) = wE at *
   clear j0 j1 j2 j3
   go_wp2
   refine bodyPost_ret (by simp [results, Tryz.results33, go_sem, o0, o1, o2, o3]; try rfl) rfl ?_
   exact Fin HQ hend.out
  ·skip
   go_simp
   refine kgen (fun W => Has w W [(W35.heap.size, (.cells #[.int .i64 0] 3)), (W0.heap.size, (.cells #[.slice none 0 0] 36)), (w.heap.size, (.cells #[.int .i64 0, .slice none 0 0, .slice none 0 0, .slice none 0 0] 25))]) (HL35.out.alloc _) (fun W40 hl => ?_)
   have HL40 := hid hl
   clear hl
   refine hK9.out _ _ ?_ (fun hHeld => ?_)
   ·exact trivial
   clear hK9 K9
   try simp only [Act.put, List.setIfInBounds_toArray, List.set_cons_zero, List.set_cons_succ]
   refine wpAnyH_take (i := 2) (v := ?v15) (by simp only [List.getElem?_toArray, List.getElem?_cons_zero, List.getElem?_cons_succ]; rfl) (by kernel_rfl) (by kernel_rfl) (by kernel_rfl) (fun _ _ _ h => h) (Or.inl ⟨by rfl, ?hy15⟩) (by assumption) ?rest15
   case hy15 => (intro w hSw; (try dsimp only at hSw); go_simp) <;> try with_reducible rfl
   simp only [Act.put, List.setIfInBounds_toArray, List.set_cons_zero, List.set_cons_succ]
   refine wpAnyH_ready (rs := [0, 3]) (by kernel_rfl) (by simp) ?_
   refine AllReadyH.cons (by simp only [List.getElem?_toArray, List.getElem?_cons_zero, List.getElem?_cons_succ]; rfl) (fun K9 hK9 => ?_) ?_
   rotate_left
   refine AllReadyH.cons (by simp only [List.getElem?_toArray, List.getElem?_cons_zero, List.getElem?_cons_succ]; rfl) (fun K9 hK9 => ?_) ?_
   rotate_left
   exact AllReadyH.nil
   ·skip
    go_simp
    refine kgen (fun W => Has w W [(W40.heap.size, (.cells #[.slice none 0 0, .slice none 0 0, .slice none 0 0] 36)), (W35.heap.size, (.cells #[.int .i64 0] 3)), (W0.heap.size, (.cells #[.slice none 0 0] 36)), (w.heap.size, (.cells #[.int .i64 0, .slice none 0 0, .slice none 0 0, .slice none 0 0] 25))]) (HL40.out.alloc _) (fun W41 hl => ?_)
    have HL41 := hid hl
    clear hl
    refine hK9.out _ _ ?_ (fun hHeld => ?_)
    ·exact trivial
    clear hK9 K9
    try simp only [Act.put, List.setIfInBounds_toArray, List.set_cons_zero, List.set_cons_succ]
    refine wpAnyH_ready (rs := [3]) (by kernel_rfl) (by simp) ?_
    refine AllReadyH.cons (by simp only [List.getElem?_toArray, List.getElem?_cons_zero, List.getElem?_cons_succ]; rfl) (fun K9 hK9 => ?_) ?_
    rotate_left
    exact AllReadyH.nil
    go_simp
    refine kgen (fun W => Has w W [(W41.heap.size, (.cells #[.int .i64 2, .int .i64 1, .slice (some ⟨W35.heap.size, 0, none⟩) 1 1] 93)), (W40.heap.size, (.cells #[.slice none 0 0, .slice none 0 0, .slice none 0 0] 36)), (W35.heap.size, (.cells #[.int .i64 0] 3)), (W0.heap.size, (.cells #[.slice none 0 0] 36)), (w.heap.size, (.cells #[.int .i64 0, .slice none 0 0, .slice none 0 0, .slice none 0 0] 25))]) (HL41.out.alloc _) (fun W42 hl => ?_)
    have HL42 := hid hl
    clear hl
    refine hK9.out _ _ ?_ (fun hHeld => ?_)
    ·exact trivial
    clear hK9 K9
    try simp only [Act.put, List.setIfInBounds_toArray, List.set_cons_zero, List.set_cons_succ]
    refine wpAnyH_take (i := 5) (v := ?v16) (by simp only [List.getElem?_toArray, List.getElem?_cons_zero, List.getElem?_cons_succ]; rfl) (by kernel_rfl) (by kernel_rfl) (by kernel_rfl) (fun _ _ _ h => h) (Or.inl ⟨by rfl, ?hy16⟩) (by assumption) ?rest16
    case hy16 => (intro w hSw; (try dsimp only at hSw); go_simp) <;> try with_reducible rfl
    simp only [Act.put, List.setIfInBounds_toArray, List.set_cons_zero, List.set_cons_succ]
    refine wpAnyH_ready (rs := [6]) (by kernel_rfl) (by simp) ?_
    refine AllReadyH.cons (by simp only [List.getElem?_toArray, List.getElem?_cons_zero, List.getElem?_cons_succ]; rfl) (fun K9 hK9 => ?_) ?_
    rotate_left
    exact AllReadyH.nil
    have t2 := (HL42.out.2 (w.heap.size, (.cells #[.int .i64 0, .slice none 0 0, .slice none 0 0, .slice none 0 0] 25)) (by simp)).2
    have p0 := frozen_of_row W42 _ 0 _ _ t2
    have p1 := frozen_of_row W42 _ 1 _ _ t2
    have p2 := frozen_of_row W42 _ 2 _ _ t2
    have p3 := frozen_of_row W42 _ 3 _ _ t2
    have q0 : W42.cell? ⟨w.heap.size, 0, none⟩ = some ((.int .i64 0)) := by rw [cell_of_row W42 _ 0 _ _ _ t2]; rfl
    have q1 : W42.cell? ⟨w.heap.size, 1, none⟩ = some ((.slice none 0 0)) := by rw [cell_of_row W42 _ 1 _ _ _ t2]; rfl
    have q2 : W42.cell? ⟨w.heap.size, 2, none⟩ = some ((.slice none 0 0)) := by rw [cell_of_row W42 _ 2 _ _ _ t2]; rfl
    have q3 : W42.cell? ⟨w.heap.size, 3, none⟩ = some ((.slice none 0 0)) := by rw [cell_of_row W42 _ 3 _ _ _ t2]; rfl
    go_simp
    refine hK9.out _ _ ?_ (fun hHeld => ?_)
    ·exact trivial
    clear hK9 K9
    try simp only [Act.put, List.setIfInBounds_toArray, List.set_cons_zero, List.set_cons_succ]
    refine wpAnyH_done (by kernel_rfl) (NoPanic.normal ?_) _
    have Ht2 := hid t2
    clear p0 p1 p2 p3 q0 q1 q2 q3 t2
    have hend := hid (small_end HL42.out.1 Ht2.out (HL42.out.2 (W40.heap.size, _) (by simp)).2 (HL42.out.2 (W35.heap.size, _) (by simp)).2 (HL42.out.2 (W41.heap.size, _) (by simp)).2 (HL42.out.2 (W0.heap.size, _) (by simp)).2)
    have j0 := heap_setCell_same _ w.heap.size 0 _ _ (.int .i64 3) Ht2.out
    have j1 := heap_setCell_same _ w.heap.size 1 _ _ (.slice (some ⟨W40.heap.size, 0, none⟩) 3 3) j0
    have j2 := heap_setCell_same _ w.heap.size 2 _ _ (.slice (some ⟨W41.heap.size, 0, none⟩) 1 1) j1
    have j3 := heap_setCell_same _ w.heap.size 3 _ _ (.slice (some ⟨W0.heap.size, 0, none⟩) 1 1) j2
    have o0 := cell_of_row _ _ 0 _ _ _ j3
    have o1 := cell_of_row _ _ 1 _ _ _ j3
    have o2 := cell_of_row _ _ 2 _ _ _ j3
    have o3 := cell_of_row _ _ 3 _ _ _ j3
    simp only [List.setIfInBounds_toArray, List.set_cons_zero, List.set_cons_succ, List.getElem?_toArray, List.getElem?_cons_zero, List.getElem?_cons_succ] at o0 o1 o2 o3
    generalize ((((W42.setCell ⟨w.heap.size, 0, none⟩ (.int .i64 3)).setCell ⟨w.heap.size, 1, none⟩ (.slice (some ⟨W40.heap.size, 0, none⟩) 3 3)).setCell ⟨w.heap.size, 2, none⟩ (.slice (some ⟨W41.heap.size, 0, none⟩) 1 1)).setCell ⟨w.heap.size, 3, none⟩ (.slice (some ⟨W0.heap.size, 0, none⟩) 1 1)) = wE at *
    clear j0 j1 j2 j3
    go_wp2
    refine bodyPost_ret (by simp [results, Tryz.results33, go_sem, o0, o1, o2, o3]; try rfl) rfl ?_
    exact Fin HQ hend.out
   ·skip
    go_simp
    refine kgen (fun W => Has w W [(W40.heap.size, (.cells #[.int .i64 2, .int .i64 1, .slice (some ⟨W35.heap.size, 0, none⟩) 1 1] 93)), (W35.heap.size, (.cells #[.int .i64 0] 3)), (W0.heap.size, (.cells #[.slice none 0 0] 36)), (w.heap.size, (.cells #[.int .i64 0, .slice none 0 0, .slice none 0 0, .slice none 0 0] 25))]) (HL40.out.alloc _) (fun W44 hl => ?_)
    have HL44 := hid hl
    clear hl
    refine hK9.out _ _ ?_ (fun hHeld => ?_)
    ·exact trivial
    clear hK9 K9
    try simp only [Act.put, List.setIfInBounds_toArray, List.set_cons_zero, List.set_cons_succ]
    refine wpAnyH_ready (rs := [0]) (by kernel_rfl) (by simp) ?_
    refine AllReadyH.cons (by simp only [List.getElem?_toArray, List.getElem?_cons_zero, List.getElem?_cons_succ]; rfl) (fun K9 hK9 => ?_) ?_
    rotate_left
    exact AllReadyH.nil
    go_simp
    refine kgen (fun W => Has w W [(W44.heap.size, (.cells #[.slice none 0 0, .slice none 0 0, .slice none 0 0] 36)), (W40.heap.size, (.cells #[.int .i64 2, .int .i64 1, .slice (some ⟨W35.heap.size, 0, none⟩) 1 1] 93)), (W35.heap.size, (.cells #[.int .i64 0] 3)), (W0.heap.size, (.cells #[.slice none 0 0] 36)), (w.heap.size, (.cells #[.int .i64 0, .slice none 0 0, .slice none 0 0, .slice none 0 0] 25))]) (HL44.out.alloc _) (fun W45 hl => ?_)
    have HL45 := hid hl
    clear hl
    refine hK9.out _ _ ?_ (fun hHeld => ?_)
    ·exact trivial
    clear hK9 K9
    try simp only [Act.put, List.setIfInBounds_toArray, List.set_cons_zero, List.set_cons_succ]
    refine wpAnyH_take (i := 5) (v := ?v17) (by simp only [List.getElem?_toArray, List.getElem?_cons_zero, List.getElem?_cons_succ]; rfl) (by kernel_rfl) (by kernel_rfl) (by kernel_rfl) (fun _ _ _ h => h) (Or.inl ⟨by rfl, ?hy17⟩) (by assumption) ?rest17
    case hy17 => (intro w hSw; (try dsimp only at hSw); go_simp) <;> try with_reducible rfl
    simp only [Act.put, List.setIfInBounds_toArray, List.set_cons_zero, List.set_cons_succ]
    refine wpAnyH_ready (rs := [6]) (by kernel_rfl) (by simp) ?_
    refine AllReadyH.cons (by simp only [List.getElem?_toArray, List.getElem?_cons_zero, List.getElem?_cons_succ]; rfl) (fun K9 hK9 => ?_) ?_
    rotate_left
    exact AllReadyH.nil
    have t2 := (HL45.out.2 (w.heap.size, (.cells #[.int .i64 0, .slice none 0 0, .slice none 0 0, .slice none 0 0] 25)) (by simp)).2
    have p0 := frozen_of_row W45 _ 0 _ _ t2
    have p1 := frozen_of_row W45 _ 1 _ _ t2
    have p2 := frozen_of_row W45 _ 2 _ _ t2
    have p3 := frozen_of_row W45 _ 3 _ _ t2
    have q0 : W45.cell? ⟨w.heap.size, 0, none⟩ = some ((.int .i64 0)) := by rw [cell_of_row W45 _ 0 _ _ _ t2]; rfl
    have q1 : W45.cell? ⟨w.heap.size, 1, none⟩ = some ((.slice none 0 0)) := by rw [cell_of_row W45 _ 1 _ _ _ t2]; rfl
    have q2 : W45.cell? ⟨w.heap.size, 2, none⟩ = some ((.slice none 0 0)) := by rw [cell_of_row W45 _ 2 _ _ _ t2]; rfl
    have q3 : W45.cell? ⟨w.heap.size, 3, none⟩ = some ((.slice none 0 0)) := by rw [cell_of_row W45 _ 3 _ _ _ t2]; rfl
    go_simp
    refine hK9.out _ _ ?_ (fun hHeld => ?_)
    ·exact trivial
    clear hK9 K9
    try simp only [Act.put, List.setIfInBounds_toArray, List.set_cons_zero, List.set_cons_succ]
    refine wpAnyH_done (by kernel_rfl) (NoPanic.normal ?_) _
    have Ht2 := hid t2
    clear p0 p1 p2 p3 q0 q1 q2 q3 t2
    have hend := hid (small_end HL45.out.1 Ht2.out (HL45.out.2 (W44.heap.size, _) (by simp)).2 (HL45.out.2 (W35.heap.size, _) (by simp)).2 (HL45.out.2 (W40.heap.size, _) (by simp)).2 (HL45.out.2 (W0.heap.size, _) (by simp)).2)
    have j0 := heap_setCell_same _ w.heap.size 0 _ _ (.int .i64 3) Ht2.out
    have j1 := heap_setCell_same _ w.heap.size 1 _ _ (.slice (some ⟨W44.heap.size, 0, none⟩) 3 3) j0
    have j2 := heap_setCell_same _ w.heap.size 2 _ _ (.slice (some ⟨W40.heap.size, 0, none⟩) 1 1) j1
    have j3 := heap_setCell_same _ w.heap.size 3 _ _ (.slice (some ⟨W0.heap.size, 0, none⟩) 1 1) j2
    have o0 := cell_of_row _ _ 0 _ _ _ j3
    have o1 := cell_of_row _ _ 1 _ _ _ j3
    have o2 := cell_of_row _ _ 2 _ _ _ j3
    have o3 := cell_of_row _ _ 3 _ _ _ j3
    simp only [List.setIfInBounds_toArray, List.set_cons_zero, List.set_cons_succ, List.getElem?_toArray, List.getElem?_cons_zero, List.getElem?_cons_succ] at o0 o1 o2 o3
    generalize ((((W45.setCell ⟨w.heap.size, 0, none⟩ (.int .i64 3)).setCell ⟨w.heap.size, 1, none⟩ (.slice (some ⟨W44.heap.size, 0, none⟩) 3 3)).setCell ⟨w.heap.size, 2, none⟩ (.slice (some ⟨W40.heap.size, 0, none⟩) 1 1)).setCell ⟨w.heap.size, 3, none⟩ (.slice (some ⟨W0.heap.size, 0, none⟩) 1 1)) = wE at *
    clear j0 j1 j2 j3
    go_wp2
    refine bodyPost_ret (by simp [results, Tryz.results33, go_sem, o0, o1, o2, o3]; try rfl) rfl ?_
    exact Fin HQ hend.out
end Go.Proofs.Lx
