/- Parts of the proof: Ib, Ic, In, Id. Contract of slices.Insert of one number, of slices.Delete of one, over ints that the call owns. -/
import Derived.Test.YtbidjiopnddldaaGreatP26
import Derived.Test.YtbidjiopnddldaaGreatP22
namespace Go.Proofs.Lx
open Go Go.RowKit Go.Proofs Go.Lib
set_option linter.unusedVariables false
set_option linter.unusedSimpArgs false
/-- Cells written one after the other. -/
def setL : Array Value → Nat → List Value → Array Value
 | cur, _, [] => cur
 | cur, o, v :: r => setL (cur.setIfInBounds o v) (o + 1) r
theorem heap_setCellsD (b : Nat) : ∀ (vs : List Value) (o : Nat) (w : World) (cur : Array Value) (e : TypeId), w.heap[b]? = some (.cells cur e (0, 0)) → (w.setCells b o vs).heap[b]? = some (.cells (setL cur o vs) e (0, 0))
 | [], _, _, _, _, h => h
 | v :: r, o, w, cur, e, h => heap_setCellsD b r (o + 1) _ _ e (heap_setCell_same w b o _ _ v h)
theorem heap_setCellsO (b : Nat) : ∀ (vs : List Value) (o : Nat) (w : World) (k : Nat), k ≠ b → (w.setCells b o vs).heap[k]? = w.heap[k]?
 | [], _, _, _, _ => rfl
 | v :: r, o, w, k, h => (heap_setCellsO b r (o + 1) _ k h).trans (heap_setCell_other _ _ _ _ h)
theorem setCells_rest (b : Nat) : ∀ (vs : List Value) (o : Nat) (w : World), (w.setCells b o vs).os = w.os ∧ (w.setCells b o vs).tape = w.tape ∧ (w.setCells b o vs).output = w.output ∧ (w.setCells b o vs).heap.size = w.heap.size
 | [], _, _ => ⟨rfl, rfl, rfl, rfl⟩
 | v :: r, o, w => by
  obtain ⟨h1, h2, h3, h4⟩ := setCells_rest b r (o + 1) (w.setCell ⟨b, o, none⟩ v)
  exact ⟨h1, h2, h3, h4.trans (by simp)⟩
theorem setL_toList : ∀ (vs : List Value) (o : Nat) (cur : Array Value), o + vs.length ≤ cur.size → (setL cur o vs).toList = cur.toList.take o ++ vs ++ cur.toList.drop (o + vs.length)
 | [], o, cur, _ => by simp [setL]
 | v :: r, o, cur, h => by
  rw [List.length_cons] at h
  show (setL (cur.setIfInBounds o v) (o + 1) r).toList = _
  rw [setL_toList r (o + 1) _ (by simp; omega)]
  simp only [Array.toList_setIfInBounds, List.length_cons]
  have ho : o < cur.toList.length := by rw [Array.length_toList]; omega
  have e1 : (cur.toList.set o v).take (o + 1) = cur.toList.take o ++ [v] := by
   rw [List.take_succ_eq_append_getElem (by rw [List.length_set]; exact ho), List.getElem_set_self, List.take_set_of_le (Nat.le_refl _)]
  have e2 : (cur.toList.set o v).drop (o + 1 + r.length) = cur.toList.drop (o + (r.length + 1)) := by
   rw [List.drop_set_of_lt (by omega)]
   congr 1; omega
  rw [e1, e2]
  simp
theorem setL_size : ∀ (vs : List Value) (o : Nat) (cur : Array Value), (setL cur o vs).size = cur.size
 | [], _, _ => rfl
 | v :: r, o, cur => by
  show (setL (cur.setIfInBounds o v) (o + 1) r).size = _
  rw [setL_size r, Array.size_setIfInBounds]
theorem grown_of_kept {w w' : World} {g : Nat} (h1 : w'.os = w.os) (h2 : w'.tape = w.tape) (h3 : w'.output = w.output) (h4 : w'.heap.size = w.heap.size) (h5 : ∀ k, k ≠ g → w'.heap[k]? = w.heap[k]?) : w.grownBy w' (some g) :=
 ⟨h1, h2, h3, by omega, fun k _ hne => h5 k fun e => hne (by rw [e])⟩
theorem one_int (xs : List Int) : ∀ u ∈ intsV xs, u.oneCell' = true := by
 intro u hu; obtain ⟨x, _, rfl⟩ := List.mem_map.1 hu; rfl
theorem insertI_any (w : World) (base : Nat) (v : Value) (xs : List Int) (i : Nat) (x : Int) (vb : Nat) (h : w.ownsRow base 3 1 v xs.length (intsV xs)) (hv : w.heap[vb]? = some (.cells #[.int .i64 x] 3 (0, 0))) (hne : v.ownBlock ≠ some vb) (hi : i ≤ xs.length) (hl : xs.length ≤ 100000) (hbase : base ≤ w.heap.size) :
  Calls Tryz.prog 42 #[v, .int .i64 (i : Int), .slice (some ⟨vb, 0, none⟩) 1 1] w (Ret fun r w' => w'.ownsRow base 3 1 r (xs.length + 1) (intsV (xs.take i ++ x :: xs.drop i)) ∧ w.grownBy w' v.ownBlock) := by
 have hvs : ∀ j (u : Value), [Value.int .i64 x][j]? = some u → w.cell? ⟨vb, 0 + j, none⟩ = some u := fun j u hj => by
  match j, hj with
  | 0, hj => simp at hj; subst hj; rw [cell_of_row w vb _ _ _ _ hv]; rfl
 have h1v : ∀ u ∈ [Value.int .i64 x], u.oneCell' = true := fun u hu => by simp at hu; subst hu; rfl
 rcases h.2 with ⟨rfl, h0⟩ | ⟨g, cap, cur, rfl, hb, hg, hc1, hc2, hc3, ht⟩
 ·have e0 : xs = [] := List.eq_nil_of_length_eq_zero h0
  subst e0
  obtain rfl : i = 0 := by simpa using hi
  have h9 := Any2.slices_Insert_int_end_grow Tryz.lays2n21 none 0 0 vb 0 1 1 [] [.int .i64 x] w (by omega) (by omega) (by omega) (by omega) rfl rfl (fun _ => rfl) (fun a e => by cases e) hvs h1v
  rw [show Tryz.lays2n21_ren.t 3 = 3 from rfl] at h9
  refine h9.mono ?_
  rintro e w' ⟨rfl, rfl⟩
  refine ⟨_, rfl, ?_, ⟨rfl, rfl, rfl, (ext_alloc w.drew _).size, fun k hk _ => Below.heap_alloc w.drew _ k hk⟩⟩
  refine ⟨by simp [intsV], .inr ⟨w.heap.size, _, _, rfl, hbase, heap_alloc_new w.drew _, grownCap_ge _ _ _ _, grownCap_le_maxLen _ _ _ _ (by unfold maxLen; omega), ?_, ?_⟩⟩
  ·have := grownCap_ge w (0 + 1) 0 3
   have h8 := grownCap_ge w 1 0 3
   simp [Builtin.zeroCells, Value.cells]
   omega
  ·simp [intsV]
 ·rw [Nat.mul_one] at ht hc3
  have hgl := lt_of_block hg
  have hgv : vb ≠ g := fun e => hne (by rw [e]; rfl)
  have hcl : cur.toList.length = cap := by rw [Array.length_toList]; exact hc3
  have hcs : ∀ j (u : Value), (intsV xs)[j]? = some u → w.cell? ⟨g, 0 + j, none⟩ = some u := fun j u hj => by
   rw [Nat.zero_add, cell_of_row w g j _ _ _ hg]
   rw [← ht, List.getElem?_take] at hj
   split at hj
   ·rw [← Array.getElem?_toList]; exact hj
   ·cases hj
  have hsome : ∀ j, j < cap → (w.cell? ⟨g, 0 + j, none⟩).isSome = true := fun j hj => by
   rw [Nat.zero_add, cell_of_row w g j _ _ _ hg]; simp [hc3, hj]
  have hfz : ∀ j, w.frozen? ⟨g, 0 + j, none⟩ = false := fun j => frozen_of_row w g _ _ _ hg
  by_cases hroom : xs.length + 1 ≤ cap
  ·by_cases hin : i = xs.length
   ·subst hin
    have h9 := Any2.slices_Insert_int_end_room Tryz.lays2n21 g 0 xs.length cap vb 0 1 1 [.int .i64 x] w (by omega) hroom (by unfold maxLen at hc2; omega) rfl (fun j hj => by have := hsome (xs.length + j) (by omega); rw [Nat.zero_add] at this ⊢; exact this) (fun j _ => by have := hfz (xs.length + j); rw [Nat.zero_add] at this ⊢; exact this) hvs h1v
    refine h9.mono ?_
    rintro e w' ⟨rfl, rfl⟩
    rw [Nat.zero_add]
    obtain ⟨k1, k2, k3, k4⟩ := setCells_rest g [.int .i64 x] xs.length w
    refine ⟨_, rfl, ⟨by simp [intsV], .inr ⟨g, cap, _, rfl, hb, heap_setCellsD g _ _ _ _ _ hg, hroom, hc2, by rw [setL_size, Nat.mul_one]; exact hc3, ?_⟩⟩, grown_of_kept k1 k2 k3 k4 fun k hk => heap_setCellsO g _ _ _ k hk⟩
    rw [setL_toList _ _ _ (by simp; omega), Nat.mul_one, ht]
    have e4 : intsV (xs.take xs.length ++ x :: xs.drop xs.length) = intsV xs ++ [.int .i64 x] := by simp [intsV]
    rw [e4]
    exact List.take_left' (by simp [intsV])
   ·have hlt : i < xs.length := by omega
    have h9 := Any2.slices_Insert_int_shift Tryz.lays2n21 g 0 xs.length cap i vb 0 1 1 (intsV xs) [.int .i64 x] w hlt (by omega) hroom (by unfold maxLen at hc2; omega) hgv (by simp [intsV]) rfl hcs (fun j hj => hsome j (by omega)) (fun j _ => hfz j) hvs (one_int xs) h1v 3 3 1 cap (by simp [World.shape?, hv]) (by simp [World.shape?, hg, hc3]) (by omega) (frozen_of_row w vb _ _ _ hv) (frozen_of_row w vb _ _ _ hv)
    refine h9.mono ?_
    rintro e w' ⟨rfl, rfl⟩
    obtain ⟨k1, k2, k3, k4⟩ := setCells_rest g ((intsV xs).drop i) (0 + (i + 1)) w.drew
    obtain ⟨m1, m2, m3, m4⟩ := setCells_rest g [.int .i64 x] (0 + i) (w.drew.setCells g (0 + (i + 1)) ((intsV xs).drop i))
    have hA := heap_setCellsD g ((intsV xs).drop i) (0 + (i + 1)) w.drew cur _ hg
    have hB := heap_setCellsD g [.int .i64 x] (0 + i) _ _ _ hA
    have hil : (intsV xs).length = xs.length := by simp [intsV]
    refine ⟨_, rfl, ⟨by simp [intsV]; omega, .inr ⟨g, cap, _, rfl, hb, hB, hroom, hc2, by rw [setL_size, setL_size, Nat.mul_one]; exact hc3, ?_⟩⟩, grown_of_kept (m1.trans k1) (m2.trans k2) (m3.trans k3) (m4.trans k4) fun k hk => (heap_setCellsO g _ _ _ k hk).trans (heap_setCellsO g _ _ _ k hk)⟩
    rw [setL_toList _ _ _ (by rw [setL_size, hc3]; simp; omega), setL_toList _ _ _ (by rw [hc3, List.length_drop, hil]; omega), Nat.mul_one, Nat.zero_add, Nat.zero_add]
    have e1 : cur.toList.take i = (intsV xs).take i := by rw [← ht, List.take_take]; congr 1; omega
    have e2 : ((cur.toList.take (i + 1) ++ (intsV xs).drop i ++ cur.toList.drop (i + 1 + ((intsV xs).drop i).length)).take i) = (intsV xs).take i := by
     rw [List.append_assoc, List.take_append_of_le_length (by rw [List.length_take, hcl]; omega), List.take_take, show min i (i + 1) = i by omega, e1]
    have e3 : (cur.toList.take (i + 1) ++ (intsV xs).drop i ++ cur.toList.drop (i + 1 + ((intsV xs).drop i).length)).drop (i + 1) = (intsV xs).drop i ++ cur.toList.drop (i + 1 + ((intsV xs).drop i).length) := by
     rw [List.append_assoc, List.drop_append_of_le_length (by rw [List.length_take, hcl]; omega), List.drop_eq_nil_of_le (by rw [List.length_take, hcl]; omega), List.nil_append]
    simp only [List.length_singleton]
    rw [e2, e3]
    have e4 : intsV (xs.take i ++ x :: xs.drop i) = (intsV xs).take i ++ [.int .i64 x] ++ (intsV xs).drop i := by simp [intsV]
    rw [e4, ← List.append_assoc]
    exact List.take_left' (by simp [intsV]; omega)
  ·by_cases hin : i = xs.length
   ·subst hin
    have h9 := Any2.slices_Insert_int_end_grow Tryz.lays2n21 (some ⟨g, 0, none⟩) xs.length cap vb 0 1 1 (intsV xs) [.int .i64 x] w (by omega) hc1 (by omega) (by omega) (by simp [intsV]) rfl (fun e => by cases e) (fun a e j u hj => by cases e; have := hcs j u hj; rw [Nat.zero_add] at this; rw [add_plain]; exact this) hvs h1v
    rw [show Tryz.lays2n21_ren.t 3 = 3 from rfl] at h9
    refine h9.mono ?_
    rintro e w' ⟨rfl, rfl⟩
    refine ⟨_, rfl, ?_, ⟨rfl, rfl, rfl, (ext_alloc w.drew _).size, fun k hk _ => Below.heap_alloc w.drew _ k hk⟩⟩
    have hcap := grownCap_ge w (xs.length + 1) cap 3
    refine ⟨by simp [intsV], .inr ⟨w.heap.size, _, _, rfl, hbase, heap_alloc_new w.drew _, hcap, grownCap_le_maxLen _ _ _ _ (by unfold maxLen; omega), ?_, ?_⟩⟩
    ·simp [Builtin.zeroCells, Value.cells, intsV]
     omega
    ·simp only [Array.toList_append, List.toList_toArray, Nat.mul_one]
     have e4 : intsV (xs.take xs.length ++ x :: xs.drop xs.length) = intsV xs ++ [.int .i64 x] := by simp [intsV]
     rw [e4]
     exact List.take_left' (by simp [intsV])
   ·have hlt : i < xs.length := by omega
    have h9 := Any2.slices_Insert_int_grow Tryz.lays2n21 g 0 xs.length cap i vb 0 1 1 (intsV xs) [.int .i64 x] w hlt (by omega) hc1 (by omega) (by omega) (by simp [intsV]) rfl hcs hvs (one_int xs) h1v
    rw [show Tryz.lays2n21_ren.t 3 = 3 from rfl] at h9
    refine h9.mono ?_
    rintro e w' ⟨rfl, rfl⟩
    have hcap := grownCap_ge w (xs.length + 1) cap 3
    have hcm := grownCap_le_maxLen w (xs.length + 1) cap 3 (by unfold maxLen; omega)
    have hil : (intsV xs).length = xs.length := by simp [intsV]
    generalize hC : grownCap w (xs.length + 1) cap 3 = cp at *
    generalize hZ : (((intsV xs).take i).toArray ++ Builtin.zeroCells (Value.int .i64 0).cells (xs.length + 1 - i) ++ Builtin.zeroCells (Value.int .i64 0).cells (cp - (xs.length + 1))) = Z at *
    have hZs : Z.size = cp := by
     rw [← hZ]; simp [Builtin.zeroCells, Value.cells, intsV]; omega
    have hZl : Z.toList.length = cp := by rw [Array.length_toList]; exact hZs
    have hZt : Z.toList.take i = (intsV xs).take i := by
     rw [← hZ]
     simp only [Array.toList_append, List.toList_toArray, List.append_assoc]
     exact List.take_left' (by rw [List.length_take, hil]; omega)
    have h0 := heap_alloc_new w (.cells Z 3)
    have hA := heap_setCellsD w.heap.size [.int .i64 x] i (w.alloc (.cells Z 3)).drew Z _ h0
    have hB := heap_setCellsD w.heap.size ((intsV xs).drop i) (i + 1) (((w.alloc (.cells Z 3)).drew.setCells w.heap.size i [.int .i64 x]).drew) _ _ hA
    obtain ⟨k1, k2, k3, k4⟩ := setCells_rest w.heap.size [.int .i64 x] i (w.alloc (.cells Z 3)).drew
    obtain ⟨m1, m2, m3, m4⟩ := setCells_rest w.heap.size ((intsV xs).drop i) (i + 1) (((w.alloc (.cells Z 3)).drew.setCells w.heap.size i [.int .i64 x]).drew)
    have hsz : w.heap.size ≤ (w.alloc (.cells Z 3)).heap.size := (ext_alloc w _).size
    refine ⟨_, rfl, ⟨by simp [intsV]; omega, .inr ⟨w.heap.size, cp, _, rfl, hbase, hB, hcap, hcm, by rw [setL_size, setL_size, Nat.mul_one]; exact hZs, ?_⟩⟩, ⟨m1.trans k1, m2.trans k2, m3.trans k3, Nat.le_trans hsz (Nat.le_of_eq (m4.trans k4).symm), fun k hk _ => (heap_setCellsO _ _ _ _ k (by omega)).trans ((heap_setCellsO _ _ _ _ k (by omega)).trans (Below.heap_alloc w _ k hk))⟩⟩
    rw [setL_toList _ _ _ (by rw [setL_size, hZs, List.length_drop, hil]; omega), setL_toList _ _ _ (by rw [hZs]; simp; omega), Nat.mul_one]
    have e5 : (Z.toList.take i ++ [Value.int .i64 x] ++ Z.toList.drop (i + [Value.int .i64 x].length)).take (i + 1) = (intsV xs).take i ++ [.int .i64 x] := by
     rw [hZt]
     exact List.take_left' (by rw [List.length_append, List.length_take, hil]; simp; omega)
    rw [e5]
    have e4 : intsV (xs.take i ++ x :: xs.drop i) = (intsV xs).take i ++ [.int .i64 x] ++ (intsV xs).drop i := by simp [intsV]
    rw [e4]
    exact List.take_left' (by simp [intsV]; omega)
/-- One number less. -/
theorem deleteI_any (w : World) (base : Nat) (v : Value) (xs : List Int) (i : Nat) (h : w.ownsRow base 3 1 v xs.length (intsV xs)) (hi : i < xs.length) (hl : xs.length ≤ 100000) :
  Calls Tryz.prog 45 #[v, .int .i64 (i : Int), .int .i64 ((i : Int) + 1)] w (Ret fun r w' => w'.ownsRow base 3 1 r (xs.length - 1) (intsV (xs.take i ++ xs.drop (i + 1))) ∧ w.grownBy w' v.ownBlock) := by
 rcases h.2 with ⟨rfl, h0⟩ | ⟨g, cap, cur, rfl, hb, hg, hc1, hc2, hc3, ht⟩
 ·omega
 ·rw [Nat.mul_one] at ht hc3
  have hcl : cur.toList.length = cap := by rw [Array.length_toList]; exact hc3
  have hc : ∀ j, j < xs.length → w.cell? ⟨g, 0 + j, none⟩ = some (.int .i64 (xs.getD j 0)) := fun j hj => by
   rw [Nat.zero_add, h.cellAt j (by omega)]
   simp [hj]
  have h9 := Any.slices_Delete_int_cells Tryz.lays2n23 g 0 xs.length cap i (i + 1) xs w (Nat.le_refl _) hc1 (by unfold maxLen at hc2; omega) (by omega) (by omega) hc (fun j _ => frozen_of_row w g _ _ _ hg)
  have hcast : ((i + 1 : Nat) : Int) = (i : Int) + 1 := by omega
  rw [hcast] at h9
  refine h9.mono ?_
  rintro e w' ⟨rfl, q, rfl⟩
  have hn : xs.length - (i + 1 - i) = xs.length - 1 := by omega
  rw [hn]
  generalize hZ : ((((xs.take xs.length).take i ++ (xs.take xs.length).drop (i + 1) ++ List.replicate (i + 1 - i) 0).map (Value.int .i64)) : List Value) = Z at *
  have hZl : Z.length = xs.length := by rw [← hZ]; simp; omega
  have hg2 : (w.drewN q).heap[g]? = some (.cells cur 3 (0, 0)) := ((ext_drewN w q).block g (lt_of_block hg)).trans hg
  have hA := heap_setCellsD g Z 0 (w.drewN q) cur _ hg2
  obtain ⟨k1, k2, k3, k4⟩ := setCells_rest g Z 0 (w.drewN q)
  have hd := ext_drewN w q
  refine ⟨_, rfl, ⟨by simp [intsV]; omega, .inr ⟨g, cap, _, rfl, hb, hA, by omega, hc2, by rw [setL_size, Nat.mul_one]; exact hc3, ?_⟩⟩, ⟨k1.trans hd.os, k2.trans hd.tape, k3.trans hd.output, Nat.le_trans hd.size (Nat.le_of_eq k4.symm), fun k hk hne => (heap_setCellsO g _ _ _ k (fun e => hne (by rw [e]; rfl))).trans (hd.block k hk)⟩⟩
  rw [setL_toList _ _ _ (by rw [hc3, hZl]; omega), Nat.mul_one, List.take_zero, List.nil_append]
  have e4 : Z = intsV (xs.take i ++ xs.drop (i + 1)) ++ [.int .i64 0] := by rw [← hZ]; simp [intsV, show i + 1 - i = 1 by omega]
  rw [e4, List.append_assoc]
  exact List.take_left' (by simp [intsV]; omega)
end Go.Proofs.Lx

namespace Go.Proofs.Lx
open Go Go.RowKit Go.Proofs.Tj
set_option linter.unusedVariables false
set_option linter.unusedSimpArgs false
/-- An engine has turned to other facts: what is told, the engine, all else. -/
def Turn (w w' : World) (x : Nat) (vM : Value) (T : Th) (G F o : List Int) (Ft : Nat → Prop) (v : Value) : Prop :=
 w'.ownsRow w.heap.size 60 3 v (chL (solveM T G) (solveM T F) (coneL T o)).length (chV (chL (solveM T G) (solveM T F) (coneL T o))) ∧
  EngD w' x vM T F (solveM T F) (coneL T o) (fun g => Ft g ∨ (w.heap.size ≤ g ∧ g < w'.heap.size)) ∧ Alt x vM w w'
theorem EngD.more {w : World} {x : Nat} {vM : Value} {T : Th} {F : List Int} {M : List Nat} {U : List Int} {Ft Ft2 : Nat → Prop} (h : EngD w x vM T F M U Ft) (h1 : ∀ g, Ft g → Ft2 g) (h2 : ∀ g, Ft2 g → g < w.heap.size) : EngD w x vM T F M U Ft2 := by
 obtain ⟨vF, vR, vB, vFa, vTo, k1, k2⟩ := h.ex
 exact ⟨⟨vF, vR, vB, vFa, vTo, k1, fun W hW => k2 W fun g hg => hW g (h1 g hg)⟩, h.own, h2, h1 _ h.fx, fun g hg => ⟨h1 _ (h.fm g hg).1, (h.fm g hg).2⟩, h.sm⟩
/-- Behind some steps that leave all as it was. -/
theorem turn_after {w w2 w' : World} {x bF : Nat} {vM vF v : Value} {T : Th} {G F o U : List Int} {Ft : Nat → Prop} (h0 : EngD w x vM T G (solveM T G) U Ft) (hb : Below w.heap.size w w2) (hF : w2.ownsRow w.heap.size 3 1 vF F.length (intsV F))
  (h : w'.ownsRow w2.heap.size 60 3 v (chL (solveM T G) (solveM T F) (coneL T o)).length (chV (chL (solveM T G) (solveM T F) (coneL T o))) ∧
   EngD w' x vM T F (solveM T F) (coneL T o) (fun g => Ft g ∨ vF.ownBlock = some g ∨ (w2.heap.size ≤ g ∧ g < w'.heap.size)) ∧ Alt x vM w2 w') : Turn w w' x vM T G F o Ft v := by
 obtain ⟨k1, k2, k3⟩ := h
 have hs := hb.size
 have hs3 := k3.sz
 refine ⟨own_lower k1 hs, k2.more (fun g hg => ?_) (fun g hg => ?_), ⟨k3.os.trans hb.os, k3.tape.trans hb.tape, k3.output.trans hb.output, by omega, fun k h1 h2 h3 => (k3.old k (by omega) h2 h3).trans (hb.block k h1)⟩⟩
 ·rcases hg with h9 | h9 | h9
  ·exact .inl h9
  ·have := hF.lt g h9; exact .inr (by omega)
  ·exact .inr (by omega)
 ·rcases hg with h9 | h9
  ·have := h0.ft g h9; omega
  ·exact h9.2
/-- A number more in a rising list; one less. -/
def addL (G : List Int) (q : Int) : List Int := G.take (ltCount G q) ++ q :: G.drop (ltCount G q)
def dropL (G : List Int) (q : Int) : List Int := G.take (ltCount G q) ++ G.drop (ltCount G q + 1)
theorem lt_split {q : Int} : ∀ {l : List Int}, l.Pairwise (· < ·) → (∀ x ∈ l.take (ltCount l q), x < q) ∧ (∀ x ∈ l.drop (ltCount l q), q ≤ x)
 | [], _ => by simp [ltCount]
 | a :: l, h => by
  obtain ⟨h1, h2⟩ := List.pairwise_cons.1 h
  obtain ⟨k1, k2⟩ := lt_split (q := q) h2
  unfold ltCount at k1 k2 ⊢
  by_cases ha : a < q
  ·rw [List.countP_cons_of_pos (by simpa using ha)]
   refine ⟨fun x hx => ?_, fun x hx => ?_⟩
   ·rw [List.take_succ_cons] at hx
    rcases List.mem_cons.1 hx with rfl | hx
    ·exact ha
    ·exact k1 x hx
   ·rw [List.drop_succ_cons] at hx
    exact k2 x hx
  ·have h0 : l.countP (fun x => decide (x < q)) = 0 := List.countP_eq_zero.2 fun x hx => by have := h1 x hx; simp; omega
   rw [List.countP_cons_of_neg (by simpa using ha), h0]
   refine ⟨fun x hx => by simp at hx, fun x hx => ?_⟩
   simp only [List.drop_zero] at hx
   rcases List.mem_cons.1 hx with rfl | hx
   ·omega
   ·have := h1 x hx; omega
theorem lt_le (G : List Int) (q : Int) : ltCount G q ≤ G.length := List.countP_le_length
theorem add_ris {G : List Int} {n q : Int} (hG : risB G n = true) (hq : 0 ≤ q ∧ q < n) (hn : q ∉ G) : risB (addL G q) n = true := by
 obtain ⟨k1, k2⟩ := lt_split (q := q) (risB_spec hG).2
 refine ris_put hG hq k1 fun x hx => ?_
 have h1 := k2 x hx
 have : x ≠ q := fun e => hn (e ▸ List.mem_of_mem_drop hx)
 omega
theorem mem_add {G : List Int} {q x : Int} : x ∈ addL G q ↔ x = q ∨ x ∈ G := mem_put
theorem drop_at {G : List Int} {n q : Int} (hG : risB G n = true) (hq : q ∈ G) : ∃ h : ltCount G q < G.length, G[ltCount G q] = q := by
 obtain ⟨k1, k2⟩ := lt_split (q := q) (risB_spec hG).2
 rw [← List.take_append_drop (ltCount G q) G, List.mem_append] at hq
 rcases hq with hq | hq
 ·have := k1 q hq; omega
 ·obtain ⟨j, hj, e⟩ := List.getElem_of_mem hq
  rw [List.length_drop] at hj
  have hl : ltCount G q < G.length := by omega
  refine ⟨hl, ?_⟩
  rw [List.getElem_drop] at e
  have h0 : q ≤ G[ltCount G q] := k2 _ (by
   rw [List.mem_iff_getElem]
   exact ⟨0, by rw [List.length_drop]; omega, by rw [List.getElem_drop]; simp⟩)
  rcases Nat.eq_zero_or_pos j with rfl | hj0
  ·simpa using e
  ·have := pw_lt (risB_spec hG).2 (i := ltCount G q) (j := ltCount G q + j) (by omega) (by omega)
   omega
theorem drop_ris {G : List Int} {n q : Int} (hG : risB G n = true) : risB (dropL G q) n = true := ris_cut hG
theorem mem_drop {G : List Int} {n q x : Int} (hG : risB G n = true) (hq : q ∈ G) : x ∈ dropL G q ↔ x ∈ G ∧ x ≠ q := by
 obtain ⟨h1, h2⟩ := drop_at hG hq
 exact mem_cut hG h1 h2
theorem addL_len (G : List Int) (q : Int) : (addL G q).length = G.length + 1 := by
 have := lt_le G q
 simp [addL]; omega
set_option maxRecDepth 100000 in
set_option maxHeartbeats 3200000 in
theorem addD_arg (w : World) (x : Nat) (vM : Value) (T : Th) (G : List Int) (M : List Nat) (U : List Int) (Ft : Nat → Prop) (h : EngD w x vM T G M U Ft) (q : Int) (hq : q < 0 ∨ T.lits ≤ q) :
  Calls Tryz.prog 14 #[.pointer (some ⟨x, 0, none⟩), .int .i64 q] w (Ret fun r w' => r = .tuple #[.slice none 0 0, .int .i64 1] ∧ w = w') := by
 obtain ⟨vF, vR, vB, vFa, vTo, ⟨c0, c1, c2, c3, c4, c5, c6, c7⟩, _⟩ := h.cells
 have Hu := hid (unmade_any w x c0)
 clear h
 refine post_gen fun Q HQ => ?_
 by_cases h0 : q < 0
 ·go_enter Tryz.func14, Tryz.ntmps14
  go_wp2_with (go_at_call 38; refine Hu.out.mono ?_; rintro e w1 ⟨_, rfl, rfl, rfl⟩)
  go_ret2
  exact Fin HQ ⟨rfl, rfl⟩
 ·have h1 : T.lits ≤ q := by omega
  go_enter Tryz.func14, Tryz.ntmps14
  go_wp2_with (go_at_call 38; refine Hu.out.mono ?_; rintro e w1 ⟨_, rfl, rfl, rfl⟩)
  go_ret2
  exact Fin HQ ⟨rfl, rfl⟩
set_option maxRecDepth 100000 in
set_option maxHeartbeats 3200000 in
theorem addD_fact (w : World) (x : Nat) (vM : Value) (T : Th) (G : List Int) (M : List Nat) (U : List Int) (Ft : Nat → Prop) (h : EngD w x vM T G M U Ft) (hG : risB G T.lits = true) (q : Int) (hq0 : 0 ≤ q) (hq1 : q < T.lits) (hm : q ∈ G) :
  Calls Tryz.prog 14 #[.pointer (some ⟨x, 0, none⟩), .int .i64 q] w (Ret fun r w' => r = .tuple #[.slice none 0 0, .int .i64 181] ∧ w = w') := by
 obtain ⟨vF, vR, vB, vFa, vTo, ⟨c0, c1, c2, c3, c4, c5, c6, c7⟩, _, hF, _⟩ := h.cells
 have Hu := hid (unmade_any w x c0)
 have Hb := hid (binarySearch_any w vFa G q hF (risB_spec hG).2)
 rw [memB_true.2 hm] at Hb
 have h1 : ¬ T.lits ≤ q := by omega
 have h0 : ¬ q < 0 := by omega
 clear h hG hm hF
 refine post_gen fun Q HQ => ?_
 go_enter Tryz.func14, Tryz.ntmps14
 go_wp2_with (first | (go_at_call 38; refine Hu.out.mono ?_; rintro e w1 ⟨_, rfl, rfl, rfl⟩) | (go_at_call 40; refine Hb.out.mono ?_; rintro e w1 ⟨_, rfl, rfl, hE⟩; have hE := hE.symm; subst hE))
 go_ret2
 exact Fin HQ ⟨rfl, rfl⟩
set_option maxRecDepth 100000 in
set_option maxHeartbeats 3200000 in
theorem addD_ok (w : World) (x : Nat) (vM : Value) (T : Th) (G U : List Int) (Ft : Nat → Prop) (h : EngD w x vM T G (solveM T G) U Ft) (hwf : WfTh T) (hG : risB G T.lits = true) (q : Int) (hq0 : 0 ≤ q) (hq1 : q < T.lits) (hm : q ∉ G) :
  Calls Tryz.prog 14 #[.pointer (some ⟨x, 0, none⟩), .int .i64 q] w (Ret fun r w' => ∃ v, r = .tuple #[v, .int .i64 0] ∧ Turn w w' x vM T G (addL G q) [q] Ft v) := by
 obtain ⟨vF, vR, vB, vFa, vTo, ⟨c0, c1, c2, c3, c4, c5, c6, c7⟩, _, hF, _⟩ := h.cells
 have Hu := hid (unmade_any w x c0)
 have Hb := hid (binarySearch_any w vFa G q hF (risB_spec hG).2)
 rw [memB_false.2 hm] at Hb
 have hGl : G.length ≤ 4096 := h.sm.2.1
 have Hc := hid (cloneI_any w vFa G hF (by omega))
 have h1 : ¬ T.lits ≤ q := by omega
 have h0 : ¬ q < 0 := by omega
 have hlt := lt_le G q
 have H := hid h
 have HG := hid hG
 have Hwf := hid hwf
 have Hm := hid hm
 have hfl := hwf.fl
 clear h hG hm hF hwf
 generalize hk : ltCount G q = k at *
 have Hk := hid hk
 clear hk
 refine post_gen fun Q HQ => ?_
 go_enter Tryz.func14, Tryz.ntmps14
 go_wp2_with (first | (go_at_call 38; refine Hu.out.mono ?_; rintro e w1 ⟨_, rfl, rfl, rfl⟩) | (go_at_call 40; refine Hb.out.mono ?_; rintro e w1 ⟨_, rfl, rfl, hE⟩; have hE := hE.symm; subst hE))
 refine Hc.out.mono ?_
 rintro e w1 ⟨v1, rfl, hown1, hb1⟩
 have Hown1 := hid hown1
 have Hb1 := hid hb1
 have hs1 := hb1.size
 clear hown1 hb1 Hc Hu Hb c0 c1 c2 c3 c4 c5 c6 c7
 obtain ⟨A1, cc1, rfl⟩ : ∃ A c, v1 = .slice A G.length c := own_form0 Hown1.out
 have hne : (Value.slice A1 G.length cc1).ownBlock ≠ some w1.heap.size := fun e => absurd (Hown1.out.lt _ e).2 (Nat.lt_irrefl _)
 have Hin := hid (insertI_any (w1.alloc (.cells #[.int .i64 q] 3)) w.heap.size _ G k q w1.heap.size (own_ext Hown1.out (ext_alloc _ _)) (heap_alloc_new w1 _) hne hlt (by omega) (Nat.le_trans hs1 (ext_alloc _ _).size))
 go_wp2_with fail
 refine Hin.out.mono ?_
 rintro e w2 ⟨v2, rfl, hown2, hg2⟩
 have hb2 : Below w.heap.size w w2 := below_grown (Hb1.out.alloc hs1 _) (Nat.le_trans hs1 (ext_alloc _ _).size) hg2 (fun g hg => (Hown1.out.lt g hg).1)
 have hFe : G.take k ++ q :: G.drop k = addL G q := by unfold addL; rw [Hk.out]
 rw [hFe] at hown2
 have hFl := addL_len G q
 have Hown2 := hid hown2
 have Hb2 := hid hb2
 have hs2 := hb2.size
 obtain ⟨A2, cc2, rfl⟩ : ∃ A c, v2 = .slice A (G.length + 1) c := own_form0 hown2
 clear hown2 hb2 hg2 Hin hne
 have hb3 : Below w.heap.size w (w2.alloc (.cells #[.int .i64 q] 3)) := Hb2.out.alloc hs2 _
 have Hb3 := hid hb3
 have hF3 : (w2.alloc (.cells #[.int .i64 q] 3)).ownsRow w.heap.size 3 1 (.slice A2 (G.length + 1) cc2) (addL G q).length (intsV (addL G q)) := by rw [hFl]; exact own_ext Hown2.out (ext_alloc _ _)
 have HF3 := hid hF3
 have hto : RdI (w2.alloc (.cells #[.int .i64 q] 3)) (.slice (some ⟨w2.heap.size, 0, none⟩) 1 1) [q] := own_rdI (World.ownsRow_lit w2 #[.int .i64 q] 1 (Nat.le_refl _) (by unfold maxLen; omega) rfl) (by simp)
 have Hbec := hid (becomeD_any (w2.alloc (.cells #[.int .i64 q] 3)) x vM (.slice A2 (G.length + 1) cc2) (.slice (some ⟨w2.heap.size, 0, none⟩) 1 1) T G (addL G q) [q] U Ft (H.out.ext hb3) Hwf.out (add_ris HG.out ⟨hq0, hq1⟩ Hm.out) w.heap.size hF3 hto (fun y hy => by simp at hy; subst hy; omega) (odd_one fun y hy => by rw [mem_add]; simp [hy]))
 clear hb3 hF3 hto
 go_wp2_with fail
 refine Hbec.out.mono ?_
 rintro e w4 ⟨v4, rfl, hpost⟩
 have Hpost := hid hpost
 clear hpost Hbec
 go_wp2_with fail
 go_ret2
 exact Fin HQ ⟨_, rfl, turn_after (bF := 0) H.out Hb3.out HF3.out Hpost.out⟩
end Go.Proofs.Lx

namespace Go.Proofs.Lx
open Go Go.RowKit Go.Proofs.Tj
set_option linter.unusedSimpArgs false
set_option linter.unusedVariables false
def exS : Th := ⟨3, [[], [], []], [⟨2, 1, [0]⟩], [[]]⟩
theorem exS_edge {y z : Nat} (h : z ∈ adjN (beatsAt exS) y) : False := by
 match y with
 | 0 => simp [adjN, beatsAt, exS] at h
 | y + 1 => simp [adjN, beatsAt, exS] at h
theorem exS_leads {x y : Nat} (h : Leads (adjN (beatsAt exS)) x y) : x = y := by
 induction h with
 | refl => rfl
 | step _ hz ih => exact (exS_edge hz).elim
theorem exS_wf : WfTh exS := by
 refine ⟨by decide, by decide, by decide, by decide +kernel, by decide, ?_, by decide +kernel, by decide, by decide +kernel, fun x y _ _ h1 h2 => exS_leads h1⟩
 exact List.all_eq_true.1 (by decide +kernel)
theorem exS_solve0 : solveM exS [] = [10, 10, 10] := by
 rw [← solve_eq (k := 6) (by decide +kernel) (by decide)]
 decide +kernel
theorem exS_solve1 : solveM exS [0] = [5, 6, 10] := by
 rw [← solve_eq (k := 6) (by decide +kernel) (by decide)]
 decide +kernel
theorem exS_in {q : Nat} (h : InCone exS [0] q) : q ≤ 1 := by
 induction h with
 | @base x hx => simp at hx; omega
 | @foe q f _ hf ih =>
  have : q = 0 ∨ q = 1 := by omega
  rcases this with rfl | rfl <;> simp [row, exS] at hf
 | @head i x h hi hb _ hh ih =>
  have : i = 0 := by simp [exS] at hi; omega
  subst this
  simp [exS] at hh
  omega
theorem exS_cone : coneL exS [0] = [0, 1] := by
 have h0 : InCone exS [0] 0 := .base (by simp)
 have h1 : InCone exS [0] 1 := .head (i := 0) (x := 0) (by decide) (by decide) h0 (by decide)
 have h2 : ¬ InCone exS [0] 2 := fun h => by have := exS_in h; omega
 unfold coneL pickL
 rw [show exS.foes.length = 3 from rfl]
 simp [List.range_succ, h0, h1, h2]
theorem exS_ch : chL (solveM exS []) (solveM exS [0]) (coneL exS [0]) = [(0, 10, 5), (1, 10, 6)] := by
 rw [exS_solve0, exS_solve1, exS_cone]
 decide
theorem exS_add : addL [] 0 = [0] := by decide
end Go.Proofs.Lx

namespace Go.Proofs.Lx
open Go Go.RowKit Go.Proofs.Tj
set_option linter.unusedVariables false
set_option linter.unusedSimpArgs false
set_option maxRecDepth 100000 in
set_option maxHeartbeats 3200000 in
theorem dropD_arg (w : World) (x : Nat) (vM : Value) (T : Th) (G : List Int) (M : List Nat) (U : List Int) (Ft : Nat → Prop) (h : EngD w x vM T G M U Ft) (q : Int) (hq : q < 0 ∨ T.lits ≤ q) :
  Calls Tryz.prog 16 #[.pointer (some ⟨x, 0, none⟩), .int .i64 q] w (Ret fun r w' => r = .tuple #[.slice none 0 0, .int .i64 1] ∧ w = w') := by
 obtain ⟨vF, vR, vB, vFa, vTo, ⟨c0, c1, c2, c3, c4, c5, c6, c7⟩, _⟩ := h.cells
 have Hu := hid (unmade_any w x c0)
 clear h
 refine post_gen fun Q HQ => ?_
 by_cases h0 : q < 0
 ·go_enter Tryz.func16, Tryz.ntmps16
  go_wp2_with (go_at_call 38; refine Hu.out.mono ?_; rintro e w1 ⟨_, rfl, rfl, rfl⟩)
  go_ret2
  exact Fin HQ ⟨rfl, rfl⟩
 ·have h1 : T.lits ≤ q := by omega
  go_enter Tryz.func16, Tryz.ntmps16
  go_wp2_with (go_at_call 38; refine Hu.out.mono ?_; rintro e w1 ⟨_, rfl, rfl, rfl⟩)
  go_ret2
  exact Fin HQ ⟨rfl, rfl⟩
set_option maxRecDepth 100000 in
set_option maxHeartbeats 3200000 in
theorem dropD_fact (w : World) (x : Nat) (vM : Value) (T : Th) (G : List Int) (M : List Nat) (U : List Int) (Ft : Nat → Prop) (h : EngD w x vM T G M U Ft) (hG : risB G T.lits = true) (q : Int) (hq0 : 0 ≤ q) (hq1 : q < T.lits) (hm : q ∉ G) :
  Calls Tryz.prog 16 #[.pointer (some ⟨x, 0, none⟩), .int .i64 q] w (Ret fun r w' => r = .tuple #[.slice none 0 0, .int .i64 181] ∧ w = w') := by
 obtain ⟨vF, vR, vB, vFa, vTo, ⟨c0, c1, c2, c3, c4, c5, c6, c7⟩, _, hF, _⟩ := h.cells
 have Hu := hid (unmade_any w x c0)
 have Hb := hid (binarySearch_any w vFa G q hF (risB_spec hG).2)
 rw [memB_false.2 hm] at Hb
 have h1 : ¬ T.lits ≤ q := by omega
 have h0 : ¬ q < 0 := by omega
 clear h hG hm hF
 refine post_gen fun Q HQ => ?_
 go_enter Tryz.func16, Tryz.ntmps16
 go_wp2_with (first | (go_at_call 38; refine Hu.out.mono ?_; rintro e w1 ⟨_, rfl, rfl, rfl⟩) | (go_at_call 40; refine Hb.out.mono ?_; rintro e w1 ⟨_, rfl, rfl, hE⟩; have hE := hE.symm; subst hE))
 go_ret2
 exact Fin HQ ⟨rfl, rfl⟩
theorem dropL_len {G : List Int} {q : Int} (h : ltCount G q < G.length) : (dropL G q).length = G.length - 1 := by simp [dropL]; omega
set_option maxRecDepth 100000 in
set_option maxHeartbeats 3200000 in
theorem dropD_ok (w : World) (x : Nat) (vM : Value) (T : Th) (G U : List Int) (Ft : Nat → Prop) (h : EngD w x vM T G (solveM T G) U Ft) (hwf : WfTh T) (hG : risB G T.lits = true) (q : Int) (hq0 : 0 ≤ q) (hq1 : q < T.lits) (hm : q ∈ G) :
  Calls Tryz.prog 16 #[.pointer (some ⟨x, 0, none⟩), .int .i64 q] w (Ret fun r w' => ∃ v, r = .tuple #[v, .int .i64 0] ∧ Turn w w' x vM T G (dropL G q) [q] Ft v) := by
 obtain ⟨vF, vR, vB, vFa, vTo, ⟨c0, c1, c2, c3, c4, c5, c6, c7⟩, _, hF, _⟩ := h.cells
 have Hu := hid (unmade_any w x c0)
 have Hb := hid (binarySearch_any w vFa G q hF (risB_spec hG).2)
 rw [memB_true.2 hm] at Hb
 have hGl : G.length ≤ 4096 := h.sm.2.1
 have Hc := hid (cloneI_any w vFa G hF (by omega))
 have h1 : ¬ T.lits ≤ q := by omega
 have h0 : ¬ q < 0 := by omega
 obtain ⟨hlt, _⟩ := drop_at hG hm
 have hFl := dropL_len hlt
 have H := hid h
 have HG := hid hG
 have Hwf := hid hwf
 have Hm := hid hm
 have hfl := hwf.fl
 clear h hG hm hF hwf
 generalize hk : ltCount G q = k at *
 have Hk := hid hk
 clear hk
 refine post_gen fun Q HQ => ?_
 go_enter Tryz.func16, Tryz.ntmps16
 go_wp2_with (first | (go_at_call 38; refine Hu.out.mono ?_; rintro e w1 ⟨_, rfl, rfl, rfl⟩) | (go_at_call 40; refine Hb.out.mono ?_; rintro e w1 ⟨_, rfl, rfl, hE⟩; have hE := hE.symm; subst hE))
 refine Hc.out.mono ?_
 rintro e w1 ⟨v1, rfl, hown1, hb1⟩
 have Hown1 := hid hown1
 have Hb1 := hid hb1
 have hs1 := hb1.size
 clear hown1 hb1 Hc Hu Hb c0 c1 c2 c3 c4 c5 c6 c7
 obtain ⟨A1, cc1, rfl⟩ : ∃ A c, v1 = .slice A G.length c := own_form0 Hown1.out
 have Hde := hid (deleteI_any w1 w.heap.size _ G k Hown1.out hlt (by omega))
 go_wp2_with fail
 refine Hde.out.mono ?_
 rintro e w2 ⟨v2, rfl, hown2, hg2⟩
 have hb2 : Below w.heap.size w w2 := below_grown Hb1.out hs1 hg2 (fun g hg => (Hown1.out.lt g hg).1)
 have hFe : G.take k ++ G.drop (k + 1) = dropL G q := by unfold dropL; rw [Hk.out]
 rw [hFe] at hown2
 have Hown2 := hid hown2
 have Hb2 := hid hb2
 have hs2 := hb2.size
 obtain ⟨A2, cc2, rfl⟩ : ∃ A c, v2 = .slice A (G.length - 1) c := own_form0 hown2
 clear hown2 hb2 hg2 Hde
 have hb3 : Below w.heap.size w (w2.alloc (.cells #[.int .i64 q] 3)) := Hb2.out.alloc hs2 _
 have Hb3 := hid hb3
 have hF3 : (w2.alloc (.cells #[.int .i64 q] 3)).ownsRow w.heap.size 3 1 (.slice A2 (G.length - 1) cc2) (dropL G q).length (intsV (dropL G q)) := by rw [hFl]; exact own_ext Hown2.out (ext_alloc _ _)
 have HF3 := hid hF3
 have hto : RdI (w2.alloc (.cells #[.int .i64 q] 3)) (.slice (some ⟨w2.heap.size, 0, none⟩) 1 1) [q] := own_rdI (World.ownsRow_lit w2 #[.int .i64 q] 1 (Nat.le_refl _) (by unfold maxLen; omega) rfl) (by simp)
 have Hbec := hid (becomeD_any (w2.alloc (.cells #[.int .i64 q] 3)) x vM (.slice A2 (G.length - 1) cc2) (.slice (some ⟨w2.heap.size, 0, none⟩) 1 1) T G (dropL G q) [q] U Ft (H.out.ext hb3) Hwf.out (drop_ris HG.out) w.heap.size hF3 hto (fun y hy => by simp at hy; subst hy; omega) (odd_one fun y hy => by rw [mem_drop HG.out Hm.out]; simp [hy]))
 clear hb3 hF3 hto
 go_wp2_with fail
 refine Hbec.out.mono ?_
 rintro e w4 ⟨v4, rfl, hpost⟩
 have Hpost := hid hpost
 clear hpost Hbec
 go_wp2_with fail
 go_ret2
 exact Fin HQ ⟨_, rfl, turn_after (bF := 0) H.out Hb3.out HF3.out Hpost.out⟩
/-- What came and what went. -/
def notIn (F G : List Int) : List Int := F.filter fun q => !memB G q
theorem notIn_succ {F G : List Int} {k : Nat} (hk : k < F.length) : notIn (F.take (k + 1)) G = notIn (F.take k) G ++ if memB G F[k] = true then [] else [F[k]] := by
 unfold notIn
 rw [List.take_succ_eq_append_getElem hk, List.filter_append]
 congr 1
 by_cases h : memB G F[k] = true
 ·rw [if_pos h]; simp [h]
 ·rw [if_neg h]; simp [h]
theorem mem_notIn {F G : List Int} {q : Int} : q ∈ notIn F G ↔ q ∈ F ∧ q ∉ G := by
 unfold notIn
 rw [List.mem_filter, Bool.not_eq_true', memB_false]
theorem notIn_le (F G : List Int) : (notIn F G).length ≤ F.length := List.length_filter_le _ _
theorem odd_set {T : Th} {F G : List Int} : ∀ x : Nat, x < T.foes.length → ¬ InCone T (notIn F G ++ notIn G F) x → ((x : Int) ∈ G ↔ (x : Int) ∈ F) := fun x _ hn => by
 constructor
 ·intro h
  exact Classical.byContradiction fun h2 => hn (.base (List.mem_append_right _ (mem_notIn.2 ⟨h, h2⟩)))
 ·intro h
  exact Classical.byContradiction fun h2 => hn (.base (List.mem_append_left _ (mem_notIn.2 ⟨h, h2⟩)))
set_option maxRecDepth 100000 in
set_option maxHeartbeats 3200000 in
theorem setD_fact (w : World) (x : Nat) (vM vF : Value) (T : Th) (G F : List Int) (M : List Nat) (U : List Int) (Ft : Nat → Prop) (h : EngD w x vM T G M U Ft) (hF : RdI w vF F) (hn : risB F T.lits ≠ true) :
  Calls Tryz.prog 18 #[.pointer (some ⟨x, 0, none⟩), vF] w (Ret fun r w' => r = .tuple #[.slice none 0 0, .int .i64 181] ∧ Below w.heap.size w w') := by
 obtain ⟨vFo, vR, vB, vFa, vTo, ⟨c0, c1, c2, c3, c4, c5, c6, c7⟩, hT, _, _⟩ := h.cells
 have Hu := hid (unmade_any w x c0)
 have Hc := hid (checkFacts_any w _ vF T F hT hF)
 rw [show risB F T.lits = false by simpa using hn] at Hc
 clear h hn hT hF
 refine post_gen fun Q HQ => ?_
 go_enter Tryz.func18, Tryz.ntmps18
 go_wp2_with (first | (go_at_call 38; refine Hu.out.mono ?_; rintro e w1 ⟨_, rfl, rfl, rfl⟩) | (go_at_call 47; refine Hc.out.mono ?_; rintro e w1 ⟨_, rfl, rfl, hb1⟩; have Hb1 := hid hb1; clear hb1))
 go_ret2
 exact Fin HQ ⟨rfl, Hb1.out⟩
end Go.Proofs.Lx
