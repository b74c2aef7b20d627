/- Parts of the proof: Ds, Dt, Dg, Dl. The library's own functions at this program: the tables of numbers. Printed by gen_shelf.py. No condition. -/
import Derived.Test.YtbidjiopnddldaaGreatProg
import Derived.Shelf.Sort.Plain
import Derived.Shelf.Slices.In.SortNone
import Derived.Test.YtbidjiopnddldaaGreatP15
import Derived.Sort.OwnSortedInts
import Derived.Test.YtbidjiopnddldaaGreatP7
import Derived.Deep.DeepCutAuto
import Derived.Test.YtbidjiopnddldaaGreatP17
namespace Go.Proofs
open Go.Shelf
def Tryz.lays189_ren : Go.Shelf.Ren := ⟨fun | 189 => 88 | 125 => 103 | 257 => 102 | 128 => 128 | 129 => 129 | 294 => 120 | 295 => 121 | 296 => 122 | 297 => 123 | 298 => 124 | 299 => 125 | 216 => 67 | 300 => 126 | 301 => 127 | 328 => 150 | 329 => 151 | 330 => 152 | 331 => 153 | 332 => 154 | 215 => 84 | 343 => 158 | n => n, fun | 28 => 36 | 3 => 3 | 46 => 105 | 0 => 0 | 51 => 157 | 53 => 159 | 4 => 4 | 183 => 151 | 182 => 150 | 131 => 81 | 5 => 5 | 9 => 9 | 218 => 164 | 222 => 168 | 228 => 170 | 229 => 77 | n => n, fun | n => n⟩
theorem Tryz.lays189 : Go.Proofs.Lays.n189 Tryz.prog Tryz.lays189_ren := {
 mixed := by kernel_rfl
 f125 := Tryz.func103.trans (congrArg some (by kernel_rfl))
 f128 := Tryz.func128.trans (congrArg some (by kernel_rfl))
 f129 := Tryz.func129.trans (congrArg some (by kernel_rfl))
 f189 := Tryz.func88.trans (congrArg some (by kernel_rfl))
 f215 := Tryz.func84.trans (congrArg some (by kernel_rfl))
 f216 := Tryz.func67.trans (congrArg some (by kernel_rfl))
 f257 := Tryz.func102.trans (congrArg some (by kernel_rfl))
 f294 := Tryz.func120.trans (congrArg some (by kernel_rfl))
 f295 := Tryz.func121.trans (congrArg some (by kernel_rfl))
 f296 := Tryz.func122.trans (congrArg some (by kernel_rfl))
 f297 := Tryz.func123.trans (congrArg some (by kernel_rfl))
 f298 := Tryz.func124.trans (congrArg some (by kernel_rfl))
 f299 := Tryz.func125.trans (congrArg some (by kernel_rfl))
 f300 := Tryz.func126.trans (congrArg some (by kernel_rfl))
 f301 := Tryz.func127.trans (congrArg some (by kernel_rfl))
 f328 := Tryz.func150.trans (congrArg some (by kernel_rfl))
 f329 := Tryz.func151.trans (congrArg some (by kernel_rfl))
 f330 := Tryz.func152.trans (congrArg some (by kernel_rfl))
 f331 := Tryz.func153.trans (congrArg some (by kernel_rfl))
 f332 := Tryz.func154.trans (congrArg some (by kernel_rfl))
 f343 := Tryz.func158.trans (congrArg some (by kernel_rfl))
 t0 := Tryz.underlying0
 a0 := Tryz.isAgg0
 z0 := Tryz.sizeOf0
 v0 := Tryz.zeroValue0
 t3 := Tryz.underlying3
 a3 := Tryz.isAgg3
 z3 := Tryz.sizeOf3
 v3 := Tryz.zeroValue3
 t4 := Tryz.underlying4
 a4 := Tryz.isAgg4
 z4 := Tryz.sizeOf4
 v4 := Tryz.zeroValue4
 t5 := Tryz.underlying5
 a5 := Tryz.isAgg5
 z5 := Tryz.sizeOf5
 v5 := Tryz.zeroValue5
 t9 := Tryz.underlying9
 a9 := Tryz.isAgg9
 z9 := Tryz.sizeOf9
 v9 := Tryz.zeroValue9
 t28 := Tryz.underlying36
 a28 := Tryz.isAgg36
 z28 := Tryz.sizeOf36
 v28 := Tryz.zeroValue36
 t46 := Tryz.underlying105
 a46 := Tryz.isAgg105
 z46 := Tryz.sizeOf105
 v46 := Tryz.zeroValue105
 t51 := Tryz.underlying157
 a51 := Tryz.isAgg157
 z51 := Tryz.sizeOf157
 v51 := Tryz.zeroValue157
 t53 := Tryz.underlying159
 a53 := Tryz.isAgg159
 z53 := Tryz.sizeOf159
 v53 := Tryz.zeroValue159
 t131 := Tryz.underlying81
 a131 := Tryz.isAgg81
 z131 := Tryz.sizeOf81
 v131 := Tryz.zeroValue81
 t182 := Tryz.underlying150
 a182 := Tryz.isAgg150
 z182 := Tryz.sizeOf150
 v182 := Tryz.zeroValue150
 t183 := Tryz.underlying151
 a183 := Tryz.isAgg151
 z183 := Tryz.sizeOf151
 v183 := Tryz.zeroValue151
 t218 := Tryz.underlying164
 a218 := Tryz.isAgg164
 z218 := Tryz.sizeOf164
 v218 := Tryz.zeroValue164
 t222 := Tryz.underlying168
 a222 := Tryz.isAgg168
 z222 := Tryz.sizeOf168
 v222 := Tryz.zeroValue168
 t228 := Tryz.underlying170
 a228 := Tryz.isAgg170
 z228 := Tryz.sizeOf170
 v228 := Tryz.zeroValue170
 t229 := Tryz.underlying77
 a229 := Tryz.isAgg77
 z229 := Tryz.sizeOf77
 v229 := Tryz.zeroValue77 }
end Go.Proofs

namespace Go.Proofs.Lx
open Go Go.RowKit Go.Sort Go.Proofs
set_option linter.unusedVariables false
theorem sortI_any (w : World) (base : Nat) (v : Value) (xs : List Int) (h : w.ownsRow base 3 1 v xs.length (intsV xs)) (hl : xs.length ≤ 100000000) :
  Calls Tryz.prog 88 #[v] w (Ret fun r w' => r = .tuple #[] ∧ w'.ownsRow base 3 1 v xs.length (intsV (srt xs)) ∧ w.grownBy w' v.ownBlock) := by
 rcases h.2 with ⟨rfl, h0⟩ | ⟨g, cap, cur, rfl, hb, hg, hc1, hc2, hc3, ht⟩
 ·refine (Any.slices_Sort_int_none Tryz.lays189 none 0 w).mono ?_
  rintro e w' ⟨rfl, rfl⟩
  have e0 : xs = [] := List.eq_nil_of_length_eq_zero h0
  subst e0
  exact ⟨_, rfl, rfl, by simpa [srt, intsV] using h, ⟨rfl, rfl, rfl, Nat.le_refl _, fun _ _ _ => rfl⟩⟩
 ·rw [Nat.mul_one] at ht
  refine (Any.slices_Sort_int Tryz.lays189 g 0 cap xs w (holds_of_blockI hg ht) (lt_of_block hg) (by omega)).mono ?_
  rintro e w' ⟨rfl, n, os, rfl⟩
  exact ⟨_, rfl, rfl, ownsRow_sortedI (srt_length xs) hb hg hc1 hc2 hc3, grownBy_sortedI _⟩
end Go.Proofs.Lx

namespace Go.Proofs.Lx
open Go Go.RowKit
set_option linter.unusedSimpArgs false
set_option linter.unusedVariables false
theorem cell_three_at (w : World) (x y z : Value) (t : TypeId) (g : Nat) (hg : g = w.heap.size) : ∀ j u, [x, y, z][j]? = some u → (w.alloc (.cells #[x, y, z] t)).cell? ((⟨g, 0, none⟩ : Addr).add j) = some u := by
 subst hg; exact cell_three_new w x y z t
set_option maxRecDepth 100000 in
set_option maxHeartbeats 1600000 in
theorem says_loop (w : World) (base p at9 : Nat) (lits : Int) (vFo vBe vOl vRu vFa : Value) (rs : List Rule) (vs : Nat → Value) (fa : List Int) (h : PB w base p lits vFo vBe vOl vRu vFa rs vs fa) (hb0 : base ≤ w.heap.size) (hf : rs.length ≤ 100000) :
  Calls Tryz.prog 89 #[.pointer (some ⟨p, 0, none⟩), .int .i64 (at9 : Int), .int .u8 2] w (Ret fun r w' => r = .tuple #[] ∧ Said w w' base p lits vFo vBe vOl vRu vFa (rs ++ sayRs 2 at9) (fa ++ sayFs 2 at9)) := by
 have H := hid h
 have e1 : rs ++ sayRs 2 at9 = rs ++ [⟨2, at9, [(at9 : Int)]⟩] := by simp [sayRs, Nat.testBit]
 have e2 : fa ++ sayFs 2 at9 = fa := by simp [sayFs, Nat.testBit]
 rw [e1, e2]
 have hlo := h.lo
 obtain ⟨i0, hi, hz0, hz1, hz2⟩ := info_parts infoRl
 have hlpHaft := lt_of_block H.out.box
 have c2 : w.cell? ⟨p, 2, none⟩ = some vRu := by rw [cell_of_row w p _ _ _ _ H.out.box]; rfl
 have Haft : Hid (∀ (cA cB : Obj) (w' : World), ((w.alloc cA).alloc cB).grownBy w' vRu.ownBlock → w'.frozen? ⟨p, 2, none⟩ = false ∧ w'.cell? ⟨p, 2, none⟩ = some vRu) := hid fun cA cB w' hg => by
  have hb9 : Below w.heap.size w ((w.alloc cA).alloc cB) := ext_trans (ext_alloc _ _) (ext_alloc _ _)
  have h9 := (hg.block p (Nat.lt_of_lt_of_le hlpHaft hb9.size) (fun e => by have := (H.out.ru.lt _ e.symm).1; have := H.out.lo; omega)).trans ((hb9.block p hlpHaft).trans H.out.box)
  exact ⟨frozen_of_row w' p 2 _ _ h9, by rw [cell_of_row w' p 2 _ _ _ h9]; rfl⟩
 clear h e1 e2
 refine post_gen fun Q HQ => ?_
 go_enter Tryz.func89, Tryz.ntmps89
 go_wp2_with (at_builtin; refine wpList_append_own_at _ rfl _ _ 23 rfl base 93 i0 (.agg #[.int .i64 0, .int .i64 0, .slice none 0 0]) 3 40 Tryz.underlying23 hi hz0 hz1 hz2 rfl (by decide) _ (rs.length) _ rfl ((H.out.ru.alloc _).alloc _) ⟨w.heap.size + 1, 0, none⟩ 1 1 [.int .i64 2, .int .i64 (at9 : Int), .slice (some ⟨w.heap.size, 0, none⟩) 1 1] rfl rfl (cell_three_at _ _ _ _ _ _ (by simp)) (fun u hu => by simp at hu; rcases hu with rfl | rfl | rfl <;> rfl) (by unfold maxLen; omega) (by omega) (by simp; omega) ?_; intro v1 w1 hown1 hgrow1 hnil1 hat1; obtain ⟨gn1, cn1, rfl⟩ := own_formL hown1; obtain ⟨hqF1, hq21⟩ := Haft.out _ _ w1 hgrow1)
 (try simp only [Exit.inBlock, Exit.then])
 refine bodyPost_end (v := .tuple #[]) (by simp [results, Tryz.results89, go_sem]; try rfl) rfl ?_
 have hb91 : Below w.heap.size w ((w.alloc (.cells #[.int .i64 (at9 : Int)] 3)).alloc (.cells #[.int .i64 2, .int .i64 (at9 : Int), .slice (some ⟨w.heap.size, 0, none⟩) 1 1] 93)) := ext_trans (ext_alloc _ _) (ext_alloc _ _)
 have hp1 := (H.out.ext hb91).pushRg (r := ⟨2, at9, [(at9 : Int)]⟩) (u := .slice (some ⟨w.heap.size, 0, none⟩) 1 1) ((World.ownsRow_lit w #[.int .i64 (at9 : Int)] 1 (by omega) (by unfold maxLen; omega) rfl).alloc _) (.inr fun e => absurd (H.out.fa.lt _ e.symm).2 (Nat.lt_irrefl _)) hgrow1 hown1
 have hsz1 : w.heap.size ≤ w1.heap.size := Nat.le_trans hb91.size hgrow1.size
 have hk1 : ∀ g, g < w.heap.size → vRu.ownBlock ≠ some g → w1.heap[g]? = w.heap[g]? := fun g h1 h3 => (hgrow1.block g (Nat.lt_of_lt_of_le h1 hb91.size) (fun e => h3 e.symm)).trans (hb91.block g h1)
 have hv1 : ∀ g, Value.ownBlock (.slice (some ⟨gn1, 0, none⟩) (rs.length + 1) cn1) = some g → vRu.ownBlock = some g ∨ w.heap.size ≤ g := fun g hg => by
  rcases hat1 with e | e
  ·exact .inl (e ▸ hg)
  ·right; have e9 : some g = some _ := hg.symm.trans e; injection e9 with e9; have := hb91.size; omega
 refine Fin HQ ⟨rfl, ⟨_, _, _, hp1, hv1, fun g hg => .inl hg⟩, ⟨hgrow1.os, hgrow1.tape, hgrow1.output, by rw [World.size_setCell]; omega⟩, fun g h1 h2 h3 h4 => ?_⟩
 rw [heap_setCell_other _ _ _ _ h2]
 exact hk1 g h1 h3
set_option maxRecDepth 100000 in
set_option maxHeartbeats 1600000 in
theorem says_four (w : World) (base p at9 : Nat) (lits : Int) (vFo vBe vOl vRu vFa : Value) (rs : List Rule) (vs : Nat → Value) (fa : List Int) (h : PB w base p lits vFo vBe vOl vRu vFa rs vs fa) (hb0 : base ≤ w.heap.size) (hf : rs.length ≤ 100000) :
  Calls Tryz.prog 89 #[.pointer (some ⟨p, 0, none⟩), .int .i64 (at9 : Int), .int .u8 4] w (Ret fun r w' => r = .tuple #[] ∧ Said w w' base p lits vFo vBe vOl vRu vFa (rs ++ sayRs 4 at9) (fa ++ sayFs 4 at9)) := by
 have H := hid h
 have e1 : rs ++ sayRs 4 at9 = (rs ++ [⟨1, at9, [(at9 : Int)]⟩]) ++ [⟨2, at9, []⟩] := by simp [sayRs, Nat.testBit]
 have e2 : fa ++ sayFs 4 at9 = fa := by simp [sayFs, Nat.testBit]
 rw [e1, e2]
 have hlo := h.lo
 obtain ⟨i0, hi, hz0, hz1, hz2⟩ := info_parts infoRl
 have hlpHaft := lt_of_block H.out.box
 have c2 : w.cell? ⟨p, 2, none⟩ = some vRu := by rw [cell_of_row w p _ _ _ _ H.out.box]; rfl
 have Haft : Hid (∀ (cA cB : Obj) (w' : World), ((w.alloc cA).alloc cB).grownBy w' vRu.ownBlock → w'.frozen? ⟨p, 2, none⟩ = false ∧ w'.cell? ⟨p, 2, none⟩ = some vRu) := hid fun cA cB w' hg => by
  have hb9 : Below w.heap.size w ((w.alloc cA).alloc cB) := ext_trans (ext_alloc _ _) (ext_alloc _ _)
  have h9 := (hg.block p (Nat.lt_of_lt_of_le hlpHaft hb9.size) (fun e => by have := (H.out.ru.lt _ e.symm).1; have := H.out.lo; omega)).trans ((hb9.block p hlpHaft).trans H.out.box)
  exact ⟨frozen_of_row w' p 2 _ _ h9, by rw [cell_of_row w' p 2 _ _ _ h9]; rfl⟩
 clear h e1 e2
 refine post_gen fun Q HQ => ?_
 go_enter Tryz.func89, Tryz.ntmps89
 refine wp_seq_k fun K hK => ?_
 have HK := hid hK
 clear hK
 go_wp2_with (at_builtin; refine wpList_append_own_at _ rfl _ _ 23 rfl base 93 i0 (.agg #[.int .i64 0, .int .i64 0, .slice none 0 0]) 3 40 Tryz.underlying23 hi hz0 hz1 hz2 rfl (by decide) _ (rs.length) _ rfl ((H.out.ru.alloc _).alloc _) ⟨w.heap.size + 1, 0, none⟩ 1 1 [.int .i64 1, .int .i64 (at9 : Int), .slice (some ⟨w.heap.size, 0, none⟩) 1 1] rfl rfl (cell_three_at _ _ _ _ _ _ (by simp)) (fun u hu => by simp at hu; rcases hu with rfl | rfl | rfl <;> rfl) (by unfold maxLen; omega) (by omega) (by simp; omega) ?_; intro v1 w1 hown1 hgrow1 hnil1 hat1; obtain ⟨gn1, cn1, rfl⟩ := own_formL hown1; obtain ⟨hqF1, hq21⟩ := Haft.out _ _ w1 hgrow1)
 (try simp only [Exit.inBlock, Exit.then])
 refine HK.out _ _ ?_
 clear HK
 have hb91 : Below w.heap.size w ((w.alloc (.cells #[.int .i64 (at9 : Int)] 3)).alloc (.cells #[.int .i64 1, .int .i64 (at9 : Int), .slice (some ⟨w.heap.size, 0, none⟩) 1 1] 93)) := ext_trans (ext_alloc _ _) (ext_alloc _ _)
 have hp1 := (H.out.ext hb91).pushRg (r := ⟨1, at9, [(at9 : Int)]⟩) (u := .slice (some ⟨w.heap.size, 0, none⟩) 1 1) ((World.ownsRow_lit w #[.int .i64 (at9 : Int)] 1 (by omega) (by unfold maxLen; omega) rfl).alloc _) (.inr fun e => absurd (H.out.fa.lt _ e.symm).2 (Nat.lt_irrefl _)) hgrow1 hown1
 have hsz1 : w.heap.size ≤ w1.heap.size := Nat.le_trans hb91.size hgrow1.size
 have hk1 : ∀ g, g < w.heap.size → vRu.ownBlock ≠ some g → w1.heap[g]? = w.heap[g]? := fun g h1 h3 => (hgrow1.block g (Nat.lt_of_lt_of_le h1 hb91.size) (fun e => h3 e.symm)).trans (hb91.block g h1)
 have hv1 : ∀ g, Value.ownBlock (.slice (some ⟨gn1, 0, none⟩) (rs.length + 1) cn1) = some g → vRu.ownBlock = some g ∨ w.heap.size ≤ g := fun g hg => by
  rcases hat1 with e | e
  ·exact .inl (e ▸ hg)
  ·right; have e9 : some g = some _ := hg.symm.trans e; injection e9 with e9; have := hb91.size; omega
 obtain ⟨W1, HW1⟩ : ∃ W1, Hid (w1.setCell ⟨p, 2, none⟩ (.slice (some ⟨gn1, 0, none⟩) (rs.length + 1) cn1) = W1) := ⟨_, hid rfl⟩
 have Hos : Hid (W1.os = w.os ∧ W1.tape = w.tape ∧ W1.output = w.output) := hid (by rw [← HW1.out]; exact ⟨hgrow1.os, hgrow1.tape, hgrow1.output⟩)
 have HS1 : Hid (W1.heap.size = w1.heap.size) := hid (by rw [← HW1.out]; simp)
 have hk9 : ∀ g, g < w.heap.size → g ≠ p → vRu.ownBlock ≠ some g → W1.heap[g]? = w.heap[g]? := fun g h1 h2 h3 => by rw [← HW1.out, heap_setCell_other _ _ _ _ h2]; exact hk1 g h1 h3
 rw [HW1.out] at hp1
 rw [HW1.out]
 have H1 := hid hp1
 have Hk9 := hid hk9
 have Hv1 := hid hv1
 clear hp1 hk9 hv1 hk1 c2 hqF1 hq21 hown1 hnil1 hat1 Haft hgrow1 hb91
 have Hll : Hid ((rs ++ [(⟨1, at9, [(at9 : Int)]⟩ : Rule)]).length = rs.length + 1) := hid (by simp)
 have hlpHaft1 := lt_of_block H1.out.box
 have c21 : W1.cell? ⟨p, 2, none⟩ = some (.slice (some ⟨gn1, 0, none⟩) (rs.length + 1) cn1 : Value) := by rw [cell_of_row W1 p _ _ _ _ H1.out.box]; rfl
 have Haft1 : Hid (∀ (cA : Obj) (w' : World), (W1.alloc cA).grownBy w' (Value.slice (some ⟨gn1, 0, none⟩) (rs.length + 1) cn1).ownBlock → w'.frozen? ⟨p, 2, none⟩ = false ∧ w'.cell? ⟨p, 2, none⟩ = some (.slice (some ⟨gn1, 0, none⟩) (rs.length + 1) cn1 : Value)) := hid fun cA w' hg => by
  have hb9 : Below W1.heap.size W1 (W1.alloc cA) := ext_alloc _ _
  have h9 := (hg.block p (Nat.lt_of_lt_of_le hlpHaft1 hb9.size) (fun e => by have := (H1.out.ru.lt _ e.symm).1; have := H1.out.lo; omega)).trans ((hb9.block p hlpHaft1).trans H1.out.box)
  exact ⟨frozen_of_row w' p 2 _ _ h9, by rw [cell_of_row w' p 2 _ _ _ h9]; rfl⟩
 go_wp2_with (at_builtin; refine wpList_append_own_at _ rfl _ _ 23 rfl base 93 i0 (.agg #[.int .i64 0, .int .i64 0, .slice none 0 0]) 3 40 Tryz.underlying23 hi hz0 hz1 hz2 rfl (by decide) _ ((rs ++ [(⟨1, at9, [(at9 : Int)]⟩ : Rule)]).length) _ rfl (H1.out.ru.alloc _) ⟨W1.heap.size, 0, none⟩ 1 1 [.int .i64 2, .int .i64 (at9 : Int), .slice none 0 0] rfl rfl (cell_three_new _ _ _ _ _) (fun u hu => by simp at hu; rcases hu with rfl | rfl | rfl <;> rfl) (by unfold maxLen; have := Hll.out; omega) (by have := Hll.out; omega) (by have := HS1.out; simp; omega) ?_; intro v2 w2 hown2 hgrow2 hnil2 hat2; obtain ⟨gn2, cn2, rfl⟩ := own_formL hown2; obtain ⟨hqF2, hq22⟩ := Haft1.out _ w2 hgrow2)
 (try simp only [Exit.inBlock, Exit.then])
 refine bodyPost_end (v := .tuple #[]) (by simp [results, Tryz.results89, go_sem]; try rfl) rfl ?_
 have hS1 := HS1.out
 have hb92 : Below W1.heap.size W1 (W1.alloc (.cells #[.int .i64 2, .int .i64 (at9 : Int), .slice none 0 0] 93)) := ext_alloc _ _
 have hp2 := (H1.out.ext hb92).pushRg (r := ⟨2, at9, []⟩) (u := .slice none 0 0) (World.ownsRow_nil _ _ _ _) (.inl rfl) hgrow2 hown2
 have hsz2 : W1.heap.size ≤ w2.heap.size := Nat.le_trans hb92.size hgrow2.size
 have hk2 : ∀ g, g < W1.heap.size → (Value.slice (some ⟨gn1, 0, none⟩) (rs.length + 1) cn1).ownBlock ≠ some g → w2.heap[g]? = W1.heap[g]? := fun g h1 h3 => (hgrow2.block g (Nat.lt_of_lt_of_le h1 hb92.size) (fun e => h3 e.symm)).trans (hb92.block g h1)
 have hv2 : ∀ g, Value.ownBlock (.slice (some ⟨gn2, 0, none⟩) ((rs ++ [(⟨1, at9, [(at9 : Int)]⟩ : Rule)]).length + 1) cn2) = some g → (Value.slice (some ⟨gn1, 0, none⟩) (rs.length + 1) cn1).ownBlock = some g ∨ W1.heap.size ≤ g := fun g hg => by
  rcases hat2 with e | e
  ·exact .inl (e ▸ hg)
  ·right; have e9 : some g = some _ := hg.symm.trans e; injection e9 with e9; have := hb92.size; omega
 have hS1 := HS1.out
 rw [Hll.out] at hp2 hv2
 refine Fin HQ ⟨rfl, ⟨_, _, _, hp2, fun g hg => ?_, fun g hg => .inl hg⟩, ⟨hgrow2.os.trans Hos.out.1, hgrow2.tape.trans Hos.out.2.1, hgrow2.output.trans Hos.out.2.2, by rw [World.size_setCell]; omega⟩, fun g h1 h2 h3 h4 => ?_⟩
 ·rcases hv2 g hg with e | e
  ·exact Hv1.out g e
  ·exact .inr (by omega)
 ·rw [heap_setCell_other _ _ _ _ h2]
  refine (hk2 g (by omega) fun e => ?_).trans (Hk9.out g h1 h2 h3)
  rcases Hv1.out g e with e | e
  ·exact h3 e
  ·omega
set_option maxRecDepth 100000 in
set_option maxHeartbeats 1600000 in
theorem says_zero (w : World) (base p at9 : Nat) (lits : Int) (vFo vBe vOl vRu vFa : Value) (rs : List Rule) (vs : Nat → Value) (fa : List Int) (h : PB w base p lits vFo vBe vOl vRu vFa rs vs fa) (hb0 : base ≤ w.heap.size) (hf : rs.length ≤ 100000) :
  Calls Tryz.prog 89 #[.pointer (some ⟨p, 0, none⟩), .int .i64 (at9 : Int), .int .u8 0] w (Ret fun r w' => r = .tuple #[] ∧ Said w w' base p lits vFo vBe vOl vRu vFa (rs ++ sayRs 0 at9) (fa ++ sayFs 0 at9)) := by
 have H := hid h
 have e1 : rs ++ sayRs 0 at9 = (rs ++ [⟨1, at9, [(at9 : Int)]⟩]) ++ [⟨2, at9, [(at9 : Int)]⟩] := by simp [sayRs, Nat.testBit]
 have e2 : fa ++ sayFs 0 at9 = fa := by simp [sayFs, Nat.testBit]
 rw [e1, e2]
 have hlo := h.lo
 obtain ⟨i0, hi, hz0, hz1, hz2⟩ := info_parts infoRl
 have hlpHaft := lt_of_block H.out.box
 have c2 : w.cell? ⟨p, 2, none⟩ = some vRu := by rw [cell_of_row w p _ _ _ _ H.out.box]; rfl
 have Haft : Hid (∀ (cA cB : Obj) (w' : World), ((w.alloc cA).alloc cB).grownBy w' vRu.ownBlock → w'.frozen? ⟨p, 2, none⟩ = false ∧ w'.cell? ⟨p, 2, none⟩ = some vRu) := hid fun cA cB w' hg => by
  have hb9 : Below w.heap.size w ((w.alloc cA).alloc cB) := ext_trans (ext_alloc _ _) (ext_alloc _ _)
  have h9 := (hg.block p (Nat.lt_of_lt_of_le hlpHaft hb9.size) (fun e => by have := (H.out.ru.lt _ e.symm).1; have := H.out.lo; omega)).trans ((hb9.block p hlpHaft).trans H.out.box)
  exact ⟨frozen_of_row w' p 2 _ _ h9, by rw [cell_of_row w' p 2 _ _ _ h9]; rfl⟩
 clear h e1 e2
 refine post_gen fun Q HQ => ?_
 go_enter Tryz.func89, Tryz.ntmps89
 refine wp_seq_k fun K hK => ?_
 have HK := hid hK
 clear hK
 go_wp2_with (at_builtin; refine wpList_append_own_at _ rfl _ _ 23 rfl base 93 i0 (.agg #[.int .i64 0, .int .i64 0, .slice none 0 0]) 3 40 Tryz.underlying23 hi hz0 hz1 hz2 rfl (by decide) _ (rs.length) _ rfl ((H.out.ru.alloc _).alloc _) ⟨w.heap.size + 1, 0, none⟩ 1 1 [.int .i64 1, .int .i64 (at9 : Int), .slice (some ⟨w.heap.size, 0, none⟩) 1 1] rfl rfl (cell_three_at _ _ _ _ _ _ (by simp)) (fun u hu => by simp at hu; rcases hu with rfl | rfl | rfl <;> rfl) (by unfold maxLen; omega) (by omega) (by simp; omega) ?_; intro v1 w1 hown1 hgrow1 hnil1 hat1; obtain ⟨gn1, cn1, rfl⟩ := own_formL hown1; obtain ⟨hqF1, hq21⟩ := Haft.out _ _ w1 hgrow1)
 (try simp only [Exit.inBlock, Exit.then])
 refine HK.out _ _ ?_
 clear HK
 have hb91 : Below w.heap.size w ((w.alloc (.cells #[.int .i64 (at9 : Int)] 3)).alloc (.cells #[.int .i64 1, .int .i64 (at9 : Int), .slice (some ⟨w.heap.size, 0, none⟩) 1 1] 93)) := ext_trans (ext_alloc _ _) (ext_alloc _ _)
 have hp1 := (H.out.ext hb91).pushRg (r := ⟨1, at9, [(at9 : Int)]⟩) (u := .slice (some ⟨w.heap.size, 0, none⟩) 1 1) ((World.ownsRow_lit w #[.int .i64 (at9 : Int)] 1 (by omega) (by unfold maxLen; omega) rfl).alloc _) (.inr fun e => absurd (H.out.fa.lt _ e.symm).2 (Nat.lt_irrefl _)) hgrow1 hown1
 have hsz1 : w.heap.size ≤ w1.heap.size := Nat.le_trans hb91.size hgrow1.size
 have hk1 : ∀ g, g < w.heap.size → vRu.ownBlock ≠ some g → w1.heap[g]? = w.heap[g]? := fun g h1 h3 => (hgrow1.block g (Nat.lt_of_lt_of_le h1 hb91.size) (fun e => h3 e.symm)).trans (hb91.block g h1)
 have hv1 : ∀ g, Value.ownBlock (.slice (some ⟨gn1, 0, none⟩) (rs.length + 1) cn1) = some g → vRu.ownBlock = some g ∨ w.heap.size ≤ g := fun g hg => by
  rcases hat1 with e | e
  ·exact .inl (e ▸ hg)
  ·right; have e9 : some g = some _ := hg.symm.trans e; injection e9 with e9; have := hb91.size; omega
 obtain ⟨W1, HW1⟩ : ∃ W1, Hid (w1.setCell ⟨p, 2, none⟩ (.slice (some ⟨gn1, 0, none⟩) (rs.length + 1) cn1) = W1) := ⟨_, hid rfl⟩
 have Hos : Hid (W1.os = w.os ∧ W1.tape = w.tape ∧ W1.output = w.output) := hid (by rw [← HW1.out]; exact ⟨hgrow1.os, hgrow1.tape, hgrow1.output⟩)
 have HS1 : Hid (W1.heap.size = w1.heap.size) := hid (by rw [← HW1.out]; simp)
 have hk9 : ∀ g, g < w.heap.size → g ≠ p → vRu.ownBlock ≠ some g → W1.heap[g]? = w.heap[g]? := fun g h1 h2 h3 => by rw [← HW1.out, heap_setCell_other _ _ _ _ h2]; exact hk1 g h1 h3
 rw [HW1.out] at hp1
 rw [HW1.out]
 have H1 := hid hp1
 have Hk9 := hid hk9
 have Hv1 := hid hv1
 clear hp1 hk9 hv1 hk1 c2 hqF1 hq21 hown1 hnil1 hat1 Haft hgrow1 hb91
 have Hll : Hid ((rs ++ [(⟨1, at9, [(at9 : Int)]⟩ : Rule)]).length = rs.length + 1) := hid (by simp)
 have hlpHaft1 := lt_of_block H1.out.box
 have c21 : W1.cell? ⟨p, 2, none⟩ = some (.slice (some ⟨gn1, 0, none⟩) (rs.length + 1) cn1 : Value) := by rw [cell_of_row W1 p _ _ _ _ H1.out.box]; rfl
 have Haft1 : Hid (∀ (cA cB : Obj) (w' : World), ((W1.alloc cA).alloc cB).grownBy w' (Value.slice (some ⟨gn1, 0, none⟩) (rs.length + 1) cn1).ownBlock → w'.frozen? ⟨p, 2, none⟩ = false ∧ w'.cell? ⟨p, 2, none⟩ = some (.slice (some ⟨gn1, 0, none⟩) (rs.length + 1) cn1 : Value)) := hid fun cA cB w' hg => by
  have hb9 : Below W1.heap.size W1 ((W1.alloc cA).alloc cB) := ext_trans (ext_alloc _ _) (ext_alloc _ _)
  have h9 := (hg.block p (Nat.lt_of_lt_of_le hlpHaft1 hb9.size) (fun e => by have := (H1.out.ru.lt _ e.symm).1; have := H1.out.lo; omega)).trans ((hb9.block p hlpHaft1).trans H1.out.box)
  exact ⟨frozen_of_row w' p 2 _ _ h9, by rw [cell_of_row w' p 2 _ _ _ h9]; rfl⟩
 go_wp2_with (at_builtin; refine wpList_append_own_at _ rfl _ _ 23 rfl base 93 i0 (.agg #[.int .i64 0, .int .i64 0, .slice none 0 0]) 3 40 Tryz.underlying23 hi hz0 hz1 hz2 rfl (by decide) _ ((rs ++ [(⟨1, at9, [(at9 : Int)]⟩ : Rule)]).length) _ rfl ((H1.out.ru.alloc _).alloc _) ⟨W1.heap.size + 1, 0, none⟩ 1 1 [.int .i64 2, .int .i64 (at9 : Int), .slice (some ⟨W1.heap.size, 0, none⟩) 1 1] rfl rfl (cell_three_at _ _ _ _ _ _ (by simp)) (fun u hu => by simp at hu; rcases hu with rfl | rfl | rfl <;> rfl) (by unfold maxLen; have := Hll.out; omega) (by have := Hll.out; omega) (by have := HS1.out; simp; omega) ?_; intro v2 w2 hown2 hgrow2 hnil2 hat2; obtain ⟨gn2, cn2, rfl⟩ := own_formL hown2; obtain ⟨hqF2, hq22⟩ := Haft1.out _ _ w2 hgrow2)
 (try simp only [Exit.inBlock, Exit.then])
 refine bodyPost_end (v := .tuple #[]) (by simp [results, Tryz.results89, go_sem]; try rfl) rfl ?_
 have hS1 := HS1.out
 have hb92 : Below W1.heap.size W1 ((W1.alloc (.cells #[.int .i64 (at9 : Int)] 3)).alloc (.cells #[.int .i64 2, .int .i64 (at9 : Int), .slice (some ⟨W1.heap.size, 0, none⟩) 1 1] 93)) := ext_trans (ext_alloc _ _) (ext_alloc _ _)
 have hp2 := (H1.out.ext hb92).pushRg (r := ⟨2, at9, [(at9 : Int)]⟩) (u := .slice (some ⟨W1.heap.size, 0, none⟩) 1 1) ((World.ownsRow_lit W1 #[.int .i64 (at9 : Int)] 1 (by omega) (by unfold maxLen; omega) rfl).alloc _) (.inr fun e => absurd (H1.out.fa.lt _ e.symm).2 (Nat.lt_irrefl _)) hgrow2 hown2
 have hsz2 : W1.heap.size ≤ w2.heap.size := Nat.le_trans hb92.size hgrow2.size
 have hk2 : ∀ g, g < W1.heap.size → (Value.slice (some ⟨gn1, 0, none⟩) (rs.length + 1) cn1).ownBlock ≠ some g → w2.heap[g]? = W1.heap[g]? := fun g h1 h3 => (hgrow2.block g (Nat.lt_of_lt_of_le h1 hb92.size) (fun e => h3 e.symm)).trans (hb92.block g h1)
 have hv2 : ∀ g, Value.ownBlock (.slice (some ⟨gn2, 0, none⟩) ((rs ++ [(⟨1, at9, [(at9 : Int)]⟩ : Rule)]).length + 1) cn2) = some g → (Value.slice (some ⟨gn1, 0, none⟩) (rs.length + 1) cn1).ownBlock = some g ∨ W1.heap.size ≤ g := fun g hg => by
  rcases hat2 with e | e
  ·exact .inl (e ▸ hg)
  ·right; have e9 : some g = some _ := hg.symm.trans e; injection e9 with e9; have := hb92.size; omega
 have hS1 := HS1.out
 rw [Hll.out] at hp2 hv2
 refine Fin HQ ⟨rfl, ⟨_, _, _, hp2, fun g hg => ?_, fun g hg => .inl hg⟩, ⟨hgrow2.os.trans Hos.out.1, hgrow2.tape.trans Hos.out.2.1, hgrow2.output.trans Hos.out.2.2, by rw [World.size_setCell]; omega⟩, fun g h1 h2 h3 h4 => ?_⟩
 ·rcases hv2 g hg with e | e
  ·exact Hv1.out g e
  ·exact .inr (by omega)
 ·rw [heap_setCell_other _ _ _ _ h2]
  refine (hk2 g (by omega) fun e => ?_).trans (Hk9.out g h1 h2 h3)
  rcases Hv1.out g e with e | e
  ·exact h3 e
  ·omega
end Go.Proofs.Lx

namespace Go.Proofs.Lx
open Go Go.RowKit Go.Proofs.Tj
set_option linter.unusedVariables false
set_option linter.unusedSimpArgs false
/-- What is read of an engine. -/
def ER (w : World) (x : Nat) (AF AR AB AM : Option Addr) (cF cR cB cM : Nat) (T : Th) (M : List Nat) : Prop := ∀ W, Below w.heap.size w W →
 (W.cell? ⟨x, 2, none⟩ = some (.slice AF T.foes.length cF) ∧ W.cell? ⟨x, 3, none⟩ = some (.slice AR T.rules.length cR) ∧ W.cell? ⟨x, 4, none⟩ = some (.slice AB T.beats.length cB) ∧ W.cell? ⟨x, 6, none⟩ = some (.slice AM M.length cM)) ∧
 RcLL W AF T.foes ∧ RcRs W AR T.rules ∧ RcLL W AB T.beats ∧ RdC 1 (scR fun x : Nat => Value.int .u8 (x : Int)) W AM M
theorem EngD.er {w : World} {x : Nat} {vM : Value} {T : Th} {F : List Int} {M : List Nat} {U : List Int} {Ft : Nat → Prop} (h : EngD w x vM T F M U Ft) : ∃ AF AR AB AM cF cR cB cM, vM = .slice AM M.length cM ∧ ER w x AF AR AB AM cF cR cB cM T M := by
 obtain ⟨vF, vR, vB, vFa, vTo, ⟨c0, c1, c2, c3, c4, c5, c6, c7⟩, hTh, _⟩ := h.cells
 obtain ⟨vF2, vR2, vB2, e, hF, hR, hB⟩ := hTh
 injection e with e
 simp only [Array.mk.injEq, List.cons.injEq, and_true] at e
 obtain ⟨_, rfl, rfl, rfl⟩ := e
 obtain ⟨AF, cF, rfl, _, _, hF⟩ := hF
 obtain ⟨AR, cR, rfl, _, _, hR⟩ := hR
 obtain ⟨AB, cB, rfl, _, _, hB⟩ := hB
 obtain ⟨AM, cM, rfl, _, _, hM⟩ := h.rdM
 exact ⟨AF, AR, AB, AM, cF, cR, cB, cM, rfl, fun W hW => ⟨⟨cell_ext hW c2, cell_ext hW c3, cell_ext hW c4, cell_ext hW c6⟩, hF.ext llR_mono hW, hR.ext ruleR_mono hW, hB.ext llR_mono hW, hM.ext (scR_mono _) hW⟩⟩
theorem HX.low {W1 wr w : World} {g : Nat} {vs : List Value} {xss : List (List Int)} (h : HX W1 wr g vs xss) (hb : Below w.heap.size w W1) (hg : w.heap.size ≤ g) : Below w.heap.size w wr :=
 ⟨h.os.trans hb.os, h.tape.trans hb.tape, h.output.trans hb.output, Nat.le_trans hb.size h.sz, fun k hk => (h.old k (Nat.lt_of_lt_of_le hk hb.size) (by omega)).trans (hb.block k hk)⟩
/-- cut's frame. -/
structure LC (t : Array Value) (x p b r6 : Nat) (vC vF : Value) : Prop where
 sz : t.size = 247
 t0 : t[0]? = some (.pointer (some ⟨x, 0, none⟩))
 t1 : t[1]? = some vC
 t2 : t[2]? = some vF
 t6 : t[6]? = some (.pointer (some ⟨r6, 0, none⟩))
 t7 : t[7]? = some (.map (some b))
 t8 : t[8]? = some (.pointer (some ⟨p, 0, none⟩))
/-- The foes of the first k. -/
def cutFo (T : Th) (D : List Int) (k : Nat) : List (List Int) := (List.range D.length).map fun j => if j < k then (row T.foes (D.getD j 0)).map (ixD D) else []
theorem cutFo_length (T : Th) (D : List Int) (k : Nat) : (cutFo T D k).length = D.length := by simp [cutFo]
theorem cutFo_at {T : Th} {D : List Int} {k j : Nat} (hj : j < D.length) : (cutFo T D k)[j]'(by rw [cutFo_length]; exact hj) = if j < k then (row T.foes (D.getD j 0)).map (ixD D) else [] := by simp [cutFo]
theorem cutFo_succ {T : Th} {D : List Int} {k : Nat} (hk : k < D.length) : (cutFo T D k).set k ((row T.foes (D.getD k 0)).map (ixD D)) = cutFo T D (k + 1) := by
 apply List.ext_getElem
 ·simp [cutFo]
 ·intro j h1 h2
  rw [List.length_set, cutFo_length] at h1
  rw [List.getElem_set, cutFo_at h1, cutFo_at h1]
  by_cases e : k = j
  ·subst e; rw [if_pos rfl, if_pos (by omega)]
  ·rw [if_neg e]
   by_cases h : j < k
   ·rw [if_pos h, if_pos (by omega)]
   ·rw [if_neg h, if_neg (by omega)]
theorem cutFo_set_nil {T : Th} {D : List Int} {k : Nat} (hk : k < D.length) : (cutFo T D k).set k [] = cutFo T D k := by
 apply List.ext_getElem
 ·simp
 ·intro j h1 h2
  rw [List.length_set, cutFo_length] at h1
  rw [List.getElem_set, cutFo_at h1]
  by_cases e : k = j
  ·subst e; rw [if_pos rfl, if_neg (by omega)]
  ·rw [if_neg e]
theorem foes_len {T : Th} (hwf : WfTh T) {q : Nat} (hq : q < T.foes.length) : T.foes[q].length ≤ 64 ∧ ∀ y ∈ T.foes[q], 0 ≤ y ∧ y < T.foes.length := by
 obtain ⟨h1, h2, h3, h4⟩ := foesOk_spec hwf.fo q hq
 refine ⟨h1, fun y hy => ?_⟩
 obtain ⟨j, hj, e, _⟩ := foe_in hwf hq hy
 omega
set_option maxRecDepth 1000000 in
set_option maxHeartbeats 60000000 in
theorem cut_s3 (w W1 : World) (x p b r6 g : Nat) (Ac Af AF AR AB AM : Option Addr) (cc cf cF cR cB cM : Nat) (T : Th) (M : List Nat) (cone F D : List Int) (hwf : WfTh T) (her : ER w x AF AR AB AM cF cR cB cM T M) (hb1 : Below w.heap.size w W1) (hcr : RcI w Ac cone) (hok : DOk T.foes.length cone) (him : IM W1 b D) (hbg : b ≠ g) (hD : DOk T.foes.length D) (hcD : ∃ E, D = cone ++ E) (bx : Array Value) (hp : W1.heap[p]? = some (.cells bx 111 (0, 0))) (hbx : bx[1]? = some (.slice (some ⟨g, 0, none⟩) D.length D.length)) (hpg : p ≠ g)
  (hg : W1.heap[g]? = some (.cells (List.replicate D.length (Value.slice none 0 0)).toArray 36 (0, 0))) (hwg : w.heap.size ≤ g) (f : Nat → Value) (K : Act → World → Prop) (Q' : Exit → Act → World → Prop)
  (hK : ∀ (t : Array Value) (w' : World) (vs : List Value), LC t x p b r6 (.slice Ac cone.length cc) (.slice Af F.length cf) → HX W1 w' g vs (cutFo T D cone.length) → K ⟨t, []⟩ w') :
  Code.wp Tryz.prog cutSeg3 (Exit.then K Q') ⟨#[.pointer (some ⟨x, 0, none⟩), .slice Ac cone.length cc, .slice Af F.length cf, (f 3), (f 4), (f 5), .pointer (some ⟨r6, 0, none⟩), .map (some b), .pointer (some ⟨p, 0, none⟩), (f 9), (f 10), (f 11), (f 12), (f 13), (f 14), (f 15), (f 16), (f 17), (f 18), (f 19), (f 20), (f 21), (f 22), (f 23), (f 24), (f 25), (f 26), (f 27), (f 28), (f 29), (f 30), (f 31), (f 32), (f 33), (f 34), (f 35), (f 36), (f 37), (f 38), (f 39), (f 40), (f 41), (f 42), (f 43), (f 44), (f 45), (f 46), (f 47), (f 48), (f 49), (f 50), (f 51), (f 52), (f 53), (f 54), (f 55), (f 56), (f 57), (f 58), (f 59), (f 60), (f 61), (f 62), (f 63), (f 64), (f 65), (f 66), (f 67), (f 68), (f 69), (f 70), (f 71), (f 72), (f 73), (f 74), (f 75), (f 76), (f 77), (f 78), (f 79), (f 80), (f 81), (f 82), (f 83), (f 84), (f 85), (f 86), (f 87), (f 88), (f 89), (f 90), (f 91), (f 92), (f 93), (f 94), (f 95), (f 96), (f 97), (f 98), (f 99), (f 100), (f 101), (f 102), (f 103), (f 104), (f 105), (f 106), (f 107), (f 108), (f 109), (f 110), (f 111), (f 112), (f 113), (f 114), (f 115), (f 116), (f 117), (f 118), (f 119), (f 120), (f 121), (f 122), (f 123), (f 124), (f 125), (f 126), (f 127), (f 128), (f 129), (f 130), (f 131), (f 132), (f 133), (f 134), (f 135), (f 136), (f 137), (f 138), (f 139), (f 140), (f 141), (f 142), (f 143), (f 144), (f 145), (f 146), (f 147), (f 148), (f 149), (f 150), (f 151), (f 152), (f 153), (f 154), (f 155), (f 156), (f 157), (f 158), (f 159), (f 160), (f 161), (f 162), (f 163), (f 164), (f 165), (f 166), (f 167), (f 168), (f 169), (f 170), (f 171), (f 172), (f 173), (f 174), (f 175), (f 176), (f 177), (f 178), (f 179), (f 180), (f 181), (f 182), (f 183), (f 184), (f 185), (f 186), (f 187), (f 188), (f 189), (f 190), (f 191), (f 192), (f 193), (f 194), (f 195), (f 196), (f 197), (f 198), (f 199), (f 200), (f 201), (f 202), (f 203), (f 204), (f 205), (f 206), (f 207), (f 208), (f 209), (f 210), (f 211), (f 212), (f 213), (f 214), (f 215), (f 216), (f 217), (f 218), (f 219), (f 220), (f 221), (f 222), (f 223), (f 224), (f 225), (f 226), (f 227), (f 228), (f 229), (f 230), (f 231), (f 232), (f 233), (f 234), (f 235), (f 236), (f 237), (f 238), (f 239), (f 240), (f 241), (f 242), (f 243), (f 244), (f 245), (f 246)], []⟩ W1 := by
 have HK := hid hK
 have Her := hid her
 have Hwf := hid hwf
 have Hok := hid hok
 have HD := hid hD
 have Hcr := hid hcr
 have Hb1 := hid hb1
 have Him := hid him
 have Hp := hid hp
 have Hbx := hid hbx
 have Hne := hid (show p ≠ g ∧ b ≠ g from ⟨hpg, hbg⟩)
 have hf4 : (T.foes.length : Int) ≤ 4096 := by have := hwf.fl; have := hwf.l1; omega
 have hcl := hok.le
 have hdl := hD.le
 obtain ⟨E, hE⟩ := hcD
 have hnl : cone.length ≤ D.length := by rw [hE, List.length_append]; omega
 have Hcd : Hid (∀ k (h : k < cone.length), D.getD k 0 = cone[k]) := hid fun k h => by
  have h9 : k < D.length := by omega
  simp only [List.getD_eq_getElem?_getD, List.getElem?_eq_getElem h9, Option.getD_some]
  simp only [hE]; exact List.getElem_append_left h
 have H0 := hid (HX.start hg)
 have Hwg := hid hwg
 clear hK her hwf hok hD hcr hb1 him hp hbx hpg hbg hE hg hwg
 conv => arg 2; whnf
 go_wp2
 go_loopw [44] (fun v44 wr => ∃ k : Nat, k ≤ cone.length ∧ v44 = .int .i64 (k : Int) ∧ ∃ vs, HX W1 wr g vs (cutFo T D k)) (fun v44 _ => cone.length - (intOf v44).toNat)
 case atStart =>
  refine ⟨0, Nat.zero_le _, rfl, List.replicate D.length (Value.slice none 0 0), ?_⟩
  have e : cutFo T D 0 = List.replicate D.length [] := by
   apply List.ext_getElem
   ·simp [cutFo]
   ·intro j h1 h2; simp [cutFo]
  rw [e]; exact H0.out
 case round =>
  obtain ⟨k, hk, rfl, vs, hx⟩ := hrel
  have hlow := hx.low Hb1.out Hwg.out
  by_cases hlt : k < cone.length
  ·obtain ⟨adc, rfl, hcell⟩ := (Hcr.out.ext (scR_mono _) hlow).at1 hlt
   obtain ⟨⟨e2, e3, e4, e6⟩, eF, eR, eB, eM⟩ := Her.out wr hlow
   have hq0 := Hok.out.rg _ (List.getElem_mem hlt)
   obtain ⟨q, hq⟩ := Int.eq_ofNat_of_zero_le hq0.1
   have hqn : q < T.foes.length := by omega
   have hDk : row T.foes (D.getD k 0) = T.foes[q] := by rw [Hcd.out k hlt, hq]; exact row_nat _ _ hqn
   rw [hq] at hcell
   obtain ⟨adF, B, cBr, rfl, hcF, hB1, hB2, hrow⟩ := eF.atRow hqn
   obtain ⟨hl64, hlr⟩ := foes_len Hwf.out hqn
   have hcB : RcI w B T.foes[q] := by
    obtain ⟨_, eF0, _⟩ := Her.out w (ext_refl _)
    obtain ⟨ad2, B2, c2, e9, hc9, _, _, hr9⟩ := eF0.atRow hqn
    cases e9
    have := cell_ext hlow hc9
    rw [this] at hcF
    injection hcF with hcF
    injection hcF with e9 _ _
    subst e9
    exact hr9
   have HcB := hid hcB
   have Hlr := hid hlr
   have HDk := hid hDk
   have Hx := hid hx
   have hkD : k < D.length := by omega
   have hi0 : (0 : Int) ≤ (q : Int) := by omega
   have hi1 : (q : Int) < (T.foes.length : Int) := by omega
   clear hx hcB hlr hDk hrow eF eR eB eM hq0 hq e3 e4 e6
   generalize hLq : T.foes[q] = Lq at *
   clear hLq
   go_wp2
   go_loopw [58] (fun v58 wr => ∃ j : Nat, j ≤ Lq.length ∧ v58 = .int .i64 (j : Int) ∧ ∃ vs, HX W1 wr g vs ((cutFo T D k).set k ((Lq.take j).map (ixD D)))) (fun v58 _ => Lq.length - (intOf v58).toNat)
   case atStart =>
    refine ⟨0, Nat.zero_le _, rfl, vs, ?_⟩
    rw [List.take_zero, List.map_nil, cutFo_set_nil hkD]
    exact Hx.out
   case round =>
    obtain ⟨j, hj, rfl, vs, hx⟩ := hrel
    by_cases hjl : j < Lq.length
    ·have hlow := hx.low Hb1.out Hwg.out
     obtain ⟨adB, rfl, hcj⟩ := (HcB.out.ext (scR_mono _) hlow).at1 hjl
     have hyw : (Lit.int .i64 Lq[j]).wf = true := idx_wf (Hlr.out _ (List.getElem_mem hjl)) hf4
     have Htk : Hid ((Lq.take (j + 1)).map (ixD D) = (Lq.take j).map (ixD D) ++ [ixD D Lq[j]]) := hid (by rw [List.take_succ_eq_append_getElem hjl, List.map_append]; rfl)
     have hvl := hx.rows.len
     rw [List.length_set, cutFo_length] at hvl
     have hkv : k < vs.length := by omega
     have hkx : k < ((cutFo T D k).set k ((Lq.take j).map (ixD D))).length := by rw [List.length_set, cutFo_length]; exact hkD
     have hat : ((cutFo T D k).set k ((Lq.take j).map (ixD D)))[k] = (Lq.take j).map (ixD D) := List.getElem_set_self _
     have hlen : ((cutFo T D k).set k ((Lq.take j).map (ixD D)))[k].length ≤ 1000000 := by rw [hat, List.length_map, List.length_take]; omega
     have Hhx := hid hx
     have Hat := hid hat
     clear hx hat
     generalize Lq[j] = y at *
     go_wp2
     refine cutR9 wr W1 p g b D.length k D y vs _ Hhx.out bx Hp.out Hbx.out Hne.out.1 Hne.out.2 Him.out hyw hkv hkx hkD hlen _ _ _ _ _ _ _ _ _ _ _ _ _ _ _ _ _ _ _ _ _ _ _ _ _ _ _ _ _ _ _ _ _ _ _ _ _ _ _ _ _ _ _ _ _ _ _ _ _ _ _ _ _ _ _ _ _ _ _ _ _ _ _ _ _ _ _ _ _ _ _ _ _ _ _ _ _ _ _ _ _ _ _ _ _ _ _ _ _ _ _ _ _ _ _ _ _ _ _ _ _ _ _ _ _ _ _ _ _ _ _ _ _ _ _ _ _ _ _ _ _ _ _ _ _ _ _ _ _ _ _ _ _ _ _ _ _ _ _ _ _ _ _ _ _ _ _ _ _ _ _ _ _ _ _ _ _ _ _ _ _ _ _ _ _ _ _ _ _ _ _ _ _ _ _ _ _ _ _ _ _ _ _ _ _ _ _ _ _ _ _ _ _ _ _ _ _ _ _ _ _ _ _ _ _ _ _ _ _ _ _ _ _ _ _ _ _ _ _ _ _ _ _ _ _ _ _ _ _ _ _ _ _ _ _ _ _ _ _ _ _ _ _ _ ?_
     intro z62 z63 z64 z65 z66 z67 z68 z69 z70 z71 z72 z73 z74 z75 z76 z77 w4 v' h4 _
     rw [Hat.out, List.set_set, ← Htk.out] at h4
     have H4 := hid h4
     clear h4 hcj hyw hlen Hat Hhx
     go_wp2
     go_roundw
     case rel => exact ⟨j + 1, by omega, by go_num, _, H4.out⟩
     case measure => simp [intOf]; omega
    ·obtain rfl : j = Lq.length := by omega
     rw [List.take_length, ← HDk.out, cutFo_succ hkD] at hx
     have Hx4 := hid hx
     clear hx
     go_wp2
     go_roundw
     case rel => exact ⟨k + 1, by omega, by go_num, _, Hx4.out⟩
     case measure => simp [intOf]; omega
  ·obtain rfl : k = cone.length := by omega
   have Hx4 := hid hx
   clear hx
   go_wp2
   exact HK.out _ _ _ ⟨rfl, rfl, rfl, rfl, rfl, rfl, rfl⟩ Hx4.out
end Go.Proofs.Lx
