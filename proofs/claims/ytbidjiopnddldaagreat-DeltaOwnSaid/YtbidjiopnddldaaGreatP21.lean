/- Parts of the proof: Dq. delta.cut: the contract. Printed by gen_cut.py. No condition. -/
import Derived.Test.YtbidjiopnddldaaGreatP20
import Derived.WideMake
namespace Go.Proofs.Lx
open Go Go.RowKit Go.Proofs.Tj
set_option linter.unusedVariables false
set_option linter.unusedSimpArgs false
set_option maxRecDepth 100000 in
theorem frame247 (t : Array Value) (h : t.size = 247) : ∃ f : Nat → Value, t = #[f 0, f 1, f 2, f 3, f 4, f 5, f 6, f 7, f 8, f 9, f 10, f 11, f 12, f 13, f 14, f 15, f 16, f 17, f 18, f 19, f 20, f 21, f 22, f 23, f 24, f 25, f 26, f 27, f 28, f 29, f 30, f 31, f 32, f 33, f 34, f 35, f 36, f 37, f 38, f 39, f 40, f 41, f 42, f 43, f 44, f 45, f 46, f 47, f 48, f 49, f 50, f 51, f 52, f 53, f 54, f 55, f 56, f 57, f 58, f 59, f 60, f 61, f 62, f 63, f 64, f 65, f 66, f 67, f 68, f 69, f 70, f 71, f 72, f 73, f 74, f 75, f 76, f 77, f 78, f 79, f 80, f 81, f 82, f 83, f 84, f 85, f 86, f 87, f 88, f 89, f 90, f 91, f 92, f 93, f 94, f 95, f 96, f 97, f 98, f 99, f 100, f 101, f 102, f 103, f 104, f 105, f 106, f 107, f 108, f 109, f 110, f 111, f 112, f 113, f 114, f 115, f 116, f 117, f 118, f 119, f 120, f 121, f 122, f 123, f 124, f 125, f 126, f 127, f 128, f 129, f 130, f 131, f 132, f 133, f 134, f 135, f 136, f 137, f 138, f 139, f 140, f 141, f 142, f 143, f 144, f 145, f 146, f 147, f 148, f 149, f 150, f 151, f 152, f 153, f 154, f 155, f 156, f 157, f 158, f 159, f 160, f 161, f 162, f 163, f 164, f 165, f 166, f 167, f 168, f 169, f 170, f 171, f 172, f 173, f 174, f 175, f 176, f 177, f 178, f 179, f 180, f 181, f 182, f 183, f 184, f 185, f 186, f 187, f 188, f 189, f 190, f 191, f 192, f 193, f 194, f 195, f 196, f 197, f 198, f 199, f 200, f 201, f 202, f 203, f 204, f 205, f 206, f 207, f 208, f 209, f 210, f 211, f 212, f 213, f 214, f 215, f 216, f 217, f 218, f 219, f 220, f 221, f 222, f 223, f 224, f 225, f 226, f 227, f 228, f 229, f 230, f 231, f 232, f 233, f 234, f 235, f 236, f 237, f 238, f 239, f 240, f 241, f 242, f 243, f 244, f 245, f 246] ∧ ∀ i (hi : i < t.size), t[i] = f i := by
 obtain ⟨f, hf⟩ : ∃ f : Nat → Value, ∀ i (hi : i < t.size), t[i] = f i := ⟨fun i => t.getD i undef, fun i hi => by simp [Array.getD, hi]⟩
 have e : t.toList = (List.range 247).map f := by
  apply List.ext_getElem
  ·simp [h]
  ·intro i h1 h2
   simp only [Array.getElem_toList, List.getElem_map, List.getElem_range]
   exact hf i _
 have e2 : (List.range 247).map f = [f 0, f 1, f 2, f 3, f 4, f 5, f 6, f 7, f 8, f 9, f 10, f 11, f 12, f 13, f 14, f 15, f 16, f 17, f 18, f 19, f 20, f 21, f 22, f 23, f 24, f 25, f 26, f 27, f 28, f 29, f 30, f 31, f 32, f 33, f 34, f 35, f 36, f 37, f 38, f 39, f 40, f 41, f 42, f 43, f 44, f 45, f 46, f 47, f 48, f 49, f 50, f 51, f 52, f 53, f 54, f 55, f 56, f 57, f 58, f 59, f 60, f 61, f 62, f 63, f 64, f 65, f 66, f 67, f 68, f 69, f 70, f 71, f 72, f 73, f 74, f 75, f 76, f 77, f 78, f 79, f 80, f 81, f 82, f 83, f 84, f 85, f 86, f 87, f 88, f 89, f 90, f 91, f 92, f 93, f 94, f 95, f 96, f 97, f 98, f 99, f 100, f 101, f 102, f 103, f 104, f 105, f 106, f 107, f 108, f 109, f 110, f 111, f 112, f 113, f 114, f 115, f 116, f 117, f 118, f 119, f 120, f 121, f 122, f 123, f 124, f 125, f 126, f 127, f 128, f 129, f 130, f 131, f 132, f 133, f 134, f 135, f 136, f 137, f 138, f 139, f 140, f 141, f 142, f 143, f 144, f 145, f 146, f 147, f 148, f 149, f 150, f 151, f 152, f 153, f 154, f 155, f 156, f 157, f 158, f 159, f 160, f 161, f 162, f 163, f 164, f 165, f 166, f 167, f 168, f 169, f 170, f 171, f 172, f 173, f 174, f 175, f 176, f 177, f 178, f 179, f 180, f 181, f 182, f 183, f 184, f 185, f 186, f 187, f 188, f 189, f 190, f 191, f 192, f 193, f 194, f 195, f 196, f 197, f 198, f 199, f 200, f 201, f 202, f 203, f 204, f 205, f 206, f 207, f 208, f 209, f 210, f 211, f 212, f 213, f 214, f 215, f 216, f 217, f 218, f 219, f 220, f 221, f 222, f 223, f 224, f 225, f 226, f 227, f 228, f 229, f 230, f 231, f 232, f 233, f 234, f 235, f 236, f 237, f 238, f 239, f 240, f 241, f 242, f 243, f 244, f 245, f 246] := rfl
 refine ⟨f, ?_, hf⟩
 apply Array.toList_inj.1
 rw [e, e2]
theorem atD_f {t : Array Value} {f : Nat → Value} (hf : ∀ i (hi : i < t.size), t[i] = f i) {i : Nat} {v : Value} (h : t[i]? = some v) : f i = v := by
 obtain ⟨hi, e⟩ := Array.getElem?_eq_some_iff.1 h
 rw [← hf i hi, e]
theorem wp_frameC {c : Code} {Q : Exit → Act → World → Prop} {w : World} {t : Array Value} {x p b r6 : Nat} {vC vF : Value} (h : LC t x p b r6 vC vF) (k : ∀ f : Nat → Value, Code.wp Tryz.prog c Q ⟨#[.pointer (some ⟨x, 0, none⟩), vC, vF, (f 3), (f 4), (f 5), .pointer (some ⟨r6, 0, none⟩), .map (some b), .pointer (some ⟨p, 0, none⟩), (f 9), (f 10), (f 11), (f 12), (f 13), (f 14), (f 15), (f 16), (f 17), (f 18), (f 19), (f 20), (f 21), (f 22), (f 23), (f 24), (f 25), (f 26), (f 27), (f 28), (f 29), (f 30), (f 31), (f 32), (f 33), (f 34), (f 35), (f 36), (f 37), (f 38), (f 39), (f 40), (f 41), (f 42), (f 43), (f 44), (f 45), (f 46), (f 47), (f 48), (f 49), (f 50), (f 51), (f 52), (f 53), (f 54), (f 55), (f 56), (f 57), (f 58), (f 59), (f 60), (f 61), (f 62), (f 63), (f 64), (f 65), (f 66), (f 67), (f 68), (f 69), (f 70), (f 71), (f 72), (f 73), (f 74), (f 75), (f 76), (f 77), (f 78), (f 79), (f 80), (f 81), (f 82), (f 83), (f 84), (f 85), (f 86), (f 87), (f 88), (f 89), (f 90), (f 91), (f 92), (f 93), (f 94), (f 95), (f 96), (f 97), (f 98), (f 99), (f 100), (f 101), (f 102), (f 103), (f 104), (f 105), (f 106), (f 107), (f 108), (f 109), (f 110), (f 111), (f 112), (f 113), (f 114), (f 115), (f 116), (f 117), (f 118), (f 119), (f 120), (f 121), (f 122), (f 123), (f 124), (f 125), (f 126), (f 127), (f 128), (f 129), (f 130), (f 131), (f 132), (f 133), (f 134), (f 135), (f 136), (f 137), (f 138), (f 139), (f 140), (f 141), (f 142), (f 143), (f 144), (f 145), (f 146), (f 147), (f 148), (f 149), (f 150), (f 151), (f 152), (f 153), (f 154), (f 155), (f 156), (f 157), (f 158), (f 159), (f 160), (f 161), (f 162), (f 163), (f 164), (f 165), (f 166), (f 167), (f 168), (f 169), (f 170), (f 171), (f 172), (f 173), (f 174), (f 175), (f 176), (f 177), (f 178), (f 179), (f 180), (f 181), (f 182), (f 183), (f 184), (f 185), (f 186), (f 187), (f 188), (f 189), (f 190), (f 191), (f 192), (f 193), (f 194), (f 195), (f 196), (f 197), (f 198), (f 199), (f 200), (f 201), (f 202), (f 203), (f 204), (f 205), (f 206), (f 207), (f 208), (f 209), (f 210), (f 211), (f 212), (f 213), (f 214), (f 215), (f 216), (f 217), (f 218), (f 219), (f 220), (f 221), (f 222), (f 223), (f 224), (f 225), (f 226), (f 227), (f 228), (f 229), (f 230), (f 231), (f 232), (f 233), (f 234), (f 235), (f 236), (f 237), (f 238), (f 239), (f 240), (f 241), (f 242), (f 243), (f 244), (f 245), (f 246)], []⟩ w) : Code.wp Tryz.prog c Q ⟨t, []⟩ w := by
 obtain ⟨f, e, hf⟩ := frame247 t h.sz
 have g0 := atD_f hf h.t0; have g1 := atD_f hf h.t1; have g2 := atD_f hf h.t2; have g6 := atD_f hf h.t6; have g7 := atD_f hf h.t7; have g8 := atD_f hf h.t8
 have := k f
 rw [← g0, ← g1, ← g2, ← g6, ← g7, ← g8] at this
 rw [e]; exact this
theorem wp_frameC13 {c : Code} {Q : Exit → Act → World → Prop} {w : World} {t : Array Value} {x p b r6 bm : Nat} {vC vF : Value} (h : LC t x p b r6 vC vF) (h13 : t[13]? = some (.map (some bm))) (k : ∀ f : Nat → Value, Code.wp Tryz.prog c Q ⟨#[.pointer (some ⟨x, 0, none⟩), vC, vF, (f 3), (f 4), (f 5), .pointer (some ⟨r6, 0, none⟩), .map (some b), .pointer (some ⟨p, 0, none⟩), (f 9), (f 10), (f 11), (f 12), .map (some bm), (f 14), (f 15), (f 16), (f 17), (f 18), (f 19), (f 20), (f 21), (f 22), (f 23), (f 24), (f 25), (f 26), (f 27), (f 28), (f 29), (f 30), (f 31), (f 32), (f 33), (f 34), (f 35), (f 36), (f 37), (f 38), (f 39), (f 40), (f 41), (f 42), (f 43), (f 44), (f 45), (f 46), (f 47), (f 48), (f 49), (f 50), (f 51), (f 52), (f 53), (f 54), (f 55), (f 56), (f 57), (f 58), (f 59), (f 60), (f 61), (f 62), (f 63), (f 64), (f 65), (f 66), (f 67), (f 68), (f 69), (f 70), (f 71), (f 72), (f 73), (f 74), (f 75), (f 76), (f 77), (f 78), (f 79), (f 80), (f 81), (f 82), (f 83), (f 84), (f 85), (f 86), (f 87), (f 88), (f 89), (f 90), (f 91), (f 92), (f 93), (f 94), (f 95), (f 96), (f 97), (f 98), (f 99), (f 100), (f 101), (f 102), (f 103), (f 104), (f 105), (f 106), (f 107), (f 108), (f 109), (f 110), (f 111), (f 112), (f 113), (f 114), (f 115), (f 116), (f 117), (f 118), (f 119), (f 120), (f 121), (f 122), (f 123), (f 124), (f 125), (f 126), (f 127), (f 128), (f 129), (f 130), (f 131), (f 132), (f 133), (f 134), (f 135), (f 136), (f 137), (f 138), (f 139), (f 140), (f 141), (f 142), (f 143), (f 144), (f 145), (f 146), (f 147), (f 148), (f 149), (f 150), (f 151), (f 152), (f 153), (f 154), (f 155), (f 156), (f 157), (f 158), (f 159), (f 160), (f 161), (f 162), (f 163), (f 164), (f 165), (f 166), (f 167), (f 168), (f 169), (f 170), (f 171), (f 172), (f 173), (f 174), (f 175), (f 176), (f 177), (f 178), (f 179), (f 180), (f 181), (f 182), (f 183), (f 184), (f 185), (f 186), (f 187), (f 188), (f 189), (f 190), (f 191), (f 192), (f 193), (f 194), (f 195), (f 196), (f 197), (f 198), (f 199), (f 200), (f 201), (f 202), (f 203), (f 204), (f 205), (f 206), (f 207), (f 208), (f 209), (f 210), (f 211), (f 212), (f 213), (f 214), (f 215), (f 216), (f 217), (f 218), (f 219), (f 220), (f 221), (f 222), (f 223), (f 224), (f 225), (f 226), (f 227), (f 228), (f 229), (f 230), (f 231), (f 232), (f 233), (f 234), (f 235), (f 236), (f 237), (f 238), (f 239), (f 240), (f 241), (f 242), (f 243), (f 244), (f 245), (f 246)], []⟩ w) : Code.wp Tryz.prog c Q ⟨t, []⟩ w := by
 obtain ⟨f, e, hf⟩ := frame247 t h.sz
 have g0 := atD_f hf h.t0; have g1 := atD_f hf h.t1; have g2 := atD_f hf h.t2; have g6 := atD_f hf h.t6; have g7 := atD_f hf h.t7; have g8 := atD_f hf h.t8; have g13 := atD_f hf h13
 have := k f
 rw [← g0, ← g1, ← g2, ← g6, ← g7, ← g8, ← g13] at this
 rw [e]; exact this
theorem made_repD (z : Value) (n : Nat) : madeCells #[z] n = (List.replicate n z).toArray := by rw [← Array.toList_inj, toList_madeCells_one]
theorem mkLd (m : Nat) (hn : m ≤ 1048576) : ∀ W : World, (Instr.makeSlice 22 (.int .i64 (m : Int)) (.int .i64 (m : Int))).run Tryz.prog W = .ok (.slice (some ⟨W.heap.size, 0, none⟩) m m) (W.alloc (.cells (List.replicate m (Value.slice none 0 0)).toArray 36)) := fun W => by
 have := mkL (m : Int) (by omega) (by omega) W
 simpa only [made_repD, Int.toNat_natCast] using this
theorem PB.rules {w : World} {base p : Nat} {lits : Int} {vFo vBe vOl vRu vFa : Value} {rs : List Rule} {vs : Nat → Value} {fa : List Int} (h : PB w base p lits vFo vBe vOl vRu vFa rs vs fa) (hl : rs.length ≤ 140737488355328) (hb : ∀ r ∈ rs, r.body.length ≤ 140737488355328) : RdRs w vRu rs := by
 rcases h.ru.2 with ⟨e, h0⟩ | ⟨g, cap, cur, e, _, hg, hc, _, hs, ht⟩
 ·subst e
  exact ⟨none, 0, by rw [h0], by omega, hl, fun i hi => absurd hi (by omega)⟩
 ·refine ⟨_, cap, e, hc, hl, fun i hi => ?_⟩
  have e2 : rs.getD i default = rs[i] := by simp [hi]
  have hbd := (h.bd i hi).1
  rw [e2] at hbd
  refine ⟨_, [.int .i64 rs[i].kind, .int .i64 rs[i].head, vs i], rfl, ⟨vs i, rfl, own_rdI hbd (hb _ (List.getElem_mem hi))⟩, rfl, fun j u hu => ?_⟩
  obtain ⟨k0, k1, k2⟩ := cellsR_at (rs := rs) (vs := vs) hi
  rw [e2] at k0 k1
  refine h.ru.cells (by rw [e]; rfl) (i * 3 + j) u ?_
  match j, hu with
  | 0, hu => simp at hu; rw [← hu]; exact k0
  | 1, hu => simp at hu; rw [← hu]; exact k1
  | 2, hu => simp at hu; rw [← hu]; exact k2
theorem body_le {T : Th} (hwf : WfTh T) (D cone : List Int) (S : List Nat) (n : Nat) (vis : List Nat) : ∀ r ∈ movRs T D cone T.rules.length ++ sayAll S D n vis, r.body.length ≤ 140737488355328 := by
 intro r hr
 rw [List.mem_append] at hr
 rcases hr with hr | hr
 ·unfold movRs at hr
  obtain ⟨i, hi, rfl⟩ := List.mem_map.1 hr
  have hil := (mem_mvL.1 hi).1
  have h9 := (rule_in hwf hil).2.2
  have e : T.rules.getD i default = T.rules[i] := by simp [hil]
  simp only [movR, srt_length, List.length_map, e]
  omega
 ·unfold sayAll at hr
  obtain ⟨j, hj, hr⟩ := List.mem_flatMap.1 hr
  split at hr
  ·unfold sayRs at hr
   split at hr
   ·cases hr
   ·rw [List.mem_append] at hr
    rcases hr with hr | hr <;> (split at hr) <;> (try split at hr) <;> simp at hr <;> (try subst hr) <;> simp
  ·cases hr
theorem PB.beside {W w : World} {base p : Nat} {lits : Int} {vFo vBe vOl vRu vFa : Value} {rs : List Rule} {vs : Nat → Value} {fa : List Int} (h : PB W base p lits vFo vBe vOl vRu vFa rs vs fa) {g : Nat} {us : List Value} {xss : List (List Int)} (hx : HX W w g us xss) {cells : Array Value} (hg : W.heap[g]? = some (.cells cells 36 (0, 0))) : PB w base p lits vFo vBe vOl vRu vFa rs vs fa := by
 have key : ∀ {e sz n : Nat} {v : Value} {xs : List Value}, e ≠ 36 → W.ownsRow base e sz v n xs → w.ownsRow base e sz v n xs := fun {e sz n v xs} hne ho => by
  have h9 := own_ne_tag ho hg hne
  refine ⟨ho.1, ?_⟩
  rcases ho.2 with k1 | ⟨g9, cap, cur, k1, k2, k3, k4⟩
  ·exact .inl k1
  ·exact .inr ⟨g9, cap, cur, k1, k2, (hx.old g9 (lt_of_block k3) (fun e => h9 (by rw [k1, e]; rfl))).trans k3, k4⟩
 refine ⟨(hx.old p (lt_of_block h.box) fun e => ?_).trans h.box, key (by decide) h.ru, key (by decide) h.fa, fun i hi => ⟨key (by decide) (h.bd i hi).1, (h.bd i hi).2⟩, h.lo⟩
 have h9 := h.box
 rw [e, hg] at h9
 injection h9 with h9
 injection h9 with _ h9
 exact absurd h9 (by decide)
theorem PB.sorted {w w' : World} {base p : Nat} {lits : Int} {vFo vBe vOl vRu vFa : Value} {rs : List Rule} {vs : Nat → Value} {fa fa' : List Int} (h : PB w base p lits vFo vBe vOl vRu vFa rs vs fa) (hg : w.grownBy w' vFa.ownBlock) (hl : fa'.length = fa.length) (ho : w'.ownsRow base 3 1 vFa fa.length (intsV fa')) : PB w' base p lits vFo vBe vOl vRu vFa rs vs fa' := by
 refine ⟨(hg.block p (lt_of_block h.box) fun e => by have := (h.fa.lt p e.symm).1; have := h.lo; omega).trans h.box, h.ru.kept hg ?_, by rw [hl]; exact ho, fun i hi => ⟨(h.bd i hi).1.kept hg (h.bd i hi).2, (h.bd i hi).2⟩, h.lo⟩
 cases ho1 : vRu.ownBlock with
 | none => exact .inl rfl
 | some g =>
  right
  intro e
  rcases h.fa.2 with ⟨f1, _⟩ | ⟨g3, c3, u3, f1, f2, f3, _⟩
  ·rw [f1] at e; simp [Value.ownBlock] at e
  ·have h9 := own_ne_tag h.ru f3 (by decide)
   rw [f1] at e
   have : g = g3 := by simpa [Value.ownBlock] using e
   subst this
   exact h9 ho1
theorem PB.out9 {w : World} {base p : Nat} {lits : Int} {vFo vBe vOl vRu vFa : Value} {rs : List Rule} {vs : Nat → Value} {fa : List Int} (h : PB w base p lits vFo vBe vOl vRu vFa rs vs fa) (r i : Nat) (h1 : r < base) (h2 : p ≠ r) (v : Value) : PB (w.setCell ⟨r, i, none⟩ v) base p lits vFo vBe vOl vRu vFa rs vs fa := by
 have key : ∀ {e sz n : Nat} {u : Value} {xs : List Value}, w.ownsRow base e sz u n xs → (w.setCell ⟨r, i, none⟩ v).ownsRow base e sz u n xs := fun ho => ownsRow_setCell_other ho (fun e => by have := (ho.lt _ e).1; dsimp only at this; omega) _
 exact ⟨(heap_setCell_other _ _ _ _ h2).trans h.box, key h.ru, key h.fa, fun i hi => ⟨key (h.bd i hi).1, (h.bd i hi).2⟩, h.lo⟩
theorem row_len {T : Th} (hwf : WfTh T) (q : Int) : (row T.foes q).length ≤ 64 := by
 unfold row
 by_cases h : q.toNat < T.foes.length
 ·have := (foes_len hwf h).1
  simpa [h] using this
 ·rw [List.getD_eq_getElem?_getD, List.getElem?_eq_none (by omega)]; simp
/-- What cut answers. -/
def CutPost (w : World) (T : Th) (M : List Nat) (F o : List Int) (vC : Value) (r : Value) (w' : World) : Prop :=
 ∃ (P : Th) (l : List Int) (ol mL : List Nat) (vFo vRu vBe vFa : Value), r = .agg #[.int .i64 P.lits, vFo, vRu, vBe, vFa, vC] ∧ RdTh w' (.agg #[.int .i64 P.lits, vFo, vRu, vBe]) P ∧ RdI w' vFa l ∧ Cut T P F l o M ol (coneL T o).length mL ∧ ol.take (coneL T o).length = (coneL T o).map Int.toNat ∧ Below w.heap.size w w'
set_option maxRecDepth 1000000 in
set_option maxHeartbeats 60000000 in
theorem cutD_any (w : World) (x : Nat) (vM vC vF : Value) (T : Th) (G : List Int) (M : List Nat) (U : List Int) (Ft : Nat → Prop) (h : EngD w x vM T G M U Ft) (hwf : WfTh T) (o F : List Int) (hc : RdI w vC (coneL T o)) (hf : RdI w vF F) (hF : ∀ q ∈ F, 0 ≤ q ∧ q < T.foes.length) (hFl : F.length ≤ 4096)
  (hMl : M.length = T.foes.length) (hM : ∀ q, q < M.length → M.getD q 0 = 0 ∨ M.getD q 0 = 2 ∨ M.getD q 0 = 4 ∨ M.getD q 0 = 5 ∨ M.getD q 0 = 6 ∨ M.getD q 0 = 10) :
  Calls Tryz.prog 70 #[.pointer (some ⟨x, 0, none⟩), vC, vF] w (Ret (CutPost w T M F o vC)) := by
 have hok := coneL_ok T o
 have hcl := hok.le
 have hn4 : T.foes.length ≤ 4096 := by have := hwf.fl; have := hwf.l1; omega
 have hr4 := hwf.rl
 obtain ⟨AF, AR, AB, AM, cF, cR, cB, cM, rfl, her⟩ := h.er
 obtain ⟨Ac, cc, rfl, hcc, hcn, hcr⟩ := hc
 obtain ⟨Af, cf, rfl, hfc, hfn, hfr⟩ := hf
 have hb0 := ext_alloc w (.cells #[.int .i64 0, .slice none 0 0, .slice none 0 0, .slice none 0 0, .slice none 0 0, .slice none 0 0] 111)
 have Hcall := hid (outerD_any _ x _ (.slice Ac (coneL T o).length cc) T G M U Ft (h.ext hb0) hwf (coneL T o) ⟨Ac, cc, rfl, hcc, hcn, hcr.ext (scR_mono _) hb0⟩ hok)
 obtain ⟨D, HD⟩ : ∃ D, Hid (D = outL T (coneL T o) T.rules.length) := ⟨_, hid rfl⟩
 rw [← HD.out] at Hcall
 have hDok : DOk T.foes.length D := by rw [HD.out]; exact outL_ok hwf hok (Nat.le_refl _)
 obtain ⟨E, hE⟩ := outL_pre T (coneL T o) T.rules.length (Nat.le_refl _)
 rw [← HD.out] at hE
 have Her := hid her
 have Hwf := hid hwf
 have Hok := hid hok
 have Hcr := hid hcr
 have Hfr := hid hfr
 have HDok := hid hDok
 have HE := hid hE
 have HM := hid (⟨hMl, hM⟩ : _ ∧ _)
 have HF := hid hF
 have hdl := hDok.le
 unfold CutPost
 clear h her hwf hok hcr hfr hDok hE hMl hM hF hb0
 generalize hCo : coneL T o = cone at *
 have HCo := hid hCo
 clear hCo
 refine post_gen fun Q HQ => ?_
 go_enter Tryz.func70, Tryz.ntmps70
 -- region 0
 refine wp_seq_k fun K hK => ?_
 have HK := hid hK
 clear hK
 go_wp2
 refine HK.out _ _ ?_
 clear HK
 obtain ⟨w0, Hw0⟩ : ∃ w0, Hid (w.alloc (.cells #[.int .i64 0, .slice none 0 0, .slice none 0 0, .slice none 0 0, .slice none 0 0, .slice none 0 0] 111) = w0) := ⟨_, hid rfl⟩
 rw [Hw0.out] at Hcall
 rw [Hw0.out]
 have Hb0 : Hid (Below w.heap.size w w0) := hid (by rw [← Hw0.out]; exact ext_alloc _ _)
 have Hr6 : Hid (w0.heap[w.heap.size]? = some (.cells #[.int .i64 0, .slice none 0 0, .slice none 0 0, .slice none 0 0, .slice none 0 0, .slice none 0 0] 111 (0, 0))) := hid (by rw [← Hw0.out]; exact heap_alloc_new w _)
 -- region 1
 refine wp_seq_k fun K hK => ?_
 have HK := hid hK
 clear hK
 go_wp2_with fail
 refine Hcall.out.mono ?_
 rintro e w1 ⟨_, rfl, b, rfl, hbl, him, hb1⟩
 have Him := hid him
 have Hb1 := hid hb1
 have Hbl := hid hbl
 clear him hb1 Hcall hbl
 go_wp2_with fail
 refine HK.out _ _ ?_
 clear HK
 -- region 2
 refine wp_seq_k fun K hK => ?_
 have HK := hid hK
 clear hK
 have hlen := Him.out.len 3
 have hmk := mkLd D.length (by omega)
 go_wp2
 refine HK.out _ _ ?_
 clear HK hlen hmk
 obtain ⟨W1, HW1⟩ : ∃ W1, Hid ((w1.alloc (.cells (Array.replicate D.length (Value.slice none 0 0)) 36)).alloc (.cells #[.int .i64 (D.length : Int), .slice (some ⟨w1.heap.size, 0, none⟩) D.length D.length, .slice none 0 0, .slice none 0 0, .slice none 0 0, .slice Ac cone.length cc] 111) = W1) := ⟨_, hid rfl⟩
 rw [HW1.out]
 have hB1 : Below w1.heap.size w1 W1 := by rw [← HW1.out]; exact ext_trans (ext_alloc _ _) (ext_alloc _ _)
 have hs1 : W1.heap.size = w1.heap.size + 2 := by rw [← HW1.out]; simp
 have hg1 : W1.heap[w1.heap.size]? = some (.cells (List.replicate D.length (Value.slice none 0 0)).toArray 36 (0, 0)) := by
  rw [← HW1.out, List.toArray_replicate]; exact (Below.heap_alloc _ _ _ (by simp)).trans (heap_alloc_new w1 _)
 have hp1 : W1.heap[w1.heap.size + 1]? = some (.cells #[.int .i64 (D.length : Int), .slice (some ⟨w1.heap.size, 0, none⟩) D.length D.length, .slice none 0 0, .slice none 0 0, .slice none 0 0, .slice Ac cone.length cc] 111 (0, 0)) := by
  have := heap_alloc_new (w1.alloc (.cells (Array.replicate D.length (Value.slice none 0 0)) 36)) (.cells #[.int .i64 (D.length : Int), .slice (some ⟨w1.heap.size, 0, none⟩) D.length D.length, .slice none 0 0, .slice none 0 0, .slice none 0 0, .slice Ac cone.length cc] 111)
  rw [← HW1.out]; simpa using this
 have hb01 : Below w.heap.size w w1 := ext_trans Hb0.out Hb1.out
 have hbW1 : Below w.heap.size w W1 := ext_trans hb01 hB1
 have him1 : IM W1 b D := Him.out.keep (hB1.block b Him.out.lt)
 have hblt := Him.out.lt
 have hs01 := hb01.size
 have hw0s : w.heap.size < w0.heap.size := lt_of_block Hr6.out
 have hb1s := Hb1.out.size
 have hbw := Hbl.out
 -- segment 3
 refine wp_seq_k fun K hK => ?_
 have HK := hid hK
 clear hK
 refine wp_frameC (x := x) (p := w1.heap.size + 1) (b := b) (r6 := w.heap.size) ⟨rfl, rfl, rfl, rfl, rfl, rfl, rfl⟩ fun f => ?_
 refine cut_s3 w W1 x (w1.heap.size + 1) b w.heap.size w1.heap.size Ac Af AF AR AB AM cc cf cF cR cB cM T M cone F D Hwf.out Her.out hbW1 Hcr.out Hok.out him1 (by omega) HDok.out ⟨E, HE.out⟩ _ hp1 rfl (by omega) hg1 (by omega) f K _ ?_
 intro t3 w3 vs3 hf3 hx3
 refine HK.out _ _ ?_
 clear HK
 have hp3 : w3.heap[w1.heap.size + 1]? = some (.cells #[.int .i64 (D.length : Int), .slice (some ⟨w1.heap.size, 0, none⟩) D.length D.length, .slice none 0 0, .slice none 0 0, .slice none 0 0, .slice Ac cone.length cc] 111 (0, 0)) := (hx3.old _ (by omega) (by omega)).trans hp1
 have hb3 : Below w.heap.size w w3 := hx3.low hbW1 (by omega)
 have him3 : IM w3 b D := him1.keep (hx3.old b (by omega) (by omega))
 have hs3 := hx3.sz
 have Hx3 := hid hx3
 have Hp3 := hid hp3
 have Hb3 := hid hb3
 have Him3 := hid him3
 have hr63 : w3.heap[w.heap.size]? = some (.cells #[.int .i64 0, .slice none 0 0, .slice none 0 0, .slice none 0 0, .slice none 0 0, .slice none 0 0] 111 (0, 0)) := (hx3.old _ (by omega) (by omega)).trans ((hB1.block _ (by omega)).trans ((Hb1.out.block _ hw0s).trans Hr6.out))
 have Hr63 := hid hr63
 clear hx3 hp3 hb3 him3 hr63 hg1 hp1 him1 hB1 HW1 hbW1
 -- region 12
 refine wp_seq_k fun K hK => ?_
 have HK := hid hK
 clear hK
 refine wp_frameC hf3 fun f => ?_
 have hmm := @run_makeMap_plain Tryz.prog
 go_wp2
 refine HK.out _ _ ?_
 clear HK hmm
 -- segment 4
 refine wp_seq_k fun K hK => ?_
 have HK := hid hK
 clear hK
 refine wp_frameC13 (x := x) (p := w1.heap.size + 1) (b := b) (r6 := w.heap.size) (bm := w3.heap.size) ⟨rfl, rfl, rfl, rfl, rfl, rfl, rfl⟩ rfl fun f => ?_
 have hext4 := ext_alloc w3 (.map #[] 0)
 refine cut_s4 w w3 _ x (w1.heap.size + 1) b w.heap.size w3.heap.size w3.heap.size (D.length : Int) (.slice (some ⟨w1.heap.size, 0, none⟩) D.length D.length) (.slice Ac cone.length cc) Ac Af AF AR AB AM cc cf cF cR cB cM T M cone F D Hwf.out Her.out Hb3.out Hcr.out Hok.out Him3.out HDok.out HD.out (by omega) (by omega) rfl (Nat.le_refl _) (PB.start ((hext4.block _ (lt_of_block Hp3.out)).trans Hp3.out) (lt_of_block Hp3.out) _) (IM.made w3) (Kp.below hext4) f K _ ?_
 intro t4 w4 vRu4 vs4 hf4 h134 hpb4 him4 hkp4
 refine HK.out _ _ ?_
 clear HK
 -- segment 5
 refine wp_seq_k fun K hK => ?_
 have HK := hid hK
 clear hK
 refine wp_frameC13 hf4 h134 fun f => ?_
 refine cut_s5 w w3 w4 x (w1.heap.size + 1) b w.heap.size w3.heap.size w3.heap.size (D.length : Int) _ _ vRu4 vs4 Ac Af AF AR AB AM cc cf cF cR cB cM T M cone F D Hwf.out Her.out Hb3.out Hcr.out Hok.out Him3.out HDok.out (by omega) (by omega) rfl HM.out.1 HM.out.2 hpb4 him4 hkp4 f K _ ?_
 clear hpb4 him4 hkp4 hf4 h134 vRu4 vs4
 intro t5 w5 vRu vFa0 vs vis hf5 h135 Hvis hvl hpb5 him5 hkp5
 refine HK.out _ _ ?_
 clear HK
 obtain ⟨nR, HnR⟩ : ∃ nR, Hid ((movRs T D cone T.rules.length ++ sayAll M D cone.length vis).length = nR) := ⟨_, hid rfl⟩
 have hnR : nR ≤ 100000 := by
  have := HnR.out
  rw [List.length_append] at this
  have := movRs_le T D cone T.rules.length
  have := sayAll_le M D cone.length vis
  omega
 obtain ⟨Ar, cr, rfl⟩ : ∃ A c, vRu = .slice A nR c := by rw [← HnR.out]; exact own_form0 hpb5.ru
 have c2 : w5.cell? ⟨w1.heap.size + 1, 2, none⟩ = some (.slice Ar nR cr) := by rw [cell_of_row w5 _ 2 _ _ _ hpb5.box]; rfl
 have hfz3 := frozen_of_row w5 (w1.heap.size + 1) 3 _ _ hpb5.box
 have c3 : w5.cell? ⟨w1.heap.size + 1, 3, none⟩ = some (.slice none 0 0) := by rw [cell_of_row w5 _ 3 _ _ _ hpb5.box]; rfl
 have hp5l := lt_of_block hpb5.box
 have Hpb5 := hid hpb5
 have Him5 := hid him5
 have Hkp5 := hid hkp5
 clear hpb5 him5 hkp5
 -- region 33
 refine wp_seq_k fun K hK => ?_
 have HK := hid hK
 clear hK
 refine wp_frameC13 hf5 h135 fun f => ?_
 have hmk := mkLd nR (by omega)
 go_wp2
 refine HK.out _ _ ?_
 clear HK hmk
 obtain ⟨W7, HW7⟩ : ∃ W7, Hid ((w5.setCell ⟨w1.heap.size + 1, 3, none⟩ (.slice (some ⟨w5.heap.size, 0, none⟩) nR nR)).alloc (.cells (Array.replicate nR (Value.slice none 0 0)) 36) = W7) := ⟨_, hid rfl⟩
 rw [HW7.out]
 have hext7 := ext_alloc (w5.setCell ⟨w1.heap.size + 1, 3, none⟩ (.slice (some ⟨w5.heap.size, 0, none⟩) nR nR)) (.cells (Array.replicate nR (Value.slice none 0 0)) 36)
 have hpb7 := (Hpb5.out.setBe (v := .slice (some ⟨w5.heap.size, 0, none⟩) nR nR)).ext hext7
 rw [HW7.out] at hpb7
 have hs7 : W7.heap.size = w5.heap.size + 1 := by rw [← HW7.out]; simp
 have hk7 : ∀ k, k < w5.heap.size → k ≠ w1.heap.size + 1 → W7.heap[k]? = w5.heap[k]? := fun k h1 h2 => by
  rw [← HW7.out]
  exact (hext7.block k (by rw [World.size_setCell]; exact h1)).trans (heap_setCell_other _ _ _ _ h2)
 have hg7 : W7.heap[w5.heap.size]? = some (.cells (List.replicate nR (Value.slice none 0 0)).toArray 36 (0, 0)) := by
  have h9 := heap_alloc_new (w5.setCell ⟨w1.heap.size + 1, 3, none⟩ (.slice (some ⟨w5.heap.size, 0, none⟩) nR nR)) (.cells (Array.replicate nR (Value.slice none 0 0)) 36)
  rw [World.size_setCell] at h9
  rw [← HW7.out, List.toArray_replicate]; exact h9
 have hkp7 : Kp (w1.heap.size + 1) w3 W7 := by rw [← HW7.out]; exact (Hkp5.out.set (.inl rfl) _).trans (Kp.below hext7)
 have hbmp : w3.heap.size ≠ w1.heap.size + 1 := fun e => Him5.out.noCells _ _ _ (by rw [e]; exact Hpb5.out.box)
 have him7 := Him5.out.keep (hk7 _ Him5.out.lt hbmp)
 have hmIl : (mvI T cone T.rules.length).length ≤ nR := by
  have := mvI_len T D cone T.rules.length
  have h9 := HnR.out
  rw [List.length_append] at h9
  omega
 have hmI : ∀ k (h : k < (mvI T cone T.rules.length).length), 0 ≤ (mvI T cone T.rules.length)[k] ∧ (mvI T cone T.rules.length)[k] < T.rules.length := fun k h => by
  have h9 := List.getElem_mem h
  unfold mvI at h9
  obtain ⟨i, hi, e⟩ := List.mem_map.1 h9
  have := (mem_mvL.1 hi).1
  have e2 : (mvI T cone T.rules.length)[k] = (i : Int) := e.symm
  omega
 have Hhpb7 := hid hpb7
 have Hk7 := hid hk7
 have Hg7 := hid hg7
 have Hkp7 := hid hkp7
 clear c2 c3 hfz3 hpb7 hk7 hg7 hext7
 -- segment 6
 refine wp_seq_k fun K hK => ?_
 have HK := hid hK
 clear hK
 refine wp_frameC13 (x := x) (p := w1.heap.size + 1) (b := b) (r6 := w.heap.size) (bm := w3.heap.size) ⟨rfl, rfl, rfl, rfl, rfl, rfl, rfl⟩ rfl fun f => ?_
 refine cut_s6 w W7 x (w1.heap.size + 1) b w.heap.size w3.heap.size w5.heap.size nR Ac Af AF AR AB AM cc cf cF cR cB cM T M cone F (mvI T cone T.rules.length) Hwf.out Her.out (hkp7.lows Hb3.out (by omega)) him7 hmI hmIl _ Hhpb7.out.box rfl (by omega) Hg7.out (by have := Hkp5.out.sz; have := Hb3.out.size; omega) f K _ ?_
 intro t6 w6 vs6 xss vis6 hf6 hx6 hbe6 hall6
 refine HK.out _ _ ?_
 clear HK him7 hmI
 have hpb6 := Hhpb7.out.beside hx6 Hg7.out
 have hkp6 : Kp (w1.heap.size + 1) w3 w6 := ⟨hx6.os.trans Hkp7.out.os, hx6.tape.trans Hkp7.out.tape, hx6.output.trans Hkp7.out.output, Nat.le_trans Hkp7.out.sz hx6.sz, fun k h1 h2 => (hx6.old k (Nat.lt_of_lt_of_le h1 Hkp7.out.sz) (by have := Hkp5.out.sz; omega)).trans (Hkp7.out.old k h1 h2)⟩
 have hfa6 : (sayFacts M D cone.length vis).length ≤ 4096 := by have := sayFacts_le M D cone.length vis; omega
 -- segment 7
 refine wp_seq_k fun K hK => ?_
 have HK := hid hK
 clear hK
 refine wp_frameC hf6 fun f => ?_
 refine cut_s7 w w3 w6 x (w1.heap.size + 1) b w.heap.size w3.heap.size (D.length : Int) _ _ _ _ vFa0 _ vs _ Ac Af cc cf T cone F D E hn4 Hb3.out Hfr.out HF.out hFl hfa6 Him3.out HE.out (by omega) (by omega) rfl hpb6 hkp6 f K _ ?_
 intro t7 w7 vFa hf7 hpb8 hkr
 refine HK.out _ _ ?_
 clear HK
 obtain ⟨l0, Hl0⟩ : ∃ l0, Hid (sayFacts M D cone.length vis ++ inFacts D cone F = l0) := ⟨_, hid rfl⟩
 rw [Hl0.out] at hpb8
 have hl0 : l0.length ≤ 10000 := by
  rw [← Hl0.out, List.length_append]
  have := inFacts_le D cone F
  omega
 have Hsort := hid (sortI_any w7 w3.heap.size vFa l0 hpb8.fa (by omega))
 have c4 : w7.cell? ⟨w1.heap.size + 1, 4, none⟩ = some vFa := by rw [cell_of_row w7 _ 4 _ _ _ hpb8.box]; rfl
 obtain ⟨Aa, ca, rfl⟩ : ∃ A c, vFa = .slice A l0.length c := own_form0 hpb8.fa
 have Hpb8 := hid hpb8
 have Hkr := hid hkr
 have Hx6 := hid hx6
 have Hbe6 := hid hbe6
 have Hall6 := hid hall6
 have Hkp6 := hid hkp6
 have Hhf7 := hid hf7
 clear hpb8 hkr hx6 hbe6 hall6 hkp6 hpb6 hf7 hf6
 -- region 50
 refine wp_seq_k fun K hK => ?_
 have HK := hid hK
 clear hK
 refine wp_frameC Hhf7.out fun f => ?_
 go_wp2_with fail
 refine Hsort.out.mono ?_
 rintro e w8 ⟨_, rfl, rfl, hown8, hg8⟩
 have hpb9 := Hpb8.out.sorted hg8 (srt_length l0) hown8
 have hkp7' : Kp (w1.heap.size + 1) w3 w7 := ⟨Hkr.out.os.trans Hkp6.out.os, Hkr.out.tape.trans Hkp6.out.tape, Hkr.out.output.trans Hkp6.out.output, Nat.le_trans Hkp6.out.sz Hkr.out.sz, fun k h1 h2 => (Hkr.out.old k (Nat.lt_of_lt_of_le h1 Hkp6.out.sz) h2 (fun e => by have := (Hpb5.out.fa.lt k e).1; omega)).trans (Hkp6.out.old k h1 h2)⟩
 have hkp8 : Kp (w1.heap.size + 1) w3 w8 := hkp7'.grown hg8 (fun k hk => .inl (Hpb8.out.fa.lt k hk).1)
 have Hhg8 := hid hg8
 have Hpb9 := hid hpb9
 have Hkp8 := hid hkp8
 clear hown8 hg8 hpb9 hkp8 hkp7' c4 Hsort
 go_wp2_with fail
 refine HK.out _ _ ?_
 clear HK
 -- region 51, the answer
 have hbx := Hpb9.out.box
 have p0 := cell_of_row w8 (w1.heap.size + 1) 0 _ _ _ hbx
 have p1 := cell_of_row w8 (w1.heap.size + 1) 1 _ _ _ hbx
 have p2 := cell_of_row w8 (w1.heap.size + 1) 2 _ _ _ hbx
 have p3 := cell_of_row w8 (w1.heap.size + 1) 3 _ _ _ hbx
 have p4 := cell_of_row w8 (w1.heap.size + 1) 4 _ _ _ hbx
 have p5 := cell_of_row w8 (w1.heap.size + 1) 5 _ _ _ hbx
 have k0 : w8.heap[w.heap.size]? = some (.cells #[.int .i64 0, .slice none 0 0, .slice none 0 0, .slice none 0 0, .slice none 0 0, .slice none 0 0] 111 (0, 0)) := (Hkp8.out.old _ (by omega) (by omega)).trans Hr63.out
 have q0 := frozen_of_row w8 w.heap.size 0 _ _ k0
 have q1 := frozen_of_row w8 w.heap.size 1 _ _ k0
 have q2 := frozen_of_row w8 w.heap.size 2 _ _ k0
 have q3 := frozen_of_row w8 w.heap.size 3 _ _ k0
 have q4 := frozen_of_row w8 w.heap.size 4 _ _ k0
 have q5 := frozen_of_row w8 w.heap.size 5 _ _ k0
 have s0 := cell_of_row w8 w.heap.size 0 _ _ _ k0
 have s1 := cell_of_row w8 w.heap.size 1 _ _ _ k0
 have s2 := cell_of_row w8 w.heap.size 2 _ _ _ k0
 have s3 := cell_of_row w8 w.heap.size 3 _ _ _ k0
 have s4 := cell_of_row w8 w.heap.size 4 _ _ _ k0
 have s5 := cell_of_row w8 w.heap.size 5 _ _ _ k0
 have j0 := heap_setCell_same w8 w.heap.size 0 _ _ (.int .i64 (D.length : Int)) k0
 have j1 := heap_setCell_same _ w.heap.size 1 _ _ (.slice (some ⟨w1.heap.size, 0, none⟩) D.length D.length) j0
 have j2 := heap_setCell_same _ w.heap.size 2 _ _ (.slice Ar nR cr) j1
 have j3 := heap_setCell_same _ w.heap.size 3 _ _ (.slice (some ⟨w5.heap.size, 0, none⟩) nR nR) j2
 have j4 := heap_setCell_same _ w.heap.size 4 _ _ (.slice Aa l0.length ca) j3
 have j5 := heap_setCell_same _ w.heap.size 5 _ _ (.slice Ac cone.length cc) j4
 have o0 := cell_of_row _ _ 0 _ _ _ j5
 have o1 := cell_of_row _ _ 1 _ _ _ j5
 have o2 := cell_of_row _ _ 2 _ _ _ j5
 have o3 := cell_of_row _ _ 3 _ _ _ j5
 have o4 := cell_of_row _ _ 4 _ _ _ j5
 have o5 := cell_of_row _ _ 5 _ _ _ j5
 simp only [List.setIfInBounds_toArray, List.set_cons_zero, List.set_cons_succ, List.getElem?_toArray, List.getElem?_cons_zero, List.getElem?_cons_succ] at o0 o1 o2 o3 o4 o5 p0 p1 p2 p3 p4 p5 s0 s1 s2 s3 s4 s5
 have hkE : Hid (∀ g, g ≠ w.heap.size → ((((((w8.setCell ⟨w.heap.size, 0, none⟩ (.int .i64 (D.length : Int))).setCell ⟨w.heap.size, 1, none⟩ (.slice (some ⟨w1.heap.size, 0, none⟩) D.length D.length)).setCell ⟨w.heap.size, 2, none⟩ (.slice Ar nR cr)).setCell ⟨w.heap.size, 3, none⟩ (.slice (some ⟨w5.heap.size, 0, none⟩) nR nR)).setCell ⟨w.heap.size, 4, none⟩ (.slice Aa l0.length ca)).setCell ⟨w.heap.size, 5, none⟩ (.slice Ac cone.length cc)).heap[g]? = w8.heap[g]?) := hid fun g hg =>
  (heap_setCell_other _ _ g _ hg).trans ((heap_setCell_other _ _ g _ hg).trans ((heap_setCell_other _ _ g _ hg).trans ((heap_setCell_other _ _ g _ hg).trans ((heap_setCell_other _ _ g _ hg).trans (heap_setCell_other _ _ g _ hg)))))
 have hbE : Hid (Below w.heap.size w8 ((((((w8.setCell ⟨w.heap.size, 0, none⟩ (.int .i64 (D.length : Int))).setCell ⟨w.heap.size, 1, none⟩ (.slice (some ⟨w1.heap.size, 0, none⟩) D.length D.length)).setCell ⟨w.heap.size, 2, none⟩ (.slice Ar nR cr)).setCell ⟨w.heap.size, 3, none⟩ (.slice (some ⟨w5.heap.size, 0, none⟩) nR nR)).setCell ⟨w.heap.size, 4, none⟩ (.slice Aa l0.length ca)).setCell ⟨w.heap.size, 5, none⟩ (.slice Ac cone.length cc))) := hid ((((((Below.refl w.heap.size w8).setCell (Nat.le_refl _) _).setCell (Nat.le_refl _) _).setCell (Nat.le_refl _) _).setCell (Nat.le_refl _) _).setCell (Nat.le_refl _) _ |>.setCell (Nat.le_refl _) _)
 have hpE := ((((((Hpb9.out.out9 w.heap.size 0 (by omega) (by omega) (.int .i64 (D.length : Int))).out9 w.heap.size 1 (by omega) (by omega) (.slice (some ⟨w1.heap.size, 0, none⟩) D.length D.length)).out9 w.heap.size 2 (by omega) (by omega) (.slice Ar nR cr)).out9 w.heap.size 3 (by omega) (by omega) (.slice (some ⟨w5.heap.size, 0, none⟩) nR nR)).out9 w.heap.size 4 (by omega) (by omega) (.slice Aa l0.length ca)).out9 w.heap.size 5 (by omega) (by omega) (.slice Ac cone.length cc))
 have HpE := hid hpE
 have hrl8 : w.heap.size < w8.heap.size := lt_of_block k0
 have hpl8 := lt_of_block hbx
 have hne8 : w1.heap.size + 1 ≠ w.heap.size := by omega
 clear hpE hbx k0 j0 j1 j2 j3 j4 j5
 refine wp_seq_k fun K hK => ?_
 have HK := hid hK
 clear hK
 refine wp_frameC (x := x) (p := w1.heap.size + 1) (b := b) (r6 := w.heap.size) ⟨rfl, rfl, rfl, rfl, rfl, rfl, rfl⟩ fun f => ?_
 go_wp2
 refine HK.out _ _ ?_
 clear HK p0 p1 p2 p3 p4 p5 q0 q1 q2 q3 q4 q5 s0 s1 s2 s3 s4 s5
 generalize ((((((w8.setCell ⟨w.heap.size, 0, none⟩ (.int .i64 (D.length : Int))).setCell ⟨w.heap.size, 1, none⟩ (.slice (some ⟨w1.heap.size, 0, none⟩) D.length D.length)).setCell ⟨w.heap.size, 2, none⟩ (.slice Ar nR cr)).setCell ⟨w.heap.size, 3, none⟩ (.slice (some ⟨w5.heap.size, 0, none⟩) nR nR)).setCell ⟨w.heap.size, 4, none⟩ (.slice Aa l0.length ca)).setCell ⟨w.heap.size, 5, none⟩ (.slice Ac cone.length cc)) = wE at *
 go_wp2
 refine bodyPost_ret (by simp [results, Tryz.results70, go_sem, o0, o1, o2, o3, o4, o5]; try rfl) rfl ?_
 have hlowE : Below w.heap.size w wE := (Hkp8.out.lows Hb3.out (by omega)).trans hbE.out
 have hfo : RdLL wE (.slice (some ⟨w1.heap.size, 0, none⟩) D.length D.length) (cutFo T D cone.length) := by
  have h9 := Hx3.out.reads (W := wE) (by rw [cutFo_length]; omega) (fun q hq => by
   rw [cutFo_length] at hq
   rw [cutFo_at hq]
   split
   ·rw [List.length_map]; have := row_len Hwf.out (D.getD q 0); omega
   ·simp) D.length (by rw [cutFo_length]; exact Nat.le_refl _) ((hkE.out _ (by omega)).trans (Hkp8.out.old _ (by omega) (by omega))) fun k h1 h2 => (hkE.out _ (by omega)).trans (Hkp8.out.old k h2 (by omega))
  rw [cutFo_length] at h9
  exact h9
 have hbt : RdLL wE (.slice (some ⟨w5.heap.size, 0, none⟩) nR nR) xss := by
  have hk9 : ∀ k, k = w5.heap.size ∨ W7.heap.size ≤ k → k < w6.heap.size → wE.heap[k]? = w6.heap[k]? := fun k h1 h2 => by
   have h5 := Hkp5.out.sz
   have hv0 : vFa0.ownBlock ≠ some k := fun e => by have := (Hpb5.out.fa.lt k e).2; omega
   have h67 := Hkr.out.sz
   refine (hkE.out k (by omega)).trans ((Hhg8.out.block k (by omega) fun e => ?_).trans (Hkr.out.old k h2 (by omega) hv0))
   rcases Hkr.out.at9 k e.symm with h9 | h9
   ·exact hv0 h9
   ·omega
  have h9 := Hx6.out.reads (W := wE) (by rw [Hbe6.out.len]; omega) (fun q hq => by have := Hbe6.out.le _ (List.getElem_mem hq); omega) nR (by rw [Hbe6.out.len]; exact Nat.le_refl _) (hk9 _ (.inl rfl) (by have := Hx6.out.sz; omega)) fun k h1 h2 => hk9 k (.inr h1) h2
  rw [Hbe6.out.len] at h9
  exact h9
 have hru : RdRs wE (.slice Ar nR cr) (movRs T D cone T.rules.length ++ sayAll M D cone.length vis) := HpE.out.rules (by rw [HnR.out]; omega) (body_le Hwf.out D cone M cone.length vis)
 have hfaE : RdI wE (.slice Aa l0.length ca) (srt l0) := own_rdI HpE.out.fa (by rw [srt_length]; omega)
 have htk : (D.map Int.toNat).take cone.length = cone.map Int.toNat := by
  rw [← List.map_take]; rw [HE.out]; simp
 have hcut : Cut T ⟨(D.length : Int), cutFoes T D cone.length, movRs T D cone T.rules.length ++ sayAll M D cone.length vis, xss⟩ F (srt l0) o M (D.map Int.toNat) cone.length (mvL T cone T.rules.length) := by
  have e := HCo.out
  subst e
  refine cut_of Hwf.out HD.out Hvis (fun q hq => (HF.out q hq).1) (fun k hk y => ?_) (fun y => ?_)
  ·have hk9 : k < (mvI T (coneL T o) T.rules.length).length := by unfold mvI; rw [List.length_map]; exact hk
   rw [Hbe6.out.done k (Hall6.out k hk9) hk9, mem_srt]
   have e2 : (mvI T (coneL T o) T.rules.length)[k].toNat = (mvL T (coneL T o) T.rules.length)[k] := by simp only [mvI, List.getElem_map, Int.toNat_natCast]
   rw [e2]
   exact Iff.rfl
  ·rw [mem_srt, ← Hl0.out]
 exact Fin HQ ⟨_, _, _, _, _, _, _, _, rfl, ⟨_, _, _, rfl, hfo, hru, hbt⟩, hfaE, hcut, htk, hlowE⟩
end Go.Proofs.Lx
