/- Parts of the proof: Pn, Xf. Contracts of lexpriorplain's CopyRule, CopyRules, CopyTheory. -/
import Derived.Test.YtbidjiopnddldaaGreatP14
import Derived.Test.YtbidjiopnddldaaGreatP12
namespace Go.Proofs.Lx
open Go Go.RowKit
set_option linter.unusedSimpArgs false
set_option linter.unusedVariables false

set_option maxHeartbeats 1600000 in
theorem copyRule_any (w : World) (kd hd : Int) (C : Option Addr) (cC : Nat) (bo : List Int) (hv : RdI w (.slice C bo.length cC) bo) (h8 : bo.length * 8 ≤ 140737488355328) :
  Calls Tryz.prog 75 #[.agg #[.int .i64 kd, .int .i64 hd, .slice C bo.length cC]] w (Ret fun r w' => ∃ v, r = .agg #[.int .i64 kd, .int .i64 hd, v] ∧ w'.ownsRow w.heap.size 3 1 v bo.length (intsV bo) ∧ Below w.heap.size w w') := by
 have hb1 := ext_alloc w (.cells #[.int .i64 kd, .int .i64 hd, .slice C bo.length cC] 93)
 have hb2 := ext_alloc (w.alloc (.cells #[.int .i64 kd, .int .i64 hd, .slice C bo.length cC] 93)) (.cells #[.int .i64 0, .int .i64 0, .slice none 0 0] 93)
 have Hcall := hid (copyI_any _ _ bo ((hv.ext (scR_mono _) hb1).ext (scR_mono _) hb2) h8)
 refine post_gen fun Q HQ => ?_
 go_enter Tryz.func75, Tryz.ntmps75
 go_wp2_with fail
 refine Hcall.out.mono ?_
 rintro e w1 ⟨r, rfl, hown, hb3⟩
 have k1 := (hb3.block w.heap.size (by simp; omega)).trans ((hb2.block w.heap.size (by simp)).trans (heap_alloc_new w _))
 have k2 : w1.heap[w.heap.size + 1]? = some (.cells #[.int .i64 0, .int .i64 0, .slice none 0 0] 93) := (hb3.block (w.heap.size + 1) (by simp)).trans (by have := heap_alloc_new (w.alloc (.cells #[.int .i64 kd, .int .i64 hd, .slice C bo.length cC] 93)) (.cells #[.int .i64 0, .int .i64 0, .slice none 0 0] 93); rwa [World.size_alloc] at this)
 have e0 : w1.cell? ⟨w.heap.size, 0, none⟩ = some (.int .i64 kd) := by rw [cell_of_row w1 _ 0 _ _ _ k1]; rfl
 have e1 : w1.cell? ⟨w.heap.size, 1, none⟩ = some (.int .i64 hd) := by rw [cell_of_row w1 _ 1 _ _ _ k1]; rfl
 have e2 : w1.cell? ⟨w.heap.size, 2, none⟩ = some (.slice C bo.length cC) := by rw [cell_of_row w1 _ 2 _ _ _ k1]; rfl
 have f2 := frozen_of_row w1 w.heap.size 2 _ _ k1
 have g0 : w1.cell? ⟨w.heap.size + 1, 0, none⟩ = some (.int .i64 0) := by rw [cell_of_row w1 _ 0 _ _ _ k2]; rfl
 have g1 : w1.cell? ⟨w.heap.size + 1, 1, none⟩ = some (.int .i64 0) := by rw [cell_of_row w1 _ 1 _ _ _ k2]; rfl
 have g2 : w1.cell? ⟨w.heap.size + 1, 2, none⟩ = some (.slice none 0 0) := by rw [cell_of_row w1 _ 2 _ _ _ k2]; rfl
 have y0 := frozen_of_row w1 (w.heap.size + 1) 0 _ _ k2
 have y1 := frozen_of_row w1 (w.heap.size + 1) 1 _ _ k2
 have y2 := frozen_of_row w1 (w.heap.size + 1) 2 _ _ k2
 have hsz := hb3.size
 rw [World.size_alloc, World.size_alloc] at hsz
 obtain ⟨B1, c1, rfl⟩ := own_form0 hown
 have Hown := hid hown
 have Hb3 := hid hb3
 have Hb2 := hid (ext_trans hb1 hb2)
 clear hown hb3 hb2 hb1 Hcall
 go_wp2
 have k3 := (heap_setCell_other w1 ⟨w.heap.size, 2, none⟩ (w.heap.size + 1) (.slice B1 bo.length c1) (by simp)).trans k2
 have k4 := (heap_setCell_same _ (w.heap.size + 1) 0 _ _ (.int .i64 kd) k3)
 have k5 := (heap_setCell_same _ (w.heap.size + 1) 1 _ _ (.int .i64 hd) k4)
 have k6 := (heap_setCell_same _ (w.heap.size + 1) 2 _ _ (.slice B1 bo.length c1) k5)
 have z0 := cell_of_row _ _ 0 _ _ _ k6
 have z1 := cell_of_row _ _ 1 _ _ _ k6
 have z2 := cell_of_row _ _ 2 _ _ _ k6
 simp only [List.setIfInBounds_toArray, List.set_cons_zero, List.set_cons_succ, List.getElem?_toArray, List.getElem?_cons_zero, List.getElem?_cons_succ] at z0 z1 z2
 have hb9 : Below w.heap.size w ((((w1.setCell ⟨w.heap.size, 2, none⟩ (.slice B1 bo.length c1)).setCell ⟨w.heap.size + 1, 0, none⟩ (.int .i64 kd)).setCell ⟨w.heap.size + 1, 1, none⟩ (.int .i64 hd)).setCell ⟨w.heap.size + 1, 2, none⟩ (.slice B1 bo.length c1)) := ((((ext_trans Hb2.out Hb3.out).setCell (Nat.le_refl _) _).setCell (by dsimp only; omega) _).setCell (by dsimp only; omega) _).setCell (by dsimp only; omega) _
 have ho : w1.ownsRow (w.heap.size + 1 + 1) 3 1 (.slice B1 bo.length c1) bo.length (intsV bo) := by
  have h9 := Hown.out
  rw [World.size_alloc, World.size_alloc] at h9
  exact h9
 have hne : ∀ g, g < w.heap.size + 2 → (Value.slice B1 bo.length c1).ownBlock ≠ some g := fun g hg e => by have := (ho.lt g e).1; omega
 have ho4 : ((((w1.setCell ⟨w.heap.size, 2, none⟩ (.slice B1 bo.length c1)).setCell ⟨w.heap.size + 1, 0, none⟩ (.int .i64 kd)).setCell ⟨w.heap.size + 1, 1, none⟩ (.int .i64 hd)).setCell ⟨w.heap.size + 1, 2, none⟩ (.slice B1 bo.length c1)).ownsRow (w.heap.size + 1 + 1) 3 1 (.slice B1 bo.length c1) bo.length (intsV bo) :=
  ownsRow_setCell_other (ownsRow_setCell_other (ownsRow_setCell_other (ownsRow_setCell_other ho (hne _ (by dsimp only; omega)) _) (hne _ (by dsimp only; omega)) _) (hne _ (by dsimp only; omega)) _) (hne _ (by dsimp only; omega)) _
 clear k1 k2 k3 k4 k5 k6 e0 e1 e2 f2 g0 g1 g2 y0 y1 y2 ho hne
 generalize (((w1.setCell ⟨w.heap.size, 2, none⟩ (.slice B1 bo.length c1)).setCell ⟨w.heap.size + 1, 0, none⟩ (.int .i64 kd)).setCell ⟨w.heap.size + 1, 1, none⟩ (.int .i64 hd)).setCell ⟨w.heap.size + 1, 2, none⟩ (.slice B1 bo.length c1) = W4 at *
 refine bodyPost_ret (by simp [results, Tryz.results75, go_sem, z0, z1, z2]; try rfl) rfl ?_
 exact Fin HQ ⟨_, rfl, own_mono ho4 (by omega), hb9⟩

theorem infoR : (Tryz.prog.info? 93).map (fun i => (i.zero, i.size, i.bytes)) = some (some (.agg #[.int .i64 0, .int .i64 0, .slice none 0 0]), 3, 40) := by kernel_rfl
theorem info_parts3 {P : Program} {e : TypeId} {z : Value} {s b : Nat} (h : (P.info? e).map (fun i => (i.zero, i.size, i.bytes)) = some (some z, s, b)) : ∃ i, P.info? e = some i ∧ i.zero = some z ∧ i.size = s ∧ i.bytes = b := by
 obtain ⟨i, hi, hz⟩ := Option.map_eq_some_iff.1 h
 simp only [Prod.mk.injEq] at hz
 exact ⟨i, hi, hz.1, hz.2.1, hz.2.2⟩
/-- Rules as cells, each body a value of its own. -/
def ruleCells (rs : List Rule) (vs : List Value) : List Value := (rs.zip vs).flatMap fun p => [.int .i64 p.1.kind, .int .i64 p.1.head, p.2]
theorem ruleCells_snoc {rs : List Rule} {vs : List Value} (h : rs.length = vs.length) (r : Rule) (v : Value) : ruleCells (rs ++ [r]) (vs ++ [v]) = ruleCells rs vs ++ [.int .i64 r.kind, .int .i64 r.head, v] := by
 rw [ruleCells, List.zip_append h, List.flatMap_append]; rfl
theorem ruleCells_at {rs : List Rule} {vs : List Value} (h : rs.length = vs.length) : ∀ {i j : Nat} {u : Value} (hi : i < rs.length), [Value.int .i64 rs[i].kind, .int .i64 rs[i].head, vs[i]'(by omega)][j]? = some u → (ruleCells rs vs)[i * 3 + j]? = some u := by
 induction rs generalizing vs with
 | nil => intro i j u hi; simp at hi
 | cons r rs ih =>
  match vs, h with
  | v :: vs, h =>
   intro i j u hi hu
   have hj : j < 3 := by have := (List.getElem?_eq_some_iff.1 hu).1; simpa using this
   match i, hi, hu with
   | 0, hi, hu =>
    have e : ruleCells (r :: rs) (v :: vs) = [.int .i64 r.kind, .int .i64 r.head, v] ++ ruleCells rs vs := rfl
    rw [e, List.getElem?_append_left (by simp; omega)]
    simpa using hu
   | i + 1, hi, hu =>
    have e : ruleCells (r :: rs) (v :: vs) = [.int .i64 r.kind, .int .i64 r.head, v] ++ ruleCells rs vs := rfl
    rw [e, List.getElem?_append_right (by simp; omega)]
    have := ih (vs := vs) (by simpa using h) (i := i) (j := j) (u := u) (by simpa using hi) (by simpa using hu)
    rw [← this]; congr 1; simp; omega
theorem KeptRows.at {base : Nat} {wr : World} {v3 : Value} {vs : List Value} {rs : List Rule} (h : KeptRows base wr v3 vs (rs.map (·.body))) : vs.length = rs.length ∧ ∀ i (h1 : i < vs.length) (h2 : i < rs.length), wr.ownsRow base 3 1 vs[i] rs[i].body.length (intsV rs[i].body) :=
 ⟨by simpa using h.1, fun i h1 h2 => by have := (h.2 i h1 (by rw [List.length_map]; exact h2)).1; rw [List.getElem_map] at this; exact this⟩
/-- Rules, all of the call's own. -/
def OwnRs (base : Nat) (w : World) (v : Value) (rs : List Rule) : Prop :=
 ∃ vs : List Value, vs.length = rs.length ∧ w.ownsRow base 93 3 v rs.length (ruleCells rs vs) ∧ ∀ i (h1 : i < vs.length) (h2 : i < rs.length), w.ownsRow base 3 1 vs[i] rs[i].body.length (intsV rs[i].body)
theorem OwnRs.keep {base : Nat} {w w' : World} {v : Value} {rs : List Rule} (h : OwnRs base w v rs) (hk : ∀ g, base ≤ g → g < w.heap.size → w'.heap[g]? = w.heap[g]?) : OwnRs base w' v rs := by
 obtain ⟨vs, h1, h2, h3⟩ := h
 exact ⟨vs, h1, own_heap h2 hk, fun i a b => own_heap (h3 i a b) hk⟩
theorem own_rules {w : World} {base eS : Nat} {v : Value} {vs : List Value} {rs : List Rule} (h : w.ownsRow base eS 3 v rs.length (ruleCells rs vs)) (hk : vs.length = rs.length) (hl : rs.length ≤ 140737488355328)
  (hr : ∀ i (h1 : i < vs.length) (h2 : i < rs.length), RdI w vs[i] rs[i].body) : RdRs w v rs := by
 rcases h.2 with ⟨rfl, h0⟩ | ⟨gg, cap, cur, rfl, _, _, hc, _⟩
 ·exact ⟨none, 0, by rw [h0], by omega, hl, fun i hi => absurd hi (by omega)⟩
 ·refine ⟨_, cap, rfl, hc, hl, fun i hi => ⟨_, [.int .i64 rs[i].kind, .int .i64 rs[i].head, vs[i]'(by omega)], rfl, ⟨_, rfl, hr i (by omega) hi⟩, rfl, fun j u hu => ?_⟩⟩
  exact h.cells (g := gg) rfl (i * 3 + j) u (ruleCells_at hk.symm hi hu)

theorem OwnRs.rd {base : Nat} {w : World} {v : Value} {rs : List Rule} (h : OwnRs base w v rs) (hl : rs.length ≤ 140737488355328) (hr : ∀ r ∈ rs, r.body.length ≤ 140737488355328) : RdRs w v rs := by
 obtain ⟨vs, h1, h2, h3⟩ := h
 exact own_rules h2 h1 hl fun i a b => own_rdI (h3 i a b) (hr _ (List.getElem_mem b))
set_option maxRecDepth 100000 in
set_option maxHeartbeats 3200000 in
theorem copyRules_any (w : World) (v : Value) (L : List Rule) (hv : RdRs w v L) (h40 : L.length * 40 ≤ 140737488355328) (h8 : ∀ r ∈ L, r.body.length * 8 ≤ 140737488355328) :
  Calls Tryz.prog 53 #[v] w (Ret fun r w' => OwnRs w.heap.size w' r L ∧ Below w.heap.size w w') := by
 obtain ⟨A, c, rfl, hc, hb, hr⟩ := hv
 obtain ⟨i0, hi, hz0, hz1, hz2⟩ := info_parts3 infoR
 refine post_gen fun Q HQ => ?_
 have H8 := hid h8
 generalize hn : L.length = n at *
 have Hn := hid hn
 clear hn h8
 go_enter Tryz.func53, Tryz.ntmps53
 go_wp2
 go_loopw [3, 4] (fun v3 v4 wr => ∃ (k : Nat) (vs : List Value), k ≤ n ∧ v4 = .int .i64 k ∧ wr.ownsRow w.heap.size 93 3 v3 k (ruleCells (L.take k) vs) ∧ Hid (KeptRows w.heap.size wr v3 vs ((L.take k).map (·.body))) ∧ Below w.heap.size w wr) (fun _ v4 _ => n - (intOf v4).toNat)
 case atStart => exact ⟨0, [], Nat.zero_le _, rfl, World.ownsRow_nil _ _ _ _, hid ⟨by simp, fun i h => absurd h (by simp)⟩, ext_refl _⟩
 case round =>
  obtain ⟨k, vs, hk, rfl, hown, hkept, hbl⟩ := hrel
  by_cases hlt : k < n
  ·have hx : k < L.length := by rw [Hn.out]; exact hlt
   obtain ⟨ad, B, cB, rfl, p0, p1, p2, hcB, hbB, hrB⟩ := (hr.ext ruleR_mono hbl).atRule hx
   have hXk : ∃ x, Hid (L[k] = x) := ⟨_, hid rfl⟩
   obtain ⟨x, HX⟩ := hXk
   have Hb8 : Hid (x.body.length * 8 ≤ 140737488355328) := hid (by rw [← HX.out]; exact H8.out _ (List.getElem_mem hx))
   rw [HX.out] at p0 p1 p2 hcB hbB hrB
   have Hcall := hid (copyRule_any wr x.kind x.head B cB x.body ⟨B, cB, rfl, hcB, hbB, hrB⟩ Hb8.out)
   have Hx := hid hx
   have Hown := hid hown
   have hsz := hbl.size
   clear hown hrB
   go_wp2_with (first | (go_at_call 75; refine Hcall.out.mono ?_; rintro e w1 ⟨_, rfl, r1, rfl, hr1, hb1⟩; have hs1 := hb1.size; have Hr1 := hid hr1; have Hown1 := hid (own_ext Hown.out hb1); clear hr1; obtain ⟨B1, c1, rfl⟩ := own_form0 Hr1.out) | (at_builtin; refine wpList_append_own_at _ rfl _ _ 23 rfl w.heap.size 93 i0 (.agg #[.int .i64 0, .int .i64 0, .slice none 0 0]) 3 40 Tryz.underlying23 hi hz0 hz1 hz2 rfl (by decide) _ k _ rfl (Hown1.out.alloc _) ⟨w1.heap.size, 0, none⟩ 1 1 [.int .i64 x.kind, .int .i64 x.head, .slice B1 x.body.length c1] rfl rfl (cell_three_new _ _ _ _ _) (fun u hu => by simp at hu; rcases hu with rfl | rfl | rfl <;> rfl) (by unfold maxLen; omega) (by omega) (by simp; omega) ?_; intro v' w3 hown' hgrow3 hnil3 hat3))
   go_roundw
   case rel =>
    refine ⟨k + 1, vs ++ [.slice B1 x.body.length c1], by omega, by go_num, ?_, hid ?_, ?_⟩
    ·rw [List.take_succ_eq_append_getElem Hx.out, HX.out, ruleCells_snoc hkept.out.at.1.symm]; exact hown'
    ·rw [List.take_succ_eq_append_getElem Hx.out, HX.out]
     rw [List.map_append]
     exact hkept.out.push hsz (fun g e => (Hown.out.lt g e).2) Hr1.out hb1 (ext_alloc w1 _) hgrow3 hat3
    ·exact below_grown ((ext_trans hbl hb1).alloc (by omega) _) (by simp; omega) hgrow3 (fun g e => (Hown.out.lt g e).1)
   case measure => simp [intOf]; omega
  ·have e : k = n := by omega
   subst e
   go_wp2
   go_ret
   refine Fin HQ ⟨?_, hbl⟩
   rw [List.take_of_length_le (by rw [Hn.out]; exact Nat.le_refl _)] at hkept hown
   rw [← Hn.out] at hown
   exact ⟨vs, hkept.out.at.1, hown, hkept.out.at.2⟩

end Go.Proofs.Lx

namespace Go.Proofs.Lx
open Go Go.RowKit
set_option linter.unusedSimpArgs false
set_option linter.unusedVariables false
/-- A copy of a theory: its foes, rules and beats, each in blocks of its own, one after the other. -/
def CpTh (w w' : World) (T : Th) (r : Value) : Prop := ∃ vF vR vB b1 b2, r = .agg #[.int .i64 T.lits, vF, vR, vB] ∧ w.heap.size ≤ b1 ∧ b1 ≤ b2 ∧ b2 ≤ w'.heap.size ∧
 (∀ W : World, (∀ g, w.heap.size ≤ g → g < b1 → W.heap[g]? = w'.heap[g]?) → RdLL W vF T.foes) ∧ OwnRs b1 w' vR T.rules ∧ OwnLL b2 w' vB T.beats ∧ Below w.heap.size w w'
set_option maxRecDepth 100000 in
set_option maxHeartbeats 3200000 in
theorem copyThO_any (w : World) (V : Value) (T : Th) (hT : RdTh w V T) (hs : Small T) :
  Calls Tryz.prog 29 #[V] w (Ret fun r w' => CpTh w w' T r) := by
 have Hs := hid hs
 obtain ⟨vF, vR, vB, rfl, hF, hR, hB⟩ := hT
 obtain ⟨W1, HW1⟩ : ∃ W1, Hid (W1 = w.alloc (.cells #[.int .i64 T.lits, vF, vR, vB] 25)) := ⟨_, hid rfl⟩
 obtain ⟨W2, HW2⟩ : ∃ W2, Hid (W2 = W1.alloc (.cells #[.int .i64 0, .slice none 0 0, .slice none 0 0, .slice none 0 0] 25)) := ⟨_, hid rfl⟩
 have hb1 : Below w.heap.size w W1 := by rw [HW1.out]; exact ext_alloc _ _
 have hb2 : Below W1.heap.size W1 W2 := by rw [HW2.out]; exact ext_alloc _ _
 have hs1 : W1.heap.size = w.heap.size + 1 := by rw [HW1.out]; simp
 have hs2 : W2.heap.size = w.heap.size + 2 := by rw [HW2.out]; simp [hs1]
 have k1 : W2.heap[w.heap.size]? = some (.cells #[.int .i64 T.lits, vF, vR, vB] 25) := (hb2.block w.heap.size (by omega)).trans (by rw [HW1.out]; exact heap_alloc_new w _)
 have k2 : W2.heap[w.heap.size + 1]? = some (.cells #[.int .i64 0, .slice none 0 0, .slice none 0 0, .slice none 0 0] 25) := by rw [HW2.out, ← hs1]; exact heap_alloc_new W1 _
 have hb12 := ext_trans hb1 hb2
 have hF2 := hF.ext llR_mono hb12
 have hR2 := hR.ext ruleR_mono hb12
 have hB2 := hB.ext llR_mono hb12
 have e0 : W2.cell? ⟨w.heap.size, 0, none⟩ = some (.int .i64 T.lits) := by rw [cell_of_row W2 _ 0 _ _ _ k1]; rfl
 have e1 : W2.cell? ⟨w.heap.size, 1, none⟩ = some vF := by rw [cell_of_row W2 _ 1 _ _ _ k1]; rfl
 have e2 : W2.cell? ⟨w.heap.size, 2, none⟩ = some vR := by rw [cell_of_row W2 _ 2 _ _ _ k1]; rfl
 have e3 : W2.cell? ⟨w.heap.size, 3, none⟩ = some vB := by rw [cell_of_row W2 _ 3 _ _ _ k1]; rfl
 have Hc1 := hid (copyLL_any W2 vF T.foes hF2 hs.f hs.fr)
 obtain ⟨AF, cF, rfl, _⟩ := hF
 refine post_gen fun Q HQ => ?_
 go_enter Tryz.func29, Tryz.ntmps29
 go_wp2_with fail
 rw [← HW1.out, ← HW2.out]
 refine Hc1.out.mono ?_
 rintro e w3 ⟨r1, rfl, hr1, hb3⟩
 have hs3 := hb3.size
 obtain ⟨A1, c1, rfl⟩ : ∃ A c, r1 = .slice A T.foes.length c := by obtain ⟨_, _, h, _⟩ := hr1; exact own_form0 h
 have k13 := (hb3.block w.heap.size (by omega)).trans k1
 have k23 := (hb3.block (w.heap.size + 1) (by omega)).trans k2
 have j1 := heap_setCell_same w3 w.heap.size 1 _ _ (.slice A1 T.foes.length c1) k13
 have j2 := (heap_setCell_other w3 ⟨w.heap.size, 1, none⟩ (w.heap.size + 1) (.slice A1 T.foes.length c1) (by simp)).trans k23
 have f1 := frozen_of_row w3 w.heap.size 1 _ _ k13
 have x1 : w3.cell? ⟨w.heap.size, 1, none⟩ = some (.slice AF T.foes.length cF) := by rw [cell_of_row w3 _ 1 _ _ _ k13]; rfl
 have x2 : w3.cell? ⟨w.heap.size, 2, none⟩ = some vR := by rw [cell_of_row w3 _ 2 _ _ _ k13]; rfl
 have hr4 := hr1.keep (w' := w3.setCell ⟨w.heap.size, 1, none⟩ (.slice A1 T.foes.length c1)) fun g hg _ => heap_setCell_other w3 _ g _ (by dsimp only; omega)
 have hb4 : Below w.heap.size w (w3.setCell ⟨w.heap.size, 1, none⟩ (.slice A1 T.foes.length c1)) := (ext_trans hb12 hb3).setCell (Nat.le_refl _) _
 have hsz4 : (w3.setCell ⟨w.heap.size, 1, none⟩ (.slice A1 T.foes.length c1)).heap.size = w3.heap.size := by simp
 have Hc2 := hid (copyRules_any (w3.setCell ⟨w.heap.size, 1, none⟩ (.slice A1 T.foes.length c1)) vR T.rules (hR.ext ruleR_mono hb4) Hs.out.r Hs.out.rb)
 obtain ⟨AR, cR, rfl, _⟩ := hR
 have HR1 := hid hr1
 have HK13 : Hid (∀ g, w.heap.size + 2 ≤ g → g < w3.heap.size → (w3.setCell ⟨w.heap.size, 1, none⟩ (.slice A1 T.foes.length c1)).heap[g]? = w3.heap[g]?) := hid fun g h1 _ => heap_setCell_other w3 _ g _ (by dsimp only; omega)
 clear hr1 k13 k23 k1 k2 e0 e1 e2 e3 hF2 hR2 hB2 Hc1
 go_wp2_with fail
 refine Hc2.out.mono ?_
 rintro e w5 ⟨r2, rfl, hr2, hb5⟩
 have hs5 := hb5.size
 have hb45 := ext_trans hb4 hb5
 have hr5 := hr4.keep (w' := w5) fun g _ hg => hb5.block g hg
 obtain ⟨A2, c2, rfl⟩ : ∃ A c, r2 = .slice A T.rules.length c := by obtain ⟨_, _, h, _⟩ := hr2; exact own_form0 h
 have k15 := (hb5.block w.heap.size (by omega)).trans j1
 have k25 := (hb5.block (w.heap.size + 1) (by omega)).trans j2
 have j3 := heap_setCell_same w5 w.heap.size 2 _ _ (.slice A2 T.rules.length c2) k15
 have j4 := (heap_setCell_other w5 ⟨w.heap.size, 2, none⟩ (w.heap.size + 1) (.slice A2 T.rules.length c2) (by simp)).trans k25
 have f2 := frozen_of_row w5 w.heap.size 2 _ _ k15
 have y2 : w5.cell? ⟨w.heap.size, 2, none⟩ = some (.slice AR T.rules.length cR) := by rw [cell_of_row w5 _ 2 _ _ _ k15]; rfl
 have y3 : w5.cell? ⟨w.heap.size, 3, none⟩ = some vB := by rw [cell_of_row w5 _ 3 _ _ _ k15]; rfl
 have hr6 := hr5.keep (w' := w5.setCell ⟨w.heap.size, 2, none⟩ (.slice A2 T.rules.length c2)) fun g hg _ => heap_setCell_other w5 _ g _ (by dsimp only; omega)
 have hq6 := hr2.keep (w' := w5.setCell ⟨w.heap.size, 2, none⟩ (.slice A2 T.rules.length c2)) fun g hg _ => heap_setCell_other w5 _ g _ (by dsimp only; omega)
 have hb6 : Below w.heap.size w (w5.setCell ⟨w.heap.size, 2, none⟩ (.slice A2 T.rules.length c2)) := hb45.setCell (Nat.le_refl _) _
 have hsz6 : (w5.setCell ⟨w.heap.size, 2, none⟩ (.slice A2 T.rules.length c2)).heap.size = w5.heap.size := by simp
 have Hc3 := hid (copyLL_any (w5.setCell ⟨w.heap.size, 2, none⟩ (.slice A2 T.rules.length c2)) vB T.beats (hB.ext llR_mono hb6) Hs.out.b Hs.out.br)
 obtain ⟨AB, cB, rfl, _⟩ := hB
 have HK5 : Hid (∀ g, w.heap.size + 2 ≤ g → g < w3.heap.size → (w5.setCell ⟨w.heap.size, 2, none⟩ (.slice A2 T.rules.length c2)).heap[g]? = w3.heap[g]?) := hid fun g h1 h2 => (heap_setCell_other w5 _ g _ (by dsimp only; omega)).trans ((hb5.block g (by omega)).trans (HK13.out g h1 h2))
 clear Hc2 j1 j2 f1 x1 x2 k15 k25 hr4 hr5 hr2
 go_wp2_with fail
 refine Hc3.out.mono ?_
 rintro e w7 ⟨r3, rfl, hr3, hb7⟩
 have hs7 := hb7.size
 have hb67 := ext_trans hb6 hb7
 have hr7 := hr6.keep (w' := w7) fun g _ hg => hb7.block g hg
 have hq7 := hq6.keep (w' := w7) fun g _ hg => hb7.block g hg
 obtain ⟨A3, c3, rfl⟩ : ∃ A c, r3 = .slice A T.beats.length c := by obtain ⟨_, _, h, _⟩ := hr3; exact own_form0 h
 have k17 := (hb7.block w.heap.size (by omega)).trans j3
 have k27 := (hb7.block (w.heap.size + 1) (by omega)).trans j4
 have j5 := heap_setCell_same w7 w.heap.size 3 _ _ (.slice A3 T.beats.length c3) k17
 have j6 := (heap_setCell_other w7 ⟨w.heap.size, 3, none⟩ (w.heap.size + 1) (.slice A3 T.beats.length c3) (by simp)).trans k27
 have f3 := frozen_of_row w7 w.heap.size 3 _ _ k17
 have z0 : w7.cell? ⟨w.heap.size, 0, none⟩ = some (.int .i64 T.lits) := by rw [cell_of_row w7 _ 0 _ _ _ k17]; rfl
 have z1 : w7.cell? ⟨w.heap.size, 1, none⟩ = some (.slice A1 T.foes.length c1) := by rw [cell_of_row w7 _ 1 _ _ _ k17]; rfl
 have z2 : w7.cell? ⟨w.heap.size, 2, none⟩ = some (.slice A2 T.rules.length c2) := by rw [cell_of_row w7 _ 2 _ _ _ k17]; rfl
 have z3 : w7.cell? ⟨w.heap.size, 3, none⟩ = some (.slice AB T.beats.length cB) := by rw [cell_of_row w7 _ 3 _ _ _ k17]; rfl
 have q0 : w7.cell? ⟨w.heap.size + 1, 0, none⟩ = some (.int .i64 0) := by rw [cell_of_row w7 _ 0 _ _ _ k27]; rfl
 have q1 : w7.cell? ⟨w.heap.size + 1, 1, none⟩ = some (.slice none 0 0) := by rw [cell_of_row w7 _ 1 _ _ _ k27]; rfl
 have q2 : w7.cell? ⟨w.heap.size + 1, 2, none⟩ = some (.slice none 0 0) := by rw [cell_of_row w7 _ 2 _ _ _ k27]; rfl
 have q3 : w7.cell? ⟨w.heap.size + 1, 3, none⟩ = some (.slice none 0 0) := by rw [cell_of_row w7 _ 3 _ _ _ k27]; rfl
 have p0 := frozen_of_row w7 (w.heap.size + 1) 0 _ _ k27
 have p1 := frozen_of_row w7 (w.heap.size + 1) 1 _ _ k27
 have p2 := frozen_of_row w7 (w.heap.size + 1) 2 _ _ k27
 have p3 := frozen_of_row w7 (w.heap.size + 1) 3 _ _ k27
 have j7 := heap_setCell_same _ (w.heap.size + 1) 0 _ _ (.int .i64 T.lits) j6
 have j8 := heap_setCell_same _ (w.heap.size + 1) 1 _ _ (.slice A1 T.foes.length c1) j7
 have j9 := heap_setCell_same _ (w.heap.size + 1) 2 _ _ (.slice A2 T.rules.length c2) j8
 have j10 := heap_setCell_same _ (w.heap.size + 1) 3 _ _ (.slice A3 T.beats.length c3) j9
 have o0 := cell_of_row _ _ 0 _ _ _ j10
 have o1 := cell_of_row _ _ 1 _ _ _ j10
 have o2 := cell_of_row _ _ 2 _ _ _ j10
 have o3 := cell_of_row _ _ 3 _ _ _ j10
 simp only [List.setIfInBounds_toArray, List.set_cons_zero, List.set_cons_succ, List.getElem?_toArray, List.getElem?_cons_zero, List.getElem?_cons_succ] at o0 o1 o2 o3
 have hb9 : Below w.heap.size w (((((w7.setCell ⟨w.heap.size, 3, none⟩ (.slice A3 T.beats.length c3)).setCell ⟨w.heap.size + 1, 0, none⟩ (.int .i64 T.lits)).setCell ⟨w.heap.size + 1, 1, none⟩ (.slice A1 T.foes.length c1)).setCell ⟨w.heap.size + 1, 2, none⟩ (.slice A2 T.rules.length c2)).setCell ⟨w.heap.size + 1, 3, none⟩ (.slice A3 T.beats.length c3)) := ((((hb67.setCell (Nat.le_refl _) _).setCell (by dsimp only; omega) _).setCell (by dsimp only; omega) _).setCell (by dsimp only; omega) _).setCell (by dsimp only; omega) _
 have hk9 : ∀ g, w.heap.size + 2 ≤ g → (((((w7.setCell ⟨w.heap.size, 3, none⟩ (.slice A3 T.beats.length c3)).setCell ⟨w.heap.size + 1, 0, none⟩ (.int .i64 T.lits)).setCell ⟨w.heap.size + 1, 1, none⟩ (.slice A1 T.foes.length c1)).setCell ⟨w.heap.size + 1, 2, none⟩ (.slice A2 T.rules.length c2)).setCell ⟨w.heap.size + 1, 3, none⟩ (.slice A3 T.beats.length c3)).heap[g]? = w7.heap[g]? := fun g hg =>
  (heap_setCell_other _ _ g _ (by dsimp only; omega)).trans ((heap_setCell_other _ _ g _ (by dsimp only; omega)).trans ((heap_setCell_other _ _ g _ (by dsimp only; omega)).trans ((heap_setCell_other _ _ g _ (by dsimp only; omega)).trans (heap_setCell_other _ _ g _ (by dsimp only; omega)))))
 have hfl : T.foes.length ≤ 140737488355328 := by have := Hs.out.f; omega
 have Hr9 : Hid (∀ W : World, (∀ g, w.heap.size ≤ g → g < w3.heap.size → W.heap[g]? = (((((w7.setCell ⟨w.heap.size, 3, none⟩ (.slice A3 T.beats.length c3)).setCell ⟨w.heap.size + 1, 0, none⟩ (.int .i64 T.lits)).setCell ⟨w.heap.size + 1, 1, none⟩ (.slice A1 T.foes.length c1)).setCell ⟨w.heap.size + 1, 2, none⟩ (.slice A2 T.rules.length c2)).setCell ⟨w.heap.size + 1, 3, none⟩ (.slice A3 T.beats.length c3)).heap[g]?) → RdLL W (.slice A1 T.foes.length c1) T.foes) := hid fun W hW => (HR1.out.keep (w' := W) fun g h1 h2 => (hW g (by omega) h2).trans ((hk9 g (by omega)).trans ((hb7.block g (by omega)).trans (HK5.out g (by omega) h2)))).rd hfl (fun l hl => by have := Hs.out.fr l hl; omega)
 have Hq9 := hid (hq7.keep (w' := (((((w7.setCell ⟨w.heap.size, 3, none⟩ (.slice A3 T.beats.length c3)).setCell ⟨w.heap.size + 1, 0, none⟩ (.int .i64 T.lits)).setCell ⟨w.heap.size + 1, 1, none⟩ (.slice A1 T.foes.length c1)).setCell ⟨w.heap.size + 1, 2, none⟩ (.slice A2 T.rules.length c2)).setCell ⟨w.heap.size + 1, 3, none⟩ (.slice A3 T.beats.length c3))) fun g hg _ => hk9 g (by omega))
 have Ht9 := hid (hr3.keep (w' := (((((w7.setCell ⟨w.heap.size, 3, none⟩ (.slice A3 T.beats.length c3)).setCell ⟨w.heap.size + 1, 0, none⟩ (.int .i64 T.lits)).setCell ⟨w.heap.size + 1, 1, none⟩ (.slice A1 T.foes.length c1)).setCell ⟨w.heap.size + 1, 2, none⟩ (.slice A2 T.rules.length c2)).setCell ⟨w.heap.size + 1, 3, none⟩ (.slice A3 T.beats.length c3))) fun g hg _ => hk9 g (by omega))
 have HZ : Hid (w.heap.size ≤ w3.heap.size ∧ w3.heap.size ≤ w5.heap.size ∧ w5.heap.size ≤ (((((w7.setCell ⟨w.heap.size, 3, none⟩ (.slice A3 T.beats.length c3)).setCell ⟨w.heap.size + 1, 0, none⟩ (.int .i64 T.lits)).setCell ⟨w.heap.size + 1, 1, none⟩ (.slice A1 T.foes.length c1)).setCell ⟨w.heap.size + 1, 2, none⟩ (.slice A2 T.rules.length c2)).setCell ⟨w.heap.size + 1, 3, none⟩ (.slice A3 T.beats.length c3)).heap.size) := hid ⟨by omega, by omega, by simp only [World.size_setCell]; omega⟩
 rw [hsz4] at Hq9
 rw [hsz6] at Ht9
 clear Hc3 j3 j4 f2 y2 y3 k17 k27 hr6 hr7 hq6 hq7 hr3 j5 j6 j7 j8 j9 j10 hk9
 go_wp2
 clear z0 z1 z2 z3 q0 q1 q2 q3 p0 p1 p2 p3 f3
 generalize (((((w7.setCell ⟨w.heap.size, 3, none⟩ (.slice A3 T.beats.length c3)).setCell ⟨w.heap.size + 1, 0, none⟩ (.int .i64 T.lits)).setCell ⟨w.heap.size + 1, 1, none⟩ (.slice A1 T.foes.length c1)).setCell ⟨w.heap.size + 1, 2, none⟩ (.slice A2 T.rules.length c2)).setCell ⟨w.heap.size + 1, 3, none⟩ (.slice A3 T.beats.length c3)) = W9 at *
 refine bodyPost_ret (by simp [results, Tryz.results29, go_sem, o0, o1, o2, o3]; try rfl) rfl ?_
 exact Fin HQ ⟨_, _, _, w3.heap.size, w5.heap.size, rfl, HZ.out.1, HZ.out.2.1, HZ.out.2.2, Hr9.out, Hq9.out, Ht9.out, hb9⟩
end Go.Proofs.Lx
