/- Parts of the proof: Ig, Ih, Ii, Ij. Plain words of delta.twin's loops; what the twin is. No condition. -/
import Derived.Test.YtbidjiopnddldaaGreatP29
import Derived.Test.YtbidjiopnddldaaGreatP26
namespace Go.Proofs.Lx
open Go Go.RowKit Go.Proofs.Tj
set_option linter.unusedVariables false
set_option linter.unusedSimpArgs false
theorem Kp.drew {p : Nat} {a b : World} (h : Kp p a b) : Kp p a b.drew := ⟨h.os, h.tape, h.output, h.sz, h.old⟩
theorem TL.drew {W0 w : World} {g n : Nat} {L : List (List Int)} {vs : List Value} (h : TL W0 w g n L vs) : TL W0 w.drew g n L vs := ⟨h.blk, fun j a b => (h.own j a b).drew, h.le, h.lo, h.kp.drew⟩
/-- Rules whose bodies are cloned one by one: the first i bodies are new. -/
structure TQ (W0 w : World) (v : Value) (rs : List Rule) (vs0 vs : Nat → Value) (i : Nat) : Prop where
 row : w.ownsRow 0 93 3 v rs.length (cellsR rs vs)
 own : ∀ j, j < i → w.ownsRow W0.heap.size 3 1 (vs j) (rs.getD j default).body.length (intsV (rs.getD j default).body)
 rest : ∀ j, i ≤ j → vs j = vs0 j
 lo : ∀ g, v.ownBlock = some g → g < W0.heap.size
 kv : Kv v W0 w
theorem TQ.start {W0 : World} {v : Value} {rs : List Rule} {vs0 : Nat → Value} {b : Nat} (h : W0.ownsRow b 93 3 v rs.length (cellsR rs vs0)) : TQ W0 W0 v rs vs0 vs0 0 :=
 ⟨own_lower h (Nat.zero_le _), fun j hj => absurd hj (Nat.not_lt_zero _), fun _ _ => rfl, fun g hg => (h.lt g hg).2, Kv.refl _ _⟩
theorem Kv.drew2 {v : Value} {a b : World} (h : Kv v a b) : Kv v a b.drew := ⟨h.os, h.tape, h.output, h.sz, h.old⟩
theorem TQ.drew {W0 w : World} {v : Value} {rs : List Rule} {vs0 vs : Nat → Value} {i : Nat} (h : TQ W0 w v rs vs0 vs i) : TQ W0 w.drew v rs vs0 vs i := ⟨h.row.drew, fun j hj => (h.own j hj).drew, h.rest, h.lo, h.kv.drew2⟩
theorem cellsR_set {rs : List Rule} {vs : Nat → Value} {i : Nat} (hi : i < rs.length) (u : Value) : cellsR rs (fun j => if j = i then u else vs j) = (cellsR rs vs).set (i * 3 + 2) u := by
 apply List.ext_getElem?
 intro m
 have hl1 := cellsR_length rs vs
 have hl2 := cellsR_length rs (fun j => if j = i then u else vs j)
 by_cases hm : m < rs.length * 3
 ·have hq : m / 3 < rs.length := by omega
  obtain ⟨a0, a1, a2⟩ := cellsR_at (rs := rs) (vs := vs) hq
  obtain ⟨b0, b1, b2⟩ := cellsR_at (rs := rs) (vs := fun j => if j = i then u else vs j) hq
  have h3 : m = m / 3 * 3 ∨ m = m / 3 * 3 + 1 ∨ m = m / 3 * 3 + 2 := by omega
  generalize m / 3 = q at *
  rcases h3 with e | e | e
  ·rw [e, b0, List.getElem?_set_ne (by omega), a0]
  ·rw [e, b1, List.getElem?_set_ne (by omega), a1]
  ·rw [e, b2]
   by_cases hqi : q = i
   ·subst hqi
    rw [List.getElem?_set_self (by omega)]
    simp
   ·rw [List.getElem?_set_ne (by omega), a2]
    simp [hqi]
 ·rw [List.getElem?_eq_none (by omega), List.getElem?_eq_none (by rw [List.length_set]; omega)]
theorem TQ.push {W0 w w' : World} {g n c : Nat} {rs : List Rule} {vs0 vs : Nat → Value} {i : Nat} (h : TQ W0 w (.slice (some ⟨g, 0, none⟩) n c) rs vs0 vs i) {u : Value} (hi : i < rs.length) (hb : Below w.heap.size w w') (ho : w'.ownsRow w.heap.size 3 1 u (rs.getD i default).body.length (intsV (rs.getD i default).body)) : TQ W0 (w'.setCell ⟨g, i * 3 + 2, none⟩ u) (.slice (some ⟨g, 0, none⟩) n c) rs vs0 (fun j => if j = i then u else vs j) (i + 1) := by
 have hg := h.lo g rfl
 have hs := h.kv.sz
 have key : ∀ {b k : Nat} {u9 : Value} {xs : List Value}, W0.heap.size ≤ b → w'.ownsRow b 3 1 u9 k xs → (w'.setCell ⟨g, i * 3 + 2, none⟩ u).ownsRow W0.heap.size 3 1 u9 k xs := fun {b k u9 xs} hb0 h9 =>
  own_lower (ownsRow_setCell_other h9 (fun e => by have := (h9.lt _ e).1; dsimp only at this; omega) _) hb0
 refine ⟨?_, fun j hj => ?_, fun j hj => ?_, h.lo, ⟨hb.os.trans h.kv.os, hb.tape.trans h.kv.tape, hb.output.trans h.kv.output, by rw [World.size_setCell]; exact Nat.le_trans hs hb.size, fun k h1 h2 => ?_⟩⟩
 ·rw [cellsR_set hi]
  have e1 : rs.length = n := by
   rcases h.row.2 with ⟨e, _⟩ | ⟨_, _, _, e, _⟩
   ·cases e
   ·injection e with _ e _; exact e.symm
  subst e1
  exact ((own_ext h.row hb).stored (i * 3 + 2) u).1
 ·by_cases e : j = i
  ·subst e
   simp only [if_true]
   exact key hs ho
  ·simp only [e, if_false]
   exact key (Nat.le_refl _) (own_ext (h.own j (by omega)) hb)
 ·have e : j ≠ i := by omega
  simp only [e, if_false]
  exact h.rest j (by omega)
 ·rw [heap_setCell_other _ _ _ _ (fun e => h2 (by rw [e]; rfl))]
  exact (hb.block k (by omega)).trans (h.kv.old k h1 h2)
theorem TQ.reads {W0 w W : World} {v : Value} {rs : List Rule} {vs0 vs : Nat → Value} (h : TQ W0 w v rs vs0 vs rs.length) (hn : rs.length ≤ 140737488355328) (hx : ∀ r ∈ rs, r.body.length ≤ 140737488355328) (hg : ∀ g, v.ownBlock = some g → W.heap[g]? = w.heap[g]?) (hk : ∀ k, W0.heap.size ≤ k → k < w.heap.size → W.heap[k]? = w.heap[k]?) : RdRs W v rs := by
 have hr := h.row
 rcases hr.2 with ⟨rfl, h0⟩ | ⟨g, cap, cur, rfl, k2, k3, k4⟩
 ·exact ⟨none, 0, by rw [h0], by omega, hn, fun i hi => absurd hi (by omega)⟩
 ·have hW : W.ownsRow 0 93 3 (.slice (some ⟨g, 0, none⟩) rs.length cap) rs.length (cellsR rs vs) := ⟨hr.1, .inr ⟨g, cap, cur, rfl, k2, (hg g rfl).trans k3, k4⟩⟩
  refine ⟨_, cap, rfl, k4.1, hn, fun i hi => ⟨_, [.int .i64 rs[i].kind, .int .i64 rs[i].head, vs i], rfl, ⟨_, rfl, ?_⟩, rfl, fun j u hu => ?_⟩⟩
  ·have h9 := own_rdI (own_heap (h.own i hi) hk) (by have := hx _ (List.getElem_mem hi); simpa [hi] using this)
   simpa [hi] using h9
  ·refine hW.cells (g := g) rfl (i * 3 + j) u ?_
   obtain ⟨a0, a1, a2⟩ := cellsR_at (rs := rs) (vs := vs) hi
   have e : rs.getD i default = rs[i] := by simp [hi]
   rw [e] at a0 a1
   match j, hu with
   | 0, hu => rw [← hu]; exact a0
   | 1, hu => rw [← hu]; exact a1
   | 2, hu => rw [← hu]; exact a2
   | j + 3, hu => simp at hu
/-- The twin: it reads as T in every world that has the blocks made for it. -/
def TwinEnd (w w' : World) (T : Th) (r : Value) : Prop := ∃ AF cF AR cR AB cB, r = .agg #[.int .i64 T.lits, .slice AF T.foes.length cF, .slice AR T.rules.length cR, .slice AB T.beats.length cB] ∧ (∀ W : World, (∀ k, w.heap.size ≤ k → k < w'.heap.size → W.heap[k]? = w'.heap[k]?) → RdTh W r T) ∧ Below w.heap.size w w'
end Go.Proofs.Lx

namespace Go.Proofs.Lx
open Go Go.RowKit Go.Proofs.Tj
set_option linter.unusedVariables false
set_option linter.unusedSimpArgs false
noncomputable def twSegF : Code := dF (dS (dS twBody))
noncomputable def twSegR : Code := dF (dS (dS (dS twBody)))
noncomputable def twSegB : Code := dF (dS (dS (dS (dS twBody))))
set_option maxRecDepth 1000000 in
set_option maxHeartbeats 60000000 in

theorem twF (wx WB : World) (p r2 g3 g n : Nat) (AF : Option Addr) (cF : Nat) (L : List (List Int)) (bp b3 : Array Value) (hbx : Below wx.heap.size wx WB) (hp : wx.heap[p]? = some (.cells bp 25 (0, 0))) (hbp : bp[1]? = some (.slice AF n cF)) (hL : RdLL wx (.slice AF n cF) L) (hnL : L.length = n) (hLs : ∀ l ∈ L, l.length ≤ 1000000) (hn : n ≤ 1048576)
  (h3 : WB.heap[g3]? = some (.cells b3 25 (0, 0))) (hb3 : b3[1]? = some (.slice (some ⟨g, 0, none⟩) n n)) (hgx : wx.heap.size ≤ g) (hg : WB.heap[g]? = some (nilRows n)) (hne : g ≠ g3) (f : Nat → Value) (K : Act → World → Prop) (Q' : Exit → Act → World → Prop)
  (hK : ∀ (t : Array Value) (w' : World) (vs : List Value), t.size = 73 → t[1]? = some (.pointer (some ⟨p, 0, none⟩)) → t[2]? = some (.pointer (some ⟨r2, 0, none⟩)) → t[3]? = some (.pointer (some ⟨g3, 0, none⟩)) → vs.length = n → TL WB w' g n L vs → K ⟨t, []⟩ w') :
  Code.wp Tryz.prog twSegF (Exit.then K Q') ⟨#[(f 0), .pointer (some ⟨p, 0, none⟩), .pointer (some ⟨r2, 0, none⟩), .pointer (some ⟨g3, 0, none⟩), (f 4), (f 5), (f 6), (f 7), (f 8), (f 9), (f 10), (f 11), (f 12), (f 13), (f 14), (f 15), (f 16), (f 17), (f 18), (f 19), (f 20), (f 21), (f 22), (f 23), (f 24), (f 25), (f 26), (f 27), (f 28), (f 29), (f 30), (f 31), (f 32), (f 33), (f 34), (f 35), (f 36), (f 37), (f 38), (f 39), (f 40), (f 41), (f 42), (f 43), (f 44), (f 45), (f 46), (f 47), (f 48), (f 49), (f 50), (f 51), (f 52), (f 53), (f 54), (f 55), (f 56), (f 57), (f 58), (f 59), (f 60), (f 61), (f 62), (f 63), (f 64), (f 65), (f 66), (f 67), (f 68), (f 69), (f 70), (f 71), (f 72)], []⟩ WB := by
 have HK := hid hK
 obtain ⟨A9, c9, e9, _, _, hrows⟩ := hL
 have e8 : A9 = AF := by injection e9 with e _ _; exact e.symm
 subst e8
 clear e9
 have hplt := lt_of_block hp
 have hxs := hbx.size
 have Hst : Hid (∀ W : World, Kp g WB W → W.cell? ⟨p, 1, none⟩ = some (.slice A9 n cF) ∧ W.cell? ⟨g3, 1, none⟩ = some (.slice (some ⟨g, 0, none⟩) n n) ∧ RcLL W A9 L) := hid fun W hW => by
  have hbW : Below wx.heap.size wx W := ⟨hW.os.trans hbx.os, hW.tape.trans hbx.tape, hW.output.trans hbx.output, Nat.le_trans hxs hW.sz, fun k hk => (hW.old k (by omega) (by omega)).trans (hbx.block k hk)⟩
  refine ⟨?_, ?_, hrows.ext llR_mono hbW⟩
  ·rw [cell_of_row W p _ _ _ _ ((hbW.block p hplt).trans hp)]; exact hbp
  ·rw [cell_of_row W g3 _ _ _ _ ((hW.old g3 (lt_of_block h3) (Ne.symm hne)).trans h3)]; exact hb3
 have HLs := hid hLs
 have Hg := hid hg
 have HnL := hid hnL
 have hgl := lt_objD hg
 clear hK hp hbp hLs h3 hb3 hg hrows hbx
 obtain ⟨e1, _, _⟩ := Hst.out WB (Kp.refl _ _)
 conv => arg 2; whnf
 go_wp2
 clear e1
 go_loopw [26] (fun vi wr => ∃ vs : List Value, vi = .int .i64 (vs.length : Int) ∧ vs.length ≤ n ∧ TL WB wr g n L vs) (fun vi _ => n - (intOf vi).toNat)
 case atStart => exact ⟨[], rfl, Nat.zero_le _, TL.start L Hg.out⟩
 case round =>
  obtain ⟨vs, rfl, hle, htl⟩ := hrel
  obtain ⟨k, hk⟩ : ∃ k, vs.length = k := ⟨_, rfl⟩
  rw [hk] at hle ⊢
  have Hk := hid hk
  have Htl := hid htl
  by_cases hlt : k < n
  ·have hkL : k < L.length := by rw [HnL.out]; exact hlt
   obtain ⟨_, e3, hrr⟩ := Hst.out wr htl.kp
   obtain ⟨ad, B, cB, rfl, e4, hcB, hbB, hrB⟩ := hrr.atRow hkL
   have hlen := HLs.out _ (List.getElem_mem hkL)
   have hblk := htl.blk
   have Hcl := hid (cloneI_any wr.drew (.slice B L[k].length cB) L[k] ⟨B, cB, rfl, hcB, hbB, hrB.ext (scR_mono _) (ext_refl wr).drew⟩ (by omega))
   have HS : Hid (∀ W : World, Below wr.drew.heap.size wr.drew W → (fun w' : World => w'.cell? ⟨g3, 1, none⟩ = some (.slice (some ⟨g, 0, none⟩) n n)) W ∧ (∀ u, (fun w' : World => w'.cell? ⟨g3, 1, none⟩ = some (.slice (some ⟨g, 0, none⟩) n n)) (W.setCell ⟨g, k, none⟩ u)) ∧ W.cell? ⟨g, k, none⟩ = some (.slice none 0 0) ∧ W.frozen? ⟨g, k, none⟩ = false) := hid fun W hW => by
    have hb0 : Below wr.heap.size wr W := (ext_refl wr).drew.trans hW
    have hkp := htl.kp.trans (Kp.below hb0)
    have hgW := (hb0.block g (by have := htl.kp.sz; omega)).trans hblk
    refine ⟨(Hst.out W hkp).2.1, fun u => (Hst.out _ (hkp.set (.inl rfl) u)).2.1, ?_, frozen_of_row W g k _ _ hgW⟩
    rw [cell_of_row W g k _ _ _ hgW]
    have hk2 := Hk.out
    simp [List.getElem?_append, hk2, hlt]
    rw [List.getElem?_replicate, if_pos (by omega)]
   have hi0 : (0 : Int) ≤ (k : Int) := by omega
   have hi1 : (k : Int) < (n : Int) := by omega
   have hS0 := (HS.out wr.drew (ext_refl wr.drew)).1
   dsimp only at hS0
   obtain ⟨Lk, hLk⟩ : ∃ Lk, Hid (L[k] = Lk) := ⟨_, hid rfl⟩
   clear htl hk hblk hrr hrB hcB hbB
   rw [hLk.out] at Hcl e4 hlen
   go_wp2
   refine wp_region_noPanic ?_
   refine wp_region_held_drew (S := (fun w' : World => w'.cell? ⟨g3, 1, none⟩ = some (.slice (some ⟨g, 0, none⟩) n n))) (by kernel_rfl) (by assumption) (fun hHeld => ?_)
   refine wpAnyH_take (i := 0) (v := ?v1) (by simp only [List.getElem?_toArray, List.getElem?_cons_zero, List.getElem?_cons_succ]; rfl) (by kernel_rfl) (by kernel_rfl) (by kernel_rfl) (fun _ _ _ h => h) (Or.inl ⟨by rfl, ?hy1⟩) (by assumption) ?rest1
   case hy1 => (intro w hSw; (try dsimp only at hSw); go_simp) <;> try with_reducible rfl
   simp only [Act.put, List.setIfInBounds_toArray, List.set_cons_zero, List.set_cons_succ]
   refine wpAnyH_take (i := 1) (v := ?v2) (by simp only [List.getElem?_toArray, List.getElem?_cons_zero, List.getElem?_cons_succ]; rfl) (by kernel_rfl) (by kernel_rfl) (by kernel_rfl) (fun _ _ _ h => h) (Or.inl ⟨by rfl, ?hy2⟩) (by assumption) ?rest2
   case hy2 => (intro w hSw; (try dsimp only at hSw); go_simp) <;> try with_reducible rfl
   simp only [Act.put, List.setIfInBounds_toArray, List.set_cons_zero, List.set_cons_succ]
   refine wpAnyH_take (i := 2) (v := ?v3) (by simp only [List.getElem?_toArray, List.getElem?_cons_zero, List.getElem?_cons_succ]; rfl) (by kernel_rfl) (by kernel_rfl) (by kernel_rfl) (fun _ _ _ h => h) (Or.inl ⟨by rfl, ?hy3⟩) (by assumption) ?rest3
   case hy3 => (intro w hSw; (try dsimp only at hSw); go_simp) <;> try with_reducible rfl
   simp only [Act.put, List.setIfInBounds_toArray, List.set_cons_zero, List.set_cons_succ]
   refine wpAnyH_take (i := 3) (v := ?v4) (by simp only [List.getElem?_toArray, List.getElem?_cons_zero, List.getElem?_cons_succ]; rfl) (by kernel_rfl) (by kernel_rfl) (by kernel_rfl) (fun _ _ _ h => h) (Or.inl ⟨by rfl, ?hy4⟩) (by assumption) ?rest4
   case hy4 => (intro w hSw; (try dsimp only at hSw); go_simp) <;> try with_reducible rfl
   simp only [Act.put, List.setIfInBounds_toArray, List.set_cons_zero, List.set_cons_succ]
   refine wpAnyH_ready (rs := [4]) (by kernel_rfl) (by simp) ?_
   refine AllReadyH.cons (by simp only [List.getElem?_toArray, List.getElem?_cons_zero, List.getElem?_cons_succ]; rfl) (fun K9 hK9 => ?_) ?_
   rotate_left
   exact AllReadyH.nil
   go_simp
   refine Hcl.out.mono ?_
   rintro e w7 ⟨v7, rfl, hown7, hb7⟩
   obtain ⟨A7, c7, rfl⟩ := own_form0 hown7
   obtain ⟨hS7, hT7, q7, f7⟩ := HS.out w7 hb7
   try dsimp only at hS7
   go_simp
   refine hK9.out _ _ ?_ (fun hHeld => ?_)
   ·exact hS7
   clear hK9 K9
   try simp only [Act.put, List.setIfInBounds_toArray, List.set_cons_zero, List.set_cons_succ]
   refine wpAnyH_take (i := 5) (v := ?v5) (by simp only [List.getElem?_toArray, List.getElem?_cons_zero, List.getElem?_cons_succ]; rfl) (by kernel_rfl) (by kernel_rfl) (by kernel_rfl) (fun _ _ _ h => h) (Or.inl ⟨by rfl, ?hy5⟩) (by assumption) ?rest5
   case hy5 => (intro w hSw; (try dsimp only at hSw); go_simp) <;> try with_reducible rfl
   simp only [Act.put, List.setIfInBounds_toArray, List.set_cons_zero, List.set_cons_succ]
   refine wpAnyH_ready (rs := [6]) (by kernel_rfl) (by simp) ?_
   refine AllReadyH.cons (by simp only [List.getElem?_toArray, List.getElem?_cons_zero, List.getElem?_cons_succ]; rfl) (fun K9 hK9 => ?_) ?_
   rotate_left
   exact AllReadyH.nil
   go_simp
   refine hK9.out _ _ ?_ (fun hHeld => ?_)
   ·exact hT7 _
   clear hK9 K9
   try simp only [Act.put, List.setIfInBounds_toArray, List.set_cons_zero, List.set_cons_succ]
   refine wpAnyH_done (by kernel_rfl) (NoPanic.normal ?_) _
   have hown7 := hid hown7
   have hb7 := hid hb7
   clear hS7 hT7 q7 f7 e3 e4 hS0 Hcl HS
   go_wp2
   go_roundw
   case rel =>
    have hk2 := Hk.out
    have hL2 := HnL.out
    have hLk2 := hLk.out
    have h9 := Htl.out.drew.push (v := .slice A7 Lk.length c7) (by omega) (by omega) hb7.out (by simp only [hk2, hLk2]; exact hown7.out)
    rw [hk2] at h9
    exact ⟨vs ++ [.slice A7 Lk.length c7], by rw [List.length_append, List.length_singleton, hk2]; go_num, by rw [List.length_append, List.length_singleton, hk2]; omega, h9⟩
   case measure => exact meas_lt hlt
  ·obtain rfl : k = n := by omega
   clear htl hk
   go_wp2
   exact HK.out _ _ vs rfl rfl rfl rfl Hk.out Htl.out
end Go.Proofs.Lx

namespace Go.Proofs.Lx
open Go Go.RowKit Go.Proofs.Tj
set_option linter.unusedVariables false
set_option linter.unusedSimpArgs false

set_option maxRecDepth 1000000 in
set_option maxHeartbeats 60000000 in

theorem twB (wx WB : World) (p r2 g3 g n : Nat) (AF : Option Addr) (cF : Nat) (L : List (List Int)) (bp b3 : Array Value) (hbx : Below wx.heap.size wx WB) (hp : wx.heap[p]? = some (.cells bp 25 (0, 0))) (hbp : bp[3]? = some (.slice AF n cF)) (hL : RdLL wx (.slice AF n cF) L) (hnL : L.length = n) (hLs : ∀ l ∈ L, l.length ≤ 1000000) (hn : n ≤ 1048576)
  (h3 : WB.heap[g3]? = some (.cells b3 25 (0, 0))) (hb3 : b3[3]? = some (.slice (some ⟨g, 0, none⟩) n n)) (hgx : wx.heap.size ≤ g) (hg : WB.heap[g]? = some (nilRows n)) (hne : g ≠ g3) (f : Nat → Value) (K : Act → World → Prop) (Q' : Exit → Act → World → Prop)
  (hK : ∀ (t : Array Value) (w' : World) (vs : List Value), t.size = 73 → t[1]? = some (.pointer (some ⟨p, 0, none⟩)) → t[2]? = some (.pointer (some ⟨r2, 0, none⟩)) → t[3]? = some (.pointer (some ⟨g3, 0, none⟩)) → vs.length = n → TL WB w' g n L vs → K ⟨t, []⟩ w') :
  Code.wp Tryz.prog twSegB (Exit.then K Q') ⟨#[(f 0), .pointer (some ⟨p, 0, none⟩), .pointer (some ⟨r2, 0, none⟩), .pointer (some ⟨g3, 0, none⟩), (f 4), (f 5), (f 6), (f 7), (f 8), (f 9), (f 10), (f 11), (f 12), (f 13), (f 14), (f 15), (f 16), (f 17), (f 18), (f 19), (f 20), (f 21), (f 22), (f 23), (f 24), (f 25), (f 26), (f 27), (f 28), (f 29), (f 30), (f 31), (f 32), (f 33), (f 34), (f 35), (f 36), (f 37), (f 38), (f 39), (f 40), (f 41), (f 42), (f 43), (f 44), (f 45), (f 46), (f 47), (f 48), (f 49), (f 50), (f 51), (f 52), (f 53), (f 54), (f 55), (f 56), (f 57), (f 58), (f 59), (f 60), (f 61), (f 62), (f 63), (f 64), (f 65), (f 66), (f 67), (f 68), (f 69), (f 70), (f 71), (f 72)], []⟩ WB := by
 have HK := hid hK
 obtain ⟨A9, c9, e9, _, _, hrows⟩ := hL
 have e8 : A9 = AF := by injection e9 with e _ _; exact e.symm
 subst e8
 clear e9
 have hplt := lt_of_block hp
 have hxs := hbx.size
 have Hst : Hid (∀ W : World, Kp g WB W → W.cell? ⟨p, 3, none⟩ = some (.slice A9 n cF) ∧ W.cell? ⟨g3, 3, none⟩ = some (.slice (some ⟨g, 0, none⟩) n n) ∧ RcLL W A9 L) := hid fun W hW => by
  have hbW : Below wx.heap.size wx W := ⟨hW.os.trans hbx.os, hW.tape.trans hbx.tape, hW.output.trans hbx.output, Nat.le_trans hxs hW.sz, fun k hk => (hW.old k (by omega) (by omega)).trans (hbx.block k hk)⟩
  refine ⟨?_, ?_, hrows.ext llR_mono hbW⟩
  ·rw [cell_of_row W p _ _ _ _ ((hbW.block p hplt).trans hp)]; exact hbp
  ·rw [cell_of_row W g3 _ _ _ _ ((hW.old g3 (lt_of_block h3) (Ne.symm hne)).trans h3)]; exact hb3
 have HLs := hid hLs
 have Hg := hid hg
 have HnL := hid hnL
 have hgl := lt_objD hg
 clear hK hp hbp hLs h3 hb3 hg hrows hbx
 obtain ⟨e1, _, _⟩ := Hst.out WB (Kp.refl _ _)
 conv => arg 2; whnf
 go_wp2
 clear e1
 go_loopw [60] (fun vi wr => ∃ vs : List Value, vi = .int .i64 (vs.length : Int) ∧ vs.length ≤ n ∧ TL WB wr g n L vs) (fun vi _ => n - (intOf vi).toNat)
 case atStart => exact ⟨[], rfl, Nat.zero_le _, TL.start L Hg.out⟩
 case round =>
  obtain ⟨vs, rfl, hle, htl⟩ := hrel
  obtain ⟨k, hk⟩ : ∃ k, vs.length = k := ⟨_, rfl⟩
  rw [hk] at hle ⊢
  have Hk := hid hk
  have Htl := hid htl
  by_cases hlt : k < n
  ·have hkL : k < L.length := by rw [HnL.out]; exact hlt
   obtain ⟨_, e3, hrr⟩ := Hst.out wr htl.kp
   obtain ⟨ad, B, cB, rfl, e4, hcB, hbB, hrB⟩ := hrr.atRow hkL
   have hlen := HLs.out _ (List.getElem_mem hkL)
   have hblk := htl.blk
   have Hcl := hid (cloneI_any wr.drew (.slice B L[k].length cB) L[k] ⟨B, cB, rfl, hcB, hbB, hrB.ext (scR_mono _) (ext_refl wr).drew⟩ (by omega))
   have HS : Hid (∀ W : World, Below wr.drew.heap.size wr.drew W → (fun w' : World => w'.cell? ⟨g3, 3, none⟩ = some (.slice (some ⟨g, 0, none⟩) n n)) W ∧ (∀ u, (fun w' : World => w'.cell? ⟨g3, 3, none⟩ = some (.slice (some ⟨g, 0, none⟩) n n)) (W.setCell ⟨g, k, none⟩ u)) ∧ W.cell? ⟨g, k, none⟩ = some (.slice none 0 0) ∧ W.frozen? ⟨g, k, none⟩ = false) := hid fun W hW => by
    have hb0 : Below wr.heap.size wr W := (ext_refl wr).drew.trans hW
    have hkp := htl.kp.trans (Kp.below hb0)
    have hgW := (hb0.block g (by have := htl.kp.sz; omega)).trans hblk
    refine ⟨(Hst.out W hkp).2.1, fun u => (Hst.out _ (hkp.set (.inl rfl) u)).2.1, ?_, frozen_of_row W g k _ _ hgW⟩
    rw [cell_of_row W g k _ _ _ hgW]
    have hk2 := Hk.out
    simp [List.getElem?_append, hk2, hlt]
    rw [List.getElem?_replicate, if_pos (by omega)]
   have hi0 : (0 : Int) ≤ (k : Int) := by omega
   have hi1 : (k : Int) < (n : Int) := by omega
   have hS0 := (HS.out wr.drew (ext_refl wr.drew)).1
   dsimp only at hS0
   obtain ⟨Lk, hLk⟩ : ∃ Lk, Hid (L[k] = Lk) := ⟨_, hid rfl⟩
   clear htl hk hblk hrr hrB hcB hbB
   rw [hLk.out] at Hcl e4 hlen
   go_wp2
   refine wp_region_noPanic ?_
   refine wp_region_held_drew (S := (fun w' : World => w'.cell? ⟨g3, 3, none⟩ = some (.slice (some ⟨g, 0, none⟩) n n))) (by kernel_rfl) (by assumption) (fun hHeld => ?_)
   refine wpAnyH_take (i := 0) (v := ?v1) (by simp only [List.getElem?_toArray, List.getElem?_cons_zero, List.getElem?_cons_succ]; rfl) (by kernel_rfl) (by kernel_rfl) (by kernel_rfl) (fun _ _ _ h => h) (Or.inl ⟨by rfl, ?hy1⟩) (by assumption) ?rest1
   case hy1 => (intro w hSw; (try dsimp only at hSw); go_simp) <;> try with_reducible rfl
   simp only [Act.put, List.setIfInBounds_toArray, List.set_cons_zero, List.set_cons_succ]
   refine wpAnyH_take (i := 1) (v := ?v2) (by simp only [List.getElem?_toArray, List.getElem?_cons_zero, List.getElem?_cons_succ]; rfl) (by kernel_rfl) (by kernel_rfl) (by kernel_rfl) (fun _ _ _ h => h) (Or.inl ⟨by rfl, ?hy2⟩) (by assumption) ?rest2
   case hy2 => (intro w hSw; (try dsimp only at hSw); go_simp) <;> try with_reducible rfl
   simp only [Act.put, List.setIfInBounds_toArray, List.set_cons_zero, List.set_cons_succ]
   refine wpAnyH_take (i := 2) (v := ?v3) (by simp only [List.getElem?_toArray, List.getElem?_cons_zero, List.getElem?_cons_succ]; rfl) (by kernel_rfl) (by kernel_rfl) (by kernel_rfl) (fun _ _ _ h => h) (Or.inl ⟨by rfl, ?hy3⟩) (by assumption) ?rest3
   case hy3 => (intro w hSw; (try dsimp only at hSw); go_simp) <;> try with_reducible rfl
   simp only [Act.put, List.setIfInBounds_toArray, List.set_cons_zero, List.set_cons_succ]
   refine wpAnyH_take (i := 3) (v := ?v4) (by simp only [List.getElem?_toArray, List.getElem?_cons_zero, List.getElem?_cons_succ]; rfl) (by kernel_rfl) (by kernel_rfl) (by kernel_rfl) (fun _ _ _ h => h) (Or.inl ⟨by rfl, ?hy4⟩) (by assumption) ?rest4
   case hy4 => (intro w hSw; (try dsimp only at hSw); go_simp) <;> try with_reducible rfl
   simp only [Act.put, List.setIfInBounds_toArray, List.set_cons_zero, List.set_cons_succ]
   refine wpAnyH_ready (rs := [4]) (by kernel_rfl) (by simp) ?_
   refine AllReadyH.cons (by simp only [List.getElem?_toArray, List.getElem?_cons_zero, List.getElem?_cons_succ]; rfl) (fun K9 hK9 => ?_) ?_
   rotate_left
   exact AllReadyH.nil
   go_simp
   refine Hcl.out.mono ?_
   rintro e w7 ⟨v7, rfl, hown7, hb7⟩
   obtain ⟨A7, c7, rfl⟩ := own_form0 hown7
   obtain ⟨hS7, hT7, q7, f7⟩ := HS.out w7 hb7
   try dsimp only at hS7
   go_simp
   refine hK9.out _ _ ?_ (fun hHeld => ?_)
   ·exact hS7
   clear hK9 K9
   try simp only [Act.put, List.setIfInBounds_toArray, List.set_cons_zero, List.set_cons_succ]
   refine wpAnyH_take (i := 5) (v := ?v5) (by simp only [List.getElem?_toArray, List.getElem?_cons_zero, List.getElem?_cons_succ]; rfl) (by kernel_rfl) (by kernel_rfl) (by kernel_rfl) (fun _ _ _ h => h) (Or.inl ⟨by rfl, ?hy5⟩) (by assumption) ?rest5
   case hy5 => (intro w hSw; (try dsimp only at hSw); go_simp) <;> try with_reducible rfl
   simp only [Act.put, List.setIfInBounds_toArray, List.set_cons_zero, List.set_cons_succ]
   refine wpAnyH_ready (rs := [6]) (by kernel_rfl) (by simp) ?_
   refine AllReadyH.cons (by simp only [List.getElem?_toArray, List.getElem?_cons_zero, List.getElem?_cons_succ]; rfl) (fun K9 hK9 => ?_) ?_
   rotate_left
   exact AllReadyH.nil
   go_simp
   refine hK9.out _ _ ?_ (fun hHeld => ?_)
   ·exact hT7 _
   clear hK9 K9
   try simp only [Act.put, List.setIfInBounds_toArray, List.set_cons_zero, List.set_cons_succ]
   refine wpAnyH_done (by kernel_rfl) (NoPanic.normal ?_) _
   have hown7 := hid hown7
   have hb7 := hid hb7
   clear hS7 hT7 q7 f7 e3 e4 hS0 Hcl HS
   go_wp2
   go_roundw
   case rel =>
    have hk2 := Hk.out
    have hL2 := HnL.out
    have hLk2 := hLk.out
    have h9 := Htl.out.drew.push (v := .slice A7 Lk.length c7) (by omega) (by omega) hb7.out (by simp only [hk2, hLk2]; exact hown7.out)
    rw [hk2] at h9
    exact ⟨vs ++ [.slice A7 Lk.length c7], by rw [List.length_append, List.length_singleton, hk2]; go_num, by rw [List.length_append, List.length_singleton, hk2]; omega, h9⟩
   case measure => exact meas_lt hlt
  ·obtain rfl : k = n := by omega
   clear htl hk
   go_wp2
   exact HK.out _ _ vs rfl rfl rfl rfl Hk.out Htl.out
end Go.Proofs.Lx

namespace Go.Proofs.Lx
open Go Go.RowKit Go.Proofs.Tj
set_option linter.unusedVariables false
set_option linter.unusedSimpArgs false

set_option maxRecDepth 1000000 in
set_option maxHeartbeats 60000000 in

theorem twR (wx WB : World) (p r2 g3 n b : Nat) (AR : Option Addr) (cR : Nat) (rs : List Rule) (vs0 : Nat → Value) (b3 : Array Value) (hbx : Below wx.heap.size wx WB) (hnL : rs.length = n) (hLs : ∀ r ∈ rs, r.body.length ≤ 1000000) (hn : n ≤ 1048576)
  (h3 : WB.heap[g3]? = some (.cells b3 25 (0, 0))) (hb3 : b3[2]? = some (.slice AR n cR)) (hb : wx.heap.size ≤ b) (hrow : WB.ownsRow b 93 3 (.slice AR n cR) n (cellsR rs vs0)) (hbod : ∀ i, i < rs.length → RdI wx (vs0 i) (rs.getD i default).body) (f : Nat → Value) (K : Act → World → Prop) (Q' : Exit → Act → World → Prop)
  (hK : ∀ (t : Array Value) (w' : World) (vs : Nat → Value), t.size = 73 → t[1]? = some (.pointer (some ⟨p, 0, none⟩)) → t[2]? = some (.pointer (some ⟨r2, 0, none⟩)) → t[3]? = some (.pointer (some ⟨g3, 0, none⟩)) → TQ WB w' (.slice AR n cR) rs vs0 vs n → K ⟨t, []⟩ w') :
  Code.wp Tryz.prog twSegR (Exit.then K Q') ⟨#[(f 0), .pointer (some ⟨p, 0, none⟩), .pointer (some ⟨r2, 0, none⟩), .pointer (some ⟨g3, 0, none⟩), (f 4), (f 5), (f 6), (f 7), (f 8), (f 9), (f 10), (f 11), (f 12), (f 13), (f 14), (f 15), (f 16), (f 17), (f 18), (f 19), (f 20), (f 21), (f 22), (f 23), (f 24), (f 25), (f 26), (f 27), (f 28), (f 29), (f 30), (f 31), (f 32), (f 33), (f 34), (f 35), (f 36), (f 37), (f 38), (f 39), (f 40), (f 41), (f 42), (f 43), (f 44), (f 45), (f 46), (f 47), (f 48), (f 49), (f 50), (f 51), (f 52), (f 53), (f 54), (f 55), (f 56), (f 57), (f 58), (f 59), (f 60), (f 61), (f 62), (f 63), (f 64), (f 65), (f 66), (f 67), (f 68), (f 69), (f 70), (f 71), (f 72)], []⟩ WB := by
 have HK := hid hK
 subst hnL
 have hxs := hbx.size
 have hR3 : (Value.slice AR rs.length cR).ownBlock ≠ some g3 := own_ne_tag hrow h3 (by decide)
 have Hst : Hid (∀ W : World, Kv (.slice AR rs.length cR) WB W → W.cell? ⟨g3, 2, none⟩ = some (.slice AR rs.length cR)) := hid fun W hW => by
  rw [cell_of_row W g3 _ _ _ _ ((hW.old g3 (lt_of_block h3) hR3).trans h3)]; exact hb3
 have HLs := hid hLs
 have Hrow := hid (TQ.start hrow)
 have Hbod := hid hbod
 have Hbx := hid hbx
 have Hblo : Hid (∀ g, (Value.slice AR rs.length cR).ownBlock = some g → wx.heap.size ≤ g) := hid fun g hg => Nat.le_trans hb (hrow.lt g hg).1
 clear hK hLs h3 hb3 hrow hbod hbx
 have e1 := Hst.out WB (Kv.refl _ _)
 conv => arg 2; whnf
 go_wp2
 clear e1
 obtain ⟨n, HnL⟩ : ∃ n, Hid (rs.length = n) := ⟨_, hid rfl⟩
 go_loopw [41] (fun vi wr => ∃ (k : Nat) (vs : Nat → Value), vi = .int .i64 (k : Int) ∧ k ≤ rs.length ∧ TQ WB wr (.slice AR rs.length cR) rs vs0 vs k) (fun vi _ => rs.length - (intOf vi).toNat)
 case atStart => exact ⟨0, _, rfl, Nat.zero_le _, Hrow.out⟩
 case round =>
  obtain ⟨k, vs, rfl, hle, htl⟩ := hrel
  have Htl := hid htl
  by_cases hlt : k < rs.length
  ·have hbk := Hbod.out k hlt
   have hrk := htl.rest k (Nat.le_refl _)
   have hlen : (rs.getD k default).body.length ≤ 1000000 := by
    have := HLs.out _ (List.getElem_mem hlt)
    simpa [hlt] using this
   have e3 := Hst.out wr htl.kv
   obtain ⟨gR, rfl, hgR⟩ : ∃ gR, AR = some ⟨gR, 0, none⟩ ∧ wr.heap[gR]? = wr.heap[gR]? := by
    rcases htl.row.2 with ⟨_, h0⟩ | ⟨g9, _, _, e, _⟩
    ·omega
    ·injection e with e _ _; exact ⟨g9, e, rfl⟩
   clear hgR
   obtain ⟨Lk, hLk⟩ : ∃ Lk, Hid ((rs.getD k default).body = Lk) := ⟨_, hid rfl⟩
   rw [hLk.out] at hbk hlen
   obtain ⟨B, cB, hvk, hcB, hbB, hrB⟩ := hbk
   have hbxw : Below wx.heap.size wx wr.drew := by
    have hk := htl.kv
    refine Below.drew ⟨hk.os.trans Hbx.out.os, hk.tape.trans Hbx.out.tape, hk.output.trans Hbx.out.output, Nat.le_trans hxs hk.sz, fun j hj => (hk.old j (by omega) fun e => ?_).trans (Hbx.out.block j hj)⟩
    have := Hblo.out j e
    omega
   have Hcl := hid (cloneI_any wr.drew (.slice B Lk.length cB) Lk ⟨B, cB, rfl, hcB, hbB, hrB.ext (scR_mono _) hbxw⟩ (by omega))
   have hcell : ∀ W : World, Below wr.heap.size wr W → W.cell? ⟨gR, k * 3 + 2, none⟩ = some (.slice B Lk.length cB) := fun W hW => by
    obtain ⟨_, _, a2⟩ := cellsR_at (rs := rs) (vs := vs) hlt
    have h9 := (own_ext htl.row hW).cells (g := gR) rfl (k * 3 + 2) _ a2
    rw [hrk, hvk] at h9
    rw [← h9, add_plain]
   have HS : Hid (∀ W : World, Below wr.drew.heap.size wr.drew W → (fun w' : World => w'.cell? ⟨g3, 2, none⟩ = some (.slice (some ⟨gR, 0, none⟩) rs.length cR)) W ∧ (∀ u, (fun w' : World => w'.cell? ⟨g3, 2, none⟩ = some (.slice (some ⟨gR, 0, none⟩) rs.length cR)) (W.setCell ⟨gR, k * 3 + 2, none⟩ u)) ∧ W.cell? ⟨gR, k * 3 + 2, none⟩ = some (.slice B Lk.length cB) ∧ W.frozen? ⟨gR, k * 3 + 2, none⟩ = false) := hid fun W hW => by
    have hb0 : Below wr.heap.size wr W := (ext_refl wr).drew.trans hW
    have hkv := htl.kv.trans (Kv.below hb0)
    refine ⟨Hst.out W hkv, fun u => ?_, hcell W hb0, ?_⟩
    ·show (W.setCell ⟨gR, k * 3 + 2, none⟩ u).cell? ⟨g3, 2, none⟩ = _
     rw [World.cell?_setCell_far _ _ _ _ (fun e => hR3 (by dsimp only at e; rw [← e]; rfl))]
     exact Hst.out W hkv
    ·rcases (own_ext htl.row hb0).2 with ⟨e, _⟩ | ⟨g9, _, _, e, _, k3, _⟩
     ·cases e
     ·injection e with e _ _
      injection e with e
      injection e with e _ _
      subst e
      exact frozen_of_row W gR _ _ _ k3
   have hi0 : (0 : Int) ≤ (k : Int) := by omega
   have hi1 : (k : Int) < (rs.length : Int) := by omega
   obtain ⟨hS0, _, e4, _⟩ := HS.out wr.drew (ext_refl wr.drew)
   try dsimp only at hS0
   clear htl hcell hrB hcB hbB hbxw
   go_wp2
   refine wp_region_noPanic ?_
   refine wp_region_held_drew (S := (fun w' : World => w'.cell? ⟨g3, 2, none⟩ = some (.slice (some ⟨gR, 0, none⟩) rs.length cR))) (by kernel_rfl) (by assumption) (fun hHeld => ?_)
   refine wpAnyH_take (i := 0) (v := ?v1) (by simp only [List.getElem?_toArray, List.getElem?_cons_zero, List.getElem?_cons_succ]; rfl) (by kernel_rfl) (by kernel_rfl) (by kernel_rfl) (fun _ _ _ h => h) (Or.inl ⟨by rfl, ?hy1⟩) (by assumption) ?rest1
   case hy1 => (intro w hSw; (try dsimp only at hSw); go_simp) <;> try with_reducible rfl
   simp only [Act.put, List.setIfInBounds_toArray, List.set_cons_zero, List.set_cons_succ]
   refine wpAnyH_take (i := 1) (v := ?v2) (by simp only [List.getElem?_toArray, List.getElem?_cons_zero, List.getElem?_cons_succ]; rfl) (by kernel_rfl) (by kernel_rfl) (by kernel_rfl) (fun _ _ _ h => h) (Or.inl ⟨by rfl, ?hy2⟩) (by assumption) ?rest2
   case hy2 => (intro w hSw; (try dsimp only at hSw); go_simp) <;> try with_reducible rfl
   simp only [Act.put, List.setIfInBounds_toArray, List.set_cons_zero, List.set_cons_succ]
   refine wpAnyH_take (i := 2) (v := ?v3) (by simp only [List.getElem?_toArray, List.getElem?_cons_zero, List.getElem?_cons_succ]; rfl) (by kernel_rfl) (by kernel_rfl) (by kernel_rfl) (fun _ _ _ h => h) (Or.inl ⟨by rfl, ?hy3⟩) (by assumption) ?rest3
   case hy3 => (intro w hSw; (try dsimp only at hSw); go_simp) <;> try with_reducible rfl
   simp only [Act.put, List.setIfInBounds_toArray, List.set_cons_zero, List.set_cons_succ]
   refine wpAnyH_take (i := 3) (v := ?v4) (by simp only [List.getElem?_toArray, List.getElem?_cons_zero, List.getElem?_cons_succ]; rfl) (by kernel_rfl) (by kernel_rfl) (by kernel_rfl) (fun _ _ _ h => h) (Or.inl ⟨by rfl, ?hy4⟩) (by assumption) ?rest4
   case hy4 => (intro w hSw; (try dsimp only at hSw); go_simp) <;> try with_reducible rfl
   simp only [Act.put, List.setIfInBounds_toArray, List.set_cons_zero, List.set_cons_succ]
   refine wpAnyH_take (i := 4) (v := ?v5) (by simp only [List.getElem?_toArray, List.getElem?_cons_zero, List.getElem?_cons_succ]; rfl) (by kernel_rfl) (by kernel_rfl) (by kernel_rfl) (fun _ _ _ h => h) (Or.inl ⟨by rfl, ?hy5⟩) (by assumption) ?rest5
   case hy5 => (intro w hSw; (try dsimp only at hSw); go_simp) <;> try with_reducible rfl
   simp only [Act.put, List.setIfInBounds_toArray, List.set_cons_zero, List.set_cons_succ]
   refine wpAnyH_take (i := 5) (v := ?v6) (by simp only [List.getElem?_toArray, List.getElem?_cons_zero, List.getElem?_cons_succ]; rfl) (by kernel_rfl) (by kernel_rfl) (by kernel_rfl) (fun _ _ _ h => h) (Or.inl ⟨by rfl, ?hy6⟩) (by assumption) ?rest6
   case hy6 => (intro w hSw; (try dsimp only at hSw); go_simp) <;> try with_reducible rfl
   simp only [Act.put, List.setIfInBounds_toArray, List.set_cons_zero, List.set_cons_succ]
   refine wpAnyH_take (i := 6) (v := ?v7) (by simp only [List.getElem?_toArray, List.getElem?_cons_zero, List.getElem?_cons_succ]; rfl) (by kernel_rfl) (by kernel_rfl) (by kernel_rfl) (fun _ _ _ h => h) (Or.inl ⟨by rfl, ?hy7⟩) (by assumption) ?rest7
   case hy7 => (intro w hSw; (try dsimp only at hSw); go_simp) <;> try with_reducible rfl
   simp only [Act.put, List.setIfInBounds_toArray, List.set_cons_zero, List.set_cons_succ]
   refine wpAnyH_take (i := 7) (v := ?v8) (by simp only [List.getElem?_toArray, List.getElem?_cons_zero, List.getElem?_cons_succ]; rfl) (by kernel_rfl) (by kernel_rfl) (by kernel_rfl) (fun _ _ _ h => h) (Or.inl ⟨by rfl, ?hy8⟩) (by assumption) ?rest8
   case hy8 => (intro w hSw; (try dsimp only at hSw); go_simp) <;> try with_reducible rfl
   simp only [Act.put, List.setIfInBounds_toArray, List.set_cons_zero, List.set_cons_succ]
   refine wpAnyH_ready (rs := [8]) (by kernel_rfl) (by simp) ?_
   refine AllReadyH.cons (by simp only [List.getElem?_toArray, List.getElem?_cons_zero, List.getElem?_cons_succ]; rfl) (fun K9 hK9 => ?_) ?_
   rotate_left
   exact AllReadyH.nil
   go_simp
   refine hK9.out _ _ ?_ (fun hHeld => ?_)
   ·exact hS0
   clear hK9 K9
   try simp only [Act.put, List.setIfInBounds_toArray, List.set_cons_zero, List.set_cons_succ]
   refine wpAnyH_ready (rs := [9]) (by kernel_rfl) (by simp) ?_
   refine AllReadyH.cons (by simp only [List.getElem?_toArray, List.getElem?_cons_zero, List.getElem?_cons_succ]; rfl) (fun K9 hK9 => ?_) ?_
   rotate_left
   exact AllReadyH.nil
   go_simp
   refine Hcl.out.mono ?_
   rintro e w7 ⟨v7, rfl, hown7, hb7⟩
   obtain ⟨A7, c7, rfl⟩ := own_form0 hown7
   obtain ⟨hS7, hT7, q7, f7⟩ := HS.out w7 hb7
   try dsimp only at hS7
   go_simp
   refine hK9.out _ _ ?_ (fun hHeld => ?_)
   ·exact hS7
   clear hK9 K9
   try simp only [Act.put, List.setIfInBounds_toArray, List.set_cons_zero, List.set_cons_succ]
   refine wpAnyH_take (i := 10) (v := ?v9) (by simp only [List.getElem?_toArray, List.getElem?_cons_zero, List.getElem?_cons_succ]; rfl) (by kernel_rfl) (by kernel_rfl) (by kernel_rfl) (fun _ _ _ h => h) (Or.inl ⟨by rfl, ?hy9⟩) (by assumption) ?rest9
   case hy9 => (intro w hSw; (try dsimp only at hSw); go_simp) <;> try with_reducible rfl
   simp only [Act.put, List.setIfInBounds_toArray, List.set_cons_zero, List.set_cons_succ]
   refine wpAnyH_take (i := 11) (v := ?v10) (by simp only [List.getElem?_toArray, List.getElem?_cons_zero, List.getElem?_cons_succ]; rfl) (by kernel_rfl) (by kernel_rfl) (by kernel_rfl) (fun _ _ _ h => h) (Or.inl ⟨by rfl, ?hy10⟩) (by assumption) ?rest10
   case hy10 => (intro w hSw; (try dsimp only at hSw); go_simp) <;> try with_reducible rfl
   simp only [Act.put, List.setIfInBounds_toArray, List.set_cons_zero, List.set_cons_succ]
   refine wpAnyH_ready (rs := [12]) (by kernel_rfl) (by simp) ?_
   refine AllReadyH.cons (by simp only [List.getElem?_toArray, List.getElem?_cons_zero, List.getElem?_cons_succ]; rfl) (fun K9 hK9 => ?_) ?_
   rotate_left
   exact AllReadyH.nil
   go_simp
   refine hK9.out _ _ ?_ (fun hHeld => ?_)
   ·exact hT7 _
   clear hK9 K9
   try simp only [Act.put, List.setIfInBounds_toArray, List.set_cons_zero, List.set_cons_succ]
   refine wpAnyH_done (by kernel_rfl) (NoPanic.normal ?_) _
   have hown7 := hid hown7
   have hb7 := hid hb7
   clear hS7 hT7 q7 f7 e3 e4 hS0 Hcl HS
   go_wp2
   go_roundw
   case rel =>
    have hLk2 := hLk.out
    have h9 := Htl.out.drew.push (u := .slice A7 Lk.length c7) hlt hb7.out (by rw [hLk2]; exact hown7.out)
    exact ⟨k + 1, _, by go_num, by omega, h9⟩
   case measure => exact meas_lt hlt
  ·obtain rfl : k = rs.length := by omega
   clear htl
   go_wp2
   exact HK.out _ _ vs rfl rfl rfl rfl Htl.out
end Go.Proofs.Lx
