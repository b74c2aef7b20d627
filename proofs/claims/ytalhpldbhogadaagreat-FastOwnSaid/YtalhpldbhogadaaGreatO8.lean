/- Parts of the proof: Va, Vr, Vb. The state of theory.knots in memory. -/
import Derived.Test.YtalhpldbhogadaaGreatO7
import Derived.RegionTactic
import Derived.Deep.RegionLaw
import Derived.Deep.DeepCutAuto
namespace Go.Proofs.Lx
open Go Go.RowKit Go.Proofs.Tj
set_option linter.unusedSimpArgs false
set_option linter.unusedVariables false

def tab {α : Type} (n : Nat) (f : Nat → α) : List α := (List.range n).map f
theorem tab_length {α : Type} (n : Nat) (f : Nat → α) : (tab n f).length = n := by simp [tab]
theorem tab_at {α : Type} {n : Nat} {f : Nat → α} {i : Nat} (h : i < n) : (tab n f)[i]'(by rw [tab_length]; exact h) = f i := by simp [tab]
theorem tab_set {α : Type} (n : Nat) (f : Nat → α) (i : Nat) (x : α) : (tab n f).set i x = tab n (upd f i x) := by
  apply List.ext_getElem
  · simp [tab]
  · intro j h1 h2
    rw [tab_length] at h2
    rw [List.getElem_set, tab_at h2]
    by_cases e : i = j
    · subst e; rw [if_pos rfl, tab_at h2, upd_same]
    · rw [if_neg e, tab_at h2, upd_ne (Ne.symm e)]

/-- append to a row of the call's own, as one step of a region that draws. -/
theorem step_append_own {P : Program} {ops : Array Oper} {o : Oper} {a : Act} {w : World} {K : Act → World → Prop} {Q : Exit → Act → World → Prop} {E : Prop}
    (hgd : o.guard = none) (s x : Operand) (t : TypeId)
    (ho : o.op = .call { callee := .builtin .append, args := #[s, x], argTypes := #[t, t] })
    (base : Nat) (e : TypeId) (z : Value) (bytes : Nat) (ht : P.underlying t = some (.slice e)) (hinfo : (P.info? e).map (fun i => (i.zero, i.size, i.bytes)) = some (some z, 1, bytes)) (hz : z.cells.size = 1)
    (v : Value) (n : Nat) (xs : List Value) (hs : a.eval s = v) (hown : w.ownsRow base e 1 v n xs)
    (ad : Addr) (y : Value) (hx : a.eval x = .slice (some ad) 1 1) (hnew : w.cell? ad = some y) (h1 : y.oneCell' = true)
    (h63 : n + 1 ≤ maxLen) (hbytes : (n + 1) * bytes ≤ 140737488355328) (hbase : base ≤ w.heap.size)
    (h : ∀ v' w', w'.ownsRow base e 1 v' (n + 1) (xs ++ [y]) → w.grownBy w' v.ownBlock → K (a.put o.dst v') w') :
    if Region.wanted o (yielded ops a.tmps) = true then Oper.wp P o a w K Q else E := by
  rw [if_pos (by simp [Region.wanted, hgd])]
  obtain ⟨i, hi, hz0, hz1, hz2⟩ := info_parts hinfo
  refine wp_append_own w s x t ho base e i z 1 bytes ht hi hz0 hz1 hz2 hz (by omega) v n xs hs hown ad 1 1 [y] hx rfl ?_ ?_ h63 hbytes hbase ?_
  · intro j u hj
    match j, hj with
    | 0, hj => simp at hj; subst hj; rw [add_zero]; exact hnew
  · intro u hu; simp at hu; subst hu; exact h1
  · intro v' w' h2 h3 _; exact h v' w' h2 h3

structure KN (W0 : World) (n : Nat) (fv : Value) (b gI gL gO gF base : Nat) (s : TS) (sv : Value) (w : World) : Prop where
  blk : w.heap[b]? = some (.cells #[fv, .slice (some ⟨gI, 0, none⟩) n n, .slice (some ⟨gL, 0, none⟩) n n, .slice (some ⟨gO, 0, none⟩) n n, sv, .slice (some ⟨gF, 0, none⟩) n n, .int .i64 s.cnt, .int .i64 s.kn] 198 (0, 0))
  aI : Arr (fun x : Nat => Value.int .i64 (x : Int)) 3 w gI (tab n s.idx)
  aL : Arr (fun x : Nat => Value.int .i64 (x : Int)) 3 w gL (tab n s.low)
  aO : Arr Value.bool 4 w gO (tab n s.on)
  aF : Arr (fun x : Nat => Value.int .i64 (x : Int)) 3 w gF (tab n s.of)
  stk : w.ownsRow base 3 1 sv s.stk.length (s.stk.map fun (x : Nat) => Value.int .i64 (x : Int))
  old : Below W0.heap.size W0 w
  hb : W0.heap.size ≤ b ∧ b < base
  hI : W0.heap.size ≤ gI ∧ gI < base
  hL : W0.heap.size ≤ gL ∧ gL < base
  hO : W0.heap.size ≤ gO ∧ gO < base
  hF : W0.heap.size ≤ gF ∧ gF < base
  hbase : base ≤ w.heap.size
  d1 : gI ≠ gL ∧ gI ≠ gO ∧ gI ≠ gF ∧ gI ≠ b
  d2 : gL ≠ gO ∧ gL ≠ gF ∧ gL ≠ b
  d3 : gO ≠ gF ∧ gO ≠ b ∧ gF ≠ b
/-- The parts' numbers, in memory. -/
theorem KN.cell {W0 : World} {n : Nat} {fv : Value} {b gI gL gO gF base : Nat} {s : TS} {sv : Value} {w : World} (h : KN W0 n fv b gI gL gO gF base s sv w) (i : Nat) :
    w.cell? ⟨b, i, none⟩ = (#[fv, .slice (some ⟨gI, 0, none⟩) n n, .slice (some ⟨gL, 0, none⟩) n n, .slice (some ⟨gO, 0, none⟩) n n, sv, .slice (some ⟨gF, 0, none⟩) n n, .int .i64 s.cnt, .int .i64 s.kn] : Array Value)[i]? := cell_of_row w b i _ _ _ h.blk
theorem KN.free {W0 : World} {n : Nat} {fv : Value} {b gI gL gO gF base : Nat} {s : TS} {sv : Value} {w : World} (h : KN W0 n fv b gI gL gO gF base s sv w) (i : Nat) :
    w.frozen? ⟨b, i, none⟩ = false := frozen_of_row w b i _ _ h.blk

section
variable {W0 : World} {n : Nat} {fv : Value} {b gI gL gO gF base : Nat} {s : TS} {sv : Value} {w : World}
theorem KN.own_ne (h : KN W0 n fv b gI gL gO gF base s sv w) {g : Nat} (hg : g < base) : sv.ownBlock ≠ some g := fun e => by
  have := own_base' h.stk g e
  omega
where own_base' {w : World} {base : Nat} {e : TypeId} {size n : Nat} {v : Value} {xs : List Value} (h : w.ownsRow base e size v n xs) (k : Nat) (hk : v.ownBlock = some k) : base ≤ k := (h.lt k hk).1
theorem KN.drew (h : KN W0 n fv b gI gL gO gF base s sv w) : KN W0 n fv b gI gL gO gF base s sv w.drew :=
  ⟨h.blk, h.aI, h.aL, h.aO, h.aF, h.stk, h.old.drew, h.hb, h.hI, h.hL, h.hO, h.hF, h.hbase, h.d1, h.d2, h.d3⟩
theorem KN.drewN (h : KN W0 n fv b gI gL gO gF base s sv w) (m : Nat) : KN W0 n fv b gI gL gO gF base s sv (w.drewN m) := by
  induction m with
  | zero => exact h
  | succ m ih => rw [← World.drew_drewN]; exact ih.drew
theorem KN.ext (h : KN W0 n fv b gI gL gO gF base s sv w) {w' : World} (hb : Below w.heap.size w w') : KN W0 n fv b gI gL gO gF base s sv w' :=
  ⟨(hb.block b (lt_of_block h.blk)).trans h.blk, h.aI.ext hb, h.aL.ext hb, h.aO.ext hb, h.aF.ext hb,
    h.stk.kept (row := none) ⟨hb.os, hb.tape, hb.output, hb.size, fun k hk _ => hb.block k hk⟩ (by cases sv.ownBlock <;> simp), h.old.trans (hb.mono h.old.size), h.hb, h.hI, h.hL, h.hO, h.hF, Nat.le_trans h.hbase hb.size, h.d1, h.d2, h.d3⟩
theorem KN.alloc (h : KN W0 n fv b gI gL gO gF base s sv w) (o : Obj) : KN W0 n fv b gI gL gO gF base s sv (w.alloc o) := h.ext (ext_alloc w o)
theorem KN.put_cnt (h : KN W0 n fv b gI gL gO gF base s sv w) (c : Nat) : KN W0 n fv b gI gL gO gF base { s with cnt := c } sv (w.setCell ⟨b, 6, none⟩ (.int .i64 (c : Int))) := by
  obtain ⟨d11, d12, d13, d14⟩ := h.d1
  obtain ⟨d21, d22, d23⟩ := h.d2
  obtain ⟨d31, d32, d33⟩ := h.d3
  refine ⟨?_, h.aI.other d14 _, h.aL.other d23 _, h.aO.other d32 _, h.aF.other d33 _, ownsRow_setCell_other h.stk (h.own_ne h.hb.2) _, h.old.setCell h.hb.1 _, h.hb, h.hI, h.hL, h.hO, h.hF, by simp only [World.size_setCell]; exact h.hbase, h.d1, h.d2, h.d3⟩
  rw [heap_setCell_same w b 6 _ _ _ h.blk]; simp
theorem KN.put_kn (h : KN W0 n fv b gI gL gO gF base s sv w) (c : Nat) : KN W0 n fv b gI gL gO gF base { s with kn := c } sv (w.setCell ⟨b, 7, none⟩ (.int .i64 (c : Int))) := by
  obtain ⟨d11, d12, d13, d14⟩ := h.d1
  obtain ⟨d21, d22, d23⟩ := h.d2
  obtain ⟨d31, d32, d33⟩ := h.d3
  refine ⟨?_, h.aI.other d14 _, h.aL.other d23 _, h.aO.other d32 _, h.aF.other d33 _, ownsRow_setCell_other h.stk (h.own_ne h.hb.2) _, h.old.setCell h.hb.1 _, h.hb, h.hI, h.hL, h.hO, h.hF, by simp only [World.size_setCell]; exact h.hbase, h.d1, h.d2, h.d3⟩
  rw [heap_setCell_same w b 7 _ _ _ h.blk]; simp
theorem KN.put_stk (h : KN W0 n fv b gI gL gO gF base s sv w) (l : List Nat) (sv' : Value) (ho : w.ownsRow base 3 1 sv' l.length (l.map fun (x : Nat) => Value.int .i64 (x : Int))) :
    KN W0 n fv b gI gL gO gF base { s with stk := l } sv' (w.setCell ⟨b, 4, none⟩ sv') := by
  obtain ⟨d11, d12, d13, d14⟩ := h.d1
  obtain ⟨d21, d22, d23⟩ := h.d2
  obtain ⟨d31, d32, d33⟩ := h.d3
  refine ⟨?_, h.aI.other d14 _, h.aL.other d23 _, h.aO.other d32 _, h.aF.other d33 _, ownsRow_setCell_other ho (fun e => ?_) _, h.old.setCell h.hb.1 _, h.hb, h.hI, h.hL, h.hO, h.hF, by simp only [World.size_setCell]; exact h.hbase, h.d1, h.d2, h.d3⟩
  · rw [heap_setCell_same w b 4 _ _ _ h.blk]; simp
  · have := (ho.lt b e).1; have := h.hb.2; omega
theorem KN.put_idx (h : KN W0 n fv b gI gL gO gF base s sv w) (v x : Nat) : KN W0 n fv b gI gL gO gF base { s with idx := upd s.idx v x } sv (w.setCell ⟨gI, v, none⟩ (.int .i64 (x : Int))) := by
  obtain ⟨d11, d12, d13, d14⟩ := h.d1
  obtain ⟨d21, d22, d23⟩ := h.d2
  obtain ⟨d31, d32, d33⟩ := h.d3
  refine ⟨(heap_setCell_other w _ b _ (Ne.symm d14)).trans h.blk, ?_, h.aL.other (Ne.symm d11) _, h.aO.other (Ne.symm d12) _, h.aF.other (Ne.symm d13) _, ownsRow_setCell_other h.stk (h.own_ne h.hI.2) _, h.old.setCell h.hI.1 _, h.hb, h.hI, h.hL, h.hO, h.hF, by simp only [World.size_setCell]; exact h.hbase, h.d1, h.d2, h.d3⟩
  rw [← tab_set]; exact h.aI.set v x
theorem KN.put_low (h : KN W0 n fv b gI gL gO gF base s sv w) (v x : Nat) : KN W0 n fv b gI gL gO gF base { s with low := upd s.low v x } sv (w.setCell ⟨gL, v, none⟩ (.int .i64 (x : Int))) := by
  obtain ⟨d11, d12, d13, d14⟩ := h.d1
  obtain ⟨d21, d22, d23⟩ := h.d2
  obtain ⟨d31, d32, d33⟩ := h.d3
  refine ⟨(heap_setCell_other w _ b _ (Ne.symm d23)).trans h.blk, h.aI.other d11 _, ?_, h.aO.other (Ne.symm d21) _, h.aF.other (Ne.symm d22) _, ownsRow_setCell_other h.stk (h.own_ne h.hL.2) _, h.old.setCell h.hL.1 _, h.hb, h.hI, h.hL, h.hO, h.hF, by simp only [World.size_setCell]; exact h.hbase, h.d1, h.d2, h.d3⟩
  rw [← tab_set]; exact h.aL.set v x
theorem KN.put_on (h : KN W0 n fv b gI gL gO gF base s sv w) (v : Nat) (x : Bool) : KN W0 n fv b gI gL gO gF base { s with on := upd s.on v x } sv (w.setCell ⟨gO, v, none⟩ (.bool x)) := by
  obtain ⟨d11, d12, d13, d14⟩ := h.d1
  obtain ⟨d21, d22, d23⟩ := h.d2
  obtain ⟨d31, d32, d33⟩ := h.d3
  refine ⟨(heap_setCell_other w _ b _ (Ne.symm d32)).trans h.blk, h.aI.other d12 _, h.aL.other d21 _, ?_, h.aF.other (Ne.symm d31) _, ownsRow_setCell_other h.stk (h.own_ne h.hO.2) _, h.old.setCell h.hO.1 _, h.hb, h.hI, h.hL, h.hO, h.hF, by simp only [World.size_setCell]; exact h.hbase, h.d1, h.d2, h.d3⟩
  rw [← tab_set]; exact h.aO.set v x
theorem KN.put_of (h : KN W0 n fv b gI gL gO gF base s sv w) (v x : Nat) : KN W0 n fv b gI gL gO gF base { s with of := upd s.of v x } sv (w.setCell ⟨gF, v, none⟩ (.int .i64 (x : Int))) := by
  obtain ⟨d11, d12, d13, d14⟩ := h.d1
  obtain ⟨d21, d22, d23⟩ := h.d2
  obtain ⟨d31, d32, d33⟩ := h.d3
  refine ⟨(heap_setCell_other w _ b _ (Ne.symm d33)).trans h.blk, h.aI.other d13 _, h.aL.other d22 _, h.aO.other d31 _, ?_, ownsRow_setCell_other h.stk (h.own_ne h.hF.2) _, h.old.setCell h.hF.1 _, h.hb, h.hI, h.hL, h.hO, h.hF, by simp only [World.size_setCell]; exact h.hbase, h.d1, h.d2, h.d3⟩
  rw [← tab_set]; exact h.aF.set v x
theorem KN.grown_blk (h : KN W0 n fv b gI gL gO gF base s sv w) {w' : World} (hg : w.grownBy w' sv.ownBlock) {g : Nat} (hgb : g < base) : w'.heap[g]? = w.heap[g]? :=
  hg.block g (Nat.lt_of_lt_of_le hgb h.hbase) (fun e => h.own_ne hgb e.symm)
theorem KN.after4 (h : KN W0 n fv b gI gL gO gF base s sv w) {w' : World} (hg : w.grownBy w' sv.ownBlock) : w'.cell? ⟨b, 4, none⟩ = some sv ∧ w'.frozen? ⟨b, 4, none⟩ = false :=
  ⟨(World.cell?_of_block (h.grown_blk hg h.hb.2)).trans (h.cell 4), (World.frozen?_of_block (h.grown_blk hg h.hb.2)).trans (h.free 4)⟩
theorem KN.afterAt (h : KN W0 n fv b gI gL gO gF base s sv w) {w' : World} (hg : w.grownBy w' sv.ownBlock) (i : Nat) : w'.cell? ⟨b, i, none⟩ = (#[fv, .slice (some ⟨gI, 0, none⟩) n n, .slice (some ⟨gL, 0, none⟩) n n, .slice (some ⟨gO, 0, none⟩) n n, sv, .slice (some ⟨gF, 0, none⟩) n n, .int .i64 s.cnt, .int .i64 s.kn] : Array Value)[i]? :=
  (World.cell?_of_block (h.grown_blk hg h.hb.2)).trans (h.cell i)
theorem KN.afterO (h : KN W0 n fv b gI gL gO gF base s sv w) {w' : World} (hg : w.grownBy w' sv.ownBlock) {v : Nat} (hv : v < n) (hcO : w.cell? ⟨gO, v, none⟩ = some (.bool (s.on v))) : w'.cell? ⟨gO, v, none⟩ = some (.bool (s.on v)) ∧ w'.frozen? ⟨gO, v, none⟩ = false :=
  ⟨(World.cell?_of_block (h.grown_blk hg h.hO.2)).trans hcO, (World.frozen?_of_block (h.grown_blk hg h.hO.2)).trans (h.aO.free v)⟩
theorem own_form {w : World} {base : Nat} {e : TypeId} {v : Value} {n : Nat} {xs : List Value} (h : w.ownsRow base e 1 v (n + 1) xs) : ∃ g c, v = .slice (some ⟨g, 0, none⟩) (n + 1) c := by
  rcases h.2 with ⟨_, h0⟩ | ⟨g, cap, cur, hv, _⟩
  · omega
  · exact ⟨g, cap, hv⟩
theorem KN.append (h : KN W0 n fv b gI gL gO gF base s sv w) {w' : World} (hg : w.grownBy w' sv.ownBlock) (l : List Nat) (sv' : Value) (ho : w'.ownsRow base 3 1 sv' l.length (l.map fun (x : Nat) => Value.int .i64 (x : Int))) :
    KN W0 n fv b gI gL gO gF base { s with stk := l } sv' (w'.setCell ⟨b, 4, none⟩ sv') := by
  obtain ⟨d11, d12, d13, d14⟩ := h.d1
  obtain ⟨d21, d22, d23⟩ := h.d2
  obtain ⟨d31, d32, d33⟩ := h.d3
  have hbk := fun g (hgb : g < base) => h.grown_blk hg hgb
  refine ⟨?_, Arr.other ((hbk gI h.hI.2).trans h.aI) d14 _, Arr.other ((hbk gL h.hL.2).trans h.aL) d23 _, Arr.other ((hbk gO h.hO.2).trans h.aO) d32 _, Arr.other ((hbk gF h.hF.2).trans h.aF) d33 _, ownsRow_setCell_other ho (fun e => ?_) _,
    ((h.old.trans ⟨hg.os, hg.tape, hg.output, hg.size, fun k hk => hbk k (by have := h.hb; omega)⟩)).setCell h.hb.1 _, h.hb, h.hI, h.hL, h.hO, h.hF, by simp only [World.size_setCell]; exact Nat.le_trans h.hbase hg.size, h.d1, h.d2, h.d3⟩
  · rw [heap_setCell_same w' b 4 _ _ _ ((hbk b h.hb.2).trans h.blk)]; simp
  · have := (ho.lt b e).1; have := h.hb.2; omega
theorem KN.cI (h : KN W0 n fv b gI gL gO gF base s sv w) {v : Nat} (hv : v < n) : w.cell? ⟨gI, v, none⟩ = some (.int .i64 (s.idx v : Int)) := by
  rw [h.aI.cell (by rw [tab_length]; exact hv), tab_at hv]
theorem KN.cL (h : KN W0 n fv b gI gL gO gF base s sv w) {v : Nat} (hv : v < n) : w.cell? ⟨gL, v, none⟩ = some (.int .i64 (s.low v : Int)) := by
  rw [h.aL.cell (by rw [tab_length]; exact hv), tab_at hv]
theorem KN.cO (h : KN W0 n fv b gI gL gO gF base s sv w) {v : Nat} (hv : v < n) : w.cell? ⟨gO, v, none⟩ = some (.bool (s.on v)) := by
  rw [h.aO.cell (by rw [tab_length]; exact hv), tab_at hv]
theorem KN.cF (h : KN W0 n fv b gI gL gO gF base s sv w) {v : Nat} (hv : v < n) : w.cell? ⟨gF, v, none⟩ = some (.int .i64 (s.of v : Int)) := by
  rw [h.aF.cell (by rw [tab_length]; exact hv), tab_at hv]
end

theorem own_last {w : World} {base : Nat} {e : TypeId} {v : Value} {xs : List Value} {y : Value} {k : Nat} (h : w.ownsRow base e 1 v (k + 1) (xs ++ [y])) : ∃ g cap, v = .slice (some ⟨g, 0, none⟩) (k + 1) cap ∧ base ≤ g ∧ k + 1 ≤ cap ∧ cap ≤ maxLen ∧ w.cell? ⟨g, k, none⟩ = some y ∧ w.ownsRow base e 1 (.slice (some ⟨g, 0, none⟩) k cap) k xs := by
  obtain ⟨hl, h2⟩ := h
  rcases h2 with ⟨_, h0⟩ | ⟨g, cap, cur, rfl, hb, hg, hc, hm, hs, ht⟩
  · omega
  · have hxs : xs.length = k := by simp at hl; omega
    refine ⟨g, cap, rfl, hb, hc, hm, ?_, ⟨by omega, .inr ⟨g, cap, cur, rfl, hb, hg, by omega, hm, hs, ?_⟩⟩⟩
    · have hq := (show w.ownsRow base e 1 (.slice (some ⟨g, 0, none⟩) (k + 1) cap) (k + 1) (xs ++ [y]) from ⟨hl, .inr ⟨g, cap, cur, rfl, hb, hg, hc, hm, hs, ht⟩⟩).cellAt k (by omega)
      rw [hq, List.getElem?_append_right (by omega)]; simp [hxs]
    · have h3 : (cur.toList.take ((k + 1) * 1)).take (k * 1) = (xs ++ [y]).take (k * 1) := by rw [ht]
      rw [List.take_take, Nat.min_eq_left (by omega)] at h3
      rw [h3, List.take_append_of_le_length (by omega), List.take_of_length_le (by omega)]
theorem KN.congr {W0 : World} {n : Nat} {fv : Value} {b gI gL gO gF base : Nat} {s s' : TS} {sv : Value} {w : World} (h : KN W0 n fv b gI gL gO gF base s sv w) (e : s = s') : KN W0 n fv b gI gL gO gF base s' sv w := e ▸ h
theorem offs_step (c : TS) (ys : List Nat) (zs : List Nat) (u : Nat) : { offs c ys zs with on := upd (offs c ys zs).on u false, of := upd (offs c ys zs).of u c.kn } = offs c ys (u :: zs) := by
  have h1 : upd (offs c ys zs).on u false = (offs c ys (u :: zs)).on := by
    funext x
    show (if x = u then false else if x ∈ zs then false else c.on x) = if x ∈ u :: zs then false else c.on x
    by_cases e : x = u <;> simp [e]
  have h2 : upd (offs c ys zs).of u c.kn = (offs c ys (u :: zs)).of := by
    funext x
    show (if x = u then c.kn else if x ∈ zs then c.kn else c.of x) = if x ∈ u :: zs then c.kn else c.of x
    by_cases e : x = u <;> simp [e]
  rw [h1, h2]; rfl
end Go.Proofs.Lx

namespace Go.Proofs.Lx
open Go Go.RowKit Go.Proofs.Tj
set_option linter.unusedSimpArgs false
set_option linter.unusedVariables false

def sndS : Code → Code
 | .seq _ b => b
 | c => c
def fstS : Code → Code
 | .seq a _ => a
 | c => c
noncomputable def visitR2 : Code := fstS (sndS (sndS ((Tryz.f105.body).getD .skip)))

set_option maxRecDepth 1000000 in
set_option maxHeartbeats 60000000 in
theorem visit_R2 (W0 w2 : World) (n : Nat) (fv : Value) (b gI gL gO gF base : Nat) (s : TS) (sv : Value) (v : Nat) (hv : v < n) (hn : n ≤ 4096) (hsl : s.stk.length ≤ 4096)
  (h2 : KN W0 n fv b gI gL gO gF base { s with idx := upd s.idx v (s.cnt + 1), low := upd s.low v (s.cnt + 1), cnt := s.cnt + 1 } sv w2) (K : Act → World → Prop) (Q : Value → World → Prop)
  (u2 u3 u4 u5 u6 u7 u8 u9 u10 u11 u12 u13 u14 u15 u16 u17 u18 u19 u20 u21 u22 u23 u24 u25 u26 u27 u28 u29 u30 u31 u32 u33 u34 u35 u36 u37 u38 u39 u40 u41 u42 u43 u44 u45 u46 u47 u48 u49 u50 u51 u52 u53 u54 u55 u56 u57 u58 u59 u60 u61 u62 u63 u64 u65 u66 u67 u68 u69 u70 u71 u72 u73 u74 u75 u76 u77 u78 u79 u80 u81 u82 u83 u84 u85 u86 u87 u88 u89 u90 u91 u92 u93 u94 u95 u96 u97 u98 u99 u100 u101 u102 u103 u104 u105 u106 u107 u108 u109 u110 u111 u112 u113 u114 u115 u116 u117 u118 u119 u120 u121 u122 u123 u124 u125 u126 u127 u128 u129 u130 u131 u132 u133 u134 u135 u136 u137 u138 u139 u140 u141 u142 u143 u144 u145 u146 u147 u148 u149 u150 u151 u152 u153 u154 u155 u156 u157 u158 u159 u160 u161 u162 u163 u164 u165 u166 u167 u168 u169 u170 u171 u172 u173 u174 u175 u176 u177 u178 u179 u180 u181 u182 u183 u184 u185 u186 u187 u188 : Value)
  (hK : ∀ (x34 x35 x36 x37 x38 x39 x40 x41 x42 x43 x44 x45 x46 x47 x48 x49 : Value) (wx : World) (sv' : Value), KN W0 n fv b gI gL gO gF base (enter s v) sv' wx → K ⟨#[.pointer (some ⟨b, 0, none⟩), .int .i64 (v : Int), u2, u3, u4, u5, u6, u7, u8, u9, u10, u11, u12, u13, u14, u15, u16, u17, u18, u19, u20, u21, u22, u23, u24, u25, u26, u27, u28, u29, u30, u31, u32, u33, x34, x35, x36, x37, x38, x39, x40, x41, x42, x43, x44, x45, x46, x47, x48, x49, u50, u51, u52, u53, u54, u55, u56, u57, u58, u59, u60, u61, u62, u63, u64, u65, u66, u67, u68, u69, u70, u71, u72, u73, u74, u75, u76, u77, u78, u79, u80, u81, u82, u83, u84, u85, u86, u87, u88, u89, u90, u91, u92, u93, u94, u95, u96, u97, u98, u99, u100, u101, u102, u103, u104, u105, u106, u107, u108, u109, u110, u111, u112, u113, u114, u115, u116, u117, u118, u119, u120, u121, u122, u123, u124, u125, u126, u127, u128, u129, u130, u131, u132, u133, u134, u135, u136, u137, u138, u139, u140, u141, u142, u143, u144, u145, u146, u147, u148, u149, u150, u151, u152, u153, u154, u155, u156, u157, u158, u159, u160, u161, u162, u163, u164, u165, u166, u167, u168, u169, u170, u171, u172, u173, u174, u175, u176, u177, u178, u179, u180, u181, u182, u183, u184, u185, u186, u187, u188], []⟩ wx) :
  Code.wp Tryz.prog visitR2 (Exit.then K (bodyPost Tryz.prog Tryz.f105 (Ret Q))) ⟨#[.pointer (some ⟨b, 0, none⟩), .int .i64 (v : Int), u2, u3, u4, u5, u6, u7, u8, u9, u10, u11, u12, u13, u14, u15, u16, u17, u18, u19, u20, u21, u22, u23, u24, u25, u26, u27, u28, u29, u30, u31, u32, u33, u34, u35, u36, u37, u38, u39, u40, u41, u42, u43, u44, u45, u46, u47, u48, u49, u50, u51, u52, u53, u54, u55, u56, u57, u58, u59, u60, u61, u62, u63, u64, u65, u66, u67, u68, u69, u70, u71, u72, u73, u74, u75, u76, u77, u78, u79, u80, u81, u82, u83, u84, u85, u86, u87, u88, u89, u90, u91, u92, u93, u94, u95, u96, u97, u98, u99, u100, u101, u102, u103, u104, u105, u106, u107, u108, u109, u110, u111, u112, u113, u114, u115, u116, u117, u118, u119, u120, u121, u122, u123, u124, u125, u126, u127, u128, u129, u130, u131, u132, u133, u134, u135, u136, u137, u138, u139, u140, u141, u142, u143, u144, u145, u146, u147, u148, u149, u150, u151, u152, u153, u154, u155, u156, u157, u158, u159, u160, u161, u162, u163, u164, u165, u166, u167, u168, u169, u170, u171, u172, u173, u174, u175, u176, u177, u178, u179, u180, u181, u182, u183, u184, u185, u186, u187, u188], []⟩ w2 := by
 have HK := hid hK
 clear hK
 conv => arg 2; whnf
 have e3 := h2.cell 3; have e4 := h2.cell 4
 simp only [List.getElem?_toArray, List.getElem?_cons_zero, List.getElem?_cons_succ] at e3 e4
 have hbs := h2.hbase
 have hst := h2.stk
 have hlen : s.stk.length ≤ 4096 := hsl
 have hOb := h2.d3.2.1
 have hg0 : gO < w2.heap.size := Nat.lt_of_lt_of_le h2.hO.2 h2.hbase
 have hb0 : b < w2.heap.size := Nat.lt_of_lt_of_le h2.hb.2 h2.hbase
 go_region_law (refine step_append_own rfl (.tmp 43) (.tmp 45) 26 rfl base 3 (.int .i64 0) 8 Tryz.underlying26 infoI rfl sv s.stk.length _ rfl (hst.alloc _) _ (.int .i64 v) rfl (by simp [go_sem]) rfl (by unfold maxLen; omega) (by omega) (by simp; omega) ?_; intro v' w' hown hgrow; obtain ⟨gn, cn, rfl⟩ := own_form hown; obtain ⟨q4, q4f⟩ := ((h2.alloc _).drew).after4 hgrow; obtain ⟨qO, qOf⟩ := ((h2.alloc _).drew).afterO hgrow hv (((h2.alloc _).drew).cO hv); have q3 := ((h2.alloc _).drew).afterAt hgrow 3; simp only [List.getElem?_toArray, List.getElem?_cons_zero, List.getElem?_cons_succ] at q3)
 all_goals
  clear q3 q4 q4f qO qOf e3 e4 hst
  go_wp2_with fail
  exact HK.out _ _ _ _ _ _ _ _ _ _ _ _ _ _ _ _ _ _ ((((h2.alloc (.cells #[.int .i64 (v : Int)] 3)).drew).append hgrow (s.stk ++ [v]) (.slice (some ⟨gn, 0, none⟩) (s.stk.length + 1) cn) (by simpa using hown)).put_on v true)
end Go.Proofs.Lx

namespace Go.Proofs.Lx
open Go Go.RowKit Go.Proofs.Tj
set_option linter.unusedSimpArgs false
set_option linter.unusedVariables false

/-- What is asked of 'next': it answers a row that was there, and turns nothing. -/
def Nexts (W0 : World) (n : Nat) (gf : Nat) (caps : Array Value) (adjI : Nat → List Int) : Prop :=
 ∀ x, x < n → ∀ w1, Below W0.heap.size W0 w1 → Calls Tryz.prog gf ((#[Value.int .i64 (x : Int)] : Array Value) ++ caps) w1 (Ret fun r w2 => RdI W0 r (adjI x) ∧ Below w1.heap.size w1 w2)
def adjN (adjI : Nat → List Int) (x : Nat) : List Nat := (adjI x).map Int.toNat
def AdjOk (n : Nat) (adjI : Nat → List Int) : Prop := ∀ x, x < n → ∀ y ∈ adjI x, 0 ≤ y ∧ y < n

def Visits (W0 : World) (n : Nat) (gf : Nat) (caps : Array Value) (adjI : Nat → List Int) (b gI gL gO gF base : Nat) (m : Nat) : Prop :=
 ∀ (w : World) (s : TS) (sv : Value) (v : Nat) (gs : List Nat), KN W0 n (.func (.func gf) #[] caps) b gI gL gO gF base s sv w → Inv n (adjN adjI) gs s → (∀ g ∈ gs, Leads (adjN adjI) g v) → s.idx v = 0 → v < n → n - s.cnt ≤ m →
  Calls Tryz.prog 105 #[.pointer (some ⟨b, 0, none⟩), .int .i64 (v : Int)] w (Ret fun v0 w' => v0 = .tuple #[] ∧ ∃ s' sv', KN W0 n (.func (.func gf) #[] caps) b gI gL gO gF base s' sv' w' ∧ Post n (adjN adjI) gs v s s')

theorem enter_inv_cnt {n : Nat} {adj : Nat → List Nat} {gs : List Nat} {s : TS} (h : Inv n adj gs s) : s.cnt ≤ n := by rw [h.cnt_eq]; exact visN_le n _
theorem Inv.cnt_lt {n : Nat} {adj : Nat → List Nat} {gs : List Nat} {v : Nat} {s : TS} (h : Inv n adj gs s) (hr : ∀ g ∈ gs, Leads adj g v) (hv : s.idx v = 0) (hn : v < n) : s.cnt + 1 ≤ n := by
 have := (begin0 h hr hv hn).inv.cnt_eq
 have h2 := visN_le n (enter s v).idx
 have h3 : (enter s v).cnt = s.cnt + 1 := rfl
 omega

set_option maxRecDepth 100000 in
set_option maxHeartbeats 60000000 in
theorem visit_step (W0 : World) (n : Nat) (gf : Nat) (caps : Array Value) (adjI : Nat → List Int) (b gI gL gO gF base : Nat) (m : Nat) (hn : n ≤ 4096) (hgf : Enters Tryz.prog gf) (hnext : Nexts W0 n gf caps adjI) (hadj : AdjOk n adjI)
  (IH : ∀ m', m' < m → Visits W0 n gf caps adjI b gI gL gO gF base m') : Visits W0 n gf caps adjI b gI gL gO gF base m := by
 intro w s sv v gs h hinv hreach hs0 hv hm
 have hgo : ∀ args w, (callFunc gf args).run Tryz.prog w = .ok (.enter gf args) w := hgf
 have hcn := Inv.cnt_lt hinv hreach hs0 hv
 have hsl : s.stk.length ≤ 4096 := by have := hinv.kn_le; omega
 have HL := hid (begin0 hinv hreach hs0 hv)
 have Hnext := hid hnext
 have Hadj := hid hadj
 have HIH := hid IH
 have Hinv := hid hinv
 have Hs0 := hid hs0
 have Hreach := hid hreach
 clear hinv hreach hs0 hnext hadj IH hgf
 have e6 := h.cell 6
 have f6 := h.free 6
 simp only [List.getElem?_toArray, List.getElem?_cons_zero, List.getElem?_cons_succ] at e6
 refine post_gen fun Q HQ => ?_
 go_enter Tryz.func105, Tryz.ntmps105
 go_wp2
 have h1 := h.put_cnt (s.cnt + 1)
 clear h e6 f6
 rw [show ((s.cnt + 1 : Nat) : Int) = (s.cnt : Int) + 1 from by omega] at h1
 generalize w.setCell ⟨b, 6, none⟩ (.int .i64 ((s.cnt : Int) + 1)) = w1 at *
 have e1 := h1.cell 1; have e2 := h1.cell 2; have e6 := h1.cell 6
 simp only [List.getElem?_toArray, List.getElem?_cons_zero, List.getElem?_cons_succ] at e1 e2 e6
 have aI := h1.aI.free v; have aL := h1.aL.free v
 have cI := h1.cI hv; have cL := h1.cL hv
 have d11 := h1.d1.1
 go_region
 have h2 := ((h1.put_idx v (s.cnt + 1)).put_low v (s.cnt + 1)).drew
 clear h1 e1 e2 e6 aI aL cI cL
 rw [show ((s.cnt + 1 : Nat) : Int) = (s.cnt : Int) + 1 from by omega] at h2
 generalize ((w1.setCell ⟨gI, v, none⟩ (.int .i64 ((s.cnt : Int) + 1))).setCell ⟨gL, v, none⟩ (.int .i64 ((s.cnt : Int) + 1))).drew = w2 at *
 go_wp2
 refine visit_R2 W0 w2 n _ b gI gL gO gF base s sv v hv hn hsl h2 _ Q _ _ _ _ _ _ _ _ _ _ _ _ _ _ _ _ _ _ _ _ _ _ _ _ _ _ _ _ _ _ _ _ _ _ _ _ _ _ _ _ _ _ _ _ _ _ _ _ _ _ _ _ _ _ _ _ _ _ _ _ _ _ _ _ _ _ _ _ _ _ _ _ _ _ _ _ _ _ _ _ _ _ _ _ _ _ _ _ _ _ _ _ _ _ _ _ _ _ _ _ _ _ _ _ _ _ _ _ _ _ _ _ _ _ _ _ _ _ _ _ _ _ _ _ _ _ _ _ _ _ _ _ _ _ _ _ _ _ _ _ _ _ _ _ _ _ _ _ _ _ _ _ _ _ _ _ _ _ _ _ _ _ _ _ _ _ _ _ _ _ _ _ _ _ _ _ _ _ _ _ _ _ _ _ _ _ _ ?_
 intro x34 x35 x36 x37 x38 x39 x40 x41 x42 x43 x44 x45 x46 x47 x48 x49 wc sv' h3
 go_step
 as_aux_lemma =>
  clear h2 d11
  have e0 := h3.cell 0
  simp only [List.getElem?_toArray, List.getElem?_cons_zero] at e0
  have hnx := Hnext.out v hv wc h3.old
  go_wp2_with fail
  refine hnx.mono ?_
  rintro e w3 ⟨_, rfl, ⟨A, cA, rfl, hcA, hbA, hrA⟩, hb3⟩
  have h4 := h3.ext hb3
  clear h3 hb3 hnx e0
  go_wp2
  obtain ⟨l, Hl⟩ : ∃ l, Hid (l = adjI v) := ⟨_, rfl⟩
  rw [← Hl.out] at hrA hcA hbA ⊢
  have Hadjl : Hid (adjN adjI v = l.map Int.toNat) := by rw [Hl.out]; rfl
  have Hin : Hid (∀ i (h : i < l.length), 0 ≤ l[i] ∧ l[i] < n) := by
   intro i hi
   have := Hadj.out v hv l[i] (by rw [← Hl.out]; exact List.getElem_mem hi)
   exact this
  go_loopw [57] (fun v57 wr => ∃ (j : Nat) (c : TS) (svj : Value), j ≤ l.length ∧ v57 = .int .i64 j ∧ KN W0 n (.func (.func gf) #[] caps) b gI gL gO gF base c svj wr ∧ LI n (adjN adjI) gs v s j c) (fun v57 _ => l.length - (intOf v57).toNat)
  case atStart => exact ⟨0, _, _, Nat.zero_le _, rfl, h4, HL.out⟩
  case round =>
   clear h4 HL
   obtain ⟨j, c, svj, hj, rfl, hk, hli⟩ := hrel
   by_cases hjl : j < l.length
   ·obtain ⟨ad, rfl, hcell⟩ := (hrA.ext (scR_mono _) hk.old).at1 hjl
    obtain ⟨hx0, hxn⟩ := Hin.out j hjl
    obtain ⟨u, hu⟩ := Int.eq_ofNat_of_zero_le hx0
    have Hu : Hid ((adjN adjI v)[j]'(by rw [Hadjl.out]; simpa using hjl) = u) := by
     have : ∀ (q : List Nat) (e : q = l.map Int.toNat) (hq : j < q.length), q[j] = u := by
      rintro q rfl hq; simp [hu]
     exact this _ Hadjl.out _
    have hun : u < n := by omega
    rw [hu] at hcell
    have hjl' : j < (adjN adjI v).length := by rw [Hadjl.out]; simpa using hjl
    have e1 := hk.cell 1; have e2 := hk.cell 2; have e3 := hk.cell 3
    simp only [List.getElem?_toArray, List.getElem?_cons_zero, List.getElem?_cons_succ] at e1 e2 e3
    have cIu := hk.cI hun
    have hci : c.idx u ≤ n := Nat.le_trans (hli.inv.idx_le u) (enter_inv_cnt hli.inv)
    have Hli := hid hli
    clear hli hu hx0 hxn
    by_cases h0 : c.idx u = 0
    ·have hb0 : ((c.idx u : Int) == 0) = true := by simp [h0]
     have H0 := hid h0
     clear h0
     have hcall := HIH.out (n - c.cnt) (by have := Hli.out.grow; omega) wr c svj u (v :: gs) hk Hli.out.inv (by have := Hli.out.pre hjl'; rw [Hu.out] at this; exact this) H0.out hun (Nat.le_refl _)
     go_wp2_with fail
     refine hcall.mono ?_
     rintro e w5 ⟨_, rfl, rfl, c1, sv1, hk1, hpost⟩
     have Hpost := hid hpost
     clear hpost hcall hk e1 e2 e3 cIu hb0 hcell
     have e2 := hk1.cell 2
     simp only [List.getElem?_toArray, List.getElem?_cons_zero, List.getElem?_cons_succ] at e2
     have cLv := hk1.cL hv
     have cLu := hk1.cL hun
     have fL := hk1.aL.free v
     go_wp2_with fail
     as_aux_lemma =>
      go_region
      go_wp2
      go_roundw
      case rel =>
       have hk5 := (hk1.put_low v (min (c1.low v) (c1.low u))).drew
       refine ⟨j + 1, _, sv1, by omega, by go_num, ?_, Hli.out.stepA hjl' (by rw [Hu.out]; exact H0.out) (by rw [Hu.out]; exact Hpost.out)⟩
       rw [Hu.out, show (if c1.low u < c1.low v then (c1.low u : Int) else (c1.low v : Int)) = ((min (c1.low v) (c1.low u) : Nat) : Int) from by split <;> omega]
       exact hk5
      case measure => simp [intOf]; omega
    ·have hb0 : ((c.idx u : Int) == 0) = false := by simp [h0]
     have H0 := hid h0
     clear h0
     have cOu := hk.cO hun
     cases hon : c.on u with
     | true =>
      rw [hon] at cOu
      have cLv := hk.cL hv
      have fL := hk.aL.free v
      go_wp2_with fail
      as_aux_lemma =>
       go_region
       go_wp2
       go_roundw
       case rel =>
        have hk5 := (hk.put_low v (min (c.low v) (c.idx u))).drew
        refine ⟨j + 1, _, svj, by omega, by go_num, ?_, Hli.out.stepB hjl' (by rw [Hu.out]; exact H0.out) (by rw [Hu.out]; exact hon)⟩
        rw [Hu.out, show (if c.idx u < c.low v then (c.idx u : Int) else (c.low v : Int)) = ((min (c.low v) (c.idx u) : Nat) : Int) from by split <;> omega]
        exact hk5
       case measure => simp [intOf]; omega
     | false =>
      rw [hon] at cOu
      have Hon := hid hon
      clear hon
      go_wp2
      go_roundw
      case rel =>
       refine ⟨j + 1, c, svj, by omega, by go_num, hk, Hli.out.stepC hjl' ?_ ?_⟩
       ·rw [Hu.out]; exact H0.out
       ·rw [Hu.out]; exact Hon.out
      case measure => simp [intOf]; omega
   ·have hjl2 : j = l.length := by omega
    subst hjl2
    have e1 := hk.cell 1; have e2 := hk.cell 2
    simp only [List.getElem?_toArray, List.getElem?_cons_zero, List.getElem?_cons_succ] at e1 e2
    have cLv := hk.cL hv
    have cIv := hk.cI hv
    have Hli : Hid (LI n (adjN adjI) gs v s (adjN adjI v).length c) := by rw [Hadjl.out, List.length_map]; exact hli
    clear hli
    by_cases hne : c.low v = c.idx v
    ·have Hne := hid hne
     clear hne
     have hb1 : ((c.low v : Int) != (c.idx v : Int)) = false := by simp [Hne.out]
     go_wp2_with fail
     go_region
     obtain ⟨xs, hxs, _, _⟩ := Hli.out.stk
     have Hxs := hid hxs
     have hstl : c.stk.length + c.kn ≤ n := by have := Hli.out.inv.kn_le; have := enter_inv_cnt Hli.out.inv; omega
     have hsz : s.stk.length + (v :: xs).length + c.kn ≤ n := by rw [hxs, List.length_append] at hstl; exact hstl
     have Hnd : Hid (v ∉ xs) := by
      have hp := Hli.out.inv.sorted
      rw [hxs, List.pairwise_append] at hp
      intro hm
      have := List.rel_of_pairwise_cons hp.2.1 hm
      omega
     have hkd := hk.drew
     clear hxs hk e1 e2 cLv cIv hb1 hstl
     go_wp2
     go_loopg [6] (v :: xs).length (fun gk v6 w6 => ∃ (ws zs : List Nat) (svk : Value) (t : Int), Hid (v :: xs = ws ++ zs) ∧ v6 = .int .i64 t ∧ Hid (t = v ↔ ws = []) ∧ Hid (ws.length = gk) ∧ KN W0 n (.func (.func gf) #[] caps) b gI gL gO gF base (offs c (s.stk ++ ws) zs) svk w6)
     case atStart => exact ⟨v :: xs, [], svj, -1, by simp [Hid], rfl, ⟨fun h => by omega, fun h => by simp at h⟩, rfl, hkd.congr (by rw [show c = ⟨c.idx, c.low, c.on, c.of, c.stk, c.cnt, c.kn⟩ from rfl]; simp only [offs, List.not_mem_nil, if_false]; rw [Hxs.out])⟩
     case round =>
      clear hkd
      obtain ⟨ws, zs, svk, t, hws, rfl, htv, hgk, hk⟩ := hrel
      rcases List.eq_nil_or_concat ws with hnil | ⟨ws', u, hcc⟩
      ·have Hnil := hid hnil
       have htv' := htv.out.2 hnil
       have hb1 : ((t : Int) != (v : Int)) = false := by simp [htv']
       clear hnil htv'
       have e7 : wr.cell? ⟨b, 7, none⟩ = some (.int .i64 (c.kn : Int)) := hk.cell 7
       have f7 := hk.free 7
       go_wp2
       go_returns
       have hk9 := hk.put_kn (c.kn + 1)
       rw [show ((c.kn + 1 : Nat) : Int) = (c.kn : Int) + 1 from by omega] at hk9
       refine Fin HQ ⟨rfl, popped c s.stk (v :: xs), svk, hk9.congr ?_, Hli.out.pop Hne.out Hxs.out⟩
       have h1 := hws.out
       rw [Hnil.out, List.nil_append] at h1
       rw [Hnil.out, List.append_nil, ← h1]; rfl
      ·rw [List.concat_eq_append] at hcc
       have Hcc := hid hcc
       have hst := hk.stk
       have hun : u < n := by
        refine Hli.out.inv.vis_lt u (Hli.out.inv.stk_vis u ?_)
        rw [Hxs.out, hws.out, hcc]; simp
       have hgk2 : gk = ws'.length + 1 := by rw [← hgk.out, hcc]; simp
       have hst2 : wr.ownsRow base 3 1 svk ((s.stk ++ ws').length + 1) (((s.stk ++ ws').map fun (x : Nat) => Value.int .i64 (x : Int)) ++ [.int .i64 (u : Int)]) := by
        have := hst
        simp only [offs, hcc] at this
        simpa [Nat.add_assoc] using this
       obtain ⟨g, cap, rfl, hgb, hkc, hcm, hcell, hpop⟩ := own_last hst2
       have hlen : (s.stk ++ ws').length + c.kn ≤ n := by
        have h1 := congrArg List.length hws.out
        rw [hcc] at h1
        simp only [List.length_append, List.length_cons, List.length_nil] at h1 hsz ⊢
        omega
       have hb1 : ((t : Int) != (v : Int)) = true := by
        have : ¬ t = v := fun h => by have := htv.out.1 h; rw [hcc] at this; simp at this
        simp [this]
       have Hpop := hid hpop
       obtain ⟨K, HK⟩ : ∃ K, Hid (K = (s.stk ++ ws').length) := ⟨_, rfl⟩
       rw [← HK.out] at hkc hcell hpop hlen Hpop
       have e4 : wr.cell? ⟨b, 4, none⟩ = some (.slice (some ⟨g, 0, none⟩) (K + 1) cap) := by rw [HK.out]; exact hk.cell 4
       have hk' := hk
       clear hst hst2 hcc hpop
       rw [← HK.out] at hk'
       go_wp2_with fail
       go_region
       have hk1 := hk'.drew
       clear e4 hcell hk hk' hb1
       generalize wr.drew = w7 at *
       as_aux_lemma =>
        have e3 := hk1.cell 3; have e4 := hk1.cell 4
        simp only [List.getElem?_toArray, List.getElem?_cons_zero, List.getElem?_cons_succ] at e3 e4
        have f4 := hk1.free 4
        have cOu := hk1.cO hun
        have fO := hk1.aO.free u
        have hOb := hk1.d3.2.1
        have Hpop7 : Hid (w7.ownsRow base 3 1 (.slice (some ⟨g, 0, none⟩) K cap) K ((s.stk ++ ws').map fun (x : Nat) => Value.int .i64 (x : Int))) := by
         have hst2 : w7.ownsRow base 3 1 (.slice (some ⟨g, 0, none⟩) (K + 1) cap) (s.stk ++ ws).length ((s.stk ++ ws).map fun (x : Nat) => Value.int .i64 (x : Int)) := hk1.stk
         rw [Hcc.out, ← List.append_assoc, List.map_append, List.length_append, ← HK.out] at hst2
         obtain ⟨g2, cap2, h2, _, _, _, _, hp⟩ := own_last hst2
         injection h2 with h3 _ h4
         injection h3 with h5
         injection h5 with h6
         subst h6; subst h4; exact hp
        go_wp2_with fail
        go_region
        have hk2 := ((hk1.put_stk (s.stk ++ ws') (.slice (some ⟨g, 0, none⟩) K cap) (by rw [← HK.out]; exact Hpop7.out)).put_on u false).drew
        clear e3 e4 f4 cOu fO hOb hk1 Hpop7
        generalize ((w7.setCell ⟨b, 4, none⟩ (.slice (some ⟨g, 0, none⟩) K cap)).setCell ⟨gO, u, none⟩ (.bool false)).drew = w8 at *
        as_aux_lemma =>
         have e5 := hk2.cell 5
         simp only [List.getElem?_toArray, List.getElem?_cons_zero, List.getElem?_cons_succ] at e5
         have e7 : w8.cell? ⟨b, 7, none⟩ = some (.int .i64 (c.kn : Int)) := hk2.cell 7
         have cFu := hk2.cF hun
         have fF := hk2.aF.free u
         go_wp2_with fail
         go_region
         have hk3 := (hk2.put_of u c.kn).drew
         go_wp2
         go_roundg ws'.length
         case measure => omega
         case rel =>
          refine ⟨ws', u :: zs, _, (u : Int), ?_, rfl, ?_, rfl, hk3.congr ?_⟩
          ·show v :: xs = ws' ++ u :: zs
           have := hws.out; rw [Hcc.out] at this; simpa using this
          ·have h1 := hws.out
           rw [Hcc.out] at h1
           constructor
           ·intro h2
            have h3 : u = v := by omega
            cases ws' with
            | nil => rfl
            | cons y r =>
             exfalso
             simp at h1
             refine Hnd.out ?_
             rw [h1.2, h3]; simp
           ·intro h2
            subst h2
            simp at h1; omega
          ·rw [← offs_step]; rfl
    ·have Hne := hid hne
     have hb1 : ((c.low v : Int) != (c.idx v : Int)) = true := by simp; omega
     clear hne
     go_wp2_with fail
     as_aux_lemma =>
      go_region
      go_wp2
      go_returns
      exact Fin HQ ⟨rfl, c, svj, hk.drew, Hli.out.keep Hne.out⟩
end Go.Proofs.Lx
