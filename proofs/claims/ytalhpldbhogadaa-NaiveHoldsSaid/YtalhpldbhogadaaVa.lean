/- The state of theory.knots in memory. -/
import Derived.Test.YtalhpldbhogadaaCf
import Derived.Test.YtalhpldbhogadaaTb
import Derived.RegionTactic
import Derived.Deep.RegionLaw
import Derived.Deep.DeepCutAuto
namespace Go.Proofs.Lx
open Go Go.RowKit Go.Proofs.Tj
set_option linter.unusedSimpArgs false
set_option linter.unusedVariables false

def tab {α : Type} (n : Nat) (f : Nat → α) : List α := (List.range n).map f
theorem tab_length {α : Type} (n : Nat) (f : Nat → α) : (tab n f).length = n := by simp [tab]
theorem tab_at {α : Type} {n : Nat} {f : Nat → α} {i : Nat} (h : i < n) : (tab n f)[i]'(by rw [tab_length]; exact h) = f i := by simp [tab]
theorem tab_set {α : Type} (n : Nat) (f : Nat → α) (i : Nat) (x : α) : (tab n f).set i x = tab n (upd f i x) := by
  apply List.ext_getElem
  · simp [tab]
  · intro j h1 h2
    rw [tab_length] at h2
    rw [List.getElem_set, tab_at h2]
    by_cases e : i = j
    · subst e; rw [if_pos rfl, tab_at h2, upd_same]
    · rw [if_neg e, tab_at h2, upd_ne (Ne.symm e)]

/-- append to a row of the call's own, as one step of a region that draws. -/
theorem step_append_own {P : Program} {ops : Array Oper} {o : Oper} {a : Act} {w : World} {K : Act → World → Prop} {Q : Exit → Act → World → Prop} {E : Prop}
    (hgd : o.guard = none) (s x : Operand) (t : TypeId)
    (ho : o.op = .call { callee := .builtin .append, args := #[s, x], argTypes := #[t, t] })
    (base : Nat) (e : TypeId) (z : Value) (bytes : Nat) (ht : P.underlying t = some (.slice e)) (hinfo : (P.info? e).map (fun i => (i.zero, i.size, i.bytes)) = some (some z, 1, bytes)) (hz : z.cells.size = 1)
    (v : Value) (n : Nat) (xs : List Value) (hs : a.eval s = v) (hown : w.ownsRow base e 1 v n xs)
    (ad : Addr) (y : Value) (hx : a.eval x = .slice (some ad) 1 1) (hnew : w.cell? ad = some y) (h1 : y.oneCell' = true)
    (h63 : n + 1 ≤ maxLen) (hbytes : (n + 1) * bytes ≤ 140737488355328) (hbase : base ≤ w.heap.size)
    (h : ∀ v' w', w'.ownsRow base e 1 v' (n + 1) (xs ++ [y]) → w.grownBy w' v.ownBlock → K (a.put o.dst v') w') :
    if Region.wanted o (yielded ops a.tmps) = true then Oper.wp P o a w K Q else E := by
  rw [if_pos (by simp [Region.wanted, hgd])]
  obtain ⟨i, hi, hz0, hz1, hz2⟩ := info_parts hinfo
  refine wp_append_own w s x t ho base e i z 1 bytes ht hi hz0 hz1 hz2 hz (by omega) v n xs hs hown ad 1 1 [y] hx rfl ?_ ?_ h63 hbytes hbase ?_
  · intro j u hj
    match j, hj with
    | 0, hj => simp at hj; subst hj; rw [add_zero]; exact hnew
  · intro u hu; simp at hu; subst hu; exact h1
  · intro v' w' h2 h3 _; exact h v' w' h2 h3

structure KN (W0 : World) (n : Nat) (fv : Value) (b gI gL gO gF base : Nat) (s : TS) (sv : Value) (w : World) : Prop where
  blk : w.heap[b]? = some (.cells #[fv, .slice (some ⟨gI, 0, none⟩) n n, .slice (some ⟨gL, 0, none⟩) n n, .slice (some ⟨gO, 0, none⟩) n n, sv, .slice (some ⟨gF, 0, none⟩) n n, .int .i64 s.cnt, .int .i64 s.kn] 153 (0, 0))
  aI : Arr (fun x : Nat => Value.int .i64 (x : Int)) 3 w gI (tab n s.idx)
  aL : Arr (fun x : Nat => Value.int .i64 (x : Int)) 3 w gL (tab n s.low)
  aO : Arr Value.bool 4 w gO (tab n s.on)
  aF : Arr (fun x : Nat => Value.int .i64 (x : Int)) 3 w gF (tab n s.of)
  stk : w.ownsRow base 3 1 sv s.stk.length (s.stk.map fun (x : Nat) => Value.int .i64 (x : Int))
  old : Below W0.heap.size W0 w
  hb : W0.heap.size ≤ b ∧ b < base
  hI : W0.heap.size ≤ gI ∧ gI < base
  hL : W0.heap.size ≤ gL ∧ gL < base
  hO : W0.heap.size ≤ gO ∧ gO < base
  hF : W0.heap.size ≤ gF ∧ gF < base
  hbase : base ≤ w.heap.size
  d1 : gI ≠ gL ∧ gI ≠ gO ∧ gI ≠ gF ∧ gI ≠ b
  d2 : gL ≠ gO ∧ gL ≠ gF ∧ gL ≠ b
  d3 : gO ≠ gF ∧ gO ≠ b ∧ gF ≠ b
/-- The parts' numbers, in memory. -/
theorem KN.cell {W0 : World} {n : Nat} {fv : Value} {b gI gL gO gF base : Nat} {s : TS} {sv : Value} {w : World} (h : KN W0 n fv b gI gL gO gF base s sv w) (i : Nat) :
    w.cell? ⟨b, i, none⟩ = (#[fv, .slice (some ⟨gI, 0, none⟩) n n, .slice (some ⟨gL, 0, none⟩) n n, .slice (some ⟨gO, 0, none⟩) n n, sv, .slice (some ⟨gF, 0, none⟩) n n, .int .i64 s.cnt, .int .i64 s.kn] : Array Value)[i]? := cell_of_row w b i _ _ _ h.blk
theorem KN.free {W0 : World} {n : Nat} {fv : Value} {b gI gL gO gF base : Nat} {s : TS} {sv : Value} {w : World} (h : KN W0 n fv b gI gL gO gF base s sv w) (i : Nat) :
    w.frozen? ⟨b, i, none⟩ = false := frozen_of_row w b i _ _ h.blk

section
variable {W0 : World} {n : Nat} {fv : Value} {b gI gL gO gF base : Nat} {s : TS} {sv : Value} {w : World}
theorem KN.own_ne (h : KN W0 n fv b gI gL gO gF base s sv w) {g : Nat} (hg : g < base) : sv.ownBlock ≠ some g := fun e => by
  have := own_base' h.stk g e
  omega
where own_base' {w : World} {base : Nat} {e : TypeId} {size n : Nat} {v : Value} {xs : List Value} (h : w.ownsRow base e size v n xs) (k : Nat) (hk : v.ownBlock = some k) : base ≤ k := (h.lt k hk).1
theorem KN.drew (h : KN W0 n fv b gI gL gO gF base s sv w) : KN W0 n fv b gI gL gO gF base s sv w.drew :=
  ⟨h.blk, h.aI, h.aL, h.aO, h.aF, h.stk, h.old.drew, h.hb, h.hI, h.hL, h.hO, h.hF, h.hbase, h.d1, h.d2, h.d3⟩
theorem KN.drewN (h : KN W0 n fv b gI gL gO gF base s sv w) (m : Nat) : KN W0 n fv b gI gL gO gF base s sv (w.drewN m) := by
  induction m with
  | zero => exact h
  | succ m ih => rw [← World.drew_drewN]; exact ih.drew
theorem KN.ext (h : KN W0 n fv b gI gL gO gF base s sv w) {w' : World} (hb : Below w.heap.size w w') : KN W0 n fv b gI gL gO gF base s sv w' :=
  ⟨(hb.block b (lt_of_block h.blk)).trans h.blk, h.aI.ext hb, h.aL.ext hb, h.aO.ext hb, h.aF.ext hb,
    h.stk.kept (row := none) ⟨hb.os, hb.tape, hb.output, hb.size, fun k hk _ => hb.block k hk⟩ (by cases sv.ownBlock <;> simp), h.old.trans (hb.mono h.old.size), h.hb, h.hI, h.hL, h.hO, h.hF, Nat.le_trans h.hbase hb.size, h.d1, h.d2, h.d3⟩
theorem KN.alloc (h : KN W0 n fv b gI gL gO gF base s sv w) (o : Obj) : KN W0 n fv b gI gL gO gF base s sv (w.alloc o) := h.ext (ext_alloc w o)
theorem KN.put_cnt (h : KN W0 n fv b gI gL gO gF base s sv w) (c : Nat) : KN W0 n fv b gI gL gO gF base { s with cnt := c } sv (w.setCell ⟨b, 6, none⟩ (.int .i64 (c : Int))) := by
  obtain ⟨d11, d12, d13, d14⟩ := h.d1
  obtain ⟨d21, d22, d23⟩ := h.d2
  obtain ⟨d31, d32, d33⟩ := h.d3
  refine ⟨?_, h.aI.other d14 _, h.aL.other d23 _, h.aO.other d32 _, h.aF.other d33 _, ownsRow_setCell_other h.stk (h.own_ne h.hb.2) _, h.old.setCell h.hb.1 _, h.hb, h.hI, h.hL, h.hO, h.hF, by simp only [World.size_setCell]; exact h.hbase, h.d1, h.d2, h.d3⟩
  rw [heap_setCell_same w b 6 _ _ _ h.blk]; simp
theorem KN.put_kn (h : KN W0 n fv b gI gL gO gF base s sv w) (c : Nat) : KN W0 n fv b gI gL gO gF base { s with kn := c } sv (w.setCell ⟨b, 7, none⟩ (.int .i64 (c : Int))) := by
  obtain ⟨d11, d12, d13, d14⟩ := h.d1
  obtain ⟨d21, d22, d23⟩ := h.d2
  obtain ⟨d31, d32, d33⟩ := h.d3
  refine ⟨?_, h.aI.other d14 _, h.aL.other d23 _, h.aO.other d32 _, h.aF.other d33 _, ownsRow_setCell_other h.stk (h.own_ne h.hb.2) _, h.old.setCell h.hb.1 _, h.hb, h.hI, h.hL, h.hO, h.hF, by simp only [World.size_setCell]; exact h.hbase, h.d1, h.d2, h.d3⟩
  rw [heap_setCell_same w b 7 _ _ _ h.blk]; simp
theorem KN.put_stk (h : KN W0 n fv b gI gL gO gF base s sv w) (l : List Nat) (sv' : Value) (ho : w.ownsRow base 3 1 sv' l.length (l.map fun (x : Nat) => Value.int .i64 (x : Int))) :
    KN W0 n fv b gI gL gO gF base { s with stk := l } sv' (w.setCell ⟨b, 4, none⟩ sv') := by
  obtain ⟨d11, d12, d13, d14⟩ := h.d1
  obtain ⟨d21, d22, d23⟩ := h.d2
  obtain ⟨d31, d32, d33⟩ := h.d3
  refine ⟨?_, h.aI.other d14 _, h.aL.other d23 _, h.aO.other d32 _, h.aF.other d33 _, ownsRow_setCell_other ho (fun e => ?_) _, h.old.setCell h.hb.1 _, h.hb, h.hI, h.hL, h.hO, h.hF, by simp only [World.size_setCell]; exact h.hbase, h.d1, h.d2, h.d3⟩
  · rw [heap_setCell_same w b 4 _ _ _ h.blk]; simp
  · have := (ho.lt b e).1; have := h.hb.2; omega
theorem KN.put_idx (h : KN W0 n fv b gI gL gO gF base s sv w) (v x : Nat) : KN W0 n fv b gI gL gO gF base { s with idx := upd s.idx v x } sv (w.setCell ⟨gI, v, none⟩ (.int .i64 (x : Int))) := by
  obtain ⟨d11, d12, d13, d14⟩ := h.d1
  obtain ⟨d21, d22, d23⟩ := h.d2
  obtain ⟨d31, d32, d33⟩ := h.d3
  refine ⟨(heap_setCell_other w _ b _ (Ne.symm d14)).trans h.blk, ?_, h.aL.other (Ne.symm d11) _, h.aO.other (Ne.symm d12) _, h.aF.other (Ne.symm d13) _, ownsRow_setCell_other h.stk (h.own_ne h.hI.2) _, h.old.setCell h.hI.1 _, h.hb, h.hI, h.hL, h.hO, h.hF, by simp only [World.size_setCell]; exact h.hbase, h.d1, h.d2, h.d3⟩
  rw [← tab_set]; exact h.aI.set v x
theorem KN.put_low (h : KN W0 n fv b gI gL gO gF base s sv w) (v x : Nat) : KN W0 n fv b gI gL gO gF base { s with low := upd s.low v x } sv (w.setCell ⟨gL, v, none⟩ (.int .i64 (x : Int))) := by
  obtain ⟨d11, d12, d13, d14⟩ := h.d1
  obtain ⟨d21, d22, d23⟩ := h.d2
  obtain ⟨d31, d32, d33⟩ := h.d3
  refine ⟨(heap_setCell_other w _ b _ (Ne.symm d23)).trans h.blk, h.aI.other d11 _, ?_, h.aO.other (Ne.symm d21) _, h.aF.other (Ne.symm d22) _, ownsRow_setCell_other h.stk (h.own_ne h.hL.2) _, h.old.setCell h.hL.1 _, h.hb, h.hI, h.hL, h.hO, h.hF, by simp only [World.size_setCell]; exact h.hbase, h.d1, h.d2, h.d3⟩
  rw [← tab_set]; exact h.aL.set v x
theorem KN.put_on (h : KN W0 n fv b gI gL gO gF base s sv w) (v : Nat) (x : Bool) : KN W0 n fv b gI gL gO gF base { s with on := upd s.on v x } sv (w.setCell ⟨gO, v, none⟩ (.bool x)) := by
  obtain ⟨d11, d12, d13, d14⟩ := h.d1
  obtain ⟨d21, d22, d23⟩ := h.d2
  obtain ⟨d31, d32, d33⟩ := h.d3
  refine ⟨(heap_setCell_other w _ b _ (Ne.symm d32)).trans h.blk, h.aI.other d12 _, h.aL.other d21 _, ?_, h.aF.other (Ne.symm d31) _, ownsRow_setCell_other h.stk (h.own_ne h.hO.2) _, h.old.setCell h.hO.1 _, h.hb, h.hI, h.hL, h.hO, h.hF, by simp only [World.size_setCell]; exact h.hbase, h.d1, h.d2, h.d3⟩
  rw [← tab_set]; exact h.aO.set v x
theorem KN.put_of (h : KN W0 n fv b gI gL gO gF base s sv w) (v x : Nat) : KN W0 n fv b gI gL gO gF base { s with of := upd s.of v x } sv (w.setCell ⟨gF, v, none⟩ (.int .i64 (x : Int))) := by
  obtain ⟨d11, d12, d13, d14⟩ := h.d1
  obtain ⟨d21, d22, d23⟩ := h.d2
  obtain ⟨d31, d32, d33⟩ := h.d3
  refine ⟨(heap_setCell_other w _ b _ (Ne.symm d33)).trans h.blk, h.aI.other d13 _, h.aL.other d22 _, h.aO.other d31 _, ?_, ownsRow_setCell_other h.stk (h.own_ne h.hF.2) _, h.old.setCell h.hF.1 _, h.hb, h.hI, h.hL, h.hO, h.hF, by simp only [World.size_setCell]; exact h.hbase, h.d1, h.d2, h.d3⟩
  rw [← tab_set]; exact h.aF.set v x
theorem KN.grown_blk (h : KN W0 n fv b gI gL gO gF base s sv w) {w' : World} (hg : w.grownBy w' sv.ownBlock) {g : Nat} (hgb : g < base) : w'.heap[g]? = w.heap[g]? :=
  hg.block g (Nat.lt_of_lt_of_le hgb h.hbase) (fun e => h.own_ne hgb e.symm)
theorem KN.after4 (h : KN W0 n fv b gI gL gO gF base s sv w) {w' : World} (hg : w.grownBy w' sv.ownBlock) : w'.cell? ⟨b, 4, none⟩ = some sv ∧ w'.frozen? ⟨b, 4, none⟩ = false :=
  ⟨(World.cell?_of_block (h.grown_blk hg h.hb.2)).trans (h.cell 4), (World.frozen?_of_block (h.grown_blk hg h.hb.2)).trans (h.free 4)⟩
theorem KN.afterAt (h : KN W0 n fv b gI gL gO gF base s sv w) {w' : World} (hg : w.grownBy w' sv.ownBlock) (i : Nat) : w'.cell? ⟨b, i, none⟩ = (#[fv, .slice (some ⟨gI, 0, none⟩) n n, .slice (some ⟨gL, 0, none⟩) n n, .slice (some ⟨gO, 0, none⟩) n n, sv, .slice (some ⟨gF, 0, none⟩) n n, .int .i64 s.cnt, .int .i64 s.kn] : Array Value)[i]? :=
  (World.cell?_of_block (h.grown_blk hg h.hb.2)).trans (h.cell i)
theorem KN.afterO (h : KN W0 n fv b gI gL gO gF base s sv w) {w' : World} (hg : w.grownBy w' sv.ownBlock) {v : Nat} (hv : v < n) (hcO : w.cell? ⟨gO, v, none⟩ = some (.bool (s.on v))) : w'.cell? ⟨gO, v, none⟩ = some (.bool (s.on v)) ∧ w'.frozen? ⟨gO, v, none⟩ = false :=
  ⟨(World.cell?_of_block (h.grown_blk hg h.hO.2)).trans hcO, (World.frozen?_of_block (h.grown_blk hg h.hO.2)).trans (h.aO.free v)⟩
theorem own_form {w : World} {base : Nat} {e : TypeId} {v : Value} {n : Nat} {xs : List Value} (h : w.ownsRow base e 1 v (n + 1) xs) : ∃ g c, v = .slice (some ⟨g, 0, none⟩) (n + 1) c := by
  rcases h.2 with ⟨_, h0⟩ | ⟨g, cap, cur, hv, _⟩
  · omega
  · exact ⟨g, cap, hv⟩
theorem KN.append (h : KN W0 n fv b gI gL gO gF base s sv w) {w' : World} (hg : w.grownBy w' sv.ownBlock) (l : List Nat) (sv' : Value) (ho : w'.ownsRow base 3 1 sv' l.length (l.map fun (x : Nat) => Value.int .i64 (x : Int))) :
    KN W0 n fv b gI gL gO gF base { s with stk := l } sv' (w'.setCell ⟨b, 4, none⟩ sv') := by
  obtain ⟨d11, d12, d13, d14⟩ := h.d1
  obtain ⟨d21, d22, d23⟩ := h.d2
  obtain ⟨d31, d32, d33⟩ := h.d3
  have hbk := fun g (hgb : g < base) => h.grown_blk hg hgb
  refine ⟨?_, Arr.other ((hbk gI h.hI.2).trans h.aI) d14 _, Arr.other ((hbk gL h.hL.2).trans h.aL) d23 _, Arr.other ((hbk gO h.hO.2).trans h.aO) d32 _, Arr.other ((hbk gF h.hF.2).trans h.aF) d33 _, ownsRow_setCell_other ho (fun e => ?_) _,
    ((h.old.trans ⟨hg.os, hg.tape, hg.output, hg.size, fun k hk => hbk k (by have := h.hb; omega)⟩)).setCell h.hb.1 _, h.hb, h.hI, h.hL, h.hO, h.hF, by simp only [World.size_setCell]; exact Nat.le_trans h.hbase hg.size, h.d1, h.d2, h.d3⟩
  · rw [heap_setCell_same w' b 4 _ _ _ ((hbk b h.hb.2).trans h.blk)]; simp
  · have := (ho.lt b e).1; have := h.hb.2; omega
theorem KN.cI (h : KN W0 n fv b gI gL gO gF base s sv w) {v : Nat} (hv : v < n) : w.cell? ⟨gI, v, none⟩ = some (.int .i64 (s.idx v : Int)) := by
  rw [h.aI.cell (by rw [tab_length]; exact hv), tab_at hv]
theorem KN.cL (h : KN W0 n fv b gI gL gO gF base s sv w) {v : Nat} (hv : v < n) : w.cell? ⟨gL, v, none⟩ = some (.int .i64 (s.low v : Int)) := by
  rw [h.aL.cell (by rw [tab_length]; exact hv), tab_at hv]
theorem KN.cO (h : KN W0 n fv b gI gL gO gF base s sv w) {v : Nat} (hv : v < n) : w.cell? ⟨gO, v, none⟩ = some (.bool (s.on v)) := by
  rw [h.aO.cell (by rw [tab_length]; exact hv), tab_at hv]
theorem KN.cF (h : KN W0 n fv b gI gL gO gF base s sv w) {v : Nat} (hv : v < n) : w.cell? ⟨gF, v, none⟩ = some (.int .i64 (s.of v : Int)) := by
  rw [h.aF.cell (by rw [tab_length]; exact hv), tab_at hv]
end

theorem own_last {w : World} {base : Nat} {e : TypeId} {v : Value} {xs : List Value} {y : Value} {k : Nat} (h : w.ownsRow base e 1 v (k + 1) (xs ++ [y])) : ∃ g cap, v = .slice (some ⟨g, 0, none⟩) (k + 1) cap ∧ base ≤ g ∧ k + 1 ≤ cap ∧ cap ≤ maxLen ∧ w.cell? ⟨g, k, none⟩ = some y ∧ w.ownsRow base e 1 (.slice (some ⟨g, 0, none⟩) k cap) k xs := by
  obtain ⟨hl, h2⟩ := h
  rcases h2 with ⟨_, h0⟩ | ⟨g, cap, cur, rfl, hb, hg, hc, hm, hs, ht⟩
  · omega
  · have hxs : xs.length = k := by simp at hl; omega
    refine ⟨g, cap, rfl, hb, hc, hm, ?_, ⟨by omega, .inr ⟨g, cap, cur, rfl, hb, hg, by omega, hm, hs, ?_⟩⟩⟩
    · have hq := (show w.ownsRow base e 1 (.slice (some ⟨g, 0, none⟩) (k + 1) cap) (k + 1) (xs ++ [y]) from ⟨hl, .inr ⟨g, cap, cur, rfl, hb, hg, hc, hm, hs, ht⟩⟩).cellAt k (by omega)
      rw [hq, List.getElem?_append_right (by omega)]; simp [hxs]
    · have h3 : (cur.toList.take ((k + 1) * 1)).take (k * 1) = (xs ++ [y]).take (k * 1) := by rw [ht]
      rw [List.take_take, Nat.min_eq_left (by omega)] at h3
      rw [h3, List.take_append_of_le_length (by omega), List.take_of_length_le (by omega)]
theorem KN.congr {W0 : World} {n : Nat} {fv : Value} {b gI gL gO gF base : Nat} {s s' : TS} {sv : Value} {w : World} (h : KN W0 n fv b gI gL gO gF base s sv w) (e : s = s') : KN W0 n fv b gI gL gO gF base s' sv w := e ▸ h
theorem offs_step (c : TS) (ys : List Nat) (zs : List Nat) (u : Nat) : { offs c ys zs with on := upd (offs c ys zs).on u false, of := upd (offs c ys zs).of u c.kn } = offs c ys (u :: zs) := by
  have h1 : upd (offs c ys zs).on u false = (offs c ys (u :: zs)).on := by
    funext x
    show (if x = u then false else if x ∈ zs then false else c.on x) = if x ∈ u :: zs then false else c.on x
    by_cases e : x = u <;> simp [e]
  have h2 : upd (offs c ys zs).of u c.kn = (offs c ys (u :: zs)).of := by
    funext x
    show (if x = u then c.kn else if x ∈ zs then c.kn else c.of x) = if x ∈ u :: zs then c.kn else c.of x
    by_cases e : x = u <;> simp [e]
  rw [h1, h2]; rfl
end Go.Proofs.Lx
