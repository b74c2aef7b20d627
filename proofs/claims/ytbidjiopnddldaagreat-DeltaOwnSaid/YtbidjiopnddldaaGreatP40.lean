/- Parts of the proof: Si, Sj. The reference's NewWorld (layer 15): words on memory, and region 5 as a theorem of its own (printed by gen_si.py). -/
import Derived.Test.YtbidjiopnddldaaGreatP39
import Derived.Test.YtbidjiopnddldaaGreatP10
import Derived.Test.YtbidjiopnddldaaGreatP13
namespace Go.Proofs.Lx
open Go Go.RowKit
set_option linter.unusedSimpArgs false
set_option linter.unusedVariables false

structure WR (W1 : World) (vals : Array Value) (b gR base : Nat) (vs : List Value) (xss : List (List Int)) (w : World) : Prop where
 blk : w.heap[b]? = some (.cells vals 125 (0, 0))
 rows : Rows w gR base 36 3 vs xss
 old : Below W1.heap.size W1 w
 h1 : W1.heap.size ≤ b ∧ b < base
 h3 : W1.heap.size ≤ gR ∧ gR < base
 hb : base ≤ w.heap.size
 d : b ≠ gR
section
variable {W1 : World} {vals : Array Value} {b gR base : Nat} {vs : List Value} {xss : List (List Int)} {w w' : World}
theorem WR.ext (h : WR W1 vals b gR base vs xss w) (hb : Below w.heap.size w w') : WR W1 vals b gR base vs xss w' :=
 ⟨(hb.block b (lt_of_block h.blk)).trans h.blk, h.rows.ext hb, h.old.trans (hb.mono h.old.size), h.h1, h.h3, Nat.le_trans h.hb hb.size, h.d⟩
theorem WR.append (h : WR W1 vals b gR base vs xss w) {q : Nat} (hq : q < vs.length) (hq' : q < xss.length) {v' : Value} {x : Int} (hgr : w.grownBy w' vs[q].ownBlock)
  (ho : w'.ownsRow base 3 1 v' (xss[q].length + 1) (intsV xss[q] ++ [.int .i64 x])) (hat : v'.ownBlock = vs[q].ownBlock ∨ v'.ownBlock = some w.heap.size) :
  WR W1 vals b gR base (vs.set q v') (xss.set q (xss[q] ++ [x])) (w'.setCell ⟨gR, q, none⟩ v') := by
 have hlt := (h.rows.own q hq hq').lt
 have hbk : ∀ g, g < base → w'.heap[g]? = w.heap[g]? := fun g hg => hgr.block g (Nat.lt_of_lt_of_le hg h.hb) (fun e => by have := hlt g e.symm; omega)
 refine ⟨(heap_setCell_other w' _ b _ h.d).trans ((hbk b h.h1.2).trans h.blk), h.rows.append h.hb hq hq' hgr ho (hat.imp id fun e => ⟨_, e, Nat.le_refl _⟩), ?_, h.h1, h.h3, by simp only [World.size_setCell]; exact Nat.le_trans h.hb hgr.size, h.d⟩
 exact (h.old.trans ⟨hgr.os, hgr.tape, hgr.output, hgr.size, fun k hk => hbk k (by have := h.h1; omega)⟩).setCell h.h3.1 _
theorem WR.cell (h : WR W1 vals b gR base vs xss w) (i : Nat) : w.cell? ⟨b, i, none⟩ = vals[i]? := cell_of_row w b i _ _ _ h.blk
theorem WR.blocks (h : WR W1 vals b gR base vs xss w) {q : Nat} (hq : q < vs.length) (hgr : w.grownBy w' vs[q].ownBlock) (g : Nat) (hg : g < base) : w'.heap[g]? = w.heap[g]? :=
 hgr.block g (Nat.lt_of_lt_of_le hg h.hb) (fun e => by have := (h.rows.own q hq (by rw [← h.rows.len]; exact hq)).lt g e.symm; omega)
theorem cell_heap {a : Addr} (h : w'.heap[a.block]? = w.heap[a.block]?) : w'.cell? a = w.cell? a := by unfold World.cell?; rw [h]
theorem WR.start (W1 : World) (vals : Array Value) (n s : Nat) (hs : W1.heap.size = s) :
  WR W1 vals (s + 1) s (s + 1 + 1) (List.replicate n (.slice none 0 0)) (List.replicate n [])
   (((W1.alloc (.cells (madeCells #[Value.slice none 0 0] n) 36)).alloc (.cells vals 125)).drew) := by
 subst hs
 have h0 : ((W1.alloc (.cells (madeCells #[Value.slice none 0 0] n) 36)).alloc (.cells vals 125)).drew.heap.size = W1.heap.size + 2 := by simp only [World.alloc, World.drew, Array.size_push]
 have h1 : ((W1.alloc (.cells (madeCells #[Value.slice none 0 0] n) 36)).alloc (.cells vals 125)).drew.heap[W1.heap.size]? = some (.cells (madeCells #[Value.slice none 0 0] n) 36) := by
  simp only [World.alloc, World.drew, Array.getElem?_push, Array.size_push]; rw [if_neg (by omega), if_pos trivial]
 have h2 : ((W1.alloc (.cells (madeCells #[Value.slice none 0 0] n) 36)).alloc (.cells vals 125)).drew.heap[W1.heap.size + 1]? = some (.cells vals 125) := by
  simp only [World.alloc, World.drew, Array.getElem?_push, Array.size_push]; rw [if_pos trivial]
 refine ⟨h2, Rows.made _ _ _ _ _ _ (by omega) (h1.trans ?_), ?_, by omega, by omega, by omega, by omega⟩
 ·congr 2
  rw [← Array.toList_inj, toList_madeCells_one]
 ·exact Below.drew (Below.alloc (ext_alloc W1 _) (by simp) _)
end
noncomputable def newR5 : Code := blkS (fstS (sndS (loopS (blkS (sndS (fstS (sndS (sndS ((Tryz.f65.body).getD .skip)))))))))

set_option maxRecDepth 1000000 in
set_option maxHeartbeats 60000000 in
theorem newWorld15_R5 (W1 wx : World) (a0 a1 a2 a3 a4 : Value) (n nr : Nat) (b gR base tb : Nat) (adR : Addr) (cR : Nat) (us : List Value) (xss : List (List Int)) (q k : Nat)
  (hws1 : WR W1 #[a0, a1, a2, a3, a4, .slice (some ⟨gR, 0, none⟩) n n] b gR base us xss wx) (hqn : q < us.length) (hqr : q < xss.length) (hqf : q < n) (hkr : k < nr) (hnr : nr ≤ 4096)
  (y1 : wx.cell? ⟨tb, 2, none⟩ = some (.slice (some adR) nr cR)) (htb : tb < W1.heap.size) (x1 : wx.cell? ⟨(adR.add (k * 3)).block, (adR.add (k * 3)).off + 1, none⟩ = some (.int .i64 (q : Int))) (hxb : (adR.add (k * 3)).block < W1.heap.size)
  (hnq : xss[q].length ≤ 4096) (K : Act → World → Prop) (Q' : Exit → Act → World → Prop)
  (u0 u1 u3 u4 u7 u8 u9 u10 u11 u12 u13 u14 u15 u16 u17 u18 u19 u20 u21 u22 u23 u24 u25 u26 u27 u28 u29 u30 u31 u32 u33 u34 u35 u36 u37 u38 u39 u40 u41 u42 u43 u44 u45 u46 u47 : Value)
  (hK : ∀ (x21 x22 x23 x24 x25 x26 x27 x28 x29 x30 x31 x32 x33 x34 x35 x36 x37 x38 x39 x40 x41 x42 x43 x44 x45 x46 : Value) (wy : World) (v' : Value), WR W1 #[a0, a1, a2, a3, a4, .slice (some ⟨gR, 0, none⟩) n n] b gR base (us.set q v') (xss.set q (xss[q] ++ [(k : Int)])) wy → K ⟨#[u0, u1, .pointer (some ⟨tb, 0, none⟩), u3, u4, .pointer (some ⟨b, 0, none⟩), .int .i64 (k : Int), u7, u8, u9, u10, u11, u12, u13, u14, u15, u16, u17, u18, u19, u20, x21, x22, x23, x24, x25, x26, x27, x28, x29, x30, x31, x32, x33, x34, x35, x36, x37, x38, x39, x40, x41, x42, x43, x44, x45, x46, u47], []⟩ wy) :
  Code.wp Tryz.prog newR5 (Exit.inBlock 1 (Exit.then K Q')) ⟨#[u0, u1, .pointer (some ⟨tb, 0, none⟩), u3, u4, .pointer (some ⟨b, 0, none⟩), .int .i64 (k : Int), u7, u8, u9, u10, u11, u12, u13, u14, u15, u16, u17, u18, u19, u20, u21, u22, u23, u24, u25, u26, u27, u28, u29, u30, u31, u32, u33, u34, u35, u36, u37, u38, u39, u40, u41, u42, u43, u44, u45, u46, u47], []⟩ wx := by
 have HK := hid hK
 clear hK
 conv => arg 2; whnf
 have e5 := hws1.cell 5
 simp only [List.getElem?_toArray, List.getElem?_cons_zero, List.getElem?_cons_succ] at e5
 have hst := hws1.rows.own q hqn hqr
 have hcq := hws1.rows.cell hqn
 have hfq := hws1.rows.free q
 have hbs := hws1.hb
 have hRlt := hws1.rows.lt
 have hblt := lt_of_block hws1.blk
 have hb3 := hws1.h3
 have hob := hws1.old.size
 have Hoa : Hid (∀ (cs : Array Value) (w' : World), ((wx.alloc (.cells cs 3)).drew).grownBy w' us[q].ownBlock → ∀ a : Addr, a.block < base → w'.cell? a = wx.cell? a) := by
  intro cs w' hgrow a ha
  have hws2 := hws1.ext ((ext_alloc wx (.cells cs 3)).drew)
  exact (cell_heap (hws2.blocks hqn hgrow a.block ha)).trans ((ext_alloc wx (.cells cs 3)).drew.cell (Nat.lt_of_lt_of_le ha hws1.hb))
 have Haft : Hid (∀ (cs : Array Value) (w' : World), ((wx.alloc (.cells cs 3)).drew).grownBy w' us[q].ownBlock → (w'.cell? ⟨b, 5, none⟩ = some (.slice (some ⟨gR, 0, none⟩) n n) ∧ w'.cell? ⟨tb, 2, none⟩ = some (.slice (some adR) nr cR) ∧ w'.cell? ⟨(adR.add (k * 3)).block, (adR.add (k * 3)).off + 1, none⟩ = some (.int .i64 (q : Int))) ∧ w'.cell? ⟨gR, q, none⟩ = some us[q] ∧ w'.frozen? ⟨gR, q, none⟩ = false) := by
  intro cs w' hgrow
  have hws2 := hws1.ext ((ext_alloc wx (.cells cs 3)).drew)
  have k2 := (hws2.blocks hqn hgrow gR hws2.h3.2).trans hws2.rows.blk
  have oa := Hoa.out cs w' hgrow
  exact ⟨⟨(oa _ hws1.h1.2).trans e5, (oa _ (by dsimp only; omega)).trans y1, (oa _ (by dsimp only; omega)).trans x1⟩, (oa _ hws1.h3.2).trans hcq, frozen_of_row w' gR q _ _ k2⟩
 have hi0 : (0 : Int) ≤ (q : Int) := by omega
 have hi1 : (q : Int) < (n : Int) := by omega
 have hk0 : (0 : Int) ≤ (k : Int) := by omega
 have hk1 : (k : Int) < (nr : Int) := by omega
 have Hkeep : Hid (∀ cs : Array Value, ((wx.alloc (.cells cs 3)).drew).cell? ⟨b, 5, none⟩ = some (.slice (some ⟨gR, 0, none⟩) n n) ∧ ((wx.alloc (.cells cs 3)).drew).cell? ⟨tb, 2, none⟩ = some (.slice (some adR) nr cR) ∧ ((wx.alloc (.cells cs 3)).drew).cell? ⟨(adR.add (k * 3)).block, (adR.add (k * 3)).off + 1, none⟩ = some (.int .i64 (q : Int))) := fun cs =>
  ⟨cell_ext (ext_alloc wx (.cells cs 3)).drew e5, cell_ext (ext_alloc wx (.cells cs 3)).drew y1, cell_ext (ext_alloc wx (.cells cs 3)).drew x1⟩
 have hne1 : b ≠ gR := hws1.d
 have hne2 : tb ≠ gR := by omega
 have hne3 : (adR.add (k * 3)).block ≠ gR := by omega
 have Hst : Hid (∀ (w' : World) (v : Value), (w'.cell? ⟨b, 5, none⟩ = some (.slice (some ⟨gR, 0, none⟩) n n) ∧ w'.cell? ⟨tb, 2, none⟩ = some (.slice (some adR) nr cR) ∧ w'.cell? ⟨(adR.add (k * 3)).block, (adR.add (k * 3)).off + 1, none⟩ = some (.int .i64 (q : Int))) → (w'.setCell ⟨gR, q, none⟩ v).cell? ⟨b, 5, none⟩ = some (.slice (some ⟨gR, 0, none⟩) n n) ∧ (w'.setCell ⟨gR, q, none⟩ v).cell? ⟨tb, 2, none⟩ = some (.slice (some adR) nr cR) ∧ (w'.setCell ⟨gR, q, none⟩ v).cell? ⟨(adR.add (k * 3)).block, (adR.add (k * 3)).off + 1, none⟩ = some (.int .i64 (q : Int))) := fun w' v ⟨h1, h2, h3⟩ => ⟨by rw [World.cell?_setCell_far _ _ _ _ (Ne.symm hne1)]; exact h1, by rw [World.cell?_setCell_far _ _ _ _ (Ne.symm hne2)]; exact h2, by rw [World.cell?_setCell_far _ _ _ _ (Ne.symm hne3)]; exact h3⟩
 have Hws := hid hws1
 clear hws1
 refine wp_region_noPanic ?_
 refine wp_region_held_drew (S := (fun w' => w'.cell? ⟨b, 5, none⟩ = some (.slice (some ⟨gR, 0, none⟩) n n) ∧ w'.cell? ⟨tb, 2, none⟩ = some (.slice (some adR) nr cR) ∧ w'.cell? ⟨(adR.add (k * 3)).block, (adR.add (k * 3)).off + 1, none⟩ = some (.int .i64 (q : Int)))) (by kernel_rfl) ?_ (fun hHeld => ?_)
 ·exact ⟨e5, y1, x1⟩
 refine wpAnyH_take (i := 0) (v := ?v1) rfl (by kernel_rfl) (by kernel_rfl) (by kernel_rfl) (fun _ _ _ h => h) (Or.inl ⟨by rfl, ?hy1⟩) (by assumption) ?rest1
 case hy1 => (intro w hSw; (try dsimp only at hSw); go_simp) <;> try with_reducible rfl
 simp only [Act.put, List.setIfInBounds_toArray, List.set_cons_zero, List.set_cons_succ]
 refine wpAnyH_take (i := 1) (v := ?v2) rfl (by kernel_rfl) (by kernel_rfl) (by kernel_rfl) (fun _ _ _ h => h) (Or.inl ⟨by rfl, ?hy2⟩) (by assumption) ?rest2
 case hy2 => (intro w hSw; (try dsimp only at hSw); go_simp) <;> try with_reducible rfl
 simp only [Act.put, List.setIfInBounds_toArray, List.set_cons_zero, List.set_cons_succ]
 refine wpAnyH_take (i := 2) (v := ?v3) rfl (by kernel_rfl) (by kernel_rfl) (by kernel_rfl) (fun _ _ _ h => h) (Or.inl ⟨by rfl, ?hy3⟩) (by assumption) ?rest3
 case hy3 => (intro w hSw; (try dsimp only at hSw); go_simp) <;> try with_reducible rfl
 simp only [Act.put, List.setIfInBounds_toArray, List.set_cons_zero, List.set_cons_succ]
 refine wpAnyH_take (i := 3) (v := ?v4) rfl (by kernel_rfl) (by kernel_rfl) (by kernel_rfl) (fun _ _ _ h => h) (Or.inl ⟨by rfl, ?hy4⟩) (by assumption) ?rest4
 case hy4 => (intro w hSw; (try dsimp only at hSw); go_simp) <;> try with_reducible rfl
 simp only [Act.put, List.setIfInBounds_toArray, List.set_cons_zero, List.set_cons_succ]
 refine wpAnyH_take (i := 4) (v := ?v5) rfl (by kernel_rfl) (by kernel_rfl) (by kernel_rfl) (fun _ _ _ h => h) (Or.inl ⟨by rfl, ?hy5⟩) (by assumption) ?rest5
 case hy5 => (intro w hSw; (try dsimp only at hSw); go_simp) <;> try with_reducible rfl
 simp only [Act.put, List.setIfInBounds_toArray, List.set_cons_zero, List.set_cons_succ]
 refine wpAnyH_take (i := 5) (v := ?v6) rfl (by kernel_rfl) (by kernel_rfl) (by kernel_rfl) (fun _ _ _ h => h) (Or.inl ⟨by rfl, ?hy6⟩) (by assumption) ?rest6
 case hy6 => (intro w hSw; (try dsimp only at hSw); go_simp) <;> try with_reducible rfl
 simp only [Act.put, List.setIfInBounds_toArray, List.set_cons_zero, List.set_cons_succ]
 refine wpAnyH_take (i := 6) (v := ?v7) rfl (by kernel_rfl) (by kernel_rfl) (by kernel_rfl) (fun _ _ _ h => h) (Or.inl ⟨by rfl, ?hy7⟩) (by assumption) ?rest7
 case hy7 => (intro w hSw; (try dsimp only at hSw); go_simp) <;> try with_reducible rfl
 simp only [Act.put, List.setIfInBounds_toArray, List.set_cons_zero, List.set_cons_succ]
 refine wpAnyH_take (i := 7) (v := ?v8) rfl (by kernel_rfl) (by kernel_rfl) (by kernel_rfl) (fun _ _ _ h => h) (Or.inl ⟨by rfl, ?hy8⟩) (by assumption) ?rest8
 case hy8 => (intro w hSw; (try dsimp only at hSw); go_simp) <;> try with_reducible rfl
 simp only [Act.put, List.setIfInBounds_toArray, List.set_cons_zero, List.set_cons_succ]
 refine wpAnyH_take (i := 8) (v := ?v9) rfl (by kernel_rfl) (by kernel_rfl) (by kernel_rfl) (fun _ _ _ h => h) (Or.inl ⟨by rfl, ?hy9⟩) (by assumption) ?rest9
 case hy9 => (intro w hSw; (try dsimp only at hSw); go_simp) <;> try with_reducible rfl
 simp only [Act.put, List.setIfInBounds_toArray, List.set_cons_zero, List.set_cons_succ]
 refine wpAnyH_take (i := 9) (v := ?v10) rfl (by kernel_rfl) (by kernel_rfl) (by kernel_rfl) (fun _ _ _ h => h) (Or.inl ⟨by rfl, ?hy10⟩) (by assumption) ?rest10
 case hy10 => (intro w hSw; (try dsimp only at hSw); go_simp) <;> try with_reducible rfl
 simp only [Act.put, List.setIfInBounds_toArray, List.set_cons_zero, List.set_cons_succ]
 refine wpAnyH_take (i := 10) (v := ?v11) rfl (by kernel_rfl) (by kernel_rfl) (by kernel_rfl) (fun _ _ _ h => h) (Or.inl ⟨by rfl, ?hy11⟩) (by assumption) ?rest11
 case hy11 => (intro w hSw; (try dsimp only at hSw); go_simp) <;> try with_reducible rfl
 simp only [Act.put, List.setIfInBounds_toArray, List.set_cons_zero, List.set_cons_succ]
 refine wpAnyH_take (i := 11) (v := ?v12) rfl (by kernel_rfl) (by kernel_rfl) (by kernel_rfl) (fun _ _ _ h => h) (Or.inl ⟨by rfl, ?hy12⟩) (by assumption) ?rest12
 case hy12 => (intro w hSw; (try dsimp only at hSw); go_simp) <;> try with_reducible rfl
 simp only [Act.put, List.setIfInBounds_toArray, List.set_cons_zero, List.set_cons_succ]
 refine wpAnyH_take (i := 12) (v := ?v13) rfl (by kernel_rfl) (by kernel_rfl) (by kernel_rfl) (fun _ _ _ h => h) (Or.inl ⟨by rfl, ?hy13⟩) (by assumption) ?rest13
 case hy13 => (intro w hSw; (try dsimp only at hSw); go_simp) <;> try with_reducible rfl
 simp only [Act.put, List.setIfInBounds_toArray, List.set_cons_zero, List.set_cons_succ]
 refine wpAnyH_take (i := 13) (v := ?v14) rfl (by kernel_rfl) (by kernel_rfl) (by kernel_rfl) (fun _ _ _ h => h) (Or.inl ⟨by rfl, ?hy14⟩) (by assumption) ?rest14
 case hy14 => (intro w hSw; (try dsimp only at hSw); go_simp) <;> try with_reducible rfl
 simp only [Act.put, List.setIfInBounds_toArray, List.set_cons_zero, List.set_cons_succ]
 refine wpAnyH_take (i := 14) (v := ?v15) rfl (by kernel_rfl) (by kernel_rfl) (by kernel_rfl) (fun _ _ _ h => h) (Or.inl ⟨by rfl, ?hy15⟩) (by assumption) ?rest15
 case hy15 => (intro w hSw; (try dsimp only at hSw); go_simp) <;> try with_reducible rfl
 simp only [Act.put, List.setIfInBounds_toArray, List.set_cons_zero, List.set_cons_succ]
 refine wpAnyH_take (i := 15) (v := ?v16) rfl (by kernel_rfl) (by kernel_rfl) (by kernel_rfl) (fun _ _ _ h => h) (Or.inl ⟨by rfl, ?hy16⟩) (by assumption) ?rest16
 case hy16 => (intro w hSw; (try dsimp only at hSw); go_simp) <;> try with_reducible rfl
 simp only [Act.put, List.setIfInBounds_toArray, List.set_cons_zero, List.set_cons_succ]
 refine wpAnyH_take (i := 16) (v := ?v17) rfl (by kernel_rfl) (by kernel_rfl) (by kernel_rfl) (fun _ _ _ h => h) (Or.inl ⟨by rfl, ?hy17⟩) (by assumption) ?rest17
 case hy17 => (intro w hSw; (try dsimp only at hSw); go_simp) <;> try with_reducible rfl
 simp only [Act.put, List.setIfInBounds_toArray, List.set_cons_zero, List.set_cons_succ]
 refine wpAnyH_take (i := 17) (v := ?v18) rfl (by kernel_rfl) (by kernel_rfl) (by kernel_rfl) (fun _ _ _ h => h) (Or.inl ⟨by rfl, ?hy18⟩) (by assumption) ?rest18
 case hy18 => (intro w hSw; (try dsimp only at hSw); go_simp) <;> try with_reducible rfl
 simp only [Act.put, List.setIfInBounds_toArray, List.set_cons_zero, List.set_cons_succ]
 refine wpAnyH_take (i := 18) (v := ?v19) rfl (by kernel_rfl) (by kernel_rfl) (by kernel_rfl) (fun _ _ _ h => h) (Or.inl ⟨by rfl, ?hy19⟩) (by assumption) ?rest19
 case hy19 => (intro w hSw; (try dsimp only at hSw); go_simp) <;> try with_reducible rfl
 simp only [Act.put, List.setIfInBounds_toArray, List.set_cons_zero, List.set_cons_succ]
 refine wpAnyH_take (i := 19) (v := ?v20) rfl (by kernel_rfl) (by kernel_rfl) (by kernel_rfl) (fun _ _ _ h => h) (Or.inl ⟨by rfl, ?hy20⟩) (by assumption) ?rest20
 case hy20 => (intro w hSw; (try dsimp only at hSw); go_simp) <;> try with_reducible rfl
 simp only [Act.put, List.setIfInBounds_toArray, List.set_cons_zero, List.set_cons_succ]
 refine wpAnyH_take (i := 20) (v := ?v21) rfl (by kernel_rfl) (by kernel_rfl) (by kernel_rfl) (fun _ _ _ h => h) (Or.inl ⟨by rfl, ?hy21⟩) (by assumption) ?rest21
 case hy21 => (intro w hSw; (try dsimp only at hSw); go_simp) <;> try with_reducible rfl
 simp only [Act.put, List.setIfInBounds_toArray, List.set_cons_zero, List.set_cons_succ]
 refine wpAnyH_take (i := 22) (v := ?v22) rfl (by kernel_rfl) (by kernel_rfl) (by kernel_rfl) (fun _ _ _ h => h) (Or.inl ⟨by rfl, ?hy22⟩) (by assumption) ?rest22
 case hy22 => (intro w hSw; (try dsimp only at hSw); go_simp) <;> try with_reducible rfl
 simp only [Act.put, List.setIfInBounds_toArray, List.set_cons_zero, List.set_cons_succ]
 refine wpAnyH_ready (rs := [21, 23]) (by kernel_rfl) (by simp) ?_
 refine AllReadyH.cons rfl (fun K9 hK9 => ?_) (AllReadyH.cons rfl (fun K9 hK9 => ?_) AllReadyH.nil)
 ·go_simp
  refine hK9.out _ _ ?_ (fun hHeld => ?_)
  ·exact ⟨e5, y1, x1⟩
  clear hK9 K9
  try simp only [Act.put, List.setIfInBounds_toArray, List.set_cons_zero, List.set_cons_succ]
  refine wpAnyH_ready (rs := [23]) (by kernel_rfl) (by simp) ?_
  refine AllReadyH.cons rfl (fun K9 hK9 => ?_) AllReadyH.nil
  go_simp
  refine hK9.out _ _ ?_ (fun hHeld => ?_)
  ·exact Hkeep.out _
  clear hK9 K9
  try simp only [Act.put, List.setIfInBounds_toArray, List.set_cons_zero, List.set_cons_succ]
  refine wpAnyH_ready (rs := [24]) (by kernel_rfl) (by simp) ?_
  refine AllReadyH.cons rfl (fun K9 hK9 => ?_) AllReadyH.nil
  (refine step_append_own_at rfl (.tmp 42) (.tmp 44) 36 rfl base 3 (.int .i64 0) 8 Tryz.underlying36 infoI rfl us[q] _ _ rfl (hst.alloc _) _ (.int .i64 k) rfl (by simp [go_sem]) rfl (by unfold maxLen; omega) (by omega) (by simp; omega) ?_; intro v' w' hown hgrow hat; obtain ⟨gn, cn, rfl⟩ := own_form hown; obtain ⟨hq5, hqR, hqF⟩ := Haft.out _ w' hgrow)
  refine hK9.out _ _ ?_ (fun hHeld => ?_)
  ·exact hq5
  clear hK9 K9
  try simp only [Act.put, List.setIfInBounds_toArray, List.set_cons_zero, List.set_cons_succ]
  refine wpAnyH_take (i := 25) (v := ?v23) rfl (by kernel_rfl) (by kernel_rfl) (by kernel_rfl) (fun _ _ _ h => h) (Or.inl ⟨by rfl, ?hy23⟩) (by assumption) ?rest23
  case hy23 => (intro w hSw; (try dsimp only at hSw); go_simp) <;> try with_reducible rfl
  simp only [Act.put, List.setIfInBounds_toArray, List.set_cons_zero, List.set_cons_succ]
  refine wpAnyH_ready (rs := [26]) (by kernel_rfl) (by simp) ?_
  refine AllReadyH.cons rfl (fun K9 hK9 => ?_) AllReadyH.nil
  go_simp
  refine hK9.out _ _ ?_ (fun hHeld => ?_)
  ·exact Hst.out _ _ hq5
  clear hK9 K9
  try simp only [Act.put, List.setIfInBounds_toArray, List.set_cons_zero, List.set_cons_succ]
  refine wpAnyH_done (by kernel_rfl) (NoPanic.normal ?_) _
  clear hq5 hqR hqF e5 x1 y1 hst hcq hfq
  go_wp2_with fail
  exact HK.out _ _ _ _ _ _ _ _ _ _ _ _ _ _ _ _ _ _ _ _ _ _ _ _ _ _ _ _ ((Hws.out.ext ((ext_alloc wx (.cells #[.int .i64 (k : Int)] 3)).drew)).append hqn hqr hgrow hown hat)
 ·go_simp
  refine hK9.out _ _ ?_ (fun hHeld => ?_)
  ·exact Hkeep.out _
  clear hK9 K9
  try simp only [Act.put, List.setIfInBounds_toArray, List.set_cons_zero, List.set_cons_succ]
  refine wpAnyH_ready (rs := [21]) (by kernel_rfl) (by simp) ?_
  refine AllReadyH.cons rfl (fun K9 hK9 => ?_) AllReadyH.nil
  go_simp
  refine hK9.out _ _ ?_ (fun hHeld => ?_)
  ·exact Hkeep.out _
  clear hK9 K9
  try simp only [Act.put, List.setIfInBounds_toArray, List.set_cons_zero, List.set_cons_succ]
  refine wpAnyH_ready (rs := [24]) (by kernel_rfl) (by simp) ?_
  refine AllReadyH.cons rfl (fun K9 hK9 => ?_) AllReadyH.nil
  (refine step_append_own_at rfl (.tmp 42) (.tmp 44) 36 rfl base 3 (.int .i64 0) 8 Tryz.underlying36 infoI rfl us[q] _ _ rfl (hst.alloc _) _ (.int .i64 k) rfl (by simp [go_sem]) rfl (by unfold maxLen; omega) (by omega) (by simp; omega) ?_; intro v' w' hown hgrow hat; obtain ⟨gn, cn, rfl⟩ := own_form hown; obtain ⟨hq5, hqR, hqF⟩ := Haft.out _ w' hgrow)
  refine hK9.out _ _ ?_ (fun hHeld => ?_)
  ·exact hq5
  clear hK9 K9
  try simp only [Act.put, List.setIfInBounds_toArray, List.set_cons_zero, List.set_cons_succ]
  refine wpAnyH_take (i := 25) (v := ?v24) rfl (by kernel_rfl) (by kernel_rfl) (by kernel_rfl) (fun _ _ _ h => h) (Or.inl ⟨by rfl, ?hy24⟩) (by assumption) ?rest24
  case hy24 => (intro w hSw; (try dsimp only at hSw); go_simp) <;> try with_reducible rfl
  simp only [Act.put, List.setIfInBounds_toArray, List.set_cons_zero, List.set_cons_succ]
  refine wpAnyH_ready (rs := [26]) (by kernel_rfl) (by simp) ?_
  refine AllReadyH.cons rfl (fun K9 hK9 => ?_) AllReadyH.nil
  go_simp
  refine hK9.out _ _ ?_ (fun hHeld => ?_)
  ·exact Hst.out _ _ hq5
  clear hK9 K9
  try simp only [Act.put, List.setIfInBounds_toArray, List.set_cons_zero, List.set_cons_succ]
  refine wpAnyH_done (by kernel_rfl) (NoPanic.normal ?_) _
  clear hq5 hqR hqF e5 x1 y1 hst hcq hfq
  go_wp2_with fail
  exact HK.out _ _ _ _ _ _ _ _ _ _ _ _ _ _ _ _ _ _ _ _ _ _ _ _ _ _ _ _ ((Hws.out.ext ((ext_alloc wx (.cells #[.int .i64 (k : Int)] 3)).drew)).append hqn hqr hgrow hown hat)
end Go.Proofs.Lx

namespace Go.Proofs.Lx
open Go Go.RowKit
set_option linter.unusedSimpArgs false
set_option linter.unusedVariables false

set_option maxRecDepth 100000 in
set_option maxHeartbeats 6400000 in
theorem newWorld15_any (w : World) (V vl : Value) (T : Th) (l : List Int) (hT : RdTh w V T) (hwf : WfTh T) (hl : RdI w vl l) :
  Calls Tryz.prog 65 #[V, vl] w (Ret fun r w' => ∃ b, r = .pointer (some ⟨b, 0, none⟩) ∧ NR w' b T l (rulesRows T.rules T.foes.length T.rules.length) ∧ Below w.heap.size w w') := by
 have Hwf := hid hwf
 have HT := hid hT
 obtain ⟨lits, foes, rules, beats⟩ := T
 obtain ⟨vF, vR, vB, rfl, hF, ⟨AR, cR, rfl, hcR, hbR, hrR⟩, hB⟩ := hT
 obtain ⟨Al, cl, hvl, _⟩ := id hl
 subst hvl
 have hl1 := hwf.l1; have hfl := hwf.fl; have hrl := hwf.rl
 dsimp only at *
 obtain rfl : lits = (foes.length : Int) := hfl.symm
 clear hwf hfl
 have hbel := ext_alloc w (.cells #[.int .i64 foes.length, vF, .slice AR rules.length cR, vB] 25)
 obtain ⟨W1, HW1⟩ : ∃ W1, Hid (W1 = w.alloc (.cells #[.int .i64 foes.length, vF, .slice AR rules.length cR, vB] 25)) := ⟨_, hid rfl⟩
 rw [← HW1.out] at hbel
 have hsz : W1.heap.size = w.heap.size + 1 := by rw [HW1.out]; simp
 have hrR1 := hrR.ext ruleR_mono hbel
 have hmL := mkL foes.length (by omega) (by omega)
 rw [Int.toNat_natCast] at hmL
 have Hrest := hid (And.intro (hF.ext llR_mono hbel) (And.intro (hB.ext llR_mono hbel) (hl.ext (scR_mono _) hbel)))
 have B2 : W1.cell? ⟨w.heap.size, 2, none⟩ = some (.slice AR rules.length cR) := by rw [HW1.out]; exact box_cell (Below.refl _ _) 2
 have Hbel := hid hbel
 clear hl hrR hF hB hbel
 refine post_gen fun Q HQ => ?_
 go_enter Tryz.func65, Tryz.ntmps65
 go_wp2
 go_cut [5] (fun v5 wx => ∃ b gR base vs, v5 = .pointer (some ⟨b, 0, none⟩) ∧ Hid (vs.length = foes.length) ∧ WR W1 #[.int .i64 foes.length, vF, .slice AR rules.length cR, vB, .slice Al l.length cl, .slice (some ⟨gR, 0, none⟩) foes.length foes.length] b gR base vs (rulesRows rules foes.length 0) wx)
 case first =>
  go_region
  all_goals
   go_wp2_with fail
   go_meet
   rw [HW1.out, rulesRows_zero]
   exact ⟨_, _, _, _, rfl, hid (by simp), WR.start _ _ _ _ (World.size_alloc _ _)⟩
 case rest =>
  obtain ⟨b, gR, base, vs, rfl, hvs, hws⟩ := hcut
  go_wp2
  go_loopw [6] (fun v6 wr => ∃ (k : Nat) (vs : List Value), k ≤ rules.length ∧ v6 = .int .i64 k ∧ Hid (vs.length = foes.length) ∧ WR W1 #[.int .i64 foes.length, vF, .slice AR rules.length cR, vB, .slice Al l.length cl, .slice (some ⟨gR, 0, none⟩) foes.length foes.length] b gR base vs (rulesRows rules foes.length k) wr) (fun v6 _ => rules.length - (intOf v6).toNat)
  case atStart => exact ⟨0, vs, Nat.zero_le _, rfl, hvs, hws⟩
  case round =>
   clear hws hvs
   obtain ⟨k, us, hk, rfl, hus, hws⟩ := hrel
   have c2 := cell_ext hws.old B2
   obtain ⟨wo, rfl⟩ : ∃ wo : World, wo = wr := ⟨_, rfl⟩
   by_cases hlt : k < rules.length
   ·have hx0 := hrR1.atRule hlt
    obtain ⟨ad, C, cC, rfl, p0, p1', _, _, _, _⟩ := (hrR1.ext ruleR_mono hws.old).atRule hlt
    obtain ⟨ad1, C1, cC1, e1, p10, _⟩ := hx0
    have e2 := Option.some.inj e1
    subst e2
    obtain ⟨hh0, hhn⟩ : 0 ≤ rules[k].head ∧ rules[k].head < foes.length := ruleOk_head (Hwf.out.ru _ (List.getElem_mem hlt))
    obtain ⟨q, hq⟩ := Int.eq_ofNat_of_zero_le hh0
    have hqn : q < us.length := by rw [hus.out]; omega
    have hqf : q < foes.length := by omega
    have hqr : q < (rulesRows rules foes.length k).length := by rw [rulesRows_length]; omega
    have Hsucc : Hid (rulesRows rules foes.length (k + 1) = (rulesRows rules foes.length k).set q ((rulesRows rules foes.length k)[q] ++ [(k : Int)])) := by
     have := rulesRows_succ rules foes.length k hlt hh0 hhn
     rw [hq, Int.toNat_natCast] at this
     rw [Hid, this, rulesRows_at _ _ _ hqf]
    rw [hq] at p1'
    have hnq : (rulesRows rules foes.length k)[q].length ≤ 4096 := by rw [rulesRows_at _ _ _ (by omega)]; exact Nat.le_trans (rulesUpto_length _ _ _) (by omega)
    have hxb : (ad.add (k * 3)).block < W1.heap.size := World.block_lt_of_cell? _ _ p10
    go_wp2_with fail
    refine newWorld15_R5 W1 wo _ _ _ _ _ foes.length rules.length b gR base w.heap.size ad cR us _ q k hws hqn hqr hqf hlt (by omega) c2 (by omega) p1' hxb hnq _ _ _ _ _ _ _ _ _ _ _ _ _ _ _ _ _ _ _ _ _ _ _ _ _ _ _ _ _ _ _ _ _ _ _ _ _ _ _ _ _ _ _ _ _ _ _ ?_
    intro x21 x22 x23 x24 x25 x26 x27 x28 x29 x30 x31 x32 x33 x34 x35 x36 x37 x38 x39 x40 x41 x42 x43 x44 x45 x46 wy v' hnx
    go_wp2
    go_roundw
    case rel => exact ⟨k + 1, us.set q v', by omega, by (try simp), hid (by rw [List.length_set]; exact hus.out), by rw [Hsucc.out]; exact hnx⟩
    case measure => simp [intOf]; omega
   ·obtain rfl : k = rules.length := by omega
    go_wp2
    go_ret
    have hrd := Hrest.out
    refine Fin HQ ⟨b, rfl, ⟨_, _, _, _, _, hws.blk, hrd.1.ext llR_mono hws.old, ⟨AR, cR, rfl, hcR, hbR, hrR1.ext ruleR_mono hws.old⟩, hrd.2.1.ext llR_mono hws.old, hrd.2.2.ext (scR_mono _) hws.old, ?_⟩, ext_trans Hbel.out hws.old⟩
    have := hws.rows.reads (by rw [rulesRows_length]; omega) (fun q hq => by rw [rulesRows_at _ _ _ (by rw [rulesRows_length] at hq; omega)]; exact Nat.le_trans (rulesUpto_length _ _ _) (by omega)) foes.length (by rw [rulesRows_length]; omega)
    rw [rulesRows_length] at this
    exact this

theorem factsB_at {n : Nat} {l : List Int} {q : Int} (h0 : 0 ≤ q) (hq : q < (n : Int)) : (factsB n l).getD q.toNat false = memB l q := by
 have h : q.toNat < (factsB n l).length := by rw [factsB_length]; omega
 rw [List.getD_eq_getElem?_getD, List.getElem?_eq_getElem h, Option.getD_some]
 simp only [factsB, List.getElem_map, List.getElem_range]
 rw [show ((q.toNat : Nat) : Int) = q by omega]
set_option maxHeartbeats 1600000 in
theorem wholds15_any (w : World) (b : Nat) (T : Th) (l : List Int) (RL : List (List Int)) (M : List Nat) (vm : Value) (h : NR w b T l RL) (hm : RdMk w vm M) (hv : NVal T (factsB T.foes.length l) RL M) (q : Int) (h0 : 0 ≤ q) (hq : q < T.foes.length) (tag : Int) (k : Nat) (hk : k < 4) (ht : tag = (k : Int) + 1) :
  Calls Tryz.prog 83 #[.pointer (some ⟨b, 0, none⟩), vm, .int .i64 tag, .int .i64 q] w (Dr w (cnd T (factsB T.foes.length l) RL M k q)) := by
 have H0 := hid (plusD15_any w b T _ l RL M vm h hm hv q h0 hq)
 have H1 := hid (minusD15_any w b T _ l RL M vm h hm hv q h0 hq)
 have H2 := hid (plusd15_any w b T _ l RL M vm h hm hv q h0 hq)
 have H3 := hid (minusd15_any w b T _ l RL M vm h hm hv q h0 hq)
 rw [← factsB_at h0 hq] at H0 H1
 clear h hm hv
 refine dr_of ?_
 refine post_gen fun Q HQ => ?_
 rcases (show k = 0 ∨ k = 1 ∨ k = 2 ∨ k = 3 by omega) with rfl | rfl | rfl | rfl
 ·subst ht
  simp only [cnd, plusDB] at HQ
  go_enter Tryz.func83, Tryz.ntmps83
  go_wp2_with (go_at_call 98; refine H0.out.mono ?_; rintro e w' ⟨rfl, m, rfl⟩)
  go_ret
  exact Fin HQ ⟨rfl, _, rfl⟩
 ·subst ht
  simp only [cnd, minusDB] at HQ
  go_enter Tryz.func83, Tryz.ntmps83
  go_wp2_with (go_at_call 99; refine H1.out.mono ?_; rintro e w' ⟨rfl, m, rfl⟩)
  go_ret
  exact Fin HQ ⟨rfl, _, rfl⟩
 ·subst ht
  simp only [cnd] at HQ
  go_enter Tryz.func83, Tryz.ntmps83
  go_wp2_with (go_at_call 100; refine H2.out.mono ?_; rintro e w' ⟨rfl, m, rfl⟩)
  go_ret
  exact Fin HQ ⟨rfl, _, rfl⟩
 ·subst ht
  simp only [cnd] at HQ
  go_enter Tryz.func83, Tryz.ntmps83
  go_wp2_with (go_at_call 101; refine H3.out.mono ?_; rintro e w' ⟨rfl, m, rfl⟩)
  go_ret
  exact Fin HQ ⟨rfl, _, rfl⟩

end Go.Proofs.Lx
