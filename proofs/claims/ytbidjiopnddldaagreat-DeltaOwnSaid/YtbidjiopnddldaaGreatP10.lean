/- Parts of the proof: Nr, Ne, Ni. Region 10 of naive.newWorld: a rule's number goes onto its head's row. A theorem of its own. -/
import Derived.Test.YtbidjiopnddldaaGreatP9
import Derived.Test.YtbidjiopnddldaaGreatP3
import Derived.Deep.DeepCutAuto
import Derived.Deep.RegionHeld3
namespace Go.Proofs.Lx
open Go Go.RowKit
set_option linter.unusedSimpArgs false
set_option linter.unusedVariables false

def blkS : Code → Code
 | .block _ b => b
 | c => c
def loopS : Code → Code
 | .loop b => b
 | c => c
noncomputable def newR10 : Code := sndS (blkS (fstS (sndS (sndS (loopS (blkS (sndS (fstS (sndS (sndS (sndS ((Tryz.f78.body).getD .skip))))))))))))

set_option maxRecDepth 1000000 in
set_option maxHeartbeats 60000000 in
theorem newWorld_R10 (W1 wx : World) (a0 a1 a2 a3 a4 a6 kd bd : Value) (n : Nat) (b gA gR base rb : Nat) (F : List Bool) (us : List Value) (xss : List (List Int)) (q k : Nat)
  (hws1 : WS W1 #[a0, a1, a2, a3, a4, .slice (some ⟨gR, 0, none⟩) n n, a6] b gA gR base F us xss wx) (hqn : q < us.length) (hqr : q < xss.length) (hqf : q < n)
  (hrb : wx.heap[rb]? = some (.cells #[kd, .int .i64 (q : Int), bd] 93 (0, 0))) (hrbb : base ≤ rb) (hro : us[q].ownBlock ≠ some rb) (hnq : xss[q].length ≤ 4096) (K : Act → World → Prop) (Q' : Exit → Act → World → Prop)
  (u0 u1 u2 u3 u4 u5 u6 u8 u9 u12 u13 u14 u15 u16 u17 u18 u19 u20 u21 u22 u23 u24 u25 u26 u27 u28 u29 u30 u31 u32 u33 u34 u35 u36 u37 u38 u39 u40 u41 u42 u43 u44 u45 u46 u47 u48 u49 u50 u51 u52 u53 u54 u55 u56 u57 u58 u59 u60 u61 u62 : Value)
  (hK : ∀ (x43 x44 x45 x46 x47 x48 x49 x50 x51 x52 x53 x54 x55 x56 x57 x58 x59 x60 : Value) (wy : World) (v' : Value), WS W1 #[a0, a1, a2, a3, a4, .slice (some ⟨gR, 0, none⟩) n n, a6] b gA gR base F (us.set q v') (xss.set q (xss[q] ++ [(k : Int)])) wy → K ⟨#[u0, u1, u2, u3, u4, u5, u6, .pointer (some ⟨b, 0, none⟩), u8, u9, .int .i64 (k : Int), .pointer (some ⟨rb, 0, none⟩), u12, u13, u14, u15, u16, u17, u18, u19, u20, u21, u22, u23, u24, u25, u26, u27, u28, u29, u30, u31, u32, u33, u34, u35, u36, u37, u38, u39, u40, u41, u42, x43, x44, x45, x46, x47, x48, x49, x50, x51, x52, x53, x54, x55, x56, x57, x58, x59, x60, u61, u62], []⟩ wy) :
  Code.wp Tryz.prog newR10 (Exit.inBlock 3 (Exit.then K Q')) ⟨#[u0, u1, u2, u3, u4, u5, u6, .pointer (some ⟨b, 0, none⟩), u8, u9, .int .i64 (k : Int), .pointer (some ⟨rb, 0, none⟩), u12, u13, u14, u15, u16, u17, u18, u19, u20, u21, u22, u23, u24, u25, u26, u27, u28, u29, u30, u31, u32, u33, u34, u35, u36, u37, u38, u39, u40, u41, u42, u43, u44, u45, u46, u47, u48, u49, u50, u51, u52, u53, u54, u55, u56, u57, u58, u59, u60, u61, u62], []⟩ wx := by
 have HK := hid hK
 clear hK
 conv => arg 2; whnf
 have e5 := hws1.cell 5
 simp only [List.getElem?_toArray, List.getElem?_cons_zero, List.getElem?_cons_succ] at e5
 have x1 : wx.cell? ⟨rb, 1, none⟩ = some (.int .i64 q) := by rw [cell_of_row wx rb 1 _ _ _ hrb]; rfl
 have hst := hws1.rows.own q hqn hqr
 have hcq := hws1.rows.cell hqn
 have hfq := hws1.rows.free q
 have hbs := hws1.hb
 have hRlt := hws1.rows.lt
 have hblt := lt_of_block hws1.blk
 have hxlt := lt_of_block hrb
 have Haft : Hid (∀ (cs : Array Value) (w' : World), ((wx.alloc (.cells cs 3)).drew).grownBy w' us[q].ownBlock → w'.cell? ⟨b, 5, none⟩ = some (.slice (some ⟨gR, 0, none⟩) n n) ∧ w'.cell? ⟨rb, 1, none⟩ = some (.int .i64 q) ∧ w'.cell? ⟨gR, q, none⟩ = some us[q] ∧ w'.frozen? ⟨gR, q, none⟩ = false) := by
  intro cs w' hgrow
  have hws2 := hws1.ext ((ext_alloc wx (.cells cs 3)).drew)
  have k1 := (hws2.blocks hqn hgrow b hws2.h1.2).trans hws2.blk
  have k2 := (hws2.blocks hqn hgrow gR hws2.h3.2).trans hws2.rows.blk
  have k3 := (hgrow.block rb (Nat.lt_of_lt_of_le hxlt (ext_alloc wx _).size) (fun e => hro e.symm)).trans ((Below.heap_alloc wx _ _ hxlt).trans hrb)
  refine ⟨by rw [cell_of_row w' b 5 _ _ _ k1]; rfl, by rw [cell_of_row w' _ 1 _ _ _ k3]; rfl, ?_, frozen_of_row w' gR q _ _ k2⟩
  rw [cell_of_row w' gR q _ _ _ k2]; simp [hqn]
 have hi0 : (0 : Int) ≤ (q : Int) := by omega
 have hi1 : (q : Int) < (n : Int) := by omega
 have Hkeep : Hid (∀ cs : Array Value, ((wx.alloc (.cells cs 3)).drew).cell? ⟨b, 5, none⟩ = some (.slice (some ⟨gR, 0, none⟩) n n) ∧ ((wx.alloc (.cells cs 3)).drew).cell? ⟨rb, 1, none⟩ = some (.int .i64 (q : Int))) := fun cs =>
  ⟨cell_ext (ext_alloc wx (.cells cs 3)).drew e5, cell_ext (ext_alloc wx (.cells cs 3)).drew x1⟩
 have hne1 : b ≠ gR := hws1.d.2.1
 have hne2 : rb ≠ gR := fun e => by have := hws1.h3.2; omega
 have Hst : Hid (∀ (w' : World) (v : Value), w'.cell? ⟨b, 5, none⟩ = some (.slice (some ⟨gR, 0, none⟩) n n) → w'.cell? ⟨rb, 1, none⟩ = some (.int .i64 (q : Int)) → (w'.setCell ⟨gR, q, none⟩ v).cell? ⟨b, 5, none⟩ = some (.slice (some ⟨gR, 0, none⟩) n n) ∧ (w'.setCell ⟨gR, q, none⟩ v).cell? ⟨rb, 1, none⟩ = some (.int .i64 (q : Int))) := fun w' v h1 h2 => ⟨by rw [World.cell?_setCell_far _ _ _ _ (Ne.symm hne1)]; exact h1, by rw [World.cell?_setCell_far _ _ _ _ (Ne.symm hne2)]; exact h2⟩
 have Hws := hid hws1
 have Hrb := hid hrb
 clear hws1 hrb
 refine wp_region_noPanic ?_
 refine wp_region_held_drew (S := (fun w' => w'.cell? ⟨b, 5, none⟩ = some (.slice (some ⟨gR, 0, none⟩) n n) ∧ w'.cell? ⟨rb, 1, none⟩ = some (.int .i64 (q : Int)))) (by kernel_rfl) ?_ (fun hHeld => ?_)
 ·exact ⟨e5, x1⟩
 refine wpAnyH_take (i := 0) (v := ?v1) rfl (by kernel_rfl) (by kernel_rfl) (by kernel_rfl) (fun _ _ _ h => h) (Or.inl ⟨by rfl, ?hy1⟩) (by assumption) ?rest1
 case hy1 => (intro w hSw; (try dsimp only at hSw); go_simp) <;> try with_reducible rfl
 simp only [Act.put, List.setIfInBounds_toArray, List.set_cons_zero, List.set_cons_succ]
 refine wpAnyH_take (i := 1) (v := ?v2) rfl (by kernel_rfl) (by kernel_rfl) (by kernel_rfl) (fun _ _ _ h => h) (Or.inl ⟨by rfl, ?hy2⟩) (by assumption) ?rest2
 case hy2 => (intro w hSw; (try dsimp only at hSw); go_simp) <;> try with_reducible rfl
 simp only [Act.put, List.setIfInBounds_toArray, List.set_cons_zero, List.set_cons_succ]
 refine wpAnyH_take (i := 2) (v := ?v3) rfl (by kernel_rfl) (by kernel_rfl) (by kernel_rfl) (fun _ _ _ h => h) (Or.inl ⟨by rfl, ?hy3⟩) (by assumption) ?rest3
 case hy3 => (intro w hSw; (try dsimp only at hSw); go_simp) <;> try with_reducible rfl
 simp only [Act.put, List.setIfInBounds_toArray, List.set_cons_zero, List.set_cons_succ]
 refine wpAnyH_take (i := 3) (v := ?v4) rfl (by kernel_rfl) (by kernel_rfl) (by kernel_rfl) (fun _ _ _ h => h) (Or.inl ⟨by rfl, ?hy4⟩) (by assumption) ?rest4
 case hy4 => (intro w hSw; (try dsimp only at hSw); go_simp) <;> try with_reducible rfl
 simp only [Act.put, List.setIfInBounds_toArray, List.set_cons_zero, List.set_cons_succ]
 refine wpAnyH_take (i := 4) (v := ?v5) rfl (by kernel_rfl) (by kernel_rfl) (by kernel_rfl) (fun _ _ _ h => h) (Or.inl ⟨by rfl, ?hy5⟩) (by assumption) ?rest5
 case hy5 => (intro w hSw; (try dsimp only at hSw); go_simp) <;> try with_reducible rfl
 simp only [Act.put, List.setIfInBounds_toArray, List.set_cons_zero, List.set_cons_succ]
 refine wpAnyH_take (i := 5) (v := ?v6) rfl (by kernel_rfl) (by kernel_rfl) (by kernel_rfl) (fun _ _ _ h => h) (Or.inl ⟨by rfl, ?hy6⟩) (by assumption) ?rest6
 case hy6 => (intro w hSw; (try dsimp only at hSw); go_simp) <;> try with_reducible rfl
 simp only [Act.put, List.setIfInBounds_toArray, List.set_cons_zero, List.set_cons_succ]
 refine wpAnyH_take (i := 6) (v := ?v7) rfl (by kernel_rfl) (by kernel_rfl) (by kernel_rfl) (fun _ _ _ h => h) (Or.inl ⟨by rfl, ?hy7⟩) (by assumption) ?rest7
 case hy7 => (intro w hSw; (try dsimp only at hSw); go_simp) <;> try with_reducible rfl
 simp only [Act.put, List.setIfInBounds_toArray, List.set_cons_zero, List.set_cons_succ]
 refine wpAnyH_take (i := 7) (v := ?v8) rfl (by kernel_rfl) (by kernel_rfl) (by kernel_rfl) (fun _ _ _ h => h) (Or.inl ⟨by rfl, ?hy8⟩) (by assumption) ?rest8
 case hy8 => (intro w hSw; (try dsimp only at hSw); go_simp) <;> try with_reducible rfl
 simp only [Act.put, List.setIfInBounds_toArray, List.set_cons_zero, List.set_cons_succ]
 refine wpAnyH_take (i := 8) (v := ?v9) rfl (by kernel_rfl) (by kernel_rfl) (by kernel_rfl) (fun _ _ _ h => h) (Or.inl ⟨by rfl, ?hy9⟩) (by assumption) ?rest9
 case hy9 => (intro w hSw; (try dsimp only at hSw); go_simp) <;> try with_reducible rfl
 simp only [Act.put, List.setIfInBounds_toArray, List.set_cons_zero, List.set_cons_succ]
 refine wpAnyH_take (i := 9) (v := ?v10) rfl (by kernel_rfl) (by kernel_rfl) (by kernel_rfl) (fun _ _ _ h => h) (Or.inl ⟨by rfl, ?hy10⟩) (by assumption) ?rest10
 case hy10 => (intro w hSw; (try dsimp only at hSw); go_simp) <;> try with_reducible rfl
 simp only [Act.put, List.setIfInBounds_toArray, List.set_cons_zero, List.set_cons_succ]
 refine wpAnyH_take (i := 10) (v := ?v11) rfl (by kernel_rfl) (by kernel_rfl) (by kernel_rfl) (fun _ _ _ h => h) (Or.inl ⟨by rfl, ?hy11⟩) (by assumption) ?rest11
 case hy11 => (intro w hSw; (try dsimp only at hSw); go_simp) <;> try with_reducible rfl
 simp only [Act.put, List.setIfInBounds_toArray, List.set_cons_zero, List.set_cons_succ]
 refine wpAnyH_take (i := 11) (v := ?v12) rfl (by kernel_rfl) (by kernel_rfl) (by kernel_rfl) (fun _ _ _ h => h) (Or.inl ⟨by rfl, ?hy12⟩) (by assumption) ?rest12
 case hy12 => (intro w hSw; (try dsimp only at hSw); go_simp) <;> try with_reducible rfl
 simp only [Act.put, List.setIfInBounds_toArray, List.set_cons_zero, List.set_cons_succ]
 refine wpAnyH_take (i := 12) (v := ?v13) rfl (by kernel_rfl) (by kernel_rfl) (by kernel_rfl) (fun _ _ _ h => h) (Or.inl ⟨by rfl, ?hy13⟩) (by assumption) ?rest13
 case hy13 => (intro w hSw; (try dsimp only at hSw); go_simp) <;> try with_reducible rfl
 simp only [Act.put, List.setIfInBounds_toArray, List.set_cons_zero, List.set_cons_succ]
 refine wpAnyH_take (i := 14) (v := ?v14) rfl (by kernel_rfl) (by kernel_rfl) (by kernel_rfl) (fun _ _ _ h => h) (Or.inl ⟨by rfl, ?hy14⟩) (by assumption) ?rest14
 case hy14 => (intro w hSw; (try dsimp only at hSw); go_simp) <;> try with_reducible rfl
 simp only [Act.put, List.setIfInBounds_toArray, List.set_cons_zero, List.set_cons_succ]
 refine wpAnyH_ready (rs := [13, 15]) (by kernel_rfl) (by simp) ?_
 refine AllReadyH.cons rfl (fun K9 hK9 => ?_) (AllReadyH.cons rfl (fun K9 hK9 => ?_) AllReadyH.nil)
 ·go_simp
  refine hK9.out _ _ ?_ (fun hHeld => ?_)
  ·exact ⟨e5, x1⟩
  clear hK9 K9
  try simp only [Act.put, List.setIfInBounds_toArray, List.set_cons_zero, List.set_cons_succ]
  refine wpAnyH_ready (rs := [15]) (by kernel_rfl) (by simp) ?_
  refine AllReadyH.cons rfl (fun K9 hK9 => ?_) AllReadyH.nil
  go_simp
  refine hK9.out _ _ ?_ (fun hHeld => ?_)
  ·exact Hkeep.out _
  clear hK9 K9
  try simp only [Act.put, List.setIfInBounds_toArray, List.set_cons_zero, List.set_cons_succ]
  refine wpAnyH_ready (rs := [16]) (by kernel_rfl) (by simp) ?_
  refine AllReadyH.cons rfl (fun K9 hK9 => ?_) AllReadyH.nil
  (refine step_append_own_at rfl (.tmp 56) (.tmp 58) 36 rfl base 3 (.int .i64 0) 8 Tryz.underlying36 infoI rfl us[q] _ _ rfl (hst.alloc _) _ (.int .i64 k) rfl (by simp [go_sem]) rfl (by unfold maxLen; omega) (by omega) (by simp; omega) ?_; intro v' w' hown hgrow hat; obtain ⟨gn, cn, rfl⟩ := own_form hown; obtain ⟨hq5, hqx, hqR, hqF⟩ := Haft.out _ w' hgrow)
  refine hK9.out _ _ ?_ (fun hHeld => ?_)
  ·exact ⟨hq5, hqx⟩
  clear hK9 K9
  try simp only [Act.put, List.setIfInBounds_toArray, List.set_cons_zero, List.set_cons_succ]
  refine wpAnyH_take (i := 17) (v := ?v15) rfl (by kernel_rfl) (by kernel_rfl) (by kernel_rfl) (fun _ _ _ h => h) (Or.inl ⟨by rfl, ?hy15⟩) (by assumption) ?rest15
  case hy15 => (intro w hSw; (try dsimp only at hSw); go_simp) <;> try with_reducible rfl
  simp only [Act.put, List.setIfInBounds_toArray, List.set_cons_zero, List.set_cons_succ]
  refine wpAnyH_ready (rs := [18]) (by kernel_rfl) (by simp) ?_
  refine AllReadyH.cons rfl (fun K9 hK9 => ?_) AllReadyH.nil
  go_simp
  refine hK9.out _ _ ?_ (fun hHeld => ?_)
  ·exact Hst.out _ _ hq5 hqx
  clear hK9 K9
  try simp only [Act.put, List.setIfInBounds_toArray, List.set_cons_zero, List.set_cons_succ]
  refine wpAnyH_done (by kernel_rfl) (NoPanic.normal ?_) _
  clear hq5 hqx hqR hqF e5 x1 hst hcq hfq
  go_wp2_with fail
  exact HK.out _ _ _ _ _ _ _ _ _ _ _ _ _ _ _ _ _ _ _ _ ((Hws.out.ext ((ext_alloc wx (.cells #[.int .i64 (k : Int)] 3)).drew)).append hqn hqr hgrow hown hat)
 ·go_simp
  refine hK9.out _ _ ?_ (fun hHeld => ?_)
  ·exact Hkeep.out _
  clear hK9 K9
  try simp only [Act.put, List.setIfInBounds_toArray, List.set_cons_zero, List.set_cons_succ]
  refine wpAnyH_ready (rs := [13]) (by kernel_rfl) (by simp) ?_
  refine AllReadyH.cons rfl (fun K9 hK9 => ?_) AllReadyH.nil
  go_simp
  refine hK9.out _ _ ?_ (fun hHeld => ?_)
  ·exact Hkeep.out _
  clear hK9 K9
  try simp only [Act.put, List.setIfInBounds_toArray, List.set_cons_zero, List.set_cons_succ]
  refine wpAnyH_ready (rs := [16]) (by kernel_rfl) (by simp) ?_
  refine AllReadyH.cons rfl (fun K9 hK9 => ?_) AllReadyH.nil
  (refine step_append_own_at rfl (.tmp 56) (.tmp 58) 36 rfl base 3 (.int .i64 0) 8 Tryz.underlying36 infoI rfl us[q] _ _ rfl (hst.alloc _) _ (.int .i64 k) rfl (by simp [go_sem]) rfl (by unfold maxLen; omega) (by omega) (by simp; omega) ?_; intro v' w' hown hgrow hat; obtain ⟨gn, cn, rfl⟩ := own_form hown; obtain ⟨hq5, hqx, hqR, hqF⟩ := Haft.out _ w' hgrow)
  refine hK9.out _ _ ?_ (fun hHeld => ?_)
  ·exact ⟨hq5, hqx⟩
  clear hK9 K9
  try simp only [Act.put, List.setIfInBounds_toArray, List.set_cons_zero, List.set_cons_succ]
  refine wpAnyH_take (i := 17) (v := ?v16) rfl (by kernel_rfl) (by kernel_rfl) (by kernel_rfl) (fun _ _ _ h => h) (Or.inl ⟨by rfl, ?hy16⟩) (by assumption) ?rest16
  case hy16 => (intro w hSw; (try dsimp only at hSw); go_simp) <;> try with_reducible rfl
  simp only [Act.put, List.setIfInBounds_toArray, List.set_cons_zero, List.set_cons_succ]
  refine wpAnyH_ready (rs := [18]) (by kernel_rfl) (by simp) ?_
  refine AllReadyH.cons rfl (fun K9 hK9 => ?_) AllReadyH.nil
  go_simp
  refine hK9.out _ _ ?_ (fun hHeld => ?_)
  ·exact Hst.out _ _ hq5 hqx
  clear hK9 K9
  try simp only [Act.put, List.setIfInBounds_toArray, List.set_cons_zero, List.set_cons_succ]
  refine wpAnyH_done (by kernel_rfl) (NoPanic.normal ?_) _
  clear hq5 hqx hqR hqF e5 x1 hst hcq hfq
  go_wp2_with fail
  exact HK.out _ _ _ _ _ _ _ _ _ _ _ _ _ _ _ _ _ _ _ _ ((Hws.out.ext ((ext_alloc wx (.cells #[.int .i64 (k : Int)] 3)).drew)).append hqn hqr hgrow hown hat)
end Go.Proofs.Lx

namespace Go.Proofs.Lx
open Go Go.RowKit
set_option linter.unusedSimpArgs false
set_option linter.unusedVariables false

set_option maxRecDepth 100000 in
set_option maxHeartbeats 6400000 in
theorem newWorld_any (w : World) (V vl vm : Value) (T : Th) (l : List Int) (M : List Nat) (hT : RdTh w V T) (hwf : WfTh T) (hl : RdI w vl l) (hlr : risB l T.lits = true) (hm : RdMk w vm M) :
  Calls Tryz.prog 78 #[V, vl, vm] w (Ret fun r w' => ∃ b, r = .pointer (some ⟨b, 0, none⟩) ∧ w.heap.size ≤ b ∧ NWS w' b T (factsB T.foes.length l) (rulesRows T.rules T.foes.length T.rules.length) M ∧ Below w.heap.size w w') := by
 have Hwf := hid hwf
 obtain ⟨lits, foes, rules, beats⟩ := T
 obtain ⟨vF, vR, vB, rfl, hF, ⟨AR, cR, rfl, hcR, hbR, hrR⟩, hB⟩ := hT
 obtain ⟨AM, cM, hvm, hcM, hbM, hrM⟩ := id hm
 subst hvm
 have hbM' := hid (And.intro hcM hbM)
 clear hcM hbM hrM
 generalize hnM : M.length = nM at *
 have HnM := hid hnM
 clear hnM
 have hl0 := hwf.l0; have hl1 := hwf.l1; have hfl := hwf.fl; have hrl := hwf.rl
 dsimp only at *
 obtain rfl : lits = (foes.length : Int) := hfl.symm
 clear hwf hfl hl0
 have hbel := ext_alloc w (.cells #[.int .i64 foes.length, vF, .slice AR rules.length cR, vB] 25)
 obtain ⟨W1, HW1⟩ : ∃ W1, Hid (W1 = w.alloc (.cells #[.int .i64 foes.length, vF, .slice AR rules.length cR, vB] 25)) := ⟨_, hid rfl⟩
 rw [← HW1.out] at hbel
 have hl1' := hl.ext (scR_mono _) hbel
 obtain ⟨A, c, rfl, hc, hb, hr⟩ := hl1'
 have Hsp := hid (risB_spec hlr).1
 have hrR1 := hrR.ext ruleR_mono hbel
 have hmB := mkB foes.length (by omega) (by omega)
 have hmL := mkL foes.length (by omega) (by omega)
 rw [Int.toNat_natCast] at hmB hmL
 have Hrest := hid (And.intro (hF.ext llR_mono hbel) (And.intro (RdTh.ext ⟨vF, _, vB, rfl, hF, ⟨AR, cR, rfl, hcR, hbR, hrR⟩, hB⟩ hbel : RdTh W1 (.agg #[.int .i64 foes.length, vF, .slice AR rules.length cR, vB]) ⟨foes.length, foes, rules, beats⟩) (hm.ext (scR_mono _) hbel)))
 clear hl hlr hrR hF hB hm
 refine post_gen fun Q HQ => ?_
 go_enter Tryz.func78, Tryz.ntmps78
 go_wp2
 go_cut [7] (fun v7 wx => ∃ b gA gR base vs, v7 = .pointer (some ⟨b, 0, none⟩) ∧ Hid (vs.length = foes.length) ∧ WS W1 #[.int .i64 foes.length, vF, .slice AR rules.length cR, vB, .slice (some ⟨gA, 0, none⟩) foes.length foes.length, .slice (some ⟨gR, 0, none⟩) foes.length foes.length, .slice AM nM cM] b gA gR base (factsUpto foes.length 0 l) vs (rulesRows rules foes.length 0) wx)
 case first =>
  go_region
  all_goals
   go_wp2_with fail
   go_meet
   rw [HW1.out, factsUpto_zero, rulesRows_zero]
   first
    | exact ⟨_, _, _, _, _, rfl, hid (by simp), WS.startA _ _ _ _ (World.size_alloc _ _)⟩
    | exact ⟨_, _, _, _, _, rfl, hid (by simp), WS.startB _ _ _ _ (World.size_alloc _ _)⟩
 case rest =>
  obtain ⟨b, gA, gR, base, vs, rfl, hvs, hws⟩ := hcut
  go_wp2
  have B2 : W1.cell? ⟨w.heap.size, 2, none⟩ = some (.slice AR rules.length cR) := by rw [HW1.out]; exact box_cell (Below.refl _ _) 2
  go_loopw [24] (fun v24 wr => ∃ k : Nat, k ≤ l.length ∧ v24 = .int .i64 k ∧ WS W1 #[.int .i64 foes.length, vF, .slice AR rules.length cR, vB, .slice (some ⟨gA, 0, none⟩) foes.length foes.length, .slice (some ⟨gR, 0, none⟩) foes.length foes.length, .slice AM nM cM] b gA gR base (factsUpto foes.length k l) vs (rulesRows rules foes.length 0) wr) (fun v24 _ => l.length - (intOf v24).toNat)
  case atStart => exact ⟨0, Nat.zero_le _, rfl, hws⟩
  case round =>
   clear hws
   obtain ⟨k, hk, rfl, hws⟩ := hrel
   have e1 := hws.cell 4
   simp only [List.getElem?_toArray, List.getElem?_cons_zero, List.getElem?_cons_succ] at e1
   by_cases hkl : k < l.length
   ·obtain ⟨ad, rfl, hcell⟩ := (hr.ext (scR_mono _) hws.old).at1 hkl
    obtain ⟨hx0, hxn⟩ := Hsp.out k hkl
    obtain ⟨q, hq⟩ := Int.eq_ofNat_of_zero_le hx0
    have hfr := hws.aA.free q
    have hcq := hws.aA.cell (i := q) (by rw [factsUpto, factsB_length]; omega)
    have hnx := hws.fact q
    have Hsucc := hid (factsUpto_succ foes.length k l hkl hx0)
    rw [hq] at hcell
    go_wp2
    go_roundw
    case rel => exact ⟨k + 1, by omega, by simp, by rw [Hsucc.out, hq]; exact hnx⟩
    case measure => simp [intOf]; omega
   ·obtain rfl : k = l.length := by omega
    have c2 := cell_ext hws.old B2
    clear e1
    go_wp2
    go_loopw [38] (fun v38 wr => ∃ (k : Nat) (vs : List Value), k ≤ rules.length ∧ v38 = .int .i64 k ∧ Hid (vs.length = foes.length) ∧ WS W1 #[.int .i64 foes.length, vF, .slice AR rules.length cR, vB, .slice (some ⟨gA, 0, none⟩) foes.length foes.length, .slice (some ⟨gR, 0, none⟩) foes.length foes.length, .slice AM nM cM] b gA gR base (factsUpto foes.length l.length l) vs (rulesRows rules foes.length k) wr) (fun v38 _ => rules.length - (intOf v38).toNat)
    case atStart => exact ⟨0, vs, Nat.zero_le _, rfl, hvs, hws⟩
    case round =>
     clear hws c2 hvs
     obtain ⟨k, us, hk, rfl, hus, hws⟩ := hrel
     have c2 := cell_ext hws.old B2
     obtain ⟨wo, rfl⟩ : ∃ wo : World, wo = wr := ⟨_, rfl⟩
     by_cases hlt : k < rules.length
     ·obtain ⟨ad, C, cC, rfl, p0, p1, p2, q0, q1, q2⟩ := (hrR1.ext ruleR_mono hws.old).atRule hlt
      obtain ⟨hh0, hhn⟩ : 0 ≤ rules[k].head ∧ rules[k].head < foes.length := ruleOk_head (Hwf.out.ru _ (List.getElem_mem hlt))
      obtain ⟨q, hq⟩ := Int.eq_ofNat_of_zero_le hh0
      have hqn : q < us.length := by rw [hus.out]; omega
      have hqf : q < foes.length := by omega
      have hqr : q < (rulesRows rules foes.length k).length := by rw [rulesRows_length]; omega
      have Hsucc : Hid (rulesRows rules foes.length (k + 1) = (rulesRows rules foes.length k).set q ((rulesRows rules foes.length k)[q] ++ [(k : Int)])) := by
       have := rulesRows_succ rules foes.length k hlt hh0 hhn
       rw [hq, Int.toNat_natCast] at this
       rw [Hid, this, rulesRows_at _ _ _ hqf]
      rw [hq] at p1
      obtain ⟨wx, HWX⟩ : ∃ wx, Hid (wx = wo.alloc (.cells #[.int .i64 rules[k].kind, .int .i64 q, .slice C rules[k].body.length cC] 93)) := ⟨_, hid rfl⟩
      go_wp2_with fail
      rw [← HWX.out]
      have hbx : Below wo.heap.size wo wx := by rw [HWX.out]; exact ext_alloc _ _
      have hws1 := hws.ext hbx
      have hrb : wx.heap[wo.heap.size]? = some (.cells #[.int .i64 rules[k].kind, .int .i64 q, .slice C rules[k].body.length cC] 93 (0, 0)) := by rw [HWX.out]; exact heap_alloc_new wo _
      have hnq : (rulesRows rules foes.length k)[q].length ≤ 4096 := by rw [rulesRows_at _ _ _ (by omega)]; exact Nat.le_trans (rulesUpto_length _ _ _) (by omega)
      refine newWorld_R10 W1 wx _ _ _ _ _ _ _ _ foes.length b gA gR base wo.heap.size _ us _ q k hws1 hqn hqr hqf hrb hws.hb (fun e => by have := (hws.rows.own q hqn hqr).lt _ e; omega) hnq _ _ _ _ _ _ _ _ _ _ _ _ _ _ _ _ _ _ _ _ _ _ _ _ _ _ _ _ _ _ _ _ _ _ _ _ _ _ _ _ _ _ _ _ _ _ _ _ _ _ _ _ _ _ _ _ _ _ _ _ _ _ ?_
      intro x43 x44 x45 x46 x47 x48 x49 x50 x51 x52 x53 x54 x55 x56 x57 x58 x59 x60 wy v' hnx
      go_wp2
      go_roundw
      case rel => exact ⟨k + 1, us.set q v', by omega, by (try simp), hid (by rw [List.length_set]; exact hus.out), by rw [Hsucc.out]; exact hnx⟩
      case measure => simp [intOf]; omega
     ·obtain rfl : k = rules.length := by omega
      go_wp2
      go_ret
      have hrd := Hrest.out
      have hgb : ∀ w', wo.grownBy w' (some b) → Below W1.heap.size W1 w' := fun w' hg => hws.old.trans ⟨hg.os, hg.tape, hg.output, hg.size, fun k hk => hg.block k (Nat.lt_of_lt_of_le hk hws.old.size) (fun e => by cases e; have := hws.h1.1; omega)⟩
      refine Fin HQ ⟨b, rfl, Nat.le_trans hbel.size hws.h1.1, ⟨_, _, _, _, _, _, hws.blk, fun w' hg => ⟨hrd.1.ext llR_mono (hgb w' hg), ?_, ?_, ?_, ?_, ?_⟩⟩, ext_trans hbel hws.old⟩
      ·obtain ⟨xF, xR, xB, hx, _, h2, _⟩ := hrd.2.1
       cases hx; exact h2.ext ruleR_mono (hgb w' hg)
      ·obtain ⟨xF, xR, xB, hx, _, _, h3⟩ := hrd.2.1
       cases hx; exact h3.ext llR_mono (hgb w' hg)
      ·have ha : Arr Value.bool 4 w' gA (factsUpto foes.length l.length l) := (hg.block gA hws.aA.lt (fun e => by cases e; exact hws.d.1 rfl)).trans hws.aA
       have := ha.reads (by rw [factsUpto, factsB_length]; omega) foes.length (by rw [factsUpto, factsB_length]; omega)
       rw [factsUpto_all, factsB_length] at this
       exact this
      ·have hr2 : Rows w' gR base 36 3 us (rulesRows rules foes.length rules.length) := ⟨(hg.block gR hws.rows.lt (fun e => by cases e; exact hws.d.2.1 rfl)).trans hws.rows.blk, hws.rows.len, fun q h1 h2 => (hws.rows.own q h1 h2).kept hg (by
        cases ho : us[q].ownBlock with
        | none => exact .inl rfl
        | some k => right; intro e; cases e; have := ((hws.rows.own q h1 h2).lt _ ho).1; have := hws.h1.2; omega), hws.rows.ne, hws.rows.hg⟩
       have := hr2.reads (by rw [rulesRows_length]; omega) (fun q hq => by rw [rulesRows_at _ _ _ (by rw [rulesRows_length] at hq; omega)]; exact Nat.le_trans (rulesUpto_length _ _ _) (by omega)) foes.length (by rw [rulesRows_length]; omega)
       rw [rulesRows_length] at this
       exact this
      ·exact hrd.2.2.ext (scR_mono _) (hgb w' hg)
end Go.Proofs.Lx

namespace Go.Proofs.Lx
open Go Go.RowKit
set_option linter.unusedSimpArgs false
set_option linter.unusedVariables false

def itM (f : List Nat → List Nat) : Nat → List Nat → List Nat
 | 0, M => M
 | k + 1, M => f (itM f k M)
/-- One round over a theory and its facts. -/
def stepM (T : Th) (l : List Int) : List Nat → List Nat := roundM T (factsB T.foes.length l) (rulesRows T.rules T.foes.length T.rules.length)
def startM (T : Th) : List Nat := List.replicate T.foes.length 0
theorem roundM_length (T : Th) (F : List Bool) (RL : List (List Int)) (M : List Nat) : (roundM T F RL M).length = M.length := rnd_length _ _
theorem orM_ge {C : Nat → Bool} {x : Nat} : ∀ k, x ≤ orM C x k
 | 0 => Nat.le_refl _
 | k + 1 => by
  have ih := orM_ge (C := C) (x := x) k
  unfold orM
  split
  ·exact Nat.le_trans ih Nat.left_le_or
  ·exact ih
theorem sum_le : ∀ (X Y : List Nat), X.length = Y.length → (∀ i (h : i < X.length) (h' : i < Y.length), X[i] ≤ Y[i]) → X.sum ≤ Y.sum ∧ (X.sum = Y.sum → X = Y)
 | [], [], _, _ => ⟨Nat.le_refl _, fun _ => rfl⟩
 | x :: X, y :: Y, hl, h => by
  have h0 := h 0 (by simp) (by simp)
  have ih := sum_le X Y (by simpa using hl) (fun i h1 h2 => by have := h (i + 1) (by simp; omega) (by simp; omega); simpa using this)
  simp at h0
  simp only [List.sum_cons]
  refine ⟨by omega, fun e => ?_⟩
  have h1 : X.sum = Y.sum := by omega
  have h2 : x = y := by omega
  rw [h2, ih.2 h1]
theorem sum_bound : ∀ (X : List Nat), (∀ x ∈ X, x < 256) → X.sum ≤ 255 * X.length
 | [], _ => by simp
 | x :: X, h => by
  have := sum_bound X (fun y hy => h y (by simp [hy]))
  have := h x (by simp)
  simp only [List.sum_cons, List.length_cons]; omega
theorem roundM_grows (T : Th) (F : List Bool) (RL : List (List Int)) (M : List Nat) : M.sum ≤ (roundM T F RL M).sum ∧ (M.sum = (roundM T F RL M).sum → M = roundM T F RL M) := by
 refine sum_le _ _ (roundM_length _ _ _ _).symm (fun i h h' => ?_)
 have : M[i] = M.getD i 0 := by simp [h]
 rw [this]
 simp only [roundM, rnd, List.getElem_map, List.getElem_range]
 exact orM_ge _
theorem roundM_lt (T : Th) (F : List Bool) (RL : List (List Int)) (M : List Nat) (h : ∀ x ∈ M, x < 256) : ∀ x ∈ roundM T F RL M, x < 256 := rnd_lt h (by omega)
theorem nval {T : Th} (hwf : WfTh T) (l : List Int) (M : List Nat) (hM : M.length = T.foes.length) (h8 : ∀ x ∈ M, x < 256) : NVal T (factsB T.foes.length l) (rulesRows T.rules T.foes.length T.rules.length) M := by
 refine ⟨?_, factsB_length _ _, rulesRows_length _ _ _, hM, ?_, ?_, hwf.bl, h8⟩
 ·intro q hq f hf
  obtain ⟨i, hi, rfl⟩ := List.getElem_of_mem hf
  have := (risB_spec (foesOk_spec hwf.fo q hq).2.1).1 i hi
  have h2 := hwf.fl; omega
 ·intro q hq r hr
  rw [rulesRows_length] at hq
  rw [rulesRows_at _ _ _ hq] at hr
  obtain ⟨i, hi, rfl, _⟩ := mem_rulesUpto.1 hr
  omega
 ·intro r hr x hx
  obtain ⟨i, hi, rfl⟩ := List.getElem_of_mem hx
  have h1 := hwf.ru _ (List.getElem_mem hr)
  simp only [ruleOk, Bool.and_eq_true] at h1
  have := (risB_spec h1.2).1 i hi
  have h2 := hwf.fl; omega
end Go.Proofs.Lx
