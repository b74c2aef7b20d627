/- Region 10 of naive.newWorld: a rule's number goes onto its head's row. A theorem of its own. -/
import Derived.Test.YtalhpldbhogadaaNw
import Derived.Test.YtalhpldbhogadaaVr
import Derived.Deep.DeepCutAuto
import Derived.Deep.RegionHeld3
namespace Go.Proofs.Lx
open Go Go.RowKit
set_option linter.unusedSimpArgs false
set_option linter.unusedVariables false

def blkS : Code → Code
  | .block _ b => b
  | c => c
def loopS : Code → Code
  | .loop b => b
  | c => c
noncomputable def newR10 : Code := sndS (blkS (fstS (sndS (sndS (loopS (blkS (sndS (fstS (sndS (sndS (sndS ((Try.f58.body).getD .skip))))))))))))

set_option maxRecDepth 1000000 in
set_option maxHeartbeats 60000000 in
theorem newWorld_R10 (W1 wx : World) (a0 a1 a2 a3 a4 a6 kd bd : Value) (n : Nat) (b gA gR base rb : Nat) (F : List Bool) (us : List Value) (xss : List (List Int)) (q k : Nat)
    (hws1 : WS W1 #[a0, a1, a2, a3, a4, .slice (some ⟨gR, 0, none⟩) n n, a6] b gA gR base F us xss wx) (hqn : q < us.length) (hqr : q < xss.length) (hqf : q < n)
    (hrb : wx.heap[rb]? = some (.cells #[kd, .int .i64 (q : Int), bd] 37 (0, 0))) (hrbb : base ≤ rb) (hro : us[q].ownBlock ≠ some rb) (hnq : xss[q].length ≤ 4096) (K : Act → World → Prop) (Q' : Exit → Act → World → Prop)
    (u0 u1 u2 u3 u4 u5 u6 u8 u9 u12 u13 u14 u15 u16 u17 u18 u19 u20 u21 u22 u23 u24 u25 u26 u27 u28 u29 u30 u31 u32 u33 u34 u35 u36 u37 u38 u39 u40 u41 u42 u43 u44 u45 u46 u47 u48 u49 u50 u51 u52 u53 u54 u55 u56 u57 u58 u59 u60 u61 u62 : Value)
    (hK : ∀ (x43 x44 x45 x46 x47 x48 x49 x50 x51 x52 x53 x54 x55 x56 x57 x58 x59 x60 : Value) (wy : World) (v' : Value), WS W1 #[a0, a1, a2, a3, a4, .slice (some ⟨gR, 0, none⟩) n n, a6] b gA gR base F (us.set q v') (xss.set q (xss[q] ++ [(k : Int)])) wy → K ⟨#[u0, u1, u2, u3, u4, u5, u6, .pointer (some ⟨b, 0, none⟩), u8, u9, .int .i64 (k : Int), .pointer (some ⟨rb, 0, none⟩), u12, u13, u14, u15, u16, u17, u18, u19, u20, u21, u22, u23, u24, u25, u26, u27, u28, u29, u30, u31, u32, u33, u34, u35, u36, u37, u38, u39, u40, u41, u42, x43, x44, x45, x46, x47, x48, x49, x50, x51, x52, x53, x54, x55, x56, x57, x58, x59, x60, u61, u62], []⟩ wy) :
    Code.wp Try.prog newR10 (Exit.inBlock 3 (Exit.then K Q')) ⟨#[u0, u1, u2, u3, u4, u5, u6, .pointer (some ⟨b, 0, none⟩), u8, u9, .int .i64 (k : Int), .pointer (some ⟨rb, 0, none⟩), u12, u13, u14, u15, u16, u17, u18, u19, u20, u21, u22, u23, u24, u25, u26, u27, u28, u29, u30, u31, u32, u33, u34, u35, u36, u37, u38, u39, u40, u41, u42, u43, u44, u45, u46, u47, u48, u49, u50, u51, u52, u53, u54, u55, u56, u57, u58, u59, u60, u61, u62], []⟩ wx := by
  have HK := hid hK
  clear hK
  conv => arg 2; whnf
  have e5 := hws1.cell 5
  simp only [List.getElem?_toArray, List.getElem?_cons_zero, List.getElem?_cons_succ] at e5
  have x1 : wx.cell? ⟨rb, 1, none⟩ = some (.int .i64 q) := by rw [cell_of_row wx rb 1 _ _ _ hrb]; rfl
  have hst := hws1.rows.own q hqn hqr
  have hcq := hws1.rows.cell hqn
  have hfq := hws1.rows.free q
  have hbs := hws1.hb
  have hRlt := hws1.rows.lt
  have hblt := lt_of_block hws1.blk
  have hxlt := lt_of_block hrb
  have Haft : Hid (∀ (cs : Array Value) (w' : World), ((wx.alloc (.cells cs 3)).drew).grownBy w' us[q].ownBlock → w'.cell? ⟨b, 5, none⟩ = some (.slice (some ⟨gR, 0, none⟩) n n) ∧ w'.cell? ⟨rb, 1, none⟩ = some (.int .i64 q) ∧ w'.cell? ⟨gR, q, none⟩ = some us[q] ∧ w'.frozen? ⟨gR, q, none⟩ = false) := by
    intro cs w' hgrow
    have hws2 := hws1.ext ((ext_alloc wx (.cells cs 3)).drew)
    have k1 := (hws2.blocks hqn hgrow b hws2.h1.2).trans hws2.blk
    have k2 := (hws2.blocks hqn hgrow gR hws2.h3.2).trans hws2.rows.blk
    have k3 := (hgrow.block rb (Nat.lt_of_lt_of_le hxlt (ext_alloc wx _).size) (fun e => hro e.symm)).trans ((Below.heap_alloc wx _ _ hxlt).trans hrb)
    refine ⟨by rw [cell_of_row w' b 5 _ _ _ k1]; rfl, by rw [cell_of_row w' _ 1 _ _ _ k3]; rfl, ?_, frozen_of_row w' gR q _ _ k2⟩
    rw [cell_of_row w' gR q _ _ _ k2]; simp [hqn]
  have hi0 : (0 : Int) ≤ (q : Int) := by omega
  have hi1 : (q : Int) < (n : Int) := by omega
  have Hkeep : Hid (∀ cs : Array Value, ((wx.alloc (.cells cs 3)).drew).cell? ⟨b, 5, none⟩ = some (.slice (some ⟨gR, 0, none⟩) n n) ∧ ((wx.alloc (.cells cs 3)).drew).cell? ⟨rb, 1, none⟩ = some (.int .i64 (q : Int))) := fun cs =>
    ⟨cell_ext (ext_alloc wx (.cells cs 3)).drew e5, cell_ext (ext_alloc wx (.cells cs 3)).drew x1⟩
  have hne1 : b ≠ gR := hws1.d.2.1
  have hne2 : rb ≠ gR := fun e => by have := hws1.h3.2; omega
  have Hst : Hid (∀ (w' : World) (v : Value), w'.cell? ⟨b, 5, none⟩ = some (.slice (some ⟨gR, 0, none⟩) n n) → w'.cell? ⟨rb, 1, none⟩ = some (.int .i64 (q : Int)) → (w'.setCell ⟨gR, q, none⟩ v).cell? ⟨b, 5, none⟩ = some (.slice (some ⟨gR, 0, none⟩) n n) ∧ (w'.setCell ⟨gR, q, none⟩ v).cell? ⟨rb, 1, none⟩ = some (.int .i64 (q : Int))) := fun w' v h1 h2 => ⟨by rw [World.cell?_setCell_far _ _ _ _ (Ne.symm hne1)]; exact h1, by rw [World.cell?_setCell_far _ _ _ _ (Ne.symm hne2)]; exact h2⟩
  have Hws := hid hws1
  have Hrb := hid hrb
  clear hws1 hrb
  refine wp_region_noPanic ?_
  refine wp_region_held_drew (S := (fun w' => w'.cell? ⟨b, 5, none⟩ = some (.slice (some ⟨gR, 0, none⟩) n n) ∧ w'.cell? ⟨rb, 1, none⟩ = some (.int .i64 (q : Int)))) (by kernel_rfl) ?_ (fun hHeld => ?_)
  · exact ⟨e5, x1⟩
  refine wpAnyH_take (i := 0) (v := ?v1) rfl (by kernel_rfl) (by kernel_rfl) (by kernel_rfl) (fun _ _ _ h => h) (Or.inl ⟨by rfl, ?hy1⟩) (by assumption) ?rest1
  case hy1 => (intro w hSw; (try dsimp only at hSw); go_simp) <;> try with_reducible rfl
  simp only [Act.put, List.setIfInBounds_toArray, List.set_cons_zero, List.set_cons_succ]
  refine wpAnyH_take (i := 1) (v := ?v2) rfl (by kernel_rfl) (by kernel_rfl) (by kernel_rfl) (fun _ _ _ h => h) (Or.inl ⟨by rfl, ?hy2⟩) (by assumption) ?rest2
  case hy2 => (intro w hSw; (try dsimp only at hSw); go_simp) <;> try with_reducible rfl
  simp only [Act.put, List.setIfInBounds_toArray, List.set_cons_zero, List.set_cons_succ]
  refine wpAnyH_take (i := 2) (v := ?v3) rfl (by kernel_rfl) (by kernel_rfl) (by kernel_rfl) (fun _ _ _ h => h) (Or.inl ⟨by rfl, ?hy3⟩) (by assumption) ?rest3
  case hy3 => (intro w hSw; (try dsimp only at hSw); go_simp) <;> try with_reducible rfl
  simp only [Act.put, List.setIfInBounds_toArray, List.set_cons_zero, List.set_cons_succ]
  refine wpAnyH_take (i := 3) (v := ?v4) rfl (by kernel_rfl) (by kernel_rfl) (by kernel_rfl) (fun _ _ _ h => h) (Or.inl ⟨by rfl, ?hy4⟩) (by assumption) ?rest4
  case hy4 => (intro w hSw; (try dsimp only at hSw); go_simp) <;> try with_reducible rfl
  simp only [Act.put, List.setIfInBounds_toArray, List.set_cons_zero, List.set_cons_succ]
  refine wpAnyH_take (i := 4) (v := ?v5) rfl (by kernel_rfl) (by kernel_rfl) (by kernel_rfl) (fun _ _ _ h => h) (Or.inl ⟨by rfl, ?hy5⟩) (by assumption) ?rest5
  case hy5 => (intro w hSw; (try dsimp only at hSw); go_simp) <;> try with_reducible rfl
  simp only [Act.put, List.setIfInBounds_toArray, List.set_cons_zero, List.set_cons_succ]
  refine wpAnyH_take (i := 5) (v := ?v6) rfl (by kernel_rfl) (by kernel_rfl) (by kernel_rfl) (fun _ _ _ h => h) (Or.inl ⟨by rfl, ?hy6⟩) (by assumption) ?rest6
  case hy6 => (intro w hSw; (try dsimp only at hSw); go_simp) <;> try with_reducible rfl
  simp only [Act.put, List.setIfInBounds_toArray, List.set_cons_zero, List.set_cons_succ]
  refine wpAnyH_take (i := 6) (v := ?v7) rfl (by kernel_rfl) (by kernel_rfl) (by kernel_rfl) (fun _ _ _ h => h) (Or.inl ⟨by rfl, ?hy7⟩) (by assumption) ?rest7
  case hy7 => (intro w hSw; (try dsimp only at hSw); go_simp) <;> try with_reducible rfl
  simp only [Act.put, List.setIfInBounds_toArray, List.set_cons_zero, List.set_cons_succ]
  refine wpAnyH_take (i := 7) (v := ?v8) rfl (by kernel_rfl) (by kernel_rfl) (by kernel_rfl) (fun _ _ _ h => h) (Or.inl ⟨by rfl, ?hy8⟩) (by assumption) ?rest8
  case hy8 => (intro w hSw; (try dsimp only at hSw); go_simp) <;> try with_reducible rfl
  simp only [Act.put, List.setIfInBounds_toArray, List.set_cons_zero, List.set_cons_succ]
  refine wpAnyH_take (i := 8) (v := ?v9) rfl (by kernel_rfl) (by kernel_rfl) (by kernel_rfl) (fun _ _ _ h => h) (Or.inl ⟨by rfl, ?hy9⟩) (by assumption) ?rest9
  case hy9 => (intro w hSw; (try dsimp only at hSw); go_simp) <;> try with_reducible rfl
  simp only [Act.put, List.setIfInBounds_toArray, List.set_cons_zero, List.set_cons_succ]
  refine wpAnyH_take (i := 9) (v := ?v10) rfl (by kernel_rfl) (by kernel_rfl) (by kernel_rfl) (fun _ _ _ h => h) (Or.inl ⟨by rfl, ?hy10⟩) (by assumption) ?rest10
  case hy10 => (intro w hSw; (try dsimp only at hSw); go_simp) <;> try with_reducible rfl
  simp only [Act.put, List.setIfInBounds_toArray, List.set_cons_zero, List.set_cons_succ]
  refine wpAnyH_take (i := 10) (v := ?v11) rfl (by kernel_rfl) (by kernel_rfl) (by kernel_rfl) (fun _ _ _ h => h) (Or.inl ⟨by rfl, ?hy11⟩) (by assumption) ?rest11
  case hy11 => (intro w hSw; (try dsimp only at hSw); go_simp) <;> try with_reducible rfl
  simp only [Act.put, List.setIfInBounds_toArray, List.set_cons_zero, List.set_cons_succ]
  refine wpAnyH_take (i := 11) (v := ?v12) rfl (by kernel_rfl) (by kernel_rfl) (by kernel_rfl) (fun _ _ _ h => h) (Or.inl ⟨by rfl, ?hy12⟩) (by assumption) ?rest12
  case hy12 => (intro w hSw; (try dsimp only at hSw); go_simp) <;> try with_reducible rfl
  simp only [Act.put, List.setIfInBounds_toArray, List.set_cons_zero, List.set_cons_succ]
  refine wpAnyH_take (i := 12) (v := ?v13) rfl (by kernel_rfl) (by kernel_rfl) (by kernel_rfl) (fun _ _ _ h => h) (Or.inl ⟨by rfl, ?hy13⟩) (by assumption) ?rest13
  case hy13 => (intro w hSw; (try dsimp only at hSw); go_simp) <;> try with_reducible rfl
  simp only [Act.put, List.setIfInBounds_toArray, List.set_cons_zero, List.set_cons_succ]
  refine wpAnyH_take (i := 14) (v := ?v14) rfl (by kernel_rfl) (by kernel_rfl) (by kernel_rfl) (fun _ _ _ h => h) (Or.inl ⟨by rfl, ?hy14⟩) (by assumption) ?rest14
  case hy14 => (intro w hSw; (try dsimp only at hSw); go_simp) <;> try with_reducible rfl
  simp only [Act.put, List.setIfInBounds_toArray, List.set_cons_zero, List.set_cons_succ]
  refine wpAnyH_ready (rs := [13, 15]) (by kernel_rfl) (by simp) ?_
  refine AllReadyH.cons rfl (fun K9 hK9 => ?_) (AllReadyH.cons rfl (fun K9 hK9 => ?_) AllReadyH.nil)
  · go_simp
    refine hK9.out _ _ ?_ (fun hHeld => ?_)
    · exact ⟨e5, x1⟩
    clear hK9 K9
    try simp only [Act.put, List.setIfInBounds_toArray, List.set_cons_zero, List.set_cons_succ]
    refine wpAnyH_ready (rs := [15]) (by kernel_rfl) (by simp) ?_
    refine AllReadyH.cons rfl (fun K9 hK9 => ?_) AllReadyH.nil
    go_simp
    refine hK9.out _ _ ?_ (fun hHeld => ?_)
    · exact Hkeep.out _
    clear hK9 K9
    try simp only [Act.put, List.setIfInBounds_toArray, List.set_cons_zero, List.set_cons_succ]
    refine wpAnyH_ready (rs := [16]) (by kernel_rfl) (by simp) ?_
    refine AllReadyH.cons rfl (fun K9 hK9 => ?_) AllReadyH.nil
    (refine step_append_own_at rfl (.tmp 56) (.tmp 58) 26 rfl base 3 (.int .i64 0) 8 Try.underlying26 infoI rfl us[q] _ _ rfl (hst.alloc _) _ (.int .i64 k) rfl (by simp [go_sem]) rfl (by unfold maxLen; omega) (by omega) (by simp; omega) ?_; intro v' w' hown hgrow hat; obtain ⟨gn, cn, rfl⟩ := own_form hown; obtain ⟨hq5, hqx, hqR, hqF⟩ := Haft.out _ w' hgrow)
    refine hK9.out _ _ ?_ (fun hHeld => ?_)
    · exact ⟨hq5, hqx⟩
    clear hK9 K9
    try simp only [Act.put, List.setIfInBounds_toArray, List.set_cons_zero, List.set_cons_succ]
    refine wpAnyH_take (i := 17) (v := ?v15) rfl (by kernel_rfl) (by kernel_rfl) (by kernel_rfl) (fun _ _ _ h => h) (Or.inl ⟨by rfl, ?hy15⟩) (by assumption) ?rest15
    case hy15 => (intro w hSw; (try dsimp only at hSw); go_simp) <;> try with_reducible rfl
    simp only [Act.put, List.setIfInBounds_toArray, List.set_cons_zero, List.set_cons_succ]
    refine wpAnyH_ready (rs := [18]) (by kernel_rfl) (by simp) ?_
    refine AllReadyH.cons rfl (fun K9 hK9 => ?_) AllReadyH.nil
    go_simp
    refine hK9.out _ _ ?_ (fun hHeld => ?_)
    · exact Hst.out _ _ hq5 hqx
    clear hK9 K9
    try simp only [Act.put, List.setIfInBounds_toArray, List.set_cons_zero, List.set_cons_succ]
    refine wpAnyH_done (by kernel_rfl) (NoPanic.normal ?_) _
    clear hq5 hqx hqR hqF e5 x1 hst hcq hfq
    go_wp2_with fail
    exact HK.out _ _ _ _ _ _ _ _ _ _ _ _ _ _ _ _ _ _ _ _ ((Hws.out.ext ((ext_alloc wx (.cells #[.int .i64 (k : Int)] 3)).drew)).append hqn hqr hgrow hown hat)
  · go_simp
    refine hK9.out _ _ ?_ (fun hHeld => ?_)
    · exact Hkeep.out _
    clear hK9 K9
    try simp only [Act.put, List.setIfInBounds_toArray, List.set_cons_zero, List.set_cons_succ]
    refine wpAnyH_ready (rs := [13]) (by kernel_rfl) (by simp) ?_
    refine AllReadyH.cons rfl (fun K9 hK9 => ?_) AllReadyH.nil
    go_simp
    refine hK9.out _ _ ?_ (fun hHeld => ?_)
    · exact Hkeep.out _
    clear hK9 K9
    try simp only [Act.put, List.setIfInBounds_toArray, List.set_cons_zero, List.set_cons_succ]
    refine wpAnyH_ready (rs := [16]) (by kernel_rfl) (by simp) ?_
    refine AllReadyH.cons rfl (fun K9 hK9 => ?_) AllReadyH.nil
    (refine step_append_own_at rfl (.tmp 56) (.tmp 58) 26 rfl base 3 (.int .i64 0) 8 Try.underlying26 infoI rfl us[q] _ _ rfl (hst.alloc _) _ (.int .i64 k) rfl (by simp [go_sem]) rfl (by unfold maxLen; omega) (by omega) (by simp; omega) ?_; intro v' w' hown hgrow hat; obtain ⟨gn, cn, rfl⟩ := own_form hown; obtain ⟨hq5, hqx, hqR, hqF⟩ := Haft.out _ w' hgrow)
    refine hK9.out _ _ ?_ (fun hHeld => ?_)
    · exact ⟨hq5, hqx⟩
    clear hK9 K9
    try simp only [Act.put, List.setIfInBounds_toArray, List.set_cons_zero, List.set_cons_succ]
    refine wpAnyH_take (i := 17) (v := ?v16) rfl (by kernel_rfl) (by kernel_rfl) (by kernel_rfl) (fun _ _ _ h => h) (Or.inl ⟨by rfl, ?hy16⟩) (by assumption) ?rest16
    case hy16 => (intro w hSw; (try dsimp only at hSw); go_simp) <;> try with_reducible rfl
    simp only [Act.put, List.setIfInBounds_toArray, List.set_cons_zero, List.set_cons_succ]
    refine wpAnyH_ready (rs := [18]) (by kernel_rfl) (by simp) ?_
    refine AllReadyH.cons rfl (fun K9 hK9 => ?_) AllReadyH.nil
    go_simp
    refine hK9.out _ _ ?_ (fun hHeld => ?_)
    · exact Hst.out _ _ hq5 hqx
    clear hK9 K9
    try simp only [Act.put, List.setIfInBounds_toArray, List.set_cons_zero, List.set_cons_succ]
    refine wpAnyH_done (by kernel_rfl) (NoPanic.normal ?_) _
    clear hq5 hqx hqR hqF e5 x1 hst hcq hfq
    go_wp2_with fail
    exact HK.out _ _ _ _ _ _ _ _ _ _ _ _ _ _ _ _ _ _ _ _ ((Hws.out.ext ((ext_alloc wx (.cells #[.int .i64 (k : Int)] 3)).drew)).append hqn hqr hgrow hown hat)
end Go.Proofs.Lx
