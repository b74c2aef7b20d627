/- Parts of the proof: Fq, Fm, Fn. pairR24: a number goes onto a row, in whatever order the statement's operations come. Printed by gen_app.py. No condition. -/
import Derived.Test.YtalhpldbhogadaaGreatO22
import Derived.Test.YtalhpldbhogadaaGreatO8
import Derived.Deep.DeepCutAuto
import Derived.Deep.RegionHeld3
namespace Go.Proofs.Lx
open Go Go.RowKit Go.Proofs.Tj
set_option linter.unusedSimpArgs false
set_option linter.unusedVariables false

noncomputable def pairSeg2 : Code := sndC (sndC pairBody)
noncomputable def pairB2 : Code := blkC (fstC (sndC (sndC (loopC (blkC (sndC pairSeg2))))))
noncomputable def pairC2 : Code := blkC (fstC (sndC (sndC (loopC (blkC (sndC (sndC (sndC pairB2))))))))
noncomputable def pairR24C : Code := fstC (sndC (sndC pairC2))

set_option maxRecDepth 1000000 in
set_option maxHeartbeats 60000000 in
theorem pairR24 (wx W0 : World) (G : Gh) (S : Stc) (T : Th) (D : Dyn) (vT : Value) (h : EngV wx W0 G S T D vT) (q r : Nat) (hq : q < S.m) (hlen : (S.beats q).length ≤ 1000000) (Q' : Exit → Act → World → Prop)
  (u1 u2 u3 u4 u5 u6 u8 u9 u10 u12 u13 u14 u15 u16 u17 u18 u19 u20 u21 u22 u23 u24 u25 u26 u27 u28 u29 u30 u31 u32 u33 u34 u35 u36 u37 u38 u39 u40 u41 u42 u43 u44 u45 u46 u47 u48 u49 u50 u51 u52 u53 u54 u55 u56 u57 u58 u59 u60 u61 u62 u63 u64 u65 u66 u67 u68 u69 u70 u71 u72 u73 u74 u75 u76 u77 u78 u79 u80 u81 u82 u83 u84 u85 u86 u87 u88 u89 u90 u91 u92 u93 u94 u95 u96 u97 u98 u99 u100 u101 u102 u103 u104 u105 u106 u107 u108 u109 u110 u111 u112 u113 u114 u115 u116 u117 u118 u119 u120 u121 u122 u123 u124 u125 u126 u127 u128 u129 u130 u131 u132 u133 u134 u135 u136 u137 u138 u139 u140 u141 u142 u143 u144 u145 u146 u147 u164 u165 u166 u167 u168 u169 u170 u171 u172 u173 u174 u175 u176 u148 u149 u150 u151 u152 u153 u154 u155 u156 u157 u158 u159 u160 u161 u162 u163 : Value)
  (hK : ∀ (x148 x149 x150 x151 x152 x153 x154 x155 x156 x157 x158 x159 x160 x161 x162 x163 : Value) (wy : World) (v' : Value), EngV wy W0 { G with vbe := G.vbe.set q v' } { S with beats := Tj.upd S.beats q (S.beats q ++ [r]) } T D vT → Q' .normal ⟨#[.pointer (some ⟨G.b, 0, none⟩), u1, u2, u3, u4, u5, u6, .int .i64 (q : Int), u8, u9, u10, .int .i64 (r : Int), u12, u13, u14, u15, u16, u17, u18, u19, u20, u21, u22, u23, u24, u25, u26, u27, u28, u29, u30, u31, u32, u33, u34, u35, u36, u37, u38, u39, u40, u41, u42, u43, u44, u45, u46, u47, u48, u49, u50, u51, u52, u53, u54, u55, u56, u57, u58, u59, u60, u61, u62, u63, u64, u65, u66, u67, u68, u69, u70, u71, u72, u73, u74, u75, u76, u77, u78, u79, u80, u81, u82, u83, u84, u85, u86, u87, u88, u89, u90, u91, u92, u93, u94, u95, u96, u97, u98, u99, u100, u101, u102, u103, u104, u105, u106, u107, u108, u109, u110, u111, u112, u113, u114, u115, u116, u117, u118, u119, u120, u121, u122, u123, u124, u125, u126, u127, u128, u129, u130, u131, u132, u133, u134, u135, u136, u137, u138, u139, u140, u141, u142, u143, u144, u145, u146, u147, x148, x149, x150, x151, x152, x153, x154, x155, x156, x157, x158, x159, x160, x161, x162, x163, u164, u165, u166, u167, u168, u169, u170, u171, u172, u173, u174, u175, u176], []⟩ wy) :
  Code.wp Tryz.prog pairR24C Q' ⟨#[.pointer (some ⟨G.b, 0, none⟩), u1, u2, u3, u4, u5, u6, .int .i64 (q : Int), u8, u9, u10, .int .i64 (r : Int), u12, u13, u14, u15, u16, u17, u18, u19, u20, u21, u22, u23, u24, u25, u26, u27, u28, u29, u30, u31, u32, u33, u34, u35, u36, u37, u38, u39, u40, u41, u42, u43, u44, u45, u46, u47, u48, u49, u50, u51, u52, u53, u54, u55, u56, u57, u58, u59, u60, u61, u62, u63, u64, u65, u66, u67, u68, u69, u70, u71, u72, u73, u74, u75, u76, u77, u78, u79, u80, u81, u82, u83, u84, u85, u86, u87, u88, u89, u90, u91, u92, u93, u94, u95, u96, u97, u98, u99, u100, u101, u102, u103, u104, u105, u106, u107, u108, u109, u110, u111, u112, u113, u114, u115, u116, u117, u118, u119, u120, u121, u122, u123, u124, u125, u126, u127, u128, u129, u130, u131, u132, u133, u134, u135, u136, u137, u138, u139, u140, u141, u142, u143, u144, u145, u146, u147, u148, u149, u150, u151, u152, u153, u154, u155, u156, u157, u158, u159, u160, u161, u162, u163, u164, u165, u166, u167, u168, u169, u170, u171, u172, u173, u174, u175, u176], []⟩ wx := by
 have HK := hid hK
 clear hK
 conv => arg 2; whnf
 have hn4 := h.st.n4
 have hm4 := h.st.m4
 obtain ⟨v, hv, hcq, hst⟩ := h.rowBeats hq
 have eh := h.hBeats
 have hfq := h.freeBeats q
 have hbs := h.sp.old.size
 have hi0 : (0 : Int) ≤ (q : Int) := by omega
 have hi1 : (q : Int) < (S.m : Int) := by omega
 have hne : G.g .beats ≠ G.b := h.bBeats
 have hRlt : G.g .beats < wx.heap.size := (Cont.ok_lt (h.sp.ok .beats) (show (contE G S D vT .beats).fp (G.g .beats) from .inl rfl)).2
 have hblt : G.b < wx.heap.size := lt_of_block h.sp.hdr
 have Hkeep : Hid (∀ cs : Array Value, (fun w' : World => w'.cell? ⟨G.b, 23, none⟩ = some (sl (G.g .beats) S.m)) ((wx.alloc (.cells cs 3)).drew)) := hid fun cs => by
  have h2 := (h.ext (ext_alloc wx (.cells cs 3))).drew
  exact h2.hBeats
 have Haft : Hid (∀ (cs : Array Value) (w' : World), ((wx.alloc (.cells cs 3)).drew).grownBy w' v.ownBlock → (fun w' : World => w'.cell? ⟨G.b, 23, none⟩ = some (sl (G.g .beats) S.m)) w' ∧ w'.cell? ⟨G.g .beats, q, none⟩ = some v ∧ w'.frozen? ⟨G.g .beats, q, none⟩ = false) := hid fun cs w' hg => by
  have h2 := (h.ext (ext_alloc wx (.cells cs 3))).drew
  obtain ⟨a1, a2, a3, _⟩ := h2.afterBeats hv hg
  exact ⟨(a1 23).trans h2.hBeats, (a2 q).trans ((cell_ext (ext_alloc wx (.cells cs 3)).drew hcq)), a3 q⟩
 have Hst : Hid (∀ (w' : World) (u : Value), (fun w' : World => w'.cell? ⟨G.b, 23, none⟩ = some (sl (G.g .beats) S.m)) w' → (fun w' : World => w'.cell? ⟨G.b, 23, none⟩ = some (sl (G.g .beats) S.m)) (w'.setCell ⟨G.g .beats, q, none⟩ u)) := hid fun w' u hs => by
  show _ = _; rw [World.cell?_setCell_far _ _ _ _ hne]; exact hs
 have H := hid h
 have hS0 : (fun w' : World => w'.cell? ⟨G.b, 23, none⟩ = some (sl (G.g .beats) S.m)) wx.drew := eh
 have HS0 := hid hS0
 have Hv := hid hv
 clear h hS0 hv hne
 refine wp_region_noPanic ?_
 refine wp_region_held_drew (S := (fun w' : World => w'.cell? ⟨G.b, 23, none⟩ = some (sl (G.g .beats) S.m))) (by kernel_rfl) ?_ (fun hHeld => ?_)
 ·exact HS0.out
 refine wpAnyH_take (i := 0) (v := ?v1) rfl (by kernel_rfl) (by kernel_rfl) (by kernel_rfl) (fun _ _ _ h => h) (Or.inl ⟨by rfl, ?hy1⟩) (by assumption) ?rest1
 case hy1 => (intro w hSw; (try dsimp only at hSw); go_simp) <;> try with_reducible rfl
 simp only [Act.put, List.setIfInBounds_toArray, List.set_cons_zero, List.set_cons_succ]
 refine wpAnyH_take (i := 1) (v := ?v2) rfl (by kernel_rfl) (by kernel_rfl) (by kernel_rfl) (fun _ _ _ h => h) (Or.inl ⟨by rfl, ?hy2⟩) (by assumption) ?rest2
 case hy2 => (intro w hSw; (try dsimp only at hSw); go_simp) <;> try with_reducible rfl
 simp only [Act.put, List.setIfInBounds_toArray, List.set_cons_zero, List.set_cons_succ]
 refine wpAnyH_take (i := 2) (v := ?v3) rfl (by kernel_rfl) (by kernel_rfl) (by kernel_rfl) (fun _ _ _ h => h) (Or.inl ⟨by rfl, ?hy3⟩) (by assumption) ?rest3
 case hy3 => (intro w hSw; (try dsimp only at hSw); go_simp) <;> try with_reducible rfl
 simp only [Act.put, List.setIfInBounds_toArray, List.set_cons_zero, List.set_cons_succ]
 refine wpAnyH_take (i := 3) (v := ?v4) rfl (by kernel_rfl) (by kernel_rfl) (by kernel_rfl) (fun _ _ _ h => h) (Or.inl ⟨by rfl, ?hy4⟩) (by assumption) ?rest4
 case hy4 => (intro w hSw; (try dsimp only at hSw); go_simp) <;> try with_reducible rfl
 simp only [Act.put, List.setIfInBounds_toArray, List.set_cons_zero, List.set_cons_succ]
 refine wpAnyH_take (i := 4) (v := ?v5) rfl (by kernel_rfl) (by kernel_rfl) (by kernel_rfl) (fun _ _ _ h => h) (Or.inl ⟨by rfl, ?hy5⟩) (by assumption) ?rest5
 case hy5 => (intro w hSw; (try dsimp only at hSw); go_simp) <;> try with_reducible rfl
 simp only [Act.put, List.setIfInBounds_toArray, List.set_cons_zero, List.set_cons_succ]
 refine wpAnyH_take (i := 5) (v := ?v6) rfl (by kernel_rfl) (by kernel_rfl) (by kernel_rfl) (fun _ _ _ h => h) (Or.inl ⟨by rfl, ?hy6⟩) (by assumption) ?rest6
 case hy6 => (intro w hSw; (try dsimp only at hSw); go_simp) <;> try with_reducible rfl
 simp only [Act.put, List.setIfInBounds_toArray, List.set_cons_zero, List.set_cons_succ]
 refine wpAnyH_take (i := 6) (v := ?v7) rfl (by kernel_rfl) (by kernel_rfl) (by kernel_rfl) (fun _ _ _ h => h) (Or.inl ⟨by rfl, ?hy7⟩) (by assumption) ?rest7
 case hy7 => (intro w hSw; (try dsimp only at hSw); go_simp) <;> try with_reducible rfl
 simp only [Act.put, List.setIfInBounds_toArray, List.set_cons_zero, List.set_cons_succ]
 refine wpAnyH_take (i := 7) (v := ?v8) rfl (by kernel_rfl) (by kernel_rfl) (by kernel_rfl) (fun _ _ _ h => h) (Or.inl ⟨by rfl, ?hy8⟩) (by assumption) ?rest8
 case hy8 => (intro w hSw; (try dsimp only at hSw); go_simp) <;> try with_reducible rfl
 simp only [Act.put, List.setIfInBounds_toArray, List.set_cons_zero, List.set_cons_succ]
 refine wpAnyH_take (i := 8) (v := ?v9) rfl (by kernel_rfl) (by kernel_rfl) (by kernel_rfl) (fun _ _ _ h => h) (Or.inl ⟨by rfl, ?hy9⟩) (by assumption) ?rest9
 case hy9 => (intro w hSw; (try dsimp only at hSw); go_simp) <;> try with_reducible rfl
 simp only [Act.put, List.setIfInBounds_toArray, List.set_cons_zero, List.set_cons_succ]
 refine wpAnyH_take (i := 9) (v := ?v10) rfl (by kernel_rfl) (by kernel_rfl) (by kernel_rfl) (fun _ _ _ h => h) (Or.inl ⟨by rfl, ?hy10⟩) (by assumption) ?rest10
 case hy10 => (intro w hSw; (try dsimp only at hSw); go_simp) <;> try with_reducible rfl
 simp only [Act.put, List.setIfInBounds_toArray, List.set_cons_zero, List.set_cons_succ]
 refine wpAnyH_take (i := 10) (v := ?v11) rfl (by kernel_rfl) (by kernel_rfl) (by kernel_rfl) (fun _ _ _ h => h) (Or.inl ⟨by rfl, ?hy11⟩) (by assumption) ?rest11
 case hy11 => (intro w hSw; (try dsimp only at hSw); go_simp) <;> try with_reducible rfl
 simp only [Act.put, List.setIfInBounds_toArray, List.set_cons_zero, List.set_cons_succ]
 refine wpAnyH_take (i := 12) (v := ?v12) rfl (by kernel_rfl) (by kernel_rfl) (by kernel_rfl) (fun _ _ _ h => h) (Or.inl ⟨by rfl, ?hy12⟩) (by assumption) ?rest12
 case hy12 => (intro w hSw; (try dsimp only at hSw); go_simp) <;> try with_reducible rfl
 simp only [Act.put, List.setIfInBounds_toArray, List.set_cons_zero, List.set_cons_succ]
 refine wpAnyH_ready (rs := [11, 13]) (by kernel_rfl) (by simp) ?_
 refine AllReadyH.cons rfl (fun K9 hK9 => ?_) (AllReadyH.cons rfl (fun K9 hK9 => ?_) AllReadyH.nil)
 ·go_simp
  refine hK9.out _ _ ?_ (fun hHeld => ?_)
  ·exact HS0.out
  clear hK9 K9
  try simp only [Act.put, List.setIfInBounds_toArray, List.set_cons_zero, List.set_cons_succ]
  refine wpAnyH_ready (rs := [13]) (by kernel_rfl) (by simp) ?_
  refine AllReadyH.cons rfl (fun K9 hK9 => ?_) AllReadyH.nil
  go_simp
  refine hK9.out _ _ ?_ (fun hHeld => ?_)
  ·exact Hkeep.out _
  clear hK9 K9
  try simp only [Act.put, List.setIfInBounds_toArray, List.set_cons_zero, List.set_cons_succ]
  refine wpAnyH_ready (rs := [14]) (by kernel_rfl) (by simp) ?_
  refine AllReadyH.cons rfl (fun K9 hK9 => ?_) AllReadyH.nil
  (refine step_append_own_at rfl (.tmp 159) (.tmp 161) 26 rfl W0.heap.size 3 (.int .i64 0) 8 Tryz.underlying26 infoI rfl v _ _ rfl (hst.alloc _) _ (.int .i64 (r : Int)) rfl (by simp [go_sem]) rfl (by unfold maxLen; omega) (by omega) (by simp; omega) ?_; intro v' w' hown hgrow hat; obtain ⟨gn, cn, rfl⟩ := own_form hown; obtain ⟨hq5, hqR, hqF⟩ := Haft.out _ w' hgrow)
  refine hK9.out _ _ ?_ (fun hHeld => ?_)
  ·exact hq5
  clear hK9 K9
  try simp only [Act.put, List.setIfInBounds_toArray, List.set_cons_zero, List.set_cons_succ]
  refine wpAnyH_take (i := 15) (v := ?v13) rfl (by kernel_rfl) (by kernel_rfl) (by kernel_rfl) (fun _ _ _ h => h) (Or.inl ⟨by rfl, ?hy13⟩) (by assumption) ?rest13
  case hy13 => (intro w hSw; (try dsimp only at hSw); go_simp) <;> try with_reducible rfl
  simp only [Act.put, List.setIfInBounds_toArray, List.set_cons_zero, List.set_cons_succ]
  refine wpAnyH_ready (rs := [16]) (by kernel_rfl) (by simp) ?_
  refine AllReadyH.cons rfl (fun K9 hK9 => ?_) AllReadyH.nil
  go_simp
  refine hK9.out _ _ ?_ (fun hHeld => ?_)
  ·exact Hst.out _ _ hq5
  clear hK9 K9
  try simp only [Act.put, List.setIfInBounds_toArray, List.set_cons_zero, List.set_cons_succ]
  refine wpAnyH_done (by kernel_rfl) (NoPanic.normal ?_) _
  clear hq5 hqR hqF eh hcq hfq
  exact HK.out _ _ _ _ _ _ _ _ _ _ _ _ _ _ _ _ _ _ ((((H.out.ext (ext_alloc wx (.cells #[.int .i64 (r : Int)] 3))).drew)).growBeats hq Hv.out hgrow hown (hat.imp id fun e => ⟨_, e, Nat.le_refl _⟩))
 ·go_simp
  refine hK9.out _ _ ?_ (fun hHeld => ?_)
  ·exact Hkeep.out _
  clear hK9 K9
  try simp only [Act.put, List.setIfInBounds_toArray, List.set_cons_zero, List.set_cons_succ]
  refine wpAnyH_ready (rs := [11]) (by kernel_rfl) (by simp) ?_
  refine AllReadyH.cons rfl (fun K9 hK9 => ?_) AllReadyH.nil
  go_simp
  refine hK9.out _ _ ?_ (fun hHeld => ?_)
  ·exact Hkeep.out _
  clear hK9 K9
  try simp only [Act.put, List.setIfInBounds_toArray, List.set_cons_zero, List.set_cons_succ]
  refine wpAnyH_ready (rs := [14]) (by kernel_rfl) (by simp) ?_
  refine AllReadyH.cons rfl (fun K9 hK9 => ?_) AllReadyH.nil
  (refine step_append_own_at rfl (.tmp 159) (.tmp 161) 26 rfl W0.heap.size 3 (.int .i64 0) 8 Tryz.underlying26 infoI rfl v _ _ rfl (hst.alloc _) _ (.int .i64 (r : Int)) rfl (by simp [go_sem]) rfl (by unfold maxLen; omega) (by omega) (by simp; omega) ?_; intro v' w' hown hgrow hat; obtain ⟨gn, cn, rfl⟩ := own_form hown; obtain ⟨hq5, hqR, hqF⟩ := Haft.out _ w' hgrow)
  refine hK9.out _ _ ?_ (fun hHeld => ?_)
  ·exact hq5
  clear hK9 K9
  try simp only [Act.put, List.setIfInBounds_toArray, List.set_cons_zero, List.set_cons_succ]
  refine wpAnyH_take (i := 15) (v := ?v14) rfl (by kernel_rfl) (by kernel_rfl) (by kernel_rfl) (fun _ _ _ h => h) (Or.inl ⟨by rfl, ?hy14⟩) (by assumption) ?rest14
  case hy14 => (intro w hSw; (try dsimp only at hSw); go_simp) <;> try with_reducible rfl
  simp only [Act.put, List.setIfInBounds_toArray, List.set_cons_zero, List.set_cons_succ]
  refine wpAnyH_ready (rs := [16]) (by kernel_rfl) (by simp) ?_
  refine AllReadyH.cons rfl (fun K9 hK9 => ?_) AllReadyH.nil
  go_simp
  refine hK9.out _ _ ?_ (fun hHeld => ?_)
  ·exact Hst.out _ _ hq5
  clear hK9 K9
  try simp only [Act.put, List.setIfInBounds_toArray, List.set_cons_zero, List.set_cons_succ]
  refine wpAnyH_done (by kernel_rfl) (NoPanic.normal ?_) _
  clear hq5 hqR hqF eh hcq hfq
  exact HK.out _ _ _ _ _ _ _ _ _ _ _ _ _ _ _ _ _ _ ((((H.out.ext (ext_alloc wx (.cells #[.int .i64 (r : Int)] 3))).drew)).growBeats hq Hv.out hgrow hown (hat.imp id fun e => ⟨_, e, Nat.le_refl _⟩))
end Go.Proofs.Lx

namespace Go.Proofs.Lx
open Go Go.RowKit Go.Proofs.Tj
set_option linter.unusedSimpArgs false
set_option linter.unusedVariables false

noncomputable def pairR10C : Code := fstC (sndC (sndC (sndC pairC1)))
set_option maxRecDepth 1000000 in
set_option maxHeartbeats 60000000 in
theorem pairR10 (wx W0 : World) (G : Gh) (S : Stc) (T : Th) (D : Dyn) (vT : Value) (h : EngV wx W0 G S T D vT) (ga : Nat) (F : Nat → Value) (hx : G.x1 = .arr (sl ga S.n) 201 1 S.n (tab S.n F)) (l : List (Nat × Obj)) (hx2 : G.x2 = .blks l) (q s b : Nat) (hq : q < S.n) (hs4 : s ≤ 4096) (hF : F q = .map (some b))
  (o : Obj) (hm : (b, o) ∈ l) (fn : Int → Int) (c : Nat) (hMO : MO o c fn) (hc : c < maxLen) (A : Option Addr) (cP : Nat) (hvP : G.vP = .slice A S.P cP) (hPP : S.P ≤ 16777216) (Q' : Exit → Act → World → Prop)
  (u1 u4 u5 u7 u8 u9 u10 u11 u12 u13 u14 u15 u16 u17 u18 u19 u20 u21 u22 u23 u24 u25 u26 u27 u28 u29 u30 u31 u32 u33 u34 u35 u36 u37 u38 u39 u40 u41 u42 u43 u44 u45 u46 u47 u48 u49 u50 u51 u52 u53 u54 u55 u56 u57 u58 u59 u60 u61 u62 u63 u64 u65 u66 u67 u68 u69 u70 u71 u72 u73 u74 u75 u76 u77 u78 u79 u80 u81 u82 u83 u84 u85 u86 u87 u88 u89 u90 u91 u92 u93 u94 u95 u96 u97 u98 u99 u100 u101 u102 u103 u104 u105 u106 u107 u108 u109 u110 u111 u112 u113 u114 u115 u116 u117 u118 u119 u120 u121 u122 u123 u124 u125 u126 u127 u128 u129 u130 u131 u132 u133 u134 u135 u136 u137 u138 u139 u140 u141 u142 u143 u144 u145 u146 u147 u148 u149 u150 u151 u152 u153 u154 u155 u156 u157 u158 u159 u160 u161 u162 u163 u164 u165 u166 u167 u168 u169 u170 u171 u172 u173 u174 u175 u176 : Value)
  (hK : ∀ (x60 x61 x62 x63 x64 x65 x66 x67 x68 x69 : Value) (wy : World) (o' : Obj), EngV wy W0 { G with x2 := .blks (turnL l b o') } S T D vT → MO o' (c + 1) (fun x => if x = (s : Int) then (S.P : Int) else fn x) → Q' .normal ⟨#[.pointer (some ⟨G.b, 0, none⟩), u1, sl ga S.n, .int .i64 (s : Int), u4, u5, .int .i64 (q : Int), u7, u8, u9, u10, u11, u12, u13, u14, u15, u16, u17, u18, u19, u20, u21, u22, u23, u24, u25, u26, u27, u28, u29, u30, u31, u32, u33, u34, u35, u36, u37, u38, u39, u40, u41, u42, u43, u44, u45, u46, u47, u48, u49, u50, u51, u52, u53, u54, u55, u56, u57, u58, u59, x60, x61, x62, x63, x64, x65, x66, x67, x68, x69, u70, u71, u72, u73, u74, u75, u76, u77, u78, u79, u80, u81, u82, u83, u84, u85, u86, u87, u88, u89, u90, u91, u92, u93, u94, u95, u96, u97, u98, u99, u100, u101, u102, u103, u104, u105, u106, u107, u108, u109, u110, u111, u112, u113, u114, u115, u116, u117, u118, u119, u120, u121, u122, u123, u124, u125, u126, u127, u128, u129, u130, u131, u132, u133, u134, u135, u136, u137, u138, u139, u140, u141, u142, u143, u144, u145, u146, u147, u148, u149, u150, u151, u152, u153, u154, u155, u156, u157, u158, u159, u160, u161, u162, u163, u164, u165, u166, u167, u168, u169, u170, u171, u172, u173, u174, u175, u176], []⟩ wy) :
  Code.wp Tryz.prog pairR10C Q' ⟨#[.pointer (some ⟨G.b, 0, none⟩), u1, sl ga S.n, .int .i64 (s : Int), u4, u5, .int .i64 (q : Int), u7, u8, u9, u10, u11, u12, u13, u14, u15, u16, u17, u18, u19, u20, u21, u22, u23, u24, u25, u26, u27, u28, u29, u30, u31, u32, u33, u34, u35, u36, u37, u38, u39, u40, u41, u42, u43, u44, u45, u46, u47, u48, u49, u50, u51, u52, u53, u54, u55, u56, u57, u58, u59, u60, u61, u62, u63, u64, u65, u66, u67, u68, u69, u70, u71, u72, u73, u74, u75, u76, u77, u78, u79, u80, u81, u82, u83, u84, u85, u86, u87, u88, u89, u90, u91, u92, u93, u94, u95, u96, u97, u98, u99, u100, u101, u102, u103, u104, u105, u106, u107, u108, u109, u110, u111, u112, u113, u114, u115, u116, u117, u118, u119, u120, u121, u122, u123, u124, u125, u126, u127, u128, u129, u130, u131, u132, u133, u134, u135, u136, u137, u138, u139, u140, u141, u142, u143, u144, u145, u146, u147, u148, u149, u150, u151, u152, u153, u154, u155, u156, u157, u158, u159, u160, u161, u162, u163, u164, u165, u166, u167, u168, u169, u170, u171, u172, u173, u174, u175, u176], []⟩ wx := by
 have HK := hid hK
 clear hK
 conv => arg 2; whnf
 have hn4 := h.st.n4
 have hi0 : (0 : Int) ≤ (q : Int) := by omega
 have hi1 : (q : Int) < (S.n : Int) := by omega
 obtain ⟨ca, _⟩ := h.readX1g hx hq
 rw [hF] at ca
 have hne : ga ≠ b := h.neX2 hx2 hm .x1 (fun e => by cases e) (by show G.x1.fp ga; rw [hx]; rfl)
 have hneb : b ≠ G.b := h.bX2 hx2 hm
 have hgl : ga < wx.heap.size := (Cont.ok_lt (h.sp.ok .x1) (show (contE G S D vT .x1).fp ga by show G.x1.fp ga; rw [hx]; rfl)).2
 have hbl : G.b < wx.heap.size := lt_of_block h.sp.hdr
 obtain ⟨w', r1, r2, r3⟩ := (hMO wx.drew b (h.drew.inX2 hx2 hm)).update hc (wfI (s : Int) (by omega) (by omega)) (wfI (S.P : Int) (by omega) (by omega))
 obtain ⟨o', ho', hMO'⟩ := r2.obj
 have Hend := hid (h.drew.turnX2l hx2 hm r3 ho')
 have hS0 : (fun w' : World => w'.cell? ⟨ga, q, none⟩ = some (.map (some b)) ∧ w'.cell? ⟨G.b, 21, none⟩ = some (.slice A S.P cP)) wx.drew := ⟨ca, h.hPairs.trans (by rw [hvP])⟩
 have hS1 : (fun w' : World => w'.cell? ⟨ga, q, none⟩ = some (.map (some b)) ∧ w'.cell? ⟨G.b, 21, none⟩ = some (.slice A S.P cP)) w' := ⟨(World.cell?_of_block (r3.block ga hgl (fun e => hne (by injection e)))).trans ca, (World.cell?_of_block (r3.block G.b hbl (fun e => hneb (by injection e with e; exact e.symm)))).trans (h.hPairs.trans (by rw [hvP]))⟩
 have HS0 := hid hS0
 have HS1 := hid hS1
 clear h hS0 hS1 r2 r3 hne hneb ca
 refine wp_region_noPanic ?_
 refine wp_region_held_drew (S := (fun w' : World => w'.cell? ⟨ga, q, none⟩ = some (.map (some b)) ∧ w'.cell? ⟨G.b, 21, none⟩ = some (.slice A S.P cP))) (by kernel_rfl) ?_ (fun hHeld => ?_)
 ·exact HS0.out
 refine wpAnyH_take (i := 0) (v := ?v1) rfl (by kernel_rfl) (by kernel_rfl) (by kernel_rfl) (fun _ _ _ h => h) (Or.inl ⟨by rfl, ?hy1⟩) (by assumption) ?rest1
 case hy1 => (intro w hSw; (try dsimp only at hSw); go_simp) <;> try with_reducible rfl
 simp only [Act.put, List.setIfInBounds_toArray, List.set_cons_zero, List.set_cons_succ]
 refine wpAnyH_take (i := 1) (v := ?v2) rfl (by kernel_rfl) (by kernel_rfl) (by kernel_rfl) (fun _ _ _ h => h) (Or.inl ⟨by rfl, ?hy2⟩) (by assumption) ?rest2
 case hy2 => (intro w hSw; (try dsimp only at hSw); go_simp) <;> try with_reducible rfl
 simp only [Act.put, List.setIfInBounds_toArray, List.set_cons_zero, List.set_cons_succ]
 refine wpAnyH_take (i := 2) (v := ?v3) rfl (by kernel_rfl) (by kernel_rfl) (by kernel_rfl) (fun _ _ _ h => h) (Or.inl ⟨by rfl, ?hy3⟩) (by assumption) ?rest3
 case hy3 => (intro w hSw; (try dsimp only at hSw); go_simp) <;> try with_reducible rfl
 simp only [Act.put, List.setIfInBounds_toArray, List.set_cons_zero, List.set_cons_succ]
 refine wpAnyH_take (i := 3) (v := ?v4) rfl (by kernel_rfl) (by kernel_rfl) (by kernel_rfl) (fun _ _ _ h => h) (Or.inl ⟨by rfl, ?hy4⟩) (by assumption) ?rest4
 case hy4 => (intro w hSw; (try dsimp only at hSw); go_simp) <;> try with_reducible rfl
 simp only [Act.put, List.setIfInBounds_toArray, List.set_cons_zero, List.set_cons_succ]
 refine wpAnyH_take (i := 4) (v := ?v5) rfl (by kernel_rfl) (by kernel_rfl) (by kernel_rfl) (fun _ _ _ h => h) (Or.inl ⟨by rfl, ?hy5⟩) (by assumption) ?rest5
 case hy5 => (intro w hSw; (try dsimp only at hSw); go_simp) <;> try with_reducible rfl
 simp only [Act.put, List.setIfInBounds_toArray, List.set_cons_zero, List.set_cons_succ]
 refine wpAnyH_take (i := 5) (v := ?v6) rfl (by kernel_rfl) (by kernel_rfl) (by kernel_rfl) (fun _ _ _ h => h) (Or.inl ⟨by rfl, ?hy6⟩) (by assumption) ?rest6
 case hy6 => (intro w hSw; (try dsimp only at hSw); go_simp) <;> try with_reducible rfl
 simp only [Act.put, List.setIfInBounds_toArray, List.set_cons_zero, List.set_cons_succ]
 refine wpAnyH_take (i := 6) (v := ?v7) rfl (by kernel_rfl) (by kernel_rfl) (by kernel_rfl) (fun _ _ _ h => h) (Or.inl ⟨by rfl, ?hy7⟩) (by assumption) ?rest7
 case hy7 => (intro w hSw; (try dsimp only at hSw); go_simp) <;> try with_reducible rfl
 simp only [Act.put, List.setIfInBounds_toArray, List.set_cons_zero, List.set_cons_succ]
 refine wpAnyH_take (i := 7) (v := ?v8) rfl (by kernel_rfl) (by kernel_rfl) (by kernel_rfl) (fun _ _ _ h => h) (Or.inl ⟨by rfl, ?hy8⟩) (by assumption) ?rest8
 case hy8 => (intro w hSw; (try dsimp only at hSw); go_simp) <;> try with_reducible rfl
 simp only [Act.put, List.setIfInBounds_toArray, List.set_cons_zero, List.set_cons_succ]
 refine wpAnyH_take (i := 8) (v := ?v9) rfl (by kernel_rfl) (by kernel_rfl) (by kernel_rfl) (fun _ _ _ h => h) (Or.inl ⟨by rfl, ?hy9⟩) (by assumption) ?rest9
 case hy9 => (intro w hSw; (try dsimp only at hSw); go_simp) <;> try with_reducible rfl
 simp only [Act.put, List.setIfInBounds_toArray, List.set_cons_zero, List.set_cons_succ]
 refine wpAnyH_take (i := 9) (v := ?v10) rfl (by kernel_rfl) (by kernel_rfl) (by kernel_rfl) (fun _ _ _ h => h) (Or.inl ⟨by rfl, ?hy10⟩) (by assumption) ?rest10
 case hy10 => (intro w hSw; (try dsimp only at hSw); go_simp) <;> try with_reducible rfl
 simp only [Act.put, List.setIfInBounds_toArray, List.set_cons_zero, List.set_cons_succ]
 refine wpAnyH_ready (rs := [10]) (by kernel_rfl) (by simp) ?_
 refine AllReadyH.cons rfl (fun K9 hK9 => ?_) AllReadyH.nil
 go_simp
 refine hK9.out _ _ ?_ (fun hHeld => ?_)
 ·exact HS1.out
 clear hK9 K9
 try simp only [Act.put, List.setIfInBounds_toArray, List.set_cons_zero, List.set_cons_succ]
 refine wpAnyH_done (by kernel_rfl) (NoPanic.normal ?_) _
 exact HK.out _ _ _ _ _ _ _ _ _ _ _ _ Hend.out hMO'
end Go.Proofs.Lx

namespace Go.Proofs.Lx
open Go Go.RowKit Go.Proofs.Tj
set_option linter.unusedSimpArgs false
set_option linter.unusedVariables false

/-- What pair lays, by and by. -/
structure PX where
 P : Nat
 pq : Nat → Nat
 ps : Nat → Nat
 ofs : Nat → List Nat
 att : Nat → Int
 A : Nat → Nat → Nat
def PX.S (X : PX) (S : Stc) : Stc := { S with P := X.P, pq := X.pq, ps := X.ps, ofs := X.ofs }
def PX.D (X : PX) (D : Dyn) : Dyn := { D with attacks := X.att }
def addP (q s : Nat) (X : PX) : PX := { P := X.P + 1, pq := Tj.upd X.pq X.P q, ps := Tj.upd X.ps X.P s, ofs := Tj.upd X.ofs s (X.ofs s ++ [X.P]), att := Tj.upd X.att q (addW (X.att q) 1), A := upd2 X.A q s X.P }
def PAt (w W0 : World) (b : Nat) (g : Key → Nat) (vF vR : Value) (ga : Nat) (S : Stc) (T : Th) (D : Dyn) (X : PX) (p : Option (Nat × Obj)) : Prop :=
 ∃ vB vP vin vof vbe l mb vT, EngV w W0 ⟨b, g, vF, vR, vB, vP, vin, vof, vbe, .arr (sl ga S.n) 201 1 S.n (tab S.n fun q => Value.map (mb q)), .blks l⟩ (X.S S) T (X.D D) vT ∧ MapsIn S.n l mb X.P X.A ∧ (∀ z, p = some z → z ∈ l)
theorem infoAg : (Tryz.prog.info? 191).map (fun i => (i.zero, i.size, i.bytes)) = some (some (.agg #[.int .i64 0, .int .i64 0, .bool false, .int .i64 0]), 4, 32) := by kernel_rfl
theorem info_parts4 {P : Program} {e : TypeId} {z : Value} {s b : Nat} (h : (P.info? e).map (fun i => (i.zero, i.size, i.bytes)) = some (some z, s, b)) : ∃ i, P.info? e = some i ∧ i.zero = some z ∧ i.size = s ∧ i.bytes = b := by
 cases hi : P.info? e with
 | none => rw [hi] at h; simp at h
 | some i => rw [hi] at h; simp at h; exact ⟨i, rfl, h.1, h.2.1, h.2.2⟩
theorem cell_four_new (w : World) (a b c d : Value) (t : TypeId) : ∀ j u, [a, b, c, d][j]? = some u → (w.alloc (.cells #[a, b, c, d] t)).cell? ((⟨w.heap.size, 0, none⟩ : Addr).add j) = some u := by
 intro j u hj
 have h := heap_alloc_new w (.cells #[a, b, c, d] t)
 rw [add_plain, cell_of_row _ _ _ _ _ _ h]
 simpa using hj
theorem own_formP {w : World} {base e size n : Nat} {v : Value} {xs : List Value} (h : w.ownsRow base e size v n xs) : ∃ A c, v = .slice A n c := by
 rcases h.2 with ⟨h1, h0⟩ | ⟨g, cap, cur, hv, _⟩
 ·exact ⟨none, 0, by rw [h1, h0]⟩
 ·exact ⟨_, cap, hv⟩
noncomputable def pairRestC : Code := sndC (sndC (sndC (sndC pairC1)))
set_option maxRecDepth 1000000 in
set_option maxHeartbeats 60000000 in
theorem pairRest (wx W0 : World) (b : Nat) (g : Key → Nat) (vF vR : Value) (ga : Nat) (S : Stc) (T : Th) (D : Dyn) (X : PX) (vB vP : Value) (vin vof vbe : List Value) (l : List (Nat × Obj)) (mb : Nat → Option Nat) (vT : Value)
  (h : EngV wx W0 ⟨b, g, vF, vR, vB, vP, vin, vof, vbe, .arr (sl ga S.n) 201 1 S.n (tab S.n fun q => Value.map (mb q)), .blks l⟩ (X.S S) T (X.D D) vT) (hM : MapsIn S.n l mb X.P X.A) (q s bm : Nat) (hq : q < S.n) (hs : s < S.m) (hmb : mb q = some bm)
  (hP : X.P ≤ 65536) (hol : (X.ofs s).length ≤ X.P) (hse : D.settled X.P = false) (hle : D.left X.P = 0) (K : Act → World → Prop) (Q' : Exit → Act → World → Prop) (hKK : ∀ a w, Code.wp Tryz.prog pairRestC Q' a w → K a w)
  (u1 u4 u5 u7 u8 u9 u10 u11 u12 u13 u14 u15 u16 u17 u18 u19 u20 u21 u22 u23 u24 u25 u26 u27 u28 u29 u30 u31 u32 u33 u34 u35 u36 u37 u38 u39 u40 u41 u42 u43 u44 u45 u46 u47 u48 u49 u50 u51 u52 u53 u54 u55 u56 u57 u58 u59 u60 u61 u62 u63 u64 u65 u66 u67 u68 u69 u70 u71 u72 u73 u74 u75 u76 u77 u78 u79 u80 u81 u82 u83 u84 u85 u86 u87 u88 u89 u90 u91 u92 u93 u94 u95 u96 u97 u98 u99 u100 u101 u102 u103 u104 u105 u106 u107 u108 u109 u110 u111 u112 u113 u114 u115 u116 u117 u118 u119 u120 u121 u122 u123 u124 u125 u126 u127 u128 u129 u130 u131 u132 u133 u134 u135 u136 u137 u138 u139 u140 u141 u142 u143 u144 u145 u146 u147 u148 u149 u150 u151 u152 u153 u154 u155 u156 u157 u158 u159 u160 u161 u162 u163 u164 u165 u166 u167 u168 u169 u170 u171 u172 u173 u174 u175 u176 : Value)
  (hK : ∀ (x60 x61 x62 x63 x64 x65 x66 x67 x68 x69 x70 x71 x72 x73 x74 x75 x76 x77 x78 x79 x80 x81 x82 x83 x84 x85 x86 x87 x88 x89 x90 x91 x92 x93 x94 x95 x96 x97 x98 x99 x100 x101 x102 x103 x104 x105 x106 x107 x108 x109 x110 : Value) (wy : World), PAt wy W0 b g vF vR ga S T D (addP q s X) none → Q' .normal ⟨#[.pointer (some ⟨b, 0, none⟩), u1, sl ga S.n, .int .i64 (s : Int), u4, u5, .int .i64 (q : Int), u7, u8, u9, u10, u11, u12, u13, u14, u15, u16, u17, u18, u19, u20, u21, u22, u23, u24, u25, u26, u27, u28, u29, u30, u31, u32, u33, u34, u35, u36, u37, u38, u39, u40, u41, u42, u43, u44, u45, u46, u47, u48, u49, u50, u51, u52, u53, u54, u55, u56, u57, u58, u59, x60, x61, x62, x63, x64, x65, x66, x67, x68, x69, x70, x71, x72, x73, x74, x75, x76, x77, x78, x79, x80, x81, x82, x83, x84, x85, x86, x87, x88, x89, x90, x91, x92, x93, x94, x95, x96, x97, x98, x99, x100, x101, x102, x103, x104, x105, x106, x107, x108, x109, x110, u111, u112, u113, u114, u115, u116, u117, u118, u119, u120, u121, u122, u123, u124, u125, u126, u127, u128, u129, u130, u131, u132, u133, u134, u135, u136, u137, u138, u139, u140, u141, u142, u143, u144, u145, u146, u147, u148, u149, u150, u151, u152, u153, u154, u155, u156, u157, u158, u159, u160, u161, u162, u163, u164, u165, u166, u167, u168, u169, u170, u171, u172, u173, u174, u175, u176], []⟩ wy) :
  Code.wp Tryz.prog pairR10C (Exit.then K Q') ⟨#[.pointer (some ⟨b, 0, none⟩), u1, sl ga S.n, .int .i64 (s : Int), u4, u5, .int .i64 (q : Int), u7, u8, u9, u10, u11, u12, u13, u14, u15, u16, u17, u18, u19, u20, u21, u22, u23, u24, u25, u26, u27, u28, u29, u30, u31, u32, u33, u34, u35, u36, u37, u38, u39, u40, u41, u42, u43, u44, u45, u46, u47, u48, u49, u50, u51, u52, u53, u54, u55, u56, u57, u58, u59, u60, u61, u62, u63, u64, u65, u66, u67, u68, u69, u70, u71, u72, u73, u74, u75, u76, u77, u78, u79, u80, u81, u82, u83, u84, u85, u86, u87, u88, u89, u90, u91, u92, u93, u94, u95, u96, u97, u98, u99, u100, u101, u102, u103, u104, u105, u106, u107, u108, u109, u110, u111, u112, u113, u114, u115, u116, u117, u118, u119, u120, u121, u122, u123, u124, u125, u126, u127, u128, u129, u130, u131, u132, u133, u134, u135, u136, u137, u138, u139, u140, u141, u142, u143, u144, u145, u146, u147, u148, u149, u150, u151, u152, u153, u154, u155, u156, u157, u158, u159, u160, u161, u162, u163, u164, u165, u166, u167, u168, u169, u170, u171, u172, u173, u174, u175, u176], []⟩ wx := by
 have HK := hid hK
 clear hK
 have hn4 : S.n ≤ 4096 := h.st.n4
 have hm4 : S.m ≤ 4096 := h.st.m4
 obtain ⟨o, fn, hm, hMO, hfn⟩ := hM.at1 q bm hq hmb
 obtain ⟨A, cP, rfl⟩ : ∃ A c, vP = .slice A X.P c := own_formP h.pairsOwn
 have H := hid h
 have HM := hid hM
 have Hse := hid hse
 have Hle := hid hle
 have Hol := hid hol
 clear h hM hse hle hol
 refine pairR10 wx W0 _ _ T _ _ H.out ga _ rfl l rfl q s bm hq (by omega) (by show Value.map (mb q) = _; rw [hmb]) o hm fn X.P hMO (by unfold maxLen; omega) A cP rfl (by show X.P ≤ _; omega) _ _ _ _ _ _ _ _ _ _ _ _ _ _ _ _ _ _ _ _ _ _ _ _ _ _ _ _ _ _ _ _ _ _ _ _ _ _ _ _ _ _ _ _ _ _ _ _ _ _ _ _ _ _ _ _ _ _ _ _ _ _ _ _ _ _ _ _ _ _ _ _ _ _ _ _ _ _ _ _ _ _ _ _ _ _ _ _ _ _ _ _ _ _ _ _ _ _ _ _ _ _ _ _ _ _ _ _ _ _ _ _ _ _ _ _ _ _ _ _ _ _ _ _ _ _ _ _ _ _ _ _ _ _ _ _ _ _ _ _ _ _ _ _ _ _ _ _ _ _ _ _ _ _ _ _ _ _ _ _ _ _ _ _ _ _ _ _ _ _ _ _ _ _ ?_
 intro y60 y61 y62 y63 y64 y65 y66 y67 y68 y69 w1 o1 h1 hMO1
 have HM1 := hid (HM.out.turn hq hmb hm hfn hMO1)
 have H1 := hid h1
 clear h1 hMO1
 refine hKK _ _ ?_
 clear hKK
 conv => arg 2; whnf
 go_wp2
 refine pairR11 w1 W0 _ _ T _ _ H1.out s 0 hs (by show (X.ofs s).length ≤ _; have := Hol.out; omega) A cP rfl (by show X.P ≤ _; omega) _ _ _ _ _ _ _ _ _ _ _ _ _ _ _ _ _ _ _ _ _ _ _ _ _ _ _ _ _ _ _ _ _ _ _ _ _ _ _ _ _ _ _ _ _ _ _ _ _ _ _ _ _ _ _ _ _ _ _ _ _ _ _ _ _ _ _ _ _ _ _ _ _ _ _ _ _ _ _ _ _ _ _ _ _ _ _ _ _ _ _ _ _ _ _ _ _ _ _ _ _ _ _ _ _ _ _ _ _ _ _ _ _ _ _ _ _ _ _ _ _ _ _ _ _ _ _ _ _ _ _ _ _ _ _ _ _ _ _ _ _ _ _ _ _ _ _ _ _ _ _ _ _ _ _ _ _ _ _ _ _ _ _ _ _ _ _ _ _ _ _ _ _ _ _ _ ?_
 intro y70 y71 y72 y73 y74 y75 y76 y77 y78 y79 y80 y81 y82 y83 y84 y85 y86 y87 y88 y89 w2 v2 h2
 have H2 := hid h2
 have e21 := h2.hPairs
 have Hown := hid h2.pairsOwn
 have hold : W0.heap.size ≤ w2.heap.size := h2.sp.old.size
 obtain ⟨i0, hi', hz0, hz1, hz2⟩ := info_parts4 infoAg
 have Haft : Hid (∀ (cs : Array Value) (t : TypeId) (v' : Value) (w3 : World), w3.ownsRow W0.heap.size 191 4 v' (X.P + 1) (tab (4 * X.P) (pairC (X.S S) (X.D D)) ++ [Value.int .i64 (q : Int), .int .i64 (s : Int), .bool false, .int .i64 0]) → (w2.alloc (.cells cs t)).grownBy w3 (Value.slice A X.P cP).ownBlock →
   (v'.ownBlock = (Value.slice A X.P cP).ownBlock ∨ v'.ownBlock = some (w2.alloc (.cells cs t)).heap.size) → w3.cell? ⟨b, 21, none⟩ = some (.slice A X.P cP) ∧ w3.frozen? ⟨b, 21, none⟩ = false ∧ EngV (w3.setCell ⟨b, 21, none⟩ v') W0 _ _ T _ vT) := hid (by
  intro cs t v' w3 ho hg hat
  have h3 := h2.ext (ext_alloc w2 (.cells cs t))
  obtain ⟨k1, k2⟩ := h3.afterPairs hg
  refine ⟨k1, k2, h3.growPairs (q := q) (s := s) hg Hse.out Hle.out ho fun g e => ?_⟩
  rcases hat with e1 | e1
  ·exact .inl (by rw [← e1]; exact e)
  ·rw [e1] at e; injection e with e; exact .inr (by omega))
 clear h2
 go_wp2_with (at_builtin; refine wpList_append_own_at _ rfl _ _ 82 rfl W0.heap.size 191 i0 (.agg #[.int .i64 0, .int .i64 0, .bool false, .int .i64 0]) 4 32 Tryz.underlying82 hi' hz0 hz1 hz2 rfl (by decide) (.slice A X.P cP) X.P _ rfl (Hown.out.alloc _) ⟨w2.heap.size, 0, none⟩ 1 1 [.int .i64 (q : Int), .int .i64 (s : Int), .bool false, .int .i64 0] rfl rfl (cell_four_new _ _ _ _ _ _) (fun u hu => by simp at hu; rcases hu with rfl | rfl | rfl | rfl <;> rfl) (by unfold maxLen; omega) (by omega) (by simp; omega) ?_; intro v' w3 hown' hgrow3 hnil3 hat3; obtain ⟨gn, cn, rfl⟩ := own_formS hown'; obtain ⟨k1, k2, h4'⟩ := Haft.out _ _ _ w3 hown' hgrow3 hat3; have e19 := h4'.hAttacks; have c19 := h4'.rAttacks hq; have f19 := h4'.fAttacks q; have H4 := hid h4'; clear h4')
 have h5 := H4.out.wAttacks q (wrap64 ((X.D D).attacks q + 1))
 exact HK.out _ _ _ _ _ _ _ _ _ _ _ _ _ _ _ _ _ _ _ _ _ _ _ _ _ _ _ _ _ _ _ _ _ _ _ _ _ _ _ _ _ _ _ _ _ _ _ _ _ _ _ _ ⟨_, _, _, _, _, _, mb, _, h5, HM1.out, fun z e => by cases e⟩
end Go.Proofs.Lx
