/- Parts of the proof: Dk, Dc, Dh. cutR40: a number goes onto a row of the part, in whatever order the statement's operations come. Printed by gen_cutr.py. No condition. -/
import Derived.Test.YtbidjiopnddldaaGreatP16
import Derived.Test.YtbidjiopnddldaaGreatP3
import Derived.Deep.DeepCutAuto
import Derived.Deep.RegionHeld3
import Derived.Test.YtbidjiopnddldaaGreatP6
import Derived.Test.YtbidjiopnddldaaGreatP13
namespace Go.Proofs.Lx
open Go Go.RowKit Go.Proofs.Tj
set_option linter.unusedSimpArgs false
set_option linter.unusedVariables false

noncomputable def cutRest3 : Code := dS (dS (dS (dS cutBody)))
noncomputable def cutSeg4 : Code := dF (dS cutRest3)
noncomputable def cutSeg5 : Code := dF (dS (dS cutRest3))
noncomputable def cutSeg6 : Code := dF (dS (dS (dS (dS cutRest3))))
noncomputable def cutSeg7 : Code := dF (dS (dS (dS (dS (dS cutRest3)))))
noncomputable def cutB11 : Code := dB (dS (dS (dL (dB (dS cutSeg6)))))
noncomputable def cutR40C : Code := dS (dB (dF (dS (dS (dL (dB (dS (dF (dS cutB11)))))))))

set_option maxRecDepth 1000000 in
set_option maxHeartbeats 60000000 in
theorem cutR40 (wx W1 : World) (p g b n q : Nat) (D : List Int) (y : Int) (vs : List Value) (xss : List (List Int)) (h : HX W1 wx g vs xss) (bx : Array Value) (hp : W1.heap[p]? = some (.cells bx 111 (0, 0))) (hbx : bx[3]? = some (.slice (some ⟨g, 0, none⟩) n n)) (hpg : p ≠ g) (hbg : b ≠ g)
  (him : IM W1 b D) (hy : (Lit.int .i64 y).wf = true) (hq : q < vs.length) (hq' : q < xss.length) (hqn : q < n) (hlen : xss[q].length ≤ 1000000) (Q' : Exit → Act → World → Prop)
  (u0 u1 u2 u3 u4 u5 u6 u7 u9 u10 u11 u12 u14 u15 u16 u17 u18 u19 u20 u21 u22 u23 u25 u27 u28 u29 u30 u31 u32 u33 u34 u35 u36 u37 u38 u39 u40 u41 u42 u43 u44 u45 u46 u47 u48 u49 u50 u51 u52 u53 u54 u55 u56 u57 u58 u59 u60 u61 u62 u63 u64 u65 u66 u67 u68 u69 u70 u71 u72 u73 u74 u75 u76 u77 u78 u79 u80 u81 u82 u83 u84 u85 u86 u87 u88 u89 u90 u91 u92 u93 u94 u95 u96 u97 u98 u99 u100 u101 u102 u103 u104 u105 u106 u107 u108 u109 u110 u111 u112 u113 u114 u115 u116 u117 u118 u119 u120 u121 u122 u123 u124 u125 u126 u127 u128 u129 u130 u131 u132 u133 u134 u135 u136 u137 u138 u139 u140 u141 u142 u143 u144 u145 u146 u147 u148 u149 u150 u151 u152 u153 u154 u155 u156 u157 u158 u159 u160 u161 u162 u163 u164 u165 u166 u167 u168 u169 u170 u171 u172 u173 u174 u175 u176 u177 u178 u179 u180 u181 u182 u183 u184 u185 u186 u187 u188 u189 u190 u191 u192 u209 u210 u211 u212 u213 u214 u215 u216 u217 u218 u219 u220 u221 u222 u223 u224 u225 u226 u227 u228 u229 u230 u231 u232 u233 u234 u235 u236 u237 u238 u239 u240 u241 u242 u243 u244 u245 u246 u193 u194 u195 u196 u197 u198 u199 u200 u201 u202 u203 u204 u205 u206 u207 u208 : Value)
  (hK : ∀ (x193 x194 x195 x196 x197 x198 x199 x200 x201 x202 x203 x204 x205 x206 x207 x208 : Value) (wy : World) (v' : Value), HX W1 wy g (vs.set q v') (xss.set q (xss[q] ++ [ixD D y])) → (∀ k, k < wx.heap.size → k ≠ g → vs[q].ownBlock ≠ some k → wy.heap[k]? = wx.heap[k]?) → Q' .normal ⟨#[u0, u1, u2, u3, u4, u5, u6, u7, .pointer (some ⟨p, 0, none⟩), u9, u10, u11, u12, .map (some b), u14, u15, u16, u17, u18, u19, u20, u21, u22, u23, .int .i64 (q : Int), u25, .int .i64 y, u27, u28, u29, u30, u31, u32, u33, u34, u35, u36, u37, u38, u39, u40, u41, u42, u43, u44, u45, u46, u47, u48, u49, u50, u51, u52, u53, u54, u55, u56, u57, u58, u59, u60, u61, u62, u63, u64, u65, u66, u67, u68, u69, u70, u71, u72, u73, u74, u75, u76, u77, u78, u79, u80, u81, u82, u83, u84, u85, u86, u87, u88, u89, u90, u91, u92, u93, u94, u95, u96, u97, u98, u99, u100, u101, u102, u103, u104, u105, u106, u107, u108, u109, u110, u111, u112, u113, u114, u115, u116, u117, u118, u119, u120, u121, u122, u123, u124, u125, u126, u127, u128, u129, u130, u131, u132, u133, u134, u135, u136, u137, u138, u139, u140, u141, u142, u143, u144, u145, u146, u147, u148, u149, u150, u151, u152, u153, u154, u155, u156, u157, u158, u159, u160, u161, u162, u163, u164, u165, u166, u167, u168, u169, u170, u171, u172, u173, u174, u175, u176, u177, u178, u179, u180, u181, u182, u183, u184, u185, u186, u187, u188, u189, u190, u191, u192, x193, x194, x195, x196, x197, x198, x199, x200, x201, x202, x203, x204, x205, x206, x207, x208, u209, u210, u211, u212, u213, u214, u215, u216, u217, u218, u219, u220, u221, u222, u223, u224, u225, u226, u227, u228, u229, u230, u231, u232, u233, u234, u235, u236, u237, u238, u239, u240, u241, u242, u243, u244, u245, u246], []⟩ wy) :
  Code.wp Tryz.prog cutR40C Q' ⟨#[u0, u1, u2, u3, u4, u5, u6, u7, .pointer (some ⟨p, 0, none⟩), u9, u10, u11, u12, .map (some b), u14, u15, u16, u17, u18, u19, u20, u21, u22, u23, .int .i64 (q : Int), u25, .int .i64 y, u27, u28, u29, u30, u31, u32, u33, u34, u35, u36, u37, u38, u39, u40, u41, u42, u43, u44, u45, u46, u47, u48, u49, u50, u51, u52, u53, u54, u55, u56, u57, u58, u59, u60, u61, u62, u63, u64, u65, u66, u67, u68, u69, u70, u71, u72, u73, u74, u75, u76, u77, u78, u79, u80, u81, u82, u83, u84, u85, u86, u87, u88, u89, u90, u91, u92, u93, u94, u95, u96, u97, u98, u99, u100, u101, u102, u103, u104, u105, u106, u107, u108, u109, u110, u111, u112, u113, u114, u115, u116, u117, u118, u119, u120, u121, u122, u123, u124, u125, u126, u127, u128, u129, u130, u131, u132, u133, u134, u135, u136, u137, u138, u139, u140, u141, u142, u143, u144, u145, u146, u147, u148, u149, u150, u151, u152, u153, u154, u155, u156, u157, u158, u159, u160, u161, u162, u163, u164, u165, u166, u167, u168, u169, u170, u171, u172, u173, u174, u175, u176, u177, u178, u179, u180, u181, u182, u183, u184, u185, u186, u187, u188, u189, u190, u191, u192, u193, u194, u195, u196, u197, u198, u199, u200, u201, u202, u203, u204, u205, u206, u207, u208, u209, u210, u211, u212, u213, u214, u215, u216, u217, u218, u219, u220, u221, u222, u223, u224, u225, u226, u227, u228, u229, u230, u231, u232, u233, u234, u235, u236, u237, u238, u239, u240, u241, u242, u243, u244, u245, u246], []⟩ wx := by
 have HK := hid hK
 clear hK
 conv => arg 2; whnf
 have hplt := lt_of_block hp
 have hblt := him.lt
 obtain ⟨r, hr⟩ : ∃ r, ixD D y = r := ⟨_, rfl⟩
 have HS : Hid (∀ W : World, (∀ k, k < W1.heap.size → k ≠ g → W.heap[k]? = W1.heap[k]?) → (fun w' : World => w'.cell? ⟨p, 3, none⟩ = some (.slice (some ⟨g, 0, none⟩) n n) ∧ (Instr.lookup 129 (.map (some b)) (.int .i64 y) false).run Tryz.prog w' = .ok (.int .i64 r) w') W) := hid fun W hW => by
  refine ⟨?_, ?_⟩
  ·rw [cell_of_row W p 3 _ _ _ ((hW p hplt hpg).trans hp)]; exact hbx
  ·rw [← hr]; exact (him.keep (hW b hblt hbg)).lookx hy
 have hst := h.rows.own q hq hq'
 have hcq := h.rows.cell hq
 have hfq := h.rows.free q
 have hsz := h.sz
 have hglt := h.rows.hg
 have hi0 : (0 : Int) ≤ (q : Int) := by omega
 have hi1 : (q : Int) < (n : Int) := by omega
 have HS0 := hid (HS.out wx.drew h.old)
 have hRlt := h.rows.lt
 have Hkeep : Hid (∀ cs : Array Value, (fun w' : World => w'.cell? ⟨p, 3, none⟩ = some (.slice (some ⟨g, 0, none⟩) n n) ∧ (Instr.lookup 129 (.map (some b)) (.int .i64 y) false).run Tryz.prog w' = .ok (.int .i64 r) w') ((wx.alloc (.cells cs 3)).drew)) := hid fun cs => HS.out _ (h.ext ((ext_alloc wx (.cells cs 3)).drew)).old
 have Haft : Hid (∀ (cs : Array Value) (w' : World), ((wx.alloc (.cells cs 3)).drew).grownBy w' vs[q].ownBlock → (fun w' : World => w'.cell? ⟨p, 3, none⟩ = some (.slice (some ⟨g, 0, none⟩) n n) ∧ (Instr.lookup 129 (.map (some b)) (.int .i64 y) false).run Tryz.prog w' = .ok (.int .i64 r) w') w' ∧ (∀ u : Value, (fun w' : World => w'.cell? ⟨p, 3, none⟩ = some (.slice (some ⟨g, 0, none⟩) n n) ∧ (Instr.lookup 129 (.map (some b)) (.int .i64 y) false).run Tryz.prog w' = .ok (.int .i64 r) w') (w'.setCell ⟨g, q, none⟩ u)) ∧ w'.cell? ⟨g, q, none⟩ = some vs[q] ∧ w'.frozen? ⟨g, q, none⟩ = false) := hid fun cs w' hg => by
  obtain ⟨a1, a2, a3⟩ := h.after hq hg
  exact ⟨HS.out _ a1, fun u => HS.out _ fun k h1 h2 => (heap_setCell_other _ _ _ _ (by dsimp only; omega)).trans (a1 k h1 h2), a2, a3⟩
 have Hy := hid hy
 have H := hid h
 have Hr := hid hr
 obtain ⟨e1, e2⟩ := HS0.out
 clear h him hp hbx hr hpg hbg hy
 refine wp_region_noPanic ?_
 refine wp_region_held_drew (S := (fun w' : World => w'.cell? ⟨p, 3, none⟩ = some (.slice (some ⟨g, 0, none⟩) n n) ∧ (Instr.lookup 129 (.map (some b)) (.int .i64 y) false).run Tryz.prog w' = .ok (.int .i64 r) w')) (by kernel_rfl) ?_ (fun hHeld => ?_)
 ·exact HS0.out
 refine wpAnyH_take (i := 0) (v := ?v1) rfl (by kernel_rfl) (by kernel_rfl) (by kernel_rfl) (fun _ _ _ h => h) (Or.inl ⟨by rfl, ?hy1⟩) (by assumption) ?rest1
 case hy1 => (intro w hSw; (try dsimp only at hSw); go_simp) <;> try with_reducible rfl
 simp only [Act.put, List.setIfInBounds_toArray, List.set_cons_zero, List.set_cons_succ]
 refine wpAnyH_take (i := 1) (v := ?v2) rfl (by kernel_rfl) (by kernel_rfl) (by kernel_rfl) (fun _ _ _ h => h) (Or.inl ⟨by rfl, ?hy2⟩) (by assumption) ?rest2
 case hy2 => (intro w hSw; (try dsimp only at hSw); go_simp) <;> try with_reducible rfl
 simp only [Act.put, List.setIfInBounds_toArray, List.set_cons_zero, List.set_cons_succ]
 refine wpAnyH_take (i := 2) (v := ?v3) rfl (by kernel_rfl) (by kernel_rfl) (by kernel_rfl) (fun _ _ _ h => h) (Or.inl ⟨by rfl, ?hy3⟩) (by assumption) ?rest3
 case hy3 => (intro w hSw; (try dsimp only at hSw); go_simp) <;> try with_reducible rfl
 simp only [Act.put, List.setIfInBounds_toArray, List.set_cons_zero, List.set_cons_succ]
 refine wpAnyH_take (i := 3) (v := ?v4) rfl (by kernel_rfl) (by kernel_rfl) (by kernel_rfl) (fun _ _ _ h => h) (Or.inl ⟨by rfl, ?hy4⟩) (by assumption) ?rest4
 case hy4 => (intro w hSw; (try dsimp only at hSw); go_simp) <;> try with_reducible rfl
 simp only [Act.put, List.setIfInBounds_toArray, List.set_cons_zero, List.set_cons_succ]
 refine wpAnyH_take (i := 4) (v := ?v5) rfl (by kernel_rfl) (by kernel_rfl) (by kernel_rfl) (fun _ _ _ h => h) (Or.inl ⟨by rfl, ?hy5⟩) (by assumption) ?rest5
 case hy5 => (intro w hSw; (try dsimp only at hSw); go_simp) <;> try with_reducible rfl
 simp only [Act.put, List.setIfInBounds_toArray, List.set_cons_zero, List.set_cons_succ]
 refine wpAnyH_take (i := 5) (v := ?v6) rfl (by kernel_rfl) (by kernel_rfl) (by kernel_rfl) (fun _ _ _ h => h) (Or.inl ⟨by rfl, ?hy6⟩) (by assumption) ?rest6
 case hy6 => (intro w hSw; (try dsimp only at hSw); go_simp) <;> try with_reducible rfl
 simp only [Act.put, List.setIfInBounds_toArray, List.set_cons_zero, List.set_cons_succ]
 refine wpAnyH_take (i := 6) (v := ?v7) rfl (by kernel_rfl) (by kernel_rfl) (by kernel_rfl) (fun _ _ _ h => h) (Or.inl ⟨by rfl, ?hy7⟩) (by assumption) ?rest7
 case hy7 => (intro w hSw; (try dsimp only at hSw); go_simp) <;> try with_reducible rfl
 simp only [Act.put, List.setIfInBounds_toArray, List.set_cons_zero, List.set_cons_succ]
 refine wpAnyH_take (i := 7) (v := ?v8) rfl (by kernel_rfl) (by kernel_rfl) (by kernel_rfl) (fun _ _ _ h => h) (Or.inl ⟨by rfl, ?hy8⟩) (by assumption) ?rest8
 case hy8 => (intro w hSw; (try dsimp only at hSw); go_simp) <;> try with_reducible rfl
 simp only [Act.put, List.setIfInBounds_toArray, List.set_cons_zero, List.set_cons_succ]
 refine wpAnyH_take (i := 8) (v := ?v9) rfl (by kernel_rfl) (by kernel_rfl) (by kernel_rfl) (fun _ _ _ h => h) (Or.inl ⟨by rfl, ?hy9⟩) (by assumption) ?rest9
 case hy9 => (intro w hSw; (try dsimp only at hSw); go_simp) <;> try with_reducible rfl
 simp only [Act.put, List.setIfInBounds_toArray, List.set_cons_zero, List.set_cons_succ]
 refine wpAnyH_take (i := 10) (v := ?v10) rfl (by kernel_rfl) (by kernel_rfl) (by kernel_rfl) (fun _ _ _ h => h) (Or.inl ⟨by rfl, ?hy10⟩) (by assumption) ?rest10
 case hy10 => (intro w hSw; (try dsimp only at hSw); go_simp) <;> try with_reducible rfl
 simp only [Act.put, List.setIfInBounds_toArray, List.set_cons_zero, List.set_cons_succ]
 refine wpAnyH_take (i := 11) (v := ?v11) rfl (by kernel_rfl) (by kernel_rfl) (by kernel_rfl) (fun _ _ _ h => h) (Or.inl ⟨by rfl, ?hy11⟩) (by assumption) ?rest11
 case hy11 => (intro w hSw; (try dsimp only at hSw); go_simp) <;> try with_reducible rfl
 simp only [Act.put, List.setIfInBounds_toArray, List.set_cons_zero, List.set_cons_succ]
 refine wpAnyH_take (i := 12) (v := ?v12) rfl (by kernel_rfl) (by kernel_rfl) (by kernel_rfl) (fun _ _ _ h => h) (Or.inl ⟨by rfl, ?hy12⟩) (by assumption) ?rest12
 case hy12 => (intro w hSw; (try dsimp only at hSw); go_simp) <;> try with_reducible rfl
 simp only [Act.put, List.setIfInBounds_toArray, List.set_cons_zero, List.set_cons_succ]
 refine wpAnyH_ready (rs := [9, 13]) (by kernel_rfl) (by simp) ?_
 refine AllReadyH.cons rfl (fun K9 hK9 => ?_) (AllReadyH.cons rfl (fun K9 hK9 => ?_) AllReadyH.nil)
 ·skip
  go_simp
  refine hK9.out _ _ ?_ (fun hHeld => ?_)
  ·exact HS0.out
  clear hK9 K9
  try simp only [Act.put, List.setIfInBounds_toArray, List.set_cons_zero, List.set_cons_succ]
  refine wpAnyH_ready (rs := [13]) (by kernel_rfl) (by simp) ?_
  refine AllReadyH.cons rfl (fun K9 hK9 => ?_) AllReadyH.nil
  go_simp
  refine hK9.out _ _ ?_ (fun hHeld => ?_)
  ·exact Hkeep.out _
  clear hK9 K9
  try simp only [Act.put, List.setIfInBounds_toArray, List.set_cons_zero, List.set_cons_succ]
  refine wpAnyH_ready (rs := [14]) (by kernel_rfl) (by simp) ?_
  refine AllReadyH.cons rfl (fun K9 hK9 => ?_) AllReadyH.nil
  (refine step_append_own_at rfl (.tmp 202) (.tmp 206) 36 rfl W1.heap.size 3 (.int .i64 0) 8 Tryz.underlying36 infoI rfl vs[q] _ _ rfl (hst.alloc _) _ (.int .i64 r) rfl (by simp [go_sem]) rfl (by unfold maxLen; omega) (by omega) (by simp; omega) ?_; intro v' w' hown hgrow hat; obtain ⟨gn, cn, rfl⟩ := own_form hown; obtain ⟨hqS, hqT, hqR, hqF⟩ := Haft.out _ w' hgrow)
  refine hK9.out _ _ ?_ (fun hHeld => ?_)
  ·exact hqS
  clear hK9 K9
  try simp only [Act.put, List.setIfInBounds_toArray, List.set_cons_zero, List.set_cons_succ]
  refine wpAnyH_take (i := 15) (v := ?v13) rfl (by kernel_rfl) (by kernel_rfl) (by kernel_rfl) (fun _ _ _ h => h) (Or.inl ⟨by rfl, ?hy13⟩) (by assumption) ?rest13
  case hy13 => (intro w hSw; (try dsimp only at hSw); go_simp) <;> try with_reducible rfl
  simp only [Act.put, List.setIfInBounds_toArray, List.set_cons_zero, List.set_cons_succ]
  refine wpAnyH_ready (rs := [16]) (by kernel_rfl) (by simp) ?_
  refine AllReadyH.cons rfl (fun K9 hK9 => ?_) AllReadyH.nil
  go_simp
  refine hK9.out _ _ ?_ (fun hHeld => ?_)
  ·exact hqT _
  clear hK9 K9
  try simp only [Act.put, List.setIfInBounds_toArray, List.set_cons_zero, List.set_cons_succ]
  refine wpAnyH_done (by kernel_rfl) (NoPanic.normal ?_) _
  clear hqS hqT hqR hqF e1 e2 hcq hfq
  have hfin := H.out.append hq hq' hgrow hown hat
  rw [← Hr.out] at hfin
  have hkk := fun (k : Nat) (h1 : k < wx.heap.size) (h2 : k ≠ g) (h3 : vs[q].ownBlock ≠ some k) => (heap_setCell_other w' ⟨g, q, none⟩ k (.slice (some ⟨gn, 0, none⟩) (xss[q].length + 1) cn) (by dsimp only; omega)).trans ((hgrow.block k (Nat.lt_of_lt_of_le h1 (ext_alloc wx (.cells #[.int .i64 r] 3)).drew.size) (fun e => h3 e.symm)).trans (Below.heap_alloc wx (.cells #[.int .i64 r] 3) k h1))
  exact HK.out _ _ _ _ _ _ _ _ _ _ _ _ _ _ _ _ _ _ hfin hkk
 ·skip
  go_simp
  refine hK9.out _ _ ?_ (fun hHeld => ?_)
  ·exact Hkeep.out _
  clear hK9 K9
  try simp only [Act.put, List.setIfInBounds_toArray, List.set_cons_zero, List.set_cons_succ]
  refine wpAnyH_ready (rs := [9]) (by kernel_rfl) (by simp) ?_
  refine AllReadyH.cons rfl (fun K9 hK9 => ?_) AllReadyH.nil
  go_simp
  refine hK9.out _ _ ?_ (fun hHeld => ?_)
  ·exact Hkeep.out _
  clear hK9 K9
  try simp only [Act.put, List.setIfInBounds_toArray, List.set_cons_zero, List.set_cons_succ]
  refine wpAnyH_ready (rs := [14]) (by kernel_rfl) (by simp) ?_
  refine AllReadyH.cons rfl (fun K9 hK9 => ?_) AllReadyH.nil
  (refine step_append_own_at rfl (.tmp 202) (.tmp 206) 36 rfl W1.heap.size 3 (.int .i64 0) 8 Tryz.underlying36 infoI rfl vs[q] _ _ rfl (hst.alloc _) _ (.int .i64 r) rfl (by simp [go_sem]) rfl (by unfold maxLen; omega) (by omega) (by simp; omega) ?_; intro v' w' hown hgrow hat; obtain ⟨gn, cn, rfl⟩ := own_form hown; obtain ⟨hqS, hqT, hqR, hqF⟩ := Haft.out _ w' hgrow)
  refine hK9.out _ _ ?_ (fun hHeld => ?_)
  ·exact hqS
  clear hK9 K9
  try simp only [Act.put, List.setIfInBounds_toArray, List.set_cons_zero, List.set_cons_succ]
  refine wpAnyH_take (i := 15) (v := ?v14) rfl (by kernel_rfl) (by kernel_rfl) (by kernel_rfl) (fun _ _ _ h => h) (Or.inl ⟨by rfl, ?hy14⟩) (by assumption) ?rest14
  case hy14 => (intro w hSw; (try dsimp only at hSw); go_simp) <;> try with_reducible rfl
  simp only [Act.put, List.setIfInBounds_toArray, List.set_cons_zero, List.set_cons_succ]
  refine wpAnyH_ready (rs := [16]) (by kernel_rfl) (by simp) ?_
  refine AllReadyH.cons rfl (fun K9 hK9 => ?_) AllReadyH.nil
  go_simp
  refine hK9.out _ _ ?_ (fun hHeld => ?_)
  ·exact hqT _
  clear hK9 K9
  try simp only [Act.put, List.setIfInBounds_toArray, List.set_cons_zero, List.set_cons_succ]
  refine wpAnyH_done (by kernel_rfl) (NoPanic.normal ?_) _
  clear hqS hqT hqR hqF e1 e2 hcq hfq
  have hfin := H.out.append hq hq' hgrow hown hat
  rw [← Hr.out] at hfin
  have hkk := fun (k : Nat) (h1 : k < wx.heap.size) (h2 : k ≠ g) (h3 : vs[q].ownBlock ≠ some k) => (heap_setCell_other w' ⟨g, q, none⟩ k (.slice (some ⟨gn, 0, none⟩) (xss[q].length + 1) cn) (by dsimp only; omega)).trans ((hgrow.block k (Nat.lt_of_lt_of_le h1 (ext_alloc wx (.cells #[.int .i64 r] 3)).drew.size) (fun e => h3 e.symm)).trans (Below.heap_alloc wx (.cells #[.int .i64 r] 3) k h1))
  exact HK.out _ _ _ _ _ _ _ _ _ _ _ _ _ _ _ _ _ _ hfin hkk
end Go.Proofs.Lx

namespace Go.Proofs.Lx
open Go Go.RowKit Go.Proofs.Tj
set_option linter.unusedSimpArgs false
set_option linter.unusedVariables false
/-- An engine: its block x, the slice of its marks, the blocks on which it stands. -/
structure EngD (w : World) (x : Nat) (vM : Value) (T : Th) (F : List Int) (M : List Nat) (U : List Int) (Ft : Nat → Prop) : Prop where
 ex : ∃ vF vR vB vFa vTo, w.heap[x]? = some (.cells #[.bool true, .int .i64 T.lits, vF, vR, vB, vFa, vM, vTo] 72 (0, 0)) ∧
  ∀ W : World, (∀ g, Ft g → g ≠ x → vM.ownBlock ≠ some g → W.heap[g]? = w.heap[g]?) → RdTh W (.agg #[.int .i64 T.lits, vF, vR, vB]) T ∧ RdI W vFa F ∧ RdI W vTo U
 own : w.ownsRow 0 58 1 vM M.length (marksV M)
 ft : ∀ g, Ft g → g < w.heap.size
 fx : Ft x
 fm : ∀ g, vM.ownBlock = some g → Ft g ∧ g ≠ x
 sm : M.length ≤ 4096 ∧ F.length ≤ 4096 ∧ U.length ≤ 4096
section
variable {w w' : World} {x : Nat} {vM : Value} {T : Th} {F : List Int} {M : List Nat} {U : List Int} {Ft : Nat → Prop}
/-- It stays where its blocks stay. -/
theorem EngD.keep (h : EngD w x vM T F M U Ft) (hs : w.heap.size ≤ w'.heap.size) (hk : ∀ g, Ft g → w'.heap[g]? = w.heap[g]?) : EngD w' x vM T F M U Ft := by
 obtain ⟨vF, vR, vB, vFa, vTo, h1, h2⟩ := h.ex
 refine ⟨⟨vF, vR, vB, vFa, vTo, (hk x h.fx).trans h1, fun W hW => h2 W fun g hg hn hm => (hW g hg hn hm).trans (hk g hg)⟩, ?_, fun g hg => by have := h.ft g hg; omega, h.fx, h.fm, h.sm⟩
 refine ⟨h.own.1, ?_⟩
 rcases h.own.2 with k1 | ⟨g, cap, cur, k1, k2, k3, k4⟩
 ·exact .inl k1
 ·exact .inr ⟨g, cap, cur, k1, k2, (hk g (h.fm g (by rw [k1]; rfl)).1).trans k3, k4⟩
theorem EngD.ext (h : EngD w x vM T F M U Ft) (hb : Below w.heap.size w w') : EngD w' x vM T F M U Ft := h.keep hb.size fun g hg => hb.block g (h.ft g hg)
theorem EngD.cells (h : EngD w x vM T F M U Ft) : ∃ vF vR vB vFa vTo, (w.cell? ⟨x, 0, none⟩ = some (.bool true) ∧ w.cell? ⟨x, 1, none⟩ = some (.int .i64 T.lits) ∧ w.cell? ⟨x, 2, none⟩ = some vF ∧ w.cell? ⟨x, 3, none⟩ = some vR ∧ w.cell? ⟨x, 4, none⟩ = some vB ∧ w.cell? ⟨x, 5, none⟩ = some vFa ∧ w.cell? ⟨x, 6, none⟩ = some vM ∧ w.cell? ⟨x, 7, none⟩ = some vTo) ∧
  RdTh w (.agg #[.int .i64 T.lits, vF, vR, vB]) T ∧ RdI w vFa F ∧ RdI w vTo U := by
 obtain ⟨vF, vR, vB, vFa, vTo, h1, h2⟩ := h.ex
 refine ⟨vF, vR, vB, vFa, vTo, ⟨cell_of_row _ _ 0 _ _ _ h1, cell_of_row _ _ 1 _ _ _ h1, cell_of_row _ _ 2 _ _ _ h1, cell_of_row _ _ 3 _ _ _ h1, cell_of_row _ _ 4 _ _ _ h1, cell_of_row _ _ 5 _ _ _ h1, cell_of_row _ _ 6 _ _ _ h1, cell_of_row _ _ 7 _ _ _ h1⟩, h2 w fun _ _ _ _ => rfl⟩
theorem EngD.rdM (h : EngD w x vM T F M U Ft) : RdMk w vM M := own_rdS (enc := fun x : Nat => Value.int .u8 (x : Int)) h.own (by have := h.sm; omega)
end
theorem unmade_any (w : World) (x : Nat) (h : w.cell? ⟨x, 0, none⟩ = some (.bool true)) : Calls Tryz.prog 38 #[.pointer (some ⟨x, 0, none⟩)] w (Ret fun r w' => r = .bool false ∧ w = w') := by
 refine post_gen fun Q HQ => ?_
 go_enter Tryz.func38, Tryz.ntmps38
 go_wp2
 go_ret
 exact Fin HQ ⟨rfl, rfl⟩
theorem marksD_any (w : World) (x : Nat) (vM : Value) (T : Th) (F : List Int) (M : List Nat) (U : List Int) (Ft : Nat → Prop) (h : EngD w x vM T F M U Ft) :
  Calls Tryz.prog 25 #[.pointer (some ⟨x, 0, none⟩)] w (Ret fun r w' => w'.ownsRow w.heap.size 58 1 r M.length (marksV M) ∧ Below w.heap.size w w') := by
 obtain ⟨vF, vR, vB, vFa, vTo, ⟨c0, c1, c2, c3, c4, c5, c6, c7⟩, _⟩ := h.cells
 have Hu := hid (unmade_any w x c0)
 have Hc := hid (cloneM_any w vM M h.rdM)
 clear h
 refine post_gen fun Q HQ => ?_
 go_enter Tryz.func25, Tryz.ntmps25
 go_wp2_with (go_at_call 38; refine Hu.out.mono ?_; rintro e w1 ⟨_, rfl, rfl, rfl⟩)
 refine Hc.out.mono ?_
 rintro e w2 ⟨r, rfl, h1, h2⟩
 go_wp2_with fail
 go_ret
 exact Fin HQ ⟨h1, h2⟩
theorem factsD_any (w : World) (x : Nat) (vM : Value) (T : Th) (F : List Int) (M : List Nat) (U : List Int) (Ft : Nat → Prop) (h : EngD w x vM T F M U Ft) :
  Calls Tryz.prog 28 #[.pointer (some ⟨x, 0, none⟩)] w (Ret fun r w' => w'.ownsRow w.heap.size 3 1 r F.length (intsV F) ∧ Below w.heap.size w w') := by
 obtain ⟨vF, vR, vB, vFa, vTo, ⟨c0, c1, c2, c3, c4, c5, c6, c7⟩, _, hF, _⟩ := h.cells
 have Hu := hid (unmade_any w x c0)
 have Hc := hid (cloneI_any w vFa F hF (by have := h.sm; omega))
 clear h hF
 refine post_gen fun Q HQ => ?_
 go_enter Tryz.func28, Tryz.ntmps28
 go_wp2_with (go_at_call 38; refine Hu.out.mono ?_; rintro e w1 ⟨_, rfl, rfl, rfl⟩)
 refine Hc.out.mono ?_
 rintro e w2 ⟨r, rfl, h1, h2⟩
 go_wp2_with fail
 go_ret
 exact Fin HQ ⟨h1, h2⟩
theorem touchedD_any (w : World) (x : Nat) (vM : Value) (T : Th) (F : List Int) (M : List Nat) (U : List Int) (Ft : Nat → Prop) (h : EngD w x vM T F M U Ft) :
  Calls Tryz.prog 11 #[.pointer (some ⟨x, 0, none⟩)] w (Ret fun r w' => w'.ownsRow w.heap.size 3 1 r U.length (intsV U) ∧ Below w.heap.size w w') := by
 obtain ⟨vF, vR, vB, vFa, vTo, ⟨c0, c1, c2, c3, c4, c5, c6, c7⟩, _, _, hU⟩ := h.cells
 have Hu := hid (unmade_any w x c0)
 have Hc := hid (cloneI_any w vTo U hU (by have := h.sm; omega))
 clear h hU
 refine post_gen fun Q HQ => ?_
 go_enter Tryz.func11, Tryz.ntmps11
 go_wp2_with (go_at_call 38; refine Hu.out.mono ?_; rintro e w1 ⟨_, rfl, rfl, rfl⟩)
 refine Hc.out.mono ?_
 rintro e w2 ⟨r, rfl, h1, h2⟩
 go_wp2_with fail
 go_ret
 exact Fin HQ ⟨h1, h2⟩
end Go.Proofs.Lx

namespace Go.Proofs.Lx
open Go Go.RowKit Go.Proofs.Tj
set_option linter.unusedSimpArgs false
set_option linter.unusedVariables false
theorem idx_in {cone E : List Int} {x : Int} (h : x ∈ cone) : (cone ++ E).idxOf x < cone.length := by
 rw [List.idxOf_append, if_pos h]; exact List.idxOf_lt_length_of_mem h
theorem idx_out {cone E : List Int} {x : Int} (h : x ∉ cone) : cone.length ≤ (cone ++ E).idxOf x := by
 rw [List.idxOf_append, if_neg h]; omega
theorem rule_in {T : Th} (hwf : WfTh T) {k : Nat} (hk : k < T.rules.length) : (0 ≤ T.rules[k].head ∧ T.rules[k].head < T.foes.length) ∧ (∀ x ∈ T.rules[k].body, 0 ≤ x ∧ x < T.foes.length) ∧ T.rules[k].body.length ≤ 16 := by
 have h1 := hwf.ru _ (List.getElem_mem hk)
 have hf := hwf.fl
 simp only [ruleOk, Bool.and_eq_true, decide_eq_true_eq] at h1
 refine ⟨by omega, fun x hx => ?_, by omega⟩
 obtain ⟨a, ha, rfl⟩ := List.getElem_of_mem hx
 have := (risB_spec h1.2).1 a ha
 omega
theorem idx_wf {n : Int} {x : Int} (h : 0 ≤ x ∧ x < n) (hn : n ≤ 4096) : (Lit.int .i64 x).wf = true := WalkArith.wf_i64 (by omega)
set_option maxRecDepth 100000 in
set_option maxHeartbeats 3200000 in
theorem outerD_any (w : World) (x : Nat) (vM vC : Value) (T : Th) (F : List Int) (M : List Nat) (U : List Int) (Ft : Nat → Prop) (h : EngD w x vM T F M U Ft) (hwf : WfTh T) (cone : List Int) (hc : RdI w vC cone) (hok : DOk T.foes.length cone) :
  Calls Tryz.prog 87 #[.pointer (some ⟨x, 0, none⟩), vC] w (Ret fun r w' => ∃ b, r = .map (some b) ∧ w.heap.size ≤ b ∧ IM w' b (outL T cone T.rules.length) ∧ Below w.heap.size w w') := by
 obtain ⟨vF, vR, vB, vFa, vTo, ⟨c0, c1, c2, c3, c4, c5, c6, c7⟩, hTh, _⟩ := h.cells
 obtain ⟨vF2, vR2, vB2, e, hF, hR, hB⟩ := hTh
 injection e with e
 simp only [Array.mk.injEq, List.cons.injEq, and_true] at e
 obtain ⟨_, rfl, rfl, rfl⟩ := e
 obtain ⟨Ac, cc, rfl, hcc, hcn, hcr⟩ := hc
 obtain ⟨AR, cR, rfl, hRc, hRn, hRr⟩ := hR
 have hfl4 : (T.foes.length : Int) ≤ 4096 := by have := hwf.fl; have := hwf.l1; omega
 have Hst : Hid (∀ W, Below w.heap.size w W → W.cell? ⟨x, 3, none⟩ = some (.slice AR T.rules.length cR) ∧ RcI W Ac cone ∧ RcRs W AR T.rules) := hid fun W hW => ⟨cell_ext hW c3, hcr.ext (scR_mono _) hW, hRr.ext ruleR_mono hW⟩
 have Hwf := hid hwf
 have Hok := hid hok
 have hle := hok.le
 have hrl := hwf.rl
 clear h c0 c1 c2 c3 c4 c5 c6 c7 hF hB hcr hRr hok hwf
 have hmm : ∀ (n : Int) (W : World), (Instr.makeMap 129 (some (.int .i64 n))).run Tryz.prog W = .ok (.map (some W.heap.size)) (W.alloc (.map #[] 0)) := fun n W => by simp [Instr.makeMap, run_underlying Tryz.underlying129, asInt, asIntOf, Result.andThen]
 refine post_gen fun Q HQ => ?_
 go_enter Tryz.func87, Tryz.ntmps87
 go_wp2_with fail
 go_loopw [22] (fun v22 wr => ∃ k : Nat, k ≤ cone.length ∧ v22 = .int .i64 (k : Int) ∧ IM wr w.heap.size (cone.take k) ∧ Below w.heap.size w wr) (fun v22 _ => cone.length - (intOf v22).toNat)
 case atStart => exact ⟨0, Nat.zero_le _, rfl, by simpa using IM.made w, ext_alloc _ _⟩
 case round =>
  obtain ⟨k, hk, rfl, him, hbl⟩ := hrel
  by_cases hlt : k < cone.length
  ·obtain ⟨ad, rfl, hcell⟩ := (Hst.out wr hbl).2.1.at1 hlt
   have hlen : (cone.take k).length = k := by rw [List.length_take]; omega
   have hnot : cone[k] ∉ cone.take k := fun hm => by
    obtain ⟨i, hi, e⟩ := List.getElem_of_mem hm
    rw [List.getElem_take] at e
    rw [List.length_take] at hi
    have := ndI_inj Hok.out.nd (by omega) hlt e
    omega
   obtain ⟨w2, hu, him2, hg2⟩ := him.push (by omega) hnot (idx_wf (Hok.out.rg _ (List.getElem_mem hlt)) hfl4)
   rw [hlen] at hu
   rw [← List.take_succ_eq_append_getElem hlt] at him2
   have Him2 := hid him2
   have Hbl2 := hid (below_grown hbl hbl.size hg2 (fun g hg => by injection hg with hg; omega))
   clear him him2 hg2 hnot
   generalize cone[k] = q at *
   go_wp2_with fail
   go_roundw
   case rel => exact ⟨k + 1, by omega, by go_num, Him2.out, Hbl2.out⟩
   case measure => simp [intOf]; omega
  ·obtain rfl : k = cone.length := by omega
   rw [List.take_length] at him
   have Him := hid him
   have Hbl := hid hbl
   have c3 := (Hst.out wr hbl).1
   clear him
   go_wp2_with fail
   obtain ⟨wc, rfl⟩ : ∃ wc : World, wc = wr := ⟨_, rfl⟩
   go_loopw [8, 39] (fun v8 v39 wr => ∃ k : Nat, k ≤ T.rules.length ∧ v39 = .int .i64 (k : Int) ∧ v8 = .int .i64 ((outL T cone k).length : Int) ∧ IM wr w.heap.size (outL T cone k) ∧ Below w.heap.size w wr) (fun _ v39 _ => T.rules.length - (intOf v39).toNat)
   case atStart => exact ⟨0, Nat.zero_le _, rfl, by rw [outL_zero], by rw [outL_zero]; exact Him.out, Hbl.out⟩
   case round =>
    clear Him Hbl
    obtain ⟨k, hk, rfl, rfl, him, hbl⟩ := hrel
    by_cases hlt : k < T.rules.length
    ·obtain ⟨adR, B, cB, eR, hk0, hk1, hk2, hB1, hB2, hrow⟩ := (Hst.out w (ext_refl _)).2.2.atRule hlt
     subst eR
     replace hk0 := cell_ext hbl hk0
     replace hk1 := cell_ext hbl hk1
     replace hk2 := cell_ext hbl hk2
     obtain ⟨⟨hh0, hh1⟩, hbo, hb16⟩ := rule_in Hwf.out hlt
     have hwh : (Lit.int .i64 T.rules[k].head).wf = true := idx_wf ⟨hh0, hh1⟩ hfl4
     have Hsucc := hid (outL_succ (T := T) (cone := cone) hlt)
     have hDk := outL_ok Hwf.out Hok.out (k := k) (by omega)
     obtain ⟨E, hE⟩ := outL_pre T cone k (by omega)
     have Hlk : Hid (∀ cA : Obj, (Instr.lookup 129 (.map (some w.heap.size)) (.int .i64 T.rules[k].head) true).run Tryz.prog (wr.alloc cA) = .ok (if T.rules[k].head ∈ outL T cone k then .tuple #[.int .i64 ((outL T cone k).idxOf T.rules[k].head : Nat), .bool true] else .tuple #[.int .i64 0, .bool false]) (wr.alloc cA)) := hid fun cA => (him.keep (Below.heap_alloc wr cA _ him.lt)).lookok hwh
     have Hbo := hid hbo
     have Hbl := hid hbl
     have Him := hid him
     have HDk := hid hDk
     have hDle := hDk.le
     clear him hbl hbo hDk
     generalize hOD : outL T cone k = D at *
     by_cases hco : T.rules[k].head ∈ cone
     ·have hin : T.rules[k].head ∈ D := by rw [hE]; exact List.mem_append_left _ hco
      have hix : D.idxOf T.rules[k].head < cone.length := by rw [hE]; exact idx_in hco
      have hlk : ∀ cA : Obj, (Instr.lookup 129 (.map (some w.heap.size)) (.int .i64 T.rules[k].head) true).run Tryz.prog (wr.alloc cA) = .ok (.tuple #[.int .i64 (D.idxOf T.rules[k].head : Nat), .bool true]) (wr.alloc cA) := fun cA => by rw [Hlk.out cA, if_pos hin]
      rw [if_pos (memB_true.2 hco)] at Hsucc
      have Hrow : Hid (∀ W, Below w.heap.size w W → RcI W B T.rules[k].body) := hid fun W hW => hrow.ext (scR_mono _) hW
      have hB3 : T.rules[k].body.length ≤ 140737488355328 := by omega
      clear hE hin hco Hlk hrow
      generalize D.idxOf T.rules[k].head = ih at *
      generalize T.rules[k].head = hd at *
      generalize T.rules[k].kind = kd at *
      generalize hbd : T.rules[k].body = bd at *
      clear hbd
      have hgi : ¬ (cone.length : Int) ≤ (ih : Int) := by omega
      go_wp2_with fail
      go_loopw [8, 61] (fun v8 v61 wr => ∃ j : Nat, j ≤ bd.length ∧ v61 = .int .i64 (j : Int) ∧ v8 = .int .i64 ((addAll D (bd.take j)).length : Int) ∧ IM wr w.heap.size (addAll D (bd.take j)) ∧ Below w.heap.size w wr) (fun _ v61 _ => bd.length - (intOf v61).toNat)
      case atStart => exact ⟨0, Nat.zero_le _, rfl, by simp [addAll], by simpa [addAll] using Him.out.keep (Below.heap_alloc wr _ _ Him.out.lt), Hbl.out.alloc (by have := Hbl.out.size; omega) _⟩
      case round =>
       obtain ⟨j, hj, rfl, rfl, him, hb2⟩ := hrel
       have Hb2 := hid hb2
       by_cases hjl : j < bd.length
       ·obtain ⟨adB, rfl, hcell⟩ := (Hrow.out wr hb2).at1 hjl
        have hyw : (Lit.int .i64 bd[j]).wf = true := idx_wf (Hbo.out _ (List.getElem_mem hjl)) hfl4
        have Hs := hid (addAll_succ (D := D) hjl)
        have hlk := him.lookok hyw
        have hDj : DOk T.foes.length (addAll D (bd.take j)) := HDk.out.addAll fun z hz => Hbo.out z (List.mem_of_mem_take hz)
        have hDl := hDj.le
        generalize addAll D (bd.take j) = D2 at *
        generalize bd[j] = y at *
        by_cases hm : y ∈ D2
        ·rw [if_pos hm] at hlk
         have Him2 := hid him
         have Hm : Hid (add1 D2 y = D2) := hid (by unfold add1; rw [if_pos (memB_true.2 hm)])
         clear him hm
         go_wp2_with fail
         go_roundw
         case rel => exact ⟨j + 1, by omega, by go_num, by rw [Hs.out, Hm.out], by rw [Hs.out, Hm.out]; exact Him2.out, Hb2.out⟩
         case measure => simp [intOf]; omega
        ·rw [if_neg hm] at hlk
         have Hm : Hid (add1 D2 y = D2 ++ [y]) := hid (by unfold add1; rw [if_neg (fun h => hm (memB_true.1 h))])
         obtain ⟨w2, hu, him2, hg2⟩ := him.push (by omega) hm hyw
         have Him2 := hid him2
         have Hb3 := hid (below_grown hb2 hb2.size hg2 (fun g hg => by injection hg with hg; omega))
         clear him him2 hg2 hm
         go_wp2_with fail
         go_roundw
         case rel => exact ⟨j + 1, by omega, by go_num, by rw [Hs.out, Hm.out, List.length_append, List.length_singleton]; go_num, by rw [Hs.out, Hm.out]; exact Him2.out, Hb3.out⟩
         case measure => simp [intOf]; omega
       ·obtain rfl : j = bd.length := by omega
        rw [List.take_length] at him
        have Him2 := hid him
        clear him
        go_wp2_with fail
        go_roundw
        case rel => exact ⟨k + 1, by omega, by go_num, by rw [Hsucc.out, List.take_length], by rw [Hsucc.out]; exact Him2.out, Hb2.out⟩
        case measure => simp [intOf]; omega
     ·have hix : T.rules[k].head ∈ D → cone.length ≤ D.idxOf T.rules[k].head := fun _ => by rw [hE]; exact idx_out hco
      rw [if_neg (fun h => hco (memB_true.1 h))] at Hsucc
      have hB3 : T.rules[k].body.length ≤ 140737488355328 := by omega
      clear hE hrow
      by_cases hin : T.rules[k].head ∈ D
      ·have hix := hix hin
       have hlk : ∀ cA : Obj, (Instr.lookup 129 (.map (some w.heap.size)) (.int .i64 T.rules[k].head) true).run Tryz.prog (wr.alloc cA) = .ok (.tuple #[.int .i64 (D.idxOf T.rules[k].head : Nat), .bool true]) (wr.alloc cA) := fun cA => by rw [Hlk.out cA, if_pos hin]
       clear Hlk hin hco
       generalize D.idxOf T.rules[k].head = ih at *
       generalize T.rules[k].head = hd at *
       generalize T.rules[k].kind = kd at *
       generalize T.rules[k].body = bd at *
       have hgi : (cone.length : Int) ≤ (ih : Int) := by omega
       go_wp2_with fail
       go_roundw
       case rel => exact ⟨k + 1, by omega, by go_num, by rw [Hsucc.out], by rw [Hsucc.out]; exact Him.out.keep (Below.heap_alloc wr _ _ Him.out.lt), Hbl.out.alloc (by have := Hbl.out.size; omega) _⟩
       case measure => simp [intOf]; omega
      ·have hlk : ∀ cA : Obj, (Instr.lookup 129 (.map (some w.heap.size)) (.int .i64 T.rules[k].head) true).run Tryz.prog (wr.alloc cA) = .ok (.tuple #[.int .i64 0, .bool false]) (wr.alloc cA) := fun cA => by rw [Hlk.out cA, if_neg hin]
       clear Hlk hin hco hix
       generalize T.rules[k].head = hd at *
       generalize T.rules[k].kind = kd at *
       generalize T.rules[k].body = bd at *
       go_wp2_with fail
       go_roundw
       case rel => exact ⟨k + 1, by omega, by go_num, by rw [Hsucc.out], by rw [Hsucc.out]; exact Him.out.keep (Below.heap_alloc wr _ _ Him.out.lt), Hbl.out.alloc (by have := Hbl.out.size; omega) _⟩
       case measure => simp [intOf]; omega
    ·obtain rfl : k = T.rules.length := by omega
     have Him := hid him
     have Hbl := hid hbl
     clear him hbl
     go_wp2_with fail
     go_ret
     exact Fin HQ ⟨_, rfl, Nat.le_refl _, Him.out, Hbl.out⟩
end Go.Proofs.Lx
