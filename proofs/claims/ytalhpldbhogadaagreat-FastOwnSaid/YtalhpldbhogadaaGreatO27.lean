/- Parts of the proof: Fw, Fk. lay's drawn regions that store, each in whatever order. Printed by gen_sto.py. No condition. -/
import Derived.Test.YtalhpldbhogadaaGreatO20
import Derived.Test.YtalhpldbhogadaaGreatO8
import Derived.Deep.DeepCutAuto
import Derived.Deep.RegionHeld3
import Derived.Test.YtalhpldbhogadaaGreatO21
namespace Go.Proofs.Lx
open Go Go.RowKit Go.Proofs.Tj
set_option linter.unusedSimpArgs false
set_option linter.unusedVariables false
noncomputable def laySeg38 : Code := fstC (sndC (sndC (sndC (sndC layRest3))))
noncomputable def layB11 : Code := blkC (fstC (sndC (sndC (loopC (blkC (sndC laySeg38))))))
noncomputable def layB13 : Code := blkC (fstC (sndC (sndC (loopC (blkC (sndC (sndC layB11)))))))
noncomputable def layR46C : Code := sndC (sndC layB13)
set_option maxRecDepth 1000000 in
set_option maxHeartbeats 60000000 in
theorem layR46 (wx W0 : World) (G : Gh) (S : Stc) (T : Th) (D : Dyn) (vT : Value) (h : EngV wx W0 G S T D vT) (q f : Nat) (hq : q < S.n) (hf : f < S.n) (hx : D.marks f < 16) (Q' : Exit → Act → World → Prop)
  (u0 u1 u2 u3 u4 u5 u6 u8 u9 u10 u11 u12 u13 u14 u15 u16 u17 u19 u21 u22 u23 u24 u25 u26 u27 u28 u29 u30 u31 u32 u33 u34 u35 u36 u37 u38 u39 u40 u41 u42 u43 u44 u45 u46 u47 u48 u49 u50 u51 u52 u53 u54 u55 u56 u57 u58 u59 u60 u61 u62 u63 u64 u65 u66 u67 u68 u69 u70 u71 u72 u73 u74 u75 u76 u77 u78 u79 u80 u81 u82 u83 u84 u85 u86 u87 u88 u89 u90 u91 u92 u93 u94 u95 u96 u97 u98 u99 u100 u101 u102 u103 u104 u105 u106 u107 u108 u109 u110 u111 u112 u113 u114 u115 u116 u117 u118 u119 u120 u121 u122 u123 u124 u125 u126 u127 u128 u129 u130 u131 u132 u133 u134 u135 u136 u137 u138 u139 u140 u141 u142 u143 u144 u145 u146 u147 u148 u149 u150 u151 u152 u153 u154 u155 u156 u157 u158 u159 u160 u161 u162 u163 u164 u165 u166 u167 u168 u169 u170 u171 u172 u173 u174 u175 u176 u177 u178 u179 u180 u181 u182 u183 u184 u185 u186 u187 u188 u189 u190 u191 u192 u193 u194 u195 u196 u197 u198 u199 u200 u201 u202 u203 u204 u205 u206 u207 u208 u209 u210 u211 u212 u213 u214 u215 u216 u217 u218 u219 u220 u221 u222 u223 u224 u225 u226 u227 u228 u229 u230 u231 u232 u233 u234 u235 u236 u237 u238 u239 u240 u241 u242 u243 u244 u245 u246 u247 u248 u249 u250 u251 u252 u253 u254 u255 u256 u257 u258 u259 u260 u261 u262 u263 u264 u265 u266 u267 u268 u269 u270 u271 u272 u273 u274 u275 u276 u277 u278 u279 u280 u281 u282 u283 u284 u285 u286 u287 u288 u289 u290 u291 u292 u293 u294 u295 u296 u297 u298 u299 u300 u301 u302 u303 u304 u305 u306 u307 u308 u309 u310 u311 u312 u313 u314 u315 u316 u317 u318 u319 u320 u321 u322 u323 u324 u325 u326 u327 u328 u329 u330 u331 u332 u333 u334 u335 u336 u337 u338 u339 u340 u341 u342 u343 u344 u345 u346 u347 u348 u349 u350 u351 u352 u353 u354 u355 u356 u357 u358 u359 u360 u361 u362 u363 u364 u365 u366 u367 u368 : Value)
  (hK : ∀ (x231 x232 x233 x234 x235 x236 x237 x238 x239 x240 x241 x242 x243 x244 x245 x246 x247 x248 : Value) (wy : World), EngV wy W0 G S T { D with clash := Tj.upd D.clash q (D.clash q || hasT D f 1) } vT → Q' .normal ⟨#[u0, u1, u2, u3, u4, u5, u6, .pointer (some ⟨G.b, 0, none⟩), u8, u9, u10, u11, u12, u13, u14, u15, u16, u17, .int .i64 (q : Int), u19, .int .i64 (f : Int), u21, u22, u23, u24, u25, u26, u27, u28, u29, u30, u31, u32, u33, u34, u35, u36, u37, u38, u39, u40, u41, u42, u43, u44, u45, u46, u47, u48, u49, u50, u51, u52, u53, u54, u55, u56, u57, u58, u59, u60, u61, u62, u63, u64, u65, u66, u67, u68, u69, u70, u71, u72, u73, u74, u75, u76, u77, u78, u79, u80, u81, u82, u83, u84, u85, u86, u87, u88, u89, u90, u91, u92, u93, u94, u95, u96, u97, u98, u99, u100, u101, u102, u103, u104, u105, u106, u107, u108, u109, u110, u111, u112, u113, u114, u115, u116, u117, u118, u119, u120, u121, u122, u123, u124, u125, u126, u127, u128, u129, u130, u131, u132, u133, u134, u135, u136, u137, u138, u139, u140, u141, u142, u143, u144, u145, u146, u147, u148, u149, u150, u151, u152, u153, u154, u155, u156, u157, u158, u159, u160, u161, u162, u163, u164, u165, u166, u167, u168, u169, u170, u171, u172, u173, u174, u175, u176, u177, u178, u179, u180, u181, u182, u183, u184, u185, u186, u187, u188, u189, u190, u191, u192, u193, u194, u195, u196, u197, u198, u199, u200, u201, u202, u203, u204, u205, u206, u207, u208, u209, u210, u211, u212, u213, u214, u215, u216, u217, u218, u219, u220, u221, u222, u223, u224, u225, u226, u227, u228, u229, u230, x231, x232, x233, x234, x235, x236, x237, x238, x239, x240, x241, x242, x243, x244, x245, x246, x247, x248, u249, u250, u251, u252, u253, u254, u255, u256, u257, u258, u259, u260, u261, u262, u263, u264, u265, u266, u267, u268, u269, u270, u271, u272, u273, u274, u275, u276, u277, u278, u279, u280, u281, u282, u283, u284, u285, u286, u287, u288, u289, u290, u291, u292, u293, u294, u295, u296, u297, u298, u299, u300, u301, u302, u303, u304, u305, u306, u307, u308, u309, u310, u311, u312, u313, u314, u315, u316, u317, u318, u319, u320, u321, u322, u323, u324, u325, u326, u327, u328, u329, u330, u331, u332, u333, u334, u335, u336, u337, u338, u339, u340, u341, u342, u343, u344, u345, u346, u347, u348, u349, u350, u351, u352, u353, u354, u355, u356, u357, u358, u359, u360, u361, u362, u363, u364, u365, u366, u367, u368], []⟩ wy) :
  Code.wp Tryz.prog layR46C Q' ⟨#[u0, u1, u2, u3, u4, u5, u6, .pointer (some ⟨G.b, 0, none⟩), u8, u9, u10, u11, u12, u13, u14, u15, u16, u17, .int .i64 (q : Int), u19, .int .i64 (f : Int), u21, u22, u23, u24, u25, u26, u27, u28, u29, u30, u31, u32, u33, u34, u35, u36, u37, u38, u39, u40, u41, u42, u43, u44, u45, u46, u47, u48, u49, u50, u51, u52, u53, u54, u55, u56, u57, u58, u59, u60, u61, u62, u63, u64, u65, u66, u67, u68, u69, u70, u71, u72, u73, u74, u75, u76, u77, u78, u79, u80, u81, u82, u83, u84, u85, u86, u87, u88, u89, u90, u91, u92, u93, u94, u95, u96, u97, u98, u99, u100, u101, u102, u103, u104, u105, u106, u107, u108, u109, u110, u111, u112, u113, u114, u115, u116, u117, u118, u119, u120, u121, u122, u123, u124, u125, u126, u127, u128, u129, u130, u131, u132, u133, u134, u135, u136, u137, u138, u139, u140, u141, u142, u143, u144, u145, u146, u147, u148, u149, u150, u151, u152, u153, u154, u155, u156, u157, u158, u159, u160, u161, u162, u163, u164, u165, u166, u167, u168, u169, u170, u171, u172, u173, u174, u175, u176, u177, u178, u179, u180, u181, u182, u183, u184, u185, u186, u187, u188, u189, u190, u191, u192, u193, u194, u195, u196, u197, u198, u199, u200, u201, u202, u203, u204, u205, u206, u207, u208, u209, u210, u211, u212, u213, u214, u215, u216, u217, u218, u219, u220, u221, u222, u223, u224, u225, u226, u227, u228, u229, u230, u231, u232, u233, u234, u235, u236, u237, u238, u239, u240, u241, u242, u243, u244, u245, u246, u247, u248, u249, u250, u251, u252, u253, u254, u255, u256, u257, u258, u259, u260, u261, u262, u263, u264, u265, u266, u267, u268, u269, u270, u271, u272, u273, u274, u275, u276, u277, u278, u279, u280, u281, u282, u283, u284, u285, u286, u287, u288, u289, u290, u291, u292, u293, u294, u295, u296, u297, u298, u299, u300, u301, u302, u303, u304, u305, u306, u307, u308, u309, u310, u311, u312, u313, u314, u315, u316, u317, u318, u319, u320, u321, u322, u323, u324, u325, u326, u327, u328, u329, u330, u331, u332, u333, u334, u335, u336, u337, u338, u339, u340, u341, u342, u343, u344, u345, u346, u347, u348, u349, u350, u351, u352, u353, u354, u355, u356, u357, u358, u359, u360, u361, u362, u363, u364, u365, u366, u367, u368], []⟩ wx := by
 have HK := hid hK
 clear hK
 conv => arg 2; whnf
 have hn4 := h.st.n4
 have hm4 := h.st.m4
 have hbs := h.sp.old.size
 have c10 := h.rClash hq
 have f10 := h.fClash q
 have hne := h.bClash
 have hi0 : (0 : Int) ≤ (q : Int) := by omega
 have hi1 : (q : Int) < (S.n : Int) := by omega
 have Hhas := hid (ehas_any wx.drew W0 G S T D ⟨vT, h.drew⟩ f 1 hf (by omega) (by omega) hx)
 have Hst0 : Hid (∀ (w' : World) (u : Value), (fun w' : World => w'.cell? ⟨G.b, 18, none⟩ = some (sl (G.g .clash) S.n)) w' → (fun w' : World => w'.cell? ⟨G.b, 18, none⟩ = some (sl (G.g .clash) S.n)) (w'.setCell ⟨G.g .clash, q, none⟩ u)) := hid fun w' u hs => by show _ = _; rw [World.cell?_setCell_far _ _ _ _ hne]; exact hs
 have H := hid h
 have hS0 : (fun w' : World => w'.cell? ⟨G.b, 18, none⟩ = some (sl (G.g .clash) S.n)) wx.drew := h.hClash
 have HS0 := hid hS0
 clear h hS0
 cases Hcl : D.clash q with
 | true =>
  rw [Hcl] at c10
  refine wp_region_noPanic ?_
  refine wp_region_held_drew (S := (fun w' : World => w'.cell? ⟨G.b, 18, none⟩ = some (sl (G.g .clash) S.n))) (by kernel_rfl) ?_ (fun hHeld => ?_)
  ·exact HS0.out
  refine wpAnyH_take (i := 0) (v := ?v1) rfl (by kernel_rfl) (by kernel_rfl) (by kernel_rfl) (fun _ _ _ h => h) (Or.inl ⟨by rfl, ?hy1⟩) (by assumption) ?rest1
  case hy1 => (intro w hSw; (try dsimp only at hSw); go_simp) <;> try with_reducible rfl
  simp only [Act.put, List.setIfInBounds_toArray, List.set_cons_zero, List.set_cons_succ]
  refine wpAnyH_take (i := 1) (v := ?v2) rfl (by kernel_rfl) (by kernel_rfl) (by kernel_rfl) (fun _ _ _ h => h) (Or.inl ⟨by rfl, ?hy2⟩) (by assumption) ?rest2
  case hy2 => (intro w hSw; (try dsimp only at hSw); go_simp) <;> try with_reducible rfl
  simp only [Act.put, List.setIfInBounds_toArray, List.set_cons_zero, List.set_cons_succ]
  refine wpAnyH_take (i := 2) (v := ?v3) rfl (by kernel_rfl) (by kernel_rfl) (by kernel_rfl) (fun _ _ _ h => h) (Or.inl ⟨by rfl, ?hy3⟩) (by assumption) ?rest3
  case hy3 => (intro w hSw; (try dsimp only at hSw); go_simp) <;> try with_reducible rfl
  simp only [Act.put, List.setIfInBounds_toArray, List.set_cons_zero, List.set_cons_succ]
  refine wpAnyH_take (i := 3) (v := ?v4) rfl (by kernel_rfl) (by kernel_rfl) (by kernel_rfl) (fun _ _ _ h => h) (Or.inl ⟨by rfl, ?hy4⟩) (by assumption) ?rest4
  case hy4 => (intro w hSw; (try dsimp only at hSw); go_simp) <;> try with_reducible rfl
  simp only [Act.put, List.setIfInBounds_toArray, List.set_cons_zero, List.set_cons_succ]
  refine wpAnyH_take (i := 4) (v := ?v5) rfl (by kernel_rfl) (by kernel_rfl) (by kernel_rfl) (fun _ _ _ h => h) (Or.inl ⟨by rfl, ?hy5⟩) (by assumption) ?rest5
  case hy5 => (intro w hSw; (try dsimp only at hSw); go_simp) <;> try with_reducible rfl
  simp only [Act.put, List.setIfInBounds_toArray, List.set_cons_zero, List.set_cons_succ]
  refine wpAnyH_take (i := 5) (v := ?v6) rfl (by kernel_rfl) (by kernel_rfl) (by kernel_rfl) (fun _ _ _ h => h) (Or.inl ⟨by rfl, ?hy6⟩) (by assumption) ?rest6
  case hy6 => (intro w hSw; (try dsimp only at hSw); go_simp) <;> try with_reducible rfl
  simp only [Act.put, List.setIfInBounds_toArray, List.set_cons_zero, List.set_cons_succ]
  refine wpAnyH_take (i := 6) (v := ?v7) rfl (by kernel_rfl) (by kernel_rfl) (by kernel_rfl) (fun _ _ _ h => h) (Or.inl ⟨by rfl, ?hy7⟩) (by assumption) ?rest7
  case hy7 => (intro w hSw; (try dsimp only at hSw); go_simp) <;> try with_reducible rfl
  simp only [Act.put, List.setIfInBounds_toArray, List.set_cons_zero, List.set_cons_succ]
  refine wpAnyH_take (i := 7) (v := ?v8) rfl (by kernel_rfl) (by kernel_rfl) (by kernel_rfl) (fun _ _ _ h => h) (Or.inl ⟨by rfl, ?hy8⟩) (by assumption) ?rest8
  case hy8 => (intro w hSw; (try dsimp only at hSw); go_simp) <;> try with_reducible rfl
  simp only [Act.put, List.setIfInBounds_toArray, List.set_cons_zero, List.set_cons_succ]
  refine wpAnyH_take (i := 8) (v := ?v9) rfl (by kernel_rfl) (by kernel_rfl) (by kernel_rfl) (fun _ _ _ h => h) (Or.inl ⟨by rfl, ?hy9⟩) (by assumption) ?rest9
  case hy9 => (intro w hSw; (try dsimp only at hSw); go_simp) <;> try with_reducible rfl
  simp only [Act.put, List.setIfInBounds_toArray, List.set_cons_zero, List.set_cons_succ]
  refine wpAnyH_take (i := 9) (v := ?v10) rfl (by kernel_rfl) (by kernel_rfl) (by kernel_rfl) (fun _ _ _ h => h) (Or.inl ⟨by rfl, ?hy10⟩) (by assumption) ?rest10
  case hy10 => (intro w hSw; (try dsimp only at hSw); go_simp) <;> try with_reducible rfl
  simp only [Act.put, List.setIfInBounds_toArray, List.set_cons_zero, List.set_cons_succ]
  refine wpAnyH_take (i := 10) (v := ?v11) rfl (by kernel_rfl) (by kernel_rfl) (by kernel_rfl) (fun _ _ _ h => h) (Or.inl ⟨by rfl, ?hy11⟩) (by assumption) ?rest11
  case hy11 => (intro w hSw; (try dsimp only at hSw); go_simp) <;> try with_reducible rfl
  simp only [Act.put, List.setIfInBounds_toArray, List.set_cons_zero, List.set_cons_succ]
  refine wpAnyH_ready (rs := [11]) (by kernel_rfl) (by simp) ?_
  refine AllReadyH.cons rfl (fun K9 hK9 => ?_) AllReadyH.nil
  go_simp
  refine hK9.out _ _ ?_ (fun hHeld => ?_)
  ·exact HS0.out
  clear hK9 K9
  try simp only [Act.put, List.setIfInBounds_toArray, List.set_cons_zero, List.set_cons_succ]
  refine wpAnyH_ready (rs := [12]) (by kernel_rfl) (by simp) ?_
  refine AllReadyH.cons rfl (fun K9 hK9 => ?_) AllReadyH.nil
  go_simp
  refine hK9.out _ _ ?_ (fun hHeld => ?_)
  ·exact HS0.out
  clear hK9 K9
  try simp only [Act.put, List.setIfInBounds_toArray, List.set_cons_zero, List.set_cons_succ]
  refine wpAnyH_ready (rs := [13, 14]) (by kernel_rfl) (by simp) ?_
  refine AllReadyH.cons rfl (fun K9 hK9 => ?_) (AllReadyH.cons rfl (fun K9 hK9 => ?_) AllReadyH.nil)
  ·skip
   go_simp
   refine hK9.out _ _ ?_ (fun hHeld => ?_)
   ·exact HS0.out
   clear hK9 K9
   try simp only [Act.put, List.setIfInBounds_toArray, List.set_cons_zero, List.set_cons_succ]
   refine wpAnyH_ready (rs := [14]) (by kernel_rfl) (by simp) ?_
   refine AllReadyH.cons rfl (fun K9 hK9 => ?_) AllReadyH.nil
   go_simp
   refine hK9.out _ _ ?_ (fun hHeld => ?_)
   ·exact HS0.out
   clear hK9 K9
   try simp only [Act.put, List.setIfInBounds_toArray, List.set_cons_zero, List.set_cons_succ]
   refine wpAnyH_ready (rs := [15]) (by kernel_rfl) (by simp) ?_
   refine AllReadyH.cons rfl (fun K9 hK9 => ?_) AllReadyH.nil
   go_simp
   refine hK9.out _ _ ?_ (fun hHeld => ?_)
   ·exact HS0.out
   clear hK9 K9
   try simp only [Act.put, List.setIfInBounds_toArray, List.set_cons_zero, List.set_cons_succ]
   refine wpAnyH_ready (rs := [16]) (by kernel_rfl) (by simp) ?_
   refine AllReadyH.cons rfl (fun K9 hK9 => ?_) AllReadyH.nil
   go_simp
   refine hK9.out _ _ ?_ (fun hHeld => ?_)
   ·exact HS0.out
   clear hK9 K9
   try simp only [Act.put, List.setIfInBounds_toArray, List.set_cons_zero, List.set_cons_succ]
   refine wpAnyH_ready (rs := [17]) (by kernel_rfl) (by simp) ?_
   refine AllReadyH.cons rfl (fun K9 hK9 => ?_) AllReadyH.nil
   go_simp
   refine hK9.out _ _ ?_ (fun hHeld => ?_)
   ·exact HS0.out
   clear hK9 K9
   try simp only [Act.put, List.setIfInBounds_toArray, List.set_cons_zero, List.set_cons_succ]
   refine wpAnyH_ready (rs := [18]) (by kernel_rfl) (by simp) ?_
   refine AllReadyH.cons rfl (fun K9 hK9 => ?_) AllReadyH.nil
   go_simp
   refine hK9.out _ _ ?_ (fun hHeld => ?_)
   ·exact Hst0.out _ _ HS0.out
   clear hK9 K9
   try simp only [Act.put, List.setIfInBounds_toArray, List.set_cons_zero, List.set_cons_succ]
   refine wpAnyH_done (by kernel_rfl) (NoPanic.normal ?_) _
   exact HK.out _ _ _ _ _ _ _ _ _ _ _ _ _ _ _ _ _ _ _ ((H.out.wClash q true).drew.congr (by rw [Hcl]; rfl))
  ·skip
   go_simp
   refine hK9.out _ _ ?_ (fun hHeld => ?_)
   ·exact HS0.out
   clear hK9 K9
   try simp only [Act.put, List.setIfInBounds_toArray, List.set_cons_zero, List.set_cons_succ]
   refine wpAnyH_ready (rs := [13]) (by kernel_rfl) (by simp) ?_
   refine AllReadyH.cons rfl (fun K9 hK9 => ?_) AllReadyH.nil
   go_simp
   refine hK9.out _ _ ?_ (fun hHeld => ?_)
   ·exact HS0.out
   clear hK9 K9
   try simp only [Act.put, List.setIfInBounds_toArray, List.set_cons_zero, List.set_cons_succ]
   refine wpAnyH_ready (rs := [15]) (by kernel_rfl) (by simp) ?_
   refine AllReadyH.cons rfl (fun K9 hK9 => ?_) AllReadyH.nil
   go_simp
   refine hK9.out _ _ ?_ (fun hHeld => ?_)
   ·exact HS0.out
   clear hK9 K9
   try simp only [Act.put, List.setIfInBounds_toArray, List.set_cons_zero, List.set_cons_succ]
   refine wpAnyH_ready (rs := [16]) (by kernel_rfl) (by simp) ?_
   refine AllReadyH.cons rfl (fun K9 hK9 => ?_) AllReadyH.nil
   go_simp
   refine hK9.out _ _ ?_ (fun hHeld => ?_)
   ·exact HS0.out
   clear hK9 K9
   try simp only [Act.put, List.setIfInBounds_toArray, List.set_cons_zero, List.set_cons_succ]
   refine wpAnyH_ready (rs := [17]) (by kernel_rfl) (by simp) ?_
   refine AllReadyH.cons rfl (fun K9 hK9 => ?_) AllReadyH.nil
   go_simp
   refine hK9.out _ _ ?_ (fun hHeld => ?_)
   ·exact HS0.out
   clear hK9 K9
   try simp only [Act.put, List.setIfInBounds_toArray, List.set_cons_zero, List.set_cons_succ]
   refine wpAnyH_ready (rs := [18]) (by kernel_rfl) (by simp) ?_
   refine AllReadyH.cons rfl (fun K9 hK9 => ?_) AllReadyH.nil
   go_simp
   refine hK9.out _ _ ?_ (fun hHeld => ?_)
   ·exact Hst0.out _ _ HS0.out
   clear hK9 K9
   try simp only [Act.put, List.setIfInBounds_toArray, List.set_cons_zero, List.set_cons_succ]
   refine wpAnyH_done (by kernel_rfl) (NoPanic.normal ?_) _
   exact HK.out _ _ _ _ _ _ _ _ _ _ _ _ _ _ _ _ _ _ _ ((H.out.wClash q true).drew.congr (by rw [Hcl]; rfl))
 | false =>
  rw [Hcl] at c10
  refine wp_region_noPanic ?_
  refine wp_region_held_drew (S := (fun w' : World => w'.cell? ⟨G.b, 18, none⟩ = some (sl (G.g .clash) S.n))) (by kernel_rfl) ?_ (fun hHeld => ?_)
  ·exact HS0.out
  refine wpAnyH_take (i := 0) (v := ?v51) rfl (by kernel_rfl) (by kernel_rfl) (by kernel_rfl) (fun _ _ _ h => h) (Or.inl ⟨by rfl, ?hy51⟩) (by assumption) ?rest51
  case hy51 => (intro w hSw; (try dsimp only at hSw); go_simp) <;> try with_reducible rfl
  simp only [Act.put, List.setIfInBounds_toArray, List.set_cons_zero, List.set_cons_succ]
  refine wpAnyH_take (i := 1) (v := ?v52) rfl (by kernel_rfl) (by kernel_rfl) (by kernel_rfl) (fun _ _ _ h => h) (Or.inl ⟨by rfl, ?hy52⟩) (by assumption) ?rest52
  case hy52 => (intro w hSw; (try dsimp only at hSw); go_simp) <;> try with_reducible rfl
  simp only [Act.put, List.setIfInBounds_toArray, List.set_cons_zero, List.set_cons_succ]
  refine wpAnyH_take (i := 2) (v := ?v53) rfl (by kernel_rfl) (by kernel_rfl) (by kernel_rfl) (fun _ _ _ h => h) (Or.inl ⟨by rfl, ?hy53⟩) (by assumption) ?rest53
  case hy53 => (intro w hSw; (try dsimp only at hSw); go_simp) <;> try with_reducible rfl
  simp only [Act.put, List.setIfInBounds_toArray, List.set_cons_zero, List.set_cons_succ]
  refine wpAnyH_take (i := 3) (v := ?v54) rfl (by kernel_rfl) (by kernel_rfl) (by kernel_rfl) (fun _ _ _ h => h) (Or.inl ⟨by rfl, ?hy54⟩) (by assumption) ?rest54
  case hy54 => (intro w hSw; (try dsimp only at hSw); go_simp) <;> try with_reducible rfl
  simp only [Act.put, List.setIfInBounds_toArray, List.set_cons_zero, List.set_cons_succ]
  refine wpAnyH_take (i := 4) (v := ?v55) rfl (by kernel_rfl) (by kernel_rfl) (by kernel_rfl) (fun _ _ _ h => h) (Or.inl ⟨by rfl, ?hy55⟩) (by assumption) ?rest55
  case hy55 => (intro w hSw; (try dsimp only at hSw); go_simp) <;> try with_reducible rfl
  simp only [Act.put, List.setIfInBounds_toArray, List.set_cons_zero, List.set_cons_succ]
  refine wpAnyH_take (i := 5) (v := ?v56) rfl (by kernel_rfl) (by kernel_rfl) (by kernel_rfl) (fun _ _ _ h => h) (Or.inl ⟨by rfl, ?hy56⟩) (by assumption) ?rest56
  case hy56 => (intro w hSw; (try dsimp only at hSw); go_simp) <;> try with_reducible rfl
  simp only [Act.put, List.setIfInBounds_toArray, List.set_cons_zero, List.set_cons_succ]
  refine wpAnyH_take (i := 6) (v := ?v57) rfl (by kernel_rfl) (by kernel_rfl) (by kernel_rfl) (fun _ _ _ h => h) (Or.inl ⟨by rfl, ?hy57⟩) (by assumption) ?rest57
  case hy57 => (intro w hSw; (try dsimp only at hSw); go_simp) <;> try with_reducible rfl
  simp only [Act.put, List.setIfInBounds_toArray, List.set_cons_zero, List.set_cons_succ]
  refine wpAnyH_take (i := 7) (v := ?v58) rfl (by kernel_rfl) (by kernel_rfl) (by kernel_rfl) (fun _ _ _ h => h) (Or.inl ⟨by rfl, ?hy58⟩) (by assumption) ?rest58
  case hy58 => (intro w hSw; (try dsimp only at hSw); go_simp) <;> try with_reducible rfl
  simp only [Act.put, List.setIfInBounds_toArray, List.set_cons_zero, List.set_cons_succ]
  refine wpAnyH_take (i := 8) (v := ?v59) rfl (by kernel_rfl) (by kernel_rfl) (by kernel_rfl) (fun _ _ _ h => h) (Or.inl ⟨by rfl, ?hy59⟩) (by assumption) ?rest59
  case hy59 => (intro w hSw; (try dsimp only at hSw); go_simp) <;> try with_reducible rfl
  simp only [Act.put, List.setIfInBounds_toArray, List.set_cons_zero, List.set_cons_succ]
  refine wpAnyH_take (i := 9) (v := ?v60) rfl (by kernel_rfl) (by kernel_rfl) (by kernel_rfl) (fun _ _ _ h => h) (Or.inl ⟨by rfl, ?hy60⟩) (by assumption) ?rest60
  case hy60 => (intro w hSw; (try dsimp only at hSw); go_simp) <;> try with_reducible rfl
  simp only [Act.put, List.setIfInBounds_toArray, List.set_cons_zero, List.set_cons_succ]
  refine wpAnyH_take (i := 10) (v := ?v61) rfl (by kernel_rfl) (by kernel_rfl) (by kernel_rfl) (fun _ _ _ h => h) (Or.inl ⟨by rfl, ?hy61⟩) (by assumption) ?rest61
  case hy61 => (intro w hSw; (try dsimp only at hSw); go_simp) <;> try with_reducible rfl
  simp only [Act.put, List.setIfInBounds_toArray, List.set_cons_zero, List.set_cons_succ]
  refine wpAnyH_ready (rs := [11]) (by kernel_rfl) (by simp) ?_
  refine AllReadyH.cons rfl (fun K9 hK9 => ?_) AllReadyH.nil
  go_simp
  refine hK9.out _ _ ?_ (fun hHeld => ?_)
  ·exact HS0.out
  clear hK9 K9
  try simp only [Act.put, List.setIfInBounds_toArray, List.set_cons_zero, List.set_cons_succ]
  refine wpAnyH_ready (rs := [12]) (by kernel_rfl) (by simp) ?_
  refine AllReadyH.cons rfl (fun K9 hK9 => ?_) AllReadyH.nil
  go_simp
  refine hK9.out _ _ ?_ (fun hHeld => ?_)
  ·exact HS0.out
  clear hK9 K9
  try simp only [Act.put, List.setIfInBounds_toArray, List.set_cons_zero, List.set_cons_succ]
  refine wpAnyH_ready (rs := [13, 14]) (by kernel_rfl) (by simp) ?_
  refine AllReadyH.cons rfl (fun K9 hK9 => ?_) (AllReadyH.cons rfl (fun K9 hK9 => ?_) AllReadyH.nil)
  ·skip
   go_simp
   refine hK9.out _ _ ?_ (fun hHeld => ?_)
   ·exact HS0.out
   clear hK9 K9
   try simp only [Act.put, List.setIfInBounds_toArray, List.set_cons_zero, List.set_cons_succ]
   refine wpAnyH_ready (rs := [14]) (by kernel_rfl) (by simp) ?_
   refine AllReadyH.cons rfl (fun K9 hK9 => ?_) AllReadyH.nil
   go_simp
   refine hK9.out _ _ ?_ (fun hHeld => ?_)
   ·exact HS0.out
   clear hK9 K9
   try simp only [Act.put, List.setIfInBounds_toArray, List.set_cons_zero, List.set_cons_succ]
   refine wpAnyH_ready (rs := [15]) (by kernel_rfl) (by simp) ?_
   refine AllReadyH.cons rfl (fun K9 hK9 => ?_) AllReadyH.nil
   go_simp
   refine Hhas.out.mono ?_
   rintro e w2 ⟨_, rfl, rfl, rfl⟩
   refine hK9.out _ _ ?_ (fun hHeld => ?_)
   ·exact HS0.out
   clear hK9 K9
   try simp only [Act.put, List.setIfInBounds_toArray, List.set_cons_zero, List.set_cons_succ]
   refine wpAnyH_ready (rs := [16]) (by kernel_rfl) (by simp) ?_
   refine AllReadyH.cons rfl (fun K9 hK9 => ?_) AllReadyH.nil
   go_simp
   refine hK9.out _ _ ?_ (fun hHeld => ?_)
   ·exact HS0.out
   clear hK9 K9
   try simp only [Act.put, List.setIfInBounds_toArray, List.set_cons_zero, List.set_cons_succ]
   refine wpAnyH_ready (rs := [17]) (by kernel_rfl) (by simp) ?_
   refine AllReadyH.cons rfl (fun K9 hK9 => ?_) AllReadyH.nil
   go_simp
   refine hK9.out _ _ ?_ (fun hHeld => ?_)
   ·exact HS0.out
   clear hK9 K9
   try simp only [Act.put, List.setIfInBounds_toArray, List.set_cons_zero, List.set_cons_succ]
   refine wpAnyH_ready (rs := [18]) (by kernel_rfl) (by simp) ?_
   refine AllReadyH.cons rfl (fun K9 hK9 => ?_) AllReadyH.nil
   go_simp
   refine hK9.out _ _ ?_ (fun hHeld => ?_)
   ·exact Hst0.out _ _ HS0.out
   clear hK9 K9
   try simp only [Act.put, List.setIfInBounds_toArray, List.set_cons_zero, List.set_cons_succ]
   refine wpAnyH_done (by kernel_rfl) (NoPanic.normal ?_) _
   exact HK.out _ _ _ _ _ _ _ _ _ _ _ _ _ _ _ _ _ _ _ ((H.out.wClash q (hasT D f 1)).drew.congr (by rw [Hcl]; rfl))
  ·skip
   go_simp
   refine hK9.out _ _ ?_ (fun hHeld => ?_)
   ·exact HS0.out
   clear hK9 K9
   try simp only [Act.put, List.setIfInBounds_toArray, List.set_cons_zero, List.set_cons_succ]
   refine wpAnyH_ready (rs := [13]) (by kernel_rfl) (by simp) ?_
   refine AllReadyH.cons rfl (fun K9 hK9 => ?_) AllReadyH.nil
   go_simp
   refine hK9.out _ _ ?_ (fun hHeld => ?_)
   ·exact HS0.out
   clear hK9 K9
   try simp only [Act.put, List.setIfInBounds_toArray, List.set_cons_zero, List.set_cons_succ]
   refine wpAnyH_ready (rs := [15]) (by kernel_rfl) (by simp) ?_
   refine AllReadyH.cons rfl (fun K9 hK9 => ?_) AllReadyH.nil
   go_simp
   refine Hhas.out.mono ?_
   rintro e w2 ⟨_, rfl, rfl, rfl⟩
   refine hK9.out _ _ ?_ (fun hHeld => ?_)
   ·exact HS0.out
   clear hK9 K9
   try simp only [Act.put, List.setIfInBounds_toArray, List.set_cons_zero, List.set_cons_succ]
   refine wpAnyH_ready (rs := [16]) (by kernel_rfl) (by simp) ?_
   refine AllReadyH.cons rfl (fun K9 hK9 => ?_) AllReadyH.nil
   go_simp
   refine hK9.out _ _ ?_ (fun hHeld => ?_)
   ·exact HS0.out
   clear hK9 K9
   try simp only [Act.put, List.setIfInBounds_toArray, List.set_cons_zero, List.set_cons_succ]
   refine wpAnyH_ready (rs := [17]) (by kernel_rfl) (by simp) ?_
   refine AllReadyH.cons rfl (fun K9 hK9 => ?_) AllReadyH.nil
   go_simp
   refine hK9.out _ _ ?_ (fun hHeld => ?_)
   ·exact HS0.out
   clear hK9 K9
   try simp only [Act.put, List.setIfInBounds_toArray, List.set_cons_zero, List.set_cons_succ]
   refine wpAnyH_ready (rs := [18]) (by kernel_rfl) (by simp) ?_
   refine AllReadyH.cons rfl (fun K9 hK9 => ?_) AllReadyH.nil
   go_simp
   refine hK9.out _ _ ?_ (fun hHeld => ?_)
   ·exact Hst0.out _ _ HS0.out
   clear hK9 K9
   try simp only [Act.put, List.setIfInBounds_toArray, List.set_cons_zero, List.set_cons_succ]
   refine wpAnyH_done (by kernel_rfl) (NoPanic.normal ?_) _
   exact HK.out _ _ _ _ _ _ _ _ _ _ _ _ _ _ _ _ _ _ _ ((H.out.wClash q (hasT D f 1)).drew.congr (by rw [Hcl]; rfl))
end Go.Proofs.Lx

namespace Go.Proofs.Lx
open Go Go.RowKit Go.Proofs.Tj
set_option linter.unusedVariables false
set_option linter.unusedSimpArgs false

def incOpn (D : Dyn) (q : Nat) : Dyn := { D with opn := Tj.upd D.opn q (addW (D.opn q) 1) }
def orClash (D : Dyn) (q f : Nat) : Dyn := { D with clash := Tj.upd D.clash q (D.clash q || hasT D f 1) }
def foeD (q : Nat) (D : Dyn) (f : Nat) : Dyn := orClash (if hasT D f 2 = true then D else incOpn D q) q f
def foesD (S : Stc) (D : Dyn) (q : Nat) : Dyn := (S.foes q).foldl (foeD q) D
theorem steps_foeD {n : Nat} (q : Nat) (D : Dyn) (f : Nat) : Steps n D (foeD q D f) := by
 unfold foeD
 split
 ·exact Steps.oth rfl rfl
 ·exact Steps.oth rfl rfl
theorem steps_foesD {n : Nat} (S : Stc) (D : Dyn) (q : Nat) : Steps n D (foesD S D q) := steps_foldl _ D fun f _ D => steps_foeD q D f
theorem range_foldl_succ'' {α : Type} (f : α → Nat → α) (D : α) (k : Nat) : (List.range (k + 1)).foldl f D = f ((List.range k).foldl f D) k := by rw [List.range_succ, List.foldl_append]; rfl
theorem take_foldl_succ {α β : Type} (f : α → β → α) (D : α) (l : List β) (k : Nat) (h : k < l.length) : (l.take (k + 1)).foldl f D = f ((l.take k).foldl f D) l[k] := by rw [List.take_add_one, List.getElem?_eq_getElem h, List.foldl_append]; rfl
set_option maxRecDepth 1000000 in
set_option maxHeartbeats 60000000 in
theorem lay_s38 (w W0 : World) (b bt : Nat) (g : Key → Nat) (vF vR vl : Value) (T : Th) (S : Stc) (D : Dyn) (h : LayAt w W0 b g .no vF vR S T D) (hti : TI S.n D) (hbox : ∀ W : World, Below W0.heap.size W0 W → W.cell? ⟨bt, 0, none⟩ = some (.int .i64 (T.foes.length : Int)) ∧ W.cell? ⟨bt, 1, none⟩ = some vF ∧ W.cell? ⟨bt, 2, none⟩ = some vR) (f : Nat → Value) (K : Act → World → Prop) (Q' : Exit → Act → World → Prop)
  (hK : ∀ (t : Array Value) (w' : World), LF t vl bt T.foes.length T.rules.length b → LayAt w' W0 b g .no vF vR S T ((List.range T.foes.length).foldl (foesD S) D) → K ⟨t, []⟩ w') :
  Code.wp Tryz.prog laySeg38 (Exit.then K Q') ⟨#[(f 0), vl, .pointer (some ⟨bt, 0, none⟩), (f 3), (f 4), .int .i64 (T.foes.length : Int), .int .i64 (T.rules.length : Int), .pointer (some ⟨b, 0, none⟩), (f 8), (f 9), (f 10), (f 11), (f 12), (f 13), (f 14), (f 15), (f 16), (f 17), (f 18), (f 19), (f 20), (f 21), (f 22), (f 23), (f 24), (f 25), (f 26), (f 27), (f 28), (f 29), (f 30), (f 31), (f 32), (f 33), (f 34), (f 35), (f 36), (f 37), (f 38), (f 39), (f 40), (f 41), (f 42), (f 43), (f 44), (f 45), (f 46), (f 47), (f 48), (f 49), (f 50), (f 51), (f 52), (f 53), (f 54), (f 55), (f 56), (f 57), (f 58), (f 59), (f 60), (f 61), (f 62), (f 63), (f 64), (f 65), (f 66), (f 67), (f 68), (f 69), (f 70), (f 71), (f 72), (f 73), (f 74), (f 75), (f 76), (f 77), (f 78), (f 79), (f 80), (f 81), (f 82), (f 83), (f 84), (f 85), (f 86), (f 87), (f 88), (f 89), (f 90), (f 91), (f 92), (f 93), (f 94), (f 95), (f 96), (f 97), (f 98), (f 99), (f 100), (f 101), (f 102), (f 103), (f 104), (f 105), (f 106), (f 107), (f 108), (f 109), (f 110), (f 111), (f 112), (f 113), (f 114), (f 115), (f 116), (f 117), (f 118), (f 119), (f 120), (f 121), (f 122), (f 123), (f 124), (f 125), (f 126), (f 127), (f 128), (f 129), (f 130), (f 131), (f 132), (f 133), (f 134), (f 135), (f 136), (f 137), (f 138), (f 139), (f 140), (f 141), (f 142), (f 143), (f 144), (f 145), (f 146), (f 147), (f 148), (f 149), (f 150), (f 151), (f 152), (f 153), (f 154), (f 155), (f 156), (f 157), (f 158), (f 159), (f 160), (f 161), (f 162), (f 163), (f 164), (f 165), (f 166), (f 167), (f 168), (f 169), (f 170), (f 171), (f 172), (f 173), (f 174), (f 175), (f 176), (f 177), (f 178), (f 179), (f 180), (f 181), (f 182), (f 183), (f 184), (f 185), (f 186), (f 187), (f 188), (f 189), (f 190), (f 191), (f 192), (f 193), (f 194), (f 195), (f 196), (f 197), (f 198), (f 199), (f 200), (f 201), (f 202), (f 203), (f 204), (f 205), (f 206), (f 207), (f 208), (f 209), (f 210), (f 211), (f 212), (f 213), (f 214), (f 215), (f 216), (f 217), (f 218), (f 219), (f 220), (f 221), (f 222), (f 223), (f 224), (f 225), (f 226), (f 227), (f 228), (f 229), (f 230), (f 231), (f 232), (f 233), (f 234), (f 235), (f 236), (f 237), (f 238), (f 239), (f 240), (f 241), (f 242), (f 243), (f 244), (f 245), (f 246), (f 247), (f 248), (f 249), (f 250), (f 251), (f 252), (f 253), (f 254), (f 255), (f 256), (f 257), (f 258), (f 259), (f 260), (f 261), (f 262), (f 263), (f 264), (f 265), (f 266), (f 267), (f 268), (f 269), (f 270), (f 271), (f 272), (f 273), (f 274), (f 275), (f 276), (f 277), (f 278), (f 279), (f 280), (f 281), (f 282), (f 283), (f 284), (f 285), (f 286), (f 287), (f 288), (f 289), (f 290), (f 291), (f 292), (f 293), (f 294), (f 295), (f 296), (f 297), (f 298), (f 299), (f 300), (f 301), (f 302), (f 303), (f 304), (f 305), (f 306), (f 307), (f 308), (f 309), (f 310), (f 311), (f 312), (f 313), (f 314), (f 315), (f 316), (f 317), (f 318), (f 319), (f 320), (f 321), (f 322), (f 323), (f 324), (f 325), (f 326), (f 327), (f 328), (f 329), (f 330), (f 331), (f 332), (f 333), (f 334), (f 335), (f 336), (f 337), (f 338), (f 339), (f 340), (f 341), (f 342), (f 343), (f 344), (f 345), (f 346), (f 347), (f 348), (f 349), (f 350), (f 351), (f 352), (f 353), (f 354), (f 355), (f 356), (f 357), (f 358), (f 359), (f 360), (f 361), (f 362), (f 363), (f 364), (f 365), (f 366), (f 367), (f 368)], []⟩ w := by
 have HK := hid hK
 have Hti := hid hti
 have Hbox := hid hbox
 have H0 := hid h
 have Hn : Hid (T.foes.length = S.n) := let ⟨_, _, _, _, _, _, _, k⟩ := h; hid k.st.n
 have Hm : Hid (T.rules.length = S.m) := let ⟨_, _, _, _, _, _, _, k⟩ := h; hid k.st.m
 have hn4 : S.n ≤ 4096 := let ⟨_, _, _, _, _, _, _, k⟩ := h; k.st.n4
 have hm4 : S.m ≤ 4096 := let ⟨_, _, _, _, _, _, _, k⟩ := h; k.st.m4
 have Hhdn : Hid (∀ r, r < S.m → S.head r < S.n) := let ⟨_, _, _, _, _, _, _, k⟩ := h; hid k.st.hdn
 have hn4T : T.foes.length ≤ 4096 := by rw [Hn.out]; exact hn4
 have Hfon : Hid (∀ q, q < S.n → ∀ f ∈ S.foes q, f < S.n) := let ⟨_, _, _, _, _, _, _, k⟩ := h; hid k.st.fon
 obtain ⟨AF, cF, rfl⟩ : ∃ A c, vF = .slice A S.n c := by
  obtain ⟨_, _, _, _, _, _, _, h0⟩ := h
  obtain ⟨A, c, e, _⟩ := h0.rF
  exact ⟨A, c, by rw [← Hn.out]; exact e⟩
 clear hK hti hbox h
 conv => arg 2; whnf
 go_wp2
 go_loopw [205] (fun v205 wr => ∃ k : Nat, k ≤ T.foes.length ∧ v205 = .int .i64 k ∧ LayAt wr W0 b g .no (.slice AF S.n cF) vR S T ((List.range k).foldl (foesD S) D)) (fun v205 _ => T.foes.length - (intOf v205).toNat)
 case atStart => exact ⟨0, Nat.zero_le _, rfl, H0.out⟩
 case round =>
  obtain ⟨k, hk, rfl, hla⟩ := hrel
  by_cases hlt : k < T.foes.length
  ·have hkS : k < S.n := by rw [← Hn.out]; exact hlt
   have Hs := hid (range_foldl_succ'' (foesD S) D k)
   have Htik := hid (Hti.out.steps (steps_foldl (List.range k) D fun r hr D => steps_foesD S D r))
   generalize (List.range k).foldl (foesD S) D = Dk at *
   have Hfok := hid (Hfon.out k hkS)
   obtain ⟨_, b1, _⟩ := Hbox.out wr (let ⟨_, _, _, _, _, _, _, k⟩ := hla; k.sp.old)
   have Hla := hid hla
   obtain ⟨vB, vP, vin, vof, vbe, x2, vT, h⟩ := hla
   obtain ⟨ga, B, c1, c2, eF, kk, hfl, kf⟩ := h.foes hkS
   cases eF
   have k0 := kk wr h.sp.old
   have Kf := hid kf
   have Hfd : Hid (foesD S Dk k = (S.foes k).foldl (foeD k) Dk) := hid rfl
   generalize S.foes k = fo at *
   clear h kk kf
   go_wp2
   clear k0 b1
   go_loopw [214] (fun v214 wr => ∃ j : Nat, j ≤ fo.length ∧ v214 = .int .i64 j ∧ LayAt wr W0 b g .no (.slice (some ga) S.n cF) vR S T ((fo.take j).foldl (foeD k) Dk)) (fun v214 _ => fo.length - (intOf v214).toNat)
   case atStart => exact ⟨0, Nat.zero_le _, rfl, Hla.out⟩
   case round =>
    obtain ⟨j, hj, rfl, hla⟩ := hrel
    by_cases hjl : j < fo.length
    ·obtain ⟨vB, vP, vin, vof, vbe, x2, vT, h⟩ := hla
     obtain ⟨ad, rfl, kc⟩ := Kf.out j hjl
     have c := kc wr h.sp.old
     have Hsj := hid (take_foldl_succ (foeD k) Dk fo j hjl)
     have hti2 := Htik.out.steps (steps_foldl (fo.take j) Dk fun r hr D => steps_foeD (n := S.n) k D r)
     generalize (fo.take j).foldl (foeD k) Dk = E at *
     obtain ⟨q, Hq⟩ : ∃ q, Hid (fo[j] = q) := ⟨_, hid rfl⟩
     have hqn : q < S.n := by rw [← Hq.out]; exact Hfok.out _ (List.getElem_mem hjl)
     rw [Hq.out] at c Hsj
     have e17 := h.hOpn
     have c10 := h.rOpn hkS
     have f10 := h.fOpn k
     have hne := h.bOpn
     have hk0 : (0 : Int) ≤ (k : Int) := by omega
     have hk1 : (k : Int) < (S.n : Int) := by omega
     have Hhas := hid (ehas_any _ W0 _ S T _ ⟨_, h⟩ q 2 hqn (by omega) (by omega) (hti2.lt q))
     have H := hid h
     have Hw := hid (h.wOpn k (addW (E.opn k) 1))
     have Hti2 := hid hti2
     clear h hti2 kc
     cases hF : hasT E q 2 with
     | true =>
      have HF : Hid (foeD k E q = orClash E k q) := hid (by unfold foeD; rw [if_pos hF])
      rw [hF] at Hhas
      clear hF
      go_wp2_with (go_at_call 20; refine Hhas.out.mono ?_; rintro e w9 ⟨_, rfl, rfl, rfl⟩)
      refine layR46 wr W0 _ S T _ _ H.out k q hkS hqn (Hti2.out.lt q) _ _ _ _ _ _ _ _ _ _ _ _ _ _ _ _ _ _ _ _ _ _ _ _ _ _ _ _ _ _ _ _ _ _ _ _ _ _ _ _ _ _ _ _ _ _ _ _ _ _ _ _ _ _ _ _ _ _ _ _ _ _ _ _ _ _ _ _ _ _ _ _ _ _ _ _ _ _ _ _ _ _ _ _ _ _ _ _ _ _ _ _ _ _ _ _ _ _ _ _ _ _ _ _ _ _ _ _ _ _ _ _ _ _ _ _ _ _ _ _ _ _ _ _ _ _ _ _ _ _ _ _ _ _ _ _ _ _ _ _ _ _ _ _ _ _ _ _ _ _ _ _ _ _ _ _ _ _ _ _ _ _ _ _ _ _ _ _ _ _ _ _ _ _ _ _ _ _ _ _ _ _ _ _ _ _ _ _ _ _ _ _ _ _ _ _ _ _ _ _ _ _ _ _ _ _ _ _ _ _ _ _ _ _ _ _ _ _ _ _ _ _ _ _ _ _ _ _ _ _ _ _ _ _ _ _ _ _ _ _ _ _ _ _ _ _ _ _ _ _ _ _ _ _ _ _ _ _ _ _ _ _ _ _ _ _ _ _ _ _ _ _ _ _ _ _ _ _ _ _ _ _ _ _ _ _ _ _ _ _ _ _ _ _ _ _ _ _ _ _ _ _ _ _ _ _ _ _ _ _ _ _ _ _ _ _ _ _ _ _ _ _ _ _ _ _ _ _ _ _ _ _ _ _ _ _ _ _ _ _ _ _ _ _ _ _ _ _ _ _ _ _ _ _ _ _ _ _ _ _ _ _ _ _ _ _ _ ?_
      intro z231 z232 z233 z234 z235 z236 z237 z238 z239 z240 z241 z242 z243 z244 z245 z246 z247 z248 w4 h4
      have H4 := hid h4
      clear h4
      go_wp2
      go_roundw
      case rel =>
       refine ⟨j + 1, by omega, by go_num, ?_⟩
       rw [Hsj.out, HF.out]
       exact ⟨_, _, _, _, _, _, _, H4.out⟩
      case measure => simp [intOf]; omega
     | false =>
      have HF : Hid (foeD k E q = orClash (incOpn E k) k q) := hid (by unfold foeD; rw [if_neg (by rw [hF]; exact Bool.false_ne_true)])
      rw [hF] at Hhas
      clear hF
      go_wp2_with (go_at_call 20; refine Hhas.out.mono ?_; rintro e w9 ⟨_, rfl, rfl, rfl⟩)
      refine layR46 _ W0 _ S T _ _ Hw.out k q hkS hqn (Hti2.out.lt q) _ _ _ _ _ _ _ _ _ _ _ _ _ _ _ _ _ _ _ _ _ _ _ _ _ _ _ _ _ _ _ _ _ _ _ _ _ _ _ _ _ _ _ _ _ _ _ _ _ _ _ _ _ _ _ _ _ _ _ _ _ _ _ _ _ _ _ _ _ _ _ _ _ _ _ _ _ _ _ _ _ _ _ _ _ _ _ _ _ _ _ _ _ _ _ _ _ _ _ _ _ _ _ _ _ _ _ _ _ _ _ _ _ _ _ _ _ _ _ _ _ _ _ _ _ _ _ _ _ _ _ _ _ _ _ _ _ _ _ _ _ _ _ _ _ _ _ _ _ _ _ _ _ _ _ _ _ _ _ _ _ _ _ _ _ _ _ _ _ _ _ _ _ _ _ _ _ _ _ _ _ _ _ _ _ _ _ _ _ _ _ _ _ _ _ _ _ _ _ _ _ _ _ _ _ _ _ _ _ _ _ _ _ _ _ _ _ _ _ _ _ _ _ _ _ _ _ _ _ _ _ _ _ _ _ _ _ _ _ _ _ _ _ _ _ _ _ _ _ _ _ _ _ _ _ _ _ _ _ _ _ _ _ _ _ _ _ _ _ _ _ _ _ _ _ _ _ _ _ _ _ _ _ _ _ _ _ _ _ _ _ _ _ _ _ _ _ _ _ _ _ _ _ _ _ _ _ _ _ _ _ _ _ _ _ _ _ _ _ _ _ _ _ _ _ _ _ _ _ _ _ _ _ _ _ _ _ _ _ _ _ _ _ _ _ _ _ _ _ _ _ _ _ _ _ _ _ _ _ _ _ _ _ _ _ _ _ ?_
      intro z231 z232 z233 z234 z235 z236 z237 z238 z239 z240 z241 z242 z243 z244 z245 z246 z247 z248 w4 h4
      have H4 := hid h4
      clear h4
      go_wp2
      go_roundw
      case rel =>
       refine ⟨j + 1, by omega, by go_num, ?_⟩
       rw [Hsj.out, HF.out]
       exact ⟨_, _, _, _, _, _, _, H4.out⟩
      case measure => simp [intOf]; omega
    ·obtain rfl : j = fo.length := by omega
     rw [List.take_length] at hla
     have hla2 := hid hla
     clear hla
     go_wp2
     go_roundw
     case rel =>
      refine ⟨k + 1, by omega, by go_num, ?_⟩
      rw [Hs.out, Hfd.out]
      exact hla2.out
     case measure => simp [intOf]; omega
  ·obtain rfl : k = T.foes.length := by omega
   have hla2 := hid hla
   clear hla
   go_wp2
   refine HK.out _ _ ?_ hla2.out
   exact ⟨rfl, rfl, rfl, rfl, rfl, rfl⟩
end Go.Proofs.Lx
