/- Parts of the proof: Di, Dj. Rows that a call builds beside older memory; a change of one box alone. No condition. -/
import Derived.Test.YtbidjiopnddldaaGreatP13
import Derived.Test.YtbidjiopnddldaaGreatP6
import Derived.Test.YtbidjiopnddldaaGreatP15
import Derived.Test.YtbidjiopnddldaaGreatP3
import Derived.Deep.DeepCutAuto
import Derived.Deep.RegionHeld3
namespace Go.Proofs.Lx
open Go Go.RowKit
set_option linter.unusedVariables false
set_option linter.unusedSimpArgs false
/-- Rows of ints in the array g; all else that was there in W1 is as it was. -/
structure HX (W1 w : World) (g : Nat) (vs : List Value) (xss : List (List Int)) : Prop where
 rows : Rows w g W1.heap.size 36 3 vs xss
 os : w.os = W1.os
 tape : w.tape = W1.tape
 output : w.output = W1.output
 sz : W1.heap.size ≤ w.heap.size
 old : ∀ k, k < W1.heap.size → k ≠ g → w.heap[k]? = W1.heap[k]?
section
variable {W1 w w' : World} {g : Nat} {vs : List Value} {xss : List (List Int)}
theorem HX.start {w : World} {g n : Nat} (h : w.heap[g]? = some (.cells (List.replicate n (Value.slice none 0 0)).toArray 36 (0, 0))) : HX w w g (List.replicate n (.slice none 0 0)) (List.replicate n []) :=
 ⟨Rows.made w g _ _ _ n (lt_of_block h) h, rfl, rfl, rfl, Nat.le_refl _, fun _ _ _ => rfl⟩
theorem HX.ext (h : HX W1 w g vs xss) (hb : Below w.heap.size w w') : HX W1 w' g vs xss :=
 ⟨h.rows.ext hb, hb.os.trans h.os, hb.tape.trans h.tape, hb.output.trans h.output, Nat.le_trans h.sz hb.size, fun k h1 h2 => (hb.block k (Nat.lt_of_lt_of_le h1 h.sz)).trans (h.old k h1 h2)⟩
/-- A block that holds no cells turns. -/
theorem HX.other (h : HX W1 w g vs xss) {r : Nat} (hg : w.grownBy w' (some r)) (hr : W1.heap.size ≤ r) (hc : ∀ c e f, w.heap[r]? ≠ some (.cells c e f)) : HX W1 w' g vs xss := by
 refine ⟨⟨(hg.block g h.rows.lt fun e => ?_).trans h.rows.blk, h.rows.len, fun q h1 h2 => (h.rows.own q h1 h2).kept hg (.inr fun e => ?_), h.rows.ne, h.rows.hg⟩, hg.os.trans h.os, hg.tape.trans h.tape, hg.output.trans h.output, Nat.le_trans h.sz hg.size, fun k h1 h2 => (hg.block k (Nat.lt_of_lt_of_le h1 h.sz) fun e => ?_).trans (h.old k h1 h2)⟩
 ·injection e with e; subst e; exact hc _ _ _ h.rows.blk
 ·rcases (h.rows.own q h1 h2).2 with ⟨e2, _⟩ | ⟨g2, c2, u2, e2, _, e3, _⟩
  ·rw [e2] at e; simp [Value.ownBlock] at e
  ·rw [e2] at e
   have : g2 = r := by simpa [Value.ownBlock] using e
   subst this; exact hc _ _ _ e3
 ·injection e with e; omega
theorem HX.append (h : HX W1 w g vs xss) {A : Obj} {q : Nat} (hq : q < vs.length) (hq' : q < xss.length) {v' : Value} {x : Int} (hgr : ((w.alloc A).drew).grownBy w' vs[q].ownBlock)
  (ho : w'.ownsRow W1.heap.size 3 1 v' (xss[q].length + 1) (intsV xss[q] ++ [.int .i64 x])) (hat : v'.ownBlock = vs[q].ownBlock ∨ v'.ownBlock = some ((w.alloc A).drew).heap.size) :
  HX W1 (w'.setCell ⟨g, q, none⟩ v') g (vs.set q v') (xss.set q (xss[q] ++ [x])) := by
 have h2 := h.ext ((ext_alloc w A).drew)
 have hsz := hgr.size
 have h1 := h.sz
 have hs := h2.sz
 refine ⟨h2.rows.append hs hq hq' hgr ho (hat.imp id fun e => ⟨_, e, Nat.le_refl _⟩), hgr.os.trans h2.os, hgr.tape.trans h2.tape, hgr.output.trans h2.output, by rw [World.size_setCell]; omega, fun k hk hne => ?_⟩
 rw [heap_setCell_other _ _ _ _ (by dsimp only; omega)]
 rw [hgr.block k (by omega) (fun e => by have := ((h2.rows.own q hq hq').lt _ e.symm).1; omega)]
 exact h2.old k hk hne
/-- Behind the growth of a row: older blocks, and the rows' array. -/
theorem HX.after (h : HX W1 w g vs xss) {A : Obj} {q : Nat} (hq : q < vs.length) (hgr : ((w.alloc A).drew).grownBy w' vs[q].ownBlock) :
  (∀ k, k < W1.heap.size → k ≠ g → w'.heap[k]? = W1.heap[k]?) ∧ w'.cell? ⟨g, q, none⟩ = some vs[q] ∧ w'.frozen? ⟨g, q, none⟩ = false := by
 have hq' : q < xss.length := by rw [← h.rows.len]; exact hq
 have h2 := h.ext ((ext_alloc w A).drew)
 have hs := h2.sz
 have ho := h2.rows.own q hq hq'
 have hg := (hgr.block g h2.rows.lt fun e => by have := (ho.lt _ e.symm).1; have := h.rows.hg; omega).trans h2.rows.blk
 refine ⟨fun k hk hne => ?_, ?_, frozen_of_row w' g q _ _ hg⟩
 ·rw [hgr.block k (by omega) (fun e => by have := (ho.lt _ e.symm).1; omega)]
  exact h2.old k hk hne
 ·rw [cell_of_row w' g q _ _ _ hg]; simp [hq]
/-- A row is sorted where it lies. -/
theorem HX.sorted (h : HX W1 w g vs xss) {q : Nat} (hq : q < vs.length) (hq' : q < xss.length) {ys : List Int} (hl : ys.length = xss[q].length) (hgr : w.grownBy w' vs[q].ownBlock) (ho : w'.ownsRow W1.heap.size 3 1 vs[q] xss[q].length (intsV ys)) :
  HX W1 w' g vs (xss.set q ys) := by
 have hb := (h.rows.own q hq hq').lt
 have hsz := h.sz
 refine ⟨⟨(hgr.block g h.rows.lt fun e => by have := (hb _ e.symm).1; have := h.rows.hg; omega).trans h.rows.blk, by rw [List.length_set]; exact h.rows.len, fun r h1 h2 => ?_, h.rows.ne, h.rows.hg⟩, hgr.os.trans h.os, hgr.tape.trans h.tape, hgr.output.trans h.output, Nat.le_trans h.sz hgr.size, fun k h1 h2 => (hgr.block k (by omega) fun e => by have := (hb _ e.symm).1; omega).trans (h.old k h1 h2)⟩
 rw [List.length_set] at h2
 by_cases e : q = r
 ·subst e
  simp only [List.getElem_set_self]
  rw [hl]; exact ho
 ·simp only [List.getElem_set_ne e]
  exact (h.rows.own r h1 h2).kept hgr (h.rows.ne r q h1 hq (Ne.symm e))
/-- How the rows read in every world that has their blocks. -/
theorem HX.reads (h : HX W1 w g vs xss) (hl : xss.length ≤ 140737488355328) (hx : ∀ q (h : q < xss.length), xss[q].length ≤ 140737488355328) (c : Nat) (hc : xss.length ≤ c) {W : World} (hg : W.heap[g]? = w.heap[g]?) (hk : ∀ k, W1.heap.size ≤ k → k < w.heap.size → W.heap[k]? = w.heap[k]?) :
  RdLL W (.slice (some ⟨g, 0, none⟩) xss.length c) xss := by
 have hR : Rows W g W1.heap.size 36 3 vs xss := ⟨hg.trans h.rows.blk, h.rows.len, fun q h1 h2 => own_heap (h.rows.own q h1 h2) fun k k1 k2 => hk k k1 k2, h.rows.ne, h.rows.hg⟩
 exact hR.reads hl hx c hc
end
theorem IM.lookx {w : World} {b : Nat} {l : List Int} (h : IM w b l) {s : Int} (hw : (Lit.int .i64 s).wf = true) :
  (Instr.lookup 129 (.map (some b)) (.int .i64 s) false).run Tryz.prog w = .ok (.int .i64 (ixD l s)) w := by
 rw [h.look hw]
 congr 2
 unfold ixD
 split <;> simp
/-- All but the box p is as it was. -/
structure Kp (p : Nat) (a b : World) : Prop where
 os : b.os = a.os
 tape : b.tape = a.tape
 output : b.output = a.output
 sz : a.heap.size ≤ b.heap.size
 old : ∀ k, k < a.heap.size → k ≠ p → b.heap[k]? = a.heap[k]?
theorem Kp.refl (p : Nat) (a : World) : Kp p a a := ⟨rfl, rfl, rfl, Nat.le_refl _, fun _ _ _ => rfl⟩
theorem Kp.trans {p : Nat} {a b c : World} (h : Kp p a b) (k : Kp p b c) : Kp p a c := ⟨k.os.trans h.os, k.tape.trans h.tape, k.output.trans h.output, Nat.le_trans h.sz k.sz, fun j h1 h2 => (k.old j (Nat.lt_of_lt_of_le h1 h.sz) h2).trans (h.old j h1 h2)⟩
theorem Kp.below {p : Nat} {a b : World} (h : Below a.heap.size a b) : Kp p a b := ⟨h.os, h.tape, h.output, h.size, fun k h1 _ => h.block k h1⟩
theorem Kp.grown {p : Nat} {a b c : World} {row : Option Nat} (h : Kp p a b) (hg : b.grownBy c row) (hr : ∀ k, row = some k → a.heap.size ≤ k ∨ k = p) : Kp p a c :=
 ⟨hg.os.trans h.os, hg.tape.trans h.tape, hg.output.trans h.output, Nat.le_trans h.sz hg.size, fun k h1 h2 => (hg.block k (Nat.lt_of_lt_of_le h1 h.sz) fun e => by rcases hr k e.symm with h9 | h9 <;> omega).trans (h.old k h1 h2)⟩
theorem Kp.set {p : Nat} {a b : World} (h : Kp p a b) {x : Addr} (hx : x.block = p ∨ a.heap.size ≤ x.block) (v : Value) : Kp p a (b.setCell x v) :=
 ⟨h.os, h.tape, h.output, by rw [World.size_setCell]; exact h.sz, fun k h1 h2 => by rw [heap_setCell_other _ _ _ _ (by rcases hx with h9 | h9 <;> omega)]; exact h.old k h1 h2⟩
/-- Behind a box above B: all below B is as it was. -/
theorem Kp.low {p : Nat} {a b : World} (h : Kp p a b) {B : Nat} (hB : B ≤ a.heap.size) (hp : B ≤ p) : Below B a b := ⟨h.os, h.tape, h.output, h.sz, fun k hk => h.old k (by omega) (by omega)⟩
/-- A block that holds cells is none that a map's or a range's is. -/
theorem IM.noCells {w : World} {b : Nat} {l : List Int} (h : IM w b l) : ∀ c e f, w.heap[b]? ≠ some (.cells c e f) := by
 obtain ⟨hl, D, h1, es, clock, hb, F, hs, hD⟩ := h
 intro c e f h9
 rw [hb] at h9; cases h9
theorem RG.noCells {w : World} {b r cnt : Nat} {l : List Int} {vis : List Nat} (h : RG w b r l vis cnt) : ∀ c e f, w.heap[r]? ≠ some (.cells c e f) := by
 obtain ⟨hl, hn, hv, D, left, h1, ⟨es, clock, since, seen, c0, hb, F, hs, hD, hr, rest⟩, h3⟩ := h
 intro c e f h9
 rw [hr] at h9; cases h9
theorem own_ne_map {w : World} {base e size n g : Nat} {v : Value} {xs : List Value} (h : w.ownsRow base e size v n xs) (hg : ∀ c e f, w.heap[g]? ≠ some (.cells c e f)) : v.ownBlock ≠ some g := by
 intro hb
 rcases h.2 with ⟨rfl, _⟩ | ⟨k, cap, cur, rfl, _, h3, _⟩
 ·simp [Value.ownBlock] at hb
 ·have : k = g := by simpa [Value.ownBlock] using hb
  subst this
  exact hg _ _ _ h3
def dF : Code → Code
 | .seq a _ => a
 | c => c
def dS : Code → Code
 | .seq _ b => b
 | c => c
def dB : Code → Code
 | .block _ b => b
 | c => c
def dL : Code → Code
 | .loop b => b
 | c => c
def dT : Code → Code
 | .cond _ a _ => a
 | c => c
end Go.Proofs.Lx

namespace Go.Proofs.Lx
open Go Go.RowKit Go.Proofs.Tj
set_option linter.unusedSimpArgs false
set_option linter.unusedVariables false

noncomputable def cutBody : Code := (Tryz.f70.body).getD .skip
noncomputable def cutSeg3 : Code := dF (dS (dS (dS cutBody)))
noncomputable def cutR9C : Code := dS (dB (dF (dS (dS (dL (dB (dS (dS (dB (dF (dS (dS (dL (dB (dS cutSeg3)))))))))))))))

set_option maxRecDepth 1000000 in
set_option maxHeartbeats 60000000 in
theorem cutR9 (wx W1 : World) (p g b n q : Nat) (D : List Int) (y : Int) (vs : List Value) (xss : List (List Int)) (h : HX W1 wx g vs xss) (bx : Array Value) (hp : W1.heap[p]? = some (.cells bx 111 (0, 0))) (hbx : bx[1]? = some (.slice (some ⟨g, 0, none⟩) n n)) (hpg : p ≠ g) (hbg : b ≠ g)
  (him : IM W1 b D) (hy : (Lit.int .i64 y).wf = true) (hq : q < vs.length) (hq' : q < xss.length) (hqn : q < n) (hlen : xss[q].length ≤ 1000000) (Q' : Exit → Act → World → Prop)
  (u0 u1 u2 u3 u4 u5 u6 u10 u11 u13 u14 u15 u16 u17 u18 u19 u20 u21 u22 u23 u24 u25 u26 u27 u28 u29 u30 u31 u32 u33 u34 u35 u36 u37 u38 u39 u40 u41 u42 u43 u44 u45 u46 u47 u48 u49 u50 u51 u52 u53 u54 u55 u56 u57 u58 u59 u60 u61 u78 u79 u80 u81 u82 u83 u84 u85 u86 u87 u88 u89 u90 u91 u92 u93 u94 u95 u96 u97 u98 u99 u100 u101 u102 u103 u104 u105 u106 u107 u108 u109 u110 u111 u112 u113 u114 u115 u116 u117 u118 u119 u120 u121 u122 u123 u124 u125 u126 u127 u128 u129 u130 u131 u132 u133 u134 u135 u136 u137 u138 u139 u140 u141 u142 u143 u144 u145 u146 u147 u148 u149 u150 u151 u152 u153 u154 u155 u156 u157 u158 u159 u160 u161 u162 u163 u164 u165 u166 u167 u168 u169 u170 u171 u172 u173 u174 u175 u176 u177 u178 u179 u180 u181 u182 u183 u184 u185 u186 u187 u188 u189 u190 u191 u192 u193 u194 u195 u196 u197 u198 u199 u200 u201 u202 u203 u204 u205 u206 u207 u208 u209 u210 u211 u212 u213 u214 u215 u216 u217 u218 u219 u220 u221 u222 u223 u224 u225 u226 u227 u228 u229 u230 u231 u232 u233 u234 u235 u236 u237 u238 u239 u240 u241 u242 u243 u244 u245 u246 u62 u63 u64 u65 u66 u67 u68 u69 u70 u71 u72 u73 u74 u75 u76 u77 : Value)
  (hK : ∀ (x62 x63 x64 x65 x66 x67 x68 x69 x70 x71 x72 x73 x74 x75 x76 x77 : Value) (wy : World) (v' : Value), HX W1 wy g (vs.set q v') (xss.set q (xss[q] ++ [ixD D y])) → (∀ k, k < wx.heap.size → k ≠ g → vs[q].ownBlock ≠ some k → wy.heap[k]? = wx.heap[k]?) → Q' .normal ⟨#[u0, u1, u2, u3, u4, u5, u6, .map (some b), .pointer (some ⟨p, 0, none⟩), .int .i64 (q : Int), u10, u11, .int .i64 y, u13, u14, u15, u16, u17, u18, u19, u20, u21, u22, u23, u24, u25, u26, u27, u28, u29, u30, u31, u32, u33, u34, u35, u36, u37, u38, u39, u40, u41, u42, u43, u44, u45, u46, u47, u48, u49, u50, u51, u52, u53, u54, u55, u56, u57, u58, u59, u60, u61, x62, x63, x64, x65, x66, x67, x68, x69, x70, x71, x72, x73, x74, x75, x76, x77, u78, u79, u80, u81, u82, u83, u84, u85, u86, u87, u88, u89, u90, u91, u92, u93, u94, u95, u96, u97, u98, u99, u100, u101, u102, u103, u104, u105, u106, u107, u108, u109, u110, u111, u112, u113, u114, u115, u116, u117, u118, u119, u120, u121, u122, u123, u124, u125, u126, u127, u128, u129, u130, u131, u132, u133, u134, u135, u136, u137, u138, u139, u140, u141, u142, u143, u144, u145, u146, u147, u148, u149, u150, u151, u152, u153, u154, u155, u156, u157, u158, u159, u160, u161, u162, u163, u164, u165, u166, u167, u168, u169, u170, u171, u172, u173, u174, u175, u176, u177, u178, u179, u180, u181, u182, u183, u184, u185, u186, u187, u188, u189, u190, u191, u192, u193, u194, u195, u196, u197, u198, u199, u200, u201, u202, u203, u204, u205, u206, u207, u208, u209, u210, u211, u212, u213, u214, u215, u216, u217, u218, u219, u220, u221, u222, u223, u224, u225, u226, u227, u228, u229, u230, u231, u232, u233, u234, u235, u236, u237, u238, u239, u240, u241, u242, u243, u244, u245, u246], []⟩ wy) :
  Code.wp Tryz.prog cutR9C Q' ⟨#[u0, u1, u2, u3, u4, u5, u6, .map (some b), .pointer (some ⟨p, 0, none⟩), .int .i64 (q : Int), u10, u11, .int .i64 y, u13, u14, u15, u16, u17, u18, u19, u20, u21, u22, u23, u24, u25, u26, u27, u28, u29, u30, u31, u32, u33, u34, u35, u36, u37, u38, u39, u40, u41, u42, u43, u44, u45, u46, u47, u48, u49, u50, u51, u52, u53, u54, u55, u56, u57, u58, u59, u60, u61, u62, u63, u64, u65, u66, u67, u68, u69, u70, u71, u72, u73, u74, u75, u76, u77, u78, u79, u80, u81, u82, u83, u84, u85, u86, u87, u88, u89, u90, u91, u92, u93, u94, u95, u96, u97, u98, u99, u100, u101, u102, u103, u104, u105, u106, u107, u108, u109, u110, u111, u112, u113, u114, u115, u116, u117, u118, u119, u120, u121, u122, u123, u124, u125, u126, u127, u128, u129, u130, u131, u132, u133, u134, u135, u136, u137, u138, u139, u140, u141, u142, u143, u144, u145, u146, u147, u148, u149, u150, u151, u152, u153, u154, u155, u156, u157, u158, u159, u160, u161, u162, u163, u164, u165, u166, u167, u168, u169, u170, u171, u172, u173, u174, u175, u176, u177, u178, u179, u180, u181, u182, u183, u184, u185, u186, u187, u188, u189, u190, u191, u192, u193, u194, u195, u196, u197, u198, u199, u200, u201, u202, u203, u204, u205, u206, u207, u208, u209, u210, u211, u212, u213, u214, u215, u216, u217, u218, u219, u220, u221, u222, u223, u224, u225, u226, u227, u228, u229, u230, u231, u232, u233, u234, u235, u236, u237, u238, u239, u240, u241, u242, u243, u244, u245, u246], []⟩ wx := by
 have HK := hid hK
 clear hK
 conv => arg 2; whnf
 have hplt := lt_of_block hp
 have hblt := him.lt
 obtain ⟨r, hr⟩ : ∃ r, ixD D y = r := ⟨_, rfl⟩
 have HS : Hid (∀ W : World, (∀ k, k < W1.heap.size → k ≠ g → W.heap[k]? = W1.heap[k]?) → (fun w' : World => w'.cell? ⟨p, 1, none⟩ = some (.slice (some ⟨g, 0, none⟩) n n) ∧ (Instr.lookup 129 (.map (some b)) (.int .i64 y) false).run Tryz.prog w' = .ok (.int .i64 r) w') W) := hid fun W hW => by
  refine ⟨?_, ?_⟩
  ·rw [cell_of_row W p 1 _ _ _ ((hW p hplt hpg).trans hp)]; exact hbx
  ·rw [← hr]; exact (him.keep (hW b hblt hbg)).lookx hy
 have hst := h.rows.own q hq hq'
 have hcq := h.rows.cell hq
 have hfq := h.rows.free q
 have hsz := h.sz
 have hglt := h.rows.hg
 have hi0 : (0 : Int) ≤ (q : Int) := by omega
 have hi1 : (q : Int) < (n : Int) := by omega
 have HS0 := hid (HS.out wx.drew h.old)
 have hRlt := h.rows.lt
 have Hkeep : Hid (∀ cs : Array Value, (fun w' : World => w'.cell? ⟨p, 1, none⟩ = some (.slice (some ⟨g, 0, none⟩) n n) ∧ (Instr.lookup 129 (.map (some b)) (.int .i64 y) false).run Tryz.prog w' = .ok (.int .i64 r) w') ((wx.alloc (.cells cs 3)).drew)) := hid fun cs => HS.out _ (h.ext ((ext_alloc wx (.cells cs 3)).drew)).old
 have Haft : Hid (∀ (cs : Array Value) (w' : World), ((wx.alloc (.cells cs 3)).drew).grownBy w' vs[q].ownBlock → (fun w' : World => w'.cell? ⟨p, 1, none⟩ = some (.slice (some ⟨g, 0, none⟩) n n) ∧ (Instr.lookup 129 (.map (some b)) (.int .i64 y) false).run Tryz.prog w' = .ok (.int .i64 r) w') w' ∧ (∀ u : Value, (fun w' : World => w'.cell? ⟨p, 1, none⟩ = some (.slice (some ⟨g, 0, none⟩) n n) ∧ (Instr.lookup 129 (.map (some b)) (.int .i64 y) false).run Tryz.prog w' = .ok (.int .i64 r) w') (w'.setCell ⟨g, q, none⟩ u)) ∧ w'.cell? ⟨g, q, none⟩ = some vs[q] ∧ w'.frozen? ⟨g, q, none⟩ = false) := hid fun cs w' hg => by
  obtain ⟨a1, a2, a3⟩ := h.after hq hg
  exact ⟨HS.out _ a1, fun u => HS.out _ fun k h1 h2 => (heap_setCell_other _ _ _ _ (by dsimp only; omega)).trans (a1 k h1 h2), a2, a3⟩
 have Hy := hid hy
 have H := hid h
 have Hr := hid hr
 obtain ⟨e1, e2⟩ := HS0.out
 clear h him hp hbx hr hpg hbg hy
 refine wp_region_noPanic ?_
 refine wp_region_held_drew (S := (fun w' : World => w'.cell? ⟨p, 1, none⟩ = some (.slice (some ⟨g, 0, none⟩) n n) ∧ (Instr.lookup 129 (.map (some b)) (.int .i64 y) false).run Tryz.prog w' = .ok (.int .i64 r) w')) (by kernel_rfl) ?_ (fun hHeld => ?_)
 ·exact HS0.out
 refine wpAnyH_take (i := 0) (v := ?v1) rfl (by kernel_rfl) (by kernel_rfl) (by kernel_rfl) (fun _ _ _ h => h) (Or.inl ⟨by rfl, ?hy1⟩) (by assumption) ?rest1
 case hy1 => (intro w hSw; (try dsimp only at hSw); go_simp) <;> try with_reducible rfl
 simp only [Act.put, List.setIfInBounds_toArray, List.set_cons_zero, List.set_cons_succ]
 refine wpAnyH_take (i := 1) (v := ?v2) rfl (by kernel_rfl) (by kernel_rfl) (by kernel_rfl) (fun _ _ _ h => h) (Or.inl ⟨by rfl, ?hy2⟩) (by assumption) ?rest2
 case hy2 => (intro w hSw; (try dsimp only at hSw); go_simp) <;> try with_reducible rfl
 simp only [Act.put, List.setIfInBounds_toArray, List.set_cons_zero, List.set_cons_succ]
 refine wpAnyH_take (i := 2) (v := ?v3) rfl (by kernel_rfl) (by kernel_rfl) (by kernel_rfl) (fun _ _ _ h => h) (Or.inl ⟨by rfl, ?hy3⟩) (by assumption) ?rest3
 case hy3 => (intro w hSw; (try dsimp only at hSw); go_simp) <;> try with_reducible rfl
 simp only [Act.put, List.setIfInBounds_toArray, List.set_cons_zero, List.set_cons_succ]
 refine wpAnyH_take (i := 3) (v := ?v4) rfl (by kernel_rfl) (by kernel_rfl) (by kernel_rfl) (fun _ _ _ h => h) (Or.inl ⟨by rfl, ?hy4⟩) (by assumption) ?rest4
 case hy4 => (intro w hSw; (try dsimp only at hSw); go_simp) <;> try with_reducible rfl
 simp only [Act.put, List.setIfInBounds_toArray, List.set_cons_zero, List.set_cons_succ]
 refine wpAnyH_take (i := 4) (v := ?v5) rfl (by kernel_rfl) (by kernel_rfl) (by kernel_rfl) (fun _ _ _ h => h) (Or.inl ⟨by rfl, ?hy5⟩) (by assumption) ?rest5
 case hy5 => (intro w hSw; (try dsimp only at hSw); go_simp) <;> try with_reducible rfl
 simp only [Act.put, List.setIfInBounds_toArray, List.set_cons_zero, List.set_cons_succ]
 refine wpAnyH_take (i := 5) (v := ?v6) rfl (by kernel_rfl) (by kernel_rfl) (by kernel_rfl) (fun _ _ _ h => h) (Or.inl ⟨by rfl, ?hy6⟩) (by assumption) ?rest6
 case hy6 => (intro w hSw; (try dsimp only at hSw); go_simp) <;> try with_reducible rfl
 simp only [Act.put, List.setIfInBounds_toArray, List.set_cons_zero, List.set_cons_succ]
 refine wpAnyH_take (i := 6) (v := ?v7) rfl (by kernel_rfl) (by kernel_rfl) (by kernel_rfl) (fun _ _ _ h => h) (Or.inl ⟨by rfl, ?hy7⟩) (by assumption) ?rest7
 case hy7 => (intro w hSw; (try dsimp only at hSw); go_simp) <;> try with_reducible rfl
 simp only [Act.put, List.setIfInBounds_toArray, List.set_cons_zero, List.set_cons_succ]
 refine wpAnyH_take (i := 7) (v := ?v8) rfl (by kernel_rfl) (by kernel_rfl) (by kernel_rfl) (fun _ _ _ h => h) (Or.inl ⟨by rfl, ?hy8⟩) (by assumption) ?rest8
 case hy8 => (intro w hSw; (try dsimp only at hSw); go_simp) <;> try with_reducible rfl
 simp only [Act.put, List.setIfInBounds_toArray, List.set_cons_zero, List.set_cons_succ]
 refine wpAnyH_take (i := 8) (v := ?v9) rfl (by kernel_rfl) (by kernel_rfl) (by kernel_rfl) (fun _ _ _ h => h) (Or.inl ⟨by rfl, ?hy9⟩) (by assumption) ?rest9
 case hy9 => (intro w hSw; (try dsimp only at hSw); go_simp) <;> try with_reducible rfl
 simp only [Act.put, List.setIfInBounds_toArray, List.set_cons_zero, List.set_cons_succ]
 refine wpAnyH_take (i := 10) (v := ?v10) rfl (by kernel_rfl) (by kernel_rfl) (by kernel_rfl) (fun _ _ _ h => h) (Or.inl ⟨by rfl, ?hy10⟩) (by assumption) ?rest10
 case hy10 => (intro w hSw; (try dsimp only at hSw); go_simp) <;> try with_reducible rfl
 simp only [Act.put, List.setIfInBounds_toArray, List.set_cons_zero, List.set_cons_succ]
 refine wpAnyH_take (i := 11) (v := ?v11) rfl (by kernel_rfl) (by kernel_rfl) (by kernel_rfl) (fun _ _ _ h => h) (Or.inl ⟨by rfl, ?hy11⟩) (by assumption) ?rest11
 case hy11 => (intro w hSw; (try dsimp only at hSw); go_simp) <;> try with_reducible rfl
 simp only [Act.put, List.setIfInBounds_toArray, List.set_cons_zero, List.set_cons_succ]
 refine wpAnyH_take (i := 12) (v := ?v12) rfl (by kernel_rfl) (by kernel_rfl) (by kernel_rfl) (fun _ _ _ h => h) (Or.inl ⟨by rfl, ?hy12⟩) (by assumption) ?rest12
 case hy12 => (intro w hSw; (try dsimp only at hSw); go_simp) <;> try with_reducible rfl
 simp only [Act.put, List.setIfInBounds_toArray, List.set_cons_zero, List.set_cons_succ]
 refine wpAnyH_ready (rs := [9, 13]) (by kernel_rfl) (by simp) ?_
 refine AllReadyH.cons rfl (fun K9 hK9 => ?_) (AllReadyH.cons rfl (fun K9 hK9 => ?_) AllReadyH.nil)
 ·skip
  go_simp
  refine hK9.out _ _ ?_ (fun hHeld => ?_)
  ·exact HS0.out
  clear hK9 K9
  try simp only [Act.put, List.setIfInBounds_toArray, List.set_cons_zero, List.set_cons_succ]
  refine wpAnyH_ready (rs := [13]) (by kernel_rfl) (by simp) ?_
  refine AllReadyH.cons rfl (fun K9 hK9 => ?_) AllReadyH.nil
  go_simp
  refine hK9.out _ _ ?_ (fun hHeld => ?_)
  ·exact Hkeep.out _
  clear hK9 K9
  try simp only [Act.put, List.setIfInBounds_toArray, List.set_cons_zero, List.set_cons_succ]
  refine wpAnyH_ready (rs := [14]) (by kernel_rfl) (by simp) ?_
  refine AllReadyH.cons rfl (fun K9 hK9 => ?_) AllReadyH.nil
  (refine step_append_own_at rfl (.tmp 71) (.tmp 75) 36 rfl W1.heap.size 3 (.int .i64 0) 8 Tryz.underlying36 infoI rfl vs[q] _ _ rfl (hst.alloc _) _ (.int .i64 r) rfl (by simp [go_sem]) rfl (by unfold maxLen; omega) (by omega) (by simp; omega) ?_; intro v' w' hown hgrow hat; obtain ⟨gn, cn, rfl⟩ := own_form hown; obtain ⟨hqS, hqT, hqR, hqF⟩ := Haft.out _ w' hgrow)
  refine hK9.out _ _ ?_ (fun hHeld => ?_)
  ·exact hqS
  clear hK9 K9
  try simp only [Act.put, List.setIfInBounds_toArray, List.set_cons_zero, List.set_cons_succ]
  refine wpAnyH_take (i := 15) (v := ?v13) rfl (by kernel_rfl) (by kernel_rfl) (by kernel_rfl) (fun _ _ _ h => h) (Or.inl ⟨by rfl, ?hy13⟩) (by assumption) ?rest13
  case hy13 => (intro w hSw; (try dsimp only at hSw); go_simp) <;> try with_reducible rfl
  simp only [Act.put, List.setIfInBounds_toArray, List.set_cons_zero, List.set_cons_succ]
  refine wpAnyH_ready (rs := [16]) (by kernel_rfl) (by simp) ?_
  refine AllReadyH.cons rfl (fun K9 hK9 => ?_) AllReadyH.nil
  go_simp
  refine hK9.out _ _ ?_ (fun hHeld => ?_)
  ·exact hqT _
  clear hK9 K9
  try simp only [Act.put, List.setIfInBounds_toArray, List.set_cons_zero, List.set_cons_succ]
  refine wpAnyH_done (by kernel_rfl) (NoPanic.normal ?_) _
  clear hqS hqT hqR hqF e1 e2 hcq hfq
  have hfin := H.out.append hq hq' hgrow hown hat
  rw [← Hr.out] at hfin
  have hkk := fun (k : Nat) (h1 : k < wx.heap.size) (h2 : k ≠ g) (h3 : vs[q].ownBlock ≠ some k) => (heap_setCell_other w' ⟨g, q, none⟩ k (.slice (some ⟨gn, 0, none⟩) (xss[q].length + 1) cn) (by dsimp only; omega)).trans ((hgrow.block k (Nat.lt_of_lt_of_le h1 (ext_alloc wx (.cells #[.int .i64 r] 3)).drew.size) (fun e => h3 e.symm)).trans (Below.heap_alloc wx (.cells #[.int .i64 r] 3) k h1))
  exact HK.out _ _ _ _ _ _ _ _ _ _ _ _ _ _ _ _ _ _ hfin hkk
 ·skip
  go_simp
  refine hK9.out _ _ ?_ (fun hHeld => ?_)
  ·exact Hkeep.out _
  clear hK9 K9
  try simp only [Act.put, List.setIfInBounds_toArray, List.set_cons_zero, List.set_cons_succ]
  refine wpAnyH_ready (rs := [9]) (by kernel_rfl) (by simp) ?_
  refine AllReadyH.cons rfl (fun K9 hK9 => ?_) AllReadyH.nil
  go_simp
  refine hK9.out _ _ ?_ (fun hHeld => ?_)
  ·exact Hkeep.out _
  clear hK9 K9
  try simp only [Act.put, List.setIfInBounds_toArray, List.set_cons_zero, List.set_cons_succ]
  refine wpAnyH_ready (rs := [14]) (by kernel_rfl) (by simp) ?_
  refine AllReadyH.cons rfl (fun K9 hK9 => ?_) AllReadyH.nil
  (refine step_append_own_at rfl (.tmp 71) (.tmp 75) 36 rfl W1.heap.size 3 (.int .i64 0) 8 Tryz.underlying36 infoI rfl vs[q] _ _ rfl (hst.alloc _) _ (.int .i64 r) rfl (by simp [go_sem]) rfl (by unfold maxLen; omega) (by omega) (by simp; omega) ?_; intro v' w' hown hgrow hat; obtain ⟨gn, cn, rfl⟩ := own_form hown; obtain ⟨hqS, hqT, hqR, hqF⟩ := Haft.out _ w' hgrow)
  refine hK9.out _ _ ?_ (fun hHeld => ?_)
  ·exact hqS
  clear hK9 K9
  try simp only [Act.put, List.setIfInBounds_toArray, List.set_cons_zero, List.set_cons_succ]
  refine wpAnyH_take (i := 15) (v := ?v14) rfl (by kernel_rfl) (by kernel_rfl) (by kernel_rfl) (fun _ _ _ h => h) (Or.inl ⟨by rfl, ?hy14⟩) (by assumption) ?rest14
  case hy14 => (intro w hSw; (try dsimp only at hSw); go_simp) <;> try with_reducible rfl
  simp only [Act.put, List.setIfInBounds_toArray, List.set_cons_zero, List.set_cons_succ]
  refine wpAnyH_ready (rs := [16]) (by kernel_rfl) (by simp) ?_
  refine AllReadyH.cons rfl (fun K9 hK9 => ?_) AllReadyH.nil
  go_simp
  refine hK9.out _ _ ?_ (fun hHeld => ?_)
  ·exact hqT _
  clear hK9 K9
  try simp only [Act.put, List.setIfInBounds_toArray, List.set_cons_zero, List.set_cons_succ]
  refine wpAnyH_done (by kernel_rfl) (NoPanic.normal ?_) _
  clear hqS hqT hqR hqF e1 e2 hcq hfq
  have hfin := H.out.append hq hq' hgrow hown hat
  rw [← Hr.out] at hfin
  have hkk := fun (k : Nat) (h1 : k < wx.heap.size) (h2 : k ≠ g) (h3 : vs[q].ownBlock ≠ some k) => (heap_setCell_other w' ⟨g, q, none⟩ k (.slice (some ⟨gn, 0, none⟩) (xss[q].length + 1) cn) (by dsimp only; omega)).trans ((hgrow.block k (Nat.lt_of_lt_of_le h1 (ext_alloc wx (.cells #[.int .i64 r] 3)).drew.size) (fun e => h3 e.symm)).trans (Below.heap_alloc wx (.cells #[.int .i64 r] 3) k h1))
  exact HK.out _ _ _ _ _ _ _ _ _ _ _ _ _ _ _ _ _ _ hfin hkk
end Go.Proofs.Lx
