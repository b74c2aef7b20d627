/- Region 2 of theory.knots' visit: the node goes onto the stack. A theorem of its own. -/
import Derived.Test.YtalhpldbhogadaaVa
namespace Go.Proofs.Lx
open Go Go.RowKit Go.Proofs.Tj
set_option linter.unusedSimpArgs false
set_option linter.unusedVariables false

def sndS : Code → Code
  | .seq _ b => b
  | c => c
def fstS : Code → Code
  | .seq a _ => a
  | c => c
noncomputable def visitR2 : Code := fstS (sndS (sndS ((Try.f165.body).getD .skip)))

set_option maxRecDepth 1000000 in
set_option maxHeartbeats 60000000 in
theorem visit_R2 (W0 w2 : World) (n : Nat) (fv : Value) (b gI gL gO gF base : Nat) (s : TS) (sv : Value) (v : Nat) (hv : v < n) (hn : n ≤ 4096) (hsl : s.stk.length ≤ 4096)
    (h2 : KN W0 n fv b gI gL gO gF base { s with idx := upd s.idx v (s.cnt + 1), low := upd s.low v (s.cnt + 1), cnt := s.cnt + 1 } sv w2) (K : Act → World → Prop) (Q : Value → World → Prop)
    (u2 u3 u4 u5 u6 u7 u8 u9 u10 u11 u12 u13 u14 u15 u16 u17 u18 u19 u20 u21 u22 u23 u24 u25 u26 u27 u28 u29 u30 u31 u32 u33 u34 u35 u36 u37 u38 u39 u40 u41 u42 u43 u44 u45 u46 u47 u48 u49 u50 u51 u52 u53 u54 u55 u56 u57 u58 u59 u60 u61 u62 u63 u64 u65 u66 u67 u68 u69 u70 u71 u72 u73 u74 u75 u76 u77 u78 u79 u80 u81 u82 u83 u84 u85 u86 u87 u88 u89 u90 u91 u92 u93 u94 u95 u96 u97 u98 u99 u100 u101 u102 u103 u104 u105 u106 u107 u108 u109 u110 u111 u112 u113 u114 u115 u116 u117 u118 u119 u120 u121 u122 u123 u124 u125 u126 u127 u128 u129 u130 u131 u132 u133 u134 u135 u136 u137 u138 u139 u140 u141 u142 u143 u144 u145 u146 u147 u148 u149 u150 u151 u152 u153 u154 u155 u156 u157 u158 u159 u160 u161 u162 u163 u164 u165 u166 u167 u168 u169 u170 u171 u172 u173 u174 u175 u176 u177 u178 u179 u180 u181 u182 u183 u184 u185 u186 u187 u188 : Value)
    (hK : ∀ (x34 x35 x36 x37 x38 x39 x40 x41 x42 x43 x44 x45 x46 x47 x48 x49 : Value) (wx : World) (sv' : Value), KN W0 n fv b gI gL gO gF base (enter s v) sv' wx → K ⟨#[.pointer (some ⟨b, 0, none⟩), .int .i64 (v : Int), u2, u3, u4, u5, u6, u7, u8, u9, u10, u11, u12, u13, u14, u15, u16, u17, u18, u19, u20, u21, u22, u23, u24, u25, u26, u27, u28, u29, u30, u31, u32, u33, x34, x35, x36, x37, x38, x39, x40, x41, x42, x43, x44, x45, x46, x47, x48, x49, u50, u51, u52, u53, u54, u55, u56, u57, u58, u59, u60, u61, u62, u63, u64, u65, u66, u67, u68, u69, u70, u71, u72, u73, u74, u75, u76, u77, u78, u79, u80, u81, u82, u83, u84, u85, u86, u87, u88, u89, u90, u91, u92, u93, u94, u95, u96, u97, u98, u99, u100, u101, u102, u103, u104, u105, u106, u107, u108, u109, u110, u111, u112, u113, u114, u115, u116, u117, u118, u119, u120, u121, u122, u123, u124, u125, u126, u127, u128, u129, u130, u131, u132, u133, u134, u135, u136, u137, u138, u139, u140, u141, u142, u143, u144, u145, u146, u147, u148, u149, u150, u151, u152, u153, u154, u155, u156, u157, u158, u159, u160, u161, u162, u163, u164, u165, u166, u167, u168, u169, u170, u171, u172, u173, u174, u175, u176, u177, u178, u179, u180, u181, u182, u183, u184, u185, u186, u187, u188], []⟩ wx) :
    Code.wp Try.prog visitR2 (Exit.then K (bodyPost Try.prog Try.f165 (Ret Q))) ⟨#[.pointer (some ⟨b, 0, none⟩), .int .i64 (v : Int), u2, u3, u4, u5, u6, u7, u8, u9, u10, u11, u12, u13, u14, u15, u16, u17, u18, u19, u20, u21, u22, u23, u24, u25, u26, u27, u28, u29, u30, u31, u32, u33, u34, u35, u36, u37, u38, u39, u40, u41, u42, u43, u44, u45, u46, u47, u48, u49, u50, u51, u52, u53, u54, u55, u56, u57, u58, u59, u60, u61, u62, u63, u64, u65, u66, u67, u68, u69, u70, u71, u72, u73, u74, u75, u76, u77, u78, u79, u80, u81, u82, u83, u84, u85, u86, u87, u88, u89, u90, u91, u92, u93, u94, u95, u96, u97, u98, u99, u100, u101, u102, u103, u104, u105, u106, u107, u108, u109, u110, u111, u112, u113, u114, u115, u116, u117, u118, u119, u120, u121, u122, u123, u124, u125, u126, u127, u128, u129, u130, u131, u132, u133, u134, u135, u136, u137, u138, u139, u140, u141, u142, u143, u144, u145, u146, u147, u148, u149, u150, u151, u152, u153, u154, u155, u156, u157, u158, u159, u160, u161, u162, u163, u164, u165, u166, u167, u168, u169, u170, u171, u172, u173, u174, u175, u176, u177, u178, u179, u180, u181, u182, u183, u184, u185, u186, u187, u188], []⟩ w2 := by
  have HK := hid hK
  clear hK
  conv => arg 2; whnf
  have e3 := h2.cell 3; have e4 := h2.cell 4
  simp only [List.getElem?_toArray, List.getElem?_cons_zero, List.getElem?_cons_succ] at e3 e4
  have hbs := h2.hbase
  have hst := h2.stk
  have hlen : s.stk.length ≤ 4096 := hsl
  have hOb := h2.d3.2.1
  have hg0 : gO < w2.heap.size := Nat.lt_of_lt_of_le h2.hO.2 h2.hbase
  have hb0 : b < w2.heap.size := Nat.lt_of_lt_of_le h2.hb.2 h2.hbase
  go_region_law (refine step_append_own rfl (.tmp 43) (.tmp 45) 26 rfl base 3 (.int .i64 0) 8 Try.underlying26 infoI rfl sv s.stk.length _ rfl (hst.alloc _) _ (.int .i64 v) rfl (by simp [go_sem]) rfl (by unfold maxLen; omega) (by omega) (by simp; omega) ?_; intro v' w' hown hgrow; obtain ⟨gn, cn, rfl⟩ := own_form hown; obtain ⟨q4, q4f⟩ := ((h2.alloc _).drew).after4 hgrow; obtain ⟨qO, qOf⟩ := ((h2.alloc _).drew).afterO hgrow hv (((h2.alloc _).drew).cO hv); have q3 := ((h2.alloc _).drew).afterAt hgrow 3; simp only [List.getElem?_toArray, List.getElem?_cons_zero, List.getElem?_cons_succ] at q3)
  all_goals
    clear q3 q4 q4f qO qOf e3 e4 hst
    go_wp2_with fail
    exact HK.out _ _ _ _ _ _ _ _ _ _ _ _ _ _ _ _ _ _ ((((h2.alloc (.cells #[.int .i64 (v : Int)] 3)).drew).append hgrow (s.stk ++ [v]) (.slice (some ⟨gn, 0, none⟩) (s.stk.length + 1) cn) (by simpa using hown)).put_on v true)
end Go.Proofs.Lx
