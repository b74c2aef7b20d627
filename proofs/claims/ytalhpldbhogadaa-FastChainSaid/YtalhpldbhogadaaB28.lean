/- Parts of the proof: Fn, Fo. pair: a pair is laid. Printed by gen_pair.py. No condition. -/
import Derived.Test.YtalhpldbhogadaaB27
import Derived.Deep.DeepCutAuto
import Derived.Deep.RegionHeld3
namespace Go.Proofs.Lx
open Go Go.RowKit Go.Proofs.Tj
set_option linter.unusedSimpArgs false
set_option linter.unusedVariables false

/-- What pair lays, by and by. -/
structure PX where
  P : Nat
  pq : Nat → Nat
  ps : Nat → Nat
  ofs : Nat → List Nat
  att : Nat → Int
  A : Nat → Nat → Nat
def PX.S (X : PX) (S : Stc) : Stc := { S with P := X.P, pq := X.pq, ps := X.ps, ofs := X.ofs }
def PX.D (X : PX) (D : Dyn) : Dyn := { D with attacks := X.att }
def addP (q s : Nat) (X : PX) : PX := { P := X.P + 1, pq := Tj.upd X.pq X.P q, ps := Tj.upd X.ps X.P s, ofs := Tj.upd X.ofs s (X.ofs s ++ [X.P]), att := Tj.upd X.att q (addW (X.att q) 1), A := upd2 X.A q s X.P }
def PAt (w W0 : World) (b : Nat) (g : Key → Nat) (vF vR : Value) (ga : Nat) (S : Stc) (T : Th) (D : Dyn) (X : PX) (p : Option (Nat × Obj)) : Prop :=
  ∃ vB vP vin vof vbe l mb vT, EngV w W0 ⟨b, g, vF, vR, vB, vP, vin, vof, vbe, .arr (sl ga S.n) 157 1 S.n (tab S.n fun q => Value.map (mb q)), .blks l⟩ (X.S S) T (X.D D) vT ∧ MapsIn S.n l mb X.P X.A ∧ (∀ z, p = some z → z ∈ l)
theorem infoAg : (Try.prog.info? 146).map (fun i => (i.zero, i.size, i.bytes)) = some (some (.agg #[.int .i64 0, .int .i64 0, .bool false, .int .i64 0]), 4, 32) := by kernel_rfl
theorem info_parts4 {P : Program} {e : TypeId} {z : Value} {s b : Nat} (h : (P.info? e).map (fun i => (i.zero, i.size, i.bytes)) = some (some z, s, b)) : ∃ i, P.info? e = some i ∧ i.zero = some z ∧ i.size = s ∧ i.bytes = b := by
  cases hi : P.info? e with
  | none => rw [hi] at h; simp at h
  | some i => rw [hi] at h; simp at h; exact ⟨i, rfl, h.1, h.2.1, h.2.2⟩
theorem cell_four_new (w : World) (a b c d : Value) (t : TypeId) : ∀ j u, [a, b, c, d][j]? = some u → (w.alloc (.cells #[a, b, c, d] t)).cell? ((⟨w.heap.size, 0, none⟩ : Addr).add j) = some u := by
  intro j u hj
  have h := heap_alloc_new w (.cells #[a, b, c, d] t)
  rw [add_plain, cell_of_row _ _ _ _ _ _ h]
  simpa using hj
theorem own_formP {w : World} {base e size n : Nat} {v : Value} {xs : List Value} (h : w.ownsRow base e size v n xs) : ∃ A c, v = .slice A n c := by
  rcases h.2 with ⟨h1, h0⟩ | ⟨g, cap, cur, hv, _⟩
  · exact ⟨none, 0, by rw [h1, h0]⟩
  · exact ⟨_, cap, hv⟩
noncomputable def pairRestC : Code := sndC (sndC (sndC (sndC pairC1)))
set_option maxRecDepth 1000000 in
set_option maxHeartbeats 60000000 in
theorem pairRest (wx W0 : World) (b : Nat) (g : Key → Nat) (vF vR : Value) (ga : Nat) (S : Stc) (T : Th) (D : Dyn) (X : PX) (vB vP : Value) (vin vof vbe : List Value) (l : List (Nat × Obj)) (mb : Nat → Option Nat) (vT : Value)
    (h : EngV wx W0 ⟨b, g, vF, vR, vB, vP, vin, vof, vbe, .arr (sl ga S.n) 157 1 S.n (tab S.n fun q => Value.map (mb q)), .blks l⟩ (X.S S) T (X.D D) vT) (hM : MapsIn S.n l mb X.P X.A) (q s bm : Nat) (hq : q < S.n) (hs : s < S.m) (hmb : mb q = some bm)
    (hP : X.P ≤ 65536) (hol : (X.ofs s).length ≤ X.P) (hse : D.settled X.P = false) (hle : D.left X.P = 0) (K : Act → World → Prop) (Q' : Exit → Act → World → Prop) (hKK : ∀ a w, Code.wp Try.prog pairRestC Q' a w → K a w)
    (u1 u4 u5 u7 u8 u9 u10 u11 u12 u13 u14 u15 u16 u17 u18 u19 u20 u21 u22 u23 u24 u25 u26 u27 u28 u29 u30 u31 u32 u33 u34 u35 u36 u37 u38 u39 u40 u41 u42 u43 u44 u45 u46 u47 u48 u49 u50 u51 u52 u53 u54 u55 u56 u57 u58 u59 u60 u61 u62 u63 u64 u65 u66 u67 u68 u69 u70 u71 u72 u73 u74 u75 u76 u77 u78 u79 u80 u81 u82 u83 u84 u85 u86 u87 u88 u89 u90 u91 u92 u93 u94 u95 u96 u97 u98 u99 u100 u101 u102 u103 u104 u105 u106 u107 u108 u109 u110 u111 u112 u113 u114 u115 u116 u117 u118 u119 u120 u121 u122 u123 u124 u125 u126 u127 u128 u129 u130 u131 u132 u133 u134 u135 u136 u137 u138 u139 u140 u141 u142 u143 u144 u145 u146 u147 u148 u149 u150 u151 u152 u153 u154 u155 u156 u157 u158 u159 u160 u161 u162 u163 u164 u165 u166 u167 u168 u169 u170 u171 u172 u173 u174 u175 u176 : Value)
    (hK : ∀ (x60 x61 x62 x63 x64 x65 x66 x67 x68 x69 x70 x71 x72 x73 x74 x75 x76 x77 x78 x79 x80 x81 x82 x83 x84 x85 x86 x87 x88 x89 x90 x91 x92 x93 x94 x95 x96 x97 x98 x99 x100 x101 x102 x103 x104 x105 x106 x107 x108 x109 x110 : Value) (wy : World), PAt wy W0 b g vF vR ga S T D (addP q s X) none → Q' .normal ⟨#[.pointer (some ⟨b, 0, none⟩), u1, sl ga S.n, .int .i64 (s : Int), u4, u5, .int .i64 (q : Int), u7, u8, u9, u10, u11, u12, u13, u14, u15, u16, u17, u18, u19, u20, u21, u22, u23, u24, u25, u26, u27, u28, u29, u30, u31, u32, u33, u34, u35, u36, u37, u38, u39, u40, u41, u42, u43, u44, u45, u46, u47, u48, u49, u50, u51, u52, u53, u54, u55, u56, u57, u58, u59, x60, x61, x62, x63, x64, x65, x66, x67, x68, x69, x70, x71, x72, x73, x74, x75, x76, x77, x78, x79, x80, x81, x82, x83, x84, x85, x86, x87, x88, x89, x90, x91, x92, x93, x94, x95, x96, x97, x98, x99, x100, x101, x102, x103, x104, x105, x106, x107, x108, x109, x110, u111, u112, u113, u114, u115, u116, u117, u118, u119, u120, u121, u122, u123, u124, u125, u126, u127, u128, u129, u130, u131, u132, u133, u134, u135, u136, u137, u138, u139, u140, u141, u142, u143, u144, u145, u146, u147, u148, u149, u150, u151, u152, u153, u154, u155, u156, u157, u158, u159, u160, u161, u162, u163, u164, u165, u166, u167, u168, u169, u170, u171, u172, u173, u174, u175, u176], []⟩ wy) :
    Code.wp Try.prog pairR10C (Exit.then K Q') ⟨#[.pointer (some ⟨b, 0, none⟩), u1, sl ga S.n, .int .i64 (s : Int), u4, u5, .int .i64 (q : Int), u7, u8, u9, u10, u11, u12, u13, u14, u15, u16, u17, u18, u19, u20, u21, u22, u23, u24, u25, u26, u27, u28, u29, u30, u31, u32, u33, u34, u35, u36, u37, u38, u39, u40, u41, u42, u43, u44, u45, u46, u47, u48, u49, u50, u51, u52, u53, u54, u55, u56, u57, u58, u59, u60, u61, u62, u63, u64, u65, u66, u67, u68, u69, u70, u71, u72, u73, u74, u75, u76, u77, u78, u79, u80, u81, u82, u83, u84, u85, u86, u87, u88, u89, u90, u91, u92, u93, u94, u95, u96, u97, u98, u99, u100, u101, u102, u103, u104, u105, u106, u107, u108, u109, u110, u111, u112, u113, u114, u115, u116, u117, u118, u119, u120, u121, u122, u123, u124, u125, u126, u127, u128, u129, u130, u131, u132, u133, u134, u135, u136, u137, u138, u139, u140, u141, u142, u143, u144, u145, u146, u147, u148, u149, u150, u151, u152, u153, u154, u155, u156, u157, u158, u159, u160, u161, u162, u163, u164, u165, u166, u167, u168, u169, u170, u171, u172, u173, u174, u175, u176], []⟩ wx := by
  have HK := hid hK
  clear hK
  have hn4 : S.n ≤ 4096 := h.st.n4
  have hm4 : S.m ≤ 4096 := h.st.m4
  obtain ⟨o, fn, hm, hMO, hfn⟩ := hM.at1 q bm hq hmb
  obtain ⟨A, cP, rfl⟩ : ∃ A c, vP = .slice A X.P c := own_formP h.pairsOwn
  have H := hid h
  have HM := hid hM
  have Hse := hid hse
  have Hle := hid hle
  have Hol := hid hol
  clear h hM hse hle hol
  refine pairR10 wx W0 _ _ T _ _ H.out ga _ rfl l rfl q s bm hq (by omega) (by show Value.map (mb q) = _; rw [hmb]) o hm fn X.P hMO (by unfold maxLen; omega) A cP rfl (by show X.P ≤ _; omega) _ _ _ _ _ _ _ _ _ _ _ _ _ _ _ _ _ _ _ _ _ _ _ _ _ _ _ _ _ _ _ _ _ _ _ _ _ _ _ _ _ _ _ _ _ _ _ _ _ _ _ _ _ _ _ _ _ _ _ _ _ _ _ _ _ _ _ _ _ _ _ _ _ _ _ _ _ _ _ _ _ _ _ _ _ _ _ _ _ _ _ _ _ _ _ _ _ _ _ _ _ _ _ _ _ _ _ _ _ _ _ _ _ _ _ _ _ _ _ _ _ _ _ _ _ _ _ _ _ _ _ _ _ _ _ _ _ _ _ _ _ _ _ _ _ _ _ _ _ _ _ _ _ _ _ _ _ _ _ _ _ _ _ _ _ _ _ _ _ _ _ _ _ _ ?_
  intro y60 y61 y62 y63 y64 y65 y66 y67 y68 y69 w1 o1 h1 hMO1
  have HM1 := hid (HM.out.turn hq hmb hm hfn hMO1)
  have H1 := hid h1
  clear h1 hMO1
  refine hKK _ _ ?_
  clear hKK
  conv => arg 2; whnf
  go_wp2
  refine pairR11 w1 W0 _ _ T _ _ H1.out s 0 hs (by show (X.ofs s).length ≤ _; have := Hol.out; omega) A cP rfl (by show X.P ≤ _; omega) _ _ _ _ _ _ _ _ _ _ _ _ _ _ _ _ _ _ _ _ _ _ _ _ _ _ _ _ _ _ _ _ _ _ _ _ _ _ _ _ _ _ _ _ _ _ _ _ _ _ _ _ _ _ _ _ _ _ _ _ _ _ _ _ _ _ _ _ _ _ _ _ _ _ _ _ _ _ _ _ _ _ _ _ _ _ _ _ _ _ _ _ _ _ _ _ _ _ _ _ _ _ _ _ _ _ _ _ _ _ _ _ _ _ _ _ _ _ _ _ _ _ _ _ _ _ _ _ _ _ _ _ _ _ _ _ _ _ _ _ _ _ _ _ _ _ _ _ _ _ _ _ _ _ _ _ _ _ _ _ _ _ _ _ _ _ _ _ _ _ _ _ _ _ _ _ ?_
  intro y70 y71 y72 y73 y74 y75 y76 y77 y78 y79 y80 y81 y82 y83 y84 y85 y86 y87 y88 y89 w2 v2 h2
  have H2 := hid h2
  have e21 := h2.hPairs
  have Hown := hid h2.pairsOwn
  have hold : W0.heap.size ≤ w2.heap.size := h2.sp.old.size
  obtain ⟨i0, hi', hz0, hz1, hz2⟩ := info_parts4 infoAg
  have Haft : Hid (∀ (cs : Array Value) (t : TypeId) (v' : Value) (w3 : World), w3.ownsRow W0.heap.size 146 4 v' (X.P + 1) (tab (4 * X.P) (pairC (X.S S) (X.D D)) ++ [Value.int .i64 (q : Int), .int .i64 (s : Int), .bool false, .int .i64 0]) → (w2.alloc (.cells cs t)).grownBy w3 (Value.slice A X.P cP).ownBlock →
      (v'.ownBlock = (Value.slice A X.P cP).ownBlock ∨ v'.ownBlock = some (w2.alloc (.cells cs t)).heap.size) → w3.cell? ⟨b, 21, none⟩ = some (.slice A X.P cP) ∧ w3.frozen? ⟨b, 21, none⟩ = false ∧ EngV (w3.setCell ⟨b, 21, none⟩ v') W0 _ _ T _ vT) := hid (by
    intro cs t v' w3 ho hg hat
    have h3 := h2.ext (ext_alloc w2 (.cells cs t))
    obtain ⟨k1, k2⟩ := h3.afterPairs hg
    refine ⟨k1, k2, h3.growPairs (q := q) (s := s) hg Hse.out Hle.out ho fun g e => ?_⟩
    rcases hat with e1 | e1
    · exact .inl (by rw [← e1]; exact e)
    · rw [e1] at e; injection e with e; exact .inr (by omega))
  clear h2
  go_wp2_with (at_builtin; refine wpList_append_own_at _ rfl _ _ 107 rfl W0.heap.size 146 i0 (.agg #[.int .i64 0, .int .i64 0, .bool false, .int .i64 0]) 4 32 Try.underlying107 hi' hz0 hz1 hz2 rfl (by decide) (.slice A X.P cP) X.P _ rfl (Hown.out.alloc _) ⟨w2.heap.size, 0, none⟩ 1 1 [.int .i64 (q : Int), .int .i64 (s : Int), .bool false, .int .i64 0] rfl rfl (cell_four_new _ _ _ _ _ _) (fun u hu => by simp at hu; rcases hu with rfl | rfl | rfl | rfl <;> rfl) (by unfold maxLen; omega) (by omega) (by simp; omega) ?_; intro v' w3 hown' hgrow3 hnil3 hat3; obtain ⟨gn, cn, rfl⟩ := own_formS hown'; obtain ⟨k1, k2, h4'⟩ := Haft.out _ _ _ w3 hown' hgrow3 hat3; have e19 := h4'.hAttacks; have c19 := h4'.rAttacks hq; have f19 := h4'.fAttacks q; have H4 := hid h4'; clear h4')
  have h5 := H4.out.wAttacks q (wrap64 ((X.D D).attacks q + 1))
  exact HK.out _ _ _ _ _ _ _ _ _ _ _ _ _ _ _ _ _ _ _ _ _ _ _ _ _ _ _ _ _ _ _ _ _ _ _ _ _ _ _ _ _ _ _ _ _ _ _ _ _ _ _ _ ⟨_, _, _, _, _, _, mb, _, h5, HM1.out, fun z e => by cases e⟩
end Go.Proofs.Lx

namespace Go.Proofs.Lx
open Go Go.RowKit Go.Proofs.Tj
set_option linter.unusedSimpArgs false
set_option linter.unusedVariables false

theorem mapNil1 (b : Nat) (W : World) : Sem.run Try.prog (binOp BinOp.eql 157 (.map (some b)) (.map none)) W = .ok (.bool false) W := by kernel_rfl
theorem mapNil2 (W : World) : Sem.run Try.prog (binOp BinOp.eql 157 (.map none) (.map none)) W = .ok (.bool true) W := by kernel_rfl
theorem updMap (mb : Nat → Option Nat) (q : Nat) (z : Option Nat) : Tj.upd (fun q => Value.map (mb q)) q (.map z) = fun j => Value.map (Tj.upd mb q z j) := by
  funext j
  unfold Tj.upd
  by_cases e : j = q
  · rw [if_pos e, if_pos e]
  · rw [if_neg e, if_neg e]
def pr1 (D : Dyn) (s : Nat) (X : PX) (q : Nat) : PX := if D.backs q = 0 then X else addP q s X
def prs (S : Stc) (D : Dyn) (X : PX) (s : Nat) : PX := (S.foes (S.head s)).foldl (pr1 D s) X
def prAll (S : Stc) (D : Dyn) (X : PX) (k : Nat) : PX := (List.range k).foldl (prs S D) X
theorem pr1_le (D : Dyn) (s : Nat) (X : PX) (q : Nat) : X.P ≤ (pr1 D s X q).P := by unfold pr1; split; exact Nat.le_refl _; exact Nat.le_succ _
theorem foldl_le {α : Type} (f : PX → α → PX) (hf : ∀ X a, X.P ≤ (f X a).P) : ∀ (l : List α) (X : PX), X.P ≤ (l.foldl f X).P
  | [], X => Nat.le_refl _
  | a :: l, X => Nat.le_trans (hf X a) (foldl_le f hf l (f X a))
theorem prs_le (S : Stc) (D : Dyn) (X : PX) (s : Nat) : X.P ≤ (prs S D X s).P := foldl_le _ (fun X q => pr1_le D s X q) _ X
theorem take_le {α : Type} (f : PX → α → PX) (hf : ∀ X a, X.P ≤ (f X a).P) (l : List α) (X : PX) (j : Nat) : ((l.take j).foldl f X).P ≤ (l.foldl f X).P := by
  conv => rhs; rw [← List.take_append_drop j l, List.foldl_append]
  exact foldl_le f hf _ _
theorem prAll_mono (S : Stc) (D : Dyn) (X : PX) {k m : Nat} (h : k ≤ m) : (prAll S D X k).P ≤ (prAll S D X m).P := by
  unfold prAll
  have e : List.range k = (List.range m).take k := by rw [List.take_range, Nat.min_eq_left h]
  rw [e]; exact take_le _ (fun X s => prs_le S D X s) _ _ _
def OfL (X : PX) : Prop := ∀ s, (X.ofs s).length ≤ X.P
theorem OfL.pr1 {D : Dyn} {s q : Nat} {X : PX} (h : OfL X) : OfL (pr1 D s X q) := by
  unfold Lx.pr1; split
  · exact h
  · intro r
    show (Tj.upd X.ofs s (X.ofs s ++ [X.P]) r).length ≤ X.P + 1
    by_cases e : r = s
    · rw [e, Tj.upd_same, List.length_append]; have := h s; simp; omega
    · rw [Tj.upd_ne e]; have := h r; omega
theorem OfL.foldl {α : Type} {f : PX → α → PX} (hf : ∀ X a, OfL X → OfL (f X a)) : ∀ (l : List α) (X : PX), OfL X → OfL (l.foldl f X)
  | [], X, h => h
  | a :: l, X, h => OfL.foldl hf l (f X a) (hf X a h)
theorem OfL.prs {S : Stc} {D : Dyn} {s : Nat} {X : PX} (h : OfL X) : OfL (prs S D X s) := OfL.foldl (fun X q h => h.pr1) _ X h
theorem OfL.prAll {S : Stc} {D : Dyn} {k : Nat} {X : PX} (h : OfL X) : OfL (prAll S D X k) := OfL.foldl (fun X q h => h.prs) _ X h
theorem range_foldl_px (S : Stc) (D : Dyn) (X : PX) (k : Nat) : prAll S D X (k + 1) = prs S D (prAll S D X k) k := by unfold prAll; rw [List.range_succ, List.foldl_append]; rfl
theorem take_foldl_px (D : Dyn) (s : Nat) (X : PX) (l : List Nat) (k : Nat) (h : k < l.length) : (l.take (k + 1)).foldl (pr1 D s) X = pr1 D s ((l.take k).foldl (pr1 D s) X) l[k] := by rw [List.take_add_one, List.getElem?_eq_getElem h, List.foldl_append]; rfl
set_option maxRecDepth 1000000 in
set_option maxHeartbeats 60000000 in
theorem pair_s1 (w W0 : World) (b : Nat) (g : Key → Nat) (vF vR : Value) (ga : Nat) (S : Stc) (T : Th) (D : Dyn) (X0 : PX) (h : PAt w W0 b g vF vR ga S T D X0 none) (hPt : (prAll S D X0 S.m).P ≤ 65536) (hok : OfL X0) (hsl : ∀ p, D.settled p = false ∧ D.left p = 0)
    (f : Nat → Value) (K : Act → World → Prop) (Q' : Exit → Act → World → Prop)
    (hK : ∀ (t : Array Value) (w' : World), t.size = 177 → t[0]? = some (.pointer (some ⟨b, 0, none⟩)) → t[2]? = some (sl ga S.n) → PAt w' W0 b g vF vR ga S T D (prAll S D X0 S.m) none → K ⟨t, []⟩ w') :
    Code.wp Try.prog pairSeg1 (Exit.then K Q') ⟨#[.pointer (some ⟨b, 0, none⟩), (f 1), sl ga S.n, (f 3), (f 4), (f 5), (f 6), (f 7), (f 8), (f 9), (f 10), (f 11), (f 12), (f 13), (f 14), (f 15), (f 16), (f 17), (f 18), (f 19), (f 20), (f 21), (f 22), (f 23), (f 24), (f 25), (f 26), (f 27), (f 28), (f 29), (f 30), (f 31), (f 32), (f 33), (f 34), (f 35), (f 36), (f 37), (f 38), (f 39), (f 40), (f 41), (f 42), (f 43), (f 44), (f 45), (f 46), (f 47), (f 48), (f 49), (f 50), (f 51), (f 52), (f 53), (f 54), (f 55), (f 56), (f 57), (f 58), (f 59), (f 60), (f 61), (f 62), (f 63), (f 64), (f 65), (f 66), (f 67), (f 68), (f 69), (f 70), (f 71), (f 72), (f 73), (f 74), (f 75), (f 76), (f 77), (f 78), (f 79), (f 80), (f 81), (f 82), (f 83), (f 84), (f 85), (f 86), (f 87), (f 88), (f 89), (f 90), (f 91), (f 92), (f 93), (f 94), (f 95), (f 96), (f 97), (f 98), (f 99), (f 100), (f 101), (f 102), (f 103), (f 104), (f 105), (f 106), (f 107), (f 108), (f 109), (f 110), (f 111), (f 112), (f 113), (f 114), (f 115), (f 116), (f 117), (f 118), (f 119), (f 120), (f 121), (f 122), (f 123), (f 124), (f 125), (f 126), (f 127), (f 128), (f 129), (f 130), (f 131), (f 132), (f 133), (f 134), (f 135), (f 136), (f 137), (f 138), (f 139), (f 140), (f 141), (f 142), (f 143), (f 144), (f 145), (f 146), (f 147), (f 148), (f 149), (f 150), (f 151), (f 152), (f 153), (f 154), (f 155), (f 156), (f 157), (f 158), (f 159), (f 160), (f 161), (f 162), (f 163), (f 164), (f 165), (f 166), (f 167), (f 168), (f 169), (f 170), (f 171), (f 172), (f 173), (f 174), (f 175), (f 176)], []⟩ w := by
  have HK := hid hK
  have H0 := hid h
  obtain ⟨vB, vP, vin, vof, vbe, l, mb, vT, h, hM, _⟩ := h
  have Hm : Hid (T.rules.length = S.m) := hid h.st.m
  have Hn : Hid (T.foes.length = S.n) := hid h.st.n
  have hn4 : S.n ≤ 4096 := h.st.n4
  have hm4 : S.m ≤ 4096 := h.st.m4
  have Hhdn : Hid (∀ r, r < S.m → S.head r < S.n) := hid h.st.hdn
  have Hfon : Hid (∀ q, q < S.n → ∀ f ∈ S.foes q, f < S.n) := hid h.st.fon
  obtain ⟨AR, cR, rfl⟩ : ∃ A c, vR = .slice A S.m c := by
    obtain ⟨A, c, e, _⟩ := h.rR
    exact ⟨A, c, by rw [← Hm.out]; exact e⟩
  obtain ⟨AF, cF, rfl⟩ : ∃ A c, vF = .slice A S.n c := by
    obtain ⟨A, c, e, _⟩ := h.rF
    exact ⟨A, c, by rw [← Hn.out]; exact e⟩
  have e2 := h.hR
  have HPt := hid hPt
  have Hok := hid hok
  have Hsl := hid hsl
  clear hK h hM hPt hok hsl
  conv => arg 2; whnf
  go_wp2
  clear e2
  go_loopw [24] (fun v24 wr => ∃ k : Nat, k ≤ S.m ∧ v24 = .int .i64 k ∧ PAt wr W0 b g (.slice AF S.n cF) (.slice AR S.m cR) ga S T D (prAll S D X0 k) none) (fun v24 _ => S.m - (intOf v24).toNat)
  case atStart => exact ⟨0, Nat.zero_le _, rfl, H0.out⟩
  case round =>
    obtain ⟨k, hk, rfl, hla⟩ := hrel
    by_cases hlt : k < S.m
    · obtain ⟨vB, vP, vin, vof, vbe, l, mb, vT, h, hM, _⟩ := hla
      have HM := hid hM
      have Hs := hid (range_foldl_px S D X0 k)
      have Hle := hid (prAll_mono S D X0 (show k + 1 ≤ S.m by omega))
      rw [Hs.out] at Hle
      have Hokk : Hid (OfL (prAll S D X0 k)) := hid Hok.out.prAll
      generalize prAll S D X0 k = Xk at *
      obtain ⟨gR, B, c1, c2, eR, kk⟩ := h.rule (show k < (Xk.S S).m from hlt)
      cases eR
      obtain ⟨k0, k1, k2⟩ := kk wr h.sp.old
      have hhd := Hhdn.out k hlt
      obtain ⟨kd, Hkd⟩ : ∃ kd, Hid (S.kind k = kd) := ⟨_, hid rfl⟩
      obtain ⟨hd, Hhd⟩ : ∃ hd, Hid (S.head k = hd) := ⟨_, hid rfl⟩
      obtain ⟨bl, Hbl⟩ : ∃ bl, Hid (S.bodyLen k = bl) := ⟨_, hid rfl⟩
      rw [show (Xk.S S).kind k = kd from Hkd.out] at k0
      rw [show (Xk.S S).head k = hd from Hhd.out] at k1
      rw [Hhd.out] at hhd
      rw [show (Xk.S S).bodyLen k = bl from Hbl.out] at k2
      obtain ⟨gF, BF, c3, c4, eF, kf, hfl, kff⟩ := h.foes (show hd < (Xk.S S).n from hhd)
      cases eF
      have Hfok := hid (Hfon.out hd hhd)
      have Hprs : Hid (prs S D Xk k = (S.foes hd).foldl (pr1 D k) Xk) := hid (by unfold prs; rw [Hhd.out])
      have efo : (Xk.S S).foes hd = S.foes hd := rfl
      rw [efo] at hfl
      have Kf : Hid (∀ w', Below W0.heap.size W0 w' → w'.cell? (gF.add hd) = some (.slice BF (S.foes hd).length c4)) := hid kf
      have Kff : Hid (∀ i (hi : i < (S.foes hd).length), ∃ ad, BF = some ad ∧ ∀ w', Below W0.heap.size W0 w' → w'.cell? (ad.add i) = some (.int .i64 ((S.foes hd)[i] : Int))) := hid kff
      clear kf kff efo
      generalize S.foes hd = fo at *
      have h1 := h.addX2l rfl (.cells #[.int .i64 kd, .int .i64 (hd : Int), .slice B bl c2] 37)
      have hz := h1.inX2 rfl (List.mem_cons_self)
      have H1 := hid h1
      have HM1 := hid (HM.out.more (wr.heap.size, .cells #[.int .i64 kd, .int .i64 (hd : Int), .slice B bl c2] 37))
      have x21 : (wr.alloc (.cells #[.int .i64 kd, .int .i64 (hd : Int), .slice B bl c2] 37)).cell? ⟨wr.heap.size, 1, none⟩ = some (.int .i64 (hd : Int)) := cell_of_row _ _ 1 _ _ _ hz
      have e1 := h1.hF
      have kf1 := Kf.out _ h1.sp.old
      clear h h1 hz kk
      go_wp2
      clear k0 k1 k2
      go_quiet (fail)
      have H2 := hid (H1.out.drewN nq)
      generalize (wr.alloc (.cells #[.int .i64 kd, .int .i64 (hd : Int), .slice B bl c2] 37)).drewN nq = w2 at *
      clear x21 e1 kf1
      go_wp2
      go_loopw [39] (fun v39 wr => ∃ j : Nat, j ≤ fo.length ∧ v39 = .int .i64 j ∧ PAt wr W0 b g (.slice (some gF) S.n cF) (.slice (some gR) S.m cR) ga S T D ((fo.take j).foldl (pr1 D k) Xk) none) (fun v39 _ => fo.length - (intOf v39).toNat)
      case atStart => exact ⟨0, Nat.zero_le _, rfl, _, _, _, _, _, _, _, _, H2.out, HM1.out, fun z e => by cases e⟩
      case round =>
        obtain ⟨j, hj, rfl, hla⟩ := hrel
        by_cases hjl : j < fo.length
        · obtain ⟨vB3, vP3, vin3, vof3, vbe3, l3, mb3, vT3, h3, hM3, _⟩ := hla
          have Hsj := hid (take_foldl_px D k Xk fo j hjl)
          have HlP : Hid (((fo.take j).foldl (pr1 D k) Xk).P ≤ 65536) := hid (by
            have e1 := take_le (pr1 D k) (fun X q => pr1_le D k X q) fo Xk j
            have e2 := Hle.out
            rw [Hprs.out] at e2
            have e3 := HPt.out
            omega)
          have Hol3 : Hid (OfL ((fo.take j).foldl (pr1 D k) Xk)) := hid (OfL.foldl (fun X q h => h.pr1) _ _ Hokk.out)
          generalize (fo.take j).foldl (pr1 D k) Xk = X3 at *
          obtain ⟨ad, rfl, kc⟩ := Kff.out j hjl
          have c := kc wr h3.sp.old
          obtain ⟨q, Hq⟩ : ∃ q, Hid (fo[j] = q) := ⟨_, hid rfl⟩
          have hqn : q < S.n := by rw [← Hq.out]; exact Hfok.out _ (List.getElem_mem hjl)
          rw [Hq.out] at c Hsj
          have e15 : wr.cell? ⟨b, 15, none⟩ = some (sl (g .backs) S.n) := h3.hBacks
          have c15 : wr.cell? ⟨g .backs, q, none⟩ = some (.int .i64 (D.backs q)) := h3.rBacks hqn
          obtain ⟨ca, fa⟩ := h3.readX1g rfl hqn
          have H3 := hid h3
          have HM3 := hid hM3
          have hgab : ga ≠ b := h3.sp.far .x1 ga rfl
          have hzl : ga < wr.heap.size := (Cont.ok_lt (h3.sp.ok .x1) (show (contE _ _ _ _ .x1).fp ga from rfl)).2
          clear h3 hM3 kc
          obtain ⟨bq, Hbq⟩ : ∃ bq, Hid (D.backs q = bq) := ⟨_, hid rfl⟩
          rw [Hbq.out] at c15
          by_cases hb0 : bq = 0
          · have Hp : Hid (pr1 D k X3 q = X3) := hid (by unfold pr1; rw [if_pos (by rw [Hbq.out]; exact hb0)])
            subst hb0
            go_wp2
            go_roundw
            case rel =>
              refine ⟨j + 1, by omega, by go_num, ?_⟩
              rw [Hsj.out, Hp.out]
              exact ⟨_, _, _, _, _, _, _, _, H3.out, HM3.out, fun z e => by cases e⟩
            case measure => simp [intOf]; omega
          · have hme1 := mapNil1
            have hme2 := mapNil2
            have Hp : Hid (pr1 D k X3 q = addP q k X3) := hid (by unfold pr1; rw [if_neg (by rw [Hbq.out]; exact hb0)])
            cases hmq : mb3 q with
            | some bm =>
              rw [hmq] at ca
              go_wp2
              refine pairRest wr W0 b g _ _ ga S T D X3 _ _ _ _ _ _ mb3 _ H3.out HM3.out q k bm hqn hlt hmq HlP.out (Hol3.out k) (Hsl.out _).1 (Hsl.out _).2 _ _ (by assumption) _ _ _ _ _ _ _ _ _ _ _ _ _ _ _ _ _ _ _ _ _ _ _ _ _ _ _ _ _ _ _ _ _ _ _ _ _ _ _ _ _ _ _ _ _ _ _ _ _ _ _ _ _ _ _ _ _ _ _ _ _ _ _ _ _ _ _ _ _ _ _ _ _ _ _ _ _ _ _ _ _ _ _ _ _ _ _ _ _ _ _ _ _ _ _ _ _ _ _ _ _ _ _ _ _ _ _ _ _ _ _ _ _ _ _ _ _ _ _ _ _ _ _ _ _ _ _ _ _ _ _ _ _ _ _ _ _ _ _ _ _ _ _ _ _ _ _ _ _ _ _ _ _ _ _ _ _ _ _ _ _ _ _ _ _ _ _ _ _ _ _ _ _ ?_
              intro y60 y61 y62 y63 y64 y65 y66 y67 y68 y69 y70 y71 y72 y73 y74 y75 y76 y77 y78 y79 y80 y81 y82 y83 y84 y85 y86 y87 y88 y89 y90 y91 y92 y93 y94 y95 y96 y97 y98 y99 y100 y101 y102 y103 y104 y105 y106 y107 y108 y109 y110 w5 h5
              have H5 := hid h5
              clear h5
              go_wp2
              go_roundw
              case rel =>
                refine ⟨j + 1, by omega, by go_num, ?_⟩
                rw [Hsj.out, Hp.out]
                exact H5.out
              case measure => simp [intOf]; omega
            | none =>
              rw [hmq] at ca
              have hmm := @run_makeMap Try.prog
              have h4 := (H3.out.writeX1g rfl q (.map (some wr.heap.size))).addX2l rfl (.map #[] 0)
              rw [updMap, show (wr.setCell ⟨ga, q, none⟩ (.map (some wr.heap.size))).heap.size = wr.heap.size by simp] at h4
              have H4 := hid h4
              clear h4
              have hzn : ∀ o, (wr.heap.size, o) ∉ l3 := fun o hm => absurd (lt_of_obj (H3.out.inX2 rfl hm)) (Nat.lt_irrefl _)
              have HM4 := hid (HM3.out.make hqn hmq hzn)
              have ca4 : (wr.alloc (.map #[] 0)).cell? ⟨ga, q, none⟩ = some (.map none) := cell_ext (ext_alloc wr _) ca
              have fa4 : (wr.alloc (.map #[] 0)).frozen? ⟨ga, q, none⟩ = false := ((H3.out.addX2l rfl (.map #[] 0)).readX1g rfl hqn).2
              have hst : ∀ (a : Addr) (m : Option Nat) (W : World), Sem.run Try.prog (store a (.map m) .plain) W = stored Try.prog W a (.map m) .plain := fun a m W => run_store Try.prog W a _ _ rfl
              clear hzn
              go_wp2
              refine pairRest _ W0 b g _ _ ga S T D X3 _ _ _ _ _ _ _ _ H4.out HM4.out q k wr.heap.size hqn hlt (Tj.upd_same _ _ _) HlP.out (Hol3.out k) (Hsl.out _).1 (Hsl.out _).2 _ _ (by assumption) _ _ _ _ _ _ _ _ _ _ _ _ _ _ _ _ _ _ _ _ _ _ _ _ _ _ _ _ _ _ _ _ _ _ _ _ _ _ _ _ _ _ _ _ _ _ _ _ _ _ _ _ _ _ _ _ _ _ _ _ _ _ _ _ _ _ _ _ _ _ _ _ _ _ _ _ _ _ _ _ _ _ _ _ _ _ _ _ _ _ _ _ _ _ _ _ _ _ _ _ _ _ _ _ _ _ _ _ _ _ _ _ _ _ _ _ _ _ _ _ _ _ _ _ _ _ _ _ _ _ _ _ _ _ _ _ _ _ _ _ _ _ _ _ _ _ _ _ _ _ _ _ _ _ _ _ _ _ _ _ _ _ _ _ _ _ _ _ _ _ _ _ _ ?_
              intro y60 y61 y62 y63 y64 y65 y66 y67 y68 y69 y70 y71 y72 y73 y74 y75 y76 y77 y78 y79 y80 y81 y82 y83 y84 y85 y86 y87 y88 y89 y90 y91 y92 y93 y94 y95 y96 y97 y98 y99 y100 y101 y102 y103 y104 y105 y106 y107 y108 y109 y110 w5 h5
              have H5 := hid h5
              clear h5
              go_wp2
              go_roundw
              case rel =>
                refine ⟨j + 1, by omega, by go_num, ?_⟩
                rw [Hsj.out, Hp.out]
                exact H5.out
              case measure => simp [intOf]; omega
        · obtain rfl : j = fo.length := by omega
          rw [List.take_length] at hla
          have hla2 := hid hla
          clear hla
          go_wp2
          go_roundw
          case rel =>
            refine ⟨k + 1, by omega, by go_num, ?_⟩
            rw [Hs.out, Hprs.out]
            exact hla2.out
          case measure => simp [intOf]; omega
    · obtain rfl : k = S.m := by omega
      have hla2 := hid hla
      clear hla
      go_wp2
      refine HK.out _ _ ?_ ?_ ?_ hla2.out
      · rfl
      · rfl
      · rfl
end Go.Proofs.Lx
