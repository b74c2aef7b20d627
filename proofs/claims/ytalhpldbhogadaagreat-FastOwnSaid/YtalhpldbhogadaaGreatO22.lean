/- Parts of the proof: Fl, Fp. Maps beside the engine: pair's table of maps. No condition. -/
import Derived.Test.YtalhpldbhogadaaGreatO21
import Derived.Maps.OwnOps
import Derived.Maps.Views
import Derived.Test.YtalhpldbhogadaaGreatO19
import Derived.Test.YtalhpldbhogadaaGreatO8
import Derived.Deep.DeepCutAuto
import Derived.Deep.RegionHeld3
namespace Go.Proofs.Lx
open Go Go.RowKit Go.Proofs.Tj
set_option linter.unusedVariables false
set_option linter.unusedSimpArgs false

theorem mapKeyed : Go.Maps.Keyed Tryz.prog 3 := Go.Maps.int_keyed Tryz.underlying3
theorem zeroInt (w : World) : (zeroValue 3).run Tryz.prog w = .ok (.int .i64 0) w := by kernel_rfl
theorem wfI (s : Int) (h0 : -9223372036854775808 ≤ s) (h1 : s ≤ 9223372036854775807) : (Lit.int .i64 s).wf = true := WalkArith.wf_i64 (by omega)
/-- Block b is a map of at most c numbers that reads as fn. -/
def MW (w : World) (b c : Nat) (fn : Int → Int) : Prop := ∃ D : DataW Unit, w.ownsMap Tryz.prog 3 (plainElem Tryz.prog 3) b c D ∧ ∀ s : Int, (Lit.int .i64 s).wf = true → D.atKey (.int .i64 s) (.lit (.int .i64 0)) = .lit (.int .i64 (fn s))
def MO (o : Obj) (c : Nat) (fn : Int → Int) : Prop := ∀ (w : World) (b : Nat), w.heap[b]? = some o → MW w b c fn
theorem MW.obj {w : World} {b c : Nat} {fn : Int → Int} (h : MW w b c fn) : ∃ o, w.heap[b]? = some o ∧ MO o c fn := by
 obtain ⟨D, ⟨es, clock, hb, F, hs, hD⟩, hat⟩ := h
 exact ⟨_, hb, fun w' b' hb' => ⟨D, ⟨es, clock, hb', F, hs, hD⟩, hat⟩⟩
theorem MO.mono {o : Obj} {c c' : Nat} {fn : Int → Int} (h : MO o c fn) (hc : c ≤ c') : MO o c' fn := fun w b hb => by
 obtain ⟨D, h1, h2⟩ := h w b hb
 exact ⟨D, h1.mono hc, h2⟩
theorem MO.new : MO (.map #[] 0) 0 (fun _ => 0) := fun w b hb => by
 have h := World.ownsMap_made (H := Unit) w Tryz.prog 3 (plainElem Tryz.prog 3)
 obtain ⟨es, clock, hb0, F, hs, hD⟩ := h
 have e := (heap_alloc_new w (.map #[] 0)).symm.trans hb0
 injection e with e
 injection e with e1 e2
 subst e1; subst e2
 exact ⟨.map [], ⟨#[], 0, hb, F, hs, hD⟩, fun s _ => Go.Maps.atKey_of_not_has rfl _⟩
theorem MW.update {w : World} {b c : Nat} {fn : Int → Int} (h : MW w b c fn) (hc : c < maxLen) {s v : Int} (hs : (Lit.int .i64 s).wf = true) (hv : (Lit.int .i64 v).wf = true) :
  ∃ w', (Instr.mapUpdate 201 (.map (some b)) (.int .i64 s) (.int .i64 v)).run Tryz.prog w = .ok () w' ∧ MW w' b (c + 1) (fun x => if x = s then v else fn x) ∧ w.grownBy w' (some b) := by
 obtain ⟨D, h1, h2⟩ := h
 obtain ⟨w', r1, r2, r3⟩ := h1.update mapKeyed Tryz.underlying201 hc (Go.Maps.keyOf_int_mk Tryz.underlying3 hs) (plainElem_int Tryz.underlying3 hv)
 refine ⟨w', r1, ⟨_, r2, fun x hx => ?_⟩, r3⟩
 dsimp only
 by_cases e : x = s
 ·subst e
  rw [if_pos rfl]
  exact Go.Maps.atKey_put_same h1.isMap (by unfold WideAt.IsKeyLit; trivial) _ _
 ·rw [if_neg e, ← h2 x hx]
  exact Go.Maps.atKey_put_other (fun e2 => e (by injection e2)) _ _
theorem MW.look {w : World} {b c : Nat} {fn : Int → Int} (h : MW w b c fn) {s : Int} (hs : (Lit.int .i64 s).wf = true) :
  (Instr.lookup 201 (.map (some b)) (.int .i64 s) false).run Tryz.prog w = .ok (.int .i64 (fn s)) w := by
 obtain ⟨D, h1, h2⟩ := h
 obtain ⟨c', r1, r2, r3⟩ := h1.lookup_int mapKeyed Tryz.underlying201 Tryz.underlying3 (zeroInt w) (Go.Maps.keyOf_int_mk Tryz.underlying3 hs)
 have e := r2.symm.trans (h2 s hs)
 have e2 : c' = fn s := by
  generalize fn s = z at e
  cases e; rfl
 rw [← e2]; exact r1

section
variable {w w' W0 : World} {G : Gh} {S : Stc} {T : Th} {D : Dyn} {vT : Value}
theorem EngV.startX2 (h : EngV w W0 G S T D vT) : EngV w W0 { G with x2 := .blks [] } S T D vT := by
 refine ⟨h.sp.step (C' := contE { G with x2 := .blks [] } S D vT) .x2 (fun j hj => by cases j <;> first | rfl | exact absurd rfl hj) (Agr.of_below (ext_refl w) _) (fun k o' hm => absurd hm (by simp)) ?_, h.st, h.rF, h.rR, h.rB⟩
 rintro g ⟨o', hm⟩; simp at hm
theorem EngV.addX2l (h : EngV w W0 G S T D vT) {l : List (Nat × Obj)} (hx : G.x2 = .blks l) (o : Obj) : EngV (w.alloc o) W0 { G with x2 := .blks ((w.heap.size, o) :: l) } S T D vT := by
 refine ⟨h.sp.step (C' := contE { G with x2 := .blks ((w.heap.size, o) :: l) } S D vT) .x2 (fun j hj => by cases j <;> first | rfl | exact absurd rfl hj) (Agr.of_alloc0 w o _) ?_ ?_, h.st, h.rF, h.rR, h.rB⟩
 ·have hok : (contE G S D vT .x2).ok W0.heap.size w := h.sp.ok .x2
  have hok : Cont.ok W0.heap.size w (.blks l) := hx ▸ hok
  intro k o' hm
  rcases List.mem_cons.1 hm with e | e
  ·cases e; exact ⟨h.sp.old.size, heap_alloc_new w o⟩
  ·exact ⟨(hok k o' e).1, (Below.heap_alloc w o k (lt_of_obj (hok k o' e).2)).trans (hok k o' e).2⟩
 ·rintro g ⟨o', hm⟩
  rcases List.mem_cons.1 hm with e | e
  ·cases e; exact .inr (Nat.le_refl _)
  ·refine .inl ?_
   show (contE G S D vT .x2).fp g
   have : (contE G S D vT .x2) = .blks l := hx
   rw [this]; exact ⟨o', e⟩
theorem EngV.inX2 (h : EngV w W0 G S T D vT) {l : List (Nat × Obj)} (hx : G.x2 = .blks l) {k : Nat} {o : Obj} (hm : (k, o) ∈ l) : w.heap[k]? = some o := by
 have hok : (contE G S D vT .x2).ok W0.heap.size w := h.sp.ok .x2
 have hok : Cont.ok W0.heap.size w (.blks l) := hx ▸ hok
 exact (hok k o hm).2
theorem EngV.neX2 (h : EngV w W0 G S T D vT) {l : List (Nat × Obj)} (hx : G.x2 = .blks l) {k : Nat} {o : Obj} (hm : (k, o) ∈ l) (j : Key) (hj : j ≠ .x2) {g : Nat} (hg : (contE G S D vT j).fp g) : g ≠ k := fun e => by
 refine h.sp.ne j .x2 g hj hg ?_
 show G.x2.fp g
 rw [hx, e]; exact ⟨o, hm⟩
theorem EngV.bX2 (h : EngV w W0 G S T D vT) {l : List (Nat × Obj)} (hx : G.x2 = .blks l) {k : Nat} {o : Obj} (hm : (k, o) ∈ l) : k ≠ G.b := h.sp.far .x2 k (by show G.x2.fp k; rw [hx]; exact ⟨o, hm⟩)
def turnL (l : List (Nat × Obj)) (b : Nat) (o' : Obj) : List (Nat × Obj) := l.map fun p => if p.1 = b then (b, o') else p
theorem turnL_fst (l : List (Nat × Obj)) (b : Nat) (o' : Obj) : (turnL l b o').map (·.1) = l.map (·.1) := by
 unfold turnL
 rw [List.map_map]
 apply List.map_congr_left
 intro p _
 show (if p.1 = b then (b, o') else p).1 = p.1
 by_cases e : p.1 = b
 ·rw [if_pos e]; exact e.symm
 ·rw [if_neg e]
theorem turnL_mem {l : List (Nat × Obj)} {b : Nat} {o' : Obj} {k : Nat} {o : Obj} (h : (k, o) ∈ turnL l b o') : (k = b ∧ o = o' ∧ ∃ o2, (b, o2) ∈ l) ∨ (k ≠ b ∧ (k, o) ∈ l) := by
 unfold turnL at h
 obtain ⟨p, hp, e⟩ := List.mem_map.1 h
 by_cases e1 : p.1 = b
 ·rw [if_pos e1] at e
  injection e with e2 e3
  exact .inl ⟨e2.symm, e3.symm, p.2, by rw [← e1]; exact hp⟩
 ·rw [if_neg e1] at e
  subst e
  exact .inr ⟨e1, hp⟩
theorem turnL_same {l : List (Nat × Obj)} {b : Nat} {o o' : Obj} (h : (b, o) ∈ l) : (b, o') ∈ turnL l b o' := List.mem_map.2 ⟨(b, o), h, if_pos rfl⟩
theorem turnL_other {l : List (Nat × Obj)} {b k : Nat} {o o' : Obj} (h : (k, o) ∈ l) (hk : k ≠ b) : (k, o) ∈ turnL l b o' := List.mem_map.2 ⟨(k, o), h, if_neg hk⟩
theorem EngV.turnX2l (h : EngV w W0 G S T D vT) {l : List (Nat × Obj)} (hx : G.x2 = .blks l) {b : Nat} {o o' : Obj} (hm : (b, o) ∈ l) (hg : w.grownBy w' (some b)) (ho : w'.heap[b]? = some o') : EngV w' W0 { G with x2 := .blks (turnL l b o') } S T D vT := by
 have hok : (contE G S D vT .x2).ok W0.heap.size w := h.sp.ok .x2
 have hok : Cont.ok W0.heap.size w (.blks l) := hx ▸ hok
 have hC : contE G S D vT .x2 = .blks l := hx
 refine ⟨h.sp.step (C' := contE { G with x2 := .blks (turnL l b o') } S D vT) .x2 (fun j hj => by cases j <;> first | rfl | exact absurd rfl hj) ((Agr.of_grown hg).mono fun k e => ?_) ?_ ?_, h.st, h.rF, h.rR, h.rB⟩
 ·rw [hC]; injection e with e; subst e; exact ⟨o, hm⟩
 ·intro k o2 hk
  rcases turnL_mem hk with ⟨rfl, rfl, _⟩ | ⟨hne, hk2⟩
  ·exact ⟨(hok k o hm).1, ho⟩
  ·exact ⟨(hok k o2 hk2).1, (hg.block k (lt_of_obj (hok k o2 hk2).2) (fun e => hne (by injection e))).trans (hok k o2 hk2).2⟩
 ·rintro g ⟨o2, hk⟩
  rw [hC]
  rcases turnL_mem hk with ⟨rfl, _, o3, h3⟩ | ⟨_, h3⟩
  ·exact .inl ⟨o3, h3⟩
  ·exact .inl ⟨o2, h3⟩
/-- An array beside the engine, of whatever. -/
theorem EngV.madeX1g (h : EngV w W0 G S T D vT) (e : TypeId) (z : Value) (k : Nat) (hk : k ≤ maxLen) : EngV (w.alloc (.cells (List.replicate k z).toArray e)) W0 { G with x1 := .arr (sl w.heap.size k) e 1 k (tab k fun _ => z) } S T D vT := by
 refine ⟨h.sp.step (C' := contE { G with x1 := .arr (sl w.heap.size k) e 1 k (tab k fun _ => z) } S D vT) .x1 (fun j hj => by cases j <;> first | rfl | exact absurd rfl hj) (Agr.of_alloc0 w _ _) ?_ ?_, h.st, h.rF, h.rR, h.rB⟩
 ·exact own_rep (heap_alloc_new w _) h.sp.old.size hk
 ·intro g hg
  refine .inr ?_
  injection (show some w.heap.size = some g from hg) with e
  omega
theorem EngV.readX1g (h : EngV w W0 G S T D vT) {gx k e : Nat} {F : Nat → Value} (hx : G.x1 = .arr (sl gx k) e 1 k (tab k F)) {q : Nat} (hq : q < k) : w.cell? ⟨gx, q, none⟩ = some (F q) ∧ w.frozen? ⟨gx, q, none⟩ = false :=
 ⟨h.sp.readArr .x1 hx (tab_get hq), h.sp.freeArr .x1 hx q⟩
theorem EngV.writeX1g (h : EngV w W0 G S T D vT) {gx k e : Nat} {F : Nat → Value} (hx : G.x1 = .arr (sl gx k) e 1 k (tab k F)) (q : Nat) (x : Value) :
  EngV (w.setCell ⟨gx, q, none⟩ x) W0 { G with x1 := .arr (sl gx k) e 1 k (tab k (Tj.upd F q x)) } S T D vT :=
 ⟨h.sp.setArr (C' := contE { G with x1 := .arr (sl gx k) e 1 k (tab k (Tj.upd F q x)) } S D vT) .x1 hx q _ (by show Cont.arr _ _ _ _ _ = Cont.arr _ _ _ _ _; rw [tab_set]) (fun j hj => by cases j <;> first | rfl | exact absurd rfl hj), h.st, h.rF, h.rR, h.rB⟩
end
/-- The table of maps: number q's map, of what it holds. -/
structure MapsIn (n : Nat) (l : List (Nat × Obj)) (mb : Nat → Option Nat) (c : Nat) (A : Nat → Nat → Nat) : Prop where
 at1 : ∀ q b, q < n → mb q = some b → ∃ o fn, (b, o) ∈ l ∧ MO o c fn ∧ ∀ s : Nat, fn (s : Int) = (A q s : Int)
 nil : ∀ q, q < n → mb q = none → ∀ s, A q s = 0
 inj : ∀ q r b, q < n → r < n → mb q = some b → mb r = some b → q = r
def upd2 (A : Nat → Nat → Nat) (q s v : Nat) : Nat → Nat → Nat := Tj.upd A q (Tj.upd (A q) s v)
theorem MapsIn.start (n : Nat) (l : List (Nat × Obj)) : MapsIn n l (fun _ => none) 0 (fun _ _ => 0) := ⟨fun q b _ h => (by cases h), fun _ _ _ _ => rfl, fun q r b _ _ h => (by cases h)⟩
theorem MapsIn.more {n c : Nat} {l : List (Nat × Obj)} {mb : Nat → Option Nat} {A : Nat → Nat → Nat} (h : MapsIn n l mb c A) (p : Nat × Obj) : MapsIn n (p :: l) mb c A :=
 ⟨fun q b hq hb => by obtain ⟨o, fn, h1, h2⟩ := h.at1 q b hq hb; exact ⟨o, fn, List.mem_cons_of_mem _ h1, h2⟩, h.nil, h.inj⟩
theorem MapsIn.make {n c : Nat} {l : List (Nat × Obj)} {mb : Nat → Option Nat} {A : Nat → Nat → Nat} (h : MapsIn n l mb c A) {q z : Nat} (hq : q < n) (hn : mb q = none) (hz : ∀ o, (z, o) ∉ l) : MapsIn n ((z, .map #[] 0) :: l) (Tj.upd mb q (some z)) c A := by
 have hfar : ∀ r, r < n → mb r ≠ some z := fun r hr e => by
  obtain ⟨o, fn, h1, _⟩ := h.at1 r z hr e
  exact hz o h1
 refine ⟨fun r b hr hb => ?_, fun r hr hb => ?_, fun r r2 b hr hr2 h1 h2 => ?_⟩
 ·by_cases e : r = q
  ·subst e
   rw [Tj.upd_same] at hb
   injection hb with hb; subst hb
   exact ⟨_, _, List.mem_cons_self, MO.new.mono (Nat.zero_le _), fun s => by rw [h.nil r hq hn]; rfl⟩
  ·rw [Tj.upd_ne e] at hb
   obtain ⟨o, fn, h1, h2⟩ := h.at1 r b hr hb
   exact ⟨o, fn, List.mem_cons_of_mem _ h1, h2⟩
 ·by_cases e : r = q
  ·subst e; rw [Tj.upd_same] at hb; cases hb
  ·rw [Tj.upd_ne e] at hb; exact h.nil r hr hb
 ·by_cases e : r = q
  ·by_cases e2 : r2 = q
   ·rw [e, e2]
   ·subst e; rw [Tj.upd_same] at h1; injection h1 with h1; subst h1
    rw [Tj.upd_ne e2] at h2
    exact absurd h2 (hfar r2 hr2)
  ·rw [Tj.upd_ne e] at h1
   by_cases e2 : r2 = q
   ·subst e2; rw [Tj.upd_same] at h2; injection h2 with h2; subst h2
    exact absurd h1 (hfar r hr)
   ·rw [Tj.upd_ne e2] at h2; exact h.inj r r2 b hr hr2 h1 h2
theorem MapsIn.turn {n c : Nat} {l : List (Nat × Obj)} {mb : Nat → Option Nat} {A : Nat → Nat → Nat} (h : MapsIn n l mb c A) {q b s v : Nat} {o o' : Obj} {fn : Int → Int} (hq : q < n) (hb : mb q = some b) (hm : (b, o) ∈ l) (hfn : ∀ s : Nat, fn (s : Int) = (A q s : Int))
  (ho : MO o' (c + 1) (fun x => if x = (s : Int) then (v : Int) else fn x)) : MapsIn n (turnL l b o') mb (c + 1) (upd2 A q s v) := by
 refine ⟨fun r b2 hr hb2 => ?_, fun r hr hb2 s2 => ?_, h.inj⟩
 ·by_cases e : r = q
  ·subst e
   rw [hb] at hb2; injection hb2 with hb2; subst hb2
   refine ⟨o', _, turnL_same hm, ho, fun x => ?_⟩
   unfold upd2
   rw [Tj.upd_same]
   by_cases e2 : x = s
   ·subst e2; rw [Tj.upd_same, if_pos rfl]
   ·rw [Tj.upd_ne e2, if_neg (by omega)]; exact hfn x
  ·obtain ⟨o2, fn2, h1, h2, h3⟩ := h.at1 r b2 hr hb2
   refine ⟨o2, fn2, turnL_other h1 (fun e3 => e (h.inj r q b2 hr hq hb2 (by rw [e3]; exact hb))), h2.mono (by omega), fun x => ?_⟩
   unfold upd2; rw [Tj.upd_ne e]; exact h3 x
 ·have e : r ≠ q := fun e => by subst e; rw [hb] at hb2; cases hb2
  unfold upd2; rw [Tj.upd_ne e]; exact h.nil r hr hb2 s2
end Go.Proofs.Lx

namespace Go.Proofs.Lx
open Go Go.RowKit Go.Proofs.Tj
set_option linter.unusedSimpArgs false
set_option linter.unusedVariables false

noncomputable def pairBody : Code := (Tryz.f89.body).getD .skip
noncomputable def pairSeg1 : Code := fstC (sndC pairBody)
noncomputable def pairB1 : Code := blkC (fstC (sndC (sndC (loopC (blkC (sndC pairSeg1))))))
noncomputable def pairC1 : Code := blkC (fstC (sndC (sndC (loopC (blkC (sndC (sndC pairB1)))))))
noncomputable def pairR11C : Code := fstC (sndC (sndC (sndC (sndC pairC1))))

set_option maxRecDepth 1000000 in
set_option maxHeartbeats 60000000 in
theorem pairR11 (wx W0 : World) (G : Gh) (S : Stc) (T : Th) (D : Dyn) (vT : Value) (h : EngV wx W0 G S T D vT) (q r : Nat) (hq : q < S.m) (hlen : (S.ofs q).length ≤ 1000000) (A : Option Addr) (c : Nat) (hvP : G.vP = .slice A S.P c) (hPP : S.P ≤ 16777216) (Q' : Exit → Act → World → Prop)
  (u1 u2 u4 u5 u6 u7 u8 u9 u10 u11 u12 u13 u14 u15 u16 u17 u18 u19 u20 u21 u22 u23 u24 u25 u26 u27 u28 u29 u30 u31 u32 u33 u34 u35 u36 u37 u38 u39 u40 u41 u42 u43 u44 u45 u46 u47 u48 u49 u50 u51 u52 u53 u54 u55 u56 u57 u58 u59 u60 u61 u62 u63 u64 u65 u66 u67 u68 u69 u90 u91 u92 u93 u94 u95 u96 u97 u98 u99 u100 u101 u102 u103 u104 u105 u106 u107 u108 u109 u110 u111 u112 u113 u114 u115 u116 u117 u118 u119 u120 u121 u122 u123 u124 u125 u126 u127 u128 u129 u130 u131 u132 u133 u134 u135 u136 u137 u138 u139 u140 u141 u142 u143 u144 u145 u146 u147 u148 u149 u150 u151 u152 u153 u154 u155 u156 u157 u158 u159 u160 u161 u162 u163 u164 u165 u166 u167 u168 u169 u170 u171 u172 u173 u174 u175 u176 u70 u71 u72 u73 u74 u75 u76 u77 u78 u79 u80 u81 u82 u83 u84 u85 u86 u87 u88 u89 : Value)
  (hK : ∀ (x70 x71 x72 x73 x74 x75 x76 x77 x78 x79 x80 x81 x82 x83 x84 x85 x86 x87 x88 x89 : Value) (wy : World) (v' : Value), EngV wy W0 { G with vof := G.vof.set q v' } { S with ofs := Tj.upd S.ofs q (S.ofs q ++ [S.P]) } T D vT → Q' .normal ⟨#[.pointer (some ⟨G.b, 0, none⟩), u1, u2, .int .i64 (q : Int), u4, u5, u6, u7, u8, u9, u10, u11, u12, u13, u14, u15, u16, u17, u18, u19, u20, u21, u22, u23, u24, u25, u26, u27, u28, u29, u30, u31, u32, u33, u34, u35, u36, u37, u38, u39, u40, u41, u42, u43, u44, u45, u46, u47, u48, u49, u50, u51, u52, u53, u54, u55, u56, u57, u58, u59, u60, u61, u62, u63, u64, u65, u66, u67, u68, u69, x70, x71, x72, x73, x74, x75, x76, x77, x78, x79, x80, x81, x82, x83, x84, x85, x86, x87, x88, x89, u90, u91, u92, u93, u94, u95, u96, u97, u98, u99, u100, u101, u102, u103, u104, u105, u106, u107, u108, u109, u110, u111, u112, u113, u114, u115, u116, u117, u118, u119, u120, u121, u122, u123, u124, u125, u126, u127, u128, u129, u130, u131, u132, u133, u134, u135, u136, u137, u138, u139, u140, u141, u142, u143, u144, u145, u146, u147, u148, u149, u150, u151, u152, u153, u154, u155, u156, u157, u158, u159, u160, u161, u162, u163, u164, u165, u166, u167, u168, u169, u170, u171, u172, u173, u174, u175, u176], []⟩ wy) :
  Code.wp Tryz.prog pairR11C Q' ⟨#[.pointer (some ⟨G.b, 0, none⟩), u1, u2, .int .i64 (q : Int), u4, u5, u6, u7, u8, u9, u10, u11, u12, u13, u14, u15, u16, u17, u18, u19, u20, u21, u22, u23, u24, u25, u26, u27, u28, u29, u30, u31, u32, u33, u34, u35, u36, u37, u38, u39, u40, u41, u42, u43, u44, u45, u46, u47, u48, u49, u50, u51, u52, u53, u54, u55, u56, u57, u58, u59, u60, u61, u62, u63, u64, u65, u66, u67, u68, u69, u70, u71, u72, u73, u74, u75, u76, u77, u78, u79, u80, u81, u82, u83, u84, u85, u86, u87, u88, u89, u90, u91, u92, u93, u94, u95, u96, u97, u98, u99, u100, u101, u102, u103, u104, u105, u106, u107, u108, u109, u110, u111, u112, u113, u114, u115, u116, u117, u118, u119, u120, u121, u122, u123, u124, u125, u126, u127, u128, u129, u130, u131, u132, u133, u134, u135, u136, u137, u138, u139, u140, u141, u142, u143, u144, u145, u146, u147, u148, u149, u150, u151, u152, u153, u154, u155, u156, u157, u158, u159, u160, u161, u162, u163, u164, u165, u166, u167, u168, u169, u170, u171, u172, u173, u174, u175, u176], []⟩ wx := by
 have HK := hid hK
 clear hK
 conv => arg 2; whnf
 have hn4 := h.st.n4
 have hm4 := h.st.m4
 obtain ⟨v, hv, hcq, hst⟩ := h.rowOfs hq
 have eh := h.hOfs
 have hfq := h.freeOfs q
 have hbs := h.sp.old.size
 have hi0 : (0 : Int) ≤ (q : Int) := by omega
 have hi1 : (q : Int) < (S.m : Int) := by omega
 have hne : G.g .ofs ≠ G.b := h.bOfs
 have hRlt : G.g .ofs < wx.heap.size := (Cont.ok_lt (h.sp.ok .ofs) (show (contE G S D vT .ofs).fp (G.g .ofs) from .inl rfl)).2
 have hblt : G.b < wx.heap.size := lt_of_block h.sp.hdr
 have Hkeep : Hid (∀ cs : Array Value, (fun w' : World => w'.cell? ⟨G.b, 22, none⟩ = some (sl (G.g .ofs) S.m) ∧ w'.cell? ⟨G.b, 21, none⟩ = some (.slice A S.P c)) ((wx.alloc (.cells cs 3)).drew)) := hid fun cs => by
  have h2 := (h.ext (ext_alloc wx (.cells cs 3))).drew
  exact ⟨h2.hOfs, h2.hPairs.trans (by rw [hvP])⟩
 have Haft : Hid (∀ (cs : Array Value) (w' : World), ((wx.alloc (.cells cs 3)).drew).grownBy w' v.ownBlock → (fun w' : World => w'.cell? ⟨G.b, 22, none⟩ = some (sl (G.g .ofs) S.m) ∧ w'.cell? ⟨G.b, 21, none⟩ = some (.slice A S.P c)) w' ∧ w'.cell? ⟨G.g .ofs, q, none⟩ = some v ∧ w'.frozen? ⟨G.g .ofs, q, none⟩ = false) := hid fun cs w' hg => by
  have h2 := (h.ext (ext_alloc wx (.cells cs 3))).drew
  obtain ⟨a1, a2, a3, _⟩ := h2.afterOfs hv hg
  exact ⟨⟨(a1 22).trans h2.hOfs, (a1 21).trans (h2.hPairs.trans (by rw [hvP]))⟩, (a2 q).trans ((cell_ext (ext_alloc wx (.cells cs 3)).drew hcq)), a3 q⟩
 have Hst : Hid (∀ (w' : World) (u : Value), (fun w' : World => w'.cell? ⟨G.b, 22, none⟩ = some (sl (G.g .ofs) S.m) ∧ w'.cell? ⟨G.b, 21, none⟩ = some (.slice A S.P c)) w' → (fun w' : World => w'.cell? ⟨G.b, 22, none⟩ = some (sl (G.g .ofs) S.m) ∧ w'.cell? ⟨G.b, 21, none⟩ = some (.slice A S.P c)) (w'.setCell ⟨G.g .ofs, q, none⟩ u)) := hid fun w' u hs => by
  exact ⟨by rw [World.cell?_setCell_far _ _ _ _ hne]; exact hs.1, by rw [World.cell?_setCell_far _ _ _ _ hne]; exact hs.2⟩
 have H := hid h
 have hS0 : (fun w' : World => w'.cell? ⟨G.b, 22, none⟩ = some (sl (G.g .ofs) S.m) ∧ w'.cell? ⟨G.b, 21, none⟩ = some (.slice A S.P c)) wx.drew := ⟨eh, h.hPairs.trans (by rw [hvP])⟩
 have HS0 := hid hS0
 have Hv := hid hv
 clear h hS0 hv hne
 refine wp_region_noPanic ?_
 refine wp_region_held_drew (S := (fun w' : World => w'.cell? ⟨G.b, 22, none⟩ = some (sl (G.g .ofs) S.m) ∧ w'.cell? ⟨G.b, 21, none⟩ = some (.slice A S.P c))) (by kernel_rfl) ?_ (fun hHeld => ?_)
 ·exact HS0.out
 refine wpAnyH_take (i := 0) (v := ?v1) rfl (by kernel_rfl) (by kernel_rfl) (by kernel_rfl) (fun _ _ _ h => h) (Or.inl ⟨by rfl, ?hy1⟩) (by assumption) ?rest1
 case hy1 => (intro w hSw; (try dsimp only at hSw); go_simp) <;> try with_reducible rfl
 simp only [Act.put, List.setIfInBounds_toArray, List.set_cons_zero, List.set_cons_succ]
 refine wpAnyH_take (i := 1) (v := ?v2) rfl (by kernel_rfl) (by kernel_rfl) (by kernel_rfl) (fun _ _ _ h => h) (Or.inl ⟨by rfl, ?hy2⟩) (by assumption) ?rest2
 case hy2 => (intro w hSw; (try dsimp only at hSw); go_simp) <;> try with_reducible rfl
 simp only [Act.put, List.setIfInBounds_toArray, List.set_cons_zero, List.set_cons_succ]
 refine wpAnyH_take (i := 2) (v := ?v3) rfl (by kernel_rfl) (by kernel_rfl) (by kernel_rfl) (fun _ _ _ h => h) (Or.inl ⟨by rfl, ?hy3⟩) (by assumption) ?rest3
 case hy3 => (intro w hSw; (try dsimp only at hSw); go_simp) <;> try with_reducible rfl
 simp only [Act.put, List.setIfInBounds_toArray, List.set_cons_zero, List.set_cons_succ]
 refine wpAnyH_take (i := 3) (v := ?v4) rfl (by kernel_rfl) (by kernel_rfl) (by kernel_rfl) (fun _ _ _ h => h) (Or.inl ⟨by rfl, ?hy4⟩) (by assumption) ?rest4
 case hy4 => (intro w hSw; (try dsimp only at hSw); go_simp) <;> try with_reducible rfl
 simp only [Act.put, List.setIfInBounds_toArray, List.set_cons_zero, List.set_cons_succ]
 refine wpAnyH_take (i := 4) (v := ?v5) rfl (by kernel_rfl) (by kernel_rfl) (by kernel_rfl) (fun _ _ _ h => h) (Or.inl ⟨by rfl, ?hy5⟩) (by assumption) ?rest5
 case hy5 => (intro w hSw; (try dsimp only at hSw); go_simp) <;> try with_reducible rfl
 simp only [Act.put, List.setIfInBounds_toArray, List.set_cons_zero, List.set_cons_succ]
 refine wpAnyH_take (i := 5) (v := ?v6) rfl (by kernel_rfl) (by kernel_rfl) (by kernel_rfl) (fun _ _ _ h => h) (Or.inl ⟨by rfl, ?hy6⟩) (by assumption) ?rest6
 case hy6 => (intro w hSw; (try dsimp only at hSw); go_simp) <;> try with_reducible rfl
 simp only [Act.put, List.setIfInBounds_toArray, List.set_cons_zero, List.set_cons_succ]
 refine wpAnyH_take (i := 6) (v := ?v7) rfl (by kernel_rfl) (by kernel_rfl) (by kernel_rfl) (fun _ _ _ h => h) (Or.inl ⟨by rfl, ?hy7⟩) (by assumption) ?rest7
 case hy7 => (intro w hSw; (try dsimp only at hSw); go_simp) <;> try with_reducible rfl
 simp only [Act.put, List.setIfInBounds_toArray, List.set_cons_zero, List.set_cons_succ]
 refine wpAnyH_take (i := 7) (v := ?v8) rfl (by kernel_rfl) (by kernel_rfl) (by kernel_rfl) (fun _ _ _ h => h) (Or.inl ⟨by rfl, ?hy8⟩) (by assumption) ?rest8
 case hy8 => (intro w hSw; (try dsimp only at hSw); go_simp) <;> try with_reducible rfl
 simp only [Act.put, List.setIfInBounds_toArray, List.set_cons_zero, List.set_cons_succ]
 refine wpAnyH_take (i := 8) (v := ?v9) rfl (by kernel_rfl) (by kernel_rfl) (by kernel_rfl) (fun _ _ _ h => h) (Or.inl ⟨by rfl, ?hy9⟩) (by assumption) ?rest9
 case hy9 => (intro w hSw; (try dsimp only at hSw); go_simp) <;> try with_reducible rfl
 simp only [Act.put, List.setIfInBounds_toArray, List.set_cons_zero, List.set_cons_succ]
 refine wpAnyH_take (i := 9) (v := ?v10) rfl (by kernel_rfl) (by kernel_rfl) (by kernel_rfl) (fun _ _ _ h => h) (Or.inl ⟨by rfl, ?hy10⟩) (by assumption) ?rest10
 case hy10 => (intro w hSw; (try dsimp only at hSw); go_simp) <;> try with_reducible rfl
 simp only [Act.put, List.setIfInBounds_toArray, List.set_cons_zero, List.set_cons_succ]
 refine wpAnyH_take (i := 10) (v := ?v11) rfl (by kernel_rfl) (by kernel_rfl) (by kernel_rfl) (fun _ _ _ h => h) (Or.inl ⟨by rfl, ?hy11⟩) (by assumption) ?rest11
 case hy11 => (intro w hSw; (try dsimp only at hSw); go_simp) <;> try with_reducible rfl
 simp only [Act.put, List.setIfInBounds_toArray, List.set_cons_zero, List.set_cons_succ]
 refine wpAnyH_take (i := 12) (v := ?v12) rfl (by kernel_rfl) (by kernel_rfl) (by kernel_rfl) (fun _ _ _ h => h) (Or.inl ⟨by rfl, ?hy12⟩) (by assumption) ?rest12
 case hy12 => (intro w hSw; (try dsimp only at hSw); go_simp) <;> try with_reducible rfl
 simp only [Act.put, List.setIfInBounds_toArray, List.set_cons_zero, List.set_cons_succ]
 refine wpAnyH_take (i := 13) (v := ?v13) rfl (by kernel_rfl) (by kernel_rfl) (by kernel_rfl) (fun _ _ _ h => h) (Or.inl ⟨by rfl, ?hy13⟩) (by assumption) ?rest13
 case hy13 => (intro w hSw; (try dsimp only at hSw); go_simp) <;> try with_reducible rfl
 simp only [Act.put, List.setIfInBounds_toArray, List.set_cons_zero, List.set_cons_succ]
 refine wpAnyH_take (i := 14) (v := ?v14) rfl (by kernel_rfl) (by kernel_rfl) (by kernel_rfl) (fun _ _ _ h => h) (Or.inl ⟨by rfl, ?hy14⟩) (by assumption) ?rest14
 case hy14 => (intro w hSw; (try dsimp only at hSw); go_simp) <;> try with_reducible rfl
 simp only [Act.put, List.setIfInBounds_toArray, List.set_cons_zero, List.set_cons_succ]
 refine wpAnyH_take (i := 15) (v := ?v15) rfl (by kernel_rfl) (by kernel_rfl) (by kernel_rfl) (fun _ _ _ h => h) (Or.inl ⟨by rfl, ?hy15⟩) (by assumption) ?rest15
 case hy15 => (intro w hSw; (try dsimp only at hSw); go_simp) <;> try with_reducible rfl
 simp only [Act.put, List.setIfInBounds_toArray, List.set_cons_zero, List.set_cons_succ]
 refine wpAnyH_take (i := 16) (v := ?v16) rfl (by kernel_rfl) (by kernel_rfl) (by kernel_rfl) (fun _ _ _ h => h) (Or.inl ⟨by rfl, ?hy16⟩) (by assumption) ?rest16
 case hy16 => (intro w hSw; (try dsimp only at hSw); go_simp) <;> try with_reducible rfl
 simp only [Act.put, List.setIfInBounds_toArray, List.set_cons_zero, List.set_cons_succ]
 refine wpAnyH_ready (rs := [11, 17]) (by kernel_rfl) (by simp) ?_
 refine AllReadyH.cons rfl (fun K9 hK9 => ?_) (AllReadyH.cons rfl (fun K9 hK9 => ?_) AllReadyH.nil)
 ·go_simp
  refine hK9.out _ _ ?_ (fun hHeld => ?_)
  ·exact HS0.out
  clear hK9 K9
  try simp only [Act.put, List.setIfInBounds_toArray, List.set_cons_zero, List.set_cons_succ]
  refine wpAnyH_ready (rs := [17]) (by kernel_rfl) (by simp) ?_
  refine AllReadyH.cons rfl (fun K9 hK9 => ?_) AllReadyH.nil
  go_simp
  refine hK9.out _ _ ?_ (fun hHeld => ?_)
  ·exact Hkeep.out _
  clear hK9 K9
  try simp only [Act.put, List.setIfInBounds_toArray, List.set_cons_zero, List.set_cons_succ]
  refine wpAnyH_ready (rs := [18]) (by kernel_rfl) (by simp) ?_
  refine AllReadyH.cons rfl (fun K9 hK9 => ?_) AllReadyH.nil
  (refine step_append_own_at rfl (.tmp 81) (.tmp 87) 26 rfl W0.heap.size 3 (.int .i64 0) 8 Tryz.underlying26 infoI rfl v _ _ rfl (hst.alloc _) _ (.int .i64 (S.P : Int)) rfl (by simp [go_sem]) rfl (by unfold maxLen; omega) (by omega) (by simp; omega) ?_; intro v' w' hown hgrow hat; obtain ⟨gn, cn, rfl⟩ := own_form hown; obtain ⟨hq5, hqR, hqF⟩ := Haft.out _ w' hgrow)
  refine hK9.out _ _ ?_ (fun hHeld => ?_)
  ·exact hq5
  clear hK9 K9
  try simp only [Act.put, List.setIfInBounds_toArray, List.set_cons_zero, List.set_cons_succ]
  refine wpAnyH_take (i := 19) (v := ?v17) rfl (by kernel_rfl) (by kernel_rfl) (by kernel_rfl) (fun _ _ _ h => h) (Or.inl ⟨by rfl, ?hy17⟩) (by assumption) ?rest17
  case hy17 => (intro w hSw; (try dsimp only at hSw); go_simp) <;> try with_reducible rfl
  simp only [Act.put, List.setIfInBounds_toArray, List.set_cons_zero, List.set_cons_succ]
  refine wpAnyH_ready (rs := [20]) (by kernel_rfl) (by simp) ?_
  refine AllReadyH.cons rfl (fun K9 hK9 => ?_) AllReadyH.nil
  go_simp
  refine hK9.out _ _ ?_ (fun hHeld => ?_)
  ·exact Hst.out _ _ hq5
  clear hK9 K9
  try simp only [Act.put, List.setIfInBounds_toArray, List.set_cons_zero, List.set_cons_succ]
  refine wpAnyH_done (by kernel_rfl) (NoPanic.normal ?_) _
  clear hq5 hqR hqF eh hcq hfq
  exact HK.out _ _ _ _ _ _ _ _ _ _ _ _ _ _ _ _ _ _ _ _ _ _ ((((H.out.ext (ext_alloc wx (.cells #[.int .i64 (S.P : Int)] 3))).drew)).growOfs hq Hv.out hgrow hown (hat.imp id fun e => ⟨_, e, Nat.le_refl _⟩))
 ·go_simp
  refine hK9.out _ _ ?_ (fun hHeld => ?_)
  ·exact Hkeep.out _
  clear hK9 K9
  try simp only [Act.put, List.setIfInBounds_toArray, List.set_cons_zero, List.set_cons_succ]
  refine wpAnyH_ready (rs := [11]) (by kernel_rfl) (by simp) ?_
  refine AllReadyH.cons rfl (fun K9 hK9 => ?_) AllReadyH.nil
  go_simp
  refine hK9.out _ _ ?_ (fun hHeld => ?_)
  ·exact Hkeep.out _
  clear hK9 K9
  try simp only [Act.put, List.setIfInBounds_toArray, List.set_cons_zero, List.set_cons_succ]
  refine wpAnyH_ready (rs := [18]) (by kernel_rfl) (by simp) ?_
  refine AllReadyH.cons rfl (fun K9 hK9 => ?_) AllReadyH.nil
  (refine step_append_own_at rfl (.tmp 81) (.tmp 87) 26 rfl W0.heap.size 3 (.int .i64 0) 8 Tryz.underlying26 infoI rfl v _ _ rfl (hst.alloc _) _ (.int .i64 (S.P : Int)) rfl (by simp [go_sem]) rfl (by unfold maxLen; omega) (by omega) (by simp; omega) ?_; intro v' w' hown hgrow hat; obtain ⟨gn, cn, rfl⟩ := own_form hown; obtain ⟨hq5, hqR, hqF⟩ := Haft.out _ w' hgrow)
  refine hK9.out _ _ ?_ (fun hHeld => ?_)
  ·exact hq5
  clear hK9 K9
  try simp only [Act.put, List.setIfInBounds_toArray, List.set_cons_zero, List.set_cons_succ]
  refine wpAnyH_take (i := 19) (v := ?v18) rfl (by kernel_rfl) (by kernel_rfl) (by kernel_rfl) (fun _ _ _ h => h) (Or.inl ⟨by rfl, ?hy18⟩) (by assumption) ?rest18
  case hy18 => (intro w hSw; (try dsimp only at hSw); go_simp) <;> try with_reducible rfl
  simp only [Act.put, List.setIfInBounds_toArray, List.set_cons_zero, List.set_cons_succ]
  refine wpAnyH_ready (rs := [20]) (by kernel_rfl) (by simp) ?_
  refine AllReadyH.cons rfl (fun K9 hK9 => ?_) AllReadyH.nil
  go_simp
  refine hK9.out _ _ ?_ (fun hHeld => ?_)
  ·exact Hst.out _ _ hq5
  clear hK9 K9
  try simp only [Act.put, List.setIfInBounds_toArray, List.set_cons_zero, List.set_cons_succ]
  refine wpAnyH_done (by kernel_rfl) (NoPanic.normal ?_) _
  clear hq5 hqR hqF eh hcq hfq
  exact HK.out _ _ _ _ _ _ _ _ _ _ _ _ _ _ _ _ _ _ _ _ _ _ ((((H.out.ext (ext_alloc wx (.cells #[.int .i64 (S.P : Int)] 3))).drew)).growOfs hq Hv.out hgrow hown (hat.imp id fun e => ⟨_, e, Nat.le_refl _⟩))
end Go.Proofs.Lx
