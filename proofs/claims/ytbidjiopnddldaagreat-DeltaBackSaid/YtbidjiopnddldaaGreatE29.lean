/- Parts of the proof: Iq, Ir, Is, Rw, Rt. delta's example: alive of law 19. -/
import Derived.Test.YtbidjiopnddldaaGreatE28
import Derived.Test.YtbidjiopnddldaaGreatE12
import Derived.Test.YtbidjiopnddldaaGreatE1
import Derived.SizedLaws
import Derived.Lib.SmallJoins
import Derived.ProofKit
import Derived.OpenShut
import Derived.Test.YtbidjiopnddldaaGreatRows
namespace Go.Proofs.Lx
open Go Go.RowKit Go.Proofs.Tj
set_option linter.unusedSimpArgs false
set_option linter.unusedVariables false
set_option maxHeartbeats 800000 in
theorem sameI_any (w : World) (v1 v2 : Value) (X Y : List Int) (h1 : RdI w v1 X) (h2 : RdI w v2 Y) :
  Calls Tryz.prog 20 #[v1, v2] w (Ret fun v w' => v = .bool (decide (X = Y)) ∧ Below w.heap.size w w') := by
 obtain ⟨A, c, rfl, hc, hb, hr⟩ := h1
 obtain ⟨B, d, rfl, hd, hb2, hr2⟩ := h2
 refine post_gen fun Q HQ => ?_
 go_enter Tryz.func20, Tryz.ntmps20
 by_cases hl : X.length = Y.length
 case neg =>
  have hne : ((X.length : Int) != (Y.length : Int)) = true := by simp; omega
  have HL := hid hl
  clear hl
  go_wp2
  go_ret
  exact Fin HQ ⟨by rw [decide_eq_false fun e : X = Y => HL.out (by rw [e])]; rfl, ext_refl _⟩
 have HL := hid hl
 generalize hn : X.length = n at *
 have Hn := hid hn
 clear hn
 rw [← HL.out] at hd hb2
 rw [← HL.out]
 clear hl
 go_wp2
 go_loopw [5] (fun v5 wr => ∃ k : Nat, k ≤ n ∧ v5 = .int .i64 k ∧ Hid (∀ i (h1 : i < X.length) (h2 : i < Y.length), i < k → X[i] = Y[i]) ∧ Below w.heap.size w wr) (fun v5 _ => n - (intOf v5).toNat)
 case atStart => exact ⟨0, Nat.zero_le _, rfl, fun i _ _ h => absurd h (by omega), ext_refl _⟩
 case round =>
  obtain ⟨k, hk, rfl, heq, hbl⟩ := hrel
  by_cases hlt : k < n
  ·have hx : k < X.length := by rw [Hn.out]; exact hlt
   have hy : k < Y.length := by rw [← HL.out]; exact hlt
   obtain ⟨ad, rfl, hcX⟩ := (hr.ext (scR_mono _) hbl).at1 hx
   obtain ⟨ad2, rfl, hcY⟩ := (hr2.ext (scR_mono _) hbl).at1 hy
   obtain ⟨x, HX⟩ : ∃ x, Hid (X[k] = x) := ⟨_, hid rfl⟩
   obtain ⟨y, HY⟩ : ∃ y, Hid (Y[k] = y) := ⟨_, hid rfl⟩
   rw [HX.out] at hcX
   rw [HY.out] at hcY
   by_cases hxy : x = y
   ·have hne : (x != y) = false := by simp [hxy]
    have Hxy := hid hxy
    clear hxy
    go_wp2
    go_quiet (fail)
    go_wp2
    go_roundw
    case rel =>
     refine ⟨k + 1, by omega, by go_num, hid fun i h1 h2 hi => ?_, below_drewN hbl _⟩
     by_cases e : i = k
     ·subst e; rw [HX.out, HY.out]; exact Hxy.out
     ·exact heq.out i h1 h2 (by omega)
    case measure => simp [intOf]; omega
   ·have hne : (x != y) = true := by simp; omega
    have Hxy := hid hxy
    clear hxy
    go_wp2
    go_quiet (fail)
    go_wp2
    go_ret
    refine Fin HQ ⟨?_, below_drewN hbl _⟩
    have hne2 : X ≠ Y := by
     intro e
     subst e
     exact Hxy.out (HX.out.symm.trans HY.out)
    rw [decide_eq_false hne2]; rfl
  ·go_wp2
   go_ret
   refine Fin HQ ⟨?_, hbl⟩
   have heq2 : X = Y := List.ext_getElem (by rw [Hn.out]; exact HL.out) fun i h1 h2 => heq.out i h1 h2 (by rw [Hn.out] at h1; omega)
   rw [decide_eq_true heq2]; rfl

theorem num19_any (x : Int) (w : World) : Calls Tryz.prog 10 #[.int .i64 x] w (Ret fun v w' => v = .int .i64 x ∧ w' = w) := by
 refine post_gen fun Q HQ => ?_
 go_enter Tryz.func10, Tryz.ntmps10
 go_wp2
 go_ret
 exact Fin HQ ⟨rfl, rfl⟩
theorem own_all3 {w : World} {base e n : Nat} {v : Value} {xs : List Value} (h : w.ownsRow base e 3 v n xs) (hn : 0 < n) : ∃ g cap, v = .slice (some ⟨g, 0, none⟩) n cap ∧ base ≤ g ∧ g < w.heap.size ∧ ∀ i x, xs[i]? = some x → w.cell? ⟨g, i, none⟩ = some x := by
 rcases h.2 with ⟨h1, h2⟩ | ⟨gg, cp, cur, h1, h2, h3, h4⟩
 ·omega
 ·subst h1
  refine ⟨gg, cp, rfl, h2, lt_of_block h3, fun i x hx => ?_⟩
  have := h.cells (g := gg) rfl i x hx
  rwa [add_plain] at this
set_option maxRecDepth 1000000 in
set_option maxHeartbeats 12800000 in
theorem alive_any (w : World) : Calls Tryz.prog 7 #[] w (Ret fun v w' => v = .bool true ∧ Below w.heap.size w w') := by
 have HeA := hid (givenErr_ok.2 ⟨exS_wf, (by decide : risB [] exS.lits = true)⟩)
 have Hnum := hid num19_any
 refine post_gen fun Q HQ => ?_
 go_enter Tryz.func7, Tryz.ntmps7
 go_wp2_with fail
 refine (small_any w).mono ?_
 rintro e w1 ⟨V, rfl, hT, hb1⟩
 go_wp2_with fail
 refine (newD_any w1 V exS hT).mono ?_
 rintro e w2 ⟨_, rfl, hb2, ⟨he, _⟩ | ⟨_, x, vM, rfl, heng⟩⟩
 ·exact absurd HeA.out he
 have Hb2 := hid (ext_trans hb1 hb2)
 have Heng := hid heng
 have hs1 := hb1.size
 clear hT hb1 hb2 heng
 go_wp2_with (go_at_call 10; refine (Hnum.out _ _).mono ?_; rintro e w' ⟨_, rfl, rfl, hw9⟩; rw [hw9]; clear hw9 w')
 have hadd1 := addD_any w2 x vM exS [] [] _ Heng.out exS_wf (by decide) 0
 rw [show addE exS [] 0 = 0 by decide] at hadd1
 simp only [nxC, nxG, nxU, if_true, exS_add] at hadd1
 rw [exS_ch, exS_cone] at hadd1
 have Hadd1 := hid hadd1
 clear hadd1
 refine Hadd1.out.mono ?_
 rintro e w3 ⟨_, rfl, v3, rfl, ho3, he3, ha3, _⟩
 obtain ⟨g3, cap3, rfl, hg3, hg3l, hcs⟩ := own_all3 ho3 (by decide)
 have hx2 := Heng.out.ft x Heng.out.fx
 have hm2 : ∀ k, vM.ownBlock = some k → k < w2.heap.size := fun k hk => (Heng.out.own.lt k hk).2
 have Ho3 := hid ho3
 have He3 := hid he3
 have Ha3 := hid ha3
 have Hcs := hid hcs
 clear ho3 he3 ha3 hcs Hadd1
 go_wp2_with fail
 have hadd2 := addD_any w3 x vM exS [0] [0, 1] _ He3.out exS_wf (by decide) 0
 rw [show addE exS [0] 0 = 181 by decide] at hadd2
 simp only [nxC, nxG, nxU, show ¬ ((181 : Int) = 0) by decide, if_false] at hadd2
 have Hadd2 := hid hadd2
 clear hadd2
 refine Hadd2.out.mono ?_
 rintro e w4 ⟨_, rfl, v4, rfl, ho4, he4, ha4, _⟩
 have hk4 : w4.heap[g3]? = w3.heap[g3]? := ha4.old g3 hg3l (by omega) fun e => by have := hm2 g3 e; omega
 have hc4 : ∀ i u, (chV [(0, 10, 5), (1, 10, 6)])[i]? = some u → w4.cell? ⟨g3, i, none⟩ = some u := fun i u hu => (World.cell?_of_block hk4).trans (Hcs.out i u hu)
 have k0 := hc4 0 _ rfl
 have k1 := hc4 1 _ rfl
 have k2 := hc4 2 _ rfl
 have k3 := hc4 3 _ rfl
 have k4 := hc4 4 _ rfl
 have k5 := hc4 5 _ rfl
 have He4 := hid he4
 have Ha4 := hid ha4
 clear ho4 he4 ha4 Hadd2 hk4 hc4 Hcs
 have Hfa := hid (factsD_any w4 x vM exS [0] _ _ _ He4.out)
 go_wp2_with (first | (go_at_call 10; refine (Hnum.out _ _).mono ?_; rintro e w' ⟨_, rfl, rfl, hw9⟩; rw [hw9]; clear hw9 w') | (go_at_call 28; refine Hfa.out.mono ?_; rintro e w5 ⟨r5, rfl, ho5, hb5⟩; have Ho5 := hid ho5; have Hb5 := hid hb5; clear ho5 hb5))
 have hb6 := ext_alloc w5 (.cells #[.int .i64 0] 3)
 refine (sameI_any _ _ _ [0] [0] ((own_rdI Ho5.out (by decide)).ext (scR_mono _) hb6) (rd_int1 (heap_alloc_new w5 _))).mono ?_
 rintro e w6 ⟨_, rfl, rfl, hb7⟩
 have Hb7 := hid (ext_trans hb6 hb7)
 clear hb6 hb7
 go_wp2_with fail
 go_ret
 have hlow : Below w.heap.size w w4 := by
  have h2 := Hb2.out
  have hxl := Heng.out.fx.1
  have hml : ∀ k, vM.ownBlock = some k → w1.heap.size ≤ k := fun k hk => (Heng.out.fm k hk).1.1
  have z2 := h2.size
  have z3 := Ha3.out.sz
  have z4 := Ha4.out.sz
  refine ⟨Ha4.out.os.trans (Ha3.out.os.trans h2.os), Ha4.out.tape.trans (Ha3.out.tape.trans h2.tape), Ha4.out.output.trans (Ha3.out.output.trans h2.output), by omega, fun k hk => (Ha4.out.old k (by omega) (by omega) fun e => ?_).trans ((Ha3.out.old k (by omega) (by omega) fun e => ?_).trans (h2.block k hk))⟩
  ·have := hml k e; omega
  ·have := hml k e; omega
 exact Fin HQ ⟨by simp, ext_trans (ext_trans hlow Hb5.out) Hb7.out⟩
end Go.Proofs.Lx

namespace Go.Proofs.Lx
open Go Go.RowKit Go.Proofs.Tj
set_option linter.unusedSimpArgs false
set_option linter.unusedVariables false
/-- An engine that stands behind all that was in w0. -/
structure EE (w0 w : World) (x : Nat) (vM : Value) (T : Th) (G U : List Int) (Ft : Nat → Prop) : Prop where
 e : EngD w x vM T G (solveM T G) U Ft
 ris : risB G T.lits = true
 lo : ∀ g, Ft g → w0.heap.size ≤ g
 bel : Below w0.heap.size w0 w
/-- No block of Ft is the engine's own. -/
def Apt (Ft : Nat → Prop) (x : Nat) (vM : Value) : Prop := ∀ g, Ft g → g ≠ x ∧ vM.ownBlock ≠ some g
section
variable {w0 w w' : World} {x y : Nat} {vM vN : Value} {T T2 : Th} {G U G2 U2 : List Int} {Ft Fu : Nat → Prop}
theorem EE.xlo (h : EE w0 w x vM T G U Ft) : w0.heap.size ≤ x ∧ ∀ g, vM.ownBlock = some g → w0.heap.size ≤ g := ⟨h.lo x h.e.fx, fun g hg => h.lo g (h.e.fm g hg).1⟩
theorem EE.xhi (h : EE w0 w x vM T G U Ft) : x < w.heap.size ∧ ∀ g, vM.ownBlock = some g → g < w.heap.size := ⟨h.e.ft x h.e.fx, fun g hg => h.e.ft g (h.e.fm g hg).1⟩
theorem EE.ext (h : EE w0 w x vM T G U Ft) (hb : Below w.heap.size w w') : EE w0 w' x vM T G U Ft := ⟨h.e.ext hb, h.ris, h.lo, ext_trans h.bel hb⟩
/-- The engine that was called. -/
theorem EE.call (h : EE w0 w x vM T G U Ft) {r : Value} {err : Int} {ch : List (Int × Nat × Nat)} (hc : CallD w w' x vM T Ft r err ch G2 U2) : EE w0 w' x vM T G2 U2 (fun g => Ft g ∨ (w.heap.size ≤ g ∧ g < w'.heap.size)) := by
 obtain ⟨v, _, _, h2, h3, h4⟩ := hc
 have hs := h.bel.size
 exact ⟨h2, h4, fun g hg => by rcases hg with h9 | h9; exact h.lo g h9; omega, h.bel.trans (h3.low hs h.xlo.1 h.xlo.2)⟩
/-- Another engine meanwhile. -/
theorem EE.beside (h : EE w0 w x vM T G U Ft) (k : EE w0 w y vN T2 G2 U2 Fu) (ha : Apt Fu x vM) (hc : Alt x vM w w') : EE w0 w' y vN T2 G2 U2 Fu :=
 ⟨k.e.keep hc.sz fun g hg => hc.old g (k.e.ft g hg) (ha g hg).1 (ha g hg).2, k.ris, k.lo, h.bel.trans (hc.low h.bel.size h.xlo.1 h.xlo.2)⟩
theorem Apt.more (ha : Apt Ft y vN) (k : EE w0 w y vN T2 G2 U2 Fu) : Apt (fun g => Ft g ∨ (w.heap.size ≤ g ∧ g < w'.heap.size)) y vN := fun g hg => by
 rcases hg with h9 | h9
 ·exact ha g h9
 ·have h1 := k.xhi.1
  exact ⟨by omega, fun e => by have := k.xhi.2 g e; omega⟩
/-- A copy: apart from the first, both ways. -/
theorem EE.copy (h : EE w0 w x vM T G U Ft) (hb : Below w.heap.size w w') (he : EngD w' y vN T G (solveM T G) U (fun g => w.heap.size ≤ g ∧ g < w'.heap.size)) : EE w0 w' y vN T G U (fun g => w.heap.size ≤ g ∧ g < w'.heap.size) ∧ Apt Ft y vN ∧ Apt (fun g => w.heap.size ≤ g ∧ g < w'.heap.size) x vM := by
 have hs := h.bel.size
 refine ⟨⟨he, h.ris, fun g hg => by omega, ext_trans h.bel hb⟩, fun g hg => ?_, fun g hg => ?_⟩
 ·have h1 := h.e.ft g hg
  have h2 := he.fx.1
  exact ⟨by omega, fun e => by have := (he.fm g e).1.1; omega⟩
 ·have h1 := h.xhi.1
  exact ⟨by omega, fun e => by have := h.xhi.2 g e; omega⟩
/-- What was there is apart from an engine that was made later, both ways. -/
theorem EE.apart {z : Nat} {vP : Value} {M : List Nat} (h : EE w0 w x vM T G U Ft) (he : EngD w' z vP T2 G2 M U2 (fun g => w.heap.size ≤ g ∧ g < w'.heap.size)) : Apt Ft z vP ∧ Apt (fun g => w.heap.size ≤ g ∧ g < w'.heap.size) x vM := by
 refine ⟨fun g hg => ?_, fun g hg => ?_⟩
 ·have h1 := h.e.ft g hg
  have h2 := he.fx.1
  exact ⟨by omega, fun e => by have := (he.fm g e).1.1; omega⟩
 ·have h1 := h.xhi.1
  exact ⟨by omega, fun e => by have := h.xhi.2 g e; omega⟩
/-- A row that was made behind an engine stays where it is called. -/
theorem own_alt {b e s n : Nat} {v : Value} {xs : List Value} (ho : w.ownsRow b e s v n xs) (h : Alt x vM w w') (hx : x < b) (hm : ∀ g, vM.ownBlock = some g → g < b) : w'.ownsRow b e s v n xs := by
 refine ⟨ho.1, ?_⟩
 rcases ho.2 with k1 | ⟨g, cap, cur, k1, k2, k3, k4⟩
 ·exact .inl k1
 ·exact .inr ⟨g, cap, cur, k1, k2, (h.old g (lt_of_block k3) (by omega) fun e => by have := hm g e; omega).trans k3, k4⟩
end
theorem CallD.alt {w w' : World} {x : Nat} {vM r : Value} {T : Th} {Ft : Nat → Prop} {err : Int} {ch : List (Int × Nat × Nat)} {G' U' : List Int} (h : CallD w w' x vM T Ft r err ch G' U') : Alt x vM w w' := by
 obtain ⟨_, _, _, _, h, _⟩ := h; exact h
/-- Two rising lists with the same members. -/
theorem ris_ext : ∀ {a b : List Int}, a.Pairwise (· < ·) → b.Pairwise (· < ·) → (∀ x, x ∈ a ↔ x ∈ b) → a = b
 | [], [], _, _, _ => rfl
 | [], y :: b, _, _, h => absurd ((h y).2 (by simp)) (by simp)
 | x :: a, [], _, _, h => absurd ((h x).1 (by simp)) (by simp)
 | x :: a, y :: b, ha, hb, h => by
  obtain ⟨a1, a2⟩ := List.pairwise_cons.1 ha
  obtain ⟨b1, b2⟩ := List.pairwise_cons.1 hb
  have hxy : x = y := by
   rcases List.mem_cons.1 ((h x).1 (by simp)) with e | e
   ·exact e
   ·rcases List.mem_cons.1 ((h y).2 (by simp)) with e2 | e2
    ·exact e2.symm
    ·have := b1 x e; have := a1 y e2; omega
  subst hxy
  congr 1
  refine ris_ext a2 b2 fun z => ⟨fun hz => ?_, fun hz => ?_⟩
  ·rcases List.mem_cons.1 ((h z).1 (by simp [hz])) with e | e
   ·have := a1 z hz; omega
   ·exact e
  ·rcases List.mem_cons.1 ((h z).2 (by simp [hz])) with e | e
   ·have := b1 z hz; omega
   ·exact e
theorem drop_add {G : List Int} {n q : Int} (hG : risB G n = true) (h0 : 0 ≤ q ∧ q < n) (hn : q ∉ G) : dropL (addL G q) q = G := by
 have hA := add_ris hG h0 hn
 have hm : q ∈ addL G q := mem_add.2 (.inl rfl)
 refine ris_ext (risB_spec (drop_ris hA)).2 (risB_spec hG).2 fun x => ?_
 rw [mem_drop hA hm, mem_add]
 constructor
 ·rintro ⟨rfl | h, h2⟩
  ·exact absurd rfl h2
  ·exact h
 ·intro h
  exact ⟨.inr h, fun e => hn (e ▸ h)⟩
theorem add_swap {G : List Int} {n a b : Int} (hG : risB G n = true) (ha : 0 ≤ a ∧ a < n) (hb : 0 ≤ b ∧ b < n) (hna : a ∉ G) (hnb : b ∉ G) (hab : a ≠ b) : addL (addL G b) a = addL (addL G a) b := by
 have h1 := add_ris (add_ris hG hb hnb) ha (fun h => by rcases mem_add.1 h with e | e; exact hab e; exact hna e)
 have h2 := add_ris (add_ris hG ha hna) hb (fun h => by rcases mem_add.1 h with e | e; exact hab e.symm; exact hnb e)
 refine ris_ext (risB_spec h1).2 (risB_spec h2).2 fun x => ?_
 rw [mem_add, mem_add, mem_add, mem_add]
 constructor
 ·rintro (h | h | h)
  ·exact .inr (.inl h)
  ·exact .inl h
  ·exact .inr (.inr h)
 ·rintro (h | h | h)
  ·exact .inr (.inl h)
  ·exact .inl h
  ·exact .inr (.inr h)
theorem addE_ok {T : Th} {G : List Int} {q : Int} (h : addE T G q = 0) : (0 ≤ q ∧ q < T.lits) ∧ q ∉ G := by
 unfold addE at h
 split at h
 ·omega
 ·split at h
  ·omega
  ·rename_i h1 h2; exact ⟨by omega, h2⟩
theorem addE_of {T : Th} {G : List Int} {q : Int} (h : 0 ≤ q ∧ q < T.lits) (hn : q ∉ G) : addE T G q = 0 := by
 unfold addE; rw [if_neg (by omega), if_neg hn]
theorem dropE_of {T : Th} {G : List Int} {q : Int} (h : 0 ≤ q ∧ q < T.lits) (hn : q ∈ G) : dropE T G q = 0 := by
 unfold dropE; rw [if_neg (by omega), if_pos hn]
end Go.Proofs.Lx

namespace Go.Proofs.Lx
open Go Go.RowKit Go.Proofs.Tj
set_option linter.unusedSimpArgs false
set_option linter.unusedVariables false
set_option maxRecDepth 1000000 in
set_option maxHeartbeats 25600000 in
theorem lawBack_any (w : World) (V vl : Value) (a b : Int) (T : Th) (F : List Int) (hT : RdTh w V T) (hF : RdI w vl F) (wa : (Lit.int .i64 a).wf = true) (wb : (Lit.int .i64 b).wf = true) :
  Calls Tryz.prog 4 #[V, vl, .int .i64 a, .int .i64 b] w (Ret fun v w' => v = .bool true ∧ Below w.heap.size w w') := by
 have HT := hid hT
 have HF := hid hF
 have Hnum := hid num19_any
 obtain ⟨vF, vR, vB, rfl, _, _, _⟩ := hT
 obtain ⟨Al, cl, rfl, _⟩ := hF
 obtain ⟨W1, HW1⟩ : ∃ W1, Hid (w.alloc (.cells #[.int .i64 T.lits, vF, vR, vB] 25) = W1) := ⟨_, hid rfl⟩
 have Hb1 : Hid (Below w.heap.size w W1) := hid (by rw [← HW1.out]; exact ext_alloc _ _)
 have Hbox : Hid (∀ W, Below W1.heap.size W1 W → W.cell? ⟨w.heap.size, 0, none⟩ = some (.int .i64 T.lits) ∧ W.cell? ⟨w.heap.size, 1, none⟩ = some vF ∧ W.cell? ⟨w.heap.size, 2, none⟩ = some vR ∧ W.cell? ⟨w.heap.size, 3, none⟩ = some vB) := hid fun W h => by rw [← HW1.out] at h; exact box4 h
 refine post_gen fun Q HQ => ?_
 go_enter Tryz.func4, Tryz.ntmps4
 go_wp2_with fail
 rw [HW1.out]
 refine (alive_any W1).mono ?_
 rintro e w2 ⟨_, rfl, rfl, hb2⟩
 obtain ⟨a0, a1, a2, a3⟩ := Hbox.out w2 hb2
 have Hb2 := hid (ext_trans Hb1.out hb2)
 clear hb2
 go_wp2_with fail
 refine (newD_any w2 _ T (HT.out.ext Hb2.out)).mono ?_
 rintro e w3 ⟨_, rfl, hb3, ⟨he, rfl⟩ | ⟨he, x, vM, rfl, heng⟩⟩
 ·clear a0 a1 a2 a3
  have Hb3 := hid (ext_trans Hb2.out hb3)
  clear hb3
  generalize givenErr T [] = g at *
  have hne : (g != 0) = true := by simp [he]
  go_wp2_with (go_at_call 10; refine (Hnum.out _ _).mono ?_; rintro e w' ⟨_, rfl, rfl, hw9⟩; rw [hw9]; clear hw9 w')
  go_ret
  exact Fin HQ ⟨rfl, Hb3.out⟩
 have Hwf := hid (givenErr_ok.1 he).1
 have HE := hid (show EE w w3 x vM T [] [] _ from ⟨heng, rfl, fun g hg => Nat.le_trans Hb2.out.size hg.1, ext_trans Hb2.out hb3⟩)
 clear a0 a1 a2 a3 he heng hb3 Hb2 HW1 Hbox Hb1
 generalize (fun g => w2.heap.size ≤ g ∧ g < w3.heap.size) = Ft at HE
 go_wp2_with (go_at_call 10; refine (Hnum.out _ _).mono ?_; rintro e w' ⟨_, rfl, rfl, hw9⟩; rw [hw9]; clear hw9 w')
 refine (setD_any w3 x vM T [] [] Ft HE.out.e Hwf.out HE.out.ris _ F (HF.out.ext (scR_mono _) HE.out.bel)).mono ?_
 rintro e w4 ⟨_, rfl, hc⟩
 have HE4 := hid (HE.out.call hc)
 obtain ⟨v4, rfl, _⟩ := hc
 clear HE
 by_cases hr : risB F T.lits = true
 rotate_left
 ·have e1 : setE T F = 181 := by unfold setE; rw [if_neg hr]
  rw [e1] at HE4 ⊢
  go_wp2_with (go_at_call 10; refine (Hnum.out _ _).mono ?_; rintro e w' ⟨_, rfl, rfl, hw9⟩; rw [hw9]; clear hw9 w')
  go_ret
  exact Fin HQ ⟨rfl, HE4.out.bel⟩
 have Hrs := hid hr
 have e1 : setE T F = 0 := by unfold setE; rw [if_pos hr]
 rw [e1] at HE4 ⊢
 simp only [nxG, nxU, if_true] at HE4
 clear e1
 generalize coneL T (notIn F [] ++ notIn [] F) = U4 at HE4
 generalize (fun g => Ft g ∨ (w3.heap.size ≤ g ∧ g < w4.heap.size)) = Ft4 at HE4
 go_wp2_with (go_at_call 10; refine (Hnum.out _ _).mono ?_; rintro e w' ⟨_, rfl, rfl, hw9⟩; rw [hw9]; clear hw9 w')
 -- m
 refine (marksD_any w4 x vM T F _ U4 Ft4 HE4.out.e).mono ?_
 rintro e w5 ⟨m, rfl, hm, hb5⟩
 obtain ⟨Am, cm, rfl⟩ := own_form0 hm
 have Hm := hid hm
 have HE5 := hid (HE4.out.ext hb5)
 have HX4 := hid HE4.out.xhi
 clear hm hb5 HE4
 go_wp2_with fail
 -- y
 refine (copyD_any w5 x vM T F _ U4 Ft4 HE5.out.e Hwf.out).mono ?_
 rintro e w6 ⟨_, rfl, hb6, y, vN, rfl, hy⟩
 obtain ⟨hY6, hA1, hA2⟩ := HE5.out.copy hb6 hy
 have HY6 := hid hY6
 have HA1 := hid hA1
 have HA2 := hid hA2
 have HE6 := hid (HE5.out.ext hb6)
 have Hm6 := hid (own_ext Hm.out hb6)
 clear hY6 hA1 hA2 hy hb6 HE5 Hm
 generalize (fun g => w5.heap.size ≤ g ∧ g < w6.heap.size) = Fy at HY6 HA2
 go_wp2_with fail
 -- x.Add(a)
 refine (addD_any w6 x vM T F U4 Ft4 HE6.out.e Hwf.out HE6.out.ris a).mono ?_
 rintro e w7 ⟨_, rfl, hc⟩
 have HE7 := hid (HE6.out.call hc)
 have HY7 := hid (HE6.out.beside HY6.out HA2.out hc.alt)
 have HA7 := hid (HA1.out.more (w' := w7) HY6.out)
 have Hm7 := hid (own_alt Hm6.out hc.alt HX4.out.1 HX4.out.2)
 obtain ⟨v7, rfl, _⟩ := hc
 clear HE6 HY6 HA1 Hm6
 by_cases ha : addE T F a = 0
 rotate_left
 ·simp only [nxG, nxU, nxC, if_neg ha] at HE7
  have Ha := hid ha
  clear HY7 HA7 HA2
  generalize addE T F a = ea at *
  have hne : (ea != 0) = true := by simp [ha]
  go_wp2_with (go_at_call 10; refine (Hnum.out _ _).mono ?_; rintro e w' ⟨_, rfl, rfl, hw9⟩; rw [hw9]; clear hw9 w')
  refine (marksD_any w7 x vM T F _ _ _ HE7.out.e).mono ?_
  rintro e w8 ⟨n, rfl, hn, hb8⟩
  have hlen : (solveM T F).length ≤ 140737488355328 := by have := HE7.out.e.sm; omega
  have Hsm := hid (sameM_any w8 n (.slice Am (solveM T F).length cm) (solveM T F) (solveM T F) (own_rdS (enc := fun x : Nat => Value.int .u8 (x : Int)) hn hlen) (own_rdS (enc := fun x : Nat => Value.int .u8 (x : Int)) (own_ext Hm7.out hb8) hlen))
  have Hb8 := hid (ext_trans HE7.out.bel hb8)
  clear hn hb8
  go_wp2_with fail
  refine Hsm.out.mono ?_
  rintro e w9 ⟨_, rfl, rfl, hb9⟩
  have Hb9 := hid (ext_trans Hb8.out hb9)
  clear hb9
  go_wp2_with fail
  go_ret
  exact Fin HQ ⟨by simp, Hb9.out⟩
 obtain ⟨har, han⟩ := addE_ok ha
 simp only [nxG, nxU, ha, if_true] at HE7
 rw [ha]
 have Hran := hid (And.intro har han)
 clear ha har han
 generalize coneL T [a] = U7 at HE7
 generalize (fun g => Ft4 g ∨ (w6.heap.size ≤ g ∧ g < w7.heap.size)) = Ft7 at HE7 HA7
 go_wp2_with (go_at_call 10; refine (Hnum.out _ _).mono ?_; rintro e w' ⟨_, rfl, rfl, hw9⟩; rw [hw9]; clear hw9 w')
 -- z
 refine (copyD_any w7 x vM T (addL F a) _ U7 Ft7 HE7.out.e Hwf.out).mono ?_
 rintro e w8 ⟨_, rfl, hb8, z, vP, rfl, hz⟩
 obtain ⟨hZ8, hB1, hB2⟩ := HE7.out.copy hb8 hz
 obtain ⟨hC1, hC2⟩ := HY7.out.apart hz
 have HZ8 := hid hZ8
 have HB2 := hid hB2
 have HC1 := hid hC1
 have HC2 := hid hC2
 have HE8 := hid (HE7.out.ext hb8)
 have HY8 := hid (HY7.out.ext hb8)
 have Hm8 := hid (own_ext Hm7.out hb8)
 clear hZ8 hB1 hB2 hC1 hC2 hz hb8 HE7 HY7 HA7 Hm7
 generalize (fun g => w7.heap.size ≤ g ∧ g < w8.heap.size) = Fz at HZ8 HB2 HC2
 go_wp2_with fail
 -- x.Drop(a)
 have hd := dropD_any w8 x vM T (addL F a) U7 Ft7 HE8.out.e Hwf.out HE8.out.ris a
 rw [dropE_of Hran.out.1 (mem_add.2 (.inl rfl)), drop_add HY8.out.ris Hran.out.1 Hran.out.2] at hd
 simp only [nxG, nxU, nxC, if_true] at hd
 have Hd := hid hd
 clear hd
 refine Hd.out.mono ?_
 rintro e w9 ⟨_, rfl, hc⟩
 have HE9 := hid (HE8.out.call hc)
 have HY9 := hid (HE8.out.beside HY8.out HA2.out hc.alt)
 have HZ9 := hid (HE8.out.beside HZ8.out HB2.out hc.alt)
 have Hm9 := hid (own_alt Hm8.out hc.alt HX4.out.1 HX4.out.2)
 obtain ⟨v9, rfl, _⟩ := hc
 clear HE8 HY8 HZ8 Hm8 HA2 HB2 Hd
 generalize coneL T [a] = U9 at HE9
 generalize (fun g => Ft7 g ∨ (w8.heap.size ≤ g ∧ g < w9.heap.size)) = Ft9 at HE9
 go_wp2_with (go_at_call 10; refine (Hnum.out _ _).mono ?_; rintro e w' ⟨_, rfl, rfl, hw9⟩; rw [hw9]; clear hw9 w')
 refine (marksD_any w9 x vM T F _ U9 Ft9 HE9.out.e).mono ?_
 rintro e w10 ⟨n, rfl, hn, hb10⟩
 have hlen : (solveM T F).length ≤ 140737488355328 := by have := HE9.out.e.sm; omega
 have Hsm := hid (sameM_any w10 n (.slice Am (solveM T F).length cm) (solveM T F) (solveM T F) (own_rdS (enc := fun x : Nat => Value.int .u8 (x : Int)) hn hlen) (own_rdS (enc := fun x : Nat => Value.int .u8 (x : Int)) (own_ext Hm9.out hb10) hlen))
 have HE10 := hid (HE9.out.ext hb10)
 have HY10 := hid (HY9.out.ext hb10)
 have HZ10 := hid (HZ9.out.ext hb10)
 clear hn hb10 hlen HE9 HY9 HZ9 Hm9
 go_wp2_with fail
 refine Hsm.out.mono ?_
 rintro e w11 ⟨_, rfl, rfl, hb11⟩
 have HE11 := hid (HE10.out.ext hb11)
 have HY11 := hid (HY10.out.ext hb11)
 have HZ11 := hid (HZ10.out.ext hb11)
 clear hb11 HE10 HY10 HZ10 Hsm
 simp only [decide_true]
 go_wp2_with fail
 refine (factsD_any w11 x vM T F _ U9 Ft9 HE11.out.e).mono ?_
 rintro e w12 ⟨n2, rfl, hn, hb12⟩
 have hlen : F.length ≤ 140737488355328 := by have := HE11.out.e.sm; omega
 have Hsi := hid (sameI_any w12 n2 (.slice Al F.length cl) F F (own_rdI hn hlen) (HF.out.ext (scR_mono _) (ext_trans HE11.out.bel hb12)))
 have HY12 := hid (HY11.out.ext hb12)
 have HZ12 := hid (HZ11.out.ext hb12)
 clear hn hb12 hlen HE11 HY11 HZ11
 go_wp2_with fail
 refine Hsi.out.mono ?_
 rintro e w13 ⟨_, rfl, rfl, hb13⟩
 have HY13 := hid (HY12.out.ext hb13)
 have HZ13 := hid (HZ12.out.ext hb13)
 clear hb13 HY12 HZ12 Hsi
 simp only [decide_true]
 go_wp2_with fail
 -- y.Add(b)
 refine (addD_any w13 y vN T F U4 Fy HY13.out.e Hwf.out HY13.out.ris b).mono ?_
 rintro e w14 ⟨_, rfl, hc⟩
 have HY14 := hid (HY13.out.call hc)
 have HZ14 := hid (HY13.out.beside HZ13.out HC2.out hc.alt)
 have HC14 := hid (HC1.out.more (w' := w14) HZ13.out)
 obtain ⟨v14, rfl, _⟩ := hc
 clear HY13 HZ13 HC1
 by_cases hb : addE T F b = 0
 rotate_left
 ·have Hb14 := hid HY14.out.bel
  clear HY14 HZ14 HC14
  generalize addE T F b = eb at *
  have hne : (eb != 0) = true := by simp [hb]
  go_wp2_with (go_at_call 10; refine (Hnum.out _ _).mono ?_; rintro e w' ⟨_, rfl, rfl, hw9⟩; rw [hw9]; clear hw9 w')
  go_ret
  exact Fin HQ ⟨rfl, Hb14.out⟩
 rw [hb] at HY14 ⊢
 obtain ⟨hbr, hbn⟩ := addE_ok hb
 simp only [nxG, nxU, if_true] at HY14
 have Hrbn := hid (And.intro hbr hbn)
 clear hb hbr hbn
 generalize coneL T [b] = U14 at HY14
 generalize (fun g => Fy g ∨ (w13.heap.size ≤ g ∧ g < w14.heap.size)) = Fy14 at HY14 HC14
 by_cases hab : a = b
 ·have hab2 : (a == b) = true := by simp [hab]
  clear hab
  go_wp2_with (go_at_call 10; refine (Hnum.out _ _).mono ?_; rintro e w' ⟨_, rfl, rfl, hw9⟩; rw [hw9]; clear hw9 w')
  go_ret
  exact Fin HQ ⟨by simp, HY14.out.bel⟩
 have hab2 : (a == b) = false := by simp [hab]
 have Hab := hid hab
 clear hab
 go_wp2_with (go_at_call 10; refine (Hnum.out _ _).mono ?_; rintro e w' ⟨_, rfl, rfl, hw9⟩; rw [hw9]; clear hw9 w')
 -- y.Add(a)
 have hd := addD_any w14 y vN T (addL F b) U14 Fy14 HY14.out.e Hwf.out HY14.out.ris a
 rw [addE_of Hran.out.1 (fun h => by rcases mem_add.1 h with e | e; exact Hab.out e; exact Hran.out.2 e), add_swap Hrs.out Hran.out.1 Hrbn.out.1 Hran.out.2 Hrbn.out.2 Hab.out] at hd
 simp only [nxG, nxU, nxC, if_true] at hd
 have Hd := hid hd
 clear hd
 refine Hd.out.mono ?_
 rintro e w15 ⟨_, rfl, hc⟩
 have HY15 := hid (HY14.out.call hc)
 have HZ15 := hid (HY14.out.beside HZ14.out HC2.out hc.alt)
 have HC15 := hid (HC14.out.more (w' := w15) HZ14.out)
 obtain ⟨v15, rfl, _⟩ := hc
 clear HY14 HZ14 HC14 HC2 Hd
 generalize coneL T [a] = U15 at HY15
 generalize (fun g => Fy14 g ∨ (w14.heap.size ≤ g ∧ g < w15.heap.size)) = Fy15 at HY15 HC15
 go_wp2_with fail
 -- z.Add(b)
 have hd := addD_any w15 z vP T (addL F a) U7 Fz HZ15.out.e Hwf.out HZ15.out.ris b
 rw [addE_of Hrbn.out.1 (fun h => by rcases mem_add.1 h with e | e; exact Hab.out e.symm; exact Hrbn.out.2 e)] at hd
 simp only [nxG, nxU, nxC, if_true] at hd
 have Hd := hid hd
 clear hd
 refine Hd.out.mono ?_
 rintro e w16 ⟨_, rfl, hc⟩
 have HZ16 := hid (HZ15.out.call hc)
 have HY16 := hid (HZ15.out.beside HY15.out HC15.out hc.alt)
 obtain ⟨v16, rfl, _⟩ := hc
 clear HY15 HZ15 HC15 Hd
 generalize coneL T [b] = U16 at HZ16
 generalize (fun g => Fz g ∨ (w15.heap.size ≤ g ∧ g < w16.heap.size)) = Fz16 at HZ16
 generalize addL (addL F a) b = G2 at *
 go_wp2_with (go_at_call 10; refine (Hnum.out _ _).mono ?_; rintro e w' ⟨_, rfl, rfl, hw9⟩; rw [hw9]; clear hw9 w')
 refine (marksD_any w16 y vN T G2 _ U15 Fy15 HY16.out.e).mono ?_
 rintro e w17 ⟨n3, rfl, hn, hb17⟩
 obtain ⟨A3, c3, rfl⟩ := own_form0 hn
 have Hn := hid hn
 have HZ17 := hid (HZ16.out.ext hb17)
 clear hn hb17 HY16 HZ16
 go_wp2_with fail
 refine (marksD_any w17 z vP T G2 _ U16 Fz16 HZ17.out.e).mono ?_
 rintro e w18 ⟨n4, rfl, hn, hb18⟩
 have hlen : (solveM T G2).length ≤ 140737488355328 := by have := HZ17.out.e.sm; omega
 have Hsm := hid (sameM_any w18 (.slice A3 (solveM T G2).length c3) n4 (solveM T G2) (solveM T G2) (own_rdS (enc := fun x : Nat => Value.int .u8 (x : Int)) (own_ext Hn.out hb18) hlen) (own_rdS (enc := fun x : Nat => Value.int .u8 (x : Int)) hn hlen))
 have Hb18 := hid (ext_trans HZ17.out.bel hb18)
 clear hn hb18 hlen HZ17 Hn
 go_wp2_with fail
 refine Hsm.out.mono ?_
 rintro e w19 ⟨_, rfl, rfl, hb19⟩
 have Hb19 := hid (ext_trans Hb18.out hb19)
 clear hb19
 go_wp2_with fail
 go_ret
 exact Fin HQ ⟨by simp, Hb19.out⟩
end Go.Proofs.Lx

namespace Go.Proofs.Lx
open Go Go.RowKit Go.ChangeShapes Go.WideShapes Go.ChangeAt Go.Joins Go.Deep
set_option linter.unusedSimpArgs false
set_option linter.unusedVariables false

instance : Inhabited { y : Nat // y < 256 } := ⟨⟨0, by decide⟩⟩
section
variable {H : Type} {enc : TypeId × Value → H} {P : Program} {w : World} {base : Nat} {held : Bool}
/-- Each part is within the form's reach. -/
def Fits (P : Program) (t : TypeId) (d : DataW H) : Prop := ∀ n ∈ d.weights P t, n ≤ reachBytes
theorem weightsAll_mem {e : TypeId} {d : DataW H} : ∀ {ds : List (DataW H)}, d ∈ ds → ∀ n ∈ d.weights P e, n ∈ DataW.weightsAll P e ds
 | [], h => by simp at h
 | x :: ds, h => fun n hn => by
  rw [DataW.weightsAll, List.mem_append]
  rcases List.mem_cons.1 h with rfl | h
  ·exact .inl hn
  ·exact .inr (weightsAll_mem h n hn)
theorem Fits.elems {t e : TypeId} {es sp : List (DataW H)} (ht : P.underlying t = some (.slice e)) (h : Fits P t (.slice es sp)) :
  (es.length + sp.length) * P.bytesOf e ≤ reachBytes ∧ ∀ d ∈ es, Fits P e d := by
 have hw : (DataW.slice es sp).weights P t = (es.length + sp.length) * P.bytesOf e :: (DataW.weightsAll P e es ++ DataW.weightsAll P e sp) := by simp [DataW.weights, ht]
 unfold Fits at h
 rw [hw] at h
 exact ⟨h _ List.mem_cons_self, fun d hd n hn => h n (List.mem_cons_of_mem _ (List.mem_append_left _ (weightsAll_mem hd n hn)))⟩
theorem each_mem : ∀ {ts : List TypeId} {ds : List (DataW H)} {j : Nat} {t : TypeId} {d : DataW H}, ts[j]? = some t → ds[j]? = some d → ∀ n ∈ d.weights P t, n ∈ DataW.weightsEach P ts ds
 | [], _, _, _, _, h, _ => by simp at h
 | _ :: _, [], _, _, _, _, h => by simp at h
 | t0 :: ts, d0 :: ds, j, t, d, ht, hd => fun n hn => by
  rw [DataW.weightsEach, List.mem_append]
  match j, ht, hd with
  | 0, ht, hd =>
   simp at ht hd; subst ht; subst hd
   exact .inl hn
  | j + 1, ht, hd => exact .inr (each_mem (j := j) (by simpa using ht) (by simpa using hd) n hn)
theorem Fits.part {t u : TypeId} {fs : Array Field} {ps : List (DataW H)} {d : DataW H} (ht : P.underlying t = some (.struct fs)) (h : Fits P t (.agg ps)) (j : Nat) (hj : (fs.toList.map (·.type))[j]? = some u) (hd : ps[j]? = some d) : Fits P u d := by
 have hw : (DataW.agg ps).weights P t = DataW.weightsEach P (fs.toList.map (·.type)) ps := by simp [DataW.weights, ht]
 unfold Fits at h
 rw [hw] at h
 exact fun n hn => h n (each_mem hj hd n hn)
theorem Fits.arg {ts : List TypeId} {ds : List (DataW H)} (h : (DataW.weightsEach P ts ds).all (· ≤ reachBytes) = true) (j : Nat) {t : TypeId} {d : DataW H} (ht : ts[j]? = some t) (hd : ds[j]? = some d) : Fits P t d := fun n hn => by
 have := List.all_eq_true.1 h n (each_mem ht hd n hn)
 simpa using this

/-- A slice that reads, as a list. -/
theorem rd_trod {α : Type} [Inhabited α] {sz : Nat} {R : World → α → List Value → Prop} {t e : TypeId} {v : Value} {fuel : Nat} {x : DataW H × List MemPlace} (ht : P.underlying t = some (.slice e)) (hc : P.cellsOf e = sz) (hby : 1 ≤ P.bytesOf e)
  (elem : ∀ n cs (y : DataW H × List MemPlace), cs.length = sz → DataW.trod enc P w base (fun _ => true) held n e cs = some y → Fits P e y.1 → ∃ a : α, R w a cs)
  (h : DataW.trod enc P w base (fun _ => true) held fuel t [v] = some x) (hf : Fits P t x.1) : ∃ ys : List α, Rd sz R w v ys := by
 rcases open_slice ht h with ⟨hcs, hx⟩ | ⟨a, len, cap, m, n, D, Pl, hcs, hb, hl, hm, hmm, rfl, hel⟩
 ·simp only [List.cons.injEq, and_true] at hcs
  subst hcs
  exact ⟨[], Rd.nil⟩
 ·simp only [List.cons.injEq, and_true] at hcs
  subst hcs
  simp only [if_true] at hmm
  subst hmm
  obtain ⟨h1, h2⟩ := hf.elems ht
  have hlen : len ≤ 140737488355328 := by
   simp only [List.length_map, List.length_range, reachBytes] at h1
   have : len * 1 ≤ (len + (m - len)) * P.bytesOf e := Nat.mul_le_mul (by omega) hby
   omega
  obtain ⟨f, hfam⟩ := choose_lt (α := α) (n := len) (p := fun i y => ∃ cs', cs'.length = sz ∧ R w y cs' ∧ ∀ j, j < sz → w.cell? ((a.add (i * sz)).add j) = cs'[j]?) (fun i hi => by
   obtain ⟨cs', c1, c2⟩ := hel i (by omega)
   obtain ⟨_, c3, c4⟩ := World.cells?_some c1
   rw [hc] at c3 c4
   obtain ⟨y, hy⟩ := elem _ _ _ c3 c2 (h2 _ (List.mem_map.2 ⟨i, List.mem_range.2 hi, rfl⟩))
   exact ⟨y, cs', c3, hy, c4⟩)
  refine ⟨(List.range len).map f, some a, m, by simp, by simp; omega, by simp; omega, fun i hi => ?_⟩
  simp only [List.length_map, List.length_range] at hi
  obtain ⟨cs', c1, c2, c3⟩ := hfam i hi
  refine ⟨a, cs', rfl, by simpa using c2, c1, fun j u hu => ?_⟩
  have hj : j < sz := by rw [← c1]; exact (List.getElem?_eq_some_iff.1 hu).1
  rw [← add_add, c3 j hj, hu]
theorem rd_ints {t e : TypeId} {k : IntKind} {v : Value} {fuel : Nat} {x : DataW H × List MemPlace} (ht : P.underlying t = some (.slice e)) (he : P.underlying e = some (.int k)) (hc : P.cellsOf e = 1) (hby : 1 ≤ P.bytesOf e)
  (h : DataW.trod enc P w base (fun _ => true) held fuel t [v] = some x) (hf : Fits P t x.1) : ∃ ys : List Int, Rd 1 (scR (Value.int k)) w v ys := by
 refine rd_trod ht hc hby (fun n cs y _ hy _ => ?_) h hf
 obtain ⟨z, rfl, _⟩ := DataW.trod_int he hy
 exact ⟨z, rfl⟩
theorem rd_bytes {t e : TypeId} {v : Value} {fuel : Nat} {x : DataW H × List MemPlace} (ht : P.underlying t = some (.slice e)) (he : P.underlying e = some (.int .u8)) (hc : P.cellsOf e = 1) (hby : 1 ≤ P.bytesOf e)
  (h : DataW.trod enc P w base (fun _ => true) held fuel t [v] = some x) (hf : Fits P t x.1) : ∃ ys : List Nat, Rd 1 (scR fun x : Nat => Value.int .u8 (x : Int)) w v ys ∧ ∀ y ∈ ys, y < 256 := by
 obtain ⟨ys, hys⟩ := rd_trod (α := { y : Nat // y < 256 }) (R := scR fun x : { y : Nat // y < 256 } => Value.int .u8 (x.val : Int)) ht hc hby (fun n cs y _ hy _ => by
  obtain ⟨z, rfl, _, hw⟩ := DataW.trod_int he hy
  have hz : 0 ≤ z ∧ z ≤ 255 := by simpa [Lit.wf, IntKind.min, IntKind.max, IntKind.signed, IntKind.bits] using hw
  refine ⟨⟨z.toNat, by omega⟩, ?_⟩
  show [Value.int .u8 z] = [Value.int .u8 ((z.toNat : Nat) : Int)]
  rw [show ((z.toNat : Nat) : Int) = z by omega]) h hf
 refine ⟨ys.map (·.val), ?_, by simp; intro a ha h; exact ha⟩
 obtain ⟨A, c, rfl, h1, h2, h3⟩ := hys
 refine ⟨A, c, by simp, by simpa using h1, by simpa using h2, fun i hi => ?_⟩
 obtain ⟨ad, cs, e1, e2, e3, e4⟩ := h3 i (by simpa using hi)
 exact ⟨ad, cs, e1, by simpa [scR] using e2, e3, e4⟩
theorem rd_rows {t e q : TypeId} {k : IntKind} {v : Value} {fuel : Nat} {x : DataW H × List MemPlace} (ht : P.underlying t = some (.slice e)) (he : P.underlying e = some (.slice q)) (hq : P.underlying q = some (.int k)) (hc : P.cellsOf e = 1) (hcq : P.cellsOf q = 1) (hby : 1 ≤ P.bytesOf e) (hbq : 1 ≤ P.bytesOf q)
  (h : DataW.trod enc P w base (fun _ => true) held fuel t [v] = some x) (hf : Fits P t x.1) : ∃ ys : List (List Int), Rd 1 (rowR 1 (scR (Value.int k))) w v ys := by
 refine rd_trod ht hc hby (fun n cs y hl hy hfy => ?_) h hf
 match cs, hl with
 | [u], _ =>
  obtain ⟨ys, hys⟩ := rd_ints he hq hcq hbq hy hfy
  exact ⟨ys, u, rfl, hys⟩
theorem rd_rules {t e ti : TypeId} {f0 f1 f2 : Field} {v : Value} {fuel : Nat} {x : DataW H × List MemPlace} (ht : P.underlying t = some (.slice e)) (he : P.underlying e = some (.struct #[f0, f1, f2])) (hc : P.cellsOf e = 3) (hby : 1 ≤ P.bytesOf e)
  (o0 : f0.offset = 0) (o1 : f1.offset = 1) (o2 : f2.offset = 2) (u0 : P.underlying f0.type = some (.int .i64)) (u1 : P.underlying f1.type = some (.int .i64)) (u2 : P.underlying f2.type = some (.slice ti)) (ui : P.underlying ti = some (.int .i64))
  (c0 : P.cellsOf f0.type = 1) (c1 : P.cellsOf f1.type = 1) (c2 : P.cellsOf f2.type = 1) (ci : P.cellsOf ti = 1) (bi : 1 ≤ P.bytesOf ti)
  (h : DataW.trod enc P w base (fun _ => true) held fuel t [v] = some x) (hf : Fits P t x.1) : ∃ ys : List Rule, Rd 3 ruleR w v ys := by
 refine rd_trod ht hc hby (fun n cs y hl hy hfy => ?_) h hf
 match cs, hl with
 | [a, b, c], _ =>
  obtain ⟨y0, y1, y2, n', hy', _, h0, h1, h2⟩ := trod_struct3 he hy
  subst hy'
  rw [o0, c0] at h0; rw [o1, c1] at h1; rw [o2, c2] at h2
  simp at h0 h1 h2
  obtain ⟨z0, e0, _⟩ := DataW.trod_int u0 h0
  obtain ⟨z1, e1, _⟩ := DataW.trod_int u1 h1
  simp at e0 e1
  obtain ⟨ys, hys⟩ := rd_ints u2 ui ci bi h2 (hfy.part he 2 rfl rfl)
  exact ⟨⟨z0, z1, ys⟩, c, by rw [e0, e1], hys⟩
end
end Go.Proofs.Lx

namespace Go.Proofs.Lx
open Go Go.RowKit Go.ChangeShapes Go.WideShapes Go.ChangeAt Go.Joins Go.Deep
set_option linter.unusedSimpArgs false
set_option linter.unusedVariables false

theorem ownTry : ownKnob Tryz.prog.godebug = none := by kernel_rfl
theorem laidTry : laidOutB Tryz.prog = true := by kernel_rfl
theorem cellsTheory : Tryz.prog.cellsOf 25 = 4 := by kernel_rfl
theorem cellsRule : Tryz.prog.cellsOf 93 = 3 := by kernel_rfl
theorem cellsInt : Tryz.prog.cellsOf 3 = 1 := by kernel_rfl
theorem cellsInts : Tryz.prog.cellsOf 36 = 1 := by kernel_rfl
theorem cellsKind : Tryz.prog.cellsOf 91 = 1 := by kernel_rfl
theorem cellsMark : Tryz.prog.cellsOf 58 = 1 := by kernel_rfl
theorem bytesInt : 1 ≤ Tryz.prog.bytesOf 3 := of_decide_eq_true (by kernel_rfl)
theorem bytesInts : 1 ≤ Tryz.prog.bytesOf 36 := of_decide_eq_true (by kernel_rfl)
theorem bytesRule : 1 ≤ Tryz.prog.bytesOf 93 := of_decide_eq_true (by kernel_rfl)
theorem bytesMark : 1 ≤ Tryz.prog.bytesOf 58 := of_decide_eq_true (by kernel_rfl)
theorem oneTheory : ∀ fs, Tryz.prog.underlying 25 = some (.struct fs) → oneCellFields Tryz.prog fs = true := by
 intro fs h
 rw [Tryz.underlying25] at h
 cases h; kernel_rfl
section
variable {H : Type} {enc : TypeId × Value → H} {w : World} {base : Nat}
set_option maxRecDepth 100000 in
theorem rd_ints_arg {v : Value} {d : DataW H} {p : List MemPlace} (hv : Value.okWide Tryz.prog w .any base 36 v) (h : DataW.Trod enc Tryz.prog w 0 (fun _ => true) true 36 v d p) (hf : Fits Tryz.prog 36 d) : ∃ l, RdI w v l := by
 obtain ⟨a0, len, cap, rfl⟩ := okWide_slice Tryz.underlying36 hv
 obtain ⟨fuel, h⟩ := h
 exact rd_ints Tryz.underlying36 Tryz.underlying3 cellsInt bytesInt h hf
set_option maxRecDepth 100000 in
theorem rd_marks_arg {v : Value} {d : DataW H} {p : List MemPlace} (hv : Value.okWide Tryz.prog w .any base 40 v) (h : DataW.Trod enc Tryz.prog w 0 (fun _ => true) true 40 v d p) (hf : Fits Tryz.prog 40 d) :
  ∃ l : List Nat, Rd 1 (scR fun x : Nat => Value.int .u8 (x : Int)) w v l ∧ ∀ x ∈ l, x < 256 := by
 obtain ⟨a0, len, cap, rfl⟩ := okWide_slice Tryz.underlying40 hv
 obtain ⟨fuel, h⟩ := h
 exact rd_bytes Tryz.underlying40 Tryz.underlying58 cellsMark bytesMark h hf
set_option maxRecDepth 100000 in
theorem rd_theory {v : Value} {d : DataW H} {p : List MemPlace} (hv : Value.okWide Tryz.prog w .any base 25 v) (h : DataW.Trod enc Tryz.prog w 0 (fun _ => true) true 25 v d p) (hf : Fits Tryz.prog 25 d) : ∃ T, RdTh w v T := by
 obtain ⟨v0, v1, v2, v3, y0, y1, y2, y3, n, rfl, rfl, _, h0, h1, h2, h3⟩ := open_agg4 Tryz.underlying25 (oneTheory _ Tryz.underlying25) cellsTheory hv h
 obtain ⟨z0, e0, _⟩ := DataW.trod_int Tryz.underlying3 h0
 simp only [List.cons.injEq, and_true] at e0
 subst e0
 obtain ⟨fo, hfo⟩ := rd_rows Tryz.underlying22 Tryz.underlying36 Tryz.underlying3 cellsInts cellsInt bytesInts bytesInt h1 (hf.part Tryz.underlying25 1 rfl rfl)
 obtain ⟨rs, hrs⟩ := rd_rules Tryz.underlying23 Tryz.underlying93 cellsRule bytesRule rfl rfl rfl Tryz.underlying91 Tryz.underlying3 Tryz.underlying36 Tryz.underlying3 cellsKind cellsInt cellsInts cellsInt bytesInt h2 (hf.part Tryz.underlying25 2 rfl rfl)
 obtain ⟨bs, hbs⟩ := rd_rows Tryz.underlying22 Tryz.underlying36 Tryz.underlying3 cellsInts cellsInt bytesInts bytesInt h3 (hf.part Tryz.underlying25 3 rfl rfl)
 exact ⟨⟨z0, fo, rs, bs⟩, v1, v2, v3, rfl, hfo, hrs, hbs⟩
end
end Go.Proofs.Lx
