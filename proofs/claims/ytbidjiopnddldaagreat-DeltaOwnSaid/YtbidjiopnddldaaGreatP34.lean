/- Parts of the proof: Iq, Ir, Sa. delta's example: alive of law 19. -/
import Derived.Test.YtbidjiopnddldaaGreatP33
import Derived.Test.YtbidjiopnddldaaGreatP14
import Derived.Test.YtbidjiopnddldaaGreatP5
import Derived.Test.YtbidjiopnddldaaGreatP1
namespace Go.Proofs.Lx
open Go Go.RowKit Go.Proofs.Tj
set_option linter.unusedSimpArgs false
set_option linter.unusedVariables false
set_option maxHeartbeats 800000 in
theorem sameI_any (w : World) (v1 v2 : Value) (X Y : List Int) (h1 : RdI w v1 X) (h2 : RdI w v2 Y) :
  Calls Tryz.prog 20 #[v1, v2] w (Ret fun v w' => v = .bool (decide (X = Y)) ∧ Below w.heap.size w w') := by
 obtain ⟨A, c, rfl, hc, hb, hr⟩ := h1
 obtain ⟨B, d, rfl, hd, hb2, hr2⟩ := h2
 refine post_gen fun Q HQ => ?_
 go_enter Tryz.func20, Tryz.ntmps20
 by_cases hl : X.length = Y.length
 case neg =>
  have hne : ((X.length : Int) != (Y.length : Int)) = true := by simp; omega
  have HL := hid hl
  clear hl
  go_wp2
  go_ret
  exact Fin HQ ⟨by rw [decide_eq_false fun e : X = Y => HL.out (by rw [e])]; rfl, ext_refl _⟩
 have HL := hid hl
 generalize hn : X.length = n at *
 have Hn := hid hn
 clear hn
 rw [← HL.out] at hd hb2
 rw [← HL.out]
 clear hl
 go_wp2
 go_loopw [5] (fun v5 wr => ∃ k : Nat, k ≤ n ∧ v5 = .int .i64 k ∧ Hid (∀ i (h1 : i < X.length) (h2 : i < Y.length), i < k → X[i] = Y[i]) ∧ Below w.heap.size w wr) (fun v5 _ => n - (intOf v5).toNat)
 case atStart => exact ⟨0, Nat.zero_le _, rfl, fun i _ _ h => absurd h (by omega), ext_refl _⟩
 case round =>
  obtain ⟨k, hk, rfl, heq, hbl⟩ := hrel
  by_cases hlt : k < n
  ·have hx : k < X.length := by rw [Hn.out]; exact hlt
   have hy : k < Y.length := by rw [← HL.out]; exact hlt
   obtain ⟨ad, rfl, hcX⟩ := (hr.ext (scR_mono _) hbl).at1 hx
   obtain ⟨ad2, rfl, hcY⟩ := (hr2.ext (scR_mono _) hbl).at1 hy
   obtain ⟨x, HX⟩ : ∃ x, Hid (X[k] = x) := ⟨_, hid rfl⟩
   obtain ⟨y, HY⟩ : ∃ y, Hid (Y[k] = y) := ⟨_, hid rfl⟩
   rw [HX.out] at hcX
   rw [HY.out] at hcY
   by_cases hxy : x = y
   ·have hne : (x != y) = false := by simp [hxy]
    have Hxy := hid hxy
    clear hxy
    go_wp2
    go_quiet (fail)
    go_wp2
    go_roundw
    case rel =>
     refine ⟨k + 1, by omega, by go_num, hid fun i h1 h2 hi => ?_, below_drewN hbl _⟩
     by_cases e : i = k
     ·subst e; rw [HX.out, HY.out]; exact Hxy.out
     ·exact heq.out i h1 h2 (by omega)
    case measure => simp [intOf]; omega
   ·have hne : (x != y) = true := by simp; omega
    have Hxy := hid hxy
    clear hxy
    go_wp2
    go_quiet (fail)
    go_wp2
    go_ret
    refine Fin HQ ⟨?_, below_drewN hbl _⟩
    have hne2 : X ≠ Y := by
     intro e
     subst e
     exact Hxy.out (HX.out.symm.trans HY.out)
    rw [decide_eq_false hne2]; rfl
  ·go_wp2
   go_ret
   refine Fin HQ ⟨?_, hbl⟩
   have heq2 : X = Y := List.ext_getElem (by rw [Hn.out]; exact HL.out) fun i h1 h2 => heq.out i h1 h2 (by rw [Hn.out] at h1; omega)
   rw [decide_eq_true heq2]; rfl

theorem num19_any (x : Int) (w : World) : Calls Tryz.prog 10 #[.int .i64 x] w (Ret fun v w' => v = .int .i64 x ∧ w' = w) := by
 refine post_gen fun Q HQ => ?_
 go_enter Tryz.func10, Tryz.ntmps10
 go_wp2
 go_ret
 exact Fin HQ ⟨rfl, rfl⟩
theorem own_all3 {w : World} {base e n : Nat} {v : Value} {xs : List Value} (h : w.ownsRow base e 3 v n xs) (hn : 0 < n) : ∃ g cap, v = .slice (some ⟨g, 0, none⟩) n cap ∧ base ≤ g ∧ g < w.heap.size ∧ ∀ i x, xs[i]? = some x → w.cell? ⟨g, i, none⟩ = some x := by
 rcases h.2 with ⟨h1, h2⟩ | ⟨gg, cp, cur, h1, h2, h3, h4⟩
 ·omega
 ·subst h1
  refine ⟨gg, cp, rfl, h2, lt_of_block h3, fun i x hx => ?_⟩
  have := h.cells (g := gg) rfl i x hx
  rwa [add_plain] at this
set_option maxRecDepth 1000000 in
set_option maxHeartbeats 12800000 in
theorem alive19_any (w : World) : Calls Tryz.prog 7 #[] w (Ret fun v w' => v = .bool true ∧ Below w.heap.size w w') := by
 have HeA := hid (givenErr_ok.2 ⟨exS_wf, (by decide : risB [] exS.lits = true)⟩)
 have Hnum := hid num19_any
 refine post_gen fun Q HQ => ?_
 go_enter Tryz.func7, Tryz.ntmps7
 go_wp2_with fail
 refine (small_any w).mono ?_
 rintro e w1 ⟨V, rfl, hT, hb1⟩
 go_wp2_with fail
 refine (newD_any w1 V exS hT).mono ?_
 rintro e w2 ⟨_, rfl, hb2, ⟨he, _⟩ | ⟨_, x, vM, rfl, heng⟩⟩
 ·exact absurd HeA.out he
 have Hb2 := hid (ext_trans hb1 hb2)
 have Heng := hid heng
 have hs1 := hb1.size
 clear hT hb1 hb2 heng
 go_wp2_with (go_at_call 10; refine (Hnum.out _ _).mono ?_; rintro e w' ⟨_, rfl, rfl, hw9⟩; rw [hw9]; clear hw9 w')
 have hadd1 := addD_any w2 x vM exS [] [] _ Heng.out exS_wf (by decide) 0
 rw [show addE exS [] 0 = 0 by decide] at hadd1
 simp only [nxC, nxG, nxU, if_true, exS_add] at hadd1
 rw [exS_ch, exS_cone] at hadd1
 have Hadd1 := hid hadd1
 clear hadd1
 refine Hadd1.out.mono ?_
 rintro e w3 ⟨_, rfl, v3, rfl, ho3, he3, ha3, _⟩
 obtain ⟨g3, cap3, rfl, hg3, hg3l, hcs⟩ := own_all3 ho3 (by decide)
 have hx2 := Heng.out.ft x Heng.out.fx
 have hm2 : ∀ k, vM.ownBlock = some k → k < w2.heap.size := fun k hk => (Heng.out.own.lt k hk).2
 have Ho3 := hid ho3
 have He3 := hid he3
 have Ha3 := hid ha3
 have Hcs := hid hcs
 clear ho3 he3 ha3 hcs Hadd1
 go_wp2_with fail
 have hadd2 := addD_any w3 x vM exS [0] [0, 1] _ He3.out exS_wf (by decide) 0
 rw [show addE exS [0] 0 = 181 by decide] at hadd2
 simp only [nxC, nxG, nxU, show ¬ ((181 : Int) = 0) by decide, if_false] at hadd2
 have Hadd2 := hid hadd2
 clear hadd2
 refine Hadd2.out.mono ?_
 rintro e w4 ⟨_, rfl, v4, rfl, ho4, he4, ha4, _⟩
 have hk4 : w4.heap[g3]? = w3.heap[g3]? := ha4.old g3 hg3l (by omega) fun e => by have := hm2 g3 e; omega
 have hc4 : ∀ i u, (chV [(0, 10, 5), (1, 10, 6)])[i]? = some u → w4.cell? ⟨g3, i, none⟩ = some u := fun i u hu => (World.cell?_of_block hk4).trans (Hcs.out i u hu)
 have k0 := hc4 0 _ rfl
 have k1 := hc4 1 _ rfl
 have k2 := hc4 2 _ rfl
 have k3 := hc4 3 _ rfl
 have k4 := hc4 4 _ rfl
 have k5 := hc4 5 _ rfl
 have He4 := hid he4
 have Ha4 := hid ha4
 clear ho4 he4 ha4 Hadd2 hk4 hc4 Hcs
 have Hfa := hid (factsD_any w4 x vM exS [0] _ _ _ He4.out)
 go_wp2_with (first | (go_at_call 10; refine (Hnum.out _ _).mono ?_; rintro e w' ⟨_, rfl, rfl, hw9⟩; rw [hw9]; clear hw9 w') | (go_at_call 28; refine Hfa.out.mono ?_; rintro e w5 ⟨r5, rfl, ho5, hb5⟩; have Ho5 := hid ho5; have Hb5 := hid hb5; clear ho5 hb5))
 have hb6 := ext_alloc w5 (.cells #[.int .i64 0] 3)
 refine (sameI_any _ _ _ [0] [0] ((own_rdI Ho5.out (by decide)).ext (scR_mono _) hb6) (rd_int1 (heap_alloc_new w5 _))).mono ?_
 rintro e w6 ⟨_, rfl, rfl, hb7⟩
 have Hb7 := hid (ext_trans hb6 hb7)
 clear hb6 hb7
 go_wp2_with fail
 go_ret
 have hlow : Below w.heap.size w w4 := by
  have h2 := Hb2.out
  have hxl := Heng.out.fx.1
  have hml : ∀ k, vM.ownBlock = some k → w1.heap.size ≤ k := fun k hk => (Heng.out.fm k hk).1.1
  have z2 := h2.size
  have z3 := Ha3.out.sz
  have z4 := Ha4.out.sz
  refine ⟨Ha4.out.os.trans (Ha3.out.os.trans h2.os), Ha4.out.tape.trans (Ha3.out.tape.trans h2.tape), Ha4.out.output.trans (Ha3.out.output.trans h2.output), by omega, fun k hk => (Ha4.out.old k (by omega) (by omega) fun e => ?_).trans ((Ha3.out.old k (by omega) (by omega) fun e => ?_).trans (h2.block k hk))⟩
  ·have := hml k e; omega
  ·have := hml k e; omega
 exact Fin HQ ⟨by simp, ext_trans (ext_trans hlow Hb5.out) Hb7.out⟩
end Go.Proofs.Lx

namespace Go.Proofs.Lx
open Go Go.RowKit Go.Proofs.Tj
set_option linter.unusedSimpArgs false
set_option linter.unusedVariables false
/-- An engine that stands behind all that was in w0. -/
structure EE (w0 w : World) (x : Nat) (vM : Value) (T : Th) (G U : List Int) (Ft : Nat → Prop) : Prop where
 e : EngD w x vM T G (solveM T G) U Ft
 ris : risB G T.lits = true
 lo : ∀ g, Ft g → w0.heap.size ≤ g
 bel : Below w0.heap.size w0 w
/-- No block of Ft is the engine's own. -/
def Apt (Ft : Nat → Prop) (x : Nat) (vM : Value) : Prop := ∀ g, Ft g → g ≠ x ∧ vM.ownBlock ≠ some g
section
variable {w0 w w' : World} {x y : Nat} {vM vN : Value} {T T2 : Th} {G U G2 U2 : List Int} {Ft Fu : Nat → Prop}
theorem EE.xlo (h : EE w0 w x vM T G U Ft) : w0.heap.size ≤ x ∧ ∀ g, vM.ownBlock = some g → w0.heap.size ≤ g := ⟨h.lo x h.e.fx, fun g hg => h.lo g (h.e.fm g hg).1⟩
theorem EE.xhi (h : EE w0 w x vM T G U Ft) : x < w.heap.size ∧ ∀ g, vM.ownBlock = some g → g < w.heap.size := ⟨h.e.ft x h.e.fx, fun g hg => h.e.ft g (h.e.fm g hg).1⟩
theorem EE.ext (h : EE w0 w x vM T G U Ft) (hb : Below w.heap.size w w') : EE w0 w' x vM T G U Ft := ⟨h.e.ext hb, h.ris, h.lo, ext_trans h.bel hb⟩
/-- The engine that was called. -/
theorem EE.call (h : EE w0 w x vM T G U Ft) {r : Value} {err : Int} {ch : List (Int × Nat × Nat)} (hc : CallD w w' x vM T Ft r err ch G2 U2) : EE w0 w' x vM T G2 U2 (fun g => Ft g ∨ (w.heap.size ≤ g ∧ g < w'.heap.size)) := by
 obtain ⟨v, _, _, h2, h3, h4⟩ := hc
 have hs := h.bel.size
 exact ⟨h2, h4, fun g hg => by rcases hg with h9 | h9; exact h.lo g h9; omega, h.bel.trans (h3.low hs h.xlo.1 h.xlo.2)⟩
/-- Another engine meanwhile. -/
theorem EE.beside (h : EE w0 w x vM T G U Ft) (k : EE w0 w y vN T2 G2 U2 Fu) (ha : Apt Fu x vM) (hc : Alt x vM w w') : EE w0 w' y vN T2 G2 U2 Fu :=
 ⟨k.e.keep hc.sz fun g hg => hc.old g (k.e.ft g hg) (ha g hg).1 (ha g hg).2, k.ris, k.lo, h.bel.trans (hc.low h.bel.size h.xlo.1 h.xlo.2)⟩
theorem Apt.more (ha : Apt Ft y vN) (k : EE w0 w y vN T2 G2 U2 Fu) : Apt (fun g => Ft g ∨ (w.heap.size ≤ g ∧ g < w'.heap.size)) y vN := fun g hg => by
 rcases hg with h9 | h9
 ·exact ha g h9
 ·have h1 := k.xhi.1
  exact ⟨by omega, fun e => by have := k.xhi.2 g e; omega⟩
/-- A copy: apart from the first, both ways. -/
theorem EE.copy (h : EE w0 w x vM T G U Ft) (hb : Below w.heap.size w w') (he : EngD w' y vN T G (solveM T G) U (fun g => w.heap.size ≤ g ∧ g < w'.heap.size)) : EE w0 w' y vN T G U (fun g => w.heap.size ≤ g ∧ g < w'.heap.size) ∧ Apt Ft y vN ∧ Apt (fun g => w.heap.size ≤ g ∧ g < w'.heap.size) x vM := by
 have hs := h.bel.size
 refine ⟨⟨he, h.ris, fun g hg => by omega, ext_trans h.bel hb⟩, fun g hg => ?_, fun g hg => ?_⟩
 ·have h1 := h.e.ft g hg
  have h2 := he.fx.1
  exact ⟨by omega, fun e => by have := (he.fm g e).1.1; omega⟩
 ·have h1 := h.xhi.1
  exact ⟨by omega, fun e => by have := h.xhi.2 g e; omega⟩
/-- A row that was made behind an engine stays where it is called. -/
theorem own_alt {b e s n : Nat} {v : Value} {xs : List Value} (ho : w.ownsRow b e s v n xs) (h : Alt x vM w w') (hx : x < b) (hm : ∀ g, vM.ownBlock = some g → g < b) : w'.ownsRow b e s v n xs := by
 refine ⟨ho.1, ?_⟩
 rcases ho.2 with k1 | ⟨g, cap, cur, k1, k2, k3, k4⟩
 ·exact .inl k1
 ·exact .inr ⟨g, cap, cur, k1, k2, (h.old g (lt_of_block k3) (by omega) fun e => by have := hm g e; omega).trans k3, k4⟩
end
theorem CallD.alt {w w' : World} {x : Nat} {vM r : Value} {T : Th} {Ft : Nat → Prop} {err : Int} {ch : List (Int × Nat × Nat)} {G' U' : List Int} (h : CallD w w' x vM T Ft r err ch G' U') : Alt x vM w w' := by
 obtain ⟨_, _, _, _, h, _⟩ := h; exact h
/-- Two rising lists with the same members. -/
theorem ris_ext : ∀ {a b : List Int}, a.Pairwise (· < ·) → b.Pairwise (· < ·) → (∀ x, x ∈ a ↔ x ∈ b) → a = b
 | [], [], _, _, _ => rfl
 | [], y :: b, _, _, h => absurd ((h y).2 (by simp)) (by simp)
 | x :: a, [], _, _, h => absurd ((h x).1 (by simp)) (by simp)
 | x :: a, y :: b, ha, hb, h => by
  obtain ⟨a1, a2⟩ := List.pairwise_cons.1 ha
  obtain ⟨b1, b2⟩ := List.pairwise_cons.1 hb
  have hxy : x = y := by
   rcases List.mem_cons.1 ((h x).1 (by simp)) with e | e
   ·exact e
   ·rcases List.mem_cons.1 ((h y).2 (by simp)) with e2 | e2
    ·exact e2.symm
    ·have := b1 x e; have := a1 y e2; omega
  subst hxy
  congr 1
  refine ris_ext a2 b2 fun z => ⟨fun hz => ?_, fun hz => ?_⟩
  ·rcases List.mem_cons.1 ((h z).1 (by simp [hz])) with e | e
   ·have := a1 z hz; omega
   ·exact e
  ·rcases List.mem_cons.1 ((h z).2 (by simp [hz])) with e | e
   ·have := b1 z hz; omega
   ·exact e
end Go.Proofs.Lx

namespace Go.Proofs.Lx
open Go Go.RowKit
set_option linter.unusedSimpArgs false
set_option linter.unusedVariables false

theorem getD_at {l : List Int} {k : Nat} (h : k < l.length) : l.getD k 0 = l[k] := by simp [h]
set_option maxRecDepth 100000 in
set_option maxHeartbeats 1600000 in
theorem rise12_drew (w : World) (v : Value) (l : List Int) (n : Int) (hv : RdI w v l) :
  Calls Tryz.prog 61 #[v, .int .i64 n] w (Ret fun v w' => v = .bool (risB l n) ∧ ∃ m, w' = w.drewN m) := by
 obtain ⟨A, c, rfl, hc, hb, hr⟩ := hv
 refine post_gen fun Q HQ => ?_
 go_enter Tryz.func61, Tryz.ntmps61
 go_wp2
 go_loopw [5] (fun v5 wr => ∃ k : Nat, k ≤ l.length ∧ v5 = .int .i64 k ∧ Hid (∀ i, i < k → risOk l n i = true) ∧ ∃ nn, wr = w.drewN nn) (fun v5 _ => l.length - (intOf v5).toNat)
 case atStart => exact ⟨0, Nat.zero_le _, rfl, fun i hk => absurd hk (by omega), 0, rfl⟩
 case round =>
  obtain ⟨k, hk, rfl, hno, nn, rfl⟩ := hrel
  have hbl := ext_drewN w nn
  by_cases hlt : k < l.length
  ·obtain ⟨ad, rfl, hcell⟩ := hr.at1 hlt
   have Hg := hid (getD_at hlt)
   obtain ⟨x, Hx⟩ : ∃ x, Hid (l[k] = x) := ⟨_, hid rfl⟩
   rw [Hx.out] at hcell
   have Hok : Hid (∀ b, risOk l n k = b → b = false → risB l n = false) := hid fun b h1 h2 => risB_false hlt (by rw [h1, h2])
   have Hris : Hid (risOk l n k = (decide (0 ≤ x) && decide (x < n) && (decide (k = 0) || decide (l.getD (k - 1) 0 < x)))) := hid (by rw [risOk, Hg.out, Hx.out])
   by_cases h1 : x < 0
   ·have hF : Hid (risB l n = false) := hid (Hok.out _ Hris.out (by rw [decide_eq_false (by omega)]; rfl))
    have d1 : decide (x < 0) = true := decide_eq_true h1
    go_wp2
    go_quiet (fail)
    go_wp2
    go_ret
    exact Fin HQ ⟨by rw [hF.out]; rfl, _, World.drewN_drewN _ _ _⟩
   have d1 : decide (x < 0) = false := decide_eq_false h1
   by_cases h2 : n ≤ x
   ·have hF : Hid (risB l n = false) := hid (Hok.out _ Hris.out (by rw [decide_eq_false (show ¬ x < n by omega), Bool.and_false]; rfl))
    have d2 : decide (n ≤ x) = true := decide_eq_true h2
    clear h1
    go_wp2
    go_quiet (fail)
    go_wp2
    go_ret
    exact Fin HQ ⟨by rw [hF.out]; rfl, _, World.drewN_drewN _ _ _⟩
   have d2 : decide (n ≤ x) = false := decide_eq_false h2
   by_cases hk0 : k = 0
   ·subst hk0
    have hT : Hid (risOk l n 0 = true) := hid (by rw [Hris.out, decide_eq_true (show 0 ≤ x by omega), decide_eq_true (show x < n by omega)]; rfl)
    clear h1 h2
    rw [add_zero] at hcell
    rw [show ((0 : Nat) : Int) = 0 from rfl]
    go_wp2
    go_quiet (fail)
    go_wp2
    go_roundw
    case rel =>
     refine ⟨1, by omega, by go_num, hid fun i hi => ?_, _, rfl⟩
     obtain rfl : i = 0 := by omega
     exact hT.out
    case measure => simp [intOf]; omega
   ·obtain ⟨ad', e, hcj⟩ := hr.at1 (show k - 1 < l.length by omega)
    cases e
    have Hgj := hid (getD_at (show k - 1 < l.length by omega))
    obtain ⟨y, Hy⟩ : ∃ y, Hid (l[k - 1]'(by omega) = y) := ⟨_, hid rfl⟩
    rw [Hy.out] at hcj
    have hcj2 : w.cell? (ad.add ((k : Int) - 1).toNat) = some (.int .i64 y) := by rw [show ((k : Int) - 1).toNat = k - 1 by omega]; exact hcj
    have hwr : IntKind.i64.wrap ((k : Int) - 1) = (k : Int) - 1 := by simp [IntKind.wrap, IntKind.bits, IntKind.signed]; omega
    have hp0 : (0 : Int) < (k : Int) := by omega
    have hp1 : (0 : Int) ≤ (k : Int) - 1 := by omega
    have hp2 : (k : Int) - 1 < (l.length : Int) := by omega
    have hp3 : 0 < k := by omega
    have hp4 : 1 ≤ k := by omega
    have hp5 : (1 : Int) ≤ (k : Int) := by omega
    have hp6 : k < l.length + 1 := by omega
    have hp7 : (k : Int) < (l.length : Int) + 1 := by omega
    have hp8 : k ≤ l.length := by omega
    have hp9 : k - 1 < l.length := by omega
    have hd0 : decide (0 < k) = true := decide_eq_true (by omega)
    have Hris2 : Hid (risOk l n k = decide (y < x)) := hid (by
     rw [Hris.out, decide_eq_true (show 0 ≤ x by omega), decide_eq_true (show x < n by omega), decide_eq_false hk0, Hgj.out, Hy.out]; rfl)
    have Hk0 := hid hk0
    clear hk0
    by_cases h3 : x ≤ y
    ·have hF : Hid (risB l n = false) := hid (Hok.out _ Hris2.out (decide_eq_false (by omega)))
     have d3 : decide (x ≤ y) = true := decide_eq_true h3
     clear h1 h2
     go_wp2
     go_quiet (fail)
     go_wp2
     go_ret
     exact Fin HQ ⟨by rw [hF.out]; rfl, _, World.drewN_drewN _ _ _⟩
    ·have hT : Hid (risOk l n k = true) := hid (by rw [Hris2.out]; exact decide_eq_true (by omega))
     have d3 : decide (x ≤ y) = false := decide_eq_false h3
     clear h1 h2
     go_wp2
     go_quiet (fail)
     go_wp2
     go_roundw
     case rel =>
      refine ⟨k + 1, by omega, by go_num, hid fun i hi => ?_, _, rfl⟩
      by_cases e : i = k
      ·subst e; exact hT.out
      ·exact hno.out i (by omega)
     case measure => simp [intOf]; omega
  ·have hT : Hid (risB l n = true) := hid (risB_true.2 fun i hi => hno.out i (by omega))
   go_wp2
   go_ret
   exact Fin HQ ⟨by rw [hT.out]; rfl, _, rfl⟩

theorem rise12_any (w : World) (v : Value) (l : List Int) (n : Int) (hv : RdI w v l) :
  Calls Tryz.prog 61 #[v, .int .i64 n] w (Ret fun v w' => v = .bool (risB l n) ∧ Below w.heap.size w w') :=
 (rise12_drew w v l n hv).mono fun e w' h => h.mono fun v w' ⟨hv, m, hm⟩ => ⟨hv, by rw [hm]; exact ext_drewN w m⟩
theorem rise12_quiet (w : World) (v : Value) (l : List Int) (n : Int) (hv : RdI w v l) (q : Nat) :
  Calls Tryz.prog 61 #[v, .int .i64 n] (w.drewN q) (fun e w' => e = .returned (.bool (risB l n)) ∧ ∃ m, w' = w.drewN m) :=
 (rise12_drew _ v l n (hv.ext (scR_mono _) (ext_drewN w q))).mono fun e w' ⟨v, he, hv, m, hm⟩ => ⟨by rw [he, hv], q + m, by rw [hm, World.drewN_drewN]⟩

set_option maxHeartbeats 800000 in
theorem in12_same (w : World) (v : Value) (l : List Int) (x : Int) (hv : RdI w v l) :
  Calls Tryz.prog 63 #[v, .int .i64 x] w (fun e w' => e = .returned (.bool (memB l x)) ∧ w' = w) := by
 refine Calls.mono (R := Ret fun v w' => v = .bool (memB l x) ∧ w' = w) ?_ (fun e w' ⟨v, he, hv, hw⟩ => ⟨by rw [he, hv], hw⟩)
 obtain ⟨A, c, rfl, hc, hb, hr⟩ := hv
 refine post_gen fun Q HQ => ?_
 go_enter Tryz.func63, Tryz.ntmps63
 go_wp2
 go_loop [5] (fun v5 => ∃ k : Nat, k ≤ l.length ∧ v5 = .int .i64 k ∧ Hid (∀ i (h : i < l.length), i < k → l[i] ≠ x)) (fun v5 => l.length - (intOf v5).toNat)
 case atStart => exact ⟨0, Nat.zero_le _, rfl, fun i _ hk => absurd hk (by omega)⟩
 case round =>
  obtain ⟨k, hk, rfl, hno⟩ := hrel
  by_cases hlt : k < l.length
  ·obtain ⟨ad, rfl, hcell⟩ := hr.at1 hlt
   obtain ⟨y, Hy⟩ : ∃ y, Hid (l[k] = y) := ⟨_, hid rfl⟩
   have Hmem := hid (List.getElem_mem hlt)
   rw [Hy.out] at hcell Hmem
   by_cases he : y = x
   ·have hb1 : (y == x) = true := by simp [he]
    have hT : Hid (memB l x = true) := hid (memB_true.2 (by rw [← he]; exact Hmem.out))
    clear he
    go_wp2
    go_ret
    exact Fin HQ ⟨by rw [hT.out]; rfl, rfl⟩
   ·have hb1 : (y == x) = false := by simp [he]
    have He := hid he
    clear he
    go_wp2
    go_round
    case rel =>
     refine ⟨k + 1, by omega, by go_num, hid fun i h hi => ?_⟩
     by_cases e : i = k
     ·subst e; rw [Hy.out]; exact He.out
     ·exact hno.out i h (by omega)
    case measure => simp [intOf]; omega
  ·have hF : Hid (memB l x = false) := hid (memB_false.2 fun hm => by
    obtain ⟨i, hi, e⟩ := List.getElem_of_mem hm
    exact hno.out i hi (by omega) e)
   go_wp2
   go_ret
   exact Fin HQ ⟨by rw [hF.out]; rfl, rfl⟩
theorem in12_any (w : World) (v : Value) (l : List Int) (x : Int) (hv : RdI w v l) :
  Calls Tryz.prog 63 #[v, .int .i64 x] w (Ret fun v w' => v = .bool (memB l x) ∧ Below w.heap.size w w') :=
 (in12_same w v l x hv).mono fun e w' ⟨he, hw⟩ => ⟨_, he, rfl, by rw [hw]; exact ext_refl _⟩

set_option maxHeartbeats 800000 in
theorem facts12_any (w : World) (V vl : Value) (T : Th) (l : List Int) (hT : RdTh w V T) (hl : RdI w vl l) :
  Calls Tryz.prog 49 #[V, vl] w (Ret fun v w' => v = .int .i64 (if risB l T.lits = true then 0 else 181) ∧ Below w.heap.size w w') := by
 obtain ⟨vF, vR, vB, rfl, hF, hR, hB⟩ := hT
 have hl' := hl.ext (scR_mono _) (ext_alloc w (.cells #[.int .i64 T.lits, vF, vR, vB] 25))
 have hcall := hid (rise12_any _ vl l T.lits hl')
 have hbel := ext_alloc w (.cells #[.int .i64 T.lits, vF, vR, vB] 25)
 clear hl'
 refine post_gen fun Q HQ => ?_
 go_enter Tryz.func49, Tryz.ntmps49
 go_wp2_with fail
 refine hcall.out.mono ?_
 rintro e w2 ⟨_, rfl, rfl, hb2⟩
 cases h : risB l T.lits with
 | true =>
  rw [h] at HQ
  go_wp2_with fail
  go_ret
  exact Fin HQ ⟨rfl, ext_trans hbel hb2⟩
 | false =>
  rw [h] at HQ
  go_wp2_with fail
  go_ret
  exact Fin HQ ⟨rfl, ext_trans hbel hb2⟩

set_option maxRecDepth 100000 in
set_option maxHeartbeats 1600000 in
theorem foes12_any (w : World) (V : Value) (T : Th) (q : Nat) (hT : RdTh w V T) (hl : (T.foes.length : Int) = T.lits) (h4 : T.lits ≤ 4096) (hq : q < T.foes.length) :
  Calls Tryz.prog 60 #[V, .int .i64 q] w (Ret fun v w' => v = .bool (foesOk T q) ∧ Below w.heap.size w w') := by
 obtain ⟨vF, vR, vB, rfl, ⟨A, c, rfl, hc, hb, hr⟩, hR, hB⟩ := hT
 have hbel := ext_alloc w (.cells #[.int .i64 T.lits, .slice A T.foes.length c, vR, vB] 25)
 have hbx : ∀ W, Below (w.alloc (.cells #[.int .i64 T.lits, .slice A T.foes.length c, vR, vB] 25)).heap.size (w.alloc (.cells #[.int .i64 T.lits, .slice A T.foes.length c, vR, vB] 25)) W → W.cell? ⟨w.heap.size, 0, none⟩ = some (.int .i64 T.lits) ∧ W.cell? ⟨w.heap.size, 1, none⟩ = some (.slice A T.foes.length c) := fun W hW => by
  rw [World.size_alloc] at hW
  exact ⟨box_cell hW 0, box_cell hW 1⟩
 have Hbx := hid hbx
 have hr1 := hr.ext llR_mono hbel
 obtain ⟨ad, C, cC, rfl, p, h1, h2, hrow⟩ := hr1.atRow hq
 have Hrow : Hid (T.foes.getD q [] = T.foes[q]) := hid (by simp [hq])
 have Hfo : Hid (foesOk T q = (decide (T.foes[q].length ≤ 64) && risB T.foes[q] T.lits && !memB T.foes[q] q && T.foes[q].all fun f => memB (row T.foes f) q)) := hid (by rw [foesOk, Hrow.out])
 have Hris : Hid (risB T.foes[q] T.lits = true → ∀ i (h : i < T.foes[q].length), 0 ≤ T.foes[q][i] ∧ T.foes[q][i] < T.lits) := hid fun h => (risB_spec h).1
 generalize T.foes[q] = L at *
 have HrowE : Hid (RdI (w.alloc (.cells #[.int .i64 T.lits, .slice (some ad) T.foes.length c, vR, vB] 25)) (.slice C L.length cC) L) := hid ⟨C, cC, rfl, h1, h2, hrow⟩
 have Hb := hid hbel
 have Hr1 := hid hr1
 clear hbx hr hr1 hbel
 refine post_gen fun Q HQ => ?_
 go_enter Tryz.func60, Tryz.ntmps60
 by_cases h64 : L.length ≤ 64
 case neg =>
  have hF : Hid (foesOk T q = false) := hid (by rw [Hfo.out, decide_eq_false h64]; rfl)
  rw [hF.out] at HQ
  have hgt : (64 : Int) < (L.length : Int) := by omega
  go_wp2
  go_ret
  exact Fin HQ ⟨rfl, Hb.out⟩
 have H64 := hid h64
 have hgt : ¬ (64 : Int) < (L.length : Int) := by omega
 have Hc1 := hid (rise12_any _ _ L T.lits HrowE.out)
 clear h64
 go_wp2_with fail
 refine Hc1.out.mono ?_
 rintro e w2 ⟨_, rfl, rfl, hb2⟩
 cases hrs : risB L T.lits with
 | false =>
  have hF : Hid (foesOk T q = false) := hid (by rw [Hfo.out, hrs]; simp)
  rw [hF.out] at HQ
  clear hrs
  go_wp2
  go_ret
  exact Fin HQ ⟨rfl, ext_trans Hb.out hb2⟩
 | true =>
 have Hrs := hid hrs
 have Hin := hid (Hris.out hrs)
 have Hc2 := hid (in12_any w2 _ L (q : Int) (HrowE.out.ext (scR_mono _) hb2))
 clear hrs Hc1
 go_wp2_with fail
 refine Hc2.out.mono ?_
 rintro e w3 ⟨_, rfl, rfl, hb3⟩
 cases hmm : memB L (q : Int) with
 | true =>
  have hF : Hid (foesOk T q = false) := hid (by rw [Hfo.out, hmm]; simp)
  rw [hF.out] at HQ
  clear hmm
  go_wp2
  go_ret
  exact Fin HQ ⟨rfl, ext_trans Hb.out (ext_trans hb2 hb3)⟩
 | false =>
 have Hm := hid hmm
 have hb23 := ext_trans hb2 hb3
 have Hw3 := hid (ext_trans Hb.out hb23)
 have Hrow3 := hid ((HrowE.out.ext (scR_mono _) hb23))
 have hbx3 := hid (Hbx.out w3 hb23)
 have Hr3 := hid (Hr1.out.ext llR_mono hb23)
 clear hmm Hc2 hb2 hb3 hb23 p hrow HrowE Hr1 Hbx
 go_wp2
 go_loopw [6] (fun v6 wr => ∃ k : Nat, k ≤ L.length ∧ v6 = .int .i64 k ∧ Hid (∀ i (h : i < L.length), i < k → memB (row T.foes L[i]) q = true) ∧ Below w3.heap.size w3 wr) (fun v6 _ => L.length - (intOf v6).toNat)
 case atStart => exact ⟨0, Nat.zero_le _, rfl, fun i _ hk => absurd hk (by omega), Below.refl _ _⟩
 case round =>
  obtain ⟨k, hk, rfl, hno, hbl⟩ := hrel
  by_cases hlt : k < L.length
  ·obtain ⟨CC, cCC, e, hcc1, hcc2, hrl⟩ := Hrow3.out.ext (scR_mono _) hbl
   cases e
   obtain ⟨adL, rfl, hcell⟩ := hrl.at1 hlt
   have hrg := Hin.out k hlt
   obtain ⟨x, hx, hxe⟩ : ∃ x : Nat, x < T.foes.length ∧ L[k] = (x : Int) := ⟨L[k].toNat, by omega, by omega⟩
   rw [hxe] at hcell
   obtain ⟨ad', D, cD, e, pD, d1, d2, hrD⟩ := (Hr3.out.ext llR_mono hbl).atRow hx
   cases e
   have c1 := cell_ext hbl hbx3.out.2
   have Hrowx : Hid (row T.foes L[k] = T.foes[x]) := hid (by rw [hxe]; simp [row, hx])
   generalize T.foes[x] = M at *
   have Hcall : Hid (∀ n, Calls Tryz.prog 63 #[.slice D M.length cD, .int .i64 (q : Int)] (wr.drewN n) (fun e w' => e = .returned (.bool (memB M (q : Int))) ∧ w' = wr.drewN n)) := hid fun n => in12_same _ _ M (q : Int) (Rd.ext (scR_mono _) (⟨D, cD, rfl, d1, d2, hrD⟩ : RdI wr (.slice D M.length cD) M) (ext_drewN wr n))
   have hxi : (x : Int) < (T.foes.length : Int) := by omega
   clear hrD hrl
   cases hmm : memB M (q : Int) with
   | false =>
    rw [hmm] at Hcall
    have hF : Hid (foesOk T q = false) := hid (by
     rw [Hfo.out, Bool.and_eq_false_iff]
     right
     rw [List.all_eq_false]
     exact ⟨L[k], List.getElem_mem hlt, by rw [Hrowx.out, hmm]; simp⟩)
    rw [hF.out] at HQ
    clear hmm hrg
    go_wp2_with fail
    go_quiet ((go_at_call 63; exact Calls.quiet_of_same (Hcall.out _)))
    go_wp2
    go_ret
    exact Fin HQ ⟨rfl, ext_trans Hw3.out (below_drewN hbl _)⟩
   | true =>
    rw [hmm] at Hcall
    have Hmm := hid hmm
    clear hmm hrg
    go_wp2_with fail
    go_quiet ((go_at_call 63; exact Calls.quiet_of_same (Hcall.out _)))
    go_wp2
    go_roundw
    case rel =>
     refine ⟨k + 1, by omega, by go_num, hid fun i h hi => ?_, below_drewN hbl _⟩
     by_cases e : i = k
     ·subst e; rw [Hrowx.out]; exact Hmm.out
     ·exact hno.out i h (by omega)
    case measure => simp [intOf]; omega
  ·have hT : Hid (foesOk T q = true) := hid (by
    rw [Hfo.out, decide_eq_true H64.out, Hrs.out, Hm.out, List.all_eq_true.2 fun f hf => ?_]
    ·rfl
    ·obtain ⟨i, hi, rfl⟩ := List.getElem_of_mem hf
     exact hno.out i hi (by omega))
   rw [hT.out] at HQ
   go_wp2
   go_ret
   exact Fin HQ ⟨rfl, ext_trans Hw3.out hbl⟩
end Go.Proofs.Lx
