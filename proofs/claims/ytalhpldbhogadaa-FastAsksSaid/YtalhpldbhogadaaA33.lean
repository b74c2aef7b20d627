/- Parts of the proof: Wq, Sa, Sb, Sc. Contracts of fast.Undecided, Holds. -/
import Derived.Test.YtalhpldbhogadaaA32
import Derived.Test.YtalhpldbhogadaaA5
import Derived.Test.YtalhpldbhogadaaA1
import Derived.Test.YtalhpldbhogadaaA26
import Derived.Test.YtalhpldbhogadaaA28
import Derived.WalkSmall
namespace Go.Proofs.Lx
open Go Go.RowKit Go.Proofs.Tj
set_option linter.unusedSimpArgs false
set_option linter.unusedVariables false
set_option maxHeartbeats 1600000 in
theorem fund_any (w : World) (V vl : Value) (T : Th) (l : List Int) (hT : RdTh w V T) (hl : RdI w vl l) :
  Calls Try.prog 50 #[V, vl] w (Ret (IntsPost w (undL T l) (givenErr T l))) := by
 have HT := hid hT
 have Hl := hid hl
 obtain ⟨vF, vR, vB, rfl, hF, hR, hB⟩ := hT
 obtain ⟨AL, cL, rfl, _⟩ := hl
 generalize l.length = nl at *
 have hA := allocs [.cells #[.int .i64 T.lits, vF, vR, vB] 25, .cells #[.slice AL nl cL] 26] w
 obtain ⟨W1, HW1⟩ : ∃ W1, Hid (W1 = (w.alloc (.cells #[.int .i64 T.lits, vF, vR, vB] 25)).alloc (.cells #[.slice AL nl cL] 26)) := ⟨_, hid rfl⟩
 have e1 : [Obj.cells #[.int .i64 T.lits, vF, vR, vB] 25, .cells #[.slice AL nl cL] 26].foldl World.alloc w = W1 := HW1.out.symm
 rw [e1] at hA
 obtain ⟨hsz, hat, hbel⟩ := hA
 have hsz : W1.heap.size = w.heap.size + 2 := hsz
 have hg := fgiven_any W1 (.agg #[.int .i64 T.lits, vF, vR, vB]) (.slice (some ⟨w.heap.size + 1, 0, none⟩) 1 1) T [l] (HT.out.ext hbel) (rd_row1 (hat 1 _ rfl) (Hl.out.ext (scR_mono _) hbel))
 rw [givenErrs_one] at hg
 have Hg := hid hg
 have Hrun : Hid (givenErr T l = 0 → ∀ W, Below W1.heap.size W1 W → Calls Try.prog 71 #[.agg #[.int .i64 T.lits, vF, vR, vB], .slice AL nl cL] W (Ret (RunRes W T l))) := hid fun h W hb => frun_any W _ _ T l (HT.out.ext (ext_trans hbel hb)) (Hl.out.ext (scR_mono _) (ext_trans hbel hb)) (givenErr_ok.1 h).1 (givenErr_ok.1 h).2
 have Hbox : Hid (∀ W, Below W1.heap.size W1 W → W.cell? ⟨w.heap.size, 0, none⟩ = some (.int .i64 T.lits) ∧ W.cell? ⟨w.heap.size, 1, none⟩ = some vF ∧ W.cell? ⟨w.heap.size, 2, none⟩ = some vR ∧ W.cell? ⟨w.heap.size, 3, none⟩ = some vB) := hid fun W hb => by
  have h0 : W.heap[w.heap.size]? = some (.cells #[.int .i64 T.lits, vF, vR, vB] 25 (0, 0)) := (hb.block _ (by omega)).trans (hat 0 _ rfl)
  exact ⟨cell_of_row _ _ 0 _ _ _ h0, cell_of_row _ _ 1 _ _ _ h0, cell_of_row _ _ 2 _ _ _ h0, cell_of_row _ _ 3 _ _ _ h0⟩
 have Hbel := hid hbel
 have Hok := hid (@givenErr_ok T l)
 clear hF hR hB hg hat hsz hbel e1
 unfold IntsPost
 have HL0 : Hid (givenErr T l ≠ 0 → undL T l = []) := hid fun h => by unfold undL; rw [if_neg h]
 have HL1 : Hid (givenErr T l = 0 → undL T l = pickL (fun q => !hasM (solveM T l) 2 (q : Int) && !hasM (solveM T l) 3 (q : Int)) T.foes.length) := hid fun h => by unfold undL; rw [if_pos h]
 obtain ⟨c, Hc⟩ : ∃ c, Hid (givenErr T l = c) := ⟨_, hid rfl⟩
 rw [Hc.out] at Hg Hrun Hok HL0 HL1 ⊢
 have hnil : ∀ W : World, W.ownsRow w.heap.size 3 1 (.slice none 0 0) ([] : List Int).length (intsV []) := fun W => by simpa [intsV] using World.ownsRow_nil _ _ _ _
 have Hnil := hid hnil
 clear hnil
 refine post_gen fun Q HQ => ?_
 go_enter Try.func50, Try.ntmps50
 go_wp2_with fail
 rw [← HW1.out]
 refine Hg.out.mono ?_
 rintro e w2 ⟨_, rfl, rfl, hb2⟩
 have Hb2 := hid hb2
 by_cases h : c = 0
 ·subst h
  obtain ⟨b0, b1, b2, b3⟩ := Hbox.out w2 hb2
  have hL := HL1.out rfl
  rw [hL] at HQ
  clear hL
  have hq := hid (Hrun.out rfl w2 hb2)
  have hwf := (Hok.out.1 rfl).1
  have hfl := hwf.fl
  have hn4 : T.foes.length ≤ 4096 := by have := hwf.l1; omega
  have Hn4 := hid hn4
  have Hfl := hid hfl
  clear hb2 hwf hfl hn4
  go_wp2_with fail
  refine hq.out.mono ?_
  rintro e w3 ⟨_, rfl, G, S, D, W0, vT, rfl, hfe, hSn, hres, hbw, heng⟩
  have hb23 : Below w2.heap.size w2 w3 := ext_trans hbw heng.sp.old
  have hb13 := ext_trans Hb2.out hb23
  obtain ⟨W4, HW4⟩ : ∃ W4, Hid (W4 = w3.alloc (.cells #[.pointer (some ⟨G.b, 0, none⟩)] 105)) := ⟨_, hid rfl⟩
  have hb4 : Below w3.heap.size w3 W4 := by rw [HW4.out]; exact ext_alloc _ _
  obtain ⟨b0, b1, b2, b3⟩ := Hbox.out W4 (ext_trans hb13 hb4)
  rw [HW4.out] at b0 b1 b2 b3
  have hch := chosen_any W4 T.foes.length 80 #[.pointer (some ⟨w3.heap.size, 0, none⟩)] (fun q => !hasT D q 3 && !hasT D q 4) enters_und1 Hn4.out (fun q hqn W hW => by
   have hb3W := ext_trans hb4 hW
   have h0 : W.heap[w3.heap.size]? = some (.cells #[.pointer (some ⟨G.b, 0, none⟩)] 105 (0, 0)) := by
    rw [hW.block _ (by rw [HW4.out]; simp), HW4.out, heap_alloc_new]
   exact und1_any W W0 G S T D ⟨vT, heng.ext hb3W⟩ w3.heap.size q (by rw [hSn]; exact hqn) (hres.ti.lt q) (cell_of_row _ _ 0 _ _ _ h0))
  rw [pickL_congr (p' := fun q => !hasM (solveM T l) 2 (q : Int) && !hasM (solveM T l) 3 (q : Int)) (fun q hqn => by rw [hres.hasM hqn, hres.hasM hqn]; rfl)] at hch
  rw [Hfl.out] at hch
  have Hch := hid hch
  have Hb14 := hid (ext_trans hb13 hb4)
  clear hch hres heng hfe hSn hbw hb23 hb13 hb4 hq
  rw [HW4.out] at Hch
  go_wp2_with fail
  refine Hch.out.mono ?_
  rintro e w5 ⟨_, rfl, hown, hb5⟩
  rw [← HW4.out] at hown hb5
  have Hown := hid hown
  clear hown
  go_wp2_with fail
  go_ret2
  exact Fin HQ ⟨_, rfl, own_lower Hown.out (ext_trans Hbel.out Hb14.out).size, ext_trans Hbel.out (ext_trans Hb14.out hb5)⟩
 ·have hne : (c != 0) = true := by simp [h]
  have hL := HL0.out h
  rw [hL] at HQ
  clear hL hb2
  go_wp2_with fail
  go_ret2
  exact Fin HQ ⟨_, rfl, Hnil.out _, ext_trans Hbel.out Hb2.out⟩
/-- What Holds answers. -/
noncomputable def holdErr (T : Th) (l : List Int) (q tag : Int) : Int := if givenErr T l = 0 then (if q < 0 ∨ T.lits ≤ q then 91 else if tag < 1 ∨ 4 < tag then 1 else 0) else givenErr T l
noncomputable def holdB (T : Th) (l : List Int) (q tag : Int) : Bool := if holdErr T l q tag = 0 then hasM (solveM T l) (tag.toNat - 1) q else false
set_option maxHeartbeats 1600000 in
theorem fholds_any (w : World) (V vl : Value) (T : Th) (l : List Int) (q tag : Int) (hT : RdTh w V T) (hl : RdI w vl l) :
  Calls Try.prog 46 #[V, vl, .int .i64 q, .int .i64 tag] w (Ret fun r w' => r = .tuple #[.bool (holdB T l q tag), .int .i64 (holdErr T l q tag)] ∧ Below w.heap.size w w') := by
 have HT := hid hT
 have Hl := hid hl
 obtain ⟨vF, vR, vB, rfl, hF, hR, hB⟩ := hT
 obtain ⟨AL, cL, rfl, _⟩ := hl
 generalize l.length = nl at *
 have hA := allocs [.cells #[.int .i64 T.lits, vF, vR, vB] 25, .cells #[.slice AL nl cL] 26] w
 obtain ⟨W1, HW1⟩ : ∃ W1, Hid (W1 = (w.alloc (.cells #[.int .i64 T.lits, vF, vR, vB] 25)).alloc (.cells #[.slice AL nl cL] 26)) := ⟨_, hid rfl⟩
 have e1 : [Obj.cells #[.int .i64 T.lits, vF, vR, vB] 25, .cells #[.slice AL nl cL] 26].foldl World.alloc w = W1 := HW1.out.symm
 rw [e1] at hA
 obtain ⟨hsz, hat, hbel⟩ := hA
 have hsz : W1.heap.size = w.heap.size + 2 := hsz
 have hg := fgiven_any W1 (.agg #[.int .i64 T.lits, vF, vR, vB]) (.slice (some ⟨w.heap.size + 1, 0, none⟩) 1 1) T [l] (HT.out.ext hbel) (rd_row1 (hat 1 _ rfl) (Hl.out.ext (scR_mono _) hbel))
 rw [givenErrs_one] at hg
 have Hg := hid hg
 have Hrun : Hid (givenErr T l = 0 → ∀ W, Below W1.heap.size W1 W → Calls Try.prog 71 #[.agg #[.int .i64 T.lits, vF, vR, vB], .slice AL nl cL] W (Ret (RunRes W T l))) := hid fun h W hb => frun_any W _ _ T l (HT.out.ext (ext_trans hbel hb)) (Hl.out.ext (scR_mono _) (ext_trans hbel hb)) (givenErr_ok.1 h).1 (givenErr_ok.1 h).2
 have Hbox : Hid (∀ W, Below W1.heap.size W1 W → W.cell? ⟨w.heap.size, 0, none⟩ = some (.int .i64 T.lits) ∧ W.cell? ⟨w.heap.size, 1, none⟩ = some vF ∧ W.cell? ⟨w.heap.size, 2, none⟩ = some vR ∧ W.cell? ⟨w.heap.size, 3, none⟩ = some vB) := hid fun W hb => by
  have h0 : W.heap[w.heap.size]? = some (.cells #[.int .i64 T.lits, vF, vR, vB] 25 (0, 0)) := (hb.block _ (by omega)).trans (hat 0 _ rfl)
  exact ⟨cell_of_row _ _ 0 _ _ _ h0, cell_of_row _ _ 1 _ _ _ h0, cell_of_row _ _ 2 _ _ _ h0, cell_of_row _ _ 3 _ _ _ h0⟩
 have Hbel := hid hbel
 have Hok := hid (@givenErr_ok T l)
 clear hF hR hB hg hat hsz hbel e1
 have He : Hid (∀ c, givenErr T l = c → holdErr T l q tag = if c = 0 then (if q < 0 ∨ T.lits ≤ q then 91 else if tag < 1 ∨ 4 < tag then 1 else 0) else c) := hid fun c hc => by unfold holdErr; rw [hc]
 have HB0 : Hid (holdErr T l q tag ≠ 0 → holdB T l q tag = false) := hid fun h => by unfold holdB; rw [if_neg h]
 have HB1 : Hid (holdErr T l q tag = 0 → holdB T l q tag = hasM (solveM T l) (tag.toNat - 1) q) := hid fun h => by unfold holdB; rw [if_pos h]
 obtain ⟨c, Hc⟩ : ∃ c, Hid (givenErr T l = c) := ⟨_, hid rfl⟩
 have he := He.out c Hc.out
 rw [Hc.out] at Hg Hrun Hok
 refine post_gen fun Q HQ => ?_
 go_enter Try.func46, Try.ntmps46
 go_wp2_with fail
 rw [← HW1.out]
 refine Hg.out.mono ?_
 rintro e w2 ⟨_, rfl, rfl, hb2⟩
 have Hb2 := hid hb2
 by_cases h : c = 0
 ·subst h
  rw [if_pos rfl] at he
  obtain ⟨b0, b1, b2, b3⟩ := Hbox.out w2 hb2
  by_cases hq0 : q < 0
  ·rw [if_pos (.inl hq0)] at he
   rw [he, HB0.out (by rw [he]; decide)] at HQ
   have HE := hid he
   clear he hb2
   go_wp2_with fail
   go_ret2
   exact Fin HQ ⟨rfl, ext_trans Hbel.out Hb2.out⟩
  by_cases hq1 : T.lits ≤ q
  ·rw [if_pos (.inr hq1)] at he
   rw [he, HB0.out (by rw [he]; decide)] at HQ
   have HE := hid he
   clear he hb2
   go_wp2_with fail
   go_ret2
   exact Fin HQ ⟨rfl, ext_trans Hbel.out Hb2.out⟩
  rw [if_neg (by omega)] at he
  by_cases ht1 : tag < 1
  ·rw [if_pos (.inl ht1)] at he
   rw [he, HB0.out (by rw [he]; decide)] at HQ
   have HE := hid he
   clear he hb2
   go_wp2_with fail
   go_ret2
   exact Fin HQ ⟨rfl, ext_trans Hbel.out Hb2.out⟩
  by_cases ht2 : 4 < tag
  ·rw [if_pos (.inr ht2)] at he
   rw [he, HB0.out (by rw [he]; decide)] at HQ
   have HE := hid he
   clear he hb2
   go_wp2_with fail
   go_ret2
   exact Fin HQ ⟨rfl, ext_trans Hbel.out Hb2.out⟩
  rw [if_neg (by omega)] at he
  rw [he, HB1.out he] at HQ
  have HE := hid he
  clear he
  obtain ⟨t, rfl⟩ : ∃ t : Nat, tag = (t : Int) := ⟨tag.toNat, by omega⟩
  obtain ⟨x, rfl⟩ : ∃ x : Nat, q = (x : Int) := ⟨q.toNat, by omega⟩
  have hq := hid (Hrun.out rfl w2 hb2)
  have hwf := (Hok.out.1 rfl).1
  have hfl := hwf.fl
  have hxn : x < T.foes.length := by omega
  clear hb2 hwf hfl
  go_wp2_with fail
  refine hq.out.mono ?_
  rintro e w3 ⟨_, rfl, G, S, D, W0, vT, rfl, hfe, hSn, hres, hbw, heng⟩
  have Hb3 := hid (ext_trans Hb2.out (ext_trans hbw heng.sp.old))
  have Hh := hid (ehas_any w3 W0 G S T D ⟨vT, heng⟩ x t (by rw [hSn]; exact hxn) (by omega) (by omega) (hres.ti.lt x))
  have hm : hasT D x t = hasM (solveM T l) (t - 1) (x : Int) := by rw [hres.hasM hxn]; rfl
  rw [hm] at Hh
  clear heng hres hfe hSn hbw hm hq
  go_wp2_with fail
  refine Hh.out.mono ?_
  rintro e w4 ⟨_, rfl, rfl, rfl⟩
  go_wp2_with fail
  go_ret2
  exact Fin HQ ⟨rfl, ext_trans Hbel.out Hb3.out⟩
 ·rw [if_neg h] at he
  have hne : (c != 0) = true := by simp [h]
  rw [he, HB0.out (by rw [he]; exact h)] at HQ
  have HE := hid he
  clear he hb2
  go_wp2_with fail
  go_ret2
  exact Fin HQ ⟨rfl, ext_trans Hbel.out Hb2.out⟩
end Go.Proofs.Lx

namespace Go.Proofs.Lx
open Go Go.RowKit
set_option linter.unusedSimpArgs false
set_option linter.unusedVariables false

theorem getD_at {l : List Int} {k : Nat} (h : k < l.length) : l.getD k 0 = l[k] := by simp [h]
set_option maxRecDepth 100000 in
set_option maxHeartbeats 1600000 in
theorem rise12_drew (w : World) (v : Value) (l : List Int) (n : Int) (hv : RdI w v l) :
  Calls Try.prog 133 #[v, .int .i64 n] w (Ret fun v w' => v = .bool (risB l n) ∧ ∃ m, w' = w.drewN m) := by
 obtain ⟨A, c, rfl, hc, hb, hr⟩ := hv
 refine post_gen fun Q HQ => ?_
 go_enter Try.func133, Try.ntmps133
 go_wp2
 go_loopw [5] (fun v5 wr => ∃ k : Nat, k ≤ l.length ∧ v5 = .int .i64 k ∧ Hid (∀ i, i < k → risOk l n i = true) ∧ ∃ nn, wr = w.drewN nn) (fun v5 _ => l.length - (intOf v5).toNat)
 case atStart => exact ⟨0, Nat.zero_le _, rfl, fun i hk => absurd hk (by omega), 0, rfl⟩
 case round =>
  obtain ⟨k, hk, rfl, hno, nn, rfl⟩ := hrel
  have hbl := ext_drewN w nn
  by_cases hlt : k < l.length
  ·obtain ⟨ad, rfl, hcell⟩ := hr.at1 hlt
   have Hg := hid (getD_at hlt)
   obtain ⟨x, Hx⟩ : ∃ x, Hid (l[k] = x) := ⟨_, hid rfl⟩
   rw [Hx.out] at hcell
   have Hok : Hid (∀ b, risOk l n k = b → b = false → risB l n = false) := hid fun b h1 h2 => risB_false hlt (by rw [h1, h2])
   have Hris : Hid (risOk l n k = (decide (0 ≤ x) && decide (x < n) && (decide (k = 0) || decide (l.getD (k - 1) 0 < x)))) := hid (by rw [risOk, Hg.out, Hx.out])
   by_cases h1 : x < 0
   ·have hF : Hid (risB l n = false) := hid (Hok.out _ Hris.out (by rw [decide_eq_false (by omega)]; rfl))
    have d1 : decide (x < 0) = true := decide_eq_true h1
    go_wp2
    go_quiet (fail)
    go_wp2
    go_ret
    exact Fin HQ ⟨by rw [hF.out]; rfl, _, World.drewN_drewN _ _ _⟩
   have d1 : decide (x < 0) = false := decide_eq_false h1
   by_cases h2 : n ≤ x
   ·have hF : Hid (risB l n = false) := hid (Hok.out _ Hris.out (by rw [decide_eq_false (show ¬ x < n by omega), Bool.and_false]; rfl))
    have d2 : decide (n ≤ x) = true := decide_eq_true h2
    clear h1
    go_wp2
    go_quiet (fail)
    go_wp2
    go_ret
    exact Fin HQ ⟨by rw [hF.out]; rfl, _, World.drewN_drewN _ _ _⟩
   have d2 : decide (n ≤ x) = false := decide_eq_false h2
   by_cases hk0 : k = 0
   ·subst hk0
    have hT : Hid (risOk l n 0 = true) := hid (by rw [Hris.out, decide_eq_true (show 0 ≤ x by omega), decide_eq_true (show x < n by omega)]; rfl)
    clear h1 h2
    rw [add_zero] at hcell
    rw [show ((0 : Nat) : Int) = 0 from rfl]
    go_wp2
    go_quiet (fail)
    go_wp2
    go_roundw
    case rel =>
     refine ⟨1, by omega, by go_num, hid fun i hi => ?_, _, rfl⟩
     obtain rfl : i = 0 := by omega
     exact hT.out
    case measure => simp [intOf]; omega
   ·obtain ⟨ad', e, hcj⟩ := hr.at1 (show k - 1 < l.length by omega)
    cases e
    have Hgj := hid (getD_at (show k - 1 < l.length by omega))
    obtain ⟨y, Hy⟩ : ∃ y, Hid (l[k - 1]'(by omega) = y) := ⟨_, hid rfl⟩
    rw [Hy.out] at hcj
    have hcj2 : w.cell? (ad.add ((k : Int) - 1).toNat) = some (.int .i64 y) := by rw [show ((k : Int) - 1).toNat = k - 1 by omega]; exact hcj
    have hwr : IntKind.i64.wrap ((k : Int) - 1) = (k : Int) - 1 := by simp [IntKind.wrap, IntKind.bits, IntKind.signed]; omega
    have hp0 : (0 : Int) < (k : Int) := by omega
    have hp1 : (0 : Int) ≤ (k : Int) - 1 := by omega
    have hp2 : (k : Int) - 1 < (l.length : Int) := by omega
    have hp3 : 0 < k := by omega
    have hp4 : 1 ≤ k := by omega
    have hp5 : (1 : Int) ≤ (k : Int) := by omega
    have hp6 : k < l.length + 1 := by omega
    have hp7 : (k : Int) < (l.length : Int) + 1 := by omega
    have hp8 : k ≤ l.length := by omega
    have hp9 : k - 1 < l.length := by omega
    have hd0 : decide (0 < k) = true := decide_eq_true (by omega)
    have Hris2 : Hid (risOk l n k = decide (y < x)) := hid (by
     rw [Hris.out, decide_eq_true (show 0 ≤ x by omega), decide_eq_true (show x < n by omega), decide_eq_false hk0, Hgj.out, Hy.out]; rfl)
    have Hk0 := hid hk0
    clear hk0
    by_cases h3 : x ≤ y
    ·have hF : Hid (risB l n = false) := hid (Hok.out _ Hris2.out (decide_eq_false (by omega)))
     have d3 : decide (x ≤ y) = true := decide_eq_true h3
     clear h1 h2
     go_wp2
     go_quiet (fail)
     go_wp2
     go_ret
     exact Fin HQ ⟨by rw [hF.out]; rfl, _, World.drewN_drewN _ _ _⟩
    ·have hT : Hid (risOk l n k = true) := hid (by rw [Hris2.out]; exact decide_eq_true (by omega))
     have d3 : decide (x ≤ y) = false := decide_eq_false h3
     clear h1 h2
     go_wp2
     go_quiet (fail)
     go_wp2
     go_roundw
     case rel =>
      refine ⟨k + 1, by omega, by go_num, hid fun i hi => ?_, _, rfl⟩
      by_cases e : i = k
      ·subst e; exact hT.out
      ·exact hno.out i (by omega)
     case measure => simp [intOf]; omega
  ·have hT : Hid (risB l n = true) := hid (risB_true.2 fun i hi => hno.out i (by omega))
   go_wp2
   go_ret
   exact Fin HQ ⟨by rw [hT.out]; rfl, _, rfl⟩

theorem rise12_any (w : World) (v : Value) (l : List Int) (n : Int) (hv : RdI w v l) :
  Calls Try.prog 133 #[v, .int .i64 n] w (Ret fun v w' => v = .bool (risB l n) ∧ Below w.heap.size w w') :=
 (rise12_drew w v l n hv).mono fun e w' h => h.mono fun v w' ⟨hv, m, hm⟩ => ⟨hv, by rw [hm]; exact ext_drewN w m⟩
theorem rise12_quiet (w : World) (v : Value) (l : List Int) (n : Int) (hv : RdI w v l) (q : Nat) :
  Calls Try.prog 133 #[v, .int .i64 n] (w.drewN q) (fun e w' => e = .returned (.bool (risB l n)) ∧ ∃ m, w' = w.drewN m) :=
 (rise12_drew _ v l n (hv.ext (scR_mono _) (ext_drewN w q))).mono fun e w' ⟨v, he, hv, m, hm⟩ => ⟨by rw [he, hv], q + m, by rw [hm, World.drewN_drewN]⟩

set_option maxHeartbeats 800000 in
theorem in12_same (w : World) (v : Value) (l : List Int) (x : Int) (hv : RdI w v l) :
  Calls Try.prog 135 #[v, .int .i64 x] w (fun e w' => e = .returned (.bool (memB l x)) ∧ w' = w) := by
 refine Calls.mono (R := Ret fun v w' => v = .bool (memB l x) ∧ w' = w) ?_ (fun e w' ⟨v, he, hv, hw⟩ => ⟨by rw [he, hv], hw⟩)
 obtain ⟨A, c, rfl, hc, hb, hr⟩ := hv
 refine post_gen fun Q HQ => ?_
 go_enter Try.func135, Try.ntmps135
 go_wp2
 go_loop [5] (fun v5 => ∃ k : Nat, k ≤ l.length ∧ v5 = .int .i64 k ∧ Hid (∀ i (h : i < l.length), i < k → l[i] ≠ x)) (fun v5 => l.length - (intOf v5).toNat)
 case atStart => exact ⟨0, Nat.zero_le _, rfl, fun i _ hk => absurd hk (by omega)⟩
 case round =>
  obtain ⟨k, hk, rfl, hno⟩ := hrel
  by_cases hlt : k < l.length
  ·obtain ⟨ad, rfl, hcell⟩ := hr.at1 hlt
   obtain ⟨y, Hy⟩ : ∃ y, Hid (l[k] = y) := ⟨_, hid rfl⟩
   have Hmem := hid (List.getElem_mem hlt)
   rw [Hy.out] at hcell Hmem
   by_cases he : y = x
   ·have hb1 : (y == x) = true := by simp [he]
    have hT : Hid (memB l x = true) := hid (memB_true.2 (by rw [← he]; exact Hmem.out))
    clear he
    go_wp2
    go_ret
    exact Fin HQ ⟨by rw [hT.out]; rfl, rfl⟩
   ·have hb1 : (y == x) = false := by simp [he]
    have He := hid he
    clear he
    go_wp2
    go_round
    case rel =>
     refine ⟨k + 1, by omega, by go_num, hid fun i h hi => ?_⟩
     by_cases e : i = k
     ·subst e; rw [Hy.out]; exact He.out
     ·exact hno.out i h (by omega)
    case measure => simp [intOf]; omega
  ·have hF : Hid (memB l x = false) := hid (memB_false.2 fun hm => by
    obtain ⟨i, hi, e⟩ := List.getElem_of_mem hm
    exact hno.out i hi (by omega) e)
   go_wp2
   go_ret
   exact Fin HQ ⟨by rw [hF.out]; rfl, rfl⟩
theorem in12_any (w : World) (v : Value) (l : List Int) (x : Int) (hv : RdI w v l) :
  Calls Try.prog 135 #[v, .int .i64 x] w (Ret fun v w' => v = .bool (memB l x) ∧ Below w.heap.size w w') :=
 (in12_same w v l x hv).mono fun e w' ⟨he, hw⟩ => ⟨_, he, rfl, by rw [hw]; exact ext_refl _⟩

set_option maxHeartbeats 800000 in
theorem facts12_any (w : World) (V vl : Value) (T : Th) (l : List Int) (hT : RdTh w V T) (hl : RdI w vl l) :
  Calls Try.prog 93 #[V, vl] w (Ret fun v w' => v = .int .i64 (if risB l T.lits = true then 0 else 181) ∧ Below w.heap.size w w') := by
 obtain ⟨vF, vR, vB, rfl, hF, hR, hB⟩ := hT
 have hl' := hl.ext (scR_mono _) (ext_alloc w (.cells #[.int .i64 T.lits, vF, vR, vB] 25))
 have hcall := hid (rise12_any _ vl l T.lits hl')
 have hbel := ext_alloc w (.cells #[.int .i64 T.lits, vF, vR, vB] 25)
 clear hl'
 refine post_gen fun Q HQ => ?_
 go_enter Try.func93, Try.ntmps93
 go_wp2_with fail
 refine hcall.out.mono ?_
 rintro e w2 ⟨_, rfl, rfl, hb2⟩
 cases h : risB l T.lits with
 | true =>
  rw [h] at HQ
  go_wp2_with fail
  go_ret
  exact Fin HQ ⟨rfl, ext_trans hbel hb2⟩
 | false =>
  rw [h] at HQ
  go_wp2_with fail
  go_ret
  exact Fin HQ ⟨rfl, ext_trans hbel hb2⟩

set_option maxRecDepth 100000 in
set_option maxHeartbeats 1600000 in
theorem foes12_any (w : World) (V : Value) (T : Th) (q : Nat) (hT : RdTh w V T) (hl : (T.foes.length : Int) = T.lits) (h4 : T.lits ≤ 4096) (hq : q < T.foes.length) :
  Calls Try.prog 132 #[V, .int .i64 q] w (Ret fun v w' => v = .bool (foesOk T q) ∧ Below w.heap.size w w') := by
 obtain ⟨vF, vR, vB, rfl, ⟨A, c, rfl, hc, hb, hr⟩, hR, hB⟩ := hT
 have hbel := ext_alloc w (.cells #[.int .i64 T.lits, .slice A T.foes.length c, vR, vB] 25)
 have hbx : ∀ W, Below (w.alloc (.cells #[.int .i64 T.lits, .slice A T.foes.length c, vR, vB] 25)).heap.size (w.alloc (.cells #[.int .i64 T.lits, .slice A T.foes.length c, vR, vB] 25)) W → W.cell? ⟨w.heap.size, 0, none⟩ = some (.int .i64 T.lits) ∧ W.cell? ⟨w.heap.size, 1, none⟩ = some (.slice A T.foes.length c) := fun W hW => by
  rw [World.size_alloc] at hW
  exact ⟨box_cell hW 0, box_cell hW 1⟩
 have Hbx := hid hbx
 have hr1 := hr.ext llR_mono hbel
 obtain ⟨ad, C, cC, rfl, p, h1, h2, hrow⟩ := hr1.atRow hq
 have Hrow : Hid (T.foes.getD q [] = T.foes[q]) := hid (by simp [hq])
 have Hfo : Hid (foesOk T q = (decide (T.foes[q].length ≤ 64) && risB T.foes[q] T.lits && !memB T.foes[q] q && T.foes[q].all fun f => memB (row T.foes f) q)) := hid (by rw [foesOk, Hrow.out])
 have Hris : Hid (risB T.foes[q] T.lits = true → ∀ i (h : i < T.foes[q].length), 0 ≤ T.foes[q][i] ∧ T.foes[q][i] < T.lits) := hid fun h => (risB_spec h).1
 generalize T.foes[q] = L at *
 have HrowE : Hid (RdI (w.alloc (.cells #[.int .i64 T.lits, .slice (some ad) T.foes.length c, vR, vB] 25)) (.slice C L.length cC) L) := hid ⟨C, cC, rfl, h1, h2, hrow⟩
 have Hb := hid hbel
 have Hr1 := hid hr1
 clear hbx hr hr1 hbel
 refine post_gen fun Q HQ => ?_
 go_enter Try.func132, Try.ntmps132
 by_cases h64 : L.length ≤ 64
 case neg =>
  have hF : Hid (foesOk T q = false) := hid (by rw [Hfo.out, decide_eq_false h64]; rfl)
  rw [hF.out] at HQ
  have hgt : (64 : Int) < (L.length : Int) := by omega
  go_wp2
  go_ret
  exact Fin HQ ⟨rfl, Hb.out⟩
 have H64 := hid h64
 have hgt : ¬ (64 : Int) < (L.length : Int) := by omega
 have Hc1 := hid (rise12_any _ _ L T.lits HrowE.out)
 clear h64
 go_wp2_with fail
 refine Hc1.out.mono ?_
 rintro e w2 ⟨_, rfl, rfl, hb2⟩
 cases hrs : risB L T.lits with
 | false =>
  have hF : Hid (foesOk T q = false) := hid (by rw [Hfo.out, hrs]; simp)
  rw [hF.out] at HQ
  clear hrs
  go_wp2
  go_ret
  exact Fin HQ ⟨rfl, ext_trans Hb.out hb2⟩
 | true =>
 have Hrs := hid hrs
 have Hin := hid (Hris.out hrs)
 have Hc2 := hid (in12_any w2 _ L (q : Int) (HrowE.out.ext (scR_mono _) hb2))
 clear hrs Hc1
 go_wp2_with fail
 refine Hc2.out.mono ?_
 rintro e w3 ⟨_, rfl, rfl, hb3⟩
 cases hmm : memB L (q : Int) with
 | true =>
  have hF : Hid (foesOk T q = false) := hid (by rw [Hfo.out, hmm]; simp)
  rw [hF.out] at HQ
  clear hmm
  go_wp2
  go_ret
  exact Fin HQ ⟨rfl, ext_trans Hb.out (ext_trans hb2 hb3)⟩
 | false =>
 have Hm := hid hmm
 have hb23 := ext_trans hb2 hb3
 have Hw3 := hid (ext_trans Hb.out hb23)
 have Hrow3 := hid ((HrowE.out.ext (scR_mono _) hb23))
 have hbx3 := hid (Hbx.out w3 hb23)
 have Hr3 := hid (Hr1.out.ext llR_mono hb23)
 clear hmm Hc2 hb2 hb3 hb23 p hrow HrowE Hr1 Hbx
 go_wp2
 go_loopw [6] (fun v6 wr => ∃ k : Nat, k ≤ L.length ∧ v6 = .int .i64 k ∧ Hid (∀ i (h : i < L.length), i < k → memB (row T.foes L[i]) q = true) ∧ Below w3.heap.size w3 wr) (fun v6 _ => L.length - (intOf v6).toNat)
 case atStart => exact ⟨0, Nat.zero_le _, rfl, fun i _ hk => absurd hk (by omega), Below.refl _ _⟩
 case round =>
  obtain ⟨k, hk, rfl, hno, hbl⟩ := hrel
  by_cases hlt : k < L.length
  ·obtain ⟨CC, cCC, e, hcc1, hcc2, hrl⟩ := Hrow3.out.ext (scR_mono _) hbl
   cases e
   obtain ⟨adL, rfl, hcell⟩ := hrl.at1 hlt
   have hrg := Hin.out k hlt
   obtain ⟨x, hx, hxe⟩ : ∃ x : Nat, x < T.foes.length ∧ L[k] = (x : Int) := ⟨L[k].toNat, by omega, by omega⟩
   rw [hxe] at hcell
   obtain ⟨ad', D, cD, e, pD, d1, d2, hrD⟩ := (Hr3.out.ext llR_mono hbl).atRow hx
   cases e
   have c1 := cell_ext hbl hbx3.out.2
   have Hrowx : Hid (row T.foes L[k] = T.foes[x]) := hid (by rw [hxe]; simp [row, hx])
   generalize T.foes[x] = M at *
   have Hcall : Hid (∀ n, Calls Try.prog 135 #[.slice D M.length cD, .int .i64 (q : Int)] (wr.drewN n) (fun e w' => e = .returned (.bool (memB M (q : Int))) ∧ w' = wr.drewN n)) := hid fun n => in12_same _ _ M (q : Int) (Rd.ext (scR_mono _) (⟨D, cD, rfl, d1, d2, hrD⟩ : RdI wr (.slice D M.length cD) M) (ext_drewN wr n))
   have hxi : (x : Int) < (T.foes.length : Int) := by omega
   clear hrD hrl
   cases hmm : memB M (q : Int) with
   | false =>
    rw [hmm] at Hcall
    have hF : Hid (foesOk T q = false) := hid (by
     rw [Hfo.out, Bool.and_eq_false_iff]
     right
     rw [List.all_eq_false]
     exact ⟨L[k], List.getElem_mem hlt, by rw [Hrowx.out, hmm]; simp⟩)
    rw [hF.out] at HQ
    clear hmm hrg
    go_wp2_with fail
    go_quiet ((go_at_call 135; exact Calls.quiet_of_same (Hcall.out _)))
    go_wp2
    go_ret
    exact Fin HQ ⟨rfl, ext_trans Hw3.out (below_drewN hbl _)⟩
   | true =>
    rw [hmm] at Hcall
    have Hmm := hid hmm
    clear hmm hrg
    go_wp2_with fail
    go_quiet ((go_at_call 135; exact Calls.quiet_of_same (Hcall.out _)))
    go_wp2
    go_roundw
    case rel =>
     refine ⟨k + 1, by omega, by go_num, hid fun i h hi => ?_, below_drewN hbl _⟩
     by_cases e : i = k
     ·subst e; rw [Hrowx.out]; exact Hmm.out
     ·exact hno.out i h (by omega)
    case measure => simp [intOf]; omega
  ·have hT : Hid (foesOk T q = true) := hid (by
    rw [Hfo.out, decide_eq_true H64.out, Hrs.out, Hm.out, List.all_eq_true.2 fun f hf => ?_]
    ·rfl
    ·obtain ⟨i, hi, rfl⟩ := List.getElem_of_mem hf
     exact hno.out i hi (by omega))
   rw [hT.out] at HQ
   go_wp2
   go_ret
   exact Fin HQ ⟨rfl, ext_trans Hw3.out hbl⟩
end Go.Proofs.Lx

namespace Go.Proofs.Lx
open Go Go.RowKit
set_option linter.unusedSimpArgs false
set_option linter.unusedVariables false

theorem pSum_mono {rs : List Rule} {fo : List (List Int)} {k : Nat} : ∀ d, pSum rs fo k ≤ pSum rs fo (k + d)
 | 0 => Nat.le_refl _
 | d + 1 => by
  rw [show k + (d + 1) = k + d + 1 by omega, pSum_succ]
  exact Nat.le_trans (pSum_mono d) (Nat.le_add_right _ _)

set_option maxHeartbeats 1600000 in
theorem count12_any (w : World) (V : Value) (T : Th) (hT : RdTh w V T) (hl : (T.foes.length : Int) = T.lits) (h4 : T.lits ≤ 4096)
  (hru : T.rules.length ≤ 4096) (hrr : ∀ r ∈ T.rules, ruleOk T.lits r = true) :
  Calls Try.prog 162 #[V] w (Ret fun v w' => ∃ g, v = .slice (some ⟨g, 0, none⟩) T.foes.length T.foes.length ∧ Arr (Value.int .i64) 3 w' g (hList T.rules T.foes.length) ∧ Below w.heap.size w w') := by
 obtain ⟨lits, foes, rules, beats⟩ := T
 obtain ⟨vF, vR, vB, rfl, ⟨A, c, rfl, hc, hb, hr⟩, ⟨AR, cR, rfl, hcR, hbR, hrR⟩, _⟩ := hT
 dsimp only at *
 obtain rfl : lits = (foes.length : Int) := hl.symm
 clear hl
 have hbel := ext_alloc w (.cells #[.int .i64 foes.length, .slice A foes.length c, .slice AR rules.length cR, vB] 25)
 have hrR1 := hrR.ext ruleR_mono hbel
 have hmk := mkI foes.length (by omega) (by omega)
 rw [Int.toNat_natCast] at hmk
 have Hrr := hid hrr
 clear hr hrR hrr
 refine post_gen fun Q HQ => ?_
 go_enter Try.func162, Try.ntmps162
 go_wp2
 clear hmk
 go_loopw [4] (fun v4 wr => ∃ k : Nat, k ≤ rules.length ∧ v4 = .int .i64 k ∧ Arr (Value.int .i64) 3 wr (w.heap.size + 1) (cntUpto rules foes.length k) ∧ Below (w.heap.size + 1) (w.alloc (.cells #[.int .i64 foes.length, .slice A foes.length c, .slice AR rules.length cR, vB] 25)) wr) (fun v4 _ => rules.length - (intOf v4).toNat)
 case atStart =>
  refine ⟨0, Nat.zero_le _, rfl, ?_, ?_⟩
  ·rw [cntUpto_zero]
   have := made_arr (Value.int .i64) (0 : Int) 3 (w.alloc (.cells #[.int .i64 foes.length, .slice A foes.length c, .slice AR rules.length cR, vB] 25)) foes.length
   simpa using this
  ·exact (Below.refl _ _).alloc (by simp) _
 case round =>
  obtain ⟨k, hk, rfl, harr, hbl⟩ := hrel
  have hbl' : Below (w.alloc (.cells #[.int .i64 foes.length, .slice A foes.length c, .slice AR rules.length cR, vB] 25)).heap.size (w.alloc (.cells #[.int .i64 foes.length, .slice A foes.length c, .slice AR rules.length cR, vB] 25)) wr := by rw [World.size_alloc]; exact hbl
  have b2 : wr.cell? ⟨w.heap.size, 2, none⟩ = some (.slice AR rules.length cR) := box_cell hbl 2
  by_cases hlt : k < rules.length
  ·obtain ⟨ad, B, cB, rfl, hc0, hc1, hc2, hcB, hbB, hrB⟩ := (hrR1.ext ruleR_mono hbl').atRule hlt
   have Hrk := hid (Hrr.out _ (List.getElem_mem hlt))
   obtain ⟨hh0, hh1⟩ := ruleOk_head Hrk.out
   have hg := harr.lt
   have Hs := hid (cntUpto_succ rules foes.length k hlt hh0 hh1)
   have hhc := harr.cell (i := rules[k].head.toNat) (by rw [cntUpto_length]; omega)
   rw [cntUpto_at _ _ _ _ (by omega), show ((rules[k].head.toNat : Nat) : Int) = rules[k].head from by omega] at hhc
   have hhf := harr.free rules[k].head.toNat
   have hle := hcnt_le rules k rules[k].head
   generalize hcnt (rules.take k) rules[k].head = y at *
   generalize hh : rules[k].head = hd at *
   have Hh := hid hh
   clear hh
   go_wp2
   go_roundw
   case rel =>
    refine ⟨k + 1, by omega, by go_num, ?_, ?_⟩
    ·rw [Hs.out]
     exact harr.set hd.toNat ((y : Int) + 1)
    ·exact hbl.setCell (Nat.le_refl _) _
   case measure => simp [intOf]; omega
  ·have hk2 : k = rules.length := by omega
   subst hk2
   rw [cntUpto_all] at harr
   have Harr := hid harr
   clear harr
   go_wp2
   go_ret
   exact Fin HQ ⟨w.heap.size + 1, rfl, Harr.out, hbel.trans (hbl.mono (by omega))⟩

set_option maxRecDepth 100000 in
set_option maxHeartbeats 1600000 in
theorem pairs12_any (w : World) (V : Value) (T : Th) (hT : RdTh w V T) (hl : (T.foes.length : Int) = T.lits) (h4 : T.lits ≤ 4096) (hfo : foesAll T = true)
  (hru : T.rules.length ≤ 4096) (hrr : ∀ r ∈ T.rules, ruleOk T.lits r = true) :
  Calls Try.prog 134 #[V] w (Ret fun v w' => (∃ s : Int, v = .int .i64 s ∧ (65536 < s ↔ 65536 < pairCount T)) ∧ Below w.heap.size w w') := by
 have HT := hid hT
 obtain ⟨vF, vR, vB, rfl, ⟨A, c, rfl, hc, hb, hr⟩, hR, hB⟩ := hT
 have hbel := ext_alloc w (.cells #[.int .i64 T.lits, .slice A T.foes.length c, vR, vB] 25)
 have Hcnt := hid (count12_any _ _ T (HT.out.ext hbel) hl h4 hru hrr)
 have hr1 := hr.ext llR_mono hbel
 have Hfo := hid hfo
 have Hl := hid hl
 have Hbel := hid hbel
 clear hr hR hB hfo hrr hbel
 refine post_gen fun Q HQ => ?_
 go_enter Try.func134, Try.ntmps134
 go_wp2_with fail
 refine Hcnt.out.mono ?_
 rintro e w2 ⟨_, rfl, g, rfl, harr, hb2⟩
 have b0 : w2.cell? ⟨w.heap.size, 0, none⟩ = some (.int .i64 T.lits) := (box4 hb2).1
 have b1 : w2.cell? ⟨w.heap.size, 1, none⟩ = some (.slice A T.foes.length c) := (box4 hb2).2.1
 have hr2 := hr1.ext llR_mono hb2
 have Hb2 := hid (ext_trans Hbel.out hb2)
 clear Hcnt hr1 hb2
 rw [← Hl.out] at b0
 generalize hn : T.foes.length = n at *
 have Hn := hid hn
 clear hn hl
 go_wp2
 go_loopw [5, 4] (fun v5 v4 wr => ∃ q : Nat, q ≤ n ∧ v5 = .int .i64 q ∧ v4 = .int .i64 (pSum T.rules T.foes q : Nat) ∧ pSum T.rules T.foes q ≤ 65536 ∧ Below w2.heap.size w2 wr) (fun v5 _ _ => n - (intOf v5).toNat)
 case atStart => exact ⟨0, Nat.zero_le _, rfl, rfl, by simp [pSum], Below.refl _ _⟩
 case round =>
  obtain ⟨k, hk, rfl, rfl, hps, hbl⟩ := hrel
  have c0 := cell_ext hbl b0
  have c1 := cell_ext hbl b1
  obtain ⟨wo, rfl⟩ : ∃ wo : World, wo = wr := ⟨_, rfl⟩
  by_cases hlt : k < n
  ·have hlt2 : k < T.foes.length := by rw [Hn.out]; exact hlt
   obtain ⟨ad, B, cB, rfl, hcell, hcB, hbB, hrB⟩ := (hr2.ext llR_mono hbl).atRow hlt2
   obtain ⟨h64, hris, _, _⟩ := foesOk_spec Hfo.out k hlt2
   have Hris := hid (risB_spec hris).1
   have Hgl : Hid (T.foes.getD k [] = T.foes[k]) := by simp [Hid, hlt2]
   clear hris
   generalize hS : pSum T.rules T.foes k = S at *
   have HS := hid hS
   clear hS
   generalize T.foes[k] = L at *
   go_wp2
   go_loopw [6, 4] (fun v6 v4 w3 => ∃ j : Nat, j ≤ L.length ∧ v6 = .int .i64 j ∧ v4 = .int .i64 ((S + pRow T.rules L k j : Nat) : Int) ∧ Below wo.heap.size wo w3) (fun v6 _ _ => L.length - (intOf v6).toNat)
   case atStart => exact ⟨0, Nat.zero_le _, rfl, by simp [pRow], ext_refl _⟩
   case round =>
    obtain ⟨j, hj, rfl, rfl, hbl3⟩ := hrel
    have c1 := cell_ext hbl3 c1
    have hcell := cell_ext hbl3 hcell
    have hpr := pRow_le (l := L) (q := k) hru j hj
    have harr3 := Arr.ext harr (ext_trans hbl hbl3)
    by_cases hjl : j < L.length
    ·obtain ⟨adb, rfl, hcj⟩ := (hrB.ext (scR_mono _) hbl3).at1 hjl
     have hrange := Hris.out j hjl
     have hX2 : L[j].toNat < n := by have := Hl.out; omega
     have ha := harr3.cell (i := k) (by rw [hList_length]; omega)
     have hx := harr3.cell (i := L[j].toNat) (by rw [hList_length]; omega)
     rw [hList_at _ _ hlt] at ha
     rw [hList_at _ _ hX2] at hx
     have hp1 := prod_le (Nat.le_trans (hcnt_len T.rules k) hru) (Nat.le_trans (hcnt_len T.rules (L[j].toNat : Nat)) hru)
     have hee : ((L[j].toNat : Nat) : Int) = L[j] := by omega
     have Hps : Hid (pRow T.rules L k (j + 1) = pRow T.rules L k j + hcnt T.rules k * hcnt T.rules (L[j].toNat : Nat)) := by rw [hee]; exact pRow_succ hjl
     generalize pRow T.rules L k j = R at *
     generalize L[j] = X at *
     generalize hcnt T.rules k = a at *
     generalize hcnt T.rules (X.toNat : Nat) = b at *
     have hXn : X < (n : Int) := by omega
     have hX0 : 0 ≤ X := hrange.1
     have hp2 : (a : Int) * b = ((a * b : Nat) : Int) := by simp
     have hp3 : 0 ≤ (a : Int) * b ∧ (a : Int) * b ≤ 16777216 := by omega
     obtain ⟨hp4, hp5⟩ := hp3
     have Hp2 := hid hp2
     clear hp2 hee harr3
     go_wp2
     go_quiet (fail)
     go_wp2
     go_roundw
     case rel =>
      refine ⟨j + 1, by omega, by go_num, ?_, below_drewN hbl3 _⟩
      rw [Hps.out]
      exact int_eq (by have := Hp2.out; omega)
     case measure => simp [intOf]; omega
    ·obtain rfl : j = L.length := by omega
     have Hnext : Hid (pSum T.rules T.foes (k + 1) = S + pRow T.rules L k L.length) := hid (by rw [pSum_succ, Hgl.out, HS.out])
     clear harr3
     by_cases hbig : 65536 < S + pRow T.rules L k L.length
     ·have hgt : (65536 : Int) < ((S + pRow T.rules L k L.length : Nat) : Int) := by omega
      have Hbig : Hid (65536 < pairCount T) := hid (by
       have := pSum_mono (rs := T.rules) (fo := T.foes) (k := k + 1) (n - (k + 1))
       rw [show k + 1 + (n - (k + 1)) = n by omega, Hnext.out] at this
       unfold pairCount; rw [Hn.out]; omega)
      go_wp2
      go_ret
      exact Fin HQ ⟨⟨65537, rfl, fun _ => Hbig.out, fun _ => by decide⟩, ext_trans Hb2.out (ext_trans hbl hbl3)⟩
     ·have hgt : ¬ (65536 : Int) < ((S + pRow T.rules L k L.length : Nat) : Int) := by omega
      go_wp2
      go_roundw
      case rel => exact ⟨k + 1, by omega, by go_num, by rw [Hnext.out], by rw [Hnext.out]; omega, ext_trans hbl hbl3⟩
      case measure => simp [intOf]; omega
  ·obtain rfl : k = n := by omega
   have Hp : Hid (pairCount T = pSum T.rules T.foes k) := hid (by unfold pairCount; rw [Hn.out])
   generalize pSum T.rules T.foes k = S at *
   go_wp2
   go_ret
   exact Fin HQ ⟨⟨_, rfl, by rw [Hp.out]; omega⟩, ext_trans Hb2.out hbl⟩
end Go.Proofs.Lx

namespace Go.Proofs.Lx
open Go Go.RowKit Go.Proofs.Tj
set_option linter.unusedSimpArgs false
set_option linter.unusedVariables false

/-- Over one edge or more. -/
def Comes (adj : Nat → List Nat) (x y : Nat) : Prop := ∃ z, z ∈ adj x ∧ Leads adj z y
theorem leads_comes {adj : Nat → List Nat} {x y : Nat} (h : Leads adj x y) : x = y ∨ Comes adj x y := by
 induction h with
 | refl => exact .inl rfl
 | @step y z h1 hz ih =>
  right
  rcases ih with rfl | ⟨u, hu, h2⟩
  ·exact ⟨z, hz, .refl z⟩
  ·exact ⟨u, hu, .step h2 hz⟩
/-- The walk's state: seen, todo (Nat), the one that is being looked at. -/
structure BK (adj : Nat → List Nat) (n r : Nat) (seen : Nat → Bool) (todo : List Nat) : Prop where
 lt : ∀ x ∈ todo, x < n
 td : ∀ x ∈ todo, x = r ∨ seen x = true
 fr : ∀ x, x < n → seen x = true → Comes adj r x
 cl : ∀ x, x < n → (x = r ∨ seen x = true) → x ∉ todo → ∀ y ∈ adj x, y ≠ r ∧ seen y = true
theorem BK.none {adj : Nat → List Nat} {n r : Nat} {seen : Nat → Bool} (h : BK adj n r seen []) (hr : r < n) (hadj : ∀ x, x < n → ∀ y ∈ adj x, y < n) : ¬ Comes adj r r := by
 have key : ∀ x y, Leads adj x y → x < n → seen x = true → y < n ∧ seen y = true := by
  intro x y hl hx hs
  induction hl with
  | refl => exact ⟨hx, hs⟩
  | step h1 hz ih => exact ⟨hadj _ ih.1 _ hz, (h.cl _ ih.1 (.inr ih.2) (by simp) _ hz).2⟩
 rintro ⟨z, hz, hl⟩
 have hzn := hadj r hr z hz
 have hzs := (h.cl r hr (.inl rfl) (by simp) z hz).2
 -- the last step comes from a seen one
 have last : ∀ x y, Leads adj x y → x ≠ y → ∃ u, Leads adj x u ∧ y ∈ adj u := by
  intro x y hl hne
  cases hl with
  | refl => exact absurd rfl hne
  | step h1 h2 => exact ⟨_, h1, h2⟩
 by_cases e : z = r
 ·exact (h.cl r hr (.inl rfl) (by simp) z hz).1 e
 ·obtain ⟨u, hu, hru⟩ := last z r hl e
  obtain ⟨hun, hus⟩ := key z u hu hzn hzs
  exact (h.cl u hun (.inr hus) (by simp) r hru).1 rfl
def unseen (n : Nat) (seen : Nat → Bool) : Nat := (List.range n).countP fun x => !seen x
theorem unseen_lt {n : Nat} {seen : Nat → Bool} {y : Nat} (hy : y < n) (hs : seen y = false) : unseen n (fun x => if x = y then true else seen x) < unseen n seen := by
 refine countP_lt (x := y) (fun x _ hx => ?_) (List.mem_range.2 hy) (by simp [hs]) (by simp)
 by_cases e : x = y
 ·subst e; simp at hx
 ·simpa [e] using hx
end Go.Proofs.Lx
