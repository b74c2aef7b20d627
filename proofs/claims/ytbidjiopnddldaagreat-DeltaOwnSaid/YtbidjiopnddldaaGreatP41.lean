/- Parts of the proof: Sl, Pc, Qa, Kb, Kd, Sx. Contract of the reference's World.Round (layer 15). -/
import Derived.Test.YtbidjiopnddldaaGreatP40
import Derived.Test.YtbidjiopnddldaaGreatP14
import Derived.Test.YtbidjiopnddldaaGreatP11
import Derived.Test.YtbidjiopnddldaaGreatP13
namespace Go.Proofs.Lx
open Go Go.RowKit
set_option linter.unusedSimpArgs false
set_option linter.unusedVariables false

/-- The list while place q is under way: those below are done, q stands at x. -/
def outRL (C : Nat → Int → Bool) (M : List Nat) (q : Nat) : List Nat := (List.range M.length).map fun i => if i < q then orM (fun k => C k (i : Int)) (M.getD i 0) 4 else 0
theorem outRL_length (C : Nat → Int → Bool) (M : List Nat) (q : Nat) : (outRL C M q).length = M.length := by simp [outRL]
theorem outRL_zero (C : Nat → Int → Bool) (M : List Nat) : outRL C M 0 = List.replicate M.length 0 := by
 apply List.ext_getElem <;> simp [outRL]
theorem outRL_succ (C : Nat → Int → Bool) (M : List Nat) (q : Nat) : outRL C M (q + 1) = (outRL C M q).set q (orM (fun k => C k (q : Int)) (M.getD q 0) 4) := by
 apply List.ext_getElem
 ·simp [outRL]
 ·intro i h1 h2
  rw [List.getElem_set]
  simp only [outRL, List.getElem_map, List.getElem_range]
  by_cases e : q = i
  ·subst e; rw [if_pos (by omega), if_pos rfl]
  ·rw [if_neg e]
   by_cases e2 : i < q
   ·rw [if_pos e2, if_pos (by omega)]
   ·rw [if_neg e2, if_neg (by omega)]
theorem outRL_all (C : Nat → Int → Bool) (M : List Nat) : outRL C M M.length = rnd C M 4 0 := by
 apply List.ext_getElem
 ·simp [outRL, rnd]
 ·intro i h1 h2
  rw [outRL_length] at h1
  simp [outRL, rnd, h1]
theorem orM_skip {C : Nat → Bool} {x j : Nat} (h : (orM C x j).testBit j = true ∨ C j = false) : orM C x (j + 1) = orM C x j := by
 rw [orM]
 split
 ·rename_i hc
  rcases h with h | h
  ·apply Nat.eq_of_testBit_eq
   intro i
   rw [Nat.testBit_or, Nat.testBit_two_pow]
   by_cases e : j = i
   ·subst e; simp [h]
   ·simp [e]
  ·rw [hc] at h; cases h
 ·rfl
theorem orM_hit {C : Nat → Bool} {x j : Nat} (h : C j = true) : orM C x (j + 1) = orM C x j ||| 2 ^ j := by rw [orM, if_pos h]
theorem arr_own {w : World} {base g : Nat} {X : List Nat} (h : Arr (fun x : Nat => Value.int .u8 (x : Int)) 58 w g X) (hb : base ≤ g) (hl : X.length ≤ maxLen) : w.ownsRow base 58 1 (.slice (some ⟨g, 0, none⟩) X.length X.length) X.length (marksV X) :=
 ⟨by simp [marksV], .inr ⟨g, X.length, _, rfl, hb, h, Nat.le_refl _, hl, by simp, by simp only [marksV, Nat.mul_one]; exact List.take_of_length_le (by simp)⟩⟩

set_option maxRecDepth 100000 in
set_option maxHeartbeats 6400000 in
theorem wround15_any (w : World) (b : Nat) (T : Th) (l : List Int) (RL : List (List Int)) (M : List Nat) (vm : Value) (h : NR w b T l RL) (hm : RdMk w vm M) (hv : NVal T (factsB T.foes.length l) RL M) (h4 : M.length ≤ 4096) :
  Calls Tryz.prog 66 #[.pointer (some ⟨b, 0, none⟩), vm] w (Ret fun v w' => w'.ownsRow w.heap.size 58 1 v M.length (marksV (roundM T (factsB T.foes.length l) RL M)) ∧ Below w.heap.size w w') := by
 have H := hid h
 have Hm := hid hm
 have Hv := hid hv
 obtain ⟨AM, cM, rfl, hcM, hbM, hrM⟩ := id hm
 have hmk := mkM M.length (by omega) (by omega)
 rw [Int.toNat_natCast] at hmk
 have Hst : Hid (Arr (fun x : Nat => Value.int .u8 (x : Int)) 58 (w.alloc (.cells (madeCells #[.int .u8 0] M.length) 58)) w.heap.size (outRL (cnd T (factsB T.foes.length l) RL M) M 0)) := hid (by
  rw [outRL_zero]; exact made_arr (fun x : Nat => Value.int .u8 (x : Int)) 0 58 w M.length)
 have Hst2 := hid (ext_alloc w (.cells (madeCells #[.int .u8 0] M.length) 58))
 have Hres : Hid (roundM T (factsB T.foes.length l) RL M = outRL (cnd T (factsB T.foes.length l) RL M) M M.length) := hid (outRL_all _ _).symm
 rw [Hres.out]
 clear h hm hv Hres
 generalize hC : cnd T (factsB T.foes.length l) RL M = C at *
 have HC := hid hC
 clear hC
 generalize hn : M.length = n at *
 have Hn := hid hn
 clear hn
 refine post_gen fun Q HQ => ?_
 go_enter Tryz.func66, Tryz.ntmps66
 go_wp2
 go_loopw [6] (fun v6 wr => ∃ q : Nat, q ≤ n ∧ v6 = .int .i64 q ∧ Arr (fun x : Nat => Value.int .u8 (x : Int)) 58 wr w.heap.size (outRL C M q) ∧ Below w.heap.size w wr) (fun v6 _ => n - (intOf v6).toNat)
 case atStart => exact ⟨0, Nat.zero_le _, rfl, Hst.out, Hst2.out⟩
 case round =>
  clear Hst Hst2
  obtain ⟨q, hq, rfl, harr, hbl⟩ := hrel
  by_cases hlt : q < n
  ·have hqm : q < M.length := by rw [Hn.out]; exact hlt
   obtain ⟨adM, rfl, pm⟩ := (hrM.ext (scR_mono _) hbl).at1 hqm
   have Hx8 : Hid (M[q] < 256) := hid (Hv.out.m8 _ (List.getElem_mem hqm))
   have Hgd : Hid (M.getD q 0 = M[q]) := hid (by simp [hqm])
   have hfr := harr.free q
   have hc0 := harr.cell (i := q) (by rw [outRL_length]; exact hqm)
   obtain ⟨x, Hx⟩ : ∃ x, Hid (M[q] = x) := ⟨_, hid rfl⟩
   rw [Hx.out] at pm Hx8 Hgd
   have harr1 := harr.set q x
   have hbl1 : Below w.heap.size w (wr.setCell ⟨w.heap.size, q, none⟩ (.int .u8 (x : Int))) := hbl.setCell (Nat.le_refl _) _
   have Ha0 : Hid (Arr (fun x : Nat => Value.int .u8 (x : Int)) 58 (wr.setCell ⟨w.heap.size, q, none⟩ (.int .u8 (x : Int))) w.heap.size ((outRL C M q).set q (orM (fun k => C k (q : Int)) x 0)) ∧ Below w.heap.size w (wr.setCell ⟨w.heap.size, q, none⟩ (.int .u8 (x : Int)))) := hid ⟨harr1, hbl1⟩
   have Hol : Hid (q < (outRL C M q).length) := hid (by rw [outRL_length]; exact hqm)
   clear harr1 hbl1
   go_wp2
   obtain ⟨wo, rfl⟩ : ∃ wo : World, wo = wr := ⟨_, rfl⟩
   clear harr hbl pm hfr hc0
   go_loopw [7] (fun v7 wr => ∃ j : Nat, j ≤ 4 ∧ v7 = .int .i64 ((j + 1 : Nat) : Int) ∧ Arr (fun x : Nat => Value.int .u8 (x : Int)) 58 wr w.heap.size ((outRL C M q).set q (orM (fun k => C k (q : Int)) x j)) ∧ Below w.heap.size w wr) (fun v7 _ => 5 - (intOf v7).toNat)
   case atStart => exact ⟨0, by omega, rfl, Ha0.out.1, Ha0.out.2⟩
   case round =>
    clear Ha0
    obtain ⟨j, hj, rfl, harr, hbl⟩ := hrel
    by_cases hj4 : j < 4
    ·have hcell := harr.cell (i := q) (by rw [List.length_set]; exact Hol.out)
     rw [List.getElem_set_self] at hcell
     have Hset : Hid (∀ y, ((outRL C M q).set q (orM (fun k => C k (q : Int)) x j)).set q y = (outRL C M q).set q y) := hid fun y => by rw [List.set_set]
     have hfr := harr.free q
     have hy8 : orM (fun k => C k (q : Int)) x j < 256 := orM_lt Hx8.out j (by omega)
     have Hskip := hid (@orM_skip (fun k => C k (q : Int)) x j)
     have Hhit := hid (@orM_hit (fun k => C k (q : Int)) x j)
     have Harr := hid harr
     generalize orM (fun k => C k (q : Int)) x j = y at *
     have Hmm := hid (bit_mask y hy8 j hj4)
     have hmz : (bits .and .u8 (y : Int) ((2 ^ j : Nat) : Int) == 0) = !y.testBit j := by
      have := Hmm.out; rw [← this, bne]; simp
     have hor := bit_or y hy8 j hj4
     have Hbit := hid (fun w => bit15_plain ((j + 1 : Nat) : Int) j hj4 (by omega) w)
     have Hcall : Hid (∀ m, Calls Tryz.prog 83 #[.pointer (some ⟨b, 0, none⟩), .slice (some adM) n cM, .int .i64 ((j + 1 : Nat) : Int), .int .i64 (q : Int)] (wr.drewN m) (fun e w' => e = .returned (.bool (C j (q : Int))) ∧ ∃ k, w' = (wr.drewN m).drewN k)) := hid fun m => by
      have hb9 := ext_trans hbl (ext_drewN wr m)
      have := wholds15_any (wr.drewN m) b T l RL M _ (H.out.ext hb9) (Hm.out.ext (scR_mono _) hb9) Hv.out (q : Int) (by omega) (by have := Hv.out.nM; omega) ((j + 1 : Nat) : Int) j hj4 (by omega)
      rw [HC.out] at this
      exact this
     clear harr
     generalize hp : 2 ^ j = z at *
     have Hp := hid hp
     clear hp
     cases hs : y.testBit j with
     | true =>
      have hb1 : (bits .and .u8 (y : Int) (z : Int) == 0) = false := by rw [hmz, hs]; rfl
      have Hs := hid (Hskip.out (.inl hs))
      clear hs hmz hor
      go_wp2
      go_quiet ((go_at_call 82; exact Calls.quiet_of_same (Hbit.out _)))
      go_wp2
      go_roundw
      case rel => exact ⟨j + 1, by omega, by go_num, by rw [Hs.out]; exact Arr.drewN Harr.out _, below_drewN hbl _⟩
      case measure => simp [intOf]; omega
     | false =>
      have hb1 : (bits .and .u8 (y : Int) (z : Int) == 0) = true := by rw [hmz, hs]; rfl
      clear hs hmz
      cases hc : C j (q : Int) with
      | false =>
       have Hs := hid (Hskip.out (.inr hc))
       rw [hc] at Hcall
       clear hc hor
       go_wp2
       go_quiet ((first | (go_at_call 82; exact Calls.quiet_of_same (Hbit.out _)) | (go_at_call 83; exact Calls.quiet_of (Hcall.out _))))
       go_wp2
       go_roundw
       case rel => exact ⟨j + 1, by omega, by go_num, by rw [Hs.out]; exact Arr.drewN Harr.out _, below_drewN hbl _⟩
       case measure => simp [intOf]; omega
      | true =>
       have Hs := hid (Hhit.out hc)
       rw [hc] at Hcall
       clear hc
       rw [show ((y ||| z : Nat) : Int) = ((y ||| z : Nat) : Int) from rfl] at hor
       go_wp2
       go_quiet ((first | (go_at_call 82; exact Calls.quiet_of_same (Hbit.out _)) | (go_at_call 83; exact Calls.quiet_of (Hcall.out _))))
       go_wp2
       go_region_with (go_at_call 82; refine (Hbit.out _).mono ?_; rintro e w' ⟨rfl, rfl⟩)
       all_goals
        go_wp2_with fail
        go_roundw
        case rel =>
         refine ⟨j + 1, by omega, by go_num, ?_, ?_⟩
         ·rw [Hs.out, ← Hset.out]
          exact (Arr.drewN Harr.out _).set q _
         ·exact (below_drewN hbl _).setCell (Nat.le_refl _) _
        case measure => simp [intOf]; omega
    ·obtain rfl : j = 4 := by omega
     have Hsucc := hid (outRL_succ C M q)
     rw [Hgd.out] at Hsucc
     go_wp2
     go_roundw
     case rel => exact ⟨q + 1, by omega, by go_num, by rw [Hsucc.out]; exact harr, hbl⟩
     case measure => simp [intOf]; omega
  ·obtain rfl : q = n := by omega
   have Hl : Hid ((outRL C M q).length = q) := hid (by rw [outRL_length]; exact Hn.out)
   go_wp2
   go_ret
   refine Fin HQ ⟨?_, hbl⟩
   have := arr_own harr (Nat.le_refl _) (by rw [Hl.out]; unfold maxLen; omega)
   rw [Hl.out] at this
   exact this
end Go.Proofs.Lx

namespace Go.Proofs.Lx
open Go Go.RowKit Go.Proofs.Tj
set_option linter.unusedSimpArgs false
set_option linter.unusedVariables false

end Go.Proofs.Lx

namespace Go.Proofs.Lx
open Go Go.RowKit
set_option linter.unusedSimpArgs false
set_option linter.unusedVariables false

end Go.Proofs.Lx

namespace Go.Proofs.Lx
open Go Go.RowKit
set_option linter.unusedSimpArgs false
set_option linter.unusedVariables false

end Go.Proofs.Lx

namespace Go.Proofs.Lx
open Go Go.RowKit
set_option linter.unusedSimpArgs false
set_option linter.unusedVariables false

end Go.Proofs.Lx

namespace Go.Proofs.Lx
open Go Go.RowKit
set_option linter.unusedSimpArgs false
set_option linter.unusedVariables false

/-- What a run answers. -/
def RunPost (w : World) (T : Th) (l : List Int) (r : Value) (w' : World) : Prop :=
 ∃ (k : Nat) (v : Value), r = .tuple #[v, .int .i64 k] ∧ w'.ownsRow w.heap.size 58 1 v T.foes.length (marksV (itM (stepM T l) k (startM T))) ∧ stepM T l (itM (stepM T l) k (startM T)) = itM (stepM T l) k (startM T) ∧ (∀ j, j < k → itM (stepM T l) (j + 1) (startM T) ≠ itM (stepM T l) j (startM T)) ∧ Below w.heap.size w w'

set_option maxRecDepth 100000 in
set_option maxHeartbeats 6400000 in
theorem run15_any (w : World) (V vl : Value) (T : Th) (l : List Int) (hT : RdTh w V T) (hwf : WfTh T) (hl : RdI w vl l) :
  Calls Tryz.prog 37 #[V, vl] w (Ret (RunPost w T l)) := by
 have Hwf := hid hwf
 have HT := hid hT
 obtain ⟨vF, vR, vB, rfl, hF, hR, hB⟩ := hT
 have hl0 := hwf.l0; have hl1 := hwf.l1; have hfl := hwf.fl
 have hbel := ext_alloc w (.cells #[.int .i64 T.lits, vF, vR, vB] 25)
 have hln : T.lits.toNat = T.foes.length := by omega
 have hmM := mkM T.lits hl0 (by omega)
 rw [hln] at hmM
 have Hnew := hid (newWorld15_any _ _ vl T l (HT.out.ext hbel) hwf (hl.ext (scR_mono _) hbel))
 have hft : T.foes.length ≤ 4096 := by omega
 clear hF hR hB
 unfold RunPost
 refine post_gen fun Q HQ => ?_
 go_enter Tryz.func37, Tryz.ntmps37
 go_wp2_with fail
 refine Hnew.out.mono ?_
 rintro e w2 ⟨_, rfl, b, rfl, hnr, hb2'⟩
 obtain ⟨b0, b1, b2, b3⟩ := box4 hb2'
 have hb2 := ext_trans hbel hb2'
 have hb3 := ext_trans hb2 (ext_alloc w2 (.cells (madeCells #[.int .u8 0] T.foes.length) 58))
 have Hnr := hid (hnr.ext (ext_alloc w2 (.cells (madeCells #[.int .u8 0] T.foes.length) 58)))
 have hs2 := hb2.size
 have Hown0 : Hid ((w2.alloc (.cells (madeCells #[.int .u8 0] T.foes.length) 58)).ownsRow w.heap.size 58 1 (.slice (some ⟨w2.heap.size, 0, none⟩) T.foes.length T.foes.length) T.foes.length (marksV (startM T))) := by
  have h1 := made_arr (fun x : Nat => Value.int .u8 (x : Int)) 0 58 w2 T.foes.length
  have h2 := arr_own (base := w.heap.size) h1 hs2 (by simp [maxLen]; omega)
  rw [List.length_replicate] at h2
  exact h2
 clear hb2' Hnew hnr
 go_wp2_with fail
 go_loopw [7, 8] (fun v7 v8 wr => ∃ k : Nat, v8 = .int .i64 k ∧ wr.ownsRow w.heap.size 58 1 v7 T.foes.length (marksV (itM (stepM T l) k (startM T))) ∧ NR wr b T l (rulesRows T.rules T.foes.length T.rules.length) ∧ Hid (∀ j, j < k → itM (stepM T l) (j + 1) (startM T) ≠ itM (stepM T l) j (startM T)) ∧ k ≤ (itM (stepM T l) k (startM T)).sum ∧ Hid (∀ x ∈ itM (stepM T l) k (startM T), x < 256) ∧ (itM (stepM T l) k (startM T)).length = T.foes.length ∧ Below w.heap.size w wr) (fun _ v8 _ => 255 * T.foes.length + 1 - (intOf v8).toNat)
 case atStart => exact ⟨0, rfl, Hown0.out, Hnr.out, fun j h => absurd h (by omega), Nat.zero_le _, by intro x hx; simp [itM, startM] at hx; omega, by simp [itM, startM], hb3⟩
 case round =>
  clear Hown0 Hnr hb3 b0 b1 b2 b3
  obtain ⟨k, rfl, hown, hnr, hno, hks, h8, hlen, hbl⟩ := hrel
  have hkb : k ≤ 255 * T.foes.length := by have := sum_bound _ h8.out; rw [hlen] at this; omega
  generalize hM : itM (stepM T l) k (startM T) = M at *
  have HM := hid hM
  clear hM
  rw [← hlen] at hown
  have hrm := own_marks hown (by omega)
  have Hrd := hid (wround15_any wr b T l _ M u7 hnr hrm (nval Hwf.out l M hlen h8.out) (by omega))
  have Hgr := hid (roundM_grows T (factsB T.foes.length l) (rulesRows T.rules T.foes.length T.rules.length) M)
  have H8 := hid (roundM_lt T (factsB T.foes.length l) (rulesRows T.rules T.foes.length T.rules.length) M h8.out)
  obtain ⟨f, Hf⟩ : ∃ f, Hid (roundM T (factsB T.foes.length l) (rulesRows T.rules T.foes.length T.rules.length) M = f) := ⟨_, rfl⟩
  rw [Hf.out] at Hrd Hgr H8
  have hfl2 : f.length = M.length := by rw [← Hf.out]; exact roundM_length _ _ _ _
  have Hown := hid hown
  have Hnr := hid hnr
  clear hnr hrm hown
  go_wp2_with fail
  refine Hrd.out.mono ?_
  rintro e w5 ⟨v, rfl, hv, hb5⟩
  have hown5 := own_ext Hown.out hb5
  rw [← hfl2] at hv
  have heq := hid (sameM_any w5 u7 v M f (own_marks hown5 (by omega)) (own_marks hv (by omega)))
  have Hv := hid hv
  clear hv Hrd
  go_wp2_with fail
  refine heq.out.mono ?_
  rintro e w6 ⟨_, rfl, rfl, hb6⟩
  have hb56 := ext_trans hb5 hb6
  by_cases he : M = f
  ·have hd : decide (M = f) = true := decide_eq_true he
   rw [hd]
   have ho6 := own_ext hown5 hb6
   have Ho6 := hid ho6
   clear ho6 hown5
   go_wp2_with fail
   go_ret2
   refine Fin HQ ⟨k, u7, rfl, ?_, ?_, hno.out, ext_trans hbl hb56⟩
   ·have h1 := Ho6.out
    rw [hlen] at h1
    rw [HM.out]; exact h1
   ·rw [HM.out]
    show roundM _ _ _ M = M
    rw [Hf.out]; exact he.symm
  ·have hd : decide (M = f) = false := decide_eq_false he
   rw [hd]
   have Hgr2 : Hid (M.sum < f.sum) := by
    have h1 := Hgr.out
    have : M.sum ≠ f.sum := fun e => he (h1.2 e)
    exact hid (by omega)
   have Hv6 := hid (own_lower (own_ext Hv.out hb6) hbl.size)
   clear hown5
   go_wp2_with fail
   go_roundw
   case rel =>
    have hit : itM (stepM T l) (k + 1) (startM T) = f := by
     show stepM T l (itM (stepM T l) k (startM T)) = f
     rw [HM.out]; exact Hf.out
    have h0 := Hgr2.out
    refine ⟨k + 1, by go_num, ?_, Hnr.out.ext hb56, fun j hj => ?_, ?_, ?_, ?_, ext_trans hbl hb56⟩
    ·rw [hit, ← hlen, ← hfl2]; exact Hv6.out
    ·by_cases e : j = k
     ·subst e; rw [hit, HM.out]; exact fun h => he h.symm
     ·exact hno.out j (by omega)
    ·rw [hit]; omega
    ·rw [hit]; exact H8.out
    ·rw [hit, hfl2]; exact hlen
   case measure => simp [intOf]; omega

/-- k rounds bring something, the next none. -/
def FixAt (T : Th) (l : List Int) (k : Nat) : Prop := stepM T l (itM (stepM T l) k (startM T)) = itM (stepM T l) k (startM T) ∧ ∀ j, j < k → itM (stepM T l) (j + 1) (startM T) ≠ itM (stepM T l) j (startM T)
theorem FixAt.one {T : Th} {l : List Int} {k j : Nat} (h : FixAt T l k) (h' : FixAt T l j) : k = j := by
 rcases Nat.lt_trichotomy k j with hlt | rfl | hlt
 ·exact absurd h.1 (h'.2 k hlt)
 ·rfl
 ·exact absurd h'.1 (h.2 j hlt)
end Go.Proofs.Lx
