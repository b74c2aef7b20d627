/- Parts of the proof: Sh, Nr. The reference's conditions (layer 15): plusd, minusd. -/
import Derived.Test.YtalhpldbhogadaaA35
import Derived.Test.YtalhpldbhogadaaA25
import Derived.Test.YtalhpldbhogadaaA3
import Derived.Deep.DeepCutAuto
import Derived.Deep.RegionHeld3
namespace Go.Proofs.Lx
open Go Go.RowKit
set_option linter.unusedSimpArgs false
set_option linter.unusedVariables false

theorem bit_masks (x : Nat) (hx : x < 256) (k : Nat) (hk : k < 4) : (bits .and .u8 (x : Int) ((2 ^ k : Nat) : Int) == 0) = !x.testBit k := by
 have := bit_mask x hx k hk
 rw [← this, bne]; simp

set_option maxRecDepth 100000 in
set_option maxHeartbeats 6400000 in
theorem plusd15_any (w : World) (b : Nat) (T : Th) (F : List Bool) (l : List Int) (RL : List (List Int)) (M : List Nat) (vm : Value) (h : NR w b T l RL) (hm : RdMk w vm M) (hv : NVal T F RL M) (q : Int) (h0 : 0 ≤ q) (hq : q < T.foes.length) :
  Calls Try.prog 96 #[.pointer (some ⟨b, 0, none⟩), vm, .int .i64 q] w (Dr w (plusPB T RL M q)) := by
 refine dr_of ?_
 have H := hid h
 have Hm := hid hm
 have Hv := hid hv
 have hqr : q.toNat < RL.length := by have := hv.nR; omega
 have hqr2 : q < (RL.length : Int) := by have := hv.nR; omega
 have hqf : q.toNat < T.foes.length := by omega
 have Hrow : Hid (row RL q = RL[q.toNat]) := hid (row_at h0 hqr2)
 have Hrl : Hid (∀ r ∈ RL[q.toNat], 0 ≤ r ∧ r < (T.rules.length : Int)) := hid (hv.rl _ hqr)
 have Hbody : Hid (∀ r (h : r < T.rules.length), ∀ x ∈ T.rules[r].body, 0 ≤ x ∧ x < (M.length : Int)) := hid (fun r h x hx => by rw [hv.nM]; exact hv.body r h x hx)
 have H8 := hid hv.m8
 refine post_gen fun Q HQ => ?_
 have Hfo : Hid (∀ x ∈ T.foes[q.toNat], 0 ≤ x ∧ x < (M.length : Int)) := hid (fun x hx => by have := hv.fo _ hqf x hx; rw [hv.nM]; exact this)
 have Hfr : Hid (∀ x ∈ T.foes[q.toNat], 0 ≤ x ∧ x < (RL.length : Int)) := hid (fun x hx => by have := hv.fo _ hqf x hx; rw [hv.nR]; exact this)
 have Hrlf : Hid (∀ f (h : f < RL.length), ∀ r ∈ RL[f], 0 ≤ r ∧ r < (T.rules.length : Int)) := hid hv.rl
 have hrowF : row T.foes q = T.foes[q.toNat] := row_at h0 hq
 have hqm : q.toNat < M.length := by have := hv.nM; omega
 have hqm2 : q < (M.length : Int) := by have := hv.nM; omega
 have Hbit := hid (fun w => bit15_plain 1 0 (by decide) (by decide) w)
 have Hmm := hid (bit_mask M[q.toNat] (hv.m8 _ (List.getElem_mem hqm)) 0 (by decide))
 have Hmn := hid (bit_masks M[q.toNat] (hv.m8 _ (List.getElem_mem hqm)) 0 (by decide))
 have Hme : Hid (hasM M 0 q = M[q.toNat].testBit 0) := by simp [Hid, hasM, hqm]
 obtain ⟨AM, cM, rfl, hcM, hbM, hrM⟩ := id hm
 obtain ⟨adM, rfl, pm⟩ := hrM.at1 hqm
 have Hs : Hid (plusPB T RL M q = (hasM M 0 q || (RL[q.toNat].any (ppR T M) && (allM M 1 T.foes[q.toNat] && !T.foes[q.toNat].any fun f => (row RL f).any (ppS T RL M q))))) := hid (by unfold plusPB; rw [hrowF, Hrow.out]; rfl)
 rw [Hs.out] at HQ
 clear hrM hrowF
 clear h hm hv
 go_enter Try.func96, Try.ntmps96
 generalize M[q.toNat] = y at *
 generalize hp : 2 ^ 0 = z at *
 clear hp
 cases hs : y.testBit 0 with
 | true =>
  have hb1 : (bits .and .u8 (y : Int) (z : Int) != 0) = true := by have := Hmm.out; rw [hs] at this; exact this
  rw [Hme.out, hs] at HQ
  clear hs
  go_wp2
  go_quiet ((go_at_call 74; exact Calls.quiet_of_same (Hbit.out _)))
  go_wp2
  go_ret
  exact Fin HQ ⟨rfl, _, rfl⟩
 | false =>
 have hb1 : (bits .and .u8 (y : Int) (z : Int) != 0) = false := by have := Hmm.out; rw [hs] at this; exact this
 rw [Hme.out, hs] at HQ
 clear hs
 simp only [Bool.false_or] at HQ
 go_wp2
 go_quiet ((go_at_call 74; exact Calls.quiet_of_same (Hbit.out _)))
 go_wp2
 clear hb1 Hbit Hmm Hmn Hme pm
 generalize hvm : Value.slice (some adM) M.length cM = vm at *
 clear hvm
 generalize hL : RL[q.toNat] = L at *
 have HL := hid hL
 clear hL
 generalize hFO : T.foes[q.toNat] = FO at *
 have HFO := hid hFO
 clear hFO
 go_loopw [8, 7] (fun v8 v7 wr => ∃ i : Nat, i ≤ L.length ∧ v8 = .int .i64 i ∧ v7 = .bool ((L.take i).any (ppR T M)) ∧ Drew w wr) (fun v8 _ _ => L.length - (intOf v8).toNat)
 case atStart => exact ⟨0, Nat.zero_le _, rfl, rfl, ⟨_, rfl⟩⟩
 case round =>
  obtain ⟨i, hi, rfl, rfl, hdr⟩ := hrel
  have Hdr := hid hdr
  obtain ⟨AF, cF, AR, cR, AB, cB, Al, cl, ARu, cRu, c1, c2, c3, c4, c5, hF, hR, hB, hl, hRu⟩ := (H.out.ext hdr.below).cells
  obtain ⟨adQ, LB, LC, rfl, pq, l1, l2, hrow⟩ := hRu.atRow hqr
  rw [HL.out] at pq l1 l2 hrow
  clear hdr
  by_cases hlt : i < L.length
  ·have Hi := hid (any_take_succ (p := ppR T M) hlt)
   obtain ⟨adL, rfl, pl⟩ := hrow.at1 hlt
   obtain ⟨hr0, hr1⟩ := Hrl.out _ (List.getElem_mem hlt)
   obtain ⟨r, Hr⟩ : ∃ r, Hid (L[i] = r) := ⟨_, hid rfl⟩
   rw [Hr.out] at pl hr0 hr1
   have hrl : r.toNat < T.rules.length := by omega
   have HbR := hid (Hbody.out _ hrl)
   have Hbo := hid (bodyAt_at hrl)
   obtain ⟨adR, C, cC, rfl, p0, p1, p2, d1, d2, hbody⟩ := hR.atRule hrl
   generalize T.rules[r.toNat].body = bo at *
   have Hst := hid (support15_same _ b T l RL (H.out.ext Hdr.out.below) r hr0 hr1)
   have Hsq : Hid (∀ n, Calls Try.prog 141 #[.pointer (some ⟨b, 0, none⟩), .int .i64 r] (wr.drewN n) (fun e w' => e = .returned (.bool (supB T r)) ∧ w' = wr.drewN n)) := hid fun n => support15_same _ b T l RL ((H.out.ext Hdr.out.below).ext (ext_drewN wr n)) r hr0 hr1
   have Hall : Hid (∀ n, Calls Try.prog 139 #[vm, .slice C bo.length cC, .int .i64 3] (wr.drewN n) (fun e w' => e = .returned (.bool (allM M 2 bo)) ∧ ∃ m, w' = (wr.drewN n).drewN m)) := hid fun n => all15_any _ vm (.slice C bo.length cC) M bo ((Hm.out.ext (scR_mono _) Hdr.out.below).ext (scR_mono _) (ext_drewN wr n)) ⟨C, cC, rfl, d1, d2, hbody.ext (scR_mono _) (ext_drewN wr n)⟩ H8.out HbR.out 3 2 (by decide) (by decide)
   have Hp : Hid (ppR T M r = (supB T r && allM M 2 bo)) := hid (by rw [← Hbo.out]; rfl)
   clear hF hR hB hl hRu hrow hbody
   cases hd : (L.take i).any (ppR T M) with
   | true =>
    have Hd := hid hd
    clear hd
    go_wp2
    go_quiet (fail)
    go_wp2
    go_roundw
    case rel => exact ⟨i + 1, by omega, by go_num, by rw [Hi.out, Hd.out]; rfl, Hdr.out.step _⟩
    case measure => simp [intOf]; omega
   | false =>
   have Hd := hid hd
   clear hd
   cases hs : supB T r with
   | false =>
    have Hp2 : Hid (ppR T M r = false) := hid (by rw [Hp.out, hs]; rfl)
    rw [hs] at Hsq
    clear hs
    go_wp2
    go_quiet ((go_at_call 141; exact Calls.quiet_of_same (Hsq.out _)))
    go_wp2
    go_roundw
    case rel => exact ⟨i + 1, by omega, by go_num, by rw [Hi.out, Hd.out, Hr.out, Hp2.out]; rfl, Hdr.out.step _⟩
    case measure => simp [intOf]; omega
   | true =>
    rw [hs] at Hsq
    have Hp2 : Hid (ppR T M r = allM M 2 bo) := hid (by rw [Hp.out, hs]; rfl)
    clear hs
    generalize hal : allM M 2 bo = al at *
    clear hal
    go_wp2
    go_quiet ((first | (go_at_call 141; exact Calls.quiet_of_same (Hsq.out _)) | (go_at_call 139; exact Calls.quiet_of (Hall.out _))))
    go_wp2
    go_roundw
    case rel => exact ⟨i + 1, by omega, by go_num, by rw [Hi.out, Hd.out, Hr.out, Hp2.out]; cases al <;> rfl, Hdr.out.step _⟩
    case measure => simp [intOf]; omega
  ·have Hany : Hid ((L.take i).any (ppR T M) = L.any (ppR T M)) := hid (any_take_all (show L.length ≤ i by omega))
   rw [Hany.out]
   obtain ⟨adF, FB, FC, rfl, pf, f1, f2, hfrow⟩ := hF.atRow hqf
   rw [HFO.out] at pf f1 f2 hfrow
   have Hall := hid (all15_any wr vm (.slice FB FO.length FC) M FO (Hm.out.ext (scR_mono _) Hdr.out.below) ⟨FB, FC, rfl, f1, f2, hfrow⟩ H8.out Hfo.out 2 1 (by decide) (by decide))
   clear hF hR hB hl hRu hrow hfrow Hany
   cases hd : L.any (ppR T M) with
   | false =>
    rw [hd] at HQ
    clear hd
    go_wp2_with fail
    go_ret
    exact Fin HQ ⟨rfl, Hdr.out⟩
   | true =>
   rw [hd] at HQ
   clear hd
   simp only [Bool.true_and] at HQ
   cases ha : allM M 1 FO with
   | false =>
    rw [ha] at HQ Hall
    clear ha
    go_wp2_with (go_at_call 139; refine Hall.out.mono ?_; rintro e w' ⟨rfl, m9, rfl⟩)
    go_ret
    exact Fin HQ ⟨rfl, Hdr.out.step _⟩
   | true =>
   rw [ha] at HQ Hall
   clear ha
   simp only [Bool.true_and] at HQ
   go_wp2_with (go_at_call 139; refine Hall.out.mono ?_; rintro e w' ⟨rfl, m9, rfl⟩)
   clear Hall pf pq c1 c2 c3 c4 c5
   go_loopw [9] (fun vo wr => ∃ i : Nat, i ≤ FO.length ∧ vo = .int .i64 i ∧ Hid ((FO.take i).any (fun f => (row RL f).any (ppS T RL M q)) = false) ∧ Drew w wr) (fun vo _ => FO.length - (intOf vo).toNat)
   case atStart => exact ⟨0, Nat.zero_le _, rfl, hid (by simp), Hdr.out.step _⟩
   case round =>
    clear Hdr
    obtain ⟨i, hi, rfl, hno, hdr⟩ := hrel
    have Hdr := hid hdr
    obtain ⟨AF, cF, AR, cR, AB, cB, Al, cl, ARu, cRu, c1, c2, c3, c4, c5, hF, hR, hB, hl, hRu⟩ := (H.out.ext hdr.below).cells
    obtain ⟨adQ, LB, LC, rfl, pq, l1, l2, hrow⟩ := hRu.atRow hqr
    obtain ⟨adF, FB, FC, rfl, pf, f1, f2, hfrow⟩ := hF.atRow hqf
    rw [HFO.out] at pf f1 f2 hfrow
    clear hdr
    by_cases hlt : i < FO.length
    ·have Hi := hid (any_take_succ (p := (fun f => (row RL f).any (ppS T RL M q))) hlt)
     have Hhit := hid (any_hit (p := (fun f => (row RL f).any (ppS T RL M q))) hlt)
     obtain ⟨adX, rfl, px⟩ := hfrow.at1 hlt
     obtain ⟨hx0, hx1⟩ := Hfr.out _ (List.getElem_mem hlt)
     obtain ⟨x, Hx⟩ : ∃ x, Hid (FO[i] = x) := ⟨_, hid rfl⟩
     rw [Hx.out] at px hx0 hx1
     have hxl : x.toNat < RL.length := by omega
     have HrowX : Hid (row RL x = RL[x.toNat]) := hid (row_at hx0 hx1)
     have HrlX := hid (Hrlf.out _ hxl)
     obtain ⟨adQ', XB, XC, e', px2, x1, x2, hxrow⟩ := hRu.atRow hxl
     cases e'
     generalize hLX : RL[x.toNat] = LX at *
     have HLX := hid hLX
     clear hLX
     clear hF hR hB hl hRu hrow hfrow
     go_wp2
     go_quiet (fail)
     go_wp2
     obtain ⟨wo, rfl⟩ : ∃ wo : World, wo = wr := ⟨_, rfl⟩
     have hdr1 := Hdr.out.step
     clear c1 c2 c3 c4 c5 px px2 pf pq
     go_loopw [11] (fun vi wr => ∃ j : Nat, j ≤ LX.length ∧ vi = .int .i64 j ∧ Hid ((LX.take j).any (ppS T RL M q) = false) ∧ Drew wo wr) (fun vi _ => LX.length - (intOf vi).toNat)
     case atStart => exact ⟨0, Nat.zero_le _, rfl, hid (by simp), ⟨_, rfl⟩⟩
     case round =>
      obtain ⟨j, hj, rfl, hno2, hdr⟩ := hrel
      have Hdro := hid hdr
      replace hxrow := hxrow.ext (scR_mono _) hdr.below
      replace hdr := Hdr.out.trans hdr
      have Hdr2 := hid hdr
      obtain ⟨AF, cF, AR, cR, AB, cB, Al, cl, ARu, cRu, c1, c2, c3, c4, c5, hF, hR, hB, hl, hRu⟩ := (H.out.ext hdr.below).cells
      obtain ⟨adQ, LB, LC, rfl, pq, l1, l2, hrow⟩ := hRu.atRow hqr
      clear hdr
      by_cases hlt2 : j < LX.length
      ·have Hj := hid (any_take_succ (p := ppS T RL M q) hlt2)
       have Hhit2 := hid (any_hit (p := ppS T RL M q) hlt2)
       obtain ⟨adL, rfl, pl⟩ := hxrow.at1 hlt2
       obtain ⟨hs0, hs1⟩ := HrlX.out _ (List.getElem_mem hlt2)
       obtain ⟨s, Hs9⟩ : ∃ s, Hid (LX[j] = s) := ⟨_, hid rfl⟩
       rw [Hs9.out] at pl hs0 hs1
       have hsl : s.toNat < T.rules.length := by omega
       have HbR := hid (Hbody.out _ hsl)
       have Hbo := hid (bodyAt_at hsl)
       obtain ⟨adR, C, cC, rfl, p0, p1, p2, d1, d2, hbody⟩ := hR.atRule hsl
       generalize T.rules[s.toNat].body = bo at *
       have Hany : Hid (∀ n, Calls Try.prog 140 #[vm, .slice C bo.length cC, .int .i64 4] (wr.drewN n) (fun e w' => e = .returned (.bool (anyM M 3 bo)) ∧ ∃ m, w' = (wr.drewN n).drewN m)) := hid fun n => any15_any _ vm (.slice C bo.length cC) M bo ((Hm.out.ext (scR_mono _) Hdr2.out.below).ext (scR_mono _) (ext_drewN wr n)) ⟨C, cC, rfl, d1, d2, hbody.ext (scR_mono _) (ext_drewN wr n)⟩ H8.out HbR.out 4 3 (by decide) (by decide)
       have Hbe : Hid (∀ n, Calls Try.prog 142 #[.pointer (some ⟨b, 0, none⟩), vm, .int .i64 q, .int .i64 s] (wr.drewN n) (fun e w' => e = .returned (.bool ((row RL q).any (ppB T M s))) ∧ ∃ m, w' = (wr.drewN n).drewN m)) := hid fun n => beaten15_any _ b T F l RL M vm ((H.out.ext Hdr2.out.below).ext (ext_drewN wr n)) ((Hm.out.ext (scR_mono _) Hdr2.out.below).ext (scR_mono _) (ext_drewN wr n)) Hv.out q h0 hq s
       have Hp : Hid (ppS T RL M q s = (!anyM M 3 bo && !(row RL q).any (ppB T M s))) := hid (by rw [← Hbo.out]; rfl)
       clear hF hR hB hl hRu hrow hxrow hbody
       cases ha : anyM M 3 bo with
       | true =>
        have Hp2 : Hid (ppS T RL M q s = false) := hid (by rw [Hp.out, ha]; rfl)
        rw [ha] at Hany
        clear ha
        go_wp2
        go_quiet ((go_at_call 140; exact Calls.quiet_of (Hany.out _)))
        go_wp2
        go_roundw
        case rel => exact ⟨j + 1, by omega, by go_num, hid (by rw [Hj.out, hno2.out, Hs9.out, Hp2.out]; rfl), Hdro.out.step _⟩
        case measure => simp [intOf]; omega
       | false =>
       rw [ha] at Hany
       cases hbb : (row RL q).any (ppB T M s) with
       | true =>
        have Hp2 : Hid (ppS T RL M q s = false) := hid (by rw [Hp.out, ha, hbb]; rfl)
        rw [hbb] at Hbe
        clear ha hbb
        go_wp2
        go_quiet ((first | (go_at_call 140; exact Calls.quiet_of (Hany.out _)) | (go_at_call 142; exact Calls.quiet_of (Hbe.out _))))
        go_wp2
        go_roundw
        case rel => exact ⟨j + 1, by omega, by go_num, hid (by rw [Hj.out, hno2.out, Hs9.out, Hp2.out]; rfl), Hdro.out.step _⟩
        case measure => simp [intOf]; omega
       | false =>
        have Hp2 : Hid (ppS T RL M q s = true) := hid (by rw [Hp.out, ha, hbb]; rfl)
        have Hfin : Hid (FO.any (fun f => (row RL f).any (ppS T RL M q)) = true) := hid (Hhit.out (by rw [Hx.out, HrowX.out]; exact Hhit2.out (by rw [Hs9.out, Hp2.out])))
        rw [Hfin.out] at HQ
        rw [hbb] at Hbe
        clear ha hbb
        go_wp2
        go_quiet ((first | (go_at_call 140; exact Calls.quiet_of (Hany.out _)) | (go_at_call 142; exact Calls.quiet_of (Hbe.out _))))
        go_wp2
        go_ret
        exact Fin HQ ⟨rfl, Hdr2.out.step _⟩
      ·have Hany : Hid (LX.any (ppS T RL M q) = false) := hid (by rw [← any_take_all (show LX.length ≤ j by omega), hno2.out])
       clear hF hR hB hl hRu hrow hxrow
       go_wp2
       go_roundw
       case rel => exact ⟨i + 1, by omega, by go_num, hid (by rw [Hi.out, hno.out, Hx.out, HrowX.out, Hany.out]; rfl), Hdr2.out⟩
       case measure => simp [intOf]; omega
    ·have Hany : Hid (FO.any (fun f => (row RL f).any (ppS T RL M q)) = false) := hid (by rw [← any_take_all (show FO.length ≤ i by omega), hno.out])
     rw [Hany.out] at HQ
     clear hF hR hB hl hRu hrow hfrow
     go_wp2
     go_ret
     exact Fin HQ ⟨rfl, Hdr.out⟩

set_option maxRecDepth 100000 in
set_option maxHeartbeats 6400000 in
theorem minusd15_any (w : World) (b : Nat) (T : Th) (F : List Bool) (l : List Int) (RL : List (List Int)) (M : List Nat) (vm : Value) (h : NR w b T l RL) (hm : RdMk w vm M) (hv : NVal T F RL M) (q : Int) (h0 : 0 ≤ q) (hq : q < T.foes.length) :
  Calls Try.prog 97 #[.pointer (some ⟨b, 0, none⟩), vm, .int .i64 q] w (Dr w (minusPB T RL M q)) := by
 refine dr_of ?_
 have H := hid h
 have Hm := hid hm
 have Hv := hid hv
 have hqr : q.toNat < RL.length := by have := hv.nR; omega
 have hqr2 : q < (RL.length : Int) := by have := hv.nR; omega
 have hqf : q.toNat < T.foes.length := by omega
 have Hrow : Hid (row RL q = RL[q.toNat]) := hid (row_at h0 hqr2)
 have Hrl : Hid (∀ r ∈ RL[q.toNat], 0 ≤ r ∧ r < (T.rules.length : Int)) := hid (hv.rl _ hqr)
 have Hbody : Hid (∀ r (h : r < T.rules.length), ∀ x ∈ T.rules[r].body, 0 ≤ x ∧ x < (M.length : Int)) := hid (fun r h x hx => by rw [hv.nM]; exact hv.body r h x hx)
 have H8 := hid hv.m8
 refine post_gen fun Q HQ => ?_
 have Hfo : Hid (∀ x ∈ T.foes[q.toNat], 0 ≤ x ∧ x < (M.length : Int)) := hid (fun x hx => by have := hv.fo _ hqf x hx; rw [hv.nM]; exact this)
 have Hfr : Hid (∀ x ∈ T.foes[q.toNat], 0 ≤ x ∧ x < (RL.length : Int)) := hid (fun x hx => by have := hv.fo _ hqf x hx; rw [hv.nR]; exact this)
 have Hrlf : Hid (∀ f (h : f < RL.length), ∀ r ∈ RL[f], 0 ≤ r ∧ r < (T.rules.length : Int)) := hid hv.rl
 have hrowF : row T.foes q = T.foes[q.toNat] := row_at h0 hq
 have hqm : q.toNat < M.length := by have := hv.nM; omega
 have hqm2 : q < (M.length : Int) := by have := hv.nM; omega
 have Hbit := hid (fun w => bit15_plain 2 1 (by decide) (by decide) w)
 have Hmm := hid (bit_mask M[q.toNat] (hv.m8 _ (List.getElem_mem hqm)) 1 (by decide))
 have Hmn := hid (bit_masks M[q.toNat] (hv.m8 _ (List.getElem_mem hqm)) 1 (by decide))
 have Hme : Hid (hasM M 1 q = M[q.toNat].testBit 1) := by simp [Hid, hasM, hqm]
 obtain ⟨AM, cM, rfl, hcM, hbM, hrM⟩ := id hm
 obtain ⟨adM, rfl, pm⟩ := hrM.at1 hqm
 have Hs : Hid (minusPB T RL M q = (hasM M 1 q && (!RL[q.toNat].any (mpR T M) || (anyM M 0 T.foes[q.toNat] || T.foes[q.toNat].any fun f => (row RL f).any (mpS T RL M q))))) := hid (by unfold minusPB; rw [hrowF, Hrow.out]; rfl)
 rw [Hs.out] at HQ
 clear hrM hrowF
 clear h hm hv
 go_enter Try.func97, Try.ntmps97
 generalize M[q.toNat] = y at *
 generalize hp : 2 ^ 1 = z at *
 clear hp
 cases hs : y.testBit 1 with
 | false =>
  have hb1 : (bits .and .u8 (y : Int) (z : Int) == 0) = true := by have := Hmn.out; rw [hs] at this; exact this
  rw [Hme.out, hs] at HQ
  clear hs
  go_wp2
  go_quiet ((go_at_call 74; exact Calls.quiet_of_same (Hbit.out _)))
  go_wp2
  go_ret
  exact Fin HQ ⟨rfl, _, rfl⟩
 | true =>
 have hb1 : (bits .and .u8 (y : Int) (z : Int) == 0) = false := by have := Hmn.out; rw [hs] at this; exact this
 rw [Hme.out, hs] at HQ
 clear hs
 simp only [Bool.true_and] at HQ
 go_wp2
 go_quiet ((go_at_call 74; exact Calls.quiet_of_same (Hbit.out _)))
 go_wp2
 clear hb1 Hbit Hmm Hmn Hme pm
 generalize hvm : Value.slice (some adM) M.length cM = vm at *
 clear hvm
 generalize hL : RL[q.toNat] = L at *
 have HL := hid hL
 clear hL
 generalize hFO : T.foes[q.toNat] = FO at *
 have HFO := hid hFO
 clear hFO
 go_loopw [8, 7] (fun v8 v7 wr => ∃ i : Nat, i ≤ L.length ∧ v8 = .int .i64 i ∧ v7 = .bool (!(L.take i).any (mpR T M)) ∧ Drew w wr) (fun v8 _ _ => L.length - (intOf v8).toNat)
 case atStart => exact ⟨0, Nat.zero_le _, rfl, rfl, ⟨_, rfl⟩⟩
 case round =>
  obtain ⟨i, hi, rfl, rfl, hdr⟩ := hrel
  have Hdr := hid hdr
  obtain ⟨AF, cF, AR, cR, AB, cB, Al, cl, ARu, cRu, c1, c2, c3, c4, c5, hF, hR, hB, hl, hRu⟩ := (H.out.ext hdr.below).cells
  obtain ⟨adQ, LB, LC, rfl, pq, l1, l2, hrow⟩ := hRu.atRow hqr
  rw [HL.out] at pq l1 l2 hrow
  clear hdr
  by_cases hlt : i < L.length
  ·have Hi := hid (any_take_succ (p := mpR T M) hlt)
   obtain ⟨adL, rfl, pl⟩ := hrow.at1 hlt
   obtain ⟨hr0, hr1⟩ := Hrl.out _ (List.getElem_mem hlt)
   obtain ⟨r, Hr⟩ : ∃ r, Hid (L[i] = r) := ⟨_, hid rfl⟩
   rw [Hr.out] at pl hr0 hr1
   have hrl : r.toNat < T.rules.length := by omega
   have HbR := hid (Hbody.out _ hrl)
   have Hbo := hid (bodyAt_at hrl)
   obtain ⟨adR, C, cC, rfl, p0, p1, p2, d1, d2, hbody⟩ := hR.atRule hrl
   generalize T.rules[r.toNat].body = bo at *
   have Hst := hid (support15_same _ b T l RL (H.out.ext Hdr.out.below) r hr0 hr1)
   have Hall := hid (any15_any wr vm (.slice C bo.length cC) M bo (Hm.out.ext (scR_mono _) Hdr.out.below) ⟨C, cC, rfl, d1, d2, hbody⟩ H8.out HbR.out 4 3 (by decide) (by decide))
   have Hp : Hid (mpR T M r = (supB T r && !anyM M 3 bo)) := hid (by rw [← Hbo.out]; rfl)
   clear hF hR hB hl hRu hrow hbody
   cases hd : (L.take i).any (mpR T M) with
   | true =>
    have Hd := hid hd
    clear hd
    go_wp2_with fail
    go_roundw
    case rel => exact ⟨i + 1, by omega, by go_num, by rw [Hi.out, Hd.out]; rfl, Hdr.out⟩
    case measure => simp [intOf]; omega
   | false =>
   have Hd := hid hd
   clear hd
   cases hs : supB T r with
   | false =>
    have Hp2 : Hid (mpR T M r = false) := hid (by rw [Hp.out, hs]; rfl)
    rw [hs] at Hst
    clear hs
    go_wp2_with (go_at_call 141; refine Hst.out.mono ?_; rintro e w' ⟨rfl, hw9⟩; rw [hw9]; clear hw9 w')
    go_roundw
    case rel => exact ⟨i + 1, by omega, by go_num, by rw [Hi.out, Hd.out, Hr.out, Hp2.out]; rfl, Hdr.out⟩
    case measure => simp [intOf]; omega
   | true =>
    rw [hs] at Hst
    have Hp2 : Hid (mpR T M r = !anyM M 3 bo) := hid (by rw [Hp.out, hs]; rfl)
    clear hs
    generalize hal : anyM M 3 bo = al at *
    clear hal
    go_wp2_with (first | (go_at_call 141; refine Hst.out.mono ?_; rintro e w' ⟨rfl, hw9⟩; rw [hw9]; clear hw9 w') | (go_at_call 140; refine Hall.out.mono ?_; rintro e w' ⟨rfl, m9, rfl⟩))
    go_roundw
    case rel => exact ⟨i + 1, by omega, by go_num, by rw [Hi.out, Hd.out, Hr.out, Hp2.out]; cases al <;> rfl, Hdr.out.step _⟩
    case measure => simp [intOf]; omega
  ·have Hany : Hid ((L.take i).any (mpR T M) = L.any (mpR T M)) := hid (any_take_all (show L.length ≤ i by omega))
   rw [Hany.out]
   obtain ⟨adF, FB, FC, rfl, pf, f1, f2, hfrow⟩ := hF.atRow hqf
   rw [HFO.out] at pf f1 f2 hfrow
   have Hall := hid (any15_any wr vm (.slice FB FO.length FC) M FO (Hm.out.ext (scR_mono _) Hdr.out.below) ⟨FB, FC, rfl, f1, f2, hfrow⟩ H8.out Hfo.out 1 0 (by decide) (by decide))
   clear hF hR hB hl hRu hrow hfrow Hany
   cases hd : L.any (mpR T M) with
   | false =>
    rw [hd] at HQ
    clear hd
    go_wp2_with fail
    go_ret
    exact Fin HQ ⟨rfl, Hdr.out⟩
   | true =>
   rw [hd] at HQ
   clear hd
   simp only [Bool.not_true, Bool.false_or] at HQ
   cases ha : anyM M 0 FO with
   | true =>
    rw [ha] at HQ Hall
    clear ha
    go_wp2_with (go_at_call 140; refine Hall.out.mono ?_; rintro e w' ⟨rfl, m9, rfl⟩)
    go_ret
    exact Fin HQ ⟨rfl, Hdr.out.step _⟩
   | false =>
   rw [ha] at HQ Hall
   clear ha
   simp only [Bool.false_or] at HQ
   go_wp2_with (go_at_call 140; refine Hall.out.mono ?_; rintro e w' ⟨rfl, m9, rfl⟩)
   clear Hall pf pq c1 c2 c3 c4 c5
   go_loopw [10] (fun vo wr => ∃ i : Nat, i ≤ FO.length ∧ vo = .int .i64 i ∧ Hid ((FO.take i).any (fun f => (row RL f).any (mpS T RL M q)) = false) ∧ Drew w wr) (fun vo _ => FO.length - (intOf vo).toNat)
   case atStart => exact ⟨0, Nat.zero_le _, rfl, hid (by simp), Hdr.out.step _⟩
   case round =>
    clear Hdr
    obtain ⟨i, hi, rfl, hno, hdr⟩ := hrel
    have Hdr := hid hdr
    obtain ⟨AF, cF, AR, cR, AB, cB, Al, cl, ARu, cRu, c1, c2, c3, c4, c5, hF, hR, hB, hl, hRu⟩ := (H.out.ext hdr.below).cells
    obtain ⟨adQ, LB, LC, rfl, pq, l1, l2, hrow⟩ := hRu.atRow hqr
    obtain ⟨adF, FB, FC, rfl, pf, f1, f2, hfrow⟩ := hF.atRow hqf
    rw [HFO.out] at pf f1 f2 hfrow
    clear hdr
    by_cases hlt : i < FO.length
    ·have Hi := hid (any_take_succ (p := (fun f => (row RL f).any (mpS T RL M q))) hlt)
     have Hhit := hid (any_hit (p := (fun f => (row RL f).any (mpS T RL M q))) hlt)
     obtain ⟨adX, rfl, px⟩ := hfrow.at1 hlt
     obtain ⟨hx0, hx1⟩ := Hfr.out _ (List.getElem_mem hlt)
     obtain ⟨x, Hx⟩ : ∃ x, Hid (FO[i] = x) := ⟨_, hid rfl⟩
     rw [Hx.out] at px hx0 hx1
     have hxl : x.toNat < RL.length := by omega
     have HrowX : Hid (row RL x = RL[x.toNat]) := hid (row_at hx0 hx1)
     have HrlX := hid (Hrlf.out _ hxl)
     obtain ⟨adQ', XB, XC, e', px2, x1, x2, hxrow⟩ := hRu.atRow hxl
     cases e'
     generalize hLX : RL[x.toNat] = LX at *
     have HLX := hid hLX
     clear hLX
     clear hF hR hB hl hRu hrow hfrow
     go_wp2
     go_quiet (fail)
     go_wp2
     obtain ⟨wo, rfl⟩ : ∃ wo : World, wo = wr := ⟨_, rfl⟩
     have hdr1 := Hdr.out.step
     clear c1 c2 c3 c4 c5 px px2 pf pq
     go_loopw [12] (fun vi wr => ∃ j : Nat, j ≤ LX.length ∧ vi = .int .i64 j ∧ Hid ((LX.take j).any (mpS T RL M q) = false) ∧ Drew wo wr) (fun vi _ => LX.length - (intOf vi).toNat)
     case atStart => exact ⟨0, Nat.zero_le _, rfl, hid (by simp), ⟨_, rfl⟩⟩
     case round =>
      obtain ⟨j, hj, rfl, hno2, hdr⟩ := hrel
      have Hdro := hid hdr
      replace hxrow := hxrow.ext (scR_mono _) hdr.below
      replace hdr := Hdr.out.trans hdr
      have Hdr2 := hid hdr
      obtain ⟨AF, cF, AR, cR, AB, cB, Al, cl, ARu, cRu, c1, c2, c3, c4, c5, hF, hR, hB, hl, hRu⟩ := (H.out.ext hdr.below).cells
      obtain ⟨adQ, LB, LC, rfl, pq, l1, l2, hrow⟩ := hRu.atRow hqr
      clear hdr
      by_cases hlt2 : j < LX.length
      ·have Hj := hid (any_take_succ (p := mpS T RL M q) hlt2)
       have Hhit2 := hid (any_hit (p := mpS T RL M q) hlt2)
       obtain ⟨adL, rfl, pl⟩ := hxrow.at1 hlt2
       obtain ⟨hs0, hs1⟩ := HrlX.out _ (List.getElem_mem hlt2)
       obtain ⟨s, Hs9⟩ : ∃ s, Hid (LX[j] = s) := ⟨_, hid rfl⟩
       rw [Hs9.out] at pl hs0 hs1
       have hsl : s.toNat < T.rules.length := by omega
       have Hbe := hid (stands15_any wr b T F l RL M vm (H.out.ext Hdr2.out.below) (Hm.out.ext (scR_mono _) Hdr2.out.below) Hv.out q h0 hq s hs0 hs1)
       have Hp : Hid (mpS T RL M q s = (wholeB T M 2 s && !(row RL q).any (mpB T M s))) := hid rfl
       rw [← Hp.out] at Hbe
       clear hF hR hB hl hRu hrow hxrow
       cases hbb : mpS T RL M q s with
       | false =>
        have Hp2 := hid hbb
        rw [hbb] at Hbe
        clear hbb
        go_wp2_with (go_at_call 143; refine Hbe.out.mono ?_; rintro e w' ⟨rfl, m9, rfl⟩)
        go_roundw
        case rel => exact ⟨j + 1, by omega, by go_num, hid (by rw [Hj.out, hno2.out, Hs9.out, Hp2.out]; rfl), Hdro.out.step _⟩
        case measure => simp [intOf]; omega
       | true =>
        have Hp2 := hid hbb
        have Hfin : Hid (FO.any (fun f => (row RL f).any (mpS T RL M q)) = true) := hid (Hhit.out (by rw [Hx.out, HrowX.out]; exact Hhit2.out (by rw [Hs9.out, Hp2.out])))
        rw [Hfin.out] at HQ
        rw [hbb] at Hbe
        clear hbb
        go_wp2_with (go_at_call 143; refine Hbe.out.mono ?_; rintro e w' ⟨rfl, m9, rfl⟩)
        go_ret
        exact Fin HQ ⟨rfl, Hdr2.out.step _⟩
      ·have Hany : Hid (LX.any (mpS T RL M q) = false) := hid (by rw [← any_take_all (show LX.length ≤ j by omega), hno2.out])
       clear hF hR hB hl hRu hrow hxrow
       go_wp2
       go_roundw
       case rel => exact ⟨i + 1, by omega, by go_num, hid (by rw [Hi.out, hno.out, Hx.out, HrowX.out, Hany.out]; rfl), Hdr2.out⟩
       case measure => simp [intOf]; omega
    ·have Hany : Hid (FO.any (fun f => (row RL f).any (mpS T RL M q)) = false) := hid (by rw [← any_take_all (show FO.length ≤ i by omega), hno.out])
     rw [Hany.out] at HQ
     clear hF hR hB hl hRu hrow hfrow
     go_wp2
     go_ret
     exact Fin HQ ⟨rfl, Hdr.out⟩

end Go.Proofs.Lx

namespace Go.Proofs.Lx
open Go Go.RowKit
set_option linter.unusedSimpArgs false
set_option linter.unusedVariables false

def blkS : Code → Code
 | .block _ b => b
 | c => c
def loopS : Code → Code
 | .loop b => b
 | c => c
noncomputable def newR10 : Code := sndS (blkS (fstS (sndS (sndS (loopS (blkS (sndS (fstS (sndS (sndS (sndS ((Try.f58.body).getD .skip))))))))))))

set_option maxRecDepth 1000000 in
set_option maxHeartbeats 60000000 in
theorem newWorld_R10 (W1 wx : World) (a0 a1 a2 a3 a4 a6 kd bd : Value) (n : Nat) (b gA gR base rb : Nat) (F : List Bool) (us : List Value) (xss : List (List Int)) (q k : Nat)
  (hws1 : WS W1 #[a0, a1, a2, a3, a4, .slice (some ⟨gR, 0, none⟩) n n, a6] b gA gR base F us xss wx) (hqn : q < us.length) (hqr : q < xss.length) (hqf : q < n)
  (hrb : wx.heap[rb]? = some (.cells #[kd, .int .i64 (q : Int), bd] 37 (0, 0))) (hrbb : base ≤ rb) (hro : us[q].ownBlock ≠ some rb) (hnq : xss[q].length ≤ 4096) (K : Act → World → Prop) (Q' : Exit → Act → World → Prop)
  (u0 u1 u2 u3 u4 u5 u6 u8 u9 u12 u13 u14 u15 u16 u17 u18 u19 u20 u21 u22 u23 u24 u25 u26 u27 u28 u29 u30 u31 u32 u33 u34 u35 u36 u37 u38 u39 u40 u41 u42 u43 u44 u45 u46 u47 u48 u49 u50 u51 u52 u53 u54 u55 u56 u57 u58 u59 u60 u61 u62 : Value)
  (hK : ∀ (x43 x44 x45 x46 x47 x48 x49 x50 x51 x52 x53 x54 x55 x56 x57 x58 x59 x60 : Value) (wy : World) (v' : Value), WS W1 #[a0, a1, a2, a3, a4, .slice (some ⟨gR, 0, none⟩) n n, a6] b gA gR base F (us.set q v') (xss.set q (xss[q] ++ [(k : Int)])) wy → K ⟨#[u0, u1, u2, u3, u4, u5, u6, .pointer (some ⟨b, 0, none⟩), u8, u9, .int .i64 (k : Int), .pointer (some ⟨rb, 0, none⟩), u12, u13, u14, u15, u16, u17, u18, u19, u20, u21, u22, u23, u24, u25, u26, u27, u28, u29, u30, u31, u32, u33, u34, u35, u36, u37, u38, u39, u40, u41, u42, x43, x44, x45, x46, x47, x48, x49, x50, x51, x52, x53, x54, x55, x56, x57, x58, x59, x60, u61, u62], []⟩ wy) :
  Code.wp Try.prog newR10 (Exit.inBlock 3 (Exit.then K Q')) ⟨#[u0, u1, u2, u3, u4, u5, u6, .pointer (some ⟨b, 0, none⟩), u8, u9, .int .i64 (k : Int), .pointer (some ⟨rb, 0, none⟩), u12, u13, u14, u15, u16, u17, u18, u19, u20, u21, u22, u23, u24, u25, u26, u27, u28, u29, u30, u31, u32, u33, u34, u35, u36, u37, u38, u39, u40, u41, u42, u43, u44, u45, u46, u47, u48, u49, u50, u51, u52, u53, u54, u55, u56, u57, u58, u59, u60, u61, u62], []⟩ wx := by
 have HK := hid hK
 clear hK
 conv => arg 2; whnf
 have e5 := hws1.cell 5
 simp only [List.getElem?_toArray, List.getElem?_cons_zero, List.getElem?_cons_succ] at e5
 have x1 : wx.cell? ⟨rb, 1, none⟩ = some (.int .i64 q) := by rw [cell_of_row wx rb 1 _ _ _ hrb]; rfl
 have hst := hws1.rows.own q hqn hqr
 have hcq := hws1.rows.cell hqn
 have hfq := hws1.rows.free q
 have hbs := hws1.hb
 have hRlt := hws1.rows.lt
 have hblt := lt_of_block hws1.blk
 have hxlt := lt_of_block hrb
 have Haft : Hid (∀ (cs : Array Value) (w' : World), ((wx.alloc (.cells cs 3)).drew).grownBy w' us[q].ownBlock → w'.cell? ⟨b, 5, none⟩ = some (.slice (some ⟨gR, 0, none⟩) n n) ∧ w'.cell? ⟨rb, 1, none⟩ = some (.int .i64 q) ∧ w'.cell? ⟨gR, q, none⟩ = some us[q] ∧ w'.frozen? ⟨gR, q, none⟩ = false) := by
  intro cs w' hgrow
  have hws2 := hws1.ext ((ext_alloc wx (.cells cs 3)).drew)
  have k1 := (hws2.blocks hqn hgrow b hws2.h1.2).trans hws2.blk
  have k2 := (hws2.blocks hqn hgrow gR hws2.h3.2).trans hws2.rows.blk
  have k3 := (hgrow.block rb (Nat.lt_of_lt_of_le hxlt (ext_alloc wx _).size) (fun e => hro e.symm)).trans ((Below.heap_alloc wx _ _ hxlt).trans hrb)
  refine ⟨by rw [cell_of_row w' b 5 _ _ _ k1]; rfl, by rw [cell_of_row w' _ 1 _ _ _ k3]; rfl, ?_, frozen_of_row w' gR q _ _ k2⟩
  rw [cell_of_row w' gR q _ _ _ k2]; simp [hqn]
 have hi0 : (0 : Int) ≤ (q : Int) := by omega
 have hi1 : (q : Int) < (n : Int) := by omega
 have Hkeep : Hid (∀ cs : Array Value, ((wx.alloc (.cells cs 3)).drew).cell? ⟨b, 5, none⟩ = some (.slice (some ⟨gR, 0, none⟩) n n) ∧ ((wx.alloc (.cells cs 3)).drew).cell? ⟨rb, 1, none⟩ = some (.int .i64 (q : Int))) := fun cs =>
  ⟨cell_ext (ext_alloc wx (.cells cs 3)).drew e5, cell_ext (ext_alloc wx (.cells cs 3)).drew x1⟩
 have hne1 : b ≠ gR := hws1.d.2.1
 have hne2 : rb ≠ gR := fun e => by have := hws1.h3.2; omega
 have Hst : Hid (∀ (w' : World) (v : Value), w'.cell? ⟨b, 5, none⟩ = some (.slice (some ⟨gR, 0, none⟩) n n) → w'.cell? ⟨rb, 1, none⟩ = some (.int .i64 (q : Int)) → (w'.setCell ⟨gR, q, none⟩ v).cell? ⟨b, 5, none⟩ = some (.slice (some ⟨gR, 0, none⟩) n n) ∧ (w'.setCell ⟨gR, q, none⟩ v).cell? ⟨rb, 1, none⟩ = some (.int .i64 (q : Int))) := fun w' v h1 h2 => ⟨by rw [World.cell?_setCell_far _ _ _ _ (Ne.symm hne1)]; exact h1, by rw [World.cell?_setCell_far _ _ _ _ (Ne.symm hne2)]; exact h2⟩
 have Hws := hid hws1
 have Hrb := hid hrb
 clear hws1 hrb
 refine wp_region_noPanic ?_
 refine wp_region_held_drew (S := (fun w' => w'.cell? ⟨b, 5, none⟩ = some (.slice (some ⟨gR, 0, none⟩) n n) ∧ w'.cell? ⟨rb, 1, none⟩ = some (.int .i64 (q : Int)))) (by kernel_rfl) ?_ (fun hHeld => ?_)
 ·exact ⟨e5, x1⟩
 refine wpAnyH_take (i := 0) (v := ?v1) rfl (by kernel_rfl) (by kernel_rfl) (by kernel_rfl) (fun _ _ _ h => h) (Or.inl ⟨by rfl, ?hy1⟩) (by assumption) ?rest1
 case hy1 => (intro w hSw; (try dsimp only at hSw); go_simp) <;> try with_reducible rfl
 simp only [Act.put, List.setIfInBounds_toArray, List.set_cons_zero, List.set_cons_succ]
 refine wpAnyH_take (i := 1) (v := ?v2) rfl (by kernel_rfl) (by kernel_rfl) (by kernel_rfl) (fun _ _ _ h => h) (Or.inl ⟨by rfl, ?hy2⟩) (by assumption) ?rest2
 case hy2 => (intro w hSw; (try dsimp only at hSw); go_simp) <;> try with_reducible rfl
 simp only [Act.put, List.setIfInBounds_toArray, List.set_cons_zero, List.set_cons_succ]
 refine wpAnyH_take (i := 2) (v := ?v3) rfl (by kernel_rfl) (by kernel_rfl) (by kernel_rfl) (fun _ _ _ h => h) (Or.inl ⟨by rfl, ?hy3⟩) (by assumption) ?rest3
 case hy3 => (intro w hSw; (try dsimp only at hSw); go_simp) <;> try with_reducible rfl
 simp only [Act.put, List.setIfInBounds_toArray, List.set_cons_zero, List.set_cons_succ]
 refine wpAnyH_take (i := 3) (v := ?v4) rfl (by kernel_rfl) (by kernel_rfl) (by kernel_rfl) (fun _ _ _ h => h) (Or.inl ⟨by rfl, ?hy4⟩) (by assumption) ?rest4
 case hy4 => (intro w hSw; (try dsimp only at hSw); go_simp) <;> try with_reducible rfl
 simp only [Act.put, List.setIfInBounds_toArray, List.set_cons_zero, List.set_cons_succ]
 refine wpAnyH_take (i := 4) (v := ?v5) rfl (by kernel_rfl) (by kernel_rfl) (by kernel_rfl) (fun _ _ _ h => h) (Or.inl ⟨by rfl, ?hy5⟩) (by assumption) ?rest5
 case hy5 => (intro w hSw; (try dsimp only at hSw); go_simp) <;> try with_reducible rfl
 simp only [Act.put, List.setIfInBounds_toArray, List.set_cons_zero, List.set_cons_succ]
 refine wpAnyH_take (i := 5) (v := ?v6) rfl (by kernel_rfl) (by kernel_rfl) (by kernel_rfl) (fun _ _ _ h => h) (Or.inl ⟨by rfl, ?hy6⟩) (by assumption) ?rest6
 case hy6 => (intro w hSw; (try dsimp only at hSw); go_simp) <;> try with_reducible rfl
 simp only [Act.put, List.setIfInBounds_toArray, List.set_cons_zero, List.set_cons_succ]
 refine wpAnyH_take (i := 6) (v := ?v7) rfl (by kernel_rfl) (by kernel_rfl) (by kernel_rfl) (fun _ _ _ h => h) (Or.inl ⟨by rfl, ?hy7⟩) (by assumption) ?rest7
 case hy7 => (intro w hSw; (try dsimp only at hSw); go_simp) <;> try with_reducible rfl
 simp only [Act.put, List.setIfInBounds_toArray, List.set_cons_zero, List.set_cons_succ]
 refine wpAnyH_take (i := 7) (v := ?v8) rfl (by kernel_rfl) (by kernel_rfl) (by kernel_rfl) (fun _ _ _ h => h) (Or.inl ⟨by rfl, ?hy8⟩) (by assumption) ?rest8
 case hy8 => (intro w hSw; (try dsimp only at hSw); go_simp) <;> try with_reducible rfl
 simp only [Act.put, List.setIfInBounds_toArray, List.set_cons_zero, List.set_cons_succ]
 refine wpAnyH_take (i := 8) (v := ?v9) rfl (by kernel_rfl) (by kernel_rfl) (by kernel_rfl) (fun _ _ _ h => h) (Or.inl ⟨by rfl, ?hy9⟩) (by assumption) ?rest9
 case hy9 => (intro w hSw; (try dsimp only at hSw); go_simp) <;> try with_reducible rfl
 simp only [Act.put, List.setIfInBounds_toArray, List.set_cons_zero, List.set_cons_succ]
 refine wpAnyH_take (i := 9) (v := ?v10) rfl (by kernel_rfl) (by kernel_rfl) (by kernel_rfl) (fun _ _ _ h => h) (Or.inl ⟨by rfl, ?hy10⟩) (by assumption) ?rest10
 case hy10 => (intro w hSw; (try dsimp only at hSw); go_simp) <;> try with_reducible rfl
 simp only [Act.put, List.setIfInBounds_toArray, List.set_cons_zero, List.set_cons_succ]
 refine wpAnyH_take (i := 10) (v := ?v11) rfl (by kernel_rfl) (by kernel_rfl) (by kernel_rfl) (fun _ _ _ h => h) (Or.inl ⟨by rfl, ?hy11⟩) (by assumption) ?rest11
 case hy11 => (intro w hSw; (try dsimp only at hSw); go_simp) <;> try with_reducible rfl
 simp only [Act.put, List.setIfInBounds_toArray, List.set_cons_zero, List.set_cons_succ]
 refine wpAnyH_take (i := 11) (v := ?v12) rfl (by kernel_rfl) (by kernel_rfl) (by kernel_rfl) (fun _ _ _ h => h) (Or.inl ⟨by rfl, ?hy12⟩) (by assumption) ?rest12
 case hy12 => (intro w hSw; (try dsimp only at hSw); go_simp) <;> try with_reducible rfl
 simp only [Act.put, List.setIfInBounds_toArray, List.set_cons_zero, List.set_cons_succ]
 refine wpAnyH_take (i := 12) (v := ?v13) rfl (by kernel_rfl) (by kernel_rfl) (by kernel_rfl) (fun _ _ _ h => h) (Or.inl ⟨by rfl, ?hy13⟩) (by assumption) ?rest13
 case hy13 => (intro w hSw; (try dsimp only at hSw); go_simp) <;> try with_reducible rfl
 simp only [Act.put, List.setIfInBounds_toArray, List.set_cons_zero, List.set_cons_succ]
 refine wpAnyH_take (i := 14) (v := ?v14) rfl (by kernel_rfl) (by kernel_rfl) (by kernel_rfl) (fun _ _ _ h => h) (Or.inl ⟨by rfl, ?hy14⟩) (by assumption) ?rest14
 case hy14 => (intro w hSw; (try dsimp only at hSw); go_simp) <;> try with_reducible rfl
 simp only [Act.put, List.setIfInBounds_toArray, List.set_cons_zero, List.set_cons_succ]
 refine wpAnyH_ready (rs := [13, 15]) (by kernel_rfl) (by simp) ?_
 refine AllReadyH.cons rfl (fun K9 hK9 => ?_) (AllReadyH.cons rfl (fun K9 hK9 => ?_) AllReadyH.nil)
 ·go_simp
  refine hK9.out _ _ ?_ (fun hHeld => ?_)
  ·exact ⟨e5, x1⟩
  clear hK9 K9
  try simp only [Act.put, List.setIfInBounds_toArray, List.set_cons_zero, List.set_cons_succ]
  refine wpAnyH_ready (rs := [15]) (by kernel_rfl) (by simp) ?_
  refine AllReadyH.cons rfl (fun K9 hK9 => ?_) AllReadyH.nil
  go_simp
  refine hK9.out _ _ ?_ (fun hHeld => ?_)
  ·exact Hkeep.out _
  clear hK9 K9
  try simp only [Act.put, List.setIfInBounds_toArray, List.set_cons_zero, List.set_cons_succ]
  refine wpAnyH_ready (rs := [16]) (by kernel_rfl) (by simp) ?_
  refine AllReadyH.cons rfl (fun K9 hK9 => ?_) AllReadyH.nil
  (refine step_append_own_at rfl (.tmp 56) (.tmp 58) 26 rfl base 3 (.int .i64 0) 8 Try.underlying26 infoI rfl us[q] _ _ rfl (hst.alloc _) _ (.int .i64 k) rfl (by simp [go_sem]) rfl (by unfold maxLen; omega) (by omega) (by simp; omega) ?_; intro v' w' hown hgrow hat; obtain ⟨gn, cn, rfl⟩ := own_form hown; obtain ⟨hq5, hqx, hqR, hqF⟩ := Haft.out _ w' hgrow)
  refine hK9.out _ _ ?_ (fun hHeld => ?_)
  ·exact ⟨hq5, hqx⟩
  clear hK9 K9
  try simp only [Act.put, List.setIfInBounds_toArray, List.set_cons_zero, List.set_cons_succ]
  refine wpAnyH_take (i := 17) (v := ?v15) rfl (by kernel_rfl) (by kernel_rfl) (by kernel_rfl) (fun _ _ _ h => h) (Or.inl ⟨by rfl, ?hy15⟩) (by assumption) ?rest15
  case hy15 => (intro w hSw; (try dsimp only at hSw); go_simp) <;> try with_reducible rfl
  simp only [Act.put, List.setIfInBounds_toArray, List.set_cons_zero, List.set_cons_succ]
  refine wpAnyH_ready (rs := [18]) (by kernel_rfl) (by simp) ?_
  refine AllReadyH.cons rfl (fun K9 hK9 => ?_) AllReadyH.nil
  go_simp
  refine hK9.out _ _ ?_ (fun hHeld => ?_)
  ·exact Hst.out _ _ hq5 hqx
  clear hK9 K9
  try simp only [Act.put, List.setIfInBounds_toArray, List.set_cons_zero, List.set_cons_succ]
  refine wpAnyH_done (by kernel_rfl) (NoPanic.normal ?_) _
  clear hq5 hqx hqR hqF e5 x1 hst hcq hfq
  go_wp2_with fail
  exact HK.out _ _ _ _ _ _ _ _ _ _ _ _ _ _ _ _ _ _ _ _ ((Hws.out.ext ((ext_alloc wx (.cells #[.int .i64 (k : Int)] 3)).drew)).append hqn hqr hgrow hown hat)
 ·go_simp
  refine hK9.out _ _ ?_ (fun hHeld => ?_)
  ·exact Hkeep.out _
  clear hK9 K9
  try simp only [Act.put, List.setIfInBounds_toArray, List.set_cons_zero, List.set_cons_succ]
  refine wpAnyH_ready (rs := [13]) (by kernel_rfl) (by simp) ?_
  refine AllReadyH.cons rfl (fun K9 hK9 => ?_) AllReadyH.nil
  go_simp
  refine hK9.out _ _ ?_ (fun hHeld => ?_)
  ·exact Hkeep.out _
  clear hK9 K9
  try simp only [Act.put, List.setIfInBounds_toArray, List.set_cons_zero, List.set_cons_succ]
  refine wpAnyH_ready (rs := [16]) (by kernel_rfl) (by simp) ?_
  refine AllReadyH.cons rfl (fun K9 hK9 => ?_) AllReadyH.nil
  (refine step_append_own_at rfl (.tmp 56) (.tmp 58) 26 rfl base 3 (.int .i64 0) 8 Try.underlying26 infoI rfl us[q] _ _ rfl (hst.alloc _) _ (.int .i64 k) rfl (by simp [go_sem]) rfl (by unfold maxLen; omega) (by omega) (by simp; omega) ?_; intro v' w' hown hgrow hat; obtain ⟨gn, cn, rfl⟩ := own_form hown; obtain ⟨hq5, hqx, hqR, hqF⟩ := Haft.out _ w' hgrow)
  refine hK9.out _ _ ?_ (fun hHeld => ?_)
  ·exact ⟨hq5, hqx⟩
  clear hK9 K9
  try simp only [Act.put, List.setIfInBounds_toArray, List.set_cons_zero, List.set_cons_succ]
  refine wpAnyH_take (i := 17) (v := ?v16) rfl (by kernel_rfl) (by kernel_rfl) (by kernel_rfl) (fun _ _ _ h => h) (Or.inl ⟨by rfl, ?hy16⟩) (by assumption) ?rest16
  case hy16 => (intro w hSw; (try dsimp only at hSw); go_simp) <;> try with_reducible rfl
  simp only [Act.put, List.setIfInBounds_toArray, List.set_cons_zero, List.set_cons_succ]
  refine wpAnyH_ready (rs := [18]) (by kernel_rfl) (by simp) ?_
  refine AllReadyH.cons rfl (fun K9 hK9 => ?_) AllReadyH.nil
  go_simp
  refine hK9.out _ _ ?_ (fun hHeld => ?_)
  ·exact Hst.out _ _ hq5 hqx
  clear hK9 K9
  try simp only [Act.put, List.setIfInBounds_toArray, List.set_cons_zero, List.set_cons_succ]
  refine wpAnyH_done (by kernel_rfl) (NoPanic.normal ?_) _
  clear hq5 hqx hqR hqF e5 x1 hst hcq hfq
  go_wp2_with fail
  exact HK.out _ _ _ _ _ _ _ _ _ _ _ _ _ _ _ _ _ _ _ _ ((Hws.out.ext ((ext_alloc wx (.cells #[.int .i64 (k : Int)] 3)).drew)).append hqn hqr hgrow hown hat)
end Go.Proofs.Lx
