/- Parts of the proof: Sh. The reference's conditions (layer 15): plusd, minusd. -/
import Derived.Test.YtbidjiopnddldaaGreatP37
namespace Go.Proofs.Lx
open Go Go.RowKit
set_option linter.unusedSimpArgs false
set_option linter.unusedVariables false

theorem bit_masks (x : Nat) (hx : x < 256) (k : Nat) (hk : k < 4) : (bits .and .u8 (x : Int) ((2 ^ k : Nat) : Int) == 0) = !x.testBit k := by
 have := bit_mask x hx k hk
 rw [← this, bne]; simp

set_option maxRecDepth 100000 in
set_option maxHeartbeats 6400000 in
theorem plusd15_any (w : World) (b : Nat) (T : Th) (F : List Bool) (l : List Int) (RL : List (List Int)) (M : List Nat) (vm : Value) (h : NR w b T l RL) (hm : RdMk w vm M) (hv : NVal T F RL M) (q : Int) (h0 : 0 ≤ q) (hq : q < T.foes.length) :
  Calls Tryz.prog 100 #[.pointer (some ⟨b, 0, none⟩), vm, .int .i64 q] w (Dr w (plusPB T RL M q)) := by
 refine dr_of ?_
 have H := hid h
 have Hm := hid hm
 have Hv := hid hv
 have hqr : q.toNat < RL.length := by have := hv.nR; omega
 have hqr2 : q < (RL.length : Int) := by have := hv.nR; omega
 have hqf : q.toNat < T.foes.length := by omega
 have Hrow : Hid (row RL q = RL[q.toNat]) := hid (row_at h0 hqr2)
 have Hrl : Hid (∀ r ∈ RL[q.toNat], 0 ≤ r ∧ r < (T.rules.length : Int)) := hid (hv.rl _ hqr)
 have Hbody : Hid (∀ r (h : r < T.rules.length), ∀ x ∈ T.rules[r].body, 0 ≤ x ∧ x < (M.length : Int)) := hid (fun r h x hx => by rw [hv.nM]; exact hv.body r h x hx)
 have H8 := hid hv.m8
 refine post_gen fun Q HQ => ?_
 have Hfo : Hid (∀ x ∈ T.foes[q.toNat], 0 ≤ x ∧ x < (M.length : Int)) := hid (fun x hx => by have := hv.fo _ hqf x hx; rw [hv.nM]; exact this)
 have Hfr : Hid (∀ x ∈ T.foes[q.toNat], 0 ≤ x ∧ x < (RL.length : Int)) := hid (fun x hx => by have := hv.fo _ hqf x hx; rw [hv.nR]; exact this)
 have Hrlf : Hid (∀ f (h : f < RL.length), ∀ r ∈ RL[f], 0 ≤ r ∧ r < (T.rules.length : Int)) := hid hv.rl
 have hrowF : row T.foes q = T.foes[q.toNat] := row_at h0 hq
 have hqm : q.toNat < M.length := by have := hv.nM; omega
 have hqm2 : q < (M.length : Int) := by have := hv.nM; omega
 have Hbit := hid (fun w => bit15_plain 1 0 (by decide) (by decide) w)
 have Hmm := hid (bit_mask M[q.toNat] (hv.m8 _ (List.getElem_mem hqm)) 0 (by decide))
 have Hmn := hid (bit_masks M[q.toNat] (hv.m8 _ (List.getElem_mem hqm)) 0 (by decide))
 have Hme : Hid (hasM M 0 q = M[q.toNat].testBit 0) := by simp [Hid, hasM, hqm]
 obtain ⟨AM, cM, rfl, hcM, hbM, hrM⟩ := id hm
 obtain ⟨adM, rfl, pm⟩ := hrM.at1 hqm
 have Hs : Hid (plusPB T RL M q = (hasM M 0 q || (RL[q.toNat].any (ppR T M) && (allM M 1 T.foes[q.toNat] && !T.foes[q.toNat].any fun f => (row RL f).any (ppS T RL M q))))) := hid (by unfold plusPB; rw [hrowF, Hrow.out]; rfl)
 rw [Hs.out] at HQ
 clear hrM hrowF
 clear h hm hv
 go_enter Tryz.func100, Tryz.ntmps100
 generalize M[q.toNat] = y at *
 generalize hp : 2 ^ 0 = z at *
 clear hp
 cases hs : y.testBit 0 with
 | true =>
  have hb1 : (bits .and .u8 (y : Int) (z : Int) != 0) = true := by have := Hmm.out; rw [hs] at this; exact this
  rw [Hme.out, hs] at HQ
  clear hs
  go_wp2
  go_quiet ((go_at_call 82; exact Calls.quiet_of_same (Hbit.out _)))
  go_wp2
  go_ret
  exact Fin HQ ⟨rfl, _, rfl⟩
 | false =>
 have hb1 : (bits .and .u8 (y : Int) (z : Int) != 0) = false := by have := Hmm.out; rw [hs] at this; exact this
 rw [Hme.out, hs] at HQ
 clear hs
 simp only [Bool.false_or] at HQ
 go_wp2
 go_quiet ((go_at_call 82; exact Calls.quiet_of_same (Hbit.out _)))
 go_wp2
 clear hb1 Hbit Hmm Hmn Hme pm
 generalize hvm : Value.slice (some adM) M.length cM = vm at *
 clear hvm
 generalize hL : RL[q.toNat] = L at *
 have HL := hid hL
 clear hL
 generalize hFO : T.foes[q.toNat] = FO at *
 have HFO := hid hFO
 clear hFO
 go_loopw [8, 7] (fun v8 v7 wr => ∃ i : Nat, i ≤ L.length ∧ v8 = .int .i64 i ∧ v7 = .bool ((L.take i).any (ppR T M)) ∧ Drew w wr) (fun v8 _ _ => L.length - (intOf v8).toNat)
 case atStart => exact ⟨0, Nat.zero_le _, rfl, rfl, ⟨_, rfl⟩⟩
 case round =>
  obtain ⟨i, hi, rfl, rfl, hdr⟩ := hrel
  have Hdr := hid hdr
  obtain ⟨AF, cF, AR, cR, AB, cB, Al, cl, ARu, cRu, c1, c2, c3, c4, c5, hF, hR, hB, hl, hRu⟩ := (H.out.ext hdr.below).cells
  obtain ⟨adQ, LB, LC, rfl, pq, l1, l2, hrow⟩ := hRu.atRow hqr
  rw [HL.out] at pq l1 l2 hrow
  clear hdr
  by_cases hlt : i < L.length
  ·have Hi := hid (any_take_succ (p := ppR T M) hlt)
   obtain ⟨adL, rfl, pl⟩ := hrow.at1 hlt
   obtain ⟨hr0, hr1⟩ := Hrl.out _ (List.getElem_mem hlt)
   obtain ⟨r, Hr⟩ : ∃ r, Hid (L[i] = r) := ⟨_, hid rfl⟩
   rw [Hr.out] at pl hr0 hr1
   have hrl : r.toNat < T.rules.length := by omega
   have HbR := hid (Hbody.out _ hrl)
   have Hbo := hid (bodyAt_at hrl)
   obtain ⟨adR, C, cC, rfl, p0, p1, p2, d1, d2, hbody⟩ := hR.atRule hrl
   generalize T.rules[r.toNat].body = bo at *
   have Hst := hid (support15_same _ b T l RL (H.out.ext Hdr.out.below) r hr0 hr1)
   have Hsq : Hid (∀ n, Calls Tryz.prog 117 #[.pointer (some ⟨b, 0, none⟩), .int .i64 r] (wr.drewN n) (fun e w' => e = .returned (.bool (supB T r)) ∧ w' = wr.drewN n)) := hid fun n => support15_same _ b T l RL ((H.out.ext Hdr.out.below).ext (ext_drewN wr n)) r hr0 hr1
   have Hall : Hid (∀ n, Calls Tryz.prog 115 #[vm, .slice C bo.length cC, .int .i64 3] (wr.drewN n) (fun e w' => e = .returned (.bool (allM M 2 bo)) ∧ ∃ m, w' = (wr.drewN n).drewN m)) := hid fun n => all15_any _ vm (.slice C bo.length cC) M bo ((Hm.out.ext (scR_mono _) Hdr.out.below).ext (scR_mono _) (ext_drewN wr n)) ⟨C, cC, rfl, d1, d2, hbody.ext (scR_mono _) (ext_drewN wr n)⟩ H8.out HbR.out 3 2 (by decide) (by decide)
   have Hp : Hid (ppR T M r = (supB T r && allM M 2 bo)) := hid (by rw [← Hbo.out]; rfl)
   clear hF hR hB hl hRu hrow hbody
   cases hd : (L.take i).any (ppR T M) with
   | true =>
    have Hd := hid hd
    clear hd
    go_wp2
    go_quiet (fail)
    go_wp2
    go_roundw
    case rel => exact ⟨i + 1, by omega, by go_num, by rw [Hi.out, Hd.out]; rfl, Hdr.out.step _⟩
    case measure => simp [intOf]; omega
   | false =>
   have Hd := hid hd
   clear hd
   cases hs : supB T r with
   | false =>
    have Hp2 : Hid (ppR T M r = false) := hid (by rw [Hp.out, hs]; rfl)
    rw [hs] at Hsq
    clear hs
    go_wp2
    go_quiet ((go_at_call 117; exact Calls.quiet_of_same (Hsq.out _)))
    go_wp2
    go_roundw
    case rel => exact ⟨i + 1, by omega, by go_num, by rw [Hi.out, Hd.out, Hr.out, Hp2.out]; rfl, Hdr.out.step _⟩
    case measure => simp [intOf]; omega
   | true =>
    rw [hs] at Hsq
    have Hp2 : Hid (ppR T M r = allM M 2 bo) := hid (by rw [Hp.out, hs]; rfl)
    clear hs
    generalize hal : allM M 2 bo = al at *
    clear hal
    go_wp2
    go_quiet ((first | (go_at_call 117; exact Calls.quiet_of_same (Hsq.out _)) | (go_at_call 115; exact Calls.quiet_of (Hall.out _))))
    go_wp2
    go_roundw
    case rel => exact ⟨i + 1, by omega, by go_num, by rw [Hi.out, Hd.out, Hr.out, Hp2.out]; cases al <;> rfl, Hdr.out.step _⟩
    case measure => simp [intOf]; omega
  ·have Hany : Hid ((L.take i).any (ppR T M) = L.any (ppR T M)) := hid (any_take_all (show L.length ≤ i by omega))
   rw [Hany.out]
   obtain ⟨adF, FB, FC, rfl, pf, f1, f2, hfrow⟩ := hF.atRow hqf
   rw [HFO.out] at pf f1 f2 hfrow
   have Hall := hid (all15_any wr vm (.slice FB FO.length FC) M FO (Hm.out.ext (scR_mono _) Hdr.out.below) ⟨FB, FC, rfl, f1, f2, hfrow⟩ H8.out Hfo.out 2 1 (by decide) (by decide))
   clear hF hR hB hl hRu hrow hfrow Hany
   cases hd : L.any (ppR T M) with
   | false =>
    rw [hd] at HQ
    clear hd
    go_wp2_with fail
    go_ret
    exact Fin HQ ⟨rfl, Hdr.out⟩
   | true =>
   rw [hd] at HQ
   clear hd
   simp only [Bool.true_and] at HQ
   cases ha : allM M 1 FO with
   | false =>
    rw [ha] at HQ Hall
    clear ha
    go_wp2_with (go_at_call 115; refine Hall.out.mono ?_; rintro e w' ⟨rfl, m9, rfl⟩)
    go_ret
    exact Fin HQ ⟨rfl, Hdr.out.step _⟩
   | true =>
   rw [ha] at HQ Hall
   clear ha
   simp only [Bool.true_and] at HQ
   go_wp2_with (go_at_call 115; refine Hall.out.mono ?_; rintro e w' ⟨rfl, m9, rfl⟩)
   clear Hall pf pq c1 c2 c3 c4 c5
   go_loopw [9] (fun vo wr => ∃ i : Nat, i ≤ FO.length ∧ vo = .int .i64 i ∧ Hid ((FO.take i).any (fun f => (row RL f).any (ppS T RL M q)) = false) ∧ Drew w wr) (fun vo _ => FO.length - (intOf vo).toNat)
   case atStart => exact ⟨0, Nat.zero_le _, rfl, hid (by simp), Hdr.out.step _⟩
   case round =>
    clear Hdr
    obtain ⟨i, hi, rfl, hno, hdr⟩ := hrel
    have Hdr := hid hdr
    obtain ⟨AF, cF, AR, cR, AB, cB, Al, cl, ARu, cRu, c1, c2, c3, c4, c5, hF, hR, hB, hl, hRu⟩ := (H.out.ext hdr.below).cells
    obtain ⟨adQ, LB, LC, rfl, pq, l1, l2, hrow⟩ := hRu.atRow hqr
    obtain ⟨adF, FB, FC, rfl, pf, f1, f2, hfrow⟩ := hF.atRow hqf
    rw [HFO.out] at pf f1 f2 hfrow
    clear hdr
    by_cases hlt : i < FO.length
    ·have Hi := hid (any_take_succ (p := (fun f => (row RL f).any (ppS T RL M q))) hlt)
     have Hhit := hid (any_hit (p := (fun f => (row RL f).any (ppS T RL M q))) hlt)
     obtain ⟨adX, rfl, px⟩ := hfrow.at1 hlt
     obtain ⟨hx0, hx1⟩ := Hfr.out _ (List.getElem_mem hlt)
     obtain ⟨x, Hx⟩ : ∃ x, Hid (FO[i] = x) := ⟨_, hid rfl⟩
     rw [Hx.out] at px hx0 hx1
     have hxl : x.toNat < RL.length := by omega
     have HrowX : Hid (row RL x = RL[x.toNat]) := hid (row_at hx0 hx1)
     have HrlX := hid (Hrlf.out _ hxl)
     obtain ⟨adQ', XB, XC, e', px2, x1, x2, hxrow⟩ := hRu.atRow hxl
     cases e'
     generalize hLX : RL[x.toNat] = LX at *
     have HLX := hid hLX
     clear hLX
     clear hF hR hB hl hRu hrow hfrow
     go_wp2
     go_quiet (fail)
     go_wp2
     obtain ⟨wo, rfl⟩ : ∃ wo : World, wo = wr := ⟨_, rfl⟩
     have hdr1 := Hdr.out.step
     clear c1 c2 c3 c4 c5 px px2 pf pq
     go_loopw [11] (fun vi wr => ∃ j : Nat, j ≤ LX.length ∧ vi = .int .i64 j ∧ Hid ((LX.take j).any (ppS T RL M q) = false) ∧ Drew wo wr) (fun vi _ => LX.length - (intOf vi).toNat)
     case atStart => exact ⟨0, Nat.zero_le _, rfl, hid (by simp), ⟨_, rfl⟩⟩
     case round =>
      obtain ⟨j, hj, rfl, hno2, hdr⟩ := hrel
      have Hdro := hid hdr
      replace hxrow := hxrow.ext (scR_mono _) hdr.below
      replace hdr := Hdr.out.trans hdr
      have Hdr2 := hid hdr
      obtain ⟨AF, cF, AR, cR, AB, cB, Al, cl, ARu, cRu, c1, c2, c3, c4, c5, hF, hR, hB, hl, hRu⟩ := (H.out.ext hdr.below).cells
      obtain ⟨adQ, LB, LC, rfl, pq, l1, l2, hrow⟩ := hRu.atRow hqr
      clear hdr
      by_cases hlt2 : j < LX.length
      ·have Hj := hid (any_take_succ (p := ppS T RL M q) hlt2)
       have Hhit2 := hid (any_hit (p := ppS T RL M q) hlt2)
       obtain ⟨adL, rfl, pl⟩ := hxrow.at1 hlt2
       obtain ⟨hs0, hs1⟩ := HrlX.out _ (List.getElem_mem hlt2)
       obtain ⟨s, Hs9⟩ : ∃ s, Hid (LX[j] = s) := ⟨_, hid rfl⟩
       rw [Hs9.out] at pl hs0 hs1
       have hsl : s.toNat < T.rules.length := by omega
       have HbR := hid (Hbody.out _ hsl)
       have Hbo := hid (bodyAt_at hsl)
       obtain ⟨adR, C, cC, rfl, p0, p1, p2, d1, d2, hbody⟩ := hR.atRule hsl
       generalize T.rules[s.toNat].body = bo at *
       have Hany : Hid (∀ n, Calls Tryz.prog 116 #[vm, .slice C bo.length cC, .int .i64 4] (wr.drewN n) (fun e w' => e = .returned (.bool (anyM M 3 bo)) ∧ ∃ m, w' = (wr.drewN n).drewN m)) := hid fun n => any15_any _ vm (.slice C bo.length cC) M bo ((Hm.out.ext (scR_mono _) Hdr2.out.below).ext (scR_mono _) (ext_drewN wr n)) ⟨C, cC, rfl, d1, d2, hbody.ext (scR_mono _) (ext_drewN wr n)⟩ H8.out HbR.out 4 3 (by decide) (by decide)
       have Hbe : Hid (∀ n, Calls Tryz.prog 118 #[.pointer (some ⟨b, 0, none⟩), vm, .int .i64 q, .int .i64 s] (wr.drewN n) (fun e w' => e = .returned (.bool ((row RL q).any (ppB T M s))) ∧ ∃ m, w' = (wr.drewN n).drewN m)) := hid fun n => beaten15_any _ b T F l RL M vm ((H.out.ext Hdr2.out.below).ext (ext_drewN wr n)) ((Hm.out.ext (scR_mono _) Hdr2.out.below).ext (scR_mono _) (ext_drewN wr n)) Hv.out q h0 hq s
       have Hp : Hid (ppS T RL M q s = (!anyM M 3 bo && !(row RL q).any (ppB T M s))) := hid (by rw [← Hbo.out]; rfl)
       clear hF hR hB hl hRu hrow hxrow hbody
       cases ha : anyM M 3 bo with
       | true =>
        have Hp2 : Hid (ppS T RL M q s = false) := hid (by rw [Hp.out, ha]; rfl)
        rw [ha] at Hany
        clear ha
        go_wp2
        go_quiet ((go_at_call 116; exact Calls.quiet_of (Hany.out _)))
        go_wp2
        go_roundw
        case rel => exact ⟨j + 1, by omega, by go_num, hid (by rw [Hj.out, hno2.out, Hs9.out, Hp2.out]; rfl), Hdro.out.step _⟩
        case measure => simp [intOf]; omega
       | false =>
       rw [ha] at Hany
       cases hbb : (row RL q).any (ppB T M s) with
       | true =>
        have Hp2 : Hid (ppS T RL M q s = false) := hid (by rw [Hp.out, ha, hbb]; rfl)
        rw [hbb] at Hbe
        clear ha hbb
        go_wp2
        go_quiet ((first | (go_at_call 116; exact Calls.quiet_of (Hany.out _)) | (go_at_call 118; exact Calls.quiet_of (Hbe.out _))))
        go_wp2
        go_roundw
        case rel => exact ⟨j + 1, by omega, by go_num, hid (by rw [Hj.out, hno2.out, Hs9.out, Hp2.out]; rfl), Hdro.out.step _⟩
        case measure => simp [intOf]; omega
       | false =>
        have Hp2 : Hid (ppS T RL M q s = true) := hid (by rw [Hp.out, ha, hbb]; rfl)
        have Hfin : Hid (FO.any (fun f => (row RL f).any (ppS T RL M q)) = true) := hid (Hhit.out (by rw [Hx.out, HrowX.out]; exact Hhit2.out (by rw [Hs9.out, Hp2.out])))
        rw [Hfin.out] at HQ
        rw [hbb] at Hbe
        clear ha hbb
        go_wp2
        go_quiet ((first | (go_at_call 116; exact Calls.quiet_of (Hany.out _)) | (go_at_call 118; exact Calls.quiet_of (Hbe.out _))))
        go_wp2
        go_ret
        exact Fin HQ ⟨rfl, Hdr2.out.step _⟩
      ·have Hany : Hid (LX.any (ppS T RL M q) = false) := hid (by rw [← any_take_all (show LX.length ≤ j by omega), hno2.out])
       clear hF hR hB hl hRu hrow hxrow
       go_wp2
       go_roundw
       case rel => exact ⟨i + 1, by omega, by go_num, hid (by rw [Hi.out, hno.out, Hx.out, HrowX.out, Hany.out]; rfl), Hdr2.out⟩
       case measure => simp [intOf]; omega
    ·have Hany : Hid (FO.any (fun f => (row RL f).any (ppS T RL M q)) = false) := hid (by rw [← any_take_all (show FO.length ≤ i by omega), hno.out])
     rw [Hany.out] at HQ
     clear hF hR hB hl hRu hrow hfrow
     go_wp2
     go_ret
     exact Fin HQ ⟨rfl, Hdr.out⟩

set_option maxRecDepth 100000 in
set_option maxHeartbeats 6400000 in
theorem minusd15_any (w : World) (b : Nat) (T : Th) (F : List Bool) (l : List Int) (RL : List (List Int)) (M : List Nat) (vm : Value) (h : NR w b T l RL) (hm : RdMk w vm M) (hv : NVal T F RL M) (q : Int) (h0 : 0 ≤ q) (hq : q < T.foes.length) :
  Calls Tryz.prog 101 #[.pointer (some ⟨b, 0, none⟩), vm, .int .i64 q] w (Dr w (minusPB T RL M q)) := by
 refine dr_of ?_
 have H := hid h
 have Hm := hid hm
 have Hv := hid hv
 have hqr : q.toNat < RL.length := by have := hv.nR; omega
 have hqr2 : q < (RL.length : Int) := by have := hv.nR; omega
 have hqf : q.toNat < T.foes.length := by omega
 have Hrow : Hid (row RL q = RL[q.toNat]) := hid (row_at h0 hqr2)
 have Hrl : Hid (∀ r ∈ RL[q.toNat], 0 ≤ r ∧ r < (T.rules.length : Int)) := hid (hv.rl _ hqr)
 have Hbody : Hid (∀ r (h : r < T.rules.length), ∀ x ∈ T.rules[r].body, 0 ≤ x ∧ x < (M.length : Int)) := hid (fun r h x hx => by rw [hv.nM]; exact hv.body r h x hx)
 have H8 := hid hv.m8
 refine post_gen fun Q HQ => ?_
 have Hfo : Hid (∀ x ∈ T.foes[q.toNat], 0 ≤ x ∧ x < (M.length : Int)) := hid (fun x hx => by have := hv.fo _ hqf x hx; rw [hv.nM]; exact this)
 have Hfr : Hid (∀ x ∈ T.foes[q.toNat], 0 ≤ x ∧ x < (RL.length : Int)) := hid (fun x hx => by have := hv.fo _ hqf x hx; rw [hv.nR]; exact this)
 have Hrlf : Hid (∀ f (h : f < RL.length), ∀ r ∈ RL[f], 0 ≤ r ∧ r < (T.rules.length : Int)) := hid hv.rl
 have hrowF : row T.foes q = T.foes[q.toNat] := row_at h0 hq
 have hqm : q.toNat < M.length := by have := hv.nM; omega
 have hqm2 : q < (M.length : Int) := by have := hv.nM; omega
 have Hbit := hid (fun w => bit15_plain 2 1 (by decide) (by decide) w)
 have Hmm := hid (bit_mask M[q.toNat] (hv.m8 _ (List.getElem_mem hqm)) 1 (by decide))
 have Hmn := hid (bit_masks M[q.toNat] (hv.m8 _ (List.getElem_mem hqm)) 1 (by decide))
 have Hme : Hid (hasM M 1 q = M[q.toNat].testBit 1) := by simp [Hid, hasM, hqm]
 obtain ⟨AM, cM, rfl, hcM, hbM, hrM⟩ := id hm
 obtain ⟨adM, rfl, pm⟩ := hrM.at1 hqm
 have Hs : Hid (minusPB T RL M q = (hasM M 1 q && (!RL[q.toNat].any (mpR T M) || (anyM M 0 T.foes[q.toNat] || T.foes[q.toNat].any fun f => (row RL f).any (mpS T RL M q))))) := hid (by unfold minusPB; rw [hrowF, Hrow.out]; rfl)
 rw [Hs.out] at HQ
 clear hrM hrowF
 clear h hm hv
 go_enter Tryz.func101, Tryz.ntmps101
 generalize M[q.toNat] = y at *
 generalize hp : 2 ^ 1 = z at *
 clear hp
 cases hs : y.testBit 1 with
 | false =>
  have hb1 : (bits .and .u8 (y : Int) (z : Int) == 0) = true := by have := Hmn.out; rw [hs] at this; exact this
  rw [Hme.out, hs] at HQ
  clear hs
  go_wp2
  go_quiet ((go_at_call 82; exact Calls.quiet_of_same (Hbit.out _)))
  go_wp2
  go_ret
  exact Fin HQ ⟨rfl, _, rfl⟩
 | true =>
 have hb1 : (bits .and .u8 (y : Int) (z : Int) == 0) = false := by have := Hmn.out; rw [hs] at this; exact this
 rw [Hme.out, hs] at HQ
 clear hs
 simp only [Bool.true_and] at HQ
 go_wp2
 go_quiet ((go_at_call 82; exact Calls.quiet_of_same (Hbit.out _)))
 go_wp2
 clear hb1 Hbit Hmm Hmn Hme pm
 generalize hvm : Value.slice (some adM) M.length cM = vm at *
 clear hvm
 generalize hL : RL[q.toNat] = L at *
 have HL := hid hL
 clear hL
 generalize hFO : T.foes[q.toNat] = FO at *
 have HFO := hid hFO
 clear hFO
 go_loopw [8, 7] (fun v8 v7 wr => ∃ i : Nat, i ≤ L.length ∧ v8 = .int .i64 i ∧ v7 = .bool (!(L.take i).any (mpR T M)) ∧ Drew w wr) (fun v8 _ _ => L.length - (intOf v8).toNat)
 case atStart => exact ⟨0, Nat.zero_le _, rfl, rfl, ⟨_, rfl⟩⟩
 case round =>
  obtain ⟨i, hi, rfl, rfl, hdr⟩ := hrel
  have Hdr := hid hdr
  obtain ⟨AF, cF, AR, cR, AB, cB, Al, cl, ARu, cRu, c1, c2, c3, c4, c5, hF, hR, hB, hl, hRu⟩ := (H.out.ext hdr.below).cells
  obtain ⟨adQ, LB, LC, rfl, pq, l1, l2, hrow⟩ := hRu.atRow hqr
  rw [HL.out] at pq l1 l2 hrow
  clear hdr
  by_cases hlt : i < L.length
  ·have Hi := hid (any_take_succ (p := mpR T M) hlt)
   obtain ⟨adL, rfl, pl⟩ := hrow.at1 hlt
   obtain ⟨hr0, hr1⟩ := Hrl.out _ (List.getElem_mem hlt)
   obtain ⟨r, Hr⟩ : ∃ r, Hid (L[i] = r) := ⟨_, hid rfl⟩
   rw [Hr.out] at pl hr0 hr1
   have hrl : r.toNat < T.rules.length := by omega
   have HbR := hid (Hbody.out _ hrl)
   have Hbo := hid (bodyAt_at hrl)
   obtain ⟨adR, C, cC, rfl, p0, p1, p2, d1, d2, hbody⟩ := hR.atRule hrl
   generalize T.rules[r.toNat].body = bo at *
   have Hst := hid (support15_same _ b T l RL (H.out.ext Hdr.out.below) r hr0 hr1)
   have Hall := hid (any15_any wr vm (.slice C bo.length cC) M bo (Hm.out.ext (scR_mono _) Hdr.out.below) ⟨C, cC, rfl, d1, d2, hbody⟩ H8.out HbR.out 4 3 (by decide) (by decide))
   have Hp : Hid (mpR T M r = (supB T r && !anyM M 3 bo)) := hid (by rw [← Hbo.out]; rfl)
   clear hF hR hB hl hRu hrow hbody
   cases hd : (L.take i).any (mpR T M) with
   | true =>
    have Hd := hid hd
    clear hd
    go_wp2_with fail
    go_roundw
    case rel => exact ⟨i + 1, by omega, by go_num, by rw [Hi.out, Hd.out]; rfl, Hdr.out⟩
    case measure => simp [intOf]; omega
   | false =>
   have Hd := hid hd
   clear hd
   cases hs : supB T r with
   | false =>
    have Hp2 : Hid (mpR T M r = false) := hid (by rw [Hp.out, hs]; rfl)
    rw [hs] at Hst
    clear hs
    go_wp2_with (go_at_call 117; refine Hst.out.mono ?_; rintro e w' ⟨rfl, hw9⟩; rw [hw9]; clear hw9 w')
    go_roundw
    case rel => exact ⟨i + 1, by omega, by go_num, by rw [Hi.out, Hd.out, Hr.out, Hp2.out]; rfl, Hdr.out⟩
    case measure => simp [intOf]; omega
   | true =>
    rw [hs] at Hst
    have Hp2 : Hid (mpR T M r = !anyM M 3 bo) := hid (by rw [Hp.out, hs]; rfl)
    clear hs
    generalize hal : anyM M 3 bo = al at *
    clear hal
    go_wp2_with (first | (go_at_call 117; refine Hst.out.mono ?_; rintro e w' ⟨rfl, hw9⟩; rw [hw9]; clear hw9 w') | (go_at_call 116; refine Hall.out.mono ?_; rintro e w' ⟨rfl, m9, rfl⟩))
    go_roundw
    case rel => exact ⟨i + 1, by omega, by go_num, by rw [Hi.out, Hd.out, Hr.out, Hp2.out]; cases al <;> rfl, Hdr.out.step _⟩
    case measure => simp [intOf]; omega
  ·have Hany : Hid ((L.take i).any (mpR T M) = L.any (mpR T M)) := hid (any_take_all (show L.length ≤ i by omega))
   rw [Hany.out]
   obtain ⟨adF, FB, FC, rfl, pf, f1, f2, hfrow⟩ := hF.atRow hqf
   rw [HFO.out] at pf f1 f2 hfrow
   have Hall := hid (any15_any wr vm (.slice FB FO.length FC) M FO (Hm.out.ext (scR_mono _) Hdr.out.below) ⟨FB, FC, rfl, f1, f2, hfrow⟩ H8.out Hfo.out 1 0 (by decide) (by decide))
   clear hF hR hB hl hRu hrow hfrow Hany
   cases hd : L.any (mpR T M) with
   | false =>
    rw [hd] at HQ
    clear hd
    go_wp2_with fail
    go_ret
    exact Fin HQ ⟨rfl, Hdr.out⟩
   | true =>
   rw [hd] at HQ
   clear hd
   simp only [Bool.not_true, Bool.false_or] at HQ
   cases ha : anyM M 0 FO with
   | true =>
    rw [ha] at HQ Hall
    clear ha
    go_wp2_with (go_at_call 116; refine Hall.out.mono ?_; rintro e w' ⟨rfl, m9, rfl⟩)
    go_ret
    exact Fin HQ ⟨rfl, Hdr.out.step _⟩
   | false =>
   rw [ha] at HQ Hall
   clear ha
   simp only [Bool.false_or] at HQ
   go_wp2_with (go_at_call 116; refine Hall.out.mono ?_; rintro e w' ⟨rfl, m9, rfl⟩)
   clear Hall pf pq c1 c2 c3 c4 c5
   go_loopw [10] (fun vo wr => ∃ i : Nat, i ≤ FO.length ∧ vo = .int .i64 i ∧ Hid ((FO.take i).any (fun f => (row RL f).any (mpS T RL M q)) = false) ∧ Drew w wr) (fun vo _ => FO.length - (intOf vo).toNat)
   case atStart => exact ⟨0, Nat.zero_le _, rfl, hid (by simp), Hdr.out.step _⟩
   case round =>
    clear Hdr
    obtain ⟨i, hi, rfl, hno, hdr⟩ := hrel
    have Hdr := hid hdr
    obtain ⟨AF, cF, AR, cR, AB, cB, Al, cl, ARu, cRu, c1, c2, c3, c4, c5, hF, hR, hB, hl, hRu⟩ := (H.out.ext hdr.below).cells
    obtain ⟨adQ, LB, LC, rfl, pq, l1, l2, hrow⟩ := hRu.atRow hqr
    obtain ⟨adF, FB, FC, rfl, pf, f1, f2, hfrow⟩ := hF.atRow hqf
    rw [HFO.out] at pf f1 f2 hfrow
    clear hdr
    by_cases hlt : i < FO.length
    ·have Hi := hid (any_take_succ (p := (fun f => (row RL f).any (mpS T RL M q))) hlt)
     have Hhit := hid (any_hit (p := (fun f => (row RL f).any (mpS T RL M q))) hlt)
     obtain ⟨adX, rfl, px⟩ := hfrow.at1 hlt
     obtain ⟨hx0, hx1⟩ := Hfr.out _ (List.getElem_mem hlt)
     obtain ⟨x, Hx⟩ : ∃ x, Hid (FO[i] = x) := ⟨_, hid rfl⟩
     rw [Hx.out] at px hx0 hx1
     have hxl : x.toNat < RL.length := by omega
     have HrowX : Hid (row RL x = RL[x.toNat]) := hid (row_at hx0 hx1)
     have HrlX := hid (Hrlf.out _ hxl)
     obtain ⟨adQ', XB, XC, e', px2, x1, x2, hxrow⟩ := hRu.atRow hxl
     cases e'
     generalize hLX : RL[x.toNat] = LX at *
     have HLX := hid hLX
     clear hLX
     clear hF hR hB hl hRu hrow hfrow
     go_wp2
     go_quiet (fail)
     go_wp2
     obtain ⟨wo, rfl⟩ : ∃ wo : World, wo = wr := ⟨_, rfl⟩
     have hdr1 := Hdr.out.step
     clear c1 c2 c3 c4 c5 px px2 pf pq
     go_loopw [12] (fun vi wr => ∃ j : Nat, j ≤ LX.length ∧ vi = .int .i64 j ∧ Hid ((LX.take j).any (mpS T RL M q) = false) ∧ Drew wo wr) (fun vi _ => LX.length - (intOf vi).toNat)
     case atStart => exact ⟨0, Nat.zero_le _, rfl, hid (by simp), ⟨_, rfl⟩⟩
     case round =>
      obtain ⟨j, hj, rfl, hno2, hdr⟩ := hrel
      have Hdro := hid hdr
      replace hxrow := hxrow.ext (scR_mono _) hdr.below
      replace hdr := Hdr.out.trans hdr
      have Hdr2 := hid hdr
      obtain ⟨AF, cF, AR, cR, AB, cB, Al, cl, ARu, cRu, c1, c2, c3, c4, c5, hF, hR, hB, hl, hRu⟩ := (H.out.ext hdr.below).cells
      obtain ⟨adQ, LB, LC, rfl, pq, l1, l2, hrow⟩ := hRu.atRow hqr
      clear hdr
      by_cases hlt2 : j < LX.length
      ·have Hj := hid (any_take_succ (p := mpS T RL M q) hlt2)
       have Hhit2 := hid (any_hit (p := mpS T RL M q) hlt2)
       obtain ⟨adL, rfl, pl⟩ := hxrow.at1 hlt2
       obtain ⟨hs0, hs1⟩ := HrlX.out _ (List.getElem_mem hlt2)
       obtain ⟨s, Hs9⟩ : ∃ s, Hid (LX[j] = s) := ⟨_, hid rfl⟩
       rw [Hs9.out] at pl hs0 hs1
       have hsl : s.toNat < T.rules.length := by omega
       have Hbe := hid (stands15_any wr b T F l RL M vm (H.out.ext Hdr2.out.below) (Hm.out.ext (scR_mono _) Hdr2.out.below) Hv.out q h0 hq s hs0 hs1)
       have Hp : Hid (mpS T RL M q s = (wholeB T M 2 s && !(row RL q).any (mpB T M s))) := hid rfl
       rw [← Hp.out] at Hbe
       clear hF hR hB hl hRu hrow hxrow
       cases hbb : mpS T RL M q s with
       | false =>
        have Hp2 := hid hbb
        rw [hbb] at Hbe
        clear hbb
        go_wp2_with (go_at_call 119; refine Hbe.out.mono ?_; rintro e w' ⟨rfl, m9, rfl⟩)
        go_roundw
        case rel => exact ⟨j + 1, by omega, by go_num, hid (by rw [Hj.out, hno2.out, Hs9.out, Hp2.out]; rfl), Hdro.out.step _⟩
        case measure => simp [intOf]; omega
       | true =>
        have Hp2 := hid hbb
        have Hfin : Hid (FO.any (fun f => (row RL f).any (mpS T RL M q)) = true) := hid (Hhit.out (by rw [Hx.out, HrowX.out]; exact Hhit2.out (by rw [Hs9.out, Hp2.out])))
        rw [Hfin.out] at HQ
        rw [hbb] at Hbe
        clear hbb
        go_wp2_with (go_at_call 119; refine Hbe.out.mono ?_; rintro e w' ⟨rfl, m9, rfl⟩)
        go_ret
        exact Fin HQ ⟨rfl, Hdr2.out.step _⟩
      ·have Hany : Hid (LX.any (mpS T RL M q) = false) := hid (by rw [← any_take_all (show LX.length ≤ j by omega), hno2.out])
       clear hF hR hB hl hRu hrow hxrow
       go_wp2
       go_roundw
       case rel => exact ⟨i + 1, by omega, by go_num, hid (by rw [Hi.out, hno.out, Hx.out, HrowX.out, Hany.out]; rfl), Hdr2.out⟩
       case measure => simp [intOf]; omega
    ·have Hany : Hid (FO.any (fun f => (row RL f).any (mpS T RL M q)) = false) := hid (by rw [← any_take_all (show FO.length ≤ i by omega), hno.out])
     rw [Hany.out] at HQ
     clear hF hR hB hl hRu hrow hfrow
     go_wp2
     go_ret
     exact Fin HQ ⟨rfl, Hdr.out⟩

end Go.Proofs.Lx
