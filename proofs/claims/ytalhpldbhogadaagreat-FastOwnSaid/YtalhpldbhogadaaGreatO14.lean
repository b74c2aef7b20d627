/- Parts of the proof: Ek, El, En. Contracts of the engine's onNoD and onLateNoD. Printed by gen_ei.py. No condition. -/
import Derived.Test.YtalhpldbhogadaaGreatO13
import Derived.RangeFuncNested
import Derived.RangeFuncBound
import Derived.RangeFuncCalls
import Derived.RangeFuncLeaves
import Derived.Shelf.Abstract
import Derived.Shelf.RegionOpen
import Derived.OwnWalkIn
import Derived.TacticsInMore
import Derived.LoopNIn
import Derived.LoopIn
namespace Go.Proofs.Lx
open Go Go.RowKit Go.Proofs.Tj
set_option linter.unusedVariables false
set_option linter.unusedSimpArgs false


set_option maxRecDepth 100000 in
set_option maxHeartbeats 6400000 in
theorem eonNoD_any (w W0 : World) (G : Gh) (S : Stc) (T : Th) (D : Dyn) (h : Eng w W0 G S T D) (hok : SOk S) (hti : TI S.n D) (q : Nat) (hr : q < S.n) (hP : S.P ≤ 65536) :
  Calls Tryz.prog 51 #[.pointer (some ⟨G.b, 0, none⟩), .int .i64 (q : Int)] w (Ret (Stp W0 G S T (onNoDD S D q))) := by
 have Hok := hid hok
 have Hti := hid hti
 obtain ⟨vT, h⟩ := h
 have hn := h.st.n4
 have hm := h.st.m4
 have Hhd := hid h.st.hdn
 unfold Stp
 refine post_gen fun Q HQ => ?_
 have H := hid h
 have ehinn := h.hInn
 obtain ⟨Ainn, cAinn, hA0, hA1inn, hleninn⟩ := h.hdInn hr
 have HAinn := hid hA0
 clear hA0
 have HD : Hid (onNoDD S D q = lookD ((S.inn q).foldl (noDr S) D) q) := hid rfl
 rw [HD.out] at HQ
 clear hok hti h
 go_enter Tryz.func51, Tryz.ntmps51
 go_wp2
 go_loopw [15] (fun v15 wr => ∃ k : Nat, k ≤ (S.inn q).length ∧ v15 = .int .i64 k ∧ Eng wr W0 G S T (((S.inn q).take k).foldl (noDr S) D)) (fun v15 _ => (S.inn q).length - (intOf v15).toNat)
 case atStart => exact ⟨0, Nat.zero_le _, rfl, vT, H.out⟩
 case round =>
  obtain ⟨k, hk, rfl, he⟩ := hrel
  by_cases hlt : k < (S.inn q).length
  ·have hrm := Hok.out.inn q hr _ (List.getElem_mem hlt)
   obtain ⟨x, Hx⟩ : ∃ x, Hid ((S.inn q)[k] = x) := ⟨_, hid rfl⟩
   have Hf := hid (foldl_take (noDr S) D hlt)
   rw [Hx.out] at hrm Hf
   have Hte := hid (Hti.out.steps (steps_foldl ((S.inn q).take k) D fun x hx D => steps_noDr (Hhd.out x (Hok.out.inn q hr x (List.mem_of_mem_take hx))) D))
   obtain ⟨E, HE⟩ : ∃ E, Hid (((S.inn q).take k).foldl (noDr S) D = E) := ⟨_, hid rfl⟩
   rw [HE.out] at he Hf Hte
   obtain ⟨v2, h2⟩ := he
   obtain ⟨g, rfl, hc⟩ := h2.atInn hr HAinn.out hlt
   rw [Hx.out] at hc
   obtain ⟨gR, BR, c1, c2, eR, kk⟩ := h2.rule hrm
   have e2 := h2.hR
   rw [eR] at e2
   have Hkk := hid kk
   have HeR := hid eR
   have hyn := Hhd.out x hrm
   obtain ⟨y, Hy⟩ : ∃ y, Hid (S.head x = y) := ⟨_, hid rfl⟩
   rw [Hy.out] at hyn
   obtain ⟨kd, Hkd⟩ : ∃ kd, Hid (S.kind x = kd) := ⟨_, hid rfl⟩
   obtain ⟨k0, _, _⟩ := Hkk.out wr h2.sp.old
   rw [Hkd.out] at k0
   clear eR kk
   have HP2 : Hid ((strR S x && !E.deadD x) = false → noDr S E x = E) := hid fun e => by unfold noDr; rw [if_neg (by rw [e]; simp)]
   have HP0 : Hid ((strR S x && !E.deadD x) = true → noDr S E x = noDr2 (tick (decStrict (killS S E x) y) 1) y) := hid fun e => by unfold noDr; rw [if_pos e, Hy.out]
   obtain ⟨b0, Hb0⟩ : ∃ b, Hid (strR S x = b) := ⟨_, hid rfl⟩
   have hb0 : (kd != 1) = !b0 := by rw [← Hb0.out, ← Hkd.out]; rfl
   cases b0 with
   | false =>
    have HDx := hid (HP2.out (by rw [Hb0.out]; rfl))
    have H2 := hid h2
    clear h2
    simp only [Bool.not_false] at hb0
    go_wp2
    go_roundw
    case rel => exact ⟨k + 1, by omega, by go_num, by rw [Hf.out, HDx.out]; exact ⟨v2, H2.out⟩⟩
    case measure => simp [intOf]; omega
   | true =>
    simp only [Bool.not_true] at hb0
    have e12 := h2.hDeadD
    obtain ⟨bd, hbd⟩ : ∃ bd, E.deadD x = bd := ⟨_, rfl⟩
    cases bd with
    | true =>
     have HDx := hid (HP2.out (by rw [Hb0.out, hbd]; rfl))
     have Hk := hid (ekillS_no wr W0 G S T E ⟨v2, h2⟩ x hrm hbd)
     have H2 := hid h2
     clear h2 hbd
     go_wp2_with fail
     refine Hk.out.mono ?_
     rintro e w5 ⟨_, rfl, rfl, rfl⟩
     clear hc
     go_wp2
     go_roundw
     case rel => exact ⟨k + 1, by omega, by go_num, by rw [Hf.out, HDx.out]; exact ⟨v2, H2.out⟩⟩
     case measure => simp [intOf]; omega
    | false =>
     have HDx := hid (HP0.out (by rw [Hb0.out, hbd]; rfl))
     have Hk := hid (ekillS_yes wr W0 G S T E ⟨v2, h2⟩ x hrm hbd)
     unfold StpB at Hk
     have HtK := hid (Hte.out.steps (steps_killS S E x))
     clear h2 hbd
     generalize killS S E x = EK at *
     go_wp2_with fail
     refine Hk.out.mono ?_
     rintro e w5 ⟨_, rfl, rfl, v5, h5⟩
     clear hc Hk e2 k0 e12
     have e2 := h5.hR
     rw [HeR.out] at e2
     obtain ⟨_, k1, _⟩ := Hkk.out w5 h5.sp.old
     rw [Hy.out] at k1
     have e14 := h5.hStrict; have c14 := h5.rStrict hyn; have f14 := h5.fStrict y
     have h6 : EngV (w5.setCell ⟨G.g .strict, y, none⟩ (.int .i64 (wrap64 (EK.strict y - 1)))) W0 G S T (decStrict EK y) v5 := h5.wStrict y _
     have e8 := h6.hUpd; have f8 := h6.free 8
     have h7 : EngV ((w5.setCell ⟨G.g .strict, y, none⟩ (.int .i64 (wrap64 (EK.strict y - 1)))).setCell ⟨G.b, 8, none⟩ (.int .i64 (wrap64 ((decStrict EK y).upd + 1)))) W0 G S T (tick (decStrict EK y) 1) v5 := h6.wUpd _
     have e14' := h7.hStrict; have c14' := h7.rStrict hyn
     have hst : (tick (decStrict EK y) 1).strict y = wrap64 (EK.strict y - 1) := Tj.upd_same _ _ _
     rw [hst] at c14'
     have Htk := hid (HtK.out.other (F := tick (decStrict EK y) 1) rfl rfl)
     have Htell := hid (etell_any _ W0 G S T _ ⟨v5, h7⟩ Htk.out y 2 hyn (by omega) (by omega))
     unfold Stp at Htell
     have HN0 : Hid (wrap64 (EK.strict y - 1) = 0 → noDr2 (tick (decStrict EK y) 1) y = tellD (tick (decStrict EK y) 1) y 2) := hid fun e => by unfold noDr2; rw [if_pos (by rw [hst]; exact e)]
     have HN1 : Hid (¬ wrap64 (EK.strict y - 1) = 0 → noDr2 (tick (decStrict EK y) 1) y = tick (decStrict EK y) 1) := hid fun e => by unfold noDr2; rw [if_neg (by rw [hst]; exact e)]
     have H7 := hid h7
     clear h5 h6 h7 hst
     obtain ⟨bz, Hbz⟩ : ∃ bz, (wrap64 (EK.strict y - 1) == 0) = bz := ⟨_, rfl⟩
     cases bz with
     | true =>
      have HN := hid (HN0.out (by simpa using Hbz))
      go_wp2_with fail
      refine Htell.out.mono ?_
      rintro e w8 ⟨_, rfl, rfl, he8⟩
      clear e2 k1 e14 c14 f14 e8 f8 e14' c14'
      go_wp2
      go_roundw
      case rel => exact ⟨k + 1, by omega, by go_num, by rw [Hf.out, HDx.out, HN.out]; exact he8⟩
      case measure => simp [intOf]; omega
     | false =>
      have HN := hid (HN1.out (by simpa using Hbz))
      go_wp2
      go_roundw
      case rel => exact ⟨k + 1, by omega, by go_num, by rw [Hf.out, HDx.out, HN.out]; exact ⟨v5, H7.out⟩⟩
      case measure => simp [intOf]; omega
  ·have hkk : k = (S.inn q).length := by omega
   rw [hkk, List.take_length] at he
   have He := hid he
   clear he hkk
   have Hlook := hid (elook_any wr W0 G S T _ He.out (Hti.out.steps (steps_foldl (S.inn q) D fun x hx D => steps_noDr (Hhd.out x (Hok.out.inn q hr x hx)) D)) q hr)
   unfold Stp at Hlook
   clear He
   go_wp2_with fail
   refine Hlook.out.mono ?_
   rintro e w6 ⟨_, rfl, rfl, he6⟩
   go_wp2
   go_returns
   exact Fin HQ ⟨rfl, he6⟩


set_option maxRecDepth 100000 in
set_option maxHeartbeats 6400000 in
theorem eonLate_any (w W0 : World) (G : Gh) (S : Stc) (T : Th) (D : Dyn) (h : Eng w W0 G S T D) (hok : SOk S) (hti : TI S.n D) (q : Nat) (hr : q < S.n) (hP : S.P ≤ 65536) :
  Calls Tryz.prog 56 #[.pointer (some ⟨G.b, 0, none⟩), .int .i64 (q : Int)] w (Ret (Stp W0 G S T (onLateD S D q))) := by
 have Hok := hid hok
 have Hti := hid hti
 obtain ⟨vT, h⟩ := h
 have hn := h.st.n4
 have hm := h.st.m4
 have Hhd := hid h.st.hdn
 unfold Stp
 refine post_gen fun Q HQ => ?_
 have H := hid h
 obtain ⟨gF, BF, c3, c4, eF, kF, hlF, kFo⟩ := h.foes hr
 have e1 := h.hF
 rw [eF] at e1
 have cF := kF w h.sp.old
 have Hfo := hid kFo
 have Hfon := hid (h.st.fon q hr)
 clear eF kF kFo
 have HD : Hid (onLateD S D q = onNoDD S ((S.foes q).foldl openD D) q) := hid rfl
 rw [HD.out] at HQ
 clear hok hti h
 go_enter Tryz.func56, Tryz.ntmps56
 go_wp2
 go_loopw [15] (fun v15 wr => ∃ k : Nat, k ≤ (S.foes q).length ∧ v15 = .int .i64 k ∧ Eng wr W0 G S T (((S.foes q).take k).foldl (openD) D)) (fun v15 _ => (S.foes q).length - (intOf v15).toNat)
 case atStart => exact ⟨0, Nat.zero_le _, rfl, vT, H.out⟩
 case round =>
  obtain ⟨k, hk, rfl, he⟩ := hrel
  by_cases hlt : k < (S.foes q).length
  ·have hrm := Hfon.out _ (List.getElem_mem hlt)
   obtain ⟨g, rfl, hc⟩ := Hfo.out k hlt
   obtain ⟨x, Hx⟩ : ∃ x, Hid ((S.foes q)[k] = x) := ⟨_, hid rfl⟩
   have Hf := hid (foldl_take (openD) D hlt)
   rw [Hx.out] at hrm Hf hc
   have Hte := hid (Hti.out.steps (steps_foldl ((S.foes q).take k) D fun x hx D => steps_open (Hfon.out x (List.mem_of_mem_take hx)) D))
   obtain ⟨E, HE⟩ : ∃ E, Hid (((S.foes q).take k).foldl (openD) D = E) := ⟨_, hid rfl⟩
   rw [HE.out] at he Hf Hte
   obtain ⟨v2, h2⟩ := he
   have Hc := hid hc
   have hc := Hc.out wr h2.sp.old
   have e15 := h2.hBacks; have c15 := h2.rBacks hrm
   have e16 := h2.hBacked; have c16 := h2.rBacked hrm
   have e17 := h2.hOpn; have c17 := h2.rOpn hrm; have f17 := h2.fOpn x
   have HCB : Hid (openB E x = (decide (0 < E.backs x) || E.backed x)) := hid rfl
   have HC1 : Hid (openB E x = true → openD E x = lookD (tick (decOpn E x) 1) x) := hid fun e => by unfold openD; rw [if_pos e]
   have HC0 : Hid (openB E x = false → openD E x = E) := hid fun e => by unfold openD; rw [if_neg (by rw [e]; simp)]
   have h3 : EngV (wr.setCell ⟨G.g .opn, x, none⟩ (.int .i64 (wrap64 (E.opn x - 1)))) W0 G S T (decOpn E x) v2 := h2.wOpn x _
   have e8 := h3.hUpd
   have f8 := h3.free 8
   have h4 : EngV ((wr.setCell ⟨G.g .opn, x, none⟩ (.int .i64 (wrap64 (E.opn x - 1)))).setCell ⟨G.b, 8, none⟩ (.int .i64 (wrap64 ((decOpn E x).upd + 1)))) W0 G S T (tick (decOpn E x) 1) v2 := h3.wUpd _
   have Hlook := hid (elook_any _ W0 G S T _ ⟨v2, h4⟩ (Hte.out.other (F := tick (decOpn E x) 1) rfl rfl) x hrm)
   unfold Stp at Hlook
   have H2 := hid h2
   obtain ⟨bx, hbx⟩ : ∃ bx, E.backs x = bx := ⟨_, rfl⟩
   obtain ⟨b2, hb2⟩ : ∃ b2, E.backed x = b2 := ⟨_, rfl⟩
   rw [hbx, hb2] at HCB
   rw [hbx] at c15; rw [hb2] at c16
   clear h2 h3 h4 hbx hb2
   obtain ⟨b1, hb1⟩ : ∃ b1, decide (0 < bx) = b1 := ⟨_, rfl⟩
   rw [hb1] at HCB
   cases b1 with
   | true =>
    have HDx := hid (HC1.out (by rw [HCB.out]; rfl))
    go_wp2_with fail
    refine Hlook.out.mono ?_
    rintro e w6 ⟨_, rfl, rfl, he6⟩
    clear e8 f8 hc Hlook
    go_wp2
    go_roundw
    case rel => exact ⟨k + 1, by omega, by go_num, by rw [Hf.out, HDx.out]; exact he6⟩
    case measure => simp [intOf]; omega
   | false =>
    cases b2 with
    | true =>
     have HDx := hid (HC1.out (by rw [HCB.out]; rfl))
     go_wp2_with fail
     refine Hlook.out.mono ?_
     rintro e w6 ⟨_, rfl, rfl, he6⟩
     clear e8 f8 hc Hlook
     go_wp2
     go_roundw
     case rel => exact ⟨k + 1, by omega, by go_num, by rw [Hf.out, HDx.out]; exact he6⟩
     case measure => simp [intOf]; omega
    | false =>
     have HDx := hid (HC0.out (by rw [HCB.out]; rfl))
     clear e8 f8
     go_wp2
     go_roundw
     case rel => exact ⟨k + 1, by omega, by go_num, by rw [Hf.out, HDx.out]; exact ⟨v2, H2.out⟩⟩
     case measure => simp [intOf]; omega
  ·have hkk : k = (S.foes q).length := by omega
   rw [hkk, List.take_length] at he
   have He := hid he
   clear he hkk
   have Hcall := hid (eonNoD_any wr W0 G S T _ He.out Hok.out (Hti.out.steps (steps_foldl (S.foes q) D fun x hx D => steps_open (Hfon.out x hx) D)) q hr hP)
   unfold Stp at Hcall
   clear He
   go_wp2_with fail
   refine Hcall.out.mono ?_
   rintro e w6 ⟨_, rfl, rfl, he6⟩
   go_wp2
   go_returns
   exact Fin HQ ⟨rfl, he6⟩

end Go.Proofs.Lx

namespace Go.Proofs.Lx
open Go Go.RowKit Go.Proofs.Tj
set_option linter.unusedVariables false
set_option linter.unusedSimpArgs false


set_option maxRecDepth 100000 in
set_option maxHeartbeats 6400000 in
theorem eonMinus_any (w W0 : World) (G : Gh) (S : Stc) (T : Th) (D : Dyn) (h : Eng w W0 G S T D) (hok : SOk S) (hti : TI S.n D) (q : Nat) (hr : q < S.n) (hP : S.P ≤ 65536) :
  Calls Tryz.prog 53 #[.pointer (some ⟨G.b, 0, none⟩), .int .i64 (q : Int)] w (Ret (Stp W0 G S T (onMinusT S D q))) := by
 have Hok := hid hok
 have Hti := hid hti
 obtain ⟨vT, h⟩ := h
 have hn := h.st.n4
 have hm := h.st.m4
 have Hhd := hid h.st.hdn
 unfold Stp
 refine post_gen fun Q HQ => ?_
 have H := hid h
 have ehinn := h.hInn
 obtain ⟨Ainn, cAinn, hA0, hA1inn, hleninn⟩ := h.hdInn hr
 have HAinn := hid hA0
 clear hA0
 have HD : Hid (onMinusT S D q = (S.inn q).foldl (minusr S) D) := hid rfl
 rw [HD.out] at HQ
 clear hok hti h
 go_enter Tryz.func53, Tryz.ntmps53
 go_wp2
 go_loopw [19] (fun v19 wr => ∃ k : Nat, k ≤ (S.inn q).length ∧ v19 = .int .i64 k ∧ Eng wr W0 G S T (((S.inn q).take k).foldl (minusr S) D)) (fun v19 _ => (S.inn q).length - (intOf v19).toNat)
 case atStart => exact ⟨0, Nat.zero_le _, rfl, vT, H.out⟩
 case round =>
  obtain ⟨k, hk, rfl, he⟩ := hrel
  by_cases hlt : k < (S.inn q).length
  ·have hrm := Hok.out.inn q hr _ (List.getElem_mem hlt)
   obtain ⟨x, Hx⟩ : ∃ x, Hid ((S.inn q)[k] = x) := ⟨_, hid rfl⟩
   have Hf := hid (foldl_take (minusr S) D hlt)
   rw [Hx.out] at hrm Hf
   have Hte := hid (Hti.out.steps (steps_foldl ((S.inn q).take k) D fun x hx D => steps_minusr Hok.out (Hok.out.inn q hr x (List.mem_of_mem_take hx)) (Hhd.out x (Hok.out.inn q hr x (List.mem_of_mem_take hx))) D))
   obtain ⟨E, HE⟩ : ∃ E, Hid (((S.inn q).take k).foldl (minusr S) D = E) := ⟨_, hid rfl⟩
   rw [HE.out] at he Hf Hte
   obtain ⟨v2, h2⟩ := he
   obtain ⟨g, rfl, hc⟩ := h2.atInn hr HAinn.out hlt
   rw [Hx.out] at hc
   obtain ⟨gR, BR, c1, c2, eR, kk⟩ := h2.rule hrm
   have e2 := h2.hR
   rw [eR] at e2
   have Hkk := hid kk
   have HeR := hid eR
   have hyn := Hhd.out x hrm
   obtain ⟨y, Hy⟩ : ∃ y, Hid (S.head x = y) := ⟨_, hid rfl⟩
   rw [Hy.out] at hyn
   obtain ⟨kd, Hkd⟩ : ∃ kd, Hid (S.kind x = kd) := ⟨_, hid rfl⟩
   obtain ⟨k0, _, _⟩ := Hkk.out wr h2.sp.old
   rw [Hkd.out] at k0
   clear eR kk
   have HP2 : Hid (E.dead x = true → minusr S E x = E) := hid fun e => by unfold minusr; rw [if_pos e]
   have HP0 : Hid (E.dead x = false → minusr S E x = minusr2 S ((S.ofs x).foldl (settleD S) (killN S E x)) x) := hid fun e => by unfold minusr; rw [if_neg (by rw [e]; simp)]
   have e13 := h2.hDead
   obtain ⟨bd, hbd⟩ : ∃ bd, E.dead x = bd := ⟨_, rfl⟩
   cases bd with
   | true =>
    have HDx := hid (HP2.out hbd)
    have Hk := hid (ekillN_no wr W0 G S T E ⟨v2, h2⟩ x hrm hbd)
    have H2 := hid h2
    clear h2 hbd
    go_wp2_with fail
    refine Hk.out.mono ?_
    rintro e w5 ⟨_, rfl, rfl, rfl⟩
    clear hc
    go_wp2
    go_roundw
    case rel => exact ⟨k + 1, by omega, by go_num, by rw [Hf.out, HDx.out]; exact ⟨v2, H2.out⟩⟩
    case measure => simp [intOf]; omega
   | false =>
    have HD6 := hid (HP0.out hbd)
    have Hk := hid (ekillN_yes wr W0 G S T E ⟨v2, h2⟩ x hrm hbd)
    unfold StpB at Hk
    have HtK := hid (Hte.out.steps (steps_killN S E x))
    clear h2 hbd
    clear HP0 HP2
    generalize killN S E x = EK at *
    go_wp2_with fail
    refine Hk.out.mono ?_
    rintro e w5 ⟨_, rfl, rfl, v5, h5⟩
    clear hc Hk e2 k0 e13
    have ehofs := h5.hOfs
    obtain ⟨Aofs, cAofs, hA0, hA1ofs, hlenofs⟩ := h5.hdOfs hrm
    have HAofs := hid hA0
    clear hA0
    have H5 := hid h5
    clear h5
    go_wp2
    go_loopw [39] (fun v39 wr => ∃ ki : Nat, ki ≤ (S.ofs x).length ∧ v39 = .int .i64 ki ∧ Eng wr W0 G S T (((S.ofs x).take ki).foldl (settleD S) EK)) (fun v39 _ => (S.ofs x).length - (intOf v39).toNat)
    case atStart => exact ⟨0, Nat.zero_le _, rfl, v5, H5.out⟩
    case round =>
     obtain ⟨ki, hki, rfl, hei⟩ := hrel
     by_cases hlti : ki < (S.ofs x).length
     ·have hrmi := Hok.out.ofs x hrm _ (List.getElem_mem hlti)
      obtain ⟨xi, Hxi⟩ : ∃ xi, Hid ((S.ofs x)[ki] = xi) := ⟨_, hid rfl⟩
      have Hfi := hid (foldl_take (settleD S) EK hlti)
      rw [Hxi.out] at hrmi Hfi
      have Htei := hid (HtK.out.steps (steps_foldl ((S.ofs x).take ki) EK fun xi hx D => steps_settle Hok.out (Hok.out.ofs x hrm xi (List.mem_of_mem_take hx)) D))
      obtain ⟨Ei, HEi⟩ : ∃ Ei, Hid (((S.ofs x).take ki).foldl (settleD S) EK = Ei) := ⟨_, hid rfl⟩
      rw [HEi.out] at hei Hfi Htei
      obtain ⟨v2i, h2i⟩ := hei
      obtain ⟨gi, rfl, hci⟩ := h2i.atOfs hrm HAofs.out hlti
      rw [Hxi.out] at hci
      have Hcall := hid (esettle_any wr W0 G S T Ei ⟨v2i, h2i⟩ Hok.out Htei.out xi hrmi hP)
      unfold Stp at Hcall
      clear h2i
      go_wp2_with fail
      refine Hcall.out.mono ?_
      rintro e w5 ⟨_, rfl, rfl, he5⟩
      clear hci
      go_wp2
      go_roundw
      case rel => exact ⟨ki + 1, by omega, by go_num, by rw [Hfi.out]; exact he5⟩
      case measure => simp [intOf]; omega
     ·have hkki : ki = (S.ofs x).length := by omega
      rw [hkki, List.take_length] at hei
      have Hei := hid hei
      clear hei hkki
      have Ht6 := hid (HtK.out.steps (steps_foldl (S.ofs x) EK fun xi hx D => steps_settle Hok.out (Hok.out.ofs x hrm xi hx) D))
      obtain ⟨E6, HE6⟩ : ∃ E6, Hid ((S.ofs x).foldl (settleD S) EK = E6) := ⟨_, hid rfl⟩
      rw [HE6.out] at Hei Ht6 HD6
      have Hsup := hid (esup_any wr W0 G S T E6 Hei.out x hrm)
      obtain ⟨bs, Hbs⟩ : ∃ bs, Hid (supR S x = bs) := ⟨_, hid rfl⟩
      rw [Hbs.out] at Hsup
      cases bs with
      | false =>
       have HDx := hid (HD6.out.trans (show minusr2 S E6 x = E6 by unfold minusr2; rw [if_neg (by rw [Hbs.out]; simp)]))
       go_wp2_with fail
       refine Hsup.out.mono ?_
       rintro e w7 ⟨_, rfl, rfl, rfl⟩
       clear Hsup
       go_wp2
       go_roundw
       case rel => exact ⟨k + 1, by omega, by go_num, by rw [Hf.out, HDx.out]; exact Hei.out⟩
       case measure => simp [intOf]; omega
      | true =>
       have HDx := hid (HD6.out.trans (show minusr2 S E6 x = lookD ((S.beats x).foldl (leftD S) (tick (decBacks E6 y) 1)) y by unfold minusr2; rw [if_pos Hbs.out, Hy.out]))
       obtain ⟨v6, h6⟩ := Hei.out
       have e2 := h6.hR
       rw [HeR.out] at e2
       obtain ⟨_, k1, _⟩ := Hkk.out wr h6.sp.old
       rw [Hy.out] at k1
       have e15 := h6.hBacks; have c15 := h6.rBacks hyn; have f15 := h6.fBacks y
       have h7 : EngV (wr.setCell ⟨G.g .backs, y, none⟩ (.int .i64 (wrap64 (E6.backs y - 1)))) W0 G S T (decBacks E6 y) v6 := h6.wBacks y _
       have e8 := h7.hUpd; have f8 := h7.free 8
       have h8 : EngV ((wr.setCell ⟨G.g .backs, y, none⟩ (.int .i64 (wrap64 (E6.backs y - 1)))).setCell ⟨G.b, 8, none⟩ (.int .i64 (wrap64 ((decBacks E6 y).upd + 1)))) W0 G S T (tick (decBacks E6 y) 1) v6 := h7.wUpd _
       have ehbeats := h8.hBeats
       obtain ⟨Abeats, cAbeats, hA0, hA1beats, hlenbeats⟩ := h8.hdBeats hrm
       have HAbeats := hid hA0
       clear hA0
       have Ht7 := hid (Ht6.out.other (F := tick (decBacks E6 y) 1) rfl rfl)
       have H8 := hid h8
       clear h6 h7 h8
       go_wp2_with fail
       refine Hsup.out.mono ?_
       rintro e w7 ⟨_, rfl, rfl, rfl⟩
       clear Hsup
       go_wp2
       have HDx2 : ∃ E7, Hid (tick (decBacks E6 y) 1 = E7) := ⟨_, hid rfl⟩
       obtain ⟨E7, HE7⟩ := HDx2
       rw [HE7.out] at HDx Ht7 H8
       clear e2 k1 e15 c15 f15 e8 f8
       go_loopw [86] (fun v86 wr => ∃ kj : Nat, kj ≤ (S.beats x).length ∧ v86 = .int .i64 kj ∧ Eng wr W0 G S T (((S.beats x).take kj).foldl (leftD S) E7)) (fun v86 _ => (S.beats x).length - (intOf v86).toNat)
       case atStart => exact ⟨0, Nat.zero_le _, rfl, v6, H8.out⟩
       case round =>
        obtain ⟨kj, hkj, rfl, hej⟩ := hrel
        by_cases hltj : kj < (S.beats x).length
        ·have hrmj := Hok.out.beats x hrm _ (List.getElem_mem hltj)
         obtain ⟨xj, Hxj⟩ : ∃ xj, Hid ((S.beats x)[kj] = xj) := ⟨_, hid rfl⟩
         have Hfj := hid (foldl_take (leftD S) E7 hltj)
         rw [Hxj.out] at hrmj Hfj
         have Htej := hid (Ht7.out.steps (steps_foldl ((S.beats x).take kj) E7 fun xj hx D => steps_left Hok.out (Hok.out.beats x hrm xj (List.mem_of_mem_take hx)) D))
         obtain ⟨Ej, HEj⟩ : ∃ Ej, Hid (((S.beats x).take kj).foldl (leftD S) E7 = Ej) := ⟨_, hid rfl⟩
         rw [HEj.out] at hej Hfj Htej
         obtain ⟨v2j, h2j⟩ := hej
         obtain ⟨gj, rfl, hcj⟩ := h2j.atBeats hrm HAbeats.out hltj
         rw [Hxj.out] at hcj
         obtain ⟨gP, cP, eP⟩ := h2j.pForm hrmj
         have e21 := h2j.hPairs
         rw [eP] at e21
         obtain ⟨_, _, _, k3⟩ := h2j.rPair eP hrmj
         have f3 := h2j.fPair eP (xj * 4 + 3)
         have h3 : EngV (wr.setCell ⟨gP, xj * 4 + 3, none⟩ (.int .i64 (wrap64 (Ej.left xj - 1)))) W0 G S T (decLeft Ej xj) v2j := h2j.wLeft eP xj _
         have e8 := h3.hUpd
         have f8 := h3.free 8
         have h4 : EngV ((wr.setCell ⟨gP, xj * 4 + 3, none⟩ (.int .i64 (wrap64 (Ej.left xj - 1)))).setCell ⟨G.b, 8, none⟩ (.int .i64 (wrap64 ((decLeft Ej xj).upd + 1)))) W0 G S T (tick (decLeft Ej xj) 1) v2j := h3.wUpd _
         have Hst := hid (estand_any _ W0 G S T _ ⟨v2j, h4⟩ Hok.out (Htej.out.other (F := tick (decLeft Ej xj) 1) rfl rfl) xj hrmj hP)
         unfold Stp at Hst
         clear h2j h3 h4 eP
         go_wp2_with fail
         refine Hst.out.mono ?_
         rintro e w6 ⟨_, rfl, rfl, he6⟩
         clear hcj e21 k3 f3 e8 f8 Hst
         go_wp2
         go_roundw
         case rel => exact ⟨kj + 1, by omega, by go_num, by rw [Hfj.out]; exact he6⟩
         case measure => simp [intOf]; omega
        ·have hkkj : kj = (S.beats x).length := by omega
         rw [hkkj, List.take_length] at hej
         have Hej := hid hej
         clear hej hkkj
         have Hlook := hid (elook_any wr W0 G S T _ Hej.out (Ht7.out.steps (steps_foldl (S.beats x) E7 fun xj hx D => steps_left Hok.out (Hok.out.beats x hrm xj hx) D)) y hyn)
         unfold Stp at Hlook
         clear Hej
         go_wp2_with fail
         refine Hlook.out.mono ?_
         rintro e w9 ⟨_, rfl, rfl, he9⟩
         clear Hlook
         go_wp2
         go_roundw
         case rel => exact ⟨k + 1, by omega, by go_num, by rw [Hf.out, HDx.out]; exact he9⟩
         case measure => simp [intOf]; omega
  ·have hkk : k = (S.inn q).length := by omega
   rw [hkk, List.take_length] at he
   have He := hid he
   clear he hkk
   go_wp2
   go_returns
   exact Fin HQ ⟨rfl, He.out⟩

end Go.Proofs.Lx

namespace Go.Proofs.Lx
open Go Go.RowKit Go.Proofs.Tj Go.Shelf
set_option linter.unusedVariables false
set_option linter.unusedSimpArgs false

section
variable {S : Stc}
theorem steps_onPlusD (hfon : ∀ q, q < S.n → ∀ f ∈ S.foes q, f < S.n) (hhd : ∀ r, r < S.m → S.head r < S.n) (hok : SOk S) {q : Nat} (hq : q < S.n) (D : Dyn) : Steps S.n D (onPlusDD S D q) :=
 ((steps_foldl _ _ fun x hx D => steps_plusDr (hhd x (hok.inn q hq x hx)) D).trans (steps_foldl _ _ fun x hx D => steps_clash (hfon q hq x hx) D)).trans (steps_look hq)
theorem steps_onNoD (hhd : ∀ r, r < S.m → S.head r < S.n) (hok : SOk S) {q : Nat} (hq : q < S.n) (D : Dyn) : Steps S.n D (onNoDD S D q) :=
 (steps_foldl _ _ fun x hx D => steps_noDr (hhd x (hok.inn q hq x hx)) D).trans (steps_look hq)
theorem steps_onLate (hfon : ∀ q, q < S.n → ∀ f ∈ S.foes q, f < S.n) (hhd : ∀ r, r < S.m → S.head r < S.n) (hok : SOk S) {q : Nat} (hq : q < S.n) (D : Dyn) : Steps S.n D (onLateD S D q) :=
 (steps_foldl _ _ fun x hx D => steps_open (hfon q hq x hx) D).trans (steps_onNoD hhd hok hq _)
theorem steps_onPlus (hhd : ∀ r, r < S.m → S.head r < S.n) (hok : SOk S) {q : Nat} (hq : q < S.n) (D : Dyn) : Steps S.n D (onPlusT S D q) :=
 steps_foldl _ _ fun x hx D => steps_plusr hok (hok.inn q hq x hx) (hhd x (hok.inn q hq x hx)) D
theorem steps_onMinus (hhd : ∀ r, r < S.m → S.head r < S.n) (hok : SOk S) {q : Nat} (hq : q < S.n) (D : Dyn) : Steps S.n D (onMinusT S D q) :=
 steps_foldl _ _ fun x hx D => steps_minusr hok (hok.inn q hq x hx) (hhd x (hok.inn q hq x hx)) D
theorem steps_disp (hfon : ∀ q, q < S.n → ∀ f ∈ S.foes q, f < S.n) (hhd : ∀ r, r < S.m → S.head r < S.n) (hok : SOk S) {q : Nat} (hq : q < S.n) (i tag : Nat) (D : Dyn) : Steps S.n D (dispD S D i q tag) := by
 unfold dispD
 split
 ·split
  ·exact steps_onLate hfon hhd hok hq D
  ·exact steps_onNoD hhd hok hq D
 ·split
  ·exact steps_onPlusD hfon hhd hok hq D
  ·split
   ·exact steps_onPlus hhd hok hq D
   ·exact steps_onMinus hhd hok hq D
theorem TI.one (hfon : ∀ q, q < S.n → ∀ f ∈ S.foes q, f < S.n) (hhd : ∀ r, r < S.m → S.head r < S.n) (hok : SOk S) {D : Dyn} (h : TI S.n D) (i : Nat) : TI S.n (oneD S D i) := by
 unfold oneD
 split
 ·rename_i q tag he
  have hq := (h.mem q tag (List.mem_of_getElem? he)).1
  exact (h.other (F := tick D 1) rfl rfl).steps (steps_disp hfon hhd hok hq i tag _)
 ·exact h
theorem TI.iter (hfon : ∀ q, q < S.n → ∀ f ∈ S.foes q, f < S.n) (hhd : ∀ r, r < S.m → S.head r < S.n) (hok : SOk S) {D : Dyn} (h : TI S.n D) : ∀ k, TI S.n (iterD S D k)
 | 0 => h
 | k + 1 => (h.iter hfon hhd hok k).one hfon hhd hok k
theorem steps_looks {n : Nat} (D : Dyn) (k : Nat) (hk : k ≤ n) : Steps n D (looksD D k) := steps_foldl _ _ fun q hq D => steps_look (by have := List.mem_range.1 hq; omega)
end
theorem EngV.toldForm {w W0 : World} {G : Gh} {S : Stc} {T : Th} {D : Dyn} {vT : Value} (h : EngV w W0 G S T D vT) : ∃ A c, vT = .slice A D.told.length c := by
 rcases h.toldOwn.2 with ⟨h1, h0⟩ | ⟨g, cap, cur, hv, _⟩
 ·exact ⟨none, 0, by rw [h1, h0]⟩
 ·exact ⟨_, cap, hv⟩
theorem EngV.toldAt {w W0 : World} {G : Gh} {S : Stc} {T : Th} {D : Dyn} {A : Option Addr} {c : Nat} (h : EngV w W0 G S T D (.slice A D.told.length c)) {k q t : Nat} (hk : D.told[k]? = some (q, t)) :
  ∃ g, A = some ⟨g, 0, none⟩ ∧ g ≠ G.b ∧ w.cell? ⟨g, k * 2, none⟩ = some (.int .i64 (q : Int)) ∧ w.cell? ⟨g, k * 2 + 1, none⟩ = some (.int .i64 (t : Int)) := by
 have hlt : k < D.told.length := (List.getElem?_eq_some_iff.1 hk).1
 rcases h.toldOwn.2 with ⟨h1, h0⟩ | ⟨g, cap, cur, hv, _⟩
 ·omega
 ·cases hv
  obtain ⟨k1, k2⟩ := toldV_at _ _ _ _ hk
  exact ⟨g, rfl, h.sp.far .told g rfl, own_read h.toldOwn (by rw [Nat.mul_comm]; exact k1), own_read h.toldOwn (by rw [Nat.mul_comm]; exact k2)⟩

attribute [local go_sem] Oper.semAt_some
set_option maxRecDepth 100000 in
set_option maxHeartbeats 3200000 in
theorem work1_in (n l bn : Nat) (hn1 : 1 ≤ n) (W W0 : World) (G : Gh) (S : Stc) (T : Th) (D0 : Dyn) (hti : ∀ k, TI S.n (iterD S D0 k))
  (hbox : ∀ w, (∃ D, Eng w W0 G S T D) → w.cell? ⟨bn, 0, none⟩ = some (.pointer (some ⟨G.b, 0, none⟩))) (hbn : bn ≠ G.b)
  (hY : ∀ k w q tag, Eng w W0 G S T (tick (iterD S D0 k) 1) → (iterD S D0 k).told[k]? = some (q, tag) → YieldAt Fence.wide (n - 1) Tryz.prog l #[.int .i64 (k : Int), .agg #[.int .i64 (q : Int), .int .i64 (tag : Int)]] w fun e w' => e = .returned (.bool true) ∧ Eng w' W0 G S T (iterD S D0 (k + 1)))
  (h0 : Eng W W0 G S T D0) :
  CallsIn Fence.wide n Tryz.prog 95 #[.func (.yield l) #[] #[], .pointer (some ⟨bn, 0, none⟩)] W fun e w' => (∃ v, e = .returned v) ∧ ∃ k, (iterD S D0 k).told.length ≤ k ∧ (∀ j, j < k → j < (iterD S D0 j).told.length) ∧ Eng w' W0 G S T (iterD S D0 k) := by
 have Hbox := hid hbox
 have HY := hid hY
 have Hti := hid hti
 have hn4 : S.n ≤ 4096 := let ⟨_, k⟩ := h0; k.st.n4
 clear hbox hY hti
 refine callsIn_of_wp Tryz.func95 rfl trivial ?_ rfl
 simp only [Tryz.ntmps95, List.size_toArray, List.length_cons, List.length_nil, Nat.reduceAdd, Nat.reduceSub, Array.replicate_succ, Array.replicate_zero, List.push_toArray, List.append_toArray, List.nil_append, List.cons_append]
 gi_wp2
 gi_loopw [3] (fun v3 wr => ∃ k : Nat, v3 = .int .i64 k ∧ Hid (∀ j, j < k → j < (iterD S D0 j).told.length) ∧ Eng wr W0 G S T (iterD S D0 k)) (fun v3 _ => 4 * S.n + 1 - (intOf v3).toNat)
 case atStart => exact ⟨0, rfl, hid (fun j hj => absurd hj (by omega)), h0⟩
 case round =>
  obtain ⟨k, rfl, hall, he⟩ := hrel
  have hlen := told_length_le (Hti.out k)
  have hall' := hall.out
  have hkb : k ≤ 4 * S.n + 1 := by
   rcases Nat.eq_zero_or_pos k with h | h
   ·omega
   ·have h1 := hall' (k - 1) (by omega)
    have h2 := told_length_le (Hti.out (k - 1))
    omega
  have hb := Hbox.out wr ⟨_, he⟩
  obtain ⟨vT, h⟩ := he
  obtain ⟨A, c, rfl⟩ := h.toldForm
  have e5 := h.hTold
  by_cases hlt : k < (iterD S D0 k).told.length
  ·have hd : decide (k < (iterD S D0 k).told.length) = true := decide_eq_true hlt
   obtain ⟨⟨q, tag⟩, hx⟩ : ∃ x, (iterD S D0 k).told[k]? = some x := ⟨_, List.getElem?_eq_getElem hlt⟩
   obtain ⟨g, rfl, hgb, cA, cB⟩ := h.toldAt hx
   have e8 := h.hUpd
   have f8 := h.free 8
   have h1 : EngV (wr.setCell ⟨G.b, 8, none⟩ (.int .i64 (wrap64 ((iterD S D0 k).upd + 1)))) W0 G S T (tick (iterD S D0 k) 1) _ := h.wUpd _
   have e5' := h1.hTold
   have hb' := Hbox.out _ ⟨_, _, h1⟩
   obtain ⟨g', hg', _, cA', cB'⟩ := EngV.toldAt (D := tick (iterD S D0 k) 1) h1 hx
   cases hg'
   have hy := HY.out k _ q tag ⟨_, h1⟩ hx
   have Hx := hid hx
   clear h h1 hx
   generalize (iterD S D0 k).told.length = L at *
   obtain ⟨fn, tmps, assign, body, hy, hR⟩ := hy
   have HR := hid hR
   clear hR
   gi_wp2
   refine HR.out.mono ?_
   rintro e W3 ⟨rfl, he3⟩
   gi_wp2
   go_roundw
   case rel =>
    refine ⟨k + 1, by go_num, hid (fun j hj => ?_), he3⟩
    by_cases e : j = k
    ·rw [e]; exact (List.getElem?_eq_some_iff.1 Hx.out).1
    ·exact hall.out j (by omega)
   case measure => simp [intOf]; omega
  ·have hd : decide (k < (iterD S D0 k).told.length) = false := decide_eq_false hlt
   have H := hid h
   clear h
   generalize hL : (iterD S D0 k).told.length = L at *
   have HL := hid hL
   clear hL
   gi_wp2
   go_end0
   exact ⟨⟨_, rfl⟩, k, by rw [HL.out]; omega, hall.out, _, H.out⟩
end Go.Proofs.Lx
