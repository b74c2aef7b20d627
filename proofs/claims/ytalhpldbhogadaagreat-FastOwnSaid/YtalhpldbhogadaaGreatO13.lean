/- Parts of the proof: Ei, Ej. Contract of the engine's fire. Printed by gen_ei.py. No condition. -/
import Derived.Test.YtalhpldbhogadaaGreatO12
namespace Go.Proofs.Lx
open Go Go.RowKit Go.Proofs.Tj
set_option linter.unusedVariables false
set_option linter.unusedSimpArgs false


set_option maxRecDepth 100000 in
set_option maxHeartbeats 6400000 in
theorem efire_no (w W0 : World) (G : Gh) (S : Stc) (T : Th) (D : Dyn) (h : Eng w W0 G S T D) (hok : SOk S) (hti : TI S.n D) (r : Nat) (hr : r < S.m) (hP : S.P ≤ 65536) (hs : supR S r = false) :
  Calls Tryz.prog 92 #[.pointer (some ⟨G.b, 0, none⟩), .int .i64 (r : Int)] w (Ret (Stp W0 G S T (fireD S D r))) := by
 have Hok := hid hok
 have Hti := hid hti
 have hsup := esup_any w W0 G S T D h r hr
 rw [hs] at hsup
 have HD : Hid (fireD S D r = (S.ofs r).foldl (standD S) D) := hid (by unfold fireD fire1; rw [if_neg (by rw [hs]; simp)])
 obtain ⟨vT, h⟩ := h
 have hqn := h.st.hdn r hr
 have hn := h.st.n4
 have hm := h.st.m4
 unfold Stp
 refine post_gen fun Q HQ => ?_
 have e2 := h.hR
 obtain ⟨gR, BR, c1, c2, eR, kk⟩ := h.rule hr
 obtain ⟨_, k1, _⟩ := kk w h.sp.old
 rw [eR] at e2
 obtain ⟨q, Hq⟩ : ∃ q, Hid (S.head r = q) := ⟨_, hid rfl⟩
 rw [Hq.out] at k1 hqn
 have H := hid h
 have ehofs := h.hOfs
 obtain ⟨Aofs, cAofs, hA0, hA1ofs, hlenofs⟩ := h.hdOfs hr
 have HAofs := hid hA0
 clear hA0
 clear hok hti h eR kk hs
 go_enter Tryz.func92, Tryz.ntmps92
 go_wp2_with fail
 refine hsup.mono ?_
 rintro e w' ⟨_, rfl, rfl, rfl⟩
 go_wp2
 go_loopw [71] (fun v71 wr => ∃ k : Nat, k ≤ (S.ofs r).length ∧ v71 = .int .i64 k ∧ Eng wr W0 G S T (((S.ofs r).take k).foldl (standD S) D)) (fun v71 _ => (S.ofs r).length - (intOf v71).toNat)
 case atStart => exact ⟨0, Nat.zero_le _, rfl, vT, H.out⟩
 case round =>
  obtain ⟨k, hk, rfl, he⟩ := hrel
  by_cases hlt : k < (S.ofs r).length
  ·have hrm := Hok.out.ofs r hr _ (List.getElem_mem hlt)
   obtain ⟨x, Hx⟩ : ∃ x, Hid ((S.ofs r)[k] = x) := ⟨_, hid rfl⟩
   have Hf := hid (foldl_take (standD S) D hlt)
   rw [Hx.out] at hrm Hf
   have Hte := hid (Hti.out.steps (steps_foldl ((S.ofs r).take k) D fun x hx D => steps_stand Hok.out (Hok.out.ofs r hr x (List.mem_of_mem_take hx)) D))
   obtain ⟨E, HE⟩ : ∃ E, Hid (((S.ofs r).take k).foldl (standD S) D = E) := ⟨_, hid rfl⟩
   rw [HE.out] at he Hf Hte
   obtain ⟨v2, h2⟩ := he
   obtain ⟨g, rfl, hc⟩ := h2.atOfs hr HAofs.out hlt
   rw [Hx.out] at hc
   have Hcall := hid (estand_any wr W0 G S T E ⟨v2, h2⟩ Hok.out Hte.out x hrm hP)
   unfold Stp at Hcall
   clear h2
   go_wp2_with fail
   refine Hcall.out.mono ?_
   rintro e w5 ⟨_, rfl, rfl, he5⟩
   clear hc
   go_wp2
   go_roundw
   case rel => exact ⟨k + 1, by omega, by go_num, by rw [Hf.out]; exact he5⟩
   case measure => simp [intOf]; omega
  ·have hkk : k = (S.ofs r).length := by omega
   rw [hkk, List.take_length] at he
   have He := hid he
   clear he hkk
   go_wp2
   go_returns
   exact Fin HQ ⟨rfl, by rw [HD.out]; exact He.out⟩


set_option maxRecDepth 100000 in
set_option maxHeartbeats 6400000 in
theorem efire_yes_t (w W0 : World) (G : Gh) (S : Stc) (T : Th) (D : Dyn) (h : Eng w W0 G S T D) (hok : SOk S) (hti : TI S.n D) (r : Nat) (hr : r < S.m) (hP : S.P ≤ 65536) (hs : supR S r = true) (hb : D.backed (S.head r) = true) :
  Calls Tryz.prog 92 #[.pointer (some ⟨G.b, 0, none⟩), .int .i64 (r : Int)] w (Ret (Stp W0 G S T (fireD S D r))) := by
 have Hok := hid hok
 have Hti := hid hti
 have hsup := esup_any w W0 G S T D h r hr
 rw [hs] at hsup
 have HD : Hid (fireD S D r = (S.ofs r).foldl (standD S) (fire1 S D r)) := hid rfl
 have HD1 : Hid (fire1 S D r = lookD ((S.beats r).foldl (settleD S) D) (S.head r)) := hid (by unfold fire1; rw [if_pos hs, if_pos hb])
 obtain ⟨vT, h⟩ := h
 have hqn := h.st.hdn r hr
 have hn := h.st.n4
 have hm := h.st.m4
 unfold Stp
 refine post_gen fun Q HQ => ?_
 have e2 := h.hR
 obtain ⟨gR, BR, c1, c2, eR, kk⟩ := h.rule hr
 obtain ⟨_, k1, _⟩ := kk w h.sp.old
 rw [eR] at e2
 obtain ⟨q, Hq⟩ : ∃ q, Hid (S.head r = q) := ⟨_, hid rfl⟩
 rw [Hq.out] at k1 hqn hb HD1
 have e12 := h.hBacked
 have c12 := h.rBacked hqn
 rw [hb] at c12
 have H := hid h
 have ehbeats := h.hBeats
 obtain ⟨Abeats, cAbeats, hA0, hA1beats, hlenbeats⟩ := h.hdBeats hr
 have HAbeats := hid hA0
 clear hA0
 clear hok hti h eR kk hs hb
 go_enter Tryz.func92, Tryz.ntmps92
 go_wp2_with fail
 refine hsup.mono ?_
 rintro e w' ⟨_, rfl, rfl, rfl⟩
 go_wp2
 go_loopw [52] (fun v52 wr => ∃ k : Nat, k ≤ (S.beats r).length ∧ v52 = .int .i64 k ∧ Eng wr W0 G S T (((S.beats r).take k).foldl (settleD S) D)) (fun v52 _ => (S.beats r).length - (intOf v52).toNat)
 case atStart => exact ⟨0, Nat.zero_le _, rfl, vT, H.out⟩
 case round =>
  obtain ⟨k, hk, rfl, he⟩ := hrel
  by_cases hlt : k < (S.beats r).length
  ·have hrm := Hok.out.beats r hr _ (List.getElem_mem hlt)
   obtain ⟨x, Hx⟩ : ∃ x, Hid ((S.beats r)[k] = x) := ⟨_, hid rfl⟩
   have Hf := hid (foldl_take (settleD S) D hlt)
   rw [Hx.out] at hrm Hf
   have Hte := hid (Hti.out.steps (steps_foldl ((S.beats r).take k) D fun x hx D => steps_settle Hok.out (Hok.out.beats r hr x (List.mem_of_mem_take hx)) D))
   obtain ⟨E, HE⟩ : ∃ E, Hid (((S.beats r).take k).foldl (settleD S) D = E) := ⟨_, hid rfl⟩
   rw [HE.out] at he Hf Hte
   obtain ⟨v2, h2⟩ := he
   obtain ⟨g, rfl, hc⟩ := h2.atBeats hr HAbeats.out hlt
   rw [Hx.out] at hc
   have Hcall := hid (esettle_any wr W0 G S T E ⟨v2, h2⟩ Hok.out Hte.out x hrm hP)
   unfold Stp at Hcall
   clear h2
   go_wp2_with fail
   refine Hcall.out.mono ?_
   rintro e w5 ⟨_, rfl, rfl, he5⟩
   clear hc
   go_wp2
   go_roundw
   case rel => exact ⟨k + 1, by omega, by go_num, by rw [Hf.out]; exact he5⟩
   case measure => simp [intOf]; omega
  ·have hkk : k = (S.beats r).length := by omega
   rw [hkk, List.take_length] at he
   have He := hid he
   clear he hkk
   have Htf := hid (Hti.out.steps (steps_foldl (S.beats r) D fun x hx D => steps_settle Hok.out (Hok.out.beats r hr x hx) D))
   have Hlook := hid (elook_any wr W0 G S T _ He.out Htf.out q hqn)
   unfold Stp at Hlook
   rw [← HD1.out] at Hlook
   clear Htf He
   go_wp2_with fail
   refine Hlook.out.mono ?_
   rintro e w6 ⟨_, rfl, rfl, he6⟩
   have Ht6 := hid (Hti.out.steps (steps_fire1 Hok.out hr (by rw [Hq.out]; exact hqn) D))
   have HD' := HD
   clear HD
   have HD : Hid (fireD S D r = _) := HD'
   clear HD'
   generalize fire1 S D r = E1 at *
   obtain ⟨v6, h6⟩ := he6
   have ehofs := h6.hOfs
   obtain ⟨Aofs, cAofs, hA0, hA1ofs, hlenofs⟩ := h6.hdOfs hr
   have HAofs := hid hA0
   clear hA0
   have H6 := hid h6
   clear h6
   go_wp2
   go_loopw [71] (fun v71 wr => ∃ k : Nat, k ≤ (S.ofs r).length ∧ v71 = .int .i64 k ∧ Eng wr W0 G S T (((S.ofs r).take k).foldl (standD S) E1)) (fun v71 _ => (S.ofs r).length - (intOf v71).toNat)
   case atStart => exact ⟨0, Nat.zero_le _, rfl, v6, H6.out⟩
   case round =>
    obtain ⟨k, hk, rfl, he⟩ := hrel
    by_cases hlt : k < (S.ofs r).length
    ·have hrm := Hok.out.ofs r hr _ (List.getElem_mem hlt)
     obtain ⟨x, Hx⟩ : ∃ x, Hid ((S.ofs r)[k] = x) := ⟨_, hid rfl⟩
     have Hf := hid (foldl_take (standD S) E1 hlt)
     rw [Hx.out] at hrm Hf
     have Hte := hid (Ht6.out.steps (steps_foldl ((S.ofs r).take k) E1 fun x hx D => steps_stand Hok.out (Hok.out.ofs r hr x (List.mem_of_mem_take hx)) D))
     obtain ⟨E, HE⟩ : ∃ E, Hid (((S.ofs r).take k).foldl (standD S) E1 = E) := ⟨_, hid rfl⟩
     rw [HE.out] at he Hf Hte
     obtain ⟨v2, h2⟩ := he
     obtain ⟨g, rfl, hc⟩ := h2.atOfs hr HAofs.out hlt
     rw [Hx.out] at hc
     have Hcall := hid (estand_any wr W0 G S T E ⟨v2, h2⟩ Hok.out Hte.out x hrm hP)
     unfold Stp at Hcall
     clear h2
     go_wp2_with fail
     refine Hcall.out.mono ?_
     rintro e w5 ⟨_, rfl, rfl, he5⟩
     clear hc
     go_wp2
     go_roundw
     case rel => exact ⟨k + 1, by omega, by go_num, by rw [Hf.out]; exact he5⟩
     case measure => simp [intOf]; omega
    ·have hkk : k = (S.ofs r).length := by omega
     rw [hkk, List.take_length] at he
     have He := hid he
     clear he hkk
     go_wp2
     go_returns
     exact Fin HQ ⟨rfl, by rw [HD.out]; exact He.out⟩


set_option maxRecDepth 100000 in
set_option maxHeartbeats 6400000 in
theorem efire_yes_f (w W0 : World) (G : Gh) (S : Stc) (T : Th) (D : Dyn) (h : Eng w W0 G S T D) (hok : SOk S) (hti : TI S.n D) (r : Nat) (hr : r < S.m) (hP : S.P ≤ 65536) (hs : supR S r = true) (hb : D.backed (S.head r) = false) :
  Calls Tryz.prog 92 #[.pointer (some ⟨G.b, 0, none⟩), .int .i64 (r : Int)] w (Ret (Stp W0 G S T (fireD S D r))) := by
 have Hok := hid hok
 have Hti := hid hti
 have hsup := esup_any w W0 G S T D h r hr
 rw [hs] at hsup
 have HD : Hid (fireD S D r = (S.ofs r).foldl (standD S) (fire1 S D r)) := hid rfl
 have HD1 : Hid (fire1 S D r = lookD ((S.beats r).foldl (settleD S) (tick (setBacked D (S.head r)) 1)) (S.head r)) := hid (by unfold fire1; rw [if_pos hs, if_neg (by rw [hb]; simp)])
 obtain ⟨vT, h⟩ := h
 have hqn := h.st.hdn r hr
 have hn := h.st.n4
 have hm := h.st.m4
 unfold Stp
 refine post_gen fun Q HQ => ?_
 have e2 := h.hR
 obtain ⟨gR, BR, c1, c2, eR, kk⟩ := h.rule hr
 obtain ⟨_, k1, _⟩ := kk w h.sp.old
 rw [eR] at e2
 obtain ⟨q, Hq⟩ : ∃ q, Hid (S.head r = q) := ⟨_, hid rfl⟩
 rw [Hq.out] at k1 hqn hb HD1
 have e12 := h.hBacked
 have c12 := h.rBacked hqn
 rw [hb] at c12
 have H := hid h
 have f12 := h.fBacked q
 have h1 : EngV (w.setCell ⟨G.g .backed, q, none⟩ (.bool true)) W0 G S T (setBacked D q) vT := h.wBacked q true
 have e8 := h1.hUpd
 have f8 := h1.free 8
 have h2 : EngV ((w.setCell ⟨G.g .backed, q, none⟩ (.bool true)).setCell ⟨G.b, 8, none⟩ (.int .i64 (wrap64 ((setBacked D q).upd + 1)))) W0 G S T (tick (setBacked D q) 1) vT := h1.wUpd _
 have HB := hid h2
 have Htb := hid (Hti.out.other (F := tick (setBacked D q) 1) rfl rfl)
 have ehbeats := h2.hBeats
 obtain ⟨Abeats, cAbeats, hA0, hA1beats, hlenbeats⟩ := h2.hdBeats hr
 have HAbeats := hid hA0
 clear hA0
 clear hok hti h eR kk hs hb h1 h2
 go_enter Tryz.func92, Tryz.ntmps92
 go_wp2_with fail
 refine hsup.mono ?_
 rintro e w' ⟨_, rfl, rfl, rfl⟩
 go_wp2
 go_loopw [52] (fun v52 wr => ∃ k : Nat, k ≤ (S.beats r).length ∧ v52 = .int .i64 k ∧ Eng wr W0 G S T (((S.beats r).take k).foldl (settleD S) (tick (setBacked D q) 1))) (fun v52 _ => (S.beats r).length - (intOf v52).toNat)
 case atStart => exact ⟨0, Nat.zero_le _, rfl, vT, HB.out⟩
 case round =>
  obtain ⟨k, hk, rfl, he⟩ := hrel
  by_cases hlt : k < (S.beats r).length
  ·have hrm := Hok.out.beats r hr _ (List.getElem_mem hlt)
   obtain ⟨x, Hx⟩ : ∃ x, Hid ((S.beats r)[k] = x) := ⟨_, hid rfl⟩
   have Hf := hid (foldl_take (settleD S) (tick (setBacked D q) 1) hlt)
   rw [Hx.out] at hrm Hf
   have Hte := hid (Htb.out.steps (steps_foldl ((S.beats r).take k) (tick (setBacked D q) 1) fun x hx D => steps_settle Hok.out (Hok.out.beats r hr x (List.mem_of_mem_take hx)) D))
   obtain ⟨E, HE⟩ : ∃ E, Hid (((S.beats r).take k).foldl (settleD S) (tick (setBacked D q) 1) = E) := ⟨_, hid rfl⟩
   rw [HE.out] at he Hf Hte
   obtain ⟨v2, h2⟩ := he
   obtain ⟨g, rfl, hc⟩ := h2.atBeats hr HAbeats.out hlt
   rw [Hx.out] at hc
   have Hcall := hid (esettle_any wr W0 G S T E ⟨v2, h2⟩ Hok.out Hte.out x hrm hP)
   unfold Stp at Hcall
   clear h2
   go_wp2_with fail
   refine Hcall.out.mono ?_
   rintro e w5 ⟨_, rfl, rfl, he5⟩
   clear hc
   go_wp2
   go_roundw
   case rel => exact ⟨k + 1, by omega, by go_num, by rw [Hf.out]; exact he5⟩
   case measure => simp [intOf]; omega
  ·have hkk : k = (S.beats r).length := by omega
   rw [hkk, List.take_length] at he
   have He := hid he
   clear he hkk
   have Htf := hid (Htb.out.steps (steps_foldl (S.beats r) (tick (setBacked D q) 1) fun x hx D => steps_settle Hok.out (Hok.out.beats r hr x hx) D))
   have Hlook := hid (elook_any wr W0 G S T _ He.out Htf.out q hqn)
   unfold Stp at Hlook
   rw [← HD1.out] at Hlook
   clear Htf He
   go_wp2_with fail
   refine Hlook.out.mono ?_
   rintro e w6 ⟨_, rfl, rfl, he6⟩
   have Ht6 := hid (Hti.out.steps (steps_fire1 Hok.out hr (by rw [Hq.out]; exact hqn) D))
   have HD' := HD
   clear HD
   have HD : Hid (fireD S D r = _) := HD'
   clear HD'
   generalize fire1 S D r = E1 at *
   obtain ⟨v6, h6⟩ := he6
   have ehofs := h6.hOfs
   obtain ⟨Aofs, cAofs, hA0, hA1ofs, hlenofs⟩ := h6.hdOfs hr
   have HAofs := hid hA0
   clear hA0
   have H6 := hid h6
   clear h6
   go_wp2
   go_loopw [71] (fun v71 wr => ∃ k : Nat, k ≤ (S.ofs r).length ∧ v71 = .int .i64 k ∧ Eng wr W0 G S T (((S.ofs r).take k).foldl (standD S) E1)) (fun v71 _ => (S.ofs r).length - (intOf v71).toNat)
   case atStart => exact ⟨0, Nat.zero_le _, rfl, v6, H6.out⟩
   case round =>
    obtain ⟨k, hk, rfl, he⟩ := hrel
    by_cases hlt : k < (S.ofs r).length
    ·have hrm := Hok.out.ofs r hr _ (List.getElem_mem hlt)
     obtain ⟨x, Hx⟩ : ∃ x, Hid ((S.ofs r)[k] = x) := ⟨_, hid rfl⟩
     have Hf := hid (foldl_take (standD S) E1 hlt)
     rw [Hx.out] at hrm Hf
     have Hte := hid (Ht6.out.steps (steps_foldl ((S.ofs r).take k) E1 fun x hx D => steps_stand Hok.out (Hok.out.ofs r hr x (List.mem_of_mem_take hx)) D))
     obtain ⟨E, HE⟩ : ∃ E, Hid (((S.ofs r).take k).foldl (standD S) E1 = E) := ⟨_, hid rfl⟩
     rw [HE.out] at he Hf Hte
     obtain ⟨v2, h2⟩ := he
     obtain ⟨g, rfl, hc⟩ := h2.atOfs hr HAofs.out hlt
     rw [Hx.out] at hc
     have Hcall := hid (estand_any wr W0 G S T E ⟨v2, h2⟩ Hok.out Hte.out x hrm hP)
     unfold Stp at Hcall
     clear h2
     go_wp2_with fail
     refine Hcall.out.mono ?_
     rintro e w5 ⟨_, rfl, rfl, he5⟩
     clear hc
     go_wp2
     go_roundw
     case rel => exact ⟨k + 1, by omega, by go_num, by rw [Hf.out]; exact he5⟩
     case measure => simp [intOf]; omega
    ·have hkk : k = (S.ofs r).length := by omega
     rw [hkk, List.take_length] at he
     have He := hid he
     clear he hkk
     go_wp2
     go_returns
     exact Fin HQ ⟨rfl, by rw [HD.out]; exact He.out⟩


theorem efire_any (w W0 : World) (G : Gh) (S : Stc) (T : Th) (D : Dyn) (h : Eng w W0 G S T D) (hok : SOk S) (hti : TI S.n D) (r : Nat) (hr : r < S.m) (hP : S.P ≤ 65536) :
  Calls Tryz.prog 92 #[.pointer (some ⟨G.b, 0, none⟩), .int .i64 (r : Int)] w (Ret (Stp W0 G S T (fireD S D r))) := by
 cases hs : supR S r with
 | false => exact efire_no w W0 G S T D h hok hti r hr hP hs
 | true =>
  cases hb : D.backed (S.head r) with
  | true => exact efire_yes_t w W0 G S T D h hok hti r hr hP hs hb
  | false => exact efire_yes_f w W0 G S T D h hok hti r hr hP hs hb
end Go.Proofs.Lx

namespace Go.Proofs.Lx
open Go Go.RowKit Go.Proofs.Tj
set_option linter.unusedVariables false
set_option linter.unusedSimpArgs false

theorem steps_tickB {n : Nat} (S : Stc) (D : Dyn) (r : Nat) : Steps n D (tickB S D r) := by
 unfold tickB; split
 ·exact Steps.oth rfl rfl
 ·exact Steps.refl D
theorem steps_lowerN {n : Nat} (S : Stc) (D : Dyn) (r : Nat) : Steps n D (lowerN S D r) := (Steps.oth (D := D) (F := decNeed D r) rfl rfl).trans (steps_tickB S _ r)
theorem steps_lowerS {n : Nat} (S : Stc) (D : Dyn) (r : Nat) : Steps n D (lowerS S D r) := (Steps.oth (D := D) (F := decNeedD D r) rfl rfl).trans (steps_tickB S _ r)
theorem steps_killN {n : Nat} (S : Stc) (D : Dyn) (r : Nat) : Steps n D (killN S D r) := (Steps.oth (D := D) (F := setDead D r) rfl rfl).trans (steps_tickB S _ r)
theorem steps_killS {n : Nat} (S : Stc) (D : Dyn) (r : Nat) : Steps n D (killS S D r) := (Steps.oth (D := D) (F := setDeadD D r) rfl rfl).trans (steps_tickB S _ r)
section
variable {S : Stc}
theorem steps_plusr (hok : SOk S) {r : Nat} (hr : r < S.m) (hd : S.head r < S.n) (D : Dyn) : Steps S.n D (plusr S D r) := by
 unfold plusr; split
 ·exact (steps_lowerN S D r).trans (steps_fire hok hr hd _)
 ·exact steps_lowerN S D r
theorem steps_plusDr {r : Nat} (hd : S.head r < S.n) (D : Dyn) : Steps S.n D (plusDr S D r) := by
 unfold plusDr; split
 ·split
  ·exact (steps_lowerS S D r).trans (Steps.tell1 hd (by omega) (by omega))
  ·exact steps_lowerS S D r
 ·exact Steps.refl D
theorem steps_clash {n f : Nat} (hf : f < n) (D : Dyn) : Steps n D (clashD D f) := by
 unfold clashD; split
 ·exact (Steps.oth (D := D) (F := tick (setClash D f) 1) rfl rfl).trans (steps_look hf)
 ·exact Steps.refl D
theorem steps_open {n f : Nat} (hf : f < n) (D : Dyn) : Steps n D (openD D f) := by
 unfold openD; split
 ·exact (Steps.oth (D := D) (F := tick (decOpn D f) 1) rfl rfl).trans (steps_look hf)
 ·exact Steps.refl D
theorem steps_noDr {r : Nat} (hd : S.head r < S.n) (D : Dyn) : Steps S.n D (noDr S D r) := by
 unfold noDr; split
 ·refine ((steps_killS S D r).trans (Steps.oth (F := tick (decStrict (killS S D r) (S.head r)) 1) rfl rfl)).trans ?_
  unfold noDr2; split
  ·exact Steps.tell1 hd (by omega) (by omega)
  ·exact Steps.refl _
 ·exact Steps.refl D
theorem steps_left (hok : SOk S) {p : Nat} (hp : p < S.P) (D : Dyn) : Steps S.n D (leftD S D p) := (Steps.oth (D := D) (F := tick (decLeft D p) 1) rfl rfl).trans (steps_stand hok hp _)
theorem steps_minusr2 (hok : SOk S) {r : Nat} (hr : r < S.m) (hd : S.head r < S.n) (D : Dyn) : Steps S.n D (minusr2 S D r) := by
 unfold minusr2; split
 ·exact ((Steps.oth (D := D) (F := tick (decBacks D (S.head r)) 1) rfl rfl).trans (steps_foldl _ _ fun p hp D => steps_left hok (hok.beats r hr p hp) D)).trans (steps_look hd)
 ·exact Steps.refl D
theorem steps_minusr (hok : SOk S) {r : Nat} (hr : r < S.m) (hd : S.head r < S.n) (D : Dyn) : Steps S.n D (minusr S D r) := by
 unfold minusr; split
 ·exact Steps.refl D
 ·exact ((steps_killN S D r).trans (steps_foldl _ _ fun p hp D => steps_settle hok (hok.ofs r hr p hp) D)).trans (steps_minusr2 hok hr hd _)
end


set_option maxRecDepth 100000 in
set_option maxHeartbeats 6400000 in
theorem eonPlus_any (w W0 : World) (G : Gh) (S : Stc) (T : Th) (D : Dyn) (h : Eng w W0 G S T D) (hok : SOk S) (hti : TI S.n D) (q : Nat) (hr : q < S.n) (hP : S.P ≤ 65536) :
  Calls Tryz.prog 52 #[.pointer (some ⟨G.b, 0, none⟩), .int .i64 (q : Int)] w (Ret (Stp W0 G S T (onPlusT S D q))) := by
 have Hok := hid hok
 have Hti := hid hti
 obtain ⟨vT, h⟩ := h
 have hn := h.st.n4
 have hm := h.st.m4
 have Hhd := hid h.st.hdn
 unfold Stp
 refine post_gen fun Q HQ => ?_
 have H := hid h
 have ehinn := h.hInn
 obtain ⟨Ainn, cAinn, hA0, hA1inn, hleninn⟩ := h.hdInn hr
 have HAinn := hid hA0
 clear hA0
 have HD : Hid (onPlusT S D q = (S.inn q).foldl (plusr S) D) := hid rfl
 rw [HD.out] at HQ
 clear hok hti h
 go_enter Tryz.func52, Tryz.ntmps52
 go_wp2
 go_loopw [14] (fun v14 wr => ∃ k : Nat, k ≤ (S.inn q).length ∧ v14 = .int .i64 k ∧ Eng wr W0 G S T (((S.inn q).take k).foldl (plusr S) D)) (fun v14 _ => (S.inn q).length - (intOf v14).toNat)
 case atStart => exact ⟨0, Nat.zero_le _, rfl, vT, H.out⟩
 case round =>
  obtain ⟨k, hk, rfl, he⟩ := hrel
  by_cases hlt : k < (S.inn q).length
  ·have hrm := Hok.out.inn q hr _ (List.getElem_mem hlt)
   obtain ⟨x, Hx⟩ : ∃ x, Hid ((S.inn q)[k] = x) := ⟨_, hid rfl⟩
   have Hf := hid (foldl_take (plusr S) D hlt)
   rw [Hx.out] at hrm Hf
   have Hte := hid (Hti.out.steps (steps_foldl ((S.inn q).take k) D fun x hx D => steps_plusr Hok.out (Hok.out.inn q hr x (List.mem_of_mem_take hx)) (Hhd.out x (Hok.out.inn q hr x (List.mem_of_mem_take hx))) D))
   obtain ⟨E, HE⟩ : ∃ E, Hid (((S.inn q).take k).foldl (plusr S) D = E) := ⟨_, hid rfl⟩
   rw [HE.out] at he Hf Hte
   obtain ⟨v2, h2⟩ := he
   obtain ⟨g, rfl, hc⟩ := h2.atInn hr HAinn.out hlt
   rw [Hx.out] at hc
   have e11 := h2.hNeed
   have HP0 : Hid ((lowerN S E x).need x = 0 → plusr S E x = fireD S (lowerN S E x) x) := hid fun e => by unfold plusr; rw [if_pos e]
   have HP1 : Hid (¬ (lowerN S E x).need x = 0 → plusr S E x = lowerN S E x) := hid fun e => by unfold plusr; rw [if_neg e]

   have Hlow := hid (elowerN_any wr W0 G S T E ⟨v2, h2⟩ x hrm)
   unfold StpB at Hlow
   have HtL := hid (Hte.out.steps (steps_lowerN S E x))
   clear h2
   obtain ⟨b, Hb⟩ : ∃ b, Hid (((lowerN S E x).need x == 0) = b) := ⟨_, hid rfl⟩
   rw [Hb.out] at Hlow
   generalize lowerN S E x = EL at *
   go_wp2_with fail
   refine Hlow.out.mono ?_
   rintro e w5 ⟨_, rfl, rfl, he5⟩
   clear hc Hlow
   cases b with
   | true =>
    have hz : EL.need x = 0 := by simpa using Hb.out
    have HDx := hid (HP0.out hz)
    clear hz
    have Hcall := hid (efire_any w5 W0 G S T EL he5 Hok.out HtL.out x hrm hP)
    unfold Stp at Hcall
    go_wp2_with fail
    refine Hcall.out.mono ?_
    rintro e w6 ⟨_, rfl, rfl, he6⟩
    go_wp2
    go_roundw
    case rel => exact ⟨k + 1, by omega, by go_num, by rw [Hf.out, HDx.out]; exact he6⟩
    case measure => simp [intOf]; omega
   | false =>
    have hz : ¬ EL.need x = 0 := by simpa using Hb.out
    have HDx := hid (HP1.out hz)
    clear hz
    go_wp2
    go_roundw
    case rel => exact ⟨k + 1, by omega, by go_num, by rw [Hf.out, HDx.out]; exact he5⟩
    case measure => simp [intOf]; omega
  ·have hkk : k = (S.inn q).length := by omega
   rw [hkk, List.take_length] at he
   have He := hid he
   clear he hkk
   go_wp2
   go_returns
   exact Fin HQ ⟨rfl, He.out⟩


set_option maxRecDepth 100000 in
set_option maxHeartbeats 6400000 in
theorem eonPlusD_any (w W0 : World) (G : Gh) (S : Stc) (T : Th) (D : Dyn) (h : Eng w W0 G S T D) (hok : SOk S) (hti : TI S.n D) (q : Nat) (hr : q < S.n) (hP : S.P ≤ 65536) :
  Calls Tryz.prog 50 #[.pointer (some ⟨G.b, 0, none⟩), .int .i64 (q : Int)] w (Ret (Stp W0 G S T (onPlusDD S D q))) := by
 have Hok := hid hok
 have Hti := hid hti
 obtain ⟨vT, h⟩ := h
 have hn := h.st.n4
 have hm := h.st.m4
 have Hhd := hid h.st.hdn
 unfold Stp
 refine post_gen fun Q HQ => ?_
 have H := hid h
 have ehinn := h.hInn
 obtain ⟨Ainn, cAinn, hA0, hA1inn, hleninn⟩ := h.hdInn hr
 have HAinn := hid hA0
 clear hA0
 have HD : Hid (onPlusDD S D q = lookD ((S.foes q).foldl clashD ((S.inn q).foldl (plusDr S) D)) q) := hid rfl
 rw [HD.out] at HQ
 clear hok hti h
 go_enter Tryz.func50, Tryz.ntmps50
 go_wp2
 go_loopw [16] (fun v16 wr => ∃ k : Nat, k ≤ (S.inn q).length ∧ v16 = .int .i64 k ∧ Eng wr W0 G S T (((S.inn q).take k).foldl (plusDr S) D)) (fun v16 _ => (S.inn q).length - (intOf v16).toNat)
 case atStart => exact ⟨0, Nat.zero_le _, rfl, vT, H.out⟩
 case round =>
  obtain ⟨k, hk, rfl, he⟩ := hrel
  by_cases hlt : k < (S.inn q).length
  ·have hrm := Hok.out.inn q hr _ (List.getElem_mem hlt)
   obtain ⟨x, Hx⟩ : ∃ x, Hid ((S.inn q)[k] = x) := ⟨_, hid rfl⟩
   have Hf := hid (foldl_take (plusDr S) D hlt)
   rw [Hx.out] at hrm Hf
   have Hte := hid (Hti.out.steps (steps_foldl ((S.inn q).take k) D fun x hx D => steps_plusDr (Hhd.out x (Hok.out.inn q hr x (List.mem_of_mem_take hx))) D))
   obtain ⟨E, HE⟩ : ∃ E, Hid (((S.inn q).take k).foldl (plusDr S) D = E) := ⟨_, hid rfl⟩
   rw [HE.out] at he Hf Hte
   obtain ⟨v2, h2⟩ := he
   obtain ⟨g, rfl, hc⟩ := h2.atInn hr HAinn.out hlt
   rw [Hx.out] at hc
   obtain ⟨gR, BR, c1, c2, eR, kk⟩ := h2.rule hrm
   have e2 := h2.hR
   rw [eR] at e2
   have Hkk := hid kk
   have HeR := hid eR
   have hyn := Hhd.out x hrm
   obtain ⟨y, Hy⟩ : ∃ y, Hid (S.head x = y) := ⟨_, hid rfl⟩
   rw [Hy.out] at hyn
   obtain ⟨kd, Hkd⟩ : ∃ kd, Hid (S.kind x = kd) := ⟨_, hid rfl⟩
   obtain ⟨k0, _, _⟩ := Hkk.out wr h2.sp.old
   rw [Hkd.out] at k0
   clear eR kk
   have HP2 : Hid (strR S x = false → plusDr S E x = E) := hid fun e => by unfold plusDr; rw [if_neg (by rw [e]; simp)]
   have HP0 : Hid (strR S x = true → (lowerS S E x).needD x = 0 → plusDr S E x = tellD (lowerS S E x) y 1) := hid fun e e2 => by unfold plusDr; rw [if_pos e, if_pos e2, Hy.out]
   have HP1 : Hid (strR S x = true → ¬ (lowerS S E x).needD x = 0 → plusDr S E x = lowerS S E x) := hid fun e e2 => by unfold plusDr; rw [if_pos e, if_neg e2]
   obtain ⟨b0, Hb0⟩ : ∃ b, Hid (strR S x = b) := ⟨_, hid rfl⟩
   have hb0 : (kd == 1) = b0 := by rw [← Hb0.out, ← Hkd.out]; rfl
   cases b0 with
   | false =>
    have HDx := hid (HP2.out Hb0.out)
    have H2 := hid h2
    clear h2
    go_wp2
    go_roundw
    case rel => exact ⟨k + 1, by omega, by go_num, by rw [Hf.out, HDx.out]; exact ⟨v2, H2.out⟩⟩
    case measure => simp [intOf]; omega
   | true =>
    have HP0 := hid (HP0.out Hb0.out)
    have HP1 := hid (HP1.out Hb0.out)
    have e10 := h2.hNeedD
    have Hlow := hid (elowerS_any wr W0 G S T E ⟨v2, h2⟩ x hrm)
    unfold StpB at Hlow
    have HtL := hid (Hte.out.steps (steps_lowerS S E x))
    clear h2
    obtain ⟨b, Hb⟩ : ∃ b, Hid (((lowerS S E x).needD x == 0) = b) := ⟨_, hid rfl⟩
    rw [Hb.out] at Hlow
    generalize lowerS S E x = EL at *
    go_wp2_with fail
    refine Hlow.out.mono ?_
    rintro e w5 ⟨_, rfl, rfl, he5⟩
    clear hc Hlow
    cases b with
    | true =>
     have hz : EL.needD x = 0 := by simpa using Hb.out
     have HDx := hid (HP0.out hz)
     clear hz
     obtain ⟨v5, h5⟩ := he5
     have e2 := h5.hR
     rw [HeR.out] at e2
     obtain ⟨_, k1, _⟩ := Hkk.out w5 h5.sp.old
     rw [Hy.out] at k1
     have Hcall := hid (etell_any w5 W0 G S T EL ⟨v5, h5⟩ HtL.out y 1 hyn (by omega) (by omega))
     unfold Stp at Hcall
     go_wp2_with fail
     refine Hcall.out.mono ?_
     rintro e w6 ⟨_, rfl, rfl, he6⟩
     clear e2 k1
     go_wp2
     go_roundw
     case rel => exact ⟨k + 1, by omega, by go_num, by rw [Hf.out, HDx.out]; exact he6⟩
     case measure => simp [intOf]; omega
    | false =>
     have hz : ¬ EL.needD x = 0 := by simpa using Hb.out
     have HDx := hid (HP1.out hz)
     clear hz
     go_wp2
     go_roundw
     case rel => exact ⟨k + 1, by omega, by go_num, by rw [Hf.out, HDx.out]; exact he5⟩
     case measure => simp [intOf]; omega
  ·have hkk : k = (S.inn q).length := by omega
   rw [hkk, List.take_length] at he
   have He := hid he
   clear he hkk
   have Ht1 := hid (Hti.out.steps (steps_foldl (S.inn q) D fun x hx D => steps_plusDr (Hhd.out x (Hok.out.inn q hr x hx)) D))
   generalize (S.inn q).foldl (plusDr S) D = D1 at *
   obtain ⟨v6, h6⟩ := He.out
   obtain ⟨gF, BF, c3, c4, eF, kF, hlF, kFo⟩ := h6.foes hr
   have e1 := h6.hF
   rw [eF] at e1
   have cF := kF wr h6.sp.old
   have Hfo := hid kFo
   have Hfon := hid (h6.st.fon q hr)
   clear eF kF kFo
   have H6 := hid h6
   clear h6 He
   obtain ⟨w6, hw6⟩ : ∃ w6 : World, w6 = wr := ⟨_, rfl⟩
   subst hw6
   go_wp2
   go_loopw [60] (fun v60 wr => ∃ k : Nat, k ≤ (S.foes q).length ∧ v60 = .int .i64 k ∧ Eng wr W0 G S T (((S.foes q).take k).foldl (clashD) D1)) (fun v60 _ => (S.foes q).length - (intOf v60).toNat)
   case atStart => exact ⟨0, Nat.zero_le _, rfl, v6, H6.out⟩
   case round =>
    obtain ⟨k, hk, rfl, he⟩ := hrel
    by_cases hlt : k < (S.foes q).length
    ·have hrm := Hfon.out _ (List.getElem_mem hlt)
     obtain ⟨g, rfl, hc⟩ := Hfo.out k hlt
     obtain ⟨x, Hx⟩ : ∃ x, Hid ((S.foes q)[k] = x) := ⟨_, hid rfl⟩
     have Hf := hid (foldl_take (clashD) D1 hlt)
     rw [Hx.out] at hrm Hf hc
     have Hte := hid (Ht1.out.steps (steps_foldl ((S.foes q).take k) D1 fun x hx D => steps_clash (Hfon.out x (List.mem_of_mem_take hx)) D))
     obtain ⟨E, HE⟩ : ∃ E, Hid (((S.foes q).take k).foldl (clashD) D1 = E) := ⟨_, hid rfl⟩
     rw [HE.out] at he Hf Hte
     obtain ⟨v2, h2⟩ := he
     have Hc := hid hc
     have hc := Hc.out wr h2.sp.old
     have e15 := h2.hBacks; have c15 := h2.rBacks hrm
     have e18 := h2.hClash; have c18 := h2.rClash hrm
     have HCB : Hid (clashB E x = (decide (0 < E.backs x) && !E.clash x)) := hid rfl
     have HC1 : Hid (clashB E x = true → clashD E x = lookD (tick (setClash E x) 1) x) := hid fun e => by unfold clashD; rw [if_pos e]
     have HC0 : Hid (clashB E x = false → clashD E x = E) := hid fun e => by unfold clashD; rw [if_neg (by rw [e]; simp)]
     have f18 := h2.fClash x
     have h3 : EngV (wr.setCell ⟨G.g .clash, x, none⟩ (.bool true)) W0 G S T (setClash E x) v2 := h2.wClash x true
     have e8 := h3.hUpd
     have f8 := h3.free 8
     have h4 : EngV ((wr.setCell ⟨G.g .clash, x, none⟩ (.bool true)).setCell ⟨G.b, 8, none⟩ (.int .i64 (wrap64 ((setClash E x).upd + 1)))) W0 G S T (tick (setClash E x) 1) v2 := h3.wUpd _
     have Hlook := hid (elook_any _ W0 G S T _ ⟨v2, h4⟩ (Hte.out.other (F := tick (setClash E x) 1) rfl rfl) x hrm)
     unfold Stp at Hlook
     have H2 := hid h2
     obtain ⟨bx, hbx⟩ : ∃ bx, E.backs x = bx := ⟨_, rfl⟩
     obtain ⟨b2, hb2⟩ : ∃ b2, E.clash x = b2 := ⟨_, rfl⟩
     rw [hbx, hb2] at HCB
     rw [hbx] at c15; rw [hb2] at c18
     clear h2 h3 h4 hbx hb2
     obtain ⟨b1, hb1⟩ : ∃ b1, decide (0 < bx) = b1 := ⟨_, rfl⟩
     rw [hb1] at HCB
     cases b1 with
     | false =>
      have HDx := hid (HC0.out (by rw [HCB.out]; rfl))
      clear e8 f8
      go_wp2
      go_roundw
      case rel => exact ⟨k + 1, by omega, by go_num, by rw [Hf.out, HDx.out]; exact ⟨v2, H2.out⟩⟩
      case measure => simp [intOf]; omega
     | true =>
      cases b2 with
      | true =>
       have HDx := hid (HC0.out (by rw [HCB.out]; rfl))
       clear e8 f8
       go_wp2
       go_roundw
       case rel => exact ⟨k + 1, by omega, by go_num, by rw [Hf.out, HDx.out]; exact ⟨v2, H2.out⟩⟩
       case measure => simp [intOf]; omega
      | false =>
       have HDx := hid (HC1.out (by rw [HCB.out]; rfl))
       go_wp2_with fail
       refine Hlook.out.mono ?_
       rintro e w6 ⟨_, rfl, rfl, he6⟩
       clear e8 f8 hc Hlook
       go_wp2
       go_roundw
       case rel => exact ⟨k + 1, by omega, by go_num, by rw [Hf.out, HDx.out]; exact he6⟩
       case measure => simp [intOf]; omega
    ·have hkk : k = (S.foes q).length := by omega
     rw [hkk, List.take_length] at he
     have He := hid he
     clear he hkk
     have Hlook := hid (elook_any wr W0 G S T _ He.out (Ht1.out.steps (steps_foldl (S.foes q) D1 fun x hx D => steps_clash (Hfon.out x hx) D)) q hr)
     unfold Stp at Hlook
     clear He
     go_wp2_with fail
     refine Hlook.out.mono ?_
     rintro e w6 ⟨_, rfl, rfl, he6⟩
     go_wp2
     go_returns
     exact Fin HQ ⟨rfl, he6⟩

end Go.Proofs.Lx
