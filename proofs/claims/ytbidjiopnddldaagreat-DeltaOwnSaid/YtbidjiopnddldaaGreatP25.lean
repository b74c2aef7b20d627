/- Parts of the proof: Xn. Contract of theory.Cone. -/
import Derived.Test.YtbidjiopnddldaaGreatP15
import Derived.Test.YtbidjiopnddldaaGreatP13
import Derived.Test.YtbidjiopnddldaaGreatP11
import Derived.Deep.RegionHeld3
namespace Go.Proofs.Lx
open Go Go.RowKit Go.Proofs.Tj
set_option linter.unusedSimpArgs false
set_option linter.unusedVariables false
open Classical in
/-- The error's number that Cone answers. -/
noncomputable def coneErr (T : Th) (o : List Int) : Int := if checkErr T = 0 then (if ∀ x ∈ o, 0 ≤ x ∧ x < (T.foes.length : Int) then 0 else 91) else checkErr T
open Classical in
noncomputable def coneX (T : Th) (o : List Int) : List Int := if coneErr T o = 0 then coneL T o else []
set_option maxRecDepth 100000 in
set_option maxHeartbeats 3200000 in
theorem coneT_any (w : World) (V vl : Value) (T : Th) (o : List Int) (hT : RdTh w V T) (hl : RdI w vl o) :
  Calls Tryz.prog 69 #[V, vl] w (Ret (IntsPost w (coneX T o) (coneErr T o))) := by
 have HT := hid hT
 have Hl := hid hl
 obtain ⟨vF, vR, vB, rfl, hF, hR, hB⟩ := hT
 obtain ⟨AF, cF, rfl⟩ : ∃ A c, vF = .slice A T.foes.length c := by obtain ⟨A, c, e, _⟩ := hF; exact ⟨A, c, e⟩
 obtain ⟨AR, cR, rfl, _, hRn, _⟩ := hR
 obtain ⟨Al, cl, rfl, _, hln, _⟩ := hl
 obtain ⟨W1, HW1⟩ : ∃ W1, Hid (W1 = w.alloc (.cells #[.int .i64 T.lits, .slice AF T.foes.length cF, .slice AR T.rules.length cR, vB] 25)) := ⟨_, hid rfl⟩
 have hb1 : Below w.heap.size w W1 := by rw [HW1.out]; exact ext_alloc _ _
 have Hbox : Hid (∀ W, Below W1.heap.size W1 W → W.cell? ⟨w.heap.size, 0, none⟩ = some (.int .i64 T.lits) ∧ W.cell? ⟨w.heap.size, 1, none⟩ = some (.slice AF T.foes.length cF) ∧ W.cell? ⟨w.heap.size, 2, none⟩ = some (.slice AR T.rules.length cR) ∧ W.cell? ⟨w.heap.size, 3, none⟩ = some vB) := hid fun W h => by rw [HW1.out] at h; exact box4 h
 have Hrd : Hid (∀ W, Below W1.heap.size W1 W → RdLL W (.slice AF T.foes.length cF) T.foes ∧ RcRs W AR T.rules ∧ RdI W (.slice Al o.length cl) o) := hid fun W h => by
  refine ⟨?_, ?_, Hl.out.ext (scR_mono _) (ext_trans hb1 h)⟩
  ·exact hF.ext llR_mono (ext_trans hb1 h)
  ·obtain ⟨xF, xR, xB, hx, _, h2, _⟩ := HT.out.ext (ext_trans hb1 h)
   cases hx
   obtain ⟨A2, c2, e2, _, _, h3⟩ := h2
   cases e2
   exact h3
 have Hck := hid (check_any W1 _ T (HT.out.ext hb1))
 have Hb1 := hid hb1
 clear hF hB hb1
 refine post_gen fun Q HQ => ?_
 go_enter Tryz.func69, Tryz.ntmps69
 obtain ⟨a0, a1, a2, a3⟩ := Hbox.out W1 (ext_refl W1)
 rw [HW1.out] at a0 a1 a2 a3
 go_wp2_with fail
 rw [← HW1.out]
 refine Hck.out.mono ?_
 rintro e w2 ⟨_, rfl, ⟨i0, rfl⟩, hb2⟩
 clear Hck a0 a1 a2 a3
 by_cases hd : checkErr T = 0
 ·have Hwf := hid ((checkErr_ok T).1 hd)
  have hfl := Hwf.out.fl.symm
  have hl1 := Hwf.out.l1
  have hrl := Hwf.out.rl
  have Hd := hid hd
  rw [hd]
  clear hd
  obtain ⟨a0, a1, a2, a3⟩ := Hbox.out w2 hb2
  rw [hfl] at a0
  have hmk := mkL (T.foes.length : Int) (by omega) (by omega)
  rw [Int.toNat_natCast] at hmk
  have hsz2 := hb2.size
  have hsz1 : W1.heap.size = w.heap.size + 1 := by rw [HW1.out]; simp
  have hsz3 : w.heap.size < w2.heap.size := by omega
  have Hb2 := hid hb2
  clear hb2
  go_wp2_with fail
  clear hmk
  have Hs0 := hid (HW.start w2 T.foes.length)
  obtain ⟨gH, HgH⟩ : ∃ gH, Hid (gH = w2.heap.size) := ⟨_, hid rfl⟩
  rw [← HgH.out]
  rw [← HgH.out] at Hs0
  go_loopw [33] (fun v33 wr => ∃ (i : Nat) (us : List Value) (xss : List (List Int)), i ≤ T.rules.length ∧ v33 = .int .i64 (i : Int) ∧ HdR T i 0 xss ∧ HW w2 wr gH us xss) (fun v33 _ => T.rules.length - (intOf v33).toNat)
  case atStart => exact ⟨0, _, _, Nat.zero_le _, rfl, HdR.zero T, Hs0.out⟩
  case round =>
   clear a0 a1 a2 a3 Hs0
   obtain ⟨i, us, xss, hi, rfl, hhd, hhw⟩ := hrel
   obtain ⟨wo, rfl⟩ : ∃ wo : World, wo = wr := ⟨_, rfl⟩
   have hbo := ext_trans Hb2.out hhw.old
   by_cases hlt : i < T.rules.length
   ·obtain ⟨ad, C, cC, rfl, p0, p1, p2, q0, q1, q2⟩ := (Hrd.out w2 Hb2.out).2.1.atRule hlt
    have p0 := cell_ext hhw.old p0
    have p1 := cell_ext hhw.old p1
    have p2 := cell_ext hhw.old p2
    have e2 : T.rules.getD i default = T.rules[i] := by simp [hlt]
    have hok := Hwf.out.ru _ (List.getElem_mem hlt)
    simp only [ruleOk, Bool.and_eq_true, decide_eq_true_eq] at hok
    have Hbk := hid (risB_spec hok.2).1
    have hb16 : T.rules[i].body.length ≤ 16 := by omega
    have Hne : Hid (T.rules.getD i default = T.rules[i]) := hid e2
    generalize T.rules[i] = R at *
    clear hok e2
    have Hhd := hid hhd
    have Hhw0 := hid hhw
    obtain ⟨wx, HWX⟩ : ∃ wx, Hid (wx = wo.alloc (.cells #[.int .i64 R.kind, .int .i64 R.head, .slice C R.body.length cC] 93)) := ⟨_, hid rfl⟩
    have hbx : Below wo.heap.size wo wx := by rw [HWX.out]; exact ext_alloc _ _
    have hrb : wx.heap[wo.heap.size]? = some (.cells #[.int .i64 R.kind, .int .i64 R.head, .slice C R.body.length cC] 93 (0, 0)) := by rw [HWX.out]; exact heap_alloc_new wo _
    have Hhw1 := hid (Hhw0.out.ext hbx)
    have c2 : (wo.alloc (.cells #[.int .i64 R.kind, .int .i64 R.head, .slice C R.body.length cC] 93)).cell? ⟨wo.heap.size, 2, none⟩ = some (.slice C R.body.length cC) := by
     rw [← HWX.out, cell_of_row wx _ 2 _ _ _ hrb]; rfl
    have Hrbx := hid hrb
    clear hhd hhw hrb
    go_wp2_with fail
    rw [← HWX.out]
    clear c2
    obtain ⟨rb, Hrb0⟩ : ∃ rb, Hid (rb = wo.heap.size) := ⟨_, hid rfl⟩
    rw [← Hrb0.out]
    rw [← Hrb0.out] at Hrbx
    have Hwo := hid hbo
    clear p0 p1 p2 hbo
    go_loopw [40] (fun v40 wr => ∃ (k : Nat) (us : List Value) (xss : List (List Int)), k ≤ R.body.length ∧ v40 = .int .i64 (k : Int) ∧ HdR T i k xss ∧ HW w2 wr gH us xss ∧ wr.heap[rb]? = some (.cells #[.int .i64 R.kind, .int .i64 R.head, .slice C R.body.length cC] 93 (0, 0))) (fun v40 _ => R.body.length - (intOf v40).toNat)
    case atStart => exact ⟨0, us, xss, Nat.zero_le _, rfl, Hhd.out, Hhw1.out, Hrbx.out⟩
    case round =>
     clear Hhd Hhw0 Hhw1 Hrbx hbx
     obtain ⟨k, us, xss, hk, rfl, hhd, hhw, hrb⟩ := hrel
     by_cases hkl : k < R.body.length
     ·have hq3 : RcI wr C R.body := q2.ext (scR_mono _) hhw.old
      obtain ⟨ad2, rfl, hcell⟩ := hq3.at1 hkl
      obtain ⟨hx0, hxn⟩ := Hbk.out k hkl
      obtain ⟨q, hq⟩ := Int.eq_ofNat_of_zero_le hx0
      rw [hq] at hcell
      have hqf : q < T.foes.length := by omega
      have hqr : q < xss.length := by rw [hhd.len]; exact hqf
      have hqn : q < us.length := by rw [hhw.rows.len]; exact hqr
      have hi0 : (0 : Int) ≤ (q : Int) := by omega
      have hi1 : (q : Int) < (T.foes.length : Int) := by omega
      have hnq := hhd.le q hqr
      have Hnx : Hid (HdR T i (k + 1) (xss.set q (xss[q] ++ [R.head]))) := hid (by
       have h9 := hhd.append hlt (k := k) (q := q) (by rw [Hne.out]; exact hkl) (by simp only [Hne.out]; exact hq) hqr
       rw [Hne.out] at h9; exact h9)
      have Hhw := hid hhw
      have hst := hhw.rows.own q hqn hqr
      have hcq := hhw.rows.cell hqn
      have hfq := hhw.rows.free q
      have hbs := hhw.sz
      have hRlt := hhw.rows.lt
      have Hrb := hid hrb
      have c1 : wr.cell? ⟨rb, 1, none⟩ = some (.int .i64 R.head) := by rw [cell_of_row wr rb 1 _ _ _ hrb]; rfl
      have Hrb2 : Hid (∀ (A : Obj) (w' : World) (v' : Value), ((wr.alloc A).drew).grownBy w' us[q].ownBlock → (w'.setCell ⟨gH, q, none⟩ v').heap[rb]? = some (.cells #[.int .i64 R.kind, .int .i64 R.head, .slice (some ad2) R.body.length cC] 93 (0, 0))) := hid fun A w' v' hgr =>
       (heap_setCell_other _ _ _ _ (fun e => by
        have h9 := Hhw.out.rows.blk
        dsimp only at e
        rw [← e, Hrb.out] at h9
        injection h9 with h9
        injection h9 with _ h9
        exact absurd h9 (by decide))).trans (Hhw.out.after hqn hgr Hrb.out (by decide)).1
      have Haft : Hid (∀ (A : Obj) (w' : World), ((wr.alloc A).drew).grownBy w' us[q].ownBlock → w'.cell? ⟨rb, 1, none⟩ = some (.int .i64 R.head) ∧ w'.cell? ⟨gH, q, none⟩ = some us[q] ∧ w'.frozen? ⟨gH, q, none⟩ = false) := hid fun A w' hgr => by
       obtain ⟨h1, h2, h3⟩ := Hhw.out.after hqn hgr Hrb.out (by decide)
       exact ⟨by rw [cell_of_row w' rb 1 _ _ _ h1]; rfl, h2, h3⟩
      have Hka : Hid (∀ A : Obj, ((wr.alloc A).drew).cell? ⟨rb, 1, none⟩ = some (.int .i64 R.head)) := hid fun A => cell_ext (ext_alloc wr A).drew c1
      have hrg : rb ≠ gH := fun e => by
       have h9 := hhw.rows.blk
       rw [← e, hrb] at h9
       injection h9 with h9
       injection h9 with _ h9
       exact absurd h9 (by decide)
      have Hst : Hid (∀ (W : World) (u : Value), W.cell? ⟨rb, 1, none⟩ = some (.int .i64 R.head) → (W.setCell ⟨gH, q, none⟩ u).cell? ⟨rb, 1, none⟩ = some (.int .i64 R.head)) := hid fun W u h => by
       rw [← h]; exact World.cell?_of_block (heap_setCell_other _ _ _ _ hrg)
      clear hhd hhw hrb hrg hx0 hxn hq hq3
      generalize R.head = hd at *
      go_wp2_with fail
      refine wp_region_noPanic ?_
      refine wp_region_held_drew (S := fun W' : World => W'.cell? ⟨rb, 1, none⟩ = some (.int .i64 hd)) (by kernel_rfl) (by assumption) (fun hHeld => ?_)
      refine wpAnyH_take (i := 0) (v := ?v1) rfl (by kernel_rfl) (by kernel_rfl) (by kernel_rfl) (fun _ _ _ h => h) (Or.inl ⟨by rfl, ?hy1⟩) (by assumption) ?rest1
      case hy1 => (intro w hSw; (try dsimp only at hSw); go_simp) <;> try with_reducible rfl
      try simp only [Act.put, List.setIfInBounds_toArray, List.set_cons_zero, List.set_cons_succ]
      refine wpAnyH_take (i := 1) (v := ?v2) rfl (by kernel_rfl) (by kernel_rfl) (by kernel_rfl) (fun _ _ _ h => h) (Or.inl ⟨by rfl, ?hy2⟩) (by assumption) ?rest2
      case hy2 => (intro w hSw; (try dsimp only at hSw); go_simp) <;> try with_reducible rfl
      try simp only [Act.put, List.setIfInBounds_toArray, List.set_cons_zero, List.set_cons_succ]
      refine wpAnyH_take (i := 2) (v := ?v3) rfl (by kernel_rfl) (by kernel_rfl) (by kernel_rfl) (fun _ _ _ h => h) (Or.inl ⟨by rfl, ?hy3⟩) (by assumption) ?rest3
      case hy3 => (intro w hSw; (try dsimp only at hSw); go_simp) <;> try with_reducible rfl
      try simp only [Act.put, List.setIfInBounds_toArray, List.set_cons_zero, List.set_cons_succ]
      refine wpAnyH_take (i := 3) (v := ?v4) rfl (by kernel_rfl) (by kernel_rfl) (by kernel_rfl) (fun _ _ _ h => h) (Or.inl ⟨by rfl, ?hy4⟩) (by assumption) ?rest4
      case hy4 => (intro w hSw; (try dsimp only at hSw); go_simp) <;> try with_reducible rfl
      try simp only [Act.put, List.setIfInBounds_toArray, List.set_cons_zero, List.set_cons_succ]
      refine wpAnyH_take (i := 4) (v := ?v5) rfl (by kernel_rfl) (by kernel_rfl) (by kernel_rfl) (fun _ _ _ h => h) (Or.inl ⟨by rfl, ?hy5⟩) (by assumption) ?rest5
      case hy5 => (intro w hSw; (try dsimp only at hSw); go_simp) <;> try with_reducible rfl
      try simp only [Act.put, List.setIfInBounds_toArray, List.set_cons_zero, List.set_cons_succ]
      refine wpAnyH_take (i := 6) (v := ?v6) rfl (by kernel_rfl) (by kernel_rfl) (by kernel_rfl) (fun _ _ _ h => h) (Or.inl ⟨by rfl, ?hy6⟩) (by assumption) ?rest6
      case hy6 => (intro w hSw; (try dsimp only at hSw); go_simp) <;> try with_reducible rfl
      try simp only [Act.put, List.setIfInBounds_toArray, List.set_cons_zero, List.set_cons_succ]
      refine wpAnyH_take (i := 7) (v := ?v7) rfl (by kernel_rfl) (by kernel_rfl) (by kernel_rfl) (fun _ _ _ h => h) (Or.inl ⟨by rfl, ?hy7⟩) (by assumption) ?rest7
      case hy7 => (intro w hSw; (try dsimp only at hSw); go_simp) <;> try with_reducible rfl
      try simp only [Act.put, List.setIfInBounds_toArray, List.set_cons_zero, List.set_cons_succ]
      refine wpAnyH_ready (rs := [5, 8]) (by kernel_rfl) (by simp) ?_
      refine AllReadyH.cons rfl (fun K9 hK9 => ?_) (AllReadyH.cons rfl (fun K9 hK9 => ?_) AllReadyH.nil)
      ·go_simp
       refine hK9.out _ _ (by assumption) (fun hHeld => ?_)
       clear hK9 K9
       try simp only [Act.put, List.setIfInBounds_toArray, List.set_cons_zero, List.set_cons_succ]
       refine wpAnyH_ready (rs := [8]) (by kernel_rfl) (by simp) ?_
       refine AllReadyH.cons rfl (fun K9 hK9 => ?_) AllReadyH.nil
       go_simp
       refine hK9.out _ _ (Hka.out _) (fun hHeld => ?_)
       clear hK9 K9
       try simp only [Act.put, List.setIfInBounds_toArray, List.set_cons_zero, List.set_cons_succ]
       refine wpAnyH_ready (rs := [9]) (by kernel_rfl) (by simp) ?_
       refine AllReadyH.cons rfl (fun K9 hK9 => ?_) AllReadyH.nil
       (refine step_append_own_at rfl (.tmp 49) (.tmp 52) 36 rfl (gH + 1) 3 (.int .i64 0) 8 Tryz.underlying36 infoI rfl us[q] _ _ rfl (hst.alloc _) _ (.int .i64 hd) rfl (by simp [go_sem]) rfl (by unfold maxLen; omega) (by omega) (by simp; omega) ?_; intro v' w' hown hgrow hat; obtain ⟨gn, cn, rfl⟩ := own_form hown; obtain ⟨hqS, hqR, hqF⟩ := Haft.out _ w' hgrow)
       refine hK9.out _ _ hqS (fun hHeld => ?_)
       clear hK9 K9
       try simp only [Act.put, List.setIfInBounds_toArray, List.set_cons_zero, List.set_cons_succ]
       refine wpAnyH_take (i := 10) (v := ?v8) rfl (by kernel_rfl) (by kernel_rfl) (by kernel_rfl) (fun _ _ _ h => h) (Or.inl ⟨by rfl, ?hy8⟩) (by assumption) ?rest8
       case hy8 => (intro w hSw; (try dsimp only at hSw); go_simp) <;> try with_reducible rfl
       try simp only [Act.put, List.setIfInBounds_toArray, List.set_cons_zero, List.set_cons_succ]
       refine wpAnyH_ready (rs := [11]) (by kernel_rfl) (by simp) ?_
       refine AllReadyH.cons rfl (fun K9 hK9 => ?_) AllReadyH.nil
       go_simp
       refine hK9.out _ _ (Hst.out _ _ hqS) (fun hHeld => ?_)
       clear hK9 K9
       try simp only [Act.put, List.setIfInBounds_toArray, List.set_cons_zero, List.set_cons_succ]
       refine wpAnyH_done (by kernel_rfl) (NoPanic.normal ?_) _
       clear hqS hqR hqF
       go_wp2_with fail
       go_roundw
       case rel =>
        exact ⟨k + 1, _, _, by omega, by go_num, Hnx.out, Hhw.out.append hqn hqr hgrow hown hat, Hrb2.out _ _ _ hgrow⟩
       case measure => simp [intOf]; omega
      ·go_simp
       refine hK9.out _ _ (Hka.out _) (fun hHeld => ?_)
       clear hK9 K9
       try simp only [Act.put, List.setIfInBounds_toArray, List.set_cons_zero, List.set_cons_succ]
       refine wpAnyH_ready (rs := [5]) (by kernel_rfl) (by simp) ?_
       refine AllReadyH.cons rfl (fun K9 hK9 => ?_) AllReadyH.nil
       go_simp
       refine hK9.out _ _ (Hka.out _) (fun hHeld => ?_)
       clear hK9 K9
       try simp only [Act.put, List.setIfInBounds_toArray, List.set_cons_zero, List.set_cons_succ]
       refine wpAnyH_ready (rs := [9]) (by kernel_rfl) (by simp) ?_
       refine AllReadyH.cons rfl (fun K9 hK9 => ?_) AllReadyH.nil
       (refine step_append_own_at rfl (.tmp 49) (.tmp 52) 36 rfl (gH + 1) 3 (.int .i64 0) 8 Tryz.underlying36 infoI rfl us[q] _ _ rfl (hst.alloc _) _ (.int .i64 hd) rfl (by simp [go_sem]) rfl (by unfold maxLen; omega) (by omega) (by simp; omega) ?_; intro v' w' hown hgrow hat; obtain ⟨gn, cn, rfl⟩ := own_form hown; obtain ⟨hqS, hqR, hqF⟩ := Haft.out _ w' hgrow)
       refine hK9.out _ _ hqS (fun hHeld => ?_)
       clear hK9 K9
       try simp only [Act.put, List.setIfInBounds_toArray, List.set_cons_zero, List.set_cons_succ]
       refine wpAnyH_take (i := 10) (v := ?v9) rfl (by kernel_rfl) (by kernel_rfl) (by kernel_rfl) (fun _ _ _ h => h) (Or.inl ⟨by rfl, ?hy9⟩) (by assumption) ?rest9
       case hy9 => (intro w hSw; (try dsimp only at hSw); go_simp) <;> try with_reducible rfl
       try simp only [Act.put, List.setIfInBounds_toArray, List.set_cons_zero, List.set_cons_succ]
       refine wpAnyH_ready (rs := [11]) (by kernel_rfl) (by simp) ?_
       refine AllReadyH.cons rfl (fun K9 hK9 => ?_) AllReadyH.nil
       go_simp
       refine hK9.out _ _ (Hst.out _ _ hqS) (fun hHeld => ?_)
       clear hK9 K9
       try simp only [Act.put, List.setIfInBounds_toArray, List.set_cons_zero, List.set_cons_succ]
       refine wpAnyH_done (by kernel_rfl) (NoPanic.normal ?_) _
       clear hqS hqR hqF
       go_wp2_with fail
       go_roundw
       case rel =>
        exact ⟨k + 1, _, _, by omega, by go_num, Hnx.out, Hhw.out.append hqn hqr hgrow hown hat, Hrb2.out _ _ _ hgrow⟩
       case measure => simp [intOf]; omega
     ·obtain rfl : k = R.body.length := by omega
      have Hhd := hid (hhd.next hlt (by rw [Hne.out]) hb16)
      have Hhw := hid hhw
      clear hhd hhw hrb
      go_wp2_with fail
      go_roundw
      case rel => exact ⟨i + 1, us, xss, by omega, by go_num, Hhd.out, Hhw.out⟩
      case measure => simp [intOf]; omega
   ·obtain rfl : i = T.rules.length := by omega
    have Hhd := hid hhd
    have Hhw := hid hhw
    obtain ⟨a0, a1, a2, a3⟩ := Hbox.out wo hbo
    rw [hfl] at a0
    have hmk := mkB (T.foes.length : Int) (by omega) (by omega)
    rw [Int.toNat_natCast] at hmk
    have hszo : w.heap.size < wo.heap.size := by have := hhw.old.size; omega
    have Hbo := hid hbo
    have Hcp0 := hid (CP.start wo T.foes.length)
    obtain ⟨Wc, HWc⟩ : ∃ Wc, Hid (Wc = ((wo.alloc (.cells (madeCells #[Value.bool false] T.foes.length) 4)).alloc (.cells #[.slice (some ⟨wo.heap.size, 0, none⟩) T.foes.length T.foes.length] 90)).alloc (.cells #[.slice none 0 0] 36)) := ⟨_, hid rfl⟩
    have Hbc : Hid (Below wo.heap.size wo Wc) := hid (by
     rw [HWc.out]
     exact ((ext_alloc _ _).alloc (by simp) _).alloc (by simp; omega) _)
    have Hb1c : Hid (Below W1.heap.size W1 Wc) := hid (ext_trans Hbo.out Hbc.out)
    have hgI : W1.heap.size ≤ wo.heap.size := Hbo.out.size
    rw [← HWc.out] at Hcp0
    clear hhd hhw hbo
    go_wp2_with fail
    rw [← HWc.out]
    clear hmk a0 a1 a2 a3
    go_loopw [63] (fun v63 wr => ∃ k : Nat, k ≤ o.length ∧ v63 = .int .i64 (k : Int) ∧ wr = Wc ∧ ∀ j (hj : j < k) (hjo : j < o.length), 0 ≤ o[j] ∧ o[j] < (T.foes.length : Int)) (fun v63 _ => o.length - (intOf v63).toNat)
    case atStart => exact ⟨0, Nat.zero_le _, rfl, rfl, fun j hj => by omega⟩
    case round =>
     obtain ⟨k, hk, rfl, rfl, hin⟩ := hrel
     obtain ⟨a0, a1, a2, a3⟩ := Hbox.out wr Hb1c.out
     rw [hfl] at a0
     have Hin := hid hin
     clear hin
     by_cases hko : k < o.length
     ·obtain ⟨Ax, cx, ex, _, _, hro⟩ := (Hrd.out wr Hb1c.out).2.2
      cases ex
      obtain ⟨ado, rfl, hcell⟩ := hro.at1 hko
      have Hx := hid (List.getElem_mem hko)
      by_cases hx : 0 ≤ o[k] ∧ o[k] < (T.foes.length : Int)
      ·have Hx2 := hid hx
       obtain ⟨hx0, hxn⟩ := hx
       generalize hox : o[k] = x at *
       have hx1 : ¬ x < 0 := by omega
       have hx3 : ¬ (T.foes.length : Int) ≤ x := by omega
       have Hox := hid hox
       clear hox
       go_wp2_with fail
       go_roundw
       case rel =>
        refine ⟨k + 1, by omega, by go_num, by trivial, fun j hj hjo => ?_⟩
        by_cases e : j = k
        ·subst e; rw [Hox.out]; exact Hx2.out
        ·exact Hin.out j (by omega) hjo
       case measure => simp [intOf]; omega
      ·have he : coneErr T o = 91 := by unfold coneErr; rw [if_pos Hd.out, if_neg (fun h => hx (h _ Hx.out))]
       have hX : coneX T o = [] := by unfold coneX; rw [he, if_neg (by decide)]
       rw [he, hX] at HQ
       clear he hX Hx
       generalize o[k] = x at *
       have Hb9 := hid (ext_trans Hb1.out Hb1c.out)
       by_cases hx0 : x < 0
       ·clear hx
        go_wp2_with fail
        go_ret2
        exact Fin HQ ⟨_, rfl, World.ownsRow_nil _ _ _ _, Hb9.out⟩
       ·have hx2 : (T.foes.length : Int) ≤ x := by omega
        clear hx
        go_wp2_with fail
        go_ret2
        exact Fin HQ ⟨_, rfl, World.ownsRow_nil _ _ _ _, Hb9.out⟩
     ·obtain rfl : k = o.length := by omega
      have Hrg : Hid (∀ x ∈ o, 0 ≤ x ∧ x < (T.foes.length : Int)) := hid fun x hx => by
       obtain ⟨j, hj, rfl⟩ := List.getElem_of_mem hx
       exact Hin.out j hj hj
      have he : coneErr T o = 0 := by unfold coneErr; rw [if_pos Hd.out, if_pos Hrg.out]
      have hX : coneX T o = coneL T o := by unfold coneX; rw [if_pos he]
      rw [he, hX] at HQ
      have Hlo : Hid (∀ W, Below wo.heap.size wr W → Below W1.heap.size W1 W) := hid fun W hW => Hb1c.out.trans (hW.mono hgI)
      have Hp := hid (put_any wr wo.heap.size T.foes.length [] o (.slice Al o.length cl) Hcp0.out (DOk.nil _) (by omega) Hrg.out fun W hW => (Hrd.out W (Hlo.out W hW)).2.2)
      clear he hX Hin hk hko
      go_wp2_with fail
      refine Hp.out.mono ?_
      rintro e w4 ⟨_, rfl, rfl, hcp4, hb4⟩
      have Hcp4 := hid hcp4
      have Hb4 := hid hb4
      clear Hp hcp4 hb4 a0 a1 a2 a3
      go_wp2_with fail
      obtain ⟨wc, rfl⟩ : ∃ wc : World, wc = wr := ⟨_, rfl⟩
      go_loopw [18] (fun v18 wr => ∃ (i : Nat) (D : List Int), i ≤ D.length ∧ v18 = .int .i64 (i : Int) ∧ PI T o D i ∧ CP wr wo.heap.size T.foes.length D ∧ Below wo.heap.size wc wr) (fun v18 _ => T.foes.length - (intOf v18).toNat)
      case atStart => exact ⟨0, _, Nat.zero_le _, rfl, PI.start Hrg.out, Hcp4.out, Hb4.out⟩
      case round =>
       clear Hcp4 Hb4
       obtain ⟨i, D, hi, rfl, hpi, hcp, hbl⟩ := hrel
       have hle := hpi.ok.le
       have Hbl := hid hbl
       have hw1 := Hlo.out wr hbl
       obtain ⟨a0, a1, a2, a3⟩ := Hbox.out wr hw1
       rw [hfl] at a0
       obtain ⟨v, ht, ho⟩ := hcp.htd
       have c14 : wr.cell? ⟨wo.heap.size + 2, 0, none⟩ = some v := by rw [cell_of_row wr _ 0 _ _ _ ht]; rfl
       have hrd : RdI wr v D := own_rdI ho (by omega)
       obtain ⟨Av, cv, rfl, _, _, hrv⟩ := hrd
       have Hpi := hid hpi
       have Hcp := hid hcp
       by_cases hiD : i < D.length
       ·obtain ⟨adv, rfl, hcv⟩ := hrv.at1 hiD
        obtain ⟨hx0, hxn⟩ := hpi.ok.rg _ (List.getElem_mem hiD)
        obtain ⟨x, hx⟩ := Int.eq_ofNat_of_zero_le hx0
        rw [hx] at hcv hxn
        have hxf : x < T.foes.length := by omega
        have hxi0 : (0 : Int) ≤ (x : Int) := by omega
        obtain ⟨AF', cF', eF, _, _, hrF⟩ := (Hrd.out W1 (ext_refl _)).1
        cases eF
        obtain ⟨adF, B, cB', rfl, hcF, hB1, hB2, hrow⟩ := hrF.atRow hxf
        have hcF2 := cell_ext hw1 hcF
        have Hf1 : Hid (∀ W, Below wo.heap.size wr W → RdI W (.slice B T.foes[x].length cB') T.foes[x]) := hid fun W hW => Rd.ext (scR_mono _) ⟨B, cB', rfl, hB1, hB2, hrow⟩ (hw1.trans (hW.mono hgI))
        have hL1 : ∀ y ∈ T.foes[x], 0 ≤ y ∧ y < (T.foes.length : Int) := fun y hy => foes_in Hwf.out hxf (by rw [row_nat _ _ hxf]; exact hy)
        have Hp1 := hid (put_any wr.drew wo.heap.size T.foes.length D T.foes[x] _ (hcp.ext (Below.drew (ext_refl _))) hpi.ok (by omega) hL1 fun W hW => Hf1.out W ((Below.drew (Below.refl _ _)).trans hW))
        have hxr : x < xss.length := by rw [Hhd.out.len]; exact hxf
        have hxu : x < us.length := by rw [Hhw.out.rows.len]; exact hxr
        have hL2 : ∀ y, y ∈ xss[x] ↔ HdOf T (x : Int) y := fun y => Hhd.out.done hxr y
        have HP : Hid (PI T o (addAll (addAll D T.foes[x]) xss[x]) (i + 1)) := hid (by
         have h9 := hpi.step Hwf.out hiD hx hL2
         rw [row_nat _ _ hxf] at h9; exact h9)
        have Hp2 : Hid (∀ W, Below wo.heap.size wr W → CP W wo.heap.size T.foes.length (addAll D T.foes[x]) → Calls Tryz.prog 85 #[us[x], .pointer (some ⟨wo.heap.size + 1, 0, none⟩), .pointer (some ⟨wo.heap.size + 2, 0, none⟩)] W (Ret fun r w' => r = .tuple #[] ∧ CP w' wo.heap.size T.foes.length (addAll (addAll D T.foes[x]) xss[x]) ∧ Below wo.heap.size W w')) := hid fun W hW hc => by
         have h16 := Hhd.out.le x hxr
         refine put_any W wo.heap.size T.foes.length (addAll D T.foes[x]) xss[x] us[x] hc (Hpi.out.ok.addAll hL1) (by omega) (fun y hy => heads_in Hwf.out ((hL2 y).1 hy)) fun W' hW' => ?_
         exact own_rdI ((Hhw.out.rows.ext (Hbc.out.trans (Hbl.out.trans (hW.trans hW')))).own x hxu hxr) (by omega)
        have Hcg : Hid (∀ W, Below wo.heap.size wr W → W.cell? ⟨gH, x, none⟩ = some us[x]) := hid fun W hW => (Hhw.out.rows.ext (Hbc.out.trans (Hbl.out.trans hW))).cell hxu
        have Ht7 : Hid (∀ W, CP W wo.heap.size T.foes.length (addAll D T.foes[x]) → ∃ ad' cap', W.cell? ⟨wo.heap.size + 2, 0, none⟩ = some (.slice (some ad') (addAll D T.foes[x]).length cap') ∧ i < (addAll D T.foes[x]).length ∧ W.cell? (ad'.add i) = some (.int .i64 (x : Int))) := hid fun W hc => by
         obtain ⟨E, hE⟩ := addAll_pre T.foes[x] D
         obtain ⟨u, hu, hou⟩ := hc.htd
         have hl7 : (addAll D T.foes[x]).length ≤ T.foes.length := (Hpi.out.ok.addAll hL1).le
         have hi7 : i < (addAll D T.foes[x]).length := by rw [hE, List.length_append]; omega
         obtain ⟨A7, c7, rfl, _, _, hr7⟩ := own_rdI hou (by omega)
         obtain ⟨ad7, rfl, h7⟩ := hr7.at1 hi7
         refine ⟨ad7, c7, by rw [cell_of_row W _ 0 _ _ _ hu]; rfl, hi7, ?_⟩
         rw [h7]
         have : (addAll D T.foes[x])[i] = D[i] := by simp only [hE]; exact List.getElem_append_left hiD
         rw [this, hx]
        have hl7 : (addAll D T.foes[x]).length ≤ T.foes.length := (hpi.ok.addAll hL1).le
        clear hcF hrow hL1 hL2 hx hrv hpi hcp ht ho hx0 hrF hB1 hB2
        generalize T.foes[x] = F1 at *
        go_wp2_with fail
        refine wp_region_noPanic ?_
        refine wp_region_held_drew (S := fun W' : World => W'.cell? ⟨w.heap.size, 1, none⟩ = some (.slice (some adF) T.foes.length cF)) (by kernel_rfl) (by assumption) (fun hHeld => ?_)
        refine wpAnyH_take (i := 0) (v := ?v10) rfl (by kernel_rfl) (by kernel_rfl) (by kernel_rfl) (fun _ _ _ h => h) (Or.inl ⟨by rfl, ?hy10⟩) (by assumption) ?rest10
        case hy10 => (intro w hSw; (try dsimp only at hSw); go_simp) <;> try with_reducible rfl
        try simp only [Act.put, List.setIfInBounds_toArray, List.set_cons_zero, List.set_cons_succ]
        refine wpAnyH_take (i := 1) (v := ?v11) rfl (by kernel_rfl) (by kernel_rfl) (by kernel_rfl) (fun _ _ _ h => h) (Or.inl ⟨by rfl, ?hy11⟩) (by assumption) ?rest11
        case hy11 => (intro w hSw; (try dsimp only at hSw); go_simp) <;> try with_reducible rfl
        try simp only [Act.put, List.setIfInBounds_toArray, List.set_cons_zero, List.set_cons_succ]
        refine wpAnyH_take (i := 2) (v := ?v12) rfl (by kernel_rfl) (by kernel_rfl) (by kernel_rfl) (fun _ _ _ h => h) (Or.inl ⟨by rfl, ?hy12⟩) (by assumption) ?rest12
        case hy12 => (intro w hSw; (try dsimp only at hSw); go_simp) <;> try with_reducible rfl
        try simp only [Act.put, List.setIfInBounds_toArray, List.set_cons_zero, List.set_cons_succ]
        refine wpAnyH_take (i := 4) (v := ?v13) rfl (by kernel_rfl) (by kernel_rfl) (by kernel_rfl) (fun _ _ _ h => h) (Or.inl ⟨by rfl, ?hy13⟩) (by assumption) ?rest13
        case hy13 => (intro w hSw; (try dsimp only at hSw); go_simp) <;> try with_reducible rfl
        try simp only [Act.put, List.setIfInBounds_toArray, List.set_cons_zero, List.set_cons_succ]
        refine wpAnyH_ready (rs := [3]) (by kernel_rfl) (by simp) ?_
        refine AllReadyH.cons rfl (fun K9 hK9 => ?_) AllReadyH.nil
        go_simp
        refine hK9.out _ _ (by assumption) (fun hHeld => ?_)
        clear hK9 K9
        try simp only [Act.put, List.setIfInBounds_toArray, List.set_cons_zero, List.set_cons_succ]
        refine wpAnyH_take (i := 5) (v := ?v14) rfl (by kernel_rfl) (by kernel_rfl) (by kernel_rfl) (fun _ _ _ h => h) (Or.inl ⟨by rfl, ?hy14⟩) (by assumption) ?rest14
        case hy14 => (intro w hSw; (try dsimp only at hSw); go_simp) <;> try with_reducible rfl
        try simp only [Act.put, List.setIfInBounds_toArray, List.set_cons_zero, List.set_cons_succ]
        refine wpAnyH_ready (rs := [6]) (by kernel_rfl) (by simp) ?_
        refine AllReadyH.cons rfl (fun K9 hK9 => ?_) AllReadyH.nil
        go_simp
        refine hK9.out _ _ (by assumption) (fun hHeld => ?_)
        clear hK9 K9
        try simp only [Act.put, List.setIfInBounds_toArray, List.set_cons_zero, List.set_cons_succ]
        refine wpAnyH_take (i := 7) (v := ?v15) rfl (by kernel_rfl) (by kernel_rfl) (by kernel_rfl) (fun _ _ _ h => h) (Or.inl ⟨by rfl, ?hy15⟩) (by assumption) ?rest15
        case hy15 => (intro w hSw; (try dsimp only at hSw); go_simp) <;> try with_reducible rfl
        try simp only [Act.put, List.setIfInBounds_toArray, List.set_cons_zero, List.set_cons_succ]
        refine wpAnyH_ready (rs := [8]) (by kernel_rfl) (by simp) ?_
        refine AllReadyH.cons rfl (fun K9 hK9 => ?_) AllReadyH.nil
        go_simp
        refine hK9.out _ _ (by assumption) (fun hHeld => ?_)
        clear hK9 K9
        try simp only [Act.put, List.setIfInBounds_toArray, List.set_cons_zero, List.set_cons_succ]
        refine wpAnyH_ready (rs := [9]) (by kernel_rfl) (by simp) ?_
        refine AllReadyH.cons rfl (fun K9 hK9 => ?_) AllReadyH.nil
        go_simp
        refine Hp1.out.mono ?_
        rintro e w7 ⟨_, rfl, rfl, hcp7, hb7⟩
        have hb7 := (Below.drew (Below.refl _ _)).trans hb7
        have hS7 := (Hbox.out w7 (Hlo.out w7 (Hbl.out.trans hb7))).2.1
        go_simp
        refine hK9.out _ _ hS7 (fun hHeld => ?_)
        clear hK9 K9
        try simp only [Act.put, List.setIfInBounds_toArray, List.set_cons_zero, List.set_cons_succ]
        refine wpAnyH_done (by kernel_rfl) (NoPanic.normal ?_) _
        have hw7 : Below wo.heap.size wr w7 := hb7
        obtain ⟨adt, cpt, k14, hi7, k15⟩ := Ht7.out w7 hcp7
        have kg := Hcg.out w7 hw7
        have Hcall := hid (Hp2.out w7 hw7 hcp7)
        have Hb7 := hid hb7
        have Hcp7 := hid hcp7
        clear hcp7 hb7 hw7 hS7 Hp1 Hp2
        clear a0 a1 a2 a3 c14 hcv hcF2
        go_wp2_with fail
        refine Hcall.out.mono ?_
        rintro e w8 ⟨_, rfl, rfl, hcp8, hb8⟩
        have Hcp8 := hid hcp8
        have Hb8 := hid hb8
        clear hcp8 hb8 k14 k15 kg
        go_wp2_with fail
        go_roundw
        case rel => exact ⟨i + 1, _, by obtain ⟨E2, e2⟩ := addAll_pre xss[x] (addAll D F1); rw [e2, List.length_append]; omega, by go_num, HP.out, Hcp8.out, Hbl.out.trans (Hb7.out.trans Hb8.out)⟩
        case measure => simp [intOf]; omega
       ·obtain rfl : i = D.length := by omega
        have c13 : wr.cell? ⟨wo.heap.size + 1, 0, none⟩ = some (.slice (some ⟨wo.heap.size, 0, none⟩) T.foes.length T.foes.length) := by rw [cell_of_row wr _ 0 _ _ _ hcp.hin]; rfl
        have hrb := hcp.arr.reads (by rw [factsB_length]; omega) T.foes.length (by rw [factsB_length]; omega)
        rw [factsB_length] at hrb
        have Hm := hid (cmarked_any wr _ _ hrb (by rw [factsB_length]; omega))
        rw [hpi.done] at Hm
        clear hpi hcp ht ho hrv hrb
        go_wp2_with fail
        refine Hm.out.mono ?_
        rintro e w9 ⟨r9, rfl, hown, hb9⟩
        have hb19 : Below w.heap.size w w9 := ext_trans Hb1.out (ext_trans hw1 hb9)
        have Hown := hid hown
        have Hb19 := hid hb19
        have hsz9 := hw1.size
        clear hown hb19
        go_wp2_with fail
        go_ret2
        have hsz : w.heap.size ≤ wr.heap.size := by omega
        exact Fin HQ ⟨_, rfl, ⟨Hown.out.1, Hown.out.2.imp id fun ⟨g9, c9, u9, h1, h2, h3⟩ => ⟨g9, c9, u9, h1, by omega, h3⟩⟩, Hb19.out⟩
 ·have Hd := hid hd
  have he : coneErr T o = checkErr T := by unfold coneErr; rw [if_neg hd]
  have hX : coneX T o = [] := by unfold coneX; rw [he, if_neg hd]
  rw [he, hX] at HQ
  generalize checkErr T = d at *
  clear he hX
  go_wp2_with fail
  go_ret2
  exact Fin HQ ⟨_, rfl, World.ownsRow_nil _ _ _ _, ext_trans Hb1.out hb2⟩
end Go.Proofs.Lx
