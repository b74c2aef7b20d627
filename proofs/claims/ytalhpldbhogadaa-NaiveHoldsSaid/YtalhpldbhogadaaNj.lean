/- Contract of naive.run: the walk. -/
import Derived.Test.YtalhpldbhogadaaNi
import Derived.Deep.DeepCutAuto
namespace Go.Proofs.Lx
open Go Go.RowKit
set_option linter.unusedSimpArgs false
set_option linter.unusedVariables false

theorem own_mono {w : World} {base base' e size n : Nat} {v : Value} {xs : List Value} (h : w.ownsRow base e size v n xs) (hb : base' ≤ base) : w.ownsRow base' e size v n xs :=
  ⟨h.1, h.2.imp id fun ⟨g, cap, cur, h1, h2, h3⟩ => ⟨g, cap, cur, h1, Nat.le_trans hb h2, h3⟩⟩

set_option maxRecDepth 100000 in
set_option maxHeartbeats 6400000 in
theorem run_any (w : World) (V vl : Value) (T : Th) (l : List Int) (hT : RdTh w V T) (hwf : WfTh T) (hl : RdI w vl l) (hlr : risB l T.lits = true) :
    Calls Try.prog 56 #[V, vl] w (Ret fun r w' => ∃ (k : Nat) (v : Value), r = .tuple #[v, .int .i64 k] ∧ w'.ownsRow w.heap.size 33 1 v T.foes.length (marksV (itM (stepM T l) k (startM T))) ∧ stepM T l (itM (stepM T l) k (startM T)) = itM (stepM T l) k (startM T) ∧ (∀ j, j < k → itM (stepM T l) (j + 1) (startM T) ≠ itM (stepM T l) j (startM T)) ∧ Below w.heap.size w w') := by
  have Hwf := hid hwf
  have HT := hid hT
  obtain ⟨vF, vR, vB, rfl, hF, ⟨AR, cR, rfl, hcR, hbR, hrR⟩, ⟨AB, cB, rfl, hcB, hbB, hrB⟩⟩ := hT
  obtain ⟨A, c, rfl, hc, hb, hr⟩ := hF
  have hl0 := hwf.l0; have hl1 := hwf.l1; have hfl := hwf.fl
  obtain ⟨W1, HW1⟩ : ∃ W1, Hid (W1 = w.alloc (.cells #[.int .i64 T.lits, .slice A T.foes.length c, .slice AR T.rules.length cR, .slice AB T.beats.length cB] 25)) := ⟨_, hid rfl⟩
  have hmM := mkM T.lits hl0 (by omega)
  have hln : T.lits.toNat = T.foes.length := by omega
  rw [hln] at hmM
  have hcall : ∀ (W : World) (vm : Value), Below (w.alloc (.cells #[.int .i64 T.lits, .slice A T.foes.length c, .slice AR T.rules.length cR, .slice AB T.beats.length cB] 25)).heap.size (w.alloc (.cells #[.int .i64 T.lits, .slice A T.foes.length c, .slice AR T.rules.length cR, .slice AB T.beats.length cB] 25)) W → RdMk W vm (startM T) →
      Calls Try.prog 58 #[.agg #[.int .i64 T.lits, .slice A T.foes.length c, .slice AR T.rules.length cR, .slice AB T.beats.length cB], vl, vm] W (Ret fun r w' => ∃ b, r = .pointer (some ⟨b, 0, none⟩) ∧ w.heap.size ≤ b ∧ NWS w' b T (factsB T.foes.length l) (rulesRows T.rules T.foes.length T.rules.length) (startM T) ∧ Below w.heap.size w w') := by
    intro W vm hb hm
    have hb0 := ext_trans (ext_alloc w _) hb
    refine (newWorld_any W _ _ vm T l (startM T) (HT.out.ext hb0) Hwf.out (hl.ext (scR_mono _) hb0) hlr hm).mono ?_
    rintro e w' ⟨_, rfl, b, rfl, h1, h2, h3⟩
    exact ⟨_, rfl, b, rfl, Nat.le_trans hb0.size h1, h2, ext_trans hb0 h3⟩
  have hst : ∀ (W : World), RdMk (W.alloc (.cells (madeCells #[Value.int .u8 0] T.foes.length) 33)) (.slice (some ⟨W.heap.size, 0, none⟩) T.foes.length T.foes.length) (startM T) := by
    intro W
    have h1 := made_arr (fun x : Nat => Value.int .u8 (x : Int)) 0 33 W T.foes.length
    have h2 := h1.reads (by simp; omega) T.foes.length (by simp)
    simpa [startM] using h2
  have hst2 : RdMk ((w.alloc (.cells #[.int .i64 T.lits, .slice A T.foes.length c, .slice AR T.rules.length cR, .slice AB T.beats.length cB] 25)).alloc (.cells (madeCells #[Value.int .u8 0] T.foes.length) 33)) (.slice (some ⟨w.heap.size + 1, 0, none⟩) T.foes.length T.foes.length) (startM T) := by
    have := hst (w.alloc (.cells #[.int .i64 T.lits, .slice A T.foes.length c, .slice AR T.rules.length cR, .slice AB T.beats.length cB] 25))
    rw [World.size_alloc] at this
    exact this
  have Hst := hid (hst2.ext (scR_mono _) ((Below.refl _ _).drew))
  have Hcall := hid hcall
  clear hst hst2 hcall
  refine post_gen fun Q HQ => ?_
  go_enter Try.func56, Try.ntmps56
  go_wp2
  go_cut [6] (fun v6 wx => ∃ b, v6 = .pointer (some ⟨b, 0, none⟩) ∧ w.heap.size ≤ b ∧ NWS wx b T (factsB T.foes.length l) (rulesRows T.rules T.foes.length T.rules.length) (startM T) ∧ Below w.heap.size w wx)
  case first =>
    go_region_with (go_at_call 58; refine (Hcall.out _ _ (ext_alloc _ _).drew Hst.out).mono ?_; rintro e w' ⟨_, rfl, b, rfl, hbw, hnw, hbl⟩)
    all_goals
      go_wp2_with fail
      go_meet
      exact ⟨b, rfl, hbw, hnw, hbl⟩
  case rest =>
    obtain ⟨b, rfl, hbw, hnw, hbl⟩ := hcut
    go_wp2
    go_loopw [7] (fun v7 wr => ∃ k : Nat, v7 = .int .i64 k ∧ NWS wr b T (factsB T.foes.length l) (rulesRows T.rules T.foes.length T.rules.length) (itM (stepM T l) k (startM T)) ∧ Hid (∀ j, j < k → itM (stepM T l) (j + 1) (startM T) ≠ itM (stepM T l) j (startM T)) ∧ k ≤ (itM (stepM T l) k (startM T)).sum ∧ Hid (∀ x ∈ itM (stepM T l) k (startM T), x < 256) ∧ (itM (stepM T l) k (startM T)).length = T.foes.length ∧ Below w.heap.size w wr) (fun v7 _ => 255 * T.foes.length + 1 - (intOf v7).toNat)
    case atStart => exact ⟨0, rfl, hnw, fun j h => absurd h (by omega), Nat.zero_le _, by intro x hx; simp [itM, startM] at hx; omega, by simp [itM, startM], hbl⟩
    case round =>
      clear hnw hbl
      obtain ⟨k, rfl, hnw, hno, hks, h8, hlen, hbl⟩ := hrel
      have hkb : k ≤ 255 * T.foes.length := by have := sum_bound _ h8.out; rw [hlen] at this; omega
      have hrd := round_any wr b T _ _ _ hnw.nw (nval Hwf.out l _ hlen h8.out)
      have hlt : T.foes.length ≤ 4096 := by omega
      generalize hM : itM (stepM T l) k (startM T) = M at *
      have HM := hid hM
      have Hgr := hid (roundM_grows T (factsB T.foes.length l) (rulesRows T.rules T.foes.length T.rules.length) M)
      have H8 := hid (roundM_lt T (factsB T.foes.length l) (rulesRows T.rules T.foes.length T.rules.length) M h8.out)
      clear hM
      go_wp2_with fail
      refine hrd.mono ?_
      rintro e w5 ⟨v, rfl, hown, hb5⟩
      have hn5 := hnw.ext hb5
      obtain ⟨xF, xR, xB, xFa, xRu, xM, hh, hrr⟩ := hn5.ex
      have c6 := cell_of_row w5 b 6 _ _ _ hh
      simp only [List.getElem?_toArray, List.getElem?_cons_zero, List.getElem?_cons_succ] at c6
      have hfr := frozen_of_row w5 b 6 _ _ hh
      obtain ⟨f, Hf⟩ : ∃ f, Hid (roundM T (factsB T.foes.length l) (rulesRows T.rules T.foes.length T.rules.length) M = f) := ⟨_, rfl⟩
      rw [Hf.out] at hown Hgr H8
      have hfl2 : f.length = M.length := by rw [← Hf.out]; exact roundM_length _ _ _ _
      have heq := eqM_any w5 v xM f M (own_rdS (by rw [hfl2]; exact hown) (by omega)) (hrr w5 (grown_refl _ _)).2.2.2.2.2
      go_wp2_with fail
      refine heq.mono ?_
      rintro e w6 ⟨_, rfl, rfl, hb6⟩
      have hown6 := hown.kept (row := none) ⟨hb6.os, hb6.tape, hb6.output, hb6.size, fun k hk _ => hb6.block k hk⟩ (by cases v.ownBlock <;> simp)
      obtain ⟨Av, nv, cv, rfl⟩ : ∃ A n c, v = .slice A n c := by
        obtain ⟨A, c, e, _⟩ := own_rdS (by rw [hfl2]; exact hown : w5.ownsRow wr.heap.size _ 1 v f.length _) (by omega)
        exact ⟨A, _, c, e⟩
      have hbv : ∀ g, (Value.slice Av nv cv).ownBlock = some g → g ≠ b := by
        intro g hg e
        have h1 := hown.lt g hg
        have h2 := lt_of_block hnw.ex.choose_spec.choose_spec.choose_spec.choose_spec.choose_spec.choose_spec.1
        omega
      have Hbv := hid hbv
      clear hbv
      by_cases he : f = M
      · have hd : decide (f = M) = true := decide_eq_true he
        rw [hd]
        have Hown := hid hown6
        clear hown6
        go_wp2_with fail
        go_ret2
        refine Fin HQ ⟨k, .slice Av nv cv, rfl, ?_, ?_, hno.out, ext_trans hbl (ext_trans hb5 hb6)⟩
        · have h1 := own_mono Hown.out hbl.size
          rw [he, hlen] at h1
          rw [HM.out]; exact h1
        · rw [HM.out]
          show roundM _ _ _ M = M
          rw [Hf.out]; exact he
      · have hd : decide (f = M) = false := decide_eq_false he
        rw [hd]
        have c6' := cell_ext hb6 c6
        have hfr' : w6.frozen? ⟨b, 6, none⟩ = false := frozen_of_row w6 b 6 _ _ ((hb6.block b (lt_of_block hh)).trans hh)
        have hn6 := hn5.ext hb6
        have hput := hn6.put (v' := .slice Av nv cv) (M' := f) (fun w' hg => by
          have h1 := hown6.kept hg (.inr (fun e => Hbv.out _ e rfl))
          exact own_rdS (by rw [hfl2]; exact h1) (by omega))
        have Hput := hid hput
        clear hput hn6 hn5 hh hrr
        have Hgr2 : Hid (M.sum < f.sum) := by
          have h1 := Hgr.out
          have : M.sum ≠ f.sum := fun e => he (h1.2 e).symm
          exact hid (by omega)
        go_wp2_with fail
        go_roundw
        case rel =>
          have hit : itM (stepM T l) (k + 1) (startM T) = f := by
            show stepM T l (itM (stepM T l) k (startM T)) = f
            rw [HM.out]; exact Hf.out
          have h0 := Hgr2.out
          refine ⟨k + 1, by go_num, ?_, fun j hj => ?_, ?_, ?_, ?_, ?_⟩
          · rw [hit]; exact Hput.out
          · by_cases e : j = k
            · subst e; rw [hit, HM.out]; exact he
            · exact hno.out j (by omega)
          · rw [hit]; omega
          · rw [hit]; exact H8.out
          · rw [hit, hfl2]; exact hlen
          · exact (ext_trans hbl (ext_trans hb5 hb6)).setCell hbw _
        case measure => simp [intOf]; omega
end Go.Proofs.Lx
