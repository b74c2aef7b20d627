/- Parts of the proof: Nj, Pa. Contract of naive.run: the walk. -/
import Derived.Test.YtalhpldbhogadaaB37
import Derived.Deep.DeepCutAuto
namespace Go.Proofs.Lx
open Go Go.RowKit
set_option linter.unusedSimpArgs false
set_option linter.unusedVariables false

theorem own_mono {w : World} {base base' e size n : Nat} {v : Value} {xs : List Value} (h : w.ownsRow base e size v n xs) (hb : base' ≤ base) : w.ownsRow base' e size v n xs :=
  ⟨h.1, h.2.imp id fun ⟨g, cap, cur, h1, h2, h3⟩ => ⟨g, cap, cur, h1, Nat.le_trans hb h2, h3⟩⟩

set_option maxRecDepth 100000 in
set_option maxHeartbeats 6400000 in
theorem run_any (w : World) (V vl : Value) (T : Th) (l : List Int) (hT : RdTh w V T) (hwf : WfTh T) (hl : RdI w vl l) (hlr : risB l T.lits = true) :
    Calls Try.prog 56 #[V, vl] w (Ret fun r w' => ∃ (k : Nat) (v : Value), r = .tuple #[v, .int .i64 k] ∧ w'.ownsRow w.heap.size 33 1 v T.foes.length (marksV (itM (stepM T l) k (startM T))) ∧ stepM T l (itM (stepM T l) k (startM T)) = itM (stepM T l) k (startM T) ∧ (∀ j, j < k → itM (stepM T l) (j + 1) (startM T) ≠ itM (stepM T l) j (startM T)) ∧ Below w.heap.size w w') := by
  have Hwf := hid hwf
  have HT := hid hT
  obtain ⟨vF, vR, vB, rfl, hF, ⟨AR, cR, rfl, hcR, hbR, hrR⟩, ⟨AB, cB, rfl, hcB, hbB, hrB⟩⟩ := hT
  obtain ⟨A, c, rfl, hc, hb, hr⟩ := hF
  have hl0 := hwf.l0; have hl1 := hwf.l1; have hfl := hwf.fl
  obtain ⟨W1, HW1⟩ : ∃ W1, Hid (W1 = w.alloc (.cells #[.int .i64 T.lits, .slice A T.foes.length c, .slice AR T.rules.length cR, .slice AB T.beats.length cB] 25)) := ⟨_, hid rfl⟩
  have hmM := mkM T.lits hl0 (by omega)
  have hln : T.lits.toNat = T.foes.length := by omega
  rw [hln] at hmM
  have hcall : ∀ (W : World) (vm : Value), Below (w.alloc (.cells #[.int .i64 T.lits, .slice A T.foes.length c, .slice AR T.rules.length cR, .slice AB T.beats.length cB] 25)).heap.size (w.alloc (.cells #[.int .i64 T.lits, .slice A T.foes.length c, .slice AR T.rules.length cR, .slice AB T.beats.length cB] 25)) W → RdMk W vm (startM T) →
      Calls Try.prog 58 #[.agg #[.int .i64 T.lits, .slice A T.foes.length c, .slice AR T.rules.length cR, .slice AB T.beats.length cB], vl, vm] W (Ret fun r w' => ∃ b, r = .pointer (some ⟨b, 0, none⟩) ∧ w.heap.size ≤ b ∧ NWS w' b T (factsB T.foes.length l) (rulesRows T.rules T.foes.length T.rules.length) (startM T) ∧ Below w.heap.size w w') := by
    intro W vm hb hm
    have hb0 := ext_trans (ext_alloc w _) hb
    refine (newWorld_any W _ _ vm T l (startM T) (HT.out.ext hb0) Hwf.out (hl.ext (scR_mono _) hb0) hlr hm).mono ?_
    rintro e w' ⟨_, rfl, b, rfl, h1, h2, h3⟩
    exact ⟨_, rfl, b, rfl, Nat.le_trans hb0.size h1, h2, ext_trans hb0 h3⟩
  have hst : ∀ (W : World), RdMk (W.alloc (.cells (madeCells #[Value.int .u8 0] T.foes.length) 33)) (.slice (some ⟨W.heap.size, 0, none⟩) T.foes.length T.foes.length) (startM T) := by
    intro W
    have h1 := made_arr (fun x : Nat => Value.int .u8 (x : Int)) 0 33 W T.foes.length
    have h2 := h1.reads (by simp; omega) T.foes.length (by simp)
    simpa [startM] using h2
  have hst2 : RdMk ((w.alloc (.cells #[.int .i64 T.lits, .slice A T.foes.length c, .slice AR T.rules.length cR, .slice AB T.beats.length cB] 25)).alloc (.cells (madeCells #[Value.int .u8 0] T.foes.length) 33)) (.slice (some ⟨w.heap.size + 1, 0, none⟩) T.foes.length T.foes.length) (startM T) := by
    have := hst (w.alloc (.cells #[.int .i64 T.lits, .slice A T.foes.length c, .slice AR T.rules.length cR, .slice AB T.beats.length cB] 25))
    rw [World.size_alloc] at this
    exact this
  have Hst := hid (hst2.ext (scR_mono _) ((Below.refl _ _).drew))
  have Hcall := hid hcall
  clear hst hst2 hcall
  refine post_gen fun Q HQ => ?_
  go_enter Try.func56, Try.ntmps56
  go_wp2
  go_cut [6] (fun v6 wx => ∃ b, v6 = .pointer (some ⟨b, 0, none⟩) ∧ w.heap.size ≤ b ∧ NWS wx b T (factsB T.foes.length l) (rulesRows T.rules T.foes.length T.rules.length) (startM T) ∧ Below w.heap.size w wx)
  case first =>
    go_region_with (go_at_call 58; refine (Hcall.out _ _ (ext_alloc _ _).drew Hst.out).mono ?_; rintro e w' ⟨_, rfl, b, rfl, hbw, hnw, hbl⟩)
    all_goals
      go_wp2_with fail
      go_meet
      exact ⟨b, rfl, hbw, hnw, hbl⟩
  case rest =>
    obtain ⟨b, rfl, hbw, hnw, hbl⟩ := hcut
    go_wp2
    go_loopw [7] (fun v7 wr => ∃ k : Nat, v7 = .int .i64 k ∧ NWS wr b T (factsB T.foes.length l) (rulesRows T.rules T.foes.length T.rules.length) (itM (stepM T l) k (startM T)) ∧ Hid (∀ j, j < k → itM (stepM T l) (j + 1) (startM T) ≠ itM (stepM T l) j (startM T)) ∧ k ≤ (itM (stepM T l) k (startM T)).sum ∧ Hid (∀ x ∈ itM (stepM T l) k (startM T), x < 256) ∧ (itM (stepM T l) k (startM T)).length = T.foes.length ∧ Below w.heap.size w wr) (fun v7 _ => 255 * T.foes.length + 1 - (intOf v7).toNat)
    case atStart => exact ⟨0, rfl, hnw, fun j h => absurd h (by omega), Nat.zero_le _, by intro x hx; simp [itM, startM] at hx; omega, by simp [itM, startM], hbl⟩
    case round =>
      clear hnw hbl
      obtain ⟨k, rfl, hnw, hno, hks, h8, hlen, hbl⟩ := hrel
      have hkb : k ≤ 255 * T.foes.length := by have := sum_bound _ h8.out; rw [hlen] at this; omega
      have hrd := round_any wr b T _ _ _ hnw.nw (nval Hwf.out l _ hlen h8.out)
      have hlt : T.foes.length ≤ 4096 := by omega
      generalize hM : itM (stepM T l) k (startM T) = M at *
      have HM := hid hM
      have Hgr := hid (roundM_grows T (factsB T.foes.length l) (rulesRows T.rules T.foes.length T.rules.length) M)
      have H8 := hid (roundM_lt T (factsB T.foes.length l) (rulesRows T.rules T.foes.length T.rules.length) M h8.out)
      clear hM
      go_wp2_with fail
      refine hrd.mono ?_
      rintro e w5 ⟨v, rfl, hown, hb5⟩
      have hn5 := hnw.ext hb5
      obtain ⟨xF, xR, xB, xFa, xRu, xM, hh, hrr⟩ := hn5.ex
      have c6 := cell_of_row w5 b 6 _ _ _ hh
      simp only [List.getElem?_toArray, List.getElem?_cons_zero, List.getElem?_cons_succ] at c6
      have hfr := frozen_of_row w5 b 6 _ _ hh
      obtain ⟨f, Hf⟩ : ∃ f, Hid (roundM T (factsB T.foes.length l) (rulesRows T.rules T.foes.length T.rules.length) M = f) := ⟨_, rfl⟩
      rw [Hf.out] at hown Hgr H8
      have hfl2 : f.length = M.length := by rw [← Hf.out]; exact roundM_length _ _ _ _
      have heq := eqM_any w5 v xM f M (own_rdS (by rw [hfl2]; exact hown) (by omega)) (hrr w5 (grown_refl _ _)).2.2.2.2.2
      go_wp2_with fail
      refine heq.mono ?_
      rintro e w6 ⟨_, rfl, rfl, hb6⟩
      have hown6 := hown.kept (row := none) ⟨hb6.os, hb6.tape, hb6.output, hb6.size, fun k hk _ => hb6.block k hk⟩ (by cases v.ownBlock <;> simp)
      obtain ⟨Av, nv, cv, rfl⟩ : ∃ A n c, v = .slice A n c := by
        obtain ⟨A, c, e, _⟩ := own_rdS (by rw [hfl2]; exact hown : w5.ownsRow wr.heap.size _ 1 v f.length _) (by omega)
        exact ⟨A, _, c, e⟩
      have hbv : ∀ g, (Value.slice Av nv cv).ownBlock = some g → g ≠ b := by
        intro g hg e
        have h1 := hown.lt g hg
        have h2 := lt_of_block hnw.ex.choose_spec.choose_spec.choose_spec.choose_spec.choose_spec.choose_spec.1
        omega
      have Hbv := hid hbv
      clear hbv
      by_cases he : f = M
      · have hd : decide (f = M) = true := decide_eq_true he
        rw [hd]
        have Hown := hid hown6
        clear hown6
        go_wp2_with fail
        go_ret2
        refine Fin HQ ⟨k, .slice Av nv cv, rfl, ?_, ?_, hno.out, ext_trans hbl (ext_trans hb5 hb6)⟩
        · have h1 := own_mono Hown.out hbl.size
          rw [he, hlen] at h1
          rw [HM.out]; exact h1
        · rw [HM.out]
          show roundM _ _ _ M = M
          rw [Hf.out]; exact he
      · have hd : decide (f = M) = false := decide_eq_false he
        rw [hd]
        have c6' := cell_ext hb6 c6
        have hfr' : w6.frozen? ⟨b, 6, none⟩ = false := frozen_of_row w6 b 6 _ _ ((hb6.block b (lt_of_block hh)).trans hh)
        have hn6 := hn5.ext hb6
        have hput := hn6.put (v' := .slice Av nv cv) (M' := f) (fun w' hg => by
          have h1 := hown6.kept hg (.inr (fun e => Hbv.out _ e rfl))
          exact own_rdS (by rw [hfl2]; exact h1) (by omega))
        have Hput := hid hput
        clear hput hn6 hn5 hh hrr
        have Hgr2 : Hid (M.sum < f.sum) := by
          have h1 := Hgr.out
          have : M.sum ≠ f.sum := fun e => he (h1.2 e).symm
          exact hid (by omega)
        go_wp2_with fail
        go_roundw
        case rel =>
          have hit : itM (stepM T l) (k + 1) (startM T) = f := by
            show stepM T l (itM (stepM T l) k (startM T)) = f
            rw [HM.out]; exact Hf.out
          have h0 := Hgr2.out
          refine ⟨k + 1, by go_num, ?_, fun j hj => ?_, ?_, ?_, ?_, ?_⟩
          · rw [hit]; exact Hput.out
          · by_cases e : j = k
            · subst e; rw [hit, HM.out]; exact he
            · exact hno.out j (by omega)
          · rw [hit]; omega
          · rw [hit]; exact H8.out
          · rw [hit, hfl2]; exact hlen
          · exact (ext_trans hbl (ext_trans hb5 hb6)).setCell hbw _
        case measure => simp [intOf]; omega
end Go.Proofs.Lx

namespace Go.Proofs.Lx
open Go Go.RowKit
set_option linter.unusedSimpArgs false
set_option linter.unusedVariables false

theorem orM_bit (C : Nat → Bool) (x : Nat) : ∀ k j, (orM C x k).testBit j = (x.testBit j || (decide (j < k) && C j))
  | 0, j => by simp [orM]
  | k + 1, j => by
    unfold orM
    by_cases e : k = j
    · subst e
      cases hc : C k with
      | true => rw [if_pos rfl, Nat.testBit_or, Nat.testBit_two_pow_self]; simp
      | false => rw [if_neg (by simp), orM_bit C x k k]; simp
    · have h1 : decide (j < k + 1) = decide (j < k) := decide_eq_decide.2 (by omega)
      rw [h1]
      cases hc : C k with
      | true => rw [if_pos rfl, Nat.testBit_or, orM_bit C x k j, Nat.testBit_two_pow_of_ne e]; simp
      | false => rw [if_neg (by simp), orM_bit C x k j]
section
variable {T : Th} {F : List Bool} {RL : List (List Int)} {M M' : List Nat}
theorem hasM_nat (M : List Nat) (k : Nat) (q : Int) : hasM M k q = hasM M k (q.toNat : Int) := by unfold hasM; rw [Int.toNat_natCast]
theorem hasM_far {k : Nat} {q : Int} (h : M.length ≤ q.toNat) : hasM M k q = false := by
  unfold hasM; rw [List.getD_eq_getElem?_getD, List.getElem?_eq_none h]; simp
theorem hasM_round {k : Nat} {q : Int} (hq : q.toNat < M.length) : hasM (roundM T F RL M) k q = (hasM M k q || (decide (k < 4) && cnd T F RL M k (q.toNat : Int))) := by
  have : (roundM T F RL M).getD q.toNat 0 = orM (fun k => cnd T F RL M k (q.toNat : Int)) (M.getD q.toNat 0) 4 := by
    rw [List.getD_eq_getElem?_getD, List.getElem?_eq_getElem (by rw [roundM_length]; exact hq)]
    simp [roundM, rnd]
  unfold hasM
  rw [this, orM_bit]
/-- All the marks of one list are in another. -/
def Sub (M M' : List Nat) : Prop := ∀ k q, hasM M k q = true → hasM M' k q = true
theorem sub_round : Sub M (roundM T F RL M) := by
  intro k q h
  by_cases hq : q.toNat < M.length
  · rw [hasM_round hq, h]; rfl
  · rw [hasM_far (by omega)] at h; cases h
theorem whole_true {k : Nat} {r : Int} : wholeB T M k r = true ↔ ∀ x ∈ bodyAt T r, hasM M k x = true := by simp [wholeB]
theorem some_true {k : Nat} {r : Int} : someB T M k r = true ↔ ∃ x ∈ bodyAt T r, hasM M k x = true := by simp [someB]
theorem whole_mono (h : Sub M M') {k : Nat} {r : Int} (hr : wholeB T M k r = true) : wholeB T M' k r = true := whole_true.2 fun x hx => h _ _ (whole_true.1 hr x hx)
theorem some_mono (h : Sub M M') {k : Nat} {r : Int} (hr : someB T M k r = true) : someB T M' k r = true := by
  obtain ⟨x, hx, e⟩ := some_true.1 hr
  exact some_true.2 ⟨x, hx, h _ _ e⟩
theorem plusD_iff {q : Int} : cnd T F RL M 0 q = true ↔ F.getD q.toNat false = true ∨ ∃ r ∈ row RL q, strictB T r = true ∧ wholeB T M 0 r = true := by
  simp only [cnd, plusDB, pdR, Bool.or_eq_true, Bool.and_eq_true, List.any_eq_true]
theorem minusD_iff {q : Int} : cnd T F RL M 1 q = true ↔ F.getD q.toNat false = false ∧ ∀ r ∈ row RL q, strictB T r = true → someB T M 1 r = true := by
  simp only [cnd, minusDB, mdR, Bool.and_eq_true, Bool.not_eq_true', List.any_eq_false, Bool.not_eq_true, Bool.and_eq_false_iff, Bool.not_eq_false']
  refine and_congr Iff.rfl (forall₂_congr fun r _ => ?_)
  cases strictB T r <;> simp
theorem plusP_iff {q : Int} : cnd T F RL M 2 q = true ↔ hasM M 0 q = true ∨ ((∃ r ∈ row RL q, supB T r = true ∧ wholeB T M 2 r = true) ∧ (∀ f ∈ row T.foes q, hasM M 1 f = true) ∧
    ∀ f ∈ row T.foes q, ∀ s ∈ row RL f, someB T M 3 s = true ∨ ∃ r ∈ row RL q, supB T r = true ∧ beatsB T r s = true ∧ wholeB T M 2 r = true) := by
  simp only [cnd, plusPB, ppR, Bool.or_eq_true, Bool.and_eq_true, Bool.not_eq_true', List.any_eq_false, List.any_eq_true, Bool.not_eq_true, Bool.not_eq_false']
  refine or_congr Iff.rfl (and_congr Iff.rfl (and_congr (forall₂_congr fun f _ => by simp) (forall₂_congr fun f _ => ?_)))
  constructor
  · intro h s hs
    cases h3 : someB T M 3 s with
    | true => exact .inl rfl
    | false =>
      refine .inr ?_
      cases ha : (row RL q).any (ppB T M s) with
      | true =>
        obtain ⟨r, hr, e⟩ := List.any_eq_true.1 ha
        simp only [ppB, Bool.and_eq_true] at e
        exact ⟨r, hr, e.1, e.2.1, e.2.2⟩
      | false => exact absurd ⟨s, hs, by simp [ppS, h3, ha]⟩ h
  · rintro h ⟨s, hs, e⟩
    simp only [ppS, Bool.and_eq_true, Bool.not_eq_true'] at e
    rcases h s hs with h | ⟨r, hr, h1, h2, h3⟩
    · rw [e.1] at h; cases h
    · have := List.any_eq_false.1 e.2 r hr
      simp [ppB, h1, h2, h3] at this
theorem minusP_iff {q : Int} : cnd T F RL M 3 q = true ↔ hasM M 1 q = true ∧ ((∀ r ∈ row RL q, supB T r = true → someB T M 3 r = true) ∨ (∃ f ∈ row T.foes q, hasM M 0 f = true) ∨
    ∃ f ∈ row T.foes q, ∃ s ∈ row RL f, wholeB T M 2 s = true ∧ ∀ r ∈ row RL q, supB T r = true → beatsB T r s = true → someB T M 3 r = true) := by
  simp only [cnd, minusPB, Bool.or_eq_true, Bool.and_eq_true, Bool.not_eq_true', List.any_eq_true]
  refine and_congr Iff.rfl (or_congr ?_ (or_congr Iff.rfl ?_))
  · rw [List.any_eq_false]
    refine forall₂_congr fun r _ => ?_
    simp only [mpR]
    cases supB T r <;> cases someB T M 3 r <;> simp
  · refine exists_congr fun f => and_congr Iff.rfl (exists_congr fun s => and_congr Iff.rfl ?_)
    simp only [mpS, Bool.and_eq_true, Bool.not_eq_true']
    refine and_congr Iff.rfl ?_
    rw [List.any_eq_false]
    refine forall₂_congr fun r _ => ?_
    simp only [mpB]
    cases supB T r <;> cases beatsB T r s <;> cases someB T M 3 r <;> simp
theorem cnd_three (k : Nat) : cnd T F RL M (k + 3) = cnd T F RL M 3 := rfl
theorem cnd_mono (h : Sub M M') {k : Nat} {q : Int} (hc : cnd T F RL M k q = true) : cnd T F RL M' k q = true := by
  match k with
  | 0 =>
    rw [plusD_iff] at hc ⊢
    exact hc.imp id fun ⟨r, hr, h1, h2⟩ => ⟨r, hr, h1, whole_mono h h2⟩
  | 1 =>
    rw [minusD_iff] at hc ⊢
    exact ⟨hc.1, fun r hr h1 => some_mono h (hc.2 r hr h1)⟩
  | 2 =>
    rw [plusP_iff] at hc ⊢
    refine hc.imp (h _ _) fun ⟨⟨r, hr, h1, h2⟩, h3, h4⟩ => ⟨⟨r, hr, h1, whole_mono h h2⟩, fun f hf => h _ _ (h3 f hf), fun f hf s hs => ?_⟩
    exact (h4 f hf s hs).imp (some_mono h) fun ⟨r, hr, h1, h2, h3⟩ => ⟨r, hr, h1, h2, whole_mono h h3⟩
  | k + 3 =>
    rw [cnd_three, minusP_iff] at hc ⊢
    refine ⟨h _ _ hc.1, hc.2.imp (fun h1 r hr hs => some_mono h (h1 r hr hs)) (Or.imp (fun ⟨f, hf, h1⟩ => ⟨f, hf, h _ _ h1⟩) fun ⟨f, hf, s, hs, h1, h2⟩ => ⟨f, hf, s, hs, whole_mono h h1, fun r hr h3 h4 => some_mono h (h2 r hr h3 h4)⟩)⟩
theorem round_mono (hl : M.length = M'.length) (h : Sub M M') : Sub (roundM T F RL M) (roundM T F RL M') := by
  intro k q hq
  by_cases hlt : q.toNat < M.length
  · rw [hasM_round hlt, Bool.or_eq_true, Bool.and_eq_true] at hq
    rw [hasM_round (by omega), Bool.or_eq_true, Bool.and_eq_true]
    exact hq.imp (h _ _) fun ⟨h1, h2⟩ => ⟨h1, cnd_mono h h2⟩
  · rw [hasM_far (by rw [roundM_length]; omega)] at hq; cases hq
/-- What has a mark has its condition. -/
def Sup (T : Th) (F : List Bool) (RL : List (List Int)) (M : List Nat) : Prop := ∀ k q, k < 4 → hasM M k q = true → cnd T F RL M k (q.toNat : Int) = true
def Coh (M : List Nat) : Prop := ∀ q, ¬ (hasM M 0 q = true ∧ hasM M 1 q = true) ∧ ¬ (hasM M 2 q = true ∧ hasM M 3 q = true)
theorem whole_some (hc : Coh M) {r : Int} : (wholeB T M 0 r = true → someB T M 1 r = true → False) ∧ (wholeB T M 2 r = true → someB T M 3 r = true → False) :=
  ⟨fun h1 h2 => let ⟨x, hx, e⟩ := some_true.1 h2; (hc x).1 ⟨whole_true.1 h1 x hx, e⟩, fun h1 h2 => let ⟨x, hx, e⟩ := some_true.1 h2; (hc x).2 ⟨whole_true.1 h1 x hx, e⟩⟩
theorem coh_cnd (hc : Coh M) (q : Int) : ¬ (cnd T F RL M 0 q = true ∧ cnd T F RL M 1 q = true) ∧ ¬ (cnd T F RL M 2 q = true ∧ cnd T F RL M 3 q = true) := by
  constructor
  · rintro ⟨h0, h1⟩
    rw [plusD_iff] at h0
    rw [minusD_iff] at h1
    rcases h0 with h0 | ⟨r, hr, hs, hw⟩
    · rw [h1.1] at h0; cases h0
    · exact (whole_some hc).1 hw (h1.2 r hr hs)
  · rintro ⟨h0, h1⟩
    rw [plusP_iff] at h0
    rw [minusP_iff] at h1
    obtain ⟨h1, h3⟩ := h1
    rcases h0 with h0 | ⟨⟨r, hr, hs, hw⟩, hf, ha⟩
    · exact (hc q).1 ⟨h0, h1⟩
    · rcases h3 with h3 | ⟨f, hff, h3⟩ | ⟨f, hff, s, hs', hw', h3⟩
      · exact (whole_some hc).2 hw (h3 r hr hs)
      · exact (hc f).1 ⟨h3, hf f hff⟩
      · rcases ha f hff s hs' with h4 | ⟨r', hr', h5, h6, h7⟩
        · exact (whole_some hc).2 hw' h4
        · exact (whole_some hc).2 h7 (h3 r' hr' h5 h6)
/-- Such as rounds make. -/
structure Made (T : Th) (F : List Bool) (RL : List (List Int)) (M : List Nat) : Prop where
  sup : Sup T F RL M
  coh : Coh M
  low : ∀ k q, hasM M k q = true → k < 4
  dd : ∀ q, hasM M 3 q = true → hasM M 1 q = true
theorem Made.round (h : Made T F RL M) : Made T F RL (roundM T F RL M) := by
  have key : ∀ k q, hasM (roundM T F RL M) k q = true → k < 4 ∧ cnd T F RL M k (q.toNat : Int) = true := by
    intro k q hq
    by_cases hlt : q.toNat < M.length
    · rw [hasM_round hlt, Bool.or_eq_true, Bool.and_eq_true, decide_eq_true_eq] at hq
      rcases hq with hq | hq
      · exact ⟨h.low _ _ hq, h.sup _ _ (h.low _ _ hq) hq⟩
      · exact hq
    · rw [hasM_far (by rw [roundM_length]; omega)] at hq; cases hq
  refine ⟨fun k q hk hq => cnd_mono sub_round (key k q hq).2, fun q => ⟨fun ⟨h1, h2⟩ => ?_, fun ⟨h1, h2⟩ => ?_⟩, fun k q hq => (key k q hq).1, fun q hq => ?_⟩
  · exact (coh_cnd h.coh _).1 ⟨(key _ _ h1).2, (key _ _ h2).2⟩
  · exact (coh_cnd h.coh _).2 ⟨(key _ _ h1).2, (key _ _ h2).2⟩
  · have := (minusP_iff.1 (key _ _ hq).2).1
    rw [← hasM_nat] at this
    exact sub_round _ _ this
end
theorem hasM_start (T : Th) (k : Nat) (q : Int) : hasM (startM T) k q = false := by
  unfold hasM startM
  rw [List.getD_eq_getElem?_getD, List.getElem?_replicate]
  split <;> simp
theorem made_start (T : Th) (F : List Bool) (RL : List (List Int)) : Made T F RL (startM T) :=
  ⟨fun k q _ h => (by rw [hasM_start] at h; cases h), fun q => ⟨fun h => (by rw [hasM_start] at h; cases h.1), fun h => (by rw [hasM_start] at h; cases h.1)⟩, fun k q h => (by rw [hasM_start] at h; cases h), fun q h => (by rw [hasM_start] at h; cases h)⟩
theorem made_it (T : Th) (l : List Int) : ∀ k, Made T (factsB T.foes.length l) (rulesRows T.rules T.foes.length T.rules.length) (itM (stepM T l) k (startM T))
  | 0 => made_start _ _ _
  | k + 1 => (made_it T l k).round
theorem it_length (T : Th) (l : List Int) : ∀ k, (itM (stepM T l) k (startM T)).length = T.foes.length
  | 0 => by simp [itM, startM]
  | k + 1 => (roundM_length _ _ _ _).trans (it_length T l k)
theorem it_lt (T : Th) (l : List Int) : ∀ k, ∀ x ∈ itM (stepM T l) k (startM T), x < 256
  | 0 => fun x hx => by simp [itM, startM] at hx; omega
  | k + 1 => roundM_lt _ _ _ _ (it_lt T l k)
theorem it_sum (T : Th) (l : List Int) : ∀ k, (∀ j, j < k → itM (stepM T l) (j + 1) (startM T) ≠ itM (stepM T l) j (startM T)) → k ≤ (itM (stepM T l) k (startM T)).sum
  | 0, _ => Nat.zero_le _
  | k + 1, h => by
    have ih := it_sum T l k fun j hj => h j (by omega)
    have h1 := roundM_grows T (factsB T.foes.length l) (rulesRows T.rules T.foes.length T.rules.length) (itM (stepM T l) k (startM T))
    have h2 := h k (by omega)
    have h3 : (itM (stepM T l) k (startM T)).sum ≠ (roundM T (factsB T.foes.length l) (rulesRows T.rules T.foes.length T.rules.length) (itM (stepM T l) k (startM T))).sum := fun e => h2 (h1.2 e).symm
    show k + 1 ≤ (roundM T (factsB T.foes.length l) (rulesRows T.rules T.foes.length T.rules.length) (itM (stepM T l) k (startM T))).sum
    omega
/-- All that holds. -/
def solveM (T : Th) (l : List Int) : List Nat := itM (stepM T l) (255 * T.foes.length) (startM T)
theorem it_stay {f : List Nat → List Nat} {X : List Nat} {k : Nat} (h : f (itM f k X) = itM f k X) : ∀ d, itM f (k + d) X = itM f k X
  | 0 => rfl
  | d + 1 => by
    show f (itM f (k + d) X) = _
    rw [it_stay h d, h]
theorem solve_eq {T : Th} {l : List Int} {k : Nat} (h : stepM T l (itM (stepM T l) k (startM T)) = itM (stepM T l) k (startM T)) (hk : k ≤ 255 * T.foes.length) : itM (stepM T l) k (startM T) = solveM T l := by
  have := it_stay h (255 * T.foes.length - k)
  rw [show k + (255 * T.foes.length - k) = 255 * T.foes.length by omega] at this
  exact this.symm
theorem solve_run {T : Th} {l : List Int} {k : Nat} (h : stepM T l (itM (stepM T l) k (startM T)) = itM (stepM T l) k (startM T)) (hn : ∀ j, j < k → itM (stepM T l) (j + 1) (startM T) ≠ itM (stepM T l) j (startM T)) : itM (stepM T l) k (startM T) = solveM T l := by
  refine solve_eq h ?_
  have h1 := it_sum T l k hn
  have h2 := sum_bound _ (it_lt T l k)
  rw [it_length] at h2; omega
open Classical in
theorem solve_fix (T : Th) (l : List Int) : stepM T l (solveM T l) = solveM T l := by
  by_cases h : ∃ k, k ≤ 255 * T.foes.length ∧ stepM T l (itM (stepM T l) k (startM T)) = itM (stepM T l) k (startM T)
  · obtain ⟨k, hk, h⟩ := h
    rw [← solve_eq h hk]; exact h
  · exfalso
    have hn : ∀ j, j < 255 * T.foes.length + 1 → itM (stepM T l) (j + 1) (startM T) ≠ itM (stepM T l) j (startM T) := fun j hj e => h ⟨j, by omega, e⟩
    have h1 := it_sum T l _ hn
    have h2 := sum_bound _ (it_lt T l (255 * T.foes.length + 1))
    rw [it_length] at h2; omega
theorem solve_length (T : Th) (l : List Int) : (solveM T l).length = T.foes.length := it_length _ _ _
theorem solve_made (T : Th) (l : List Int) : Made T (factsB T.foes.length l) (rulesRows T.rules T.foes.length T.rules.length) (solveM T l) := made_it _ _ _
/-- At the end a condition that holds has its mark. -/
theorem solve_shut (T : Th) (l : List Int) {k : Nat} (hk : k < 4) {q : Nat} (hq : q < T.foes.length) (h : cnd T (factsB T.foes.length l) (rulesRows T.rules T.foes.length T.rules.length) (solveM T l) k (q : Int) = true) : hasM (solveM T l) k (q : Int) = true := by
  have e := solve_fix T l
  have := hasM_round (T := T) (F := factsB T.foes.length l) (RL := rulesRows T.rules T.foes.length T.rules.length) (M := solveM T l) (k := k) (q := (q : Int)) (by rw [solve_length]; simpa using hq)
  unfold stepM at e
  rw [e] at this
  rw [this, show ((q : Int).toNat : Int) = q by omega, h]; simp [hk]
def sixB (x : Nat) : Bool := ((List.range 8).any fun k => x.testBit k && decide (4 ≤ k)) || (x.testBit 0 && x.testBit 1) || (x.testBit 2 && x.testBit 3) || (x.testBit 3 && !x.testBit 1) || (x.testBit 0 && !x.testBit 2) || (x == 0 || x == 2 || x == 4 || x == 5 || x == 6 || x == 10)
theorem sixB_all : ∀ x : _root_.Fin 256, sixB x.val = true := by decide +kernel
theorem six (x : Nat) (hx : x < 256) (h0 : ∀ k, x.testBit k = true → k < 4) (h1 : ¬ (x.testBit 0 = true ∧ x.testBit 1 = true)) (h2 : ¬ (x.testBit 2 = true ∧ x.testBit 3 = true)) (h3 : x.testBit 3 = true → x.testBit 1 = true) (h4 : x.testBit 0 = true → x.testBit 2 = true) :
    x = 0 ∨ x = 2 ∨ x = 4 ∨ x = 5 ∨ x = 6 ∨ x = 10 := by
  have h := sixB_all ⟨x, hx⟩
  simp only [sixB, Bool.or_eq_true, beq_iff_eq] at h
  rcases h with ((((h | h) | h) | h) | h) | h
  · obtain ⟨k, _, hk⟩ := List.any_eq_true.1 h
    rw [Bool.and_eq_true, decide_eq_true_eq] at hk
    have := h0 k hk.1; omega
  · rw [Bool.and_eq_true] at h; exact absurd h h1
  · rw [Bool.and_eq_true] at h; exact absurd h h2
  · rw [Bool.and_eq_true, Bool.not_eq_true'] at h; have := h3 h.1; rw [h.2] at this; cases this
  · rw [Bool.and_eq_true, Bool.not_eq_true'] at h; have := h4 h.1; rw [h.2] at this; cases this
  · omega
theorem solve_six (T : Th) (l : List Int) (q : Nat) (hq : q < (solveM T l).length) : (solveM T l)[q] = 0 ∨ (solveM T l)[q] = 2 ∨ (solveM T l)[q] = 4 ∨ (solveM T l)[q] = 5 ∨ (solveM T l)[q] = 6 ∨ (solveM T l)[q] = 10 := by
  have hm := solve_made T l
  have h8 := it_lt T l (255 * T.foes.length) _ (List.getElem_mem hq)
  have hg : (solveM T l).getD ((q : Int).toNat) 0 = (solveM T l)[q] := by simp [hq]
  have hh : ∀ k, hasM (solveM T l) k (q : Int) = (solveM T l)[q].testBit k := by intro k; unfold hasM; rw [hg]
  have hc := hm.coh (q : Int)
  rw [hh, hh, hh, hh] at hc
  refine six _ h8 (fun k hk => hm.low k (q : Int) (by rw [hh]; exact hk)) hc.1 hc.2 (fun h => by have := hm.dd (q : Int) (by rw [hh]; exact h); rwa [hh] at this) (fun h => ?_)
  have := solve_shut T l (k := 2) (by omega) (q := q) (by rw [← solve_length T l]; exact hq) (plusP_iff.2 (.inl (by rw [hh]; exact h)))
  rwa [hh] at this
end Go.Proofs.Lx
