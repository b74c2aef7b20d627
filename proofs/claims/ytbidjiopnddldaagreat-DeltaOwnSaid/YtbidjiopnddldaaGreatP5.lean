/- Parts of the proof: Vd, Ve. Contract of theory.circle. -/
import Derived.Test.YtbidjiopnddldaaGreatP4
namespace Go.Proofs.Lx
open Go Go.RowKit Go.Proofs.Tj
set_option linter.unusedSimpArgs false
set_option linter.unusedVariables false

theorem enters_circle1 : Enters Tryz.prog 107 := enters_of Tryz.func107 (by kernel_rfl) (by kernel_rfl)
theorem enters_circle2 : Enters Tryz.prog 109 := enters_of Tryz.func109 (by kernel_rfl) (by kernel_rfl)

def beatsAt (T : Th) (x : Nat) : List Int := T.beats.getD x []
/-- No two rules lead to each other. -/
def NoKnot (T : Th) : Prop := ∀ x y, x < T.rules.length → y < T.rules.length → Leads (adjN (beatsAt T)) x y → Leads (adjN (beatsAt T)) y x → x = y

theorem circle1_any (W1 w : World) (bx : Nat) (T : Th) (vB : Value) (x : Nat) (hx : x < T.beats.length) (hc : w.cell? ⟨bx, 3, none⟩ = some vB) (hB : RdLL W1 vB T.beats) (ho : Below W1.heap.size W1 w) :
  Calls Tryz.prog 107 #[.int .i64 (x : Int), .pointer (some ⟨bx, 0, none⟩)] w (Ret fun r w2 => RdI W1 r (beatsAt T x) ∧ Below w.heap.size w w2) := by
 obtain ⟨A, c, rfl, hc1, hb1, hr⟩ := hB
 obtain ⟨ad, v, rfl, hcell0, hv⟩ := hr.atRowV hx
 have hcell := cell_ext ho hcell0
 have Hg : Hid (beatsAt T x = T.beats[x]) := by simp [Hid, beatsAt, hx]
 have Hv := hid hv
 obtain ⟨B, cB, rfl, _⟩ := hv
 clear hcell0 hr
 refine post_gen fun Q HQ => ?_
 go_enter Tryz.func107, Tryz.ntmps107
 go_wp2
 go_ret
 exact Fin HQ ⟨by rw [Hg.out]; exact Hv.out, ext_refl _⟩

theorem arr_rdI {w : World} {g n : Nat} {f : Nat → Nat} (h : Arr (fun x : Nat => Value.int .i64 (x : Int)) 3 w g (tab n f)) (hn : n ≤ 140737488355328) : RdI w (.slice (some ⟨g, 0, none⟩) n n) ((tab n f).map fun (x : Nat) => (x : Int)) := by
 have h2 : Arr (Value.int .i64) 3 w g ((tab n f).map fun (x : Nat) => (x : Int)) := by
  unfold Arr at h ⊢
  rw [h, List.map_map]; rfl
 have hl : ((tab n f).map fun (x : Nat) => (x : Int)).length = n := by simp [tab]
 have := h2.reads (by omega) n (by omega)
 rw [hl] at this; exact this

theorem circle2_any (w : World) (gC gS kn : Nat) (f : Nat → Nat) (x : Nat) (hx : x < kn) (hc : w.cell? ⟨gC, 0, none⟩ = some (.slice (some ⟨gS, 0, none⟩) kn kn)) (hs : Arr (fun x : Nat => Value.int .i64 (x : Int)) 3 w gS (tab kn f)) :
  Calls Tryz.prog 109 #[.int .i64 (x : Int), .pointer (some ⟨gC, 0, none⟩)] w (Ret fun r w2 => r = .bool (decide (1 < f x)) ∧ Below w.heap.size w w2) := by
 have hcell := hs.cell (i := x) (by rw [tab_length]; exact hx)
 rw [tab_at hx] at hcell
 refine post_gen fun Q HQ => ?_
 go_enter Tryz.func109, Tryz.ntmps109
 go_wp2
 go_ret
 exact Fin HQ ⟨by simp; omega, ext_refl _⟩

def cntOf (of : Nat → Nat) (k c : Nat) : Nat := (List.range k).countP fun i => of i == c
theorem cntOf_succ (of : Nat → Nat) (k : Nat) : cntOf of (k + 1) = upd (cntOf of k) (of k) (cntOf of k (of k) + 1) := by
 funext c
 simp only [cntOf, List.range_succ, List.countP_append, List.countP_cons, List.countP_nil, upd]
 by_cases e : c = of k
 ·subst e; simp
 ·have : ¬ (of k = c) := fun h => e h.symm
  simp [e, this]
theorem cntOf_le (of : Nat → Nat) (k c : Nat) : cntOf of k c ≤ k := by
 have := List.countP_le_length (p := fun i => of i == c) (l := List.range k)
 simpa [cntOf] using this
theorem cntOf_two {of : Nat → Nat} {n c : Nat} : 1 < cntOf of n c ↔ ∃ i j, i < n ∧ j < n ∧ i ≠ j ∧ of i = c ∧ of j = c := by
 induction n with
 | zero => simp [cntOf]
 | succ n ih =>
  have hs : cntOf of (n + 1) c = cntOf of n c + if of n = c then 1 else 0 := by
   simp [cntOf, List.range_succ, List.countP_append, List.countP_cons]
  rw [hs]
  by_cases e : of n = c
  ·rw [if_pos e]
   constructor
   ·intro h
    have h1 : 0 < cntOf of n c := by omega
    rw [cntOf, List.countP_pos_iff] at h1
    obtain ⟨i, hi, he⟩ := h1
    rw [List.mem_range] at hi
    exact ⟨i, n, by omega, by omega, by omega, by simpa using he, e⟩
   ·rintro ⟨i, j, hi, hj, hij, h1, h2⟩
    have : 0 < cntOf of n c := by
     rw [cntOf, List.countP_pos_iff]
     by_cases hin : i < n
     ·exact ⟨i, List.mem_range.2 hin, by simpa using h1⟩
     ·exact ⟨j, List.mem_range.2 (by omega), by simpa using h2⟩
    omega
  ·rw [if_neg e, Nat.add_zero, ih]
   constructor
   ·rintro ⟨i, j, hi, hj, h⟩; exact ⟨i, j, by omega, by omega, h⟩
   ·rintro ⟨i, j, hi, hj, hij, h1, h2⟩
    refine ⟨i, j, ?_, ?_, hij, h1, h2⟩
    ·by_cases e1 : i = n
     ·subst e1; exact absurd h1 e
     ·omega
    ·by_cases e1 : j = n
     ·subst e1; exact absurd h2 e
     ·omega

set_option maxHeartbeats 3200000 in
theorem circle_any (w : World) (V : Value) (T : Th) (hT : RdTh w V T) (h4 : T.rules.length ≤ 4096) (hbl : T.beats.length = T.rules.length) (hba : beatsAll T = true) :
  Calls Tryz.prog 95 #[V] w (Ret fun v w' => (∃ r : Int, v = .int .i64 r ∧ (r < 0 ↔ NoKnot T)) ∧ Below w.heap.size w w') := by
 obtain ⟨vF, vR, vB, rfl, h1, ⟨AR, cR, rfl, hcR, hbR, hrR⟩, h3⟩ := hT
 have hbel := ext_alloc w (.cells #[.int .i64 T.lits, vF, .slice AR T.rules.length cR, vB] 25)
 obtain ⟨W1, HW1⟩ : ∃ W1, Hid (W1 = w.alloc (.cells #[.int .i64 T.lits, vF, .slice AR T.rules.length cR, vB] 25)) := ⟨_, rfl⟩
 have b2 : W1.cell? ⟨w.heap.size, 2, none⟩ = some (.slice AR T.rules.length cR) := by rw [HW1.out]; exact box_cell (Below.refl _ _) 2
 have b3 : W1.cell? ⟨w.heap.size, 3, none⟩ = some vB := by rw [HW1.out]; exact box_cell (Below.refl _ _) 3
 rw [← HW1.out] at hbel
 have hB1 := h3.ext llR_mono hbel
 have hadj : AdjOk T.rules.length (beatsAt T) := by
  intro x hx y hy
  have hok := beatsAll_true.1 hba x (by omega)
  simp only [beatsOk, Bool.and_eq_true] at hok
  obtain ⟨i, hi, rfl⟩ := List.getElem_of_mem hy
  exact (risB_spec hok.1).1 i hi
 have hnext : Nexts W1 T.rules.length 107 #[.pointer (some ⟨w.heap.size, 0, none⟩)] (beatsAt T) := fun x hx w1 ho =>
  circle1_any W1 w1 w.heap.size T vB x (by omega) (cell_ext ho b3) hB1 ho
 have Hk := hid (knot_any W1 T.rules.length _ _ _ h4 enters_circle1 hnext hadj)
 clear hnext hadj hba h1 h3 hrR hB1
 have Hbl := hid hbl
 clear hbl
 refine post_gen fun Q HQ => ?_
 go_enter Tryz.func95, Tryz.ntmps95
 go_wp2_with fail
 rw [← HW1.out]
 refine Hk.out.mono ?_
 rintro e w2 ⟨_, rfl, b, gI, gL, gO, gF, base, st, sv, rfl, hk, hinv, hall⟩
 have hkn : st.kn ≤ T.rules.length := by have := hinv.kn_le; have := enter_inv_cnt hinv; omega
 have Hinv := hid (And.intro hinv hall)
 have hofl : ∀ x, x < T.rules.length → st.of x < st.kn := fun x hx => hinv.b3 x (hall x hx) (by rw [inv_empty hinv]; simp)
 have Hofl := hid hofl
 clear hofl hinv hall b2 b3 Hk
 have e5 := hk.cell 5; have e7 := hk.cell 7
 simp only [List.getElem?_toArray, List.getElem?_cons_zero, List.getElem?_cons_succ] at e5 e7
 have hmk := mkI (st.kn : Int) (by omega) (by omega)
 rw [Int.toNat_natCast] at hmk
 have hb2 : b < w2.heap.size := lt_of_block hk.blk
 go_wp2
 clear hmk
 have Hk := hid hk
 clear hk e7
 go_loopw [22] (fun v22 wr => ∃ k : Nat, k ≤ T.rules.length ∧ v22 = .int .i64 k ∧ Arr (fun x : Nat => Value.int .i64 (x : Int)) 3 wr w2.heap.size (tab st.kn (cntOf st.of k)) ∧ Hid (wr.heap[w2.heap.size + 1]? = some (.cells #[.slice (some ⟨w2.heap.size, 0, none⟩) st.kn st.kn] 36 (0, 0))) ∧ Below w2.heap.size w2 wr) (fun v22 _ => T.rules.length - (intOf v22).toNat)
 case atStart =>
  refine ⟨0, Nat.zero_le _, rfl, ?_, ?_, ?_⟩
  ·have h0 : cntOf st.of 0 = fun _ => 0 := by funext c; simp [cntOf]
   rw [h0]; exact (madeI_at rfl).alloc _
  ·show ((w2.alloc _).alloc _).heap[w2.heap.size + 1]? = _
   exact heap_alloc2_new w2 _ _
  ·exact (ext_trans (ext_alloc w2 _) (ext_alloc _ _))
 case round =>
  obtain ⟨k, hkk, rfl, harr, hone, hbl⟩ := hrel
  have cC := cell_of_one hone.out
  have hC := lt_of_block hone.out
  by_cases hlt : k < T.rules.length
  ·have cF := cell_ext hbl (Hk.out.cF hlt)
   have hof := Hofl.out k hlt
   have cS := harr.cell (i := st.of k) (by rw [tab_length]; exact hof)
   rw [tab_at hof] at cS
   have fS := harr.free (st.of k)
   have hle := cntOf_le st.of k (st.of k)
   have Hs : Hid (tab st.kn (cntOf st.of (k + 1)) = (tab st.kn (cntOf st.of k)).set (st.of k) (cntOf st.of k (st.of k) + 1)) := by rw [Hid, tab_set, cntOf_succ]
   generalize cntOf st.of k (st.of k) = q at *
   go_wp2
   go_roundw
   case rel =>
    refine ⟨k + 1, by omega, by go_num, ?_, ?_, ?_⟩
    ·rw [Hs.out]
     exact harr.set (st.of k) (q + 1)
    ·exact (heap_setCell_other _ _ _ _ (show w2.heap.size + 1 ≠ w2.heap.size by omega)).trans hone.out
    ·exact hbl.setCell (Nat.le_refl _) _
   case measure => simp [intOf]; omega
  ·obtain rfl : k = T.rules.length := by omega
   have e5' := cell_ext hbl e5
   have hb3 : b < wr.heap.size := Nat.lt_of_lt_of_le hb2 hbl.size
   have hF : RdI wr (.slice (some ⟨gF, 0, none⟩) T.rules.length T.rules.length) ((tab T.rules.length st.of).map fun (x : Nat) => (x : Int)) := arr_rdI (Hk.out.aF.ext hbl) (by omega)
   have Hcall := hid (indexFunc wr _ _ _ #[.pointer (some ⟨w2.heap.size + 1, 0, none⟩)] (fun x => decide (1 < cntOf st.of T.rules.length x.toNat)) enters_circle2 hF (by
    intro x hx w1 ho
    obtain ⟨i, hi, rfl⟩ := List.mem_map.1 hx
    obtain ⟨j, hj, rfl⟩ := List.getElem_of_mem hi
    rw [tab_length] at hj
    rw [tab_at hj]
    exact circle2_any w1 _ _ st.kn _ (st.of j) (Hofl.out j hj) (cell_ext ho cC) (harr.ext ho)))
   go_wp2_with fail
   refine Hcall.out.mono ?_
   rintro e w4 ⟨_, rfl, rfl, hb4⟩
   clear Hcall
   generalize hr : idxOf (fun x => decide (1 < cntOf st.of T.rules.length x.toNat)) ((tab T.rules.length st.of).map fun (x : Nat) => (x : Int)) = r at *
   have Hr := hid hr
   clear hr
   go_wp2
   go_ret
   refine Fin HQ ⟨⟨r, rfl, ?_⟩, ?_⟩
   ·have h1 := idxOf_nonneg (fun x => decide (1 < cntOf st.of T.rules.length x.toNat)) ((tab T.rules.length st.of).map fun (x : Nat) => (x : Int))
    rw [Hr.out] at h1
    obtain ⟨hinv, hall⟩ := Hinv.out
    have hst := inv_empty hinv
    have hb := fun x y (hx : x < T.rules.length) (hy : y < T.rules.length) => hinv.b2 x y (hall x hx) (by rw [hst]; simp) (hall y hy) (by rw [hst]; simp)
    have key : r < 0 ↔ ∀ i, i < T.rules.length → ¬ 1 < cntOf st.of T.rules.length (st.of i) := by
     rw [show (r < 0) ↔ ¬ (0 ≤ r) from by omega, ← decide_eq_true_eq (p := 0 ≤ r), h1, Bool.not_eq_true, List.any_eq_false]
     simp only [List.mem_map, tab, List.mem_range, decide_eq_true_eq]
     constructor
     ·intro h i hi
      exact h _ ⟨_, ⟨i, hi, rfl⟩, rfl⟩
     ·rintro h x ⟨_, ⟨i, hi, rfl⟩, rfl⟩
      exact h i hi
    rw [key]
    constructor
    ·intro h x y hx hy h1 h2
     by_cases e : x = y
     ·exact e
     ·exact absurd (cntOf_two.2 ⟨x, y, hx, hy, e, rfl, ((hb x y hx hy).2 ⟨h1, h2⟩).symm⟩) (h x hx)
    ·intro h i hi h2
     obtain ⟨x, y, hx, hy, hne, e1, e2⟩ := cntOf_two.1 h2
     obtain ⟨l1, l2⟩ := (hb x y hx hy).1 (e1.trans e2.symm)
     exact hne (h x y hx hy l1 l2)
   ·exact ext_trans hbel (ext_trans Hk.out.old (ext_trans hbl hb4))
end Go.Proofs.Lx

namespace Go.Proofs.Lx
open Go Go.RowKit
set_option linter.unusedSimpArgs false
set_option linter.unusedVariables false

/-- A theory that may be. -/
structure WfTh (T : Th) : Prop where
 l0 : 0 ≤ T.lits
 l1 : T.lits ≤ 4096
 fl : (T.foes.length : Int) = T.lits
 fo : foesAll T = true
 rl : T.rules.length ≤ 4096
 ru : ∀ r ∈ T.rules, ruleOk T.lits r = true
 pc : pairCount T ≤ 65536
 bl : T.beats.length = T.rules.length
 ba : beatsAll T = true
 nk : NoKnot T

open Classical in
/-- The error's number that Check answers. -/
noncomputable def checkErr (T : Th) : Int :=
 if T.lits < 0 ∨ 4096 < T.lits then 112 else if (T.foes.length : Int) ≠ T.lits then 121 else if foesAll T = false then 121 else if 4096 < T.rules.length then 111
 else if T.rules.all (ruleOk T.lits) = false then 122 else if 65536 < pairCount T then 113 else if T.beats.length ≠ T.rules.length then 123 else if beatsAll T = false then 123
 else if NoKnot T then 0 else 131
theorem checkErr_ok (T : Th) : checkErr T = 0 ↔ WfTh T := by
 unfold checkErr
 constructor
 ·intro h
  by_cases h1 : T.lits < 0 ∨ 4096 < T.lits
  ·rw [if_pos h1] at h; cases h
  rw [if_neg h1] at h
  by_cases h2 : (T.foes.length : Int) ≠ T.lits
  ·rw [if_pos h2] at h; cases h
  rw [if_neg h2] at h
  by_cases h3 : foesAll T = false
  ·rw [if_pos h3] at h; cases h
  rw [if_neg h3] at h
  by_cases h4 : 4096 < T.rules.length
  ·rw [if_pos h4] at h; cases h
  rw [if_neg h4] at h
  by_cases h5 : T.rules.all (ruleOk T.lits) = false
  ·rw [if_pos h5] at h; cases h
  rw [if_neg h5] at h
  by_cases h6 : 65536 < pairCount T
  ·rw [if_pos h6] at h; cases h
  rw [if_neg h6] at h
  by_cases h7 : T.beats.length ≠ T.rules.length
  ·rw [if_pos h7] at h; cases h
  rw [if_neg h7] at h
  by_cases h8 : beatsAll T = false
  ·rw [if_pos h8] at h; cases h
  rw [if_neg h8] at h
  by_cases h9 : NoKnot T
  ·exact ⟨by omega, by omega, by omega, by simpa using h3, by omega, List.all_eq_true.1 (by simpa using h5), by omega, by omega, by simpa using h8, h9⟩
  ·rw [if_neg h9] at h; cases h
 ·intro h
  rw [if_neg (by have := h.l0; have := h.l1; omega), if_neg (by have := h.fl; omega), if_neg (by rw [h.fo]; simp), if_neg (by have := h.rl; omega), if_neg (by rw [List.all_eq_true.2 h.ru]; simp),
   if_neg (by have := h.pc; omega), if_neg (by have := h.bl; omega), if_neg (by rw [h.ba]; simp), if_pos h.nk]

set_option maxRecDepth 1000000 in
set_option maxHeartbeats 6400000 in
theorem check_any (w : World) (V : Value) (T : Th) (hT : RdTh w V T) :
  Calls Tryz.prog 77 #[V] w (Ret fun v w' => (∃ i : Int, v = .tuple #[.int .i64 (checkErr T), .int .i64 i]) ∧ Below w.heap.size w w') := by
 have HT := hT
 obtain ⟨vF, vR, vB, rfl, ⟨A, c, rfl, hc, hb, hr⟩, ⟨AR, cR, rfl, hcR, hbR, hrR⟩, ⟨AB, cB, rfl, hcB, hbB, hrB⟩⟩ := hT
 have hbel := ext_alloc w (.cells #[.int .i64 T.lits, .slice A T.foes.length c, .slice AR T.rules.length cR, .slice AB T.beats.length cB] 25)
 obtain ⟨W1, HW1⟩ : ∃ W1, Hid (W1 = w.alloc (.cells #[.int .i64 T.lits, .slice A T.foes.length c, .slice AR T.rules.length cR, .slice AB T.beats.length cB] 25)) := ⟨_, rfl⟩
 have b0 : W1.cell? ⟨w.heap.size, 0, none⟩ = some (.int .i64 T.lits) := by rw [HW1.out]; exact box_cell (Below.refl _ _) 0
 have b1 : W1.cell? ⟨w.heap.size, 1, none⟩ = some (.slice A T.foes.length c) := by rw [HW1.out]; exact box_cell (Below.refl _ _) 1
 have b2 : W1.cell? ⟨w.heap.size, 2, none⟩ = some (.slice AR T.rules.length cR) := by rw [HW1.out]; exact box_cell (Below.refl _ _) 2
 have b3 : W1.cell? ⟨w.heap.size, 3, none⟩ = some (.slice AB T.beats.length cB) := by rw [HW1.out]; exact box_cell (Below.refl _ _) 3
 rw [← HW1.out] at hbel
 have hrR1 := hrR.ext ruleR_mono hbel
 have HT1 := hid (HT.ext hbel)
 have B := hid (And.intro b0 (And.intro b1 (And.intro b2 b3)))
 clear hr hrR hrB HT b0 b1 b2 b3
 refine post_gen fun Q HQ => ?_
 go_enter Tryz.func77, Tryz.ntmps77
 have hE : ∀ (x : Int) (w' : World), checkErr T = x → Below W1.heap.size W1 w' → ∀ i : Int, (∃ i' : Int, Value.tuple #[.int .i64 x, .int .i64 i] = .tuple #[.int .i64 (checkErr T), .int .i64 i']) ∧ Below w.heap.size w w' := fun x w' hx hb i => ⟨⟨i, by rw [hx]⟩, ext_trans hbel hb⟩
 have HE := hid hE
 clear hE
 by_cases h1 : T.lits < 0 ∨ 4096 < T.lits
 ·have H1 := hid h1
  go_wp2_with fail
  all_goals try rw [← HW1.out]
  all_goals first
   | (go_ret2; exact Fin HQ (HE.out 112 _ (by unfold checkErr; rw [if_pos H1.out]) (ext_refl _) _))
   | (exfalso; omega)
 by_cases h2 : (T.foes.length : Int) = T.lits
 case neg =>
  have hb2 : ((T.foes.length : Int) != T.lits) = true := by simp [h2]
  have H2 := hid h2
  clear h2
  go_wp2_with fail
  try rw [← HW1.out]
  go_ret2
  exact Fin HQ (HE.out 121 _ (by unfold checkErr; rw [if_neg h1, if_pos H2.out]) (ext_refl _) _)
 have hb2 : ((T.foes.length : Int) != T.lits) = false := by simp [h2]
 have H2 := hid h2
 clear h2
 go_wp2_with fail
 rw [← HW1.out]
 refine (foes_any W1 _ T HT1.out H2.out).mono ?_
 rintro e w2 ⟨_, rfl, ⟨r, rfl, hr⟩, hbb2⟩
 have HR := hid hr
 have hbo := hbb2
 clear hr hb2
 have b2' := cell_ext hbb2 B.out.2.2.1
 cases h3 : foesAll T with
 | false =>
  have hr0 : 0 ≤ r := by have := HR.out; rw [h3] at this; simp at this; omega
  have H3 := hid h3
  clear h3
  go_wp2_with fail
  go_ret2
  exact Fin HQ (HE.out 121 _ (by unfold checkErr; rw [if_neg h1, if_neg (by simp [H2.out]), if_pos H3.out]) hbb2 _)
 | true =>
  have hr0 : r < 0 := HR.out.2 h3
  have H3 := hid h3
  clear h3
  by_cases h4 : 4096 < T.rules.length
  ·go_wp2_with fail
   go_ret2
   exact Fin HQ (HE.out 111 _ (by unfold checkErr; rw [if_neg h1, if_neg (by simp [H2.out]), if_neg (by simp [H3.out]), if_pos h4]) hbb2 _)
  go_wp2
  clear hbb2 b2'
  go_loopw [35] (fun v35 wr => ∃ k : Nat, k ≤ T.rules.length ∧ v35 = .int .i64 k ∧ Hid (∀ i (h : i < T.rules.length), i < k → ruleOk T.lits T.rules[i] = true) ∧ Below W1.heap.size W1 wr) (fun v35 _ => T.rules.length - (intOf v35).toNat)
  case atStart => exact ⟨0, Nat.zero_le _, rfl, fun i h hk => absurd hk (by omega), hbo⟩
  case round =>
   clear hbo
   obtain ⟨k, hk, rfl, hno, hbl⟩ := hrel
   have c0 := cell_ext hbl B.out.1; have c1 := cell_ext hbl B.out.2.1; have c2 := cell_ext hbl B.out.2.2.1; have c3 := cell_ext hbl B.out.2.2.2
   have hbx : w.heap.size < wr.heap.size := World.block_lt_of_cell? _ _ c0
   obtain ⟨wo, rfl⟩ : ∃ wo : World, wo = wr := ⟨_, rfl⟩
   by_cases hlt : k < T.rules.length
   ·obtain ⟨ad, C, cC, rfl, p0, p1, p2, q0, q1, q2⟩ := (hrR1.ext ruleR_mono hbl).atRule hlt
    have hRul : RdRule wo (.agg #[.int .i64 T.rules[k].kind, .int .i64 T.rules[k].head, .slice C T.rules[k].body.length cC]) T.rules[k] := ⟨_, rfl, C, cC, rfl, q0, q1, q2⟩
    obtain ⟨wx, HWX⟩ : ∃ wx, Hid (wx = wo.alloc (.cells #[.int .i64 T.rules[k].kind, .int .i64 T.rules[k].head, .slice C T.rules[k].body.length cC] 93)) := ⟨_, hid rfl⟩
    have hbx2 : Below wo.heap.size wo wx := by rw [HWX.out]; exact ext_alloc _ _
    have hRulX : RdRule wx (.agg #[.int .i64 T.rules[k].kind, .int .i64 T.rules[k].head, .slice C T.rules[k].body.length cC]) T.rules[k] := ⟨_, rfl, C, cC, rfl, q0, q1, q2.ext (scR_mono _) hbx2⟩
    have Hcall := hid (rule_any wx _ _ T T.rules[k] (HT1.out.ext (ext_trans hbl hbx2)) hRulX)
    clear hRul hRulX q2
    go_wp2_with fail
    rw [← HWX.out]
    refine Hcall.out.mono ?_
    rintro e w5 ⟨_, rfl, rfl, hb5⟩
    have hb6 := ext_trans hbx2 hb5
    clear Hcall hbx2
    cases hok : ruleOk T.lits T.rules[k] with
    | false =>
     have Hok := hid hok
     clear hok
     go_wp2
     go_ret2
     refine Fin HQ (HE.out 122 _ ?_ (ext_trans hbl hb6) _)
     unfold checkErr
     rw [if_neg h1, if_neg (by simp [H2.out]), if_neg (by simp [H3.out]), if_neg h4, if_pos]
     rw [List.all_eq_false]
     exact ⟨_, List.getElem_mem hlt, by rw [Hok.out]; simp⟩
    | true =>
     have Hok := hid hok
     clear hok
     go_wp2
     go_roundw
     case rel =>
      refine ⟨k + 1, by omega, by go_num, fun i h hi => ?_, ext_trans hbl hb6⟩
      by_cases e : i = k
      ·subst e; exact Hok.out
      ·exact hno.out i h (by omega)
     case measure => simp [intOf]; omega
   ·have Hru : Hid (∀ r ∈ T.rules, ruleOk T.lits r = true) := fun r hr => by
     obtain ⟨i, hi, rfl⟩ := List.getElem_of_mem hr
     exact hno.out i hi (by omega)
    have Hru2 : Hid (¬ T.rules.all (ruleOk T.lits) = false) := by rw [Hid, List.all_eq_true.2 Hru.out]; simp
    clear hno
    go_wp2_with fail
    refine (pairs_any wo _ T (HT1.out.ext hbl) H2.out (by omega) H3.out (by omega) Hru.out).mono ?_
    rintro e w5 ⟨_, rfl, rfl, hb5⟩
    have hb5' := ext_trans hbl hb5
    clear c0 c1 c2 c3
    by_cases h6 : 65536 < pairCount T
    ·go_wp2_with fail
     go_ret2
     exact Fin HQ (HE.out 113 _ (by unfold checkErr; rw [if_neg h1, if_neg (by simp [H2.out]), if_neg (by simp [H3.out]), if_neg h4, if_neg Hru2.out, if_pos h6]) hb5' _)
    have c0 := cell_ext hb5' B.out.1; have c1 := cell_ext hb5' B.out.2.1; have c2 := cell_ext hb5' B.out.2.2.1; have c3 := cell_ext hb5' B.out.2.2.2
    by_cases h7 : T.beats.length = T.rules.length
    case neg =>
     have hb7 : ((T.beats.length : Int) != (T.rules.length : Int)) = true := by simp; omega
     have H7 := hid h7
     have H6 := hid h6
     clear h7
     go_wp2_with fail
     go_ret2
     exact Fin HQ (HE.out 123 _ (by unfold checkErr; rw [if_neg h1, if_neg (by simp [H2.out]), if_neg (by simp [H3.out]), if_neg h4, if_neg Hru2.out, if_neg H6.out, if_pos H7.out]) hb5' _)
    have hb7 : ((T.beats.length : Int) != (T.rules.length : Int)) = false := by simp; omega
    have H7 := hid h7
    have H6 := hid h6
    clear h7
    go_wp2_with fail
    clear h6
    refine (beats_any w5 _ T (HT1.out.ext hb5') H2.out H3.out Hru.out H7.out (by omega)).mono ?_
    rintro e w6 ⟨_, rfl, ⟨r8, rfl, hr8⟩, hb6⟩
    have HR8 := hid hr8
    have hb6' := ext_trans hb5' hb6
    clear hr8 c0 c1 c2 c3
    have c0 := cell_ext hb6' B.out.1; have c1 := cell_ext hb6' B.out.2.1; have c2 := cell_ext hb6' B.out.2.2.1; have c3 := cell_ext hb6' B.out.2.2.2
    cases h8 : beatsAll T with
    | false =>
     have hr0 : 0 ≤ r8 := by have := HR8.out; rw [h8] at this; simp at this; omega
     have H8 := hid h8
     clear h8
     go_wp2_with fail
     go_ret2
     exact Fin HQ (HE.out 123 _ (by unfold checkErr; rw [if_neg h1, if_neg (by simp [H2.out]), if_neg (by simp [H3.out]), if_neg h4, if_neg Hru2.out, if_neg H6.out, if_neg (by simp [H7.out]), if_pos H8.out]) hb6' _)
    | true =>
     have hr0' : r8 < 0 := HR8.out.2 h8
     have H8 := hid h8
     clear h8
     go_wp2_with fail
     refine (circle_any w6 _ T (HT1.out.ext hb6') (by omega) H7.out H8.out).mono ?_
     rintro e w7 ⟨_, rfl, ⟨r9, rfl, hr9⟩, hb7'⟩
     have HR9 := hid hr9
     clear hr9
     by_cases h9 : 0 ≤ r9
     ·go_wp2_with fail
      go_ret2
      exact Fin HQ (HE.out 131 _ (by unfold checkErr; rw [if_neg h1, if_neg (by simp [H2.out]), if_neg (by simp [H3.out]), if_neg h4, if_neg Hru2.out, if_neg H6.out, if_neg (by simp [H7.out]), if_neg (by simp [H8.out]), if_neg (fun h => by have := HR9.out.2 h; omega)]) (ext_trans hb6' hb7') _)
     ·go_wp2_with fail
      go_ret2
      exact Fin HQ (HE.out 0 _ (by unfold checkErr; rw [if_neg h1, if_neg (by simp [H2.out]), if_neg (by simp [H3.out]), if_neg h4, if_neg Hru2.out, if_neg H6.out, if_neg (by simp [H7.out]), if_neg (by simp [H8.out]), if_pos (HR9.out.1 (by omega))]) (ext_trans hb6' hb7') _)
end Go.Proofs.Lx
