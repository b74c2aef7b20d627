/- Parts of the proof: Cf, Ta, Tb. Contract of theory.beats. -/
import Derived.Test.YtalhpldbhogadaaGreatO6
namespace Go.Proofs.Lx
open Go Go.RowKit
set_option linter.unusedSimpArgs false
set_option linter.unusedVariables false

def headOf (T : Th) (i : Int) : Int := (T.rules.getD i.toNat default).head
def beatsOk (T : Th) (r : Nat) : Bool := risB (T.beats.getD r []) T.rules.length && (T.beats.getD r []).all fun s => memB (row T.foes (headOf T r)) (headOf T s)
def beatsAll (T : Th) : Bool := (List.range T.beats.length).all (beatsOk T)
theorem beatsAll_true {T : Th} : beatsAll T = true ↔ ∀ q, q < T.beats.length → beatsOk T q = true := by simp [beatsAll]
theorem beatsAll_false {T : Th} {q : Nat} (h : q < T.beats.length) (hf : beatsOk T q = false) : beatsAll T = false := by
 rw [Bool.eq_false_iff]; intro ht
 rw [beatsAll_true.1 ht q h] at hf; cases hf
theorem has_plain (w : World) (v : Value) (l : List Int) (x : Int) (hv : RdI w v l) (hs : l.Pairwise (· < ·)) :
  Calls Tryz.prog 97 #[v, .int .i64 x] w fun e w' => e = .returned (.bool (memB l x)) ∧ w' = w :=
 (has_any w v l x hv hs).mono fun e w' ⟨v, he, hv, hw⟩ => ⟨by rw [he, hv], hw⟩

set_option maxHeartbeats 1600000 in
theorem beats_any (w : World) (V : Value) (T : Th) (hT : RdTh w V T) (hl : (T.foes.length : Int) = T.lits) (hfo : foesAll T = true)
  (hrr : ∀ r ∈ T.rules, ruleOk T.lits r = true) (hbl : T.beats.length = T.rules.length) (h4 : T.rules.length ≤ 4096) :
  Calls Tryz.prog 84 #[V] w (Ret fun v w' => (∃ r : Int, v = .int .i64 r ∧ (r < 0 ↔ beatsAll T = true)) ∧ Below w.heap.size w w') := by
 obtain ⟨lits, foes, rules, beats⟩ := T
 obtain ⟨vF, vR, vB, rfl, ⟨A, c, rfl, hc, hb, hr⟩, ⟨AR, cR, rfl, hcR, hbR, hrR⟩, ⟨AB, cB, rfl, hcB, hbB, hrB⟩⟩ := hT
 dsimp only at *
 obtain rfl : lits = (foes.length : Int) := hl.symm
 clear hl
 have hbel := ext_alloc w (.cells #[.int .i64 foes.length, .slice A foes.length c, .slice AR rules.length cR, .slice AB beats.length cB] 25)
 have hr1 := hr.ext llR_mono hbel
 have hrR1 := hrR.ext ruleR_mono hbel
 have hrB1 := hrB.ext llR_mono hbel
 have Hfo := hid hfo
 have Hrr := hid hrr
 have Hbl := hid hbl
 have hbl1 : beats.length ≤ rules.length := by omega
 have hbl2 : rules.length ≤ beats.length := by omega
 clear hr hrR hrB hfo hrr hbl
 refine post_gen fun Q HQ => ?_
 go_enter Tryz.func84, Tryz.ntmps84
 go_wp2
 obtain ⟨W1, HW1⟩ : ∃ W1, Hid (W1 = w.alloc (.cells #[.int .i64 foes.length, .slice A foes.length c, .slice AR rules.length cR, .slice AB beats.length cB] 25)) := ⟨_, rfl⟩
 have b1 : W1.cell? ⟨w.heap.size, 1, none⟩ = some (.slice A foes.length c) := by rw [HW1.out]; exact box_cell (Below.refl _ _) 1
 have b2 : W1.cell? ⟨w.heap.size, 2, none⟩ = some (.slice AR rules.length cR) := by rw [HW1.out]; exact box_cell (Below.refl _ _) 2
 rw [← HW1.out] at hbel hr1 hrR1 hrB1 ⊢
 go_loopw [10] (fun v10 wr => ∃ k : Nat, k ≤ beats.length ∧ v10 = .int .i64 k ∧ Hid (∀ i, i < k → beatsOk ⟨foes.length, foes, rules, beats⟩ i = true) ∧ Below W1.heap.size W1 wr) (fun v10 _ => beats.length - (intOf v10).toNat)
 case atStart => exact ⟨0, Nat.zero_le _, rfl, fun i hk => absurd hk (by omega), ext_refl _⟩
 case round =>
  obtain ⟨k, hk, rfl, hno, hbl⟩ := hrel
  have b1' := cell_ext hbl b1
  have b2' := cell_ext hbl b2
  obtain ⟨wo, rfl⟩ : ∃ wo : World, wo = wr := ⟨_, rfl⟩
  by_cases hlt : k < beats.length
  ·obtain ⟨ad, B, cL, rfl, hcell, hcL, hbL, hrL⟩ := (hrB1.ext llR_mono hbl).atRow hlt
   have Hg : Hid (beats.getD k [] = beats[k]) := by simp [Hid, hlt]
   have Hbad : ∀ r : Int, 0 ≤ r → beatsOk ⟨foes.length, foes, rules, beats⟩ k = false → ∃ r', Value.int .i64 r = .int .i64 r' ∧ (r' < 0 ↔ beatsAll ⟨foes.length, foes, rules, beats⟩ = true) := fun r h0 hf => ⟨r, rfl, by rw [beatsAll_false hlt hf]; simp; omega⟩
   have Hbad := hid Hbad
   generalize hL : beats[k] = L at *
   have HL := hid hL
   clear hL
   have hRL : RdI wo (.slice B L.length cL) L := ⟨B, cL, rfl, hcL, hbL, hrL⟩
   cases hris : risB L rules.length with
   | false =>
    have Hris := hid hris
    go_wp2_with (go_at_call 86; refine (rising_any _ _ _ _ hRL).mono ?_; rintro e w' ⟨_, rfl, rfl, rfl⟩)
    go_ret
    exact Fin HQ ⟨Hbad.out k (by omega) (by simp only [beatsOk, Hg.out]; rw [Hris.out]; simp), ext_trans hbel hbl⟩
   | true =>
    have Hris := hid hris
    have Hsp := hid (risB_spec hris)
    go_wp2_with (go_at_call 86; refine (rising_any _ _ _ _ hRL).mono ?_; rintro e w' ⟨_, rfl, rfl, rfl⟩)
    clear hris hcell b1' b2'
    go_loopw [24] (fun v24 w3 => ∃ j : Nat, j ≤ L.length ∧ v24 = .int .i64 j ∧ Hid (∀ i (h : i < L.length), i < j → memB (row foes (headOf ⟨foes.length, foes, rules, beats⟩ k)) (headOf ⟨foes.length, foes, rules, beats⟩ L[i]) = true) ∧ Below w'.heap.size w' w3) (fun v24 _ => L.length - (intOf v24).toNat)
    case atStart => exact ⟨0, Nat.zero_le _, rfl, fun i h hk => absurd hk (by omega), ext_refl _⟩
    case round =>
     obtain ⟨j, hj, rfl, hin, hbl3⟩ := hrel
     have hbl4 := ext_trans hbl hbl3
     have b1' := cell_ext hbl4 b1
     have b2' := cell_ext hbl4 b2
     by_cases hjl : j < L.length
     ·obtain ⟨adL, rfl, hcj⟩ := (hrL.ext (scR_mono _) hbl3).at1 hjl
      have hrange := Hsp.out.1 j hjl
      have hkr : k < rules.length := by omega
      have hxr : L[j].toNat < rules.length := by omega
      obtain ⟨adR, B1, c1, rfl, p0, p1, p2, _, _, _⟩ := (hrR1.ext ruleR_mono hbl4).atRule hkr
      obtain ⟨adR', B2, c2, e2, q0, q1, q2, _, _, _⟩ := (hrR1.ext ruleR_mono hbl4).atRule hxr
      cases e2
      have hk0 := ruleOk_head (Hrr.out _ (List.getElem_mem hkr))
      have hfk : rules[k].head.toNat < foes.length := by omega
      obtain ⟨adF, CF, cF, rfl, hcF, hcF2, hbF, hrF⟩ := (hr1.ext llR_mono hbl4).atRow hfk
      have Hk1 : Hid (headOf ⟨foes.length, foes, rules, beats⟩ k = rules[k].head) := by simp [Hid, headOf, hkr]
      have Hx1 : Hid (headOf ⟨foes.length, foes, rules, beats⟩ L[j] = rules[L[j].toNat].head) := by simp [Hid, headOf, hxr]
      have Hrow : Hid (row foes rules[k].head = foes[rules[k].head.toNat]) := row_at hk0.1 (by omega)
      have Hps := hid (risB_spec (foesOk_spec Hfo.out rules[k].head.toNat hfk).2.1).2
      dsimp only at Hps
      have hRF : ∀ nq : Nat, RdI (wr.drewN nq) (.slice CF foes[rules[k].head.toNat].length cF) foes[rules[k].head.toNat] := fun nq => ⟨CF, cF, rfl, hcF2, hbF, hrF.ext (scR_mono _) (ext_drewN _ _)⟩
      have HRF := hid hRF
      clear hRF
      obtain ⟨hk00, hk01⟩ := hk0
      obtain ⟨hr00, hr01⟩ := hrange
      generalize hX : L[j] = X at *
      have HX := hid hX
      clear hX
      generalize hh : rules[k].head = hd at *
      have Hh := hid hh
      clear hh
      generalize hh2 : rules[X.toNat].head = hx at *
      have Hh2 := hid hh2
      clear hh2
      generalize hY : foes[hd.toNat] = Y at *
      have HY := hid hY
      clear hY
      cases hm : memB Y hx with
      | false =>
       have Hm := hid hm
       go_wp2
       go_quiet ((go_at_call 97; exact Calls.quiet_of_same (has_plain _ _ _ _ (HRF.out _) Hps.out)))
       go_wp2
       go_ret
       refine Fin HQ ⟨Hbad.out k (by omega) ?_, ext_trans hbel (ext_trans hbl4 (ext_drewN _ _))⟩
       simp only [beatsOk, Hg.out]
       rw [show (L.all fun s => memB (row foes (headOf ⟨foes.length, foes, rules, beats⟩ k)) (headOf ⟨foes.length, foes, rules, beats⟩ s)) = false from by
        rw [List.all_eq_false]; exact ⟨L[j], List.getElem_mem hjl, by rw [HX.out, Hx1.out, Hk1.out, Hrow.out, Hm.out]; simp⟩]
       simp
      | true =>
       have Hm := hid hm
       go_wp2
       go_quiet ((go_at_call 97; exact Calls.quiet_of_same (has_plain _ _ _ _ (HRF.out _) Hps.out)))
       go_wp2
       go_roundw
       case rel =>
        refine ⟨j + 1, by omega, by go_num, fun i h hi => ?_, below_drewN hbl3 _⟩
        by_cases e : i = j
        ·subst e; rw [HX.out, Hx1.out, Hk1.out, Hrow.out, Hm.out]
        ·exact hin.out i h (by omega)
       case measure => simp [intOf]; omega
     ·go_wp2
      go_roundw
      case rel =>
       refine ⟨k + 1, by omega, by go_num, fun i hi => ?_, hbl4⟩
       by_cases e : i = k
       ·subst e
        simp only [beatsOk, Hg.out, Hris.out, Bool.true_and]
        rw [List.all_eq_true]
        intro f hf
        obtain ⟨t, ht, rfl⟩ := List.getElem_of_mem hf
        exact hin.out t ht (by omega)
       ·exact hno.out i (by omega)
      case measure => simp [intOf]; omega
  ·go_wp2
   go_ret
   exact Fin HQ ⟨⟨-1, rfl, by simp only [show ((-1 : Int) < 0) by decide, true_iff]; exact beatsAll_true.2 fun q hq => hno.out q (by dsimp only at hq; omega)⟩, ext_trans hbel hbl⟩
end Go.Proofs.Lx

namespace Go.Proofs.Tj

inductive Leads (adj : Nat → List Nat) : Nat → Nat → Prop where
 | refl (x : Nat) : Leads adj x x
 | step {x y z : Nat} : Leads adj x y → z ∈ adj y → Leads adj x z
theorem Leads.trans {adj : Nat → List Nat} {x y z : Nat} (h : Leads adj x y) (k : Leads adj y z) : Leads adj x z := by
 induction k with
 | refl => exact h
 | step _ hz ih => exact .step ih hz
theorem Leads.edge {adj : Nat → List Nat} {x y : Nat} (h : y ∈ adj x) : Leads adj x y := .step (.refl x) h

def upd {α : Type} (f : Nat → α) (i : Nat) (x : α) : Nat → α := fun j => if j = i then x else f j
theorem upd_same {α : Type} (f : Nat → α) (i : Nat) (x : α) : upd f i x i = x := by simp [upd]
theorem upd_ne {α : Type} {f : Nat → α} {i j : Nat} {x : α} (h : j ≠ i) : upd f i x j = f j := by simp [upd, h]

structure TS where
 idx : Nat → Nat
 low : Nat → Nat
 on : Nat → Bool
 of : Nat → Nat
 stk : List Nat
 cnt : Nat
 kn : Nat

def visN (n : Nat) (f : Nat → Nat) : Nat := (List.range n).countP fun x => f x != 0
theorem visN_le (n : Nat) (f : Nat → Nat) : visN n f ≤ n := by
 have := List.countP_le_length (p := fun x => f x != 0) (l := List.range n)
 simpa [visN] using this
theorem visN_upd {f : Nat → Nat} {v c : Nat} (h0 : f v = 0) (hc : c ≠ 0) : ∀ n, visN n (upd f v c) = visN n f + (if v < n then 1 else 0)
 | 0 => by simp [visN]
 | n + 1 => by
  have ih := visN_upd (f := f) h0 hc n
  simp only [visN, List.range_succ, List.countP_append, List.countP_cons, List.countP_nil] at ih ⊢
  rw [ih]
  by_cases e : n = v
  ·subst e; simp [upd, hc, h0]
  ·have e' : v ≠ n := fun h => e h.symm
   rw [upd_ne e]
   by_cases h1 : v < n
   ·simp [h1, show v < n + 1 by omega]; omega
   ·simp [h1, show ¬ v < n + 1 by omega]

structure Inv (n : Nat) (adj : Nat → List Nat) (gs : List Nat) (s : TS) : Prop where
 idx_le : ∀ x, s.idx x ≤ s.cnt
 idx_inj : ∀ x y, s.idx x = s.idx y → s.idx x ≠ 0 → x = y
 vis_lt : ∀ x, s.idx x ≠ 0 → x < n
 cnt_eq : s.cnt = visN n s.idx
 sorted : s.stk.Pairwise fun x y => s.idx x < s.idx y
 stk_vis : ∀ x ∈ s.stk, s.idx x ≠ 0
 on_iff : ∀ x, s.on x = true ↔ x ∈ s.stk
 gs_stk : ∀ g ∈ gs, g ∈ s.stk
 r1 : ∀ x ∈ s.stk, ∀ y ∈ s.stk, s.idx x ≤ s.idx y → Leads adj x y
 r2 : ∀ y ∈ s.stk, ∃ g ∈ gs, s.idx g ≤ s.idx y ∧ Leads adj y g
 b1 : ∀ x, s.idx x ≠ 0 → x ∉ s.stk → ∀ y ∈ adj x, s.idx y ≠ 0 ∧ y ∉ s.stk
 b2 : ∀ x y, s.idx x ≠ 0 → x ∉ s.stk → s.idx y ≠ 0 → y ∉ s.stk → (s.of x = s.of y ↔ Leads adj x y ∧ Leads adj y x)
 b3 : ∀ x, s.idx x ≠ 0 → x ∉ s.stk → s.of x < s.kn
 bl : ∀ x, s.idx x ≠ 0 → x ∉ gs → ∀ y ∈ adj x, s.idx y ≠ 0
 kn_le : s.kn + s.stk.length ≤ s.cnt

structure Post (n : Nat) (adj : Nat → List Nat) (gs : List Nat) (v : Nat) (s s' : TS) : Prop where
 inv : Inv n adj gs s'
 iv : s'.idx v = s.cnt + 1
 old : ∀ x, s.idx x ≠ 0 → s'.idx x = s.idx x ∧ s'.low x = s.low x
 grow : s.cnt < s'.cnt
 ext : ∃ xs, s'.stk = s.stk ++ xs ∧ (∀ x ∈ xs, s.idx x = 0) ∧ ((xs = [] ∧ s'.low v = s'.idx v) ∨ (s'.low v < s'.idx v ∧ ∃ y ∈ s.stk, s.idx y = s'.low v ∧ Leads adj v y)) ∧
  ∀ x ∈ xs, ∀ y ∈ s.stk, y ∈ adj x → s'.low v ≤ s.idx y

structure LI (n : Nat) (adj : Nat → List Nat) (gs : List Nat) (v : Nat) (s : TS) (j : Nat) (c : TS) : Prop where
 inv : Inv n adj (v :: gs) c
 reach : ∀ g ∈ gs, Leads adj g v
 sv : s.idx v = 0
 iv : c.idx v = s.cnt + 1
 sle : ∀ x, s.idx x ≤ s.cnt
 old : ∀ x, s.idx x ≠ 0 → c.idx x = s.idx x ∧ c.low x = s.low x
 grow : s.cnt < c.cnt
 stk : ∃ xs, c.stk = s.stk ++ v :: xs ∧ (∀ x ∈ xs, s.idx x = 0) ∧ ∀ x ∈ xs, ∀ y ∈ s.stk, y ∈ adj x → c.low v ≤ s.idx y
 svis : ∀ x ∈ s.stk, s.idx x ≠ 0
 sgs : ∀ g ∈ gs, g ∈ s.stk
 low_le : c.low v ≤ c.idx v
 low : c.low v = c.idx v ∨ ∃ y ∈ s.stk, s.idx y = c.low v ∧ Leads adj v y
 succ : ∀ i (h : i < (adj v).length), i < j → c.idx (adj v)[i] ≠ 0 ∧ ((adj v)[i] ∈ s.stk → c.low v ≤ s.idx (adj v)[i])

def enter (s : TS) (v : Nat) : TS := { s with idx := upd s.idx v (s.cnt + 1), low := upd s.low v (s.cnt + 1), on := upd s.on v true, stk := s.stk ++ [v], cnt := s.cnt + 1 }
def setLow (s : TS) (v m : Nat) : TS := { s with low := upd s.low v m }

section
variable {n : Nat} {adj : Nat → List Nat} {gs : List Nat} {v : Nat} {s c : TS} {j : Nat}
theorem Post.vis {s' : TS} (h : Post n adj gs v s s') : s'.idx v ≠ 0 := by rw [h.iv]; omega

theorem Inv.setLow (h : Inv n adj gs s) (v m : Nat) : Inv n adj gs (setLow s v m) := ⟨h.1, h.2, h.3, h.4, h.5, h.6, h.7, h.8, h.9, h.10, h.11, h.12, h.13, h.14, h.15⟩

theorem begin0 (h : Inv n adj gs s) (hr : ∀ g ∈ gs, Leads adj g v) (hv : s.idx v = 0) (hn : v < n) : LI n adj gs v s 0 (enter s v) := by
 have hvs : v ∉ s.stk := fun hm => h.stk_vis v hm hv
 have hne : ∀ x, s.idx x ≠ 0 → x ≠ v := fun x hx e => hx (e ▸ hv)
 have hst : ∀ x ∈ s.stk, x ≠ v := fun x hx e => hvs (e ▸ hx)
 have hid : ∀ x, x ≠ v → (enter s v).idx x = s.idx x := fun x hx => upd_ne hx
 have hiv : (enter s v).idx v = s.cnt + 1 := upd_same _ _ _
 have hlv : (enter s v).low v = s.cnt + 1 := upd_same _ _ _
 have hmem : ∀ x, x ∈ (enter s v).stk ↔ x ∈ s.stk ∨ x = v := fun x => by simp [enter]
 refine ⟨⟨?_, ?_, ?_, ?_, ?_, ?_, ?_, ?_, ?_, ?_, ?_, ?_, ?_, ?_, ?_⟩, hr, hv, hiv, h.idx_le, ?_, ?_, ⟨[], by simp [enter], by simp, by simp⟩, h.stk_vis, h.gs_stk, by rw [hiv, hlv]; exact Nat.le_refl _, .inl (by rw [hiv, hlv]), fun i _ hi => absurd hi (by omega)⟩
 ·intro x
  by_cases e : x = v
  ·subst e; rw [hiv]; exact Nat.le_refl _
  ·rw [hid x e]; exact Nat.le_succ_of_le (h.idx_le x)
 ·intro x y hxy hx
  by_cases e : x = v <;> by_cases e' : y = v
  ·rw [e, e']
  ·subst e; rw [hiv, hid y e'] at hxy; have := h.idx_le y; omega
  ·subst e'; rw [hiv, hid x e] at hxy; have := h.idx_le x; omega
  ·rw [hid x e, hid y e'] at hxy; rw [hid x e] at hx; exact h.idx_inj x y hxy hx
 ·intro x hx
  by_cases e : x = v
  ·rw [e]; exact hn
  ·rw [hid x e] at hx; exact h.vis_lt x hx
 ·show s.cnt + 1 = visN n (upd s.idx v (s.cnt + 1))
  rw [visN_upd hv (by omega), if_pos hn, h.cnt_eq]
 ·show (s.stk ++ [v]).Pairwise _
  rw [List.pairwise_append]
  refine ⟨h.sorted.imp_of_mem fun {a b} ha hb hab => by rw [hid a (hst a ha), hid b (hst b hb)]; exact hab, by simp, fun a ha b hb => ?_⟩
  rw [List.mem_singleton] at hb
  subst hb
  rw [hiv, hid a (hst a ha)]; have := h.idx_le a; omega
 ·intro x hx
  by_cases e : x = v
  ·rw [e, hiv]; omega
  ·rw [hid x e]; exact h.stk_vis x (((hmem x).1 hx).resolve_right e)
 ·intro x
  rw [hmem]
  by_cases e : x = v
  ·simp [enter, upd, e]
  ·show upd s.on v true x = true ↔ _
   rw [upd_ne e, h.on_iff]; simp [e]
 ·intro g hg
  rw [hmem]
  rcases List.mem_cons.1 hg with e | hg
  ·exact .inr e
  ·exact .inl (h.gs_stk g hg)
 ·intro x hx y hy hxy
  rw [hmem] at hx hy
  rcases hx with hx | hx <;> rcases hy with hy | hy
  ·rw [hid x (hst x hx), hid y (hst y hy)] at hxy; exact h.r1 x hx y hy hxy
  ·subst hy
   obtain ⟨g, hg, _, hxg⟩ := h.r2 x hx
   exact hxg.trans (hr g hg)
  ·subst hx; rw [hiv, hid y (hst y hy)] at hxy; have := h.idx_le y; omega
  ·subst hx; subst hy; exact .refl _
 ·intro y hy
  rw [hmem] at hy
  rcases hy with hy | hy
  ·obtain ⟨g, hg, hle, hyg⟩ := h.r2 y hy
   exact ⟨g, List.mem_cons_of_mem _ hg, by rw [hid g (hst g (h.gs_stk g hg)), hid y (hst y hy)]; exact hle, hyg⟩
  ·exact ⟨v, List.mem_cons_self, by rw [hy]; exact Nat.le_refl _, by rw [hy]; exact .refl _⟩
 ·intro x hx hxs y hy
  rw [hmem] at hxs
  have e : x ≠ v := fun e => hxs (.inr e)
  rw [hid x e] at hx
  obtain ⟨h1, h2⟩ := h.b1 x hx (fun hm => hxs (.inl hm)) y hy
  have e' : y ≠ v := hne y h1
  rw [hid y e', hmem]
  exact ⟨h1, fun hm => hm.elim h2 e'⟩
 ·intro x y hx hxs hy hys
  rw [hmem] at hxs hys
  have e : x ≠ v := fun e => hxs (.inr e)
  have e' : y ≠ v := fun e => hys (.inr e)
  rw [hid x e] at hx; rw [hid y e'] at hy
  exact h.b2 x y hx (fun hm => hxs (.inl hm)) hy (fun hm => hys (.inl hm))
 ·intro x hx hxs
  rw [hmem] at hxs
  have e : x ≠ v := fun e => hxs (.inr e)
  rw [hid x e] at hx
  exact h.b3 x hx (fun hm => hxs (.inl hm))
 ·intro x hx hxg y hy
  have e : x ≠ v := fun e => hxg (by rw [e]; exact List.mem_cons_self)
  rw [hid x e] at hx
  have := h.bl x hx (fun hm => hxg (List.mem_cons_of_mem _ hm)) y hy
  rw [hid y (hne y this)]; exact this
 ·show s.kn + (s.stk ++ [v]).length ≤ s.cnt + 1
  have := h.kn_le
  simp; omega
 ·intro x hx
  exact ⟨hid x (hne x hx), upd_ne (hne x hx)⟩
 ·show s.cnt < s.cnt + 1
  omega

theorem LI.pre (h : LI n adj gs v s j c) (hj : j < (adj v).length) : ∀ g ∈ v :: gs, Leads adj g (adj v)[j] := by
 intro g hg
 have hvw : Leads adj v (adj v)[j] := .edge (List.getElem_mem hj)
 rcases List.mem_cons.1 hg with e | hg
 ·rw [e]; exact hvw
 ·exact (h.reach g hg).trans hvw

theorem min_cases (a b : Nat) : (min a b = a ∧ a ≤ b) ∨ (min a b = b ∧ b < a) := by omega
end
end Go.Proofs.Tj

namespace Go.Proofs.Tj
section
variable {n : Nat} {adj : Nat → List Nat} {gs : List Nat} {v : Nat} {s c : TS} {j : Nat}

theorem LI.v_stk (h : LI n adj gs v s j c) : v ∈ c.stk := h.inv.gs_stk v List.mem_cons_self
theorem LI.idx_ne (h : LI n adj gs v s j c) : c.idx v ≠ 0 := by rw [h.iv]; omega
/-- What stands lower on the stack has been there from the beginning. -/
theorem LI.lower (h : LI n adj gs v s j c) {y : Nat} (hy : y ∈ c.stk) (hlt : c.idx y < c.idx v) : y ∈ s.stk := by
 obtain ⟨xs, hs, hx, _⟩ := h.stk
 have hp := h.inv.sorted
 rw [hs] at hy hp
 rcases List.mem_append.1 hy with h1 | h1
 ·exact h1
 ·rcases List.mem_cons.1 h1 with h2 | h2
  ·subst h2; omega
  ·rw [List.pairwise_append] at hp
   have := List.rel_of_pairwise_cons hp.2.1 h2
   omega

theorem LI.stepC (h : LI n adj gs v s j c) (hj : j < (adj v).length) (hv : c.idx (adj v)[j] ≠ 0) (ho : c.on (adj v)[j] = false) : LI n adj gs v s (j + 1) c := by
 refine { h with succ := fun i hi hij => ?_ }
 by_cases e : i = j
 ·subst e
  refine ⟨hv, fun hm => ?_⟩
  obtain ⟨xs, hs, _⟩ := h.stk
  have : (adj v)[i] ∈ c.stk := by rw [hs]; exact List.mem_append_left _ hm
  rw [← h.inv.on_iff, ho] at this; cases this
 ·exact h.succ i hi (by omega)

theorem LI.stepB (h : LI n adj gs v s j c) (hj : j < (adj v).length) (hv : c.idx (adj v)[j] ≠ 0) (ho : c.on (adj v)[j] = true) :
  LI n adj gs v s (j + 1) (setLow c v (min (c.low v) (c.idx (adj v)[j]))) := by
 have hws : (adj v)[j] ∈ c.stk := (h.inv.on_iff _).1 ho
 have hl : (setLow c v (min (c.low v) (c.idx (adj v)[j]))).low v = min (c.low v) (c.idx (adj v)[j]) := upd_same _ _ _
 obtain ⟨xs, hs, hx, hxe⟩ := h.stk
 refine ⟨h.inv.setLow _ _, h.reach, h.sv, h.iv, h.sle, fun x hx => ?_, h.grow, ⟨xs, hs, hx, fun x hx y hy he => ?_⟩, h.svis, h.sgs, ?_, ?_, fun i hi hij => ?_⟩
 ·have : x ≠ v := fun e => hx (e ▸ h.sv)
  exact ⟨(h.old x hx).1, (upd_ne this).trans (h.old x hx).2⟩
 ·rw [hl]; exact Nat.le_trans (Nat.min_le_left _ _) (hxe x hx y hy he)
 ·rw [hl]; exact Nat.le_trans (Nat.min_le_left _ _) h.low_le
 ·rw [hl]
  show min (c.low v) (c.idx (adj v)[j]) = c.idx v ∨ _
  rcases min_cases (c.low v) (c.idx (adj v)[j]) with ⟨e, _⟩ | ⟨e, hlt⟩
  ·rw [e]; exact h.low
  ·rw [e]
   have h1 := h.low_le
   have hsw := h.lower hws (by omega)
   exact .inr ⟨(adj v)[j], hsw, ((h.old _ (h.svis _ hsw)).1).symm, .edge (List.getElem_mem hj)⟩
 ·rw [hl]
  show c.idx _ ≠ 0 ∧ _
  by_cases e : i = j
  ·subst e
   exact ⟨hv, fun hm => by rw [← (h.old _ (h.svis _ hm)).1]; exact Nat.min_le_right _ _⟩
  ·have := h.succ i hi (by omega)
   exact ⟨this.1, fun hm => Nat.le_trans (Nat.min_le_left _ _) (this.2 hm)⟩

theorem LI.stepA (h : LI n adj gs v s j c) (hj : j < (adj v).length) {c1 : TS} (hw : c.idx (adj v)[j] = 0) (hp : Post n adj (v :: gs) (adj v)[j] c c1) :
  LI n adj gs v s (j + 1) (setLow c1 v (min (c1.low v) (c1.low (adj v)[j]))) := by
 have hvn := h.idx_ne
 have hvo := hp.old v hvn
 have hl : (setLow c1 v (min (c1.low v) (c1.low (adj v)[j]))).low v = min (c1.low v) (c1.low (adj v)[j]) := upd_same _ _ _
 have hold : ∀ x, s.idx x ≠ 0 → c1.idx x = s.idx x ∧ c1.low x = s.low x := fun x hx => by
  obtain ⟨e1, e2⟩ := h.old x hx
  obtain ⟨e3, e4⟩ := hp.old x (by rw [e1]; exact hx)
  exact ⟨e3.trans e1, e4.trans e2⟩
 obtain ⟨xs, hs, hx, hxe⟩ := h.stk
 obtain ⟨ys, hs1, hy, hcase, hye⟩ := hp.ext
 have hsc : ∀ y ∈ s.stk, y ∈ c.stk := fun y hy => by rw [hs]; exact List.mem_append_left _ hy
 have hzero : ∀ x, c.idx x = 0 → s.idx x = 0 := fun x hx => by
  by_cases e : s.idx x = 0
  ·exact e
  ·rw [(h.old x e).1] at hx; exact hx
 refine ⟨hp.inv.setLow _ _, h.reach, h.sv, hvo.1.trans h.iv, h.sle, fun x hx => ?_, Nat.lt_trans h.grow hp.grow, ⟨xs ++ ys, ?_, ?_, ?_⟩, h.svis, h.sgs, ?_, ?_, fun i hi hij => ?_⟩
 ·have : x ≠ v := fun e => hx (e ▸ h.sv)
  exact ⟨(hold x hx).1, (upd_ne this).trans (hold x hx).2⟩
 ·show c1.stk = _
  rw [hs1, hs]; simp
 ·intro x hm
  rcases List.mem_append.1 hm with hm | hm
  ·exact hx x hm
  ·exact hzero x (hy x hm)
 ·intro x hm y hys he
  rw [hl]
  rcases List.mem_append.1 hm with hm | hm
  ·exact Nat.le_trans (Nat.min_le_left _ _) (by rw [hvo.2]; exact hxe x hm y hys he)
  ·refine Nat.le_trans (Nat.min_le_right _ _) ?_
   rw [← (h.old y (h.svis y hys)).1]
   exact hye x hm y (hsc y hys) he
 ·rw [hl]
  show _ ≤ c1.idx v
  rw [hvo.1]
  exact Nat.le_trans (Nat.min_le_left _ _) (by rw [hvo.2]; exact h.low_le)
 ·rw [hl]
  show min (c1.low v) (c1.low (adj v)[j]) = c1.idx v ∨ _
  rw [hvo.1, hvo.2]
  rcases min_cases (c.low v) (c1.low (adj v)[j]) with ⟨e, _⟩ | ⟨e, hlt⟩
  ·rw [e]; exact h.low
  ·rw [e]
   have h1 := h.low_le
   rcases hcase with ⟨_, h2⟩ | ⟨_, y, hyc, hye, hyr⟩
   ·exfalso
    have h3 := hp.iv
    have h4 := h.inv.idx_le v
    omega
   ·have hys := h.lower hyc (by omega)
    exact .inr ⟨y, hys, by rw [← (h.old y (h.svis y hys)).1]; exact hye, (Leads.edge (List.getElem_mem hj)).trans hyr⟩
 ·rw [hl]
  show c1.idx _ ≠ 0 ∧ _
  by_cases e : i = j
  ·subst e
   refine ⟨hp.vis, fun hm => ?_⟩
   exact absurd (hzero _ hw) (h.svis _ hm)
  ·have := h.succ i hi (by omega)
   refine ⟨by rw [(hp.old _ this.1).1]; exact this.1, fun hm => Nat.le_trans (Nat.min_le_left _ _) (by rw [hvo.2]; exact this.2 hm)⟩

theorem LI.keep (h : LI n adj gs v s (adj v).length c) (hne : c.low v ≠ c.idx v) : Post n adj gs v s c := by
 have hlt : c.low v < c.idx v := by have := h.low_le; omega
 obtain ⟨y0, hy0, hy0l, hy0r⟩ := h.low.resolve_left hne
 obtain ⟨xs, hs, hx, hxe⟩ := h.stk
 have hsc : ∀ y ∈ s.stk, y ∈ c.stk := fun y hy => by rw [hs]; exact List.mem_append_left _ hy
 have hi := h.inv
 have hy0i : c.idx y0 = s.idx y0 := (h.old y0 (h.svis y0 hy0)).1
 -- a gray one below v
 obtain ⟨g0, hg0, hg0l, hg0r⟩ := hi.r2 y0 (hsc y0 hy0)
 have hg0v : g0 ≠ v := fun e => by subst e; omega
 have hg0g : g0 ∈ gs := (List.mem_cons.1 hg0).resolve_left hg0v
 refine ⟨⟨hi.idx_le, hi.idx_inj, hi.vis_lt, hi.cnt_eq, hi.sorted, hi.stk_vis, hi.on_iff, fun g hg => hi.gs_stk g (List.mem_cons_of_mem _ hg), hi.r1, ?_, hi.b1, hi.b2, hi.b3, ?_, hi.kn_le⟩, h.iv, h.old, h.grow, ⟨v :: xs, hs, ?_, .inr ⟨hlt, y0, hy0, hy0l, hy0r⟩, ?_⟩⟩
 ·intro y hy
  obtain ⟨g, hg, hgl, hgr⟩ := hi.r2 y hy
  rcases List.mem_cons.1 hg with e | hg
  ·subst e
   exact ⟨g0, hg0g, by omega, (hgr.trans hy0r).trans hg0r⟩
  ·exact ⟨g, hg, hgl, hgr⟩
 ·intro x hx hxg y hy
  by_cases e : x = v
  ·subst e
   obtain ⟨i, hi2, rfl⟩ := List.getElem_of_mem hy
   exact (h.succ i hi2 hi2).1
  ·exact hi.bl x hx (fun hm => (List.mem_cons.1 hm).elim e hxg) y hy
 ·intro x hm
  rcases List.mem_cons.1 hm with e | hm
  ·rw [e]; exact h.sv
  ·exact hx x hm
 ·intro x hm y hy he
  rcases List.mem_cons.1 hm with e | hm
  ·subst e
   obtain ⟨i, hi2, rfl⟩ := List.getElem_of_mem he
   exact (h.succ i hi2 hi2).2 hy
  ·exact hxe x hm y hy he

/-- The walk with zs off the stack, in a part of their own. -/
def offs (c : TS) (ys zs : List Nat) : TS := { c with on := fun x => if x ∈ zs then false else c.on x, of := fun x => if x ∈ zs then c.kn else c.of x, stk := ys }
def popped (c : TS) (ys zs : List Nat) : TS := { offs c ys zs with kn := c.kn + 1 }

theorem LI.pop (h : LI n adj gs v s (adj v).length c) (he : c.low v = c.idx v) {xs : List Nat} (hs : c.stk = s.stk ++ v :: xs) : Post n adj gs v s (popped c s.stk (v :: xs)) := by
 obtain ⟨xs', hs', hx, hxe⟩ := h.stk
 have exs : xs' = xs := by
  have := hs'.symm.trans hs
  have := List.append_cancel_left this
  injection this
 subst exs
 have hsc : ∀ y ∈ s.stk, y ∈ c.stk := fun y hy => by rw [hs]; exact List.mem_append_left _ hy
 have hC : ∀ y, y ∈ v :: xs' → y ∈ c.stk := fun y hy => by rw [hs]; exact List.mem_append_right _ hy
 have hi := h.inv
 have hCs : ∀ y, y ∈ v :: xs' → s.idx y = 0 := fun y hy => (List.mem_cons.1 hy).elim (fun e => e ▸ h.sv) (hx y)
 have hdis : ∀ y, y ∈ v :: xs' → y ∉ s.stk := fun y hy hm => h.svis y hm (hCs y hy)
 have hvle : ∀ y, y ∈ v :: xs' → c.idx v ≤ c.idx y := fun y hy => by
  have hp := hi.sorted
  rw [hs, List.pairwise_append] at hp
  rcases List.mem_cons.1 hy with e | hm
  ·rw [e]; exact Nat.le_refl _
  ·exact Nat.le_of_lt (List.rel_of_pairwise_cons hp.2.1 hm)
 have hslt : ∀ y ∈ s.stk, c.idx y < c.idx v := fun y hy => by
  have hp := hi.sorted
  rw [hs, List.pairwise_append] at hp
  exact hp.2.2 y hy v List.mem_cons_self
 -- all of the part reach v, and v them
 have hto : ∀ y, y ∈ v :: xs' → Leads adj v y := fun y hy => hi.r1 v (h.v_stk) y (hC y hy) (hvle y hy)
 have hfrom : ∀ y, y ∈ v :: xs' → Leads adj y v := fun y hy => by
  obtain ⟨g, hg, _, hgr⟩ := hi.r2 y (hC y hy)
  rcases List.mem_cons.1 hg with e | hg
  ·exact e ▸ hgr
  ·exact hgr.trans (h.reach g hg)
 -- nothing leads from it to the elder ones on the stack
 have hout : ∀ x, x ∈ v :: xs' → ∀ y ∈ adj x, c.idx y ≠ 0 ∧ y ∉ s.stk := fun x hm y hy => by
  have hvis : c.idx y ≠ 0 := by
   by_cases e : x = v
   ·subst e
    obtain ⟨i, hi2, rfl⟩ := List.getElem_of_mem hy
    exact (h.succ i hi2 hi2).1
   ·refine hi.bl x (hi.stk_vis x (hC x hm)) (fun hg => ?_) y hy
    rcases List.mem_cons.1 hg with e' | hg
    ·exact e e'
    ·exact hdis x hm (h.sgs x hg)
  refine ⟨hvis, fun hys => ?_⟩
  have h1 := hslt y hys
  have h2 := (h.old y (h.svis y hys)).1
  by_cases e : x = v
  ·subst e
   obtain ⟨i, hi2, rfl⟩ := List.getElem_of_mem hy
   have := (h.succ i hi2 hi2).2 hys
   omega
  ·have := hxe x ((List.mem_cons.1 hm).resolve_left e) y hys hy
   omega
 -- what was off the stack before leads to nothing on it
 have hclosed : ∀ x y, Leads adj x y → c.idx x ≠ 0 → x ∉ c.stk → c.idx y ≠ 0 ∧ y ∉ c.stk := fun x y hr h1 h2 => by
  induction hr with
  | refl => exact ⟨h1, h2⟩
  | step _ hz ih => exact hi.b1 _ ih.1 ih.2 _ hz
 have hstk : ∀ x, x ∉ s.stk → x ∈ v :: xs' ∨ x ∉ c.stk := fun x hx => by
  by_cases e : x ∈ v :: xs'
  ·exact .inl e
  ·exact .inr (by rw [hs]; exact fun hm => (List.mem_append.1 hm).elim hx e)
 have hof : ∀ x, (popped c s.stk (v :: xs')).of x = if x ∈ v :: xs' then c.kn else c.of x := fun x => rfl
 refine ⟨⟨hi.idx_le, hi.idx_inj, hi.vis_lt, hi.cnt_eq, ?_, fun x hx => hi.stk_vis x (hsc x hx), ?_, h.sgs, fun x hx y hy => hi.r1 x (hsc x hx) y (hsc y hy), ?_, ?_, ?_, ?_, ?_, ?_⟩, h.iv, h.old, h.grow, ⟨[], by simp [popped, offs], by simp, .inl ⟨rfl, he⟩, by simp⟩⟩
 ·have hp := hi.sorted
  rw [hs, List.pairwise_append] at hp
  exact hp.1
 ·intro x
  show (if x ∈ v :: xs' then false else c.on x) = true ↔ x ∈ s.stk
  by_cases e : x ∈ v :: xs'
  ·rw [if_pos e]; simp only [Bool.false_eq_true, false_iff]; exact hdis x e
  ·rw [if_neg e, hi.on_iff, hs, List.mem_append]; simp only [e, or_false]
 ·intro y hy
  obtain ⟨g, hg, hgl, hgr⟩ := hi.r2 y (hsc y hy)
  rcases List.mem_cons.1 hg with e | hg
  ·subst e; have := hslt y hy; change c.idx g ≤ c.idx y at hgl; omega
  ·exact ⟨g, hg, hgl, hgr⟩
 ·intro x hx hxs y hy
  rcases hstk x hxs with hm | hm
  ·exact hout x hm y hy
  ·obtain ⟨h1, h2⟩ := hi.b1 x hx hm y hy
   exact ⟨h1, fun hm => h2 (hsc y hm)⟩
 ·intro x y hx hxs hy hys
  rw [hof, hof]
  rcases hstk x hxs with hmx | hmx <;> rcases hstk y hys with hmy | hmy
  ·rw [if_pos hmx, if_pos hmy]
   simp only [true_iff]
   exact ⟨(hfrom x hmx).trans (hto y hmy), (hfrom y hmy).trans (hto x hmx)⟩
  ·rw [if_pos hmx, if_neg (fun e => hmy (hC y e))]
   have := hi.b3 y hy hmy
   constructor
   ·intro e; omega
   ·rintro ⟨_, h2⟩
    exact absurd (hC x hmx) (hclosed y x h2 hy hmy).2
  ·rw [if_neg (fun e => hmx (hC x e)), if_pos hmy]
   have := hi.b3 x hx hmx
   constructor
   ·intro e; omega
   ·rintro ⟨h1, _⟩
    exact absurd (hC y hmy) (hclosed x y h1 hx hmx).2
  ·rw [if_neg (fun e => hmx (hC x e)), if_neg (fun e => hmy (hC y e))]
   exact hi.b2 x y hx hmx hy hmy
 ·intro x hx hxs
  rw [hof]
  show _ < c.kn + 1
  rcases hstk x hxs with hm | hm
  ·rw [if_pos hm]; omega
  ·rw [if_neg (fun e => hm (hC x e))]
   have := hi.b3 x hx hm
   omega
 ·intro x hx hxg y hy
  by_cases e : x ∈ v :: xs'
  ·exact (hout x e y hy).1
  ·refine hi.bl x hx (fun hg => ?_) y hy
   rcases List.mem_cons.1 hg with e' | hg
   ·exact e (e' ▸ List.mem_cons_self)
   ·exact hxg hg
 ·have := hi.kn_le
  rw [hs] at this
  show c.kn + 1 + s.stk.length ≤ c.cnt
  simp at this; omega

/-- At the beginning. -/
def blank : TS := ⟨fun _ => 0, fun _ => 0, fun _ => false, fun _ => 0, [], 0, 0⟩
theorem inv_blank (n : Nat) (adj : Nat → List Nat) : Inv n adj [] blank := by
 refine ⟨?_, ?_, ?_, ?_, ?_, ?_, ?_, ?_, ?_, ?_, ?_, ?_, ?_, ?_, ?_⟩ <;> simp [blank, visN]
theorem inv_empty {n : Nat} {adj : Nat → List Nat} {s : TS} (h : Inv n adj [] s) : s.stk = [] := by
 cases hs : s.stk with
 | nil => rfl
 | cons x l =>
  obtain ⟨g, hg, _⟩ := h.r2 x (by rw [hs]; exact List.mem_cons_self)
  cases hg
end
end Go.Proofs.Tj
