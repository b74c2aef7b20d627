/- Parts of the proof: Sb, Sc, Sd. Contracts of the reference's count, pairs (layer 12). -/
import Derived.Test.YtbidjiopnddldaaGreatP34
import Derived.Test.YtbidjiopnddldaaGreatP13
import Derived.Test.YtbidjiopnddldaaGreatP11
import Derived.WalkSmall
import Derived.WalkSpells
import Derived.WalkMore
namespace Go.Proofs.Lx
open Go Go.RowKit
set_option linter.unusedSimpArgs false
set_option linter.unusedVariables false

theorem pSum_mono {rs : List Rule} {fo : List (List Int)} {k : Nat} : ∀ d, pSum rs fo k ≤ pSum rs fo (k + d)
 | 0 => Nat.le_refl _
 | d + 1 => by
  rw [show k + (d + 1) = k + d + 1 by omega, pSum_succ]
  exact Nat.le_trans (pSum_mono d) (Nat.le_add_right _ _)

set_option maxHeartbeats 1600000 in
theorem count12_any (w : World) (V : Value) (T : Th) (hT : RdTh w V T) (hl : (T.foes.length : Int) = T.lits) (h4 : T.lits ≤ 4096)
  (hru : T.rules.length ≤ 4096) (hrr : ∀ r ∈ T.rules, ruleOk T.lits r = true) :
  Calls Tryz.prog 81 #[V] w (Ret fun v w' => ∃ g, v = .slice (some ⟨g, 0, none⟩) T.foes.length T.foes.length ∧ Arr (Value.int .i64) 3 w' g (hList T.rules T.foes.length) ∧ Below w.heap.size w w') := by
 obtain ⟨lits, foes, rules, beats⟩ := T
 obtain ⟨vF, vR, vB, rfl, ⟨A, c, rfl, hc, hb, hr⟩, ⟨AR, cR, rfl, hcR, hbR, hrR⟩, _⟩ := hT
 dsimp only at *
 obtain rfl : lits = (foes.length : Int) := hl.symm
 clear hl
 have hbel := ext_alloc w (.cells #[.int .i64 foes.length, .slice A foes.length c, .slice AR rules.length cR, vB] 25)
 have hrR1 := hrR.ext ruleR_mono hbel
 have hmk := mkI foes.length (by omega) (by omega)
 rw [Int.toNat_natCast] at hmk
 have Hrr := hid hrr
 clear hr hrR hrr
 refine post_gen fun Q HQ => ?_
 go_enter Tryz.func81, Tryz.ntmps81
 go_wp2
 clear hmk
 go_loopw [4] (fun v4 wr => ∃ k : Nat, k ≤ rules.length ∧ v4 = .int .i64 k ∧ Arr (Value.int .i64) 3 wr (w.heap.size + 1) (cntUpto rules foes.length k) ∧ Below (w.heap.size + 1) (w.alloc (.cells #[.int .i64 foes.length, .slice A foes.length c, .slice AR rules.length cR, vB] 25)) wr) (fun v4 _ => rules.length - (intOf v4).toNat)
 case atStart =>
  refine ⟨0, Nat.zero_le _, rfl, ?_, ?_⟩
  ·rw [cntUpto_zero]
   have := made_arr (Value.int .i64) (0 : Int) 3 (w.alloc (.cells #[.int .i64 foes.length, .slice A foes.length c, .slice AR rules.length cR, vB] 25)) foes.length
   simpa using this
  ·exact (Below.refl _ _).alloc (by simp) _
 case round =>
  obtain ⟨k, hk, rfl, harr, hbl⟩ := hrel
  have hbl' : Below (w.alloc (.cells #[.int .i64 foes.length, .slice A foes.length c, .slice AR rules.length cR, vB] 25)).heap.size (w.alloc (.cells #[.int .i64 foes.length, .slice A foes.length c, .slice AR rules.length cR, vB] 25)) wr := by rw [World.size_alloc]; exact hbl
  have b2 : wr.cell? ⟨w.heap.size, 2, none⟩ = some (.slice AR rules.length cR) := box_cell hbl 2
  by_cases hlt : k < rules.length
  ·obtain ⟨ad, B, cB, rfl, hc0, hc1, hc2, hcB, hbB, hrB⟩ := (hrR1.ext ruleR_mono hbl').atRule hlt
   have Hrk := hid (Hrr.out _ (List.getElem_mem hlt))
   obtain ⟨hh0, hh1⟩ := ruleOk_head Hrk.out
   have hg := harr.lt
   have Hs := hid (cntUpto_succ rules foes.length k hlt hh0 hh1)
   have hhc := harr.cell (i := rules[k].head.toNat) (by rw [cntUpto_length]; omega)
   rw [cntUpto_at _ _ _ _ (by omega), show ((rules[k].head.toNat : Nat) : Int) = rules[k].head from by omega] at hhc
   have hhf := harr.free rules[k].head.toNat
   have hle := hcnt_le rules k rules[k].head
   generalize hcnt (rules.take k) rules[k].head = y at *
   generalize hh : rules[k].head = hd at *
   have Hh := hid hh
   clear hh
   go_wp2
   go_roundw
   case rel =>
    refine ⟨k + 1, by omega, by go_num, ?_, ?_⟩
    ·rw [Hs.out]
     exact harr.set hd.toNat ((y : Int) + 1)
    ·exact hbl.setCell (Nat.le_refl _) _
   case measure => simp [intOf]; omega
  ·have hk2 : k = rules.length := by omega
   subst hk2
   rw [cntUpto_all] at harr
   have Harr := hid harr
   clear harr
   go_wp2
   go_ret
   exact Fin HQ ⟨w.heap.size + 1, rfl, Harr.out, hbel.trans (hbl.mono (by omega))⟩

set_option maxRecDepth 100000 in
set_option maxHeartbeats 1600000 in
theorem pairs12_any (w : World) (V : Value) (T : Th) (hT : RdTh w V T) (hl : (T.foes.length : Int) = T.lits) (h4 : T.lits ≤ 4096) (hfo : foesAll T = true)
  (hru : T.rules.length ≤ 4096) (hrr : ∀ r ∈ T.rules, ruleOk T.lits r = true) :
  Calls Tryz.prog 62 #[V] w (Ret fun v w' => (∃ s : Int, v = .int .i64 s ∧ (65536 < s ↔ 65536 < pairCount T)) ∧ Below w.heap.size w w') := by
 have HT := hid hT
 obtain ⟨vF, vR, vB, rfl, ⟨A, c, rfl, hc, hb, hr⟩, hR, hB⟩ := hT
 have hbel := ext_alloc w (.cells #[.int .i64 T.lits, .slice A T.foes.length c, vR, vB] 25)
 have Hcnt := hid (count12_any _ _ T (HT.out.ext hbel) hl h4 hru hrr)
 have hr1 := hr.ext llR_mono hbel
 have Hfo := hid hfo
 have Hl := hid hl
 have Hbel := hid hbel
 clear hr hR hB hfo hrr hbel
 refine post_gen fun Q HQ => ?_
 go_enter Tryz.func62, Tryz.ntmps62
 go_wp2_with fail
 refine Hcnt.out.mono ?_
 rintro e w2 ⟨_, rfl, g, rfl, harr, hb2⟩
 have b0 : w2.cell? ⟨w.heap.size, 0, none⟩ = some (.int .i64 T.lits) := (box4 hb2).1
 have b1 : w2.cell? ⟨w.heap.size, 1, none⟩ = some (.slice A T.foes.length c) := (box4 hb2).2.1
 have hr2 := hr1.ext llR_mono hb2
 have Hb2 := hid (ext_trans Hbel.out hb2)
 clear Hcnt hr1 hb2
 rw [← Hl.out] at b0
 generalize hn : T.foes.length = n at *
 have Hn := hid hn
 clear hn hl
 go_wp2
 go_loopw [5, 4] (fun v5 v4 wr => ∃ q : Nat, q ≤ n ∧ v5 = .int .i64 q ∧ v4 = .int .i64 (pSum T.rules T.foes q : Nat) ∧ pSum T.rules T.foes q ≤ 65536 ∧ Below w2.heap.size w2 wr) (fun v5 _ _ => n - (intOf v5).toNat)
 case atStart => exact ⟨0, Nat.zero_le _, rfl, rfl, by simp [pSum], Below.refl _ _⟩
 case round =>
  obtain ⟨k, hk, rfl, rfl, hps, hbl⟩ := hrel
  have c0 := cell_ext hbl b0
  have c1 := cell_ext hbl b1
  obtain ⟨wo, rfl⟩ : ∃ wo : World, wo = wr := ⟨_, rfl⟩
  by_cases hlt : k < n
  ·have hlt2 : k < T.foes.length := by rw [Hn.out]; exact hlt
   obtain ⟨ad, B, cB, rfl, hcell, hcB, hbB, hrB⟩ := (hr2.ext llR_mono hbl).atRow hlt2
   obtain ⟨h64, hris, _, _⟩ := foesOk_spec Hfo.out k hlt2
   have Hris := hid (risB_spec hris).1
   have Hgl : Hid (T.foes.getD k [] = T.foes[k]) := by simp [Hid, hlt2]
   clear hris
   generalize hS : pSum T.rules T.foes k = S at *
   have HS := hid hS
   clear hS
   generalize T.foes[k] = L at *
   go_wp2
   go_loopw [6, 4] (fun v6 v4 w3 => ∃ j : Nat, j ≤ L.length ∧ v6 = .int .i64 j ∧ v4 = .int .i64 ((S + pRow T.rules L k j : Nat) : Int) ∧ Below wo.heap.size wo w3) (fun v6 _ _ => L.length - (intOf v6).toNat)
   case atStart => exact ⟨0, Nat.zero_le _, rfl, by simp [pRow], ext_refl _⟩
   case round =>
    obtain ⟨j, hj, rfl, rfl, hbl3⟩ := hrel
    have c1 := cell_ext hbl3 c1
    have hcell := cell_ext hbl3 hcell
    have hpr := pRow_le (l := L) (q := k) hru j hj
    have harr3 := Arr.ext harr (ext_trans hbl hbl3)
    by_cases hjl : j < L.length
    ·obtain ⟨adb, rfl, hcj⟩ := (hrB.ext (scR_mono _) hbl3).at1 hjl
     have hrange := Hris.out j hjl
     have hX2 : L[j].toNat < n := by have := Hl.out; omega
     have ha := harr3.cell (i := k) (by rw [hList_length]; omega)
     have hx := harr3.cell (i := L[j].toNat) (by rw [hList_length]; omega)
     rw [hList_at _ _ hlt] at ha
     rw [hList_at _ _ hX2] at hx
     have hp1 := prod_le (Nat.le_trans (hcnt_len T.rules k) hru) (Nat.le_trans (hcnt_len T.rules (L[j].toNat : Nat)) hru)
     have hee : ((L[j].toNat : Nat) : Int) = L[j] := by omega
     have Hps : Hid (pRow T.rules L k (j + 1) = pRow T.rules L k j + hcnt T.rules k * hcnt T.rules (L[j].toNat : Nat)) := by rw [hee]; exact pRow_succ hjl
     generalize pRow T.rules L k j = R at *
     generalize L[j] = X at *
     generalize hcnt T.rules k = a at *
     generalize hcnt T.rules (X.toNat : Nat) = b at *
     have hXn : X < (n : Int) := by omega
     have hX0 : 0 ≤ X := hrange.1
     have hp2 : (a : Int) * b = ((a * b : Nat) : Int) := by simp
     have hp3 : 0 ≤ (a : Int) * b ∧ (a : Int) * b ≤ 16777216 := by omega
     obtain ⟨hp4, hp5⟩ := hp3
     have Hp2 := hid hp2
     clear hp2 hee harr3
     go_wp2
     go_quiet (fail)
     go_wp2
     go_roundw
     case rel =>
      refine ⟨j + 1, by omega, by go_num, ?_, below_drewN hbl3 _⟩
      rw [Hps.out]
      exact int_eq (by have := Hp2.out; omega)
     case measure => simp [intOf]; omega
    ·obtain rfl : j = L.length := by omega
     have Hnext : Hid (pSum T.rules T.foes (k + 1) = S + pRow T.rules L k L.length) := hid (by rw [pSum_succ, Hgl.out, HS.out])
     clear harr3
     by_cases hbig : 65536 < S + pRow T.rules L k L.length
     ·have hgt : (65536 : Int) < ((S + pRow T.rules L k L.length : Nat) : Int) := by omega
      have Hbig : Hid (65536 < pairCount T) := hid (by
       have := pSum_mono (rs := T.rules) (fo := T.foes) (k := k + 1) (n - (k + 1))
       rw [show k + 1 + (n - (k + 1)) = n by omega, Hnext.out] at this
       unfold pairCount; rw [Hn.out]; omega)
      go_wp2
      go_ret
      exact Fin HQ ⟨⟨65537, rfl, fun _ => Hbig.out, fun _ => by decide⟩, ext_trans Hb2.out (ext_trans hbl hbl3)⟩
     ·have hgt : ¬ (65536 : Int) < ((S + pRow T.rules L k L.length : Nat) : Int) := by omega
      go_wp2
      go_roundw
      case rel => exact ⟨k + 1, by omega, by go_num, by rw [Hnext.out], by rw [Hnext.out]; omega, ext_trans hbl hbl3⟩
      case measure => simp [intOf]; omega
  ·obtain rfl : k = n := by omega
   have Hp : Hid (pairCount T = pSum T.rules T.foes k) := hid (by unfold pairCount; rw [Hn.out])
   generalize pSum T.rules T.foes k = S at *
   go_wp2
   go_ret
   exact Fin HQ ⟨⟨_, rfl, by rw [Hp.out]; omega⟩, ext_trans Hb2.out hbl⟩
end Go.Proofs.Lx

namespace Go.Proofs.Lx
open Go Go.RowKit Go.Proofs.Tj
set_option linter.unusedSimpArgs false
set_option linter.unusedVariables false

/-- Over one edge or more. -/
def Comes (adj : Nat → List Nat) (x y : Nat) : Prop := ∃ z, z ∈ adj x ∧ Leads adj z y
theorem leads_comes {adj : Nat → List Nat} {x y : Nat} (h : Leads adj x y) : x = y ∨ Comes adj x y := by
 induction h with
 | refl => exact .inl rfl
 | @step y z h1 hz ih =>
  right
  rcases ih with rfl | ⟨u, hu, h2⟩
  ·exact ⟨z, hz, .refl z⟩
  ·exact ⟨u, hu, .step h2 hz⟩
/-- The walk's state: seen, todo (Nat), the one that is being looked at. -/
structure BK (adj : Nat → List Nat) (n r : Nat) (seen : Nat → Bool) (todo : List Nat) : Prop where
 lt : ∀ x ∈ todo, x < n
 td : ∀ x ∈ todo, x = r ∨ seen x = true
 fr : ∀ x, x < n → seen x = true → Comes adj r x
 cl : ∀ x, x < n → (x = r ∨ seen x = true) → x ∉ todo → ∀ y ∈ adj x, y ≠ r ∧ seen y = true
theorem BK.none {adj : Nat → List Nat} {n r : Nat} {seen : Nat → Bool} (h : BK adj n r seen []) (hr : r < n) (hadj : ∀ x, x < n → ∀ y ∈ adj x, y < n) : ¬ Comes adj r r := by
 have key : ∀ x y, Leads adj x y → x < n → seen x = true → y < n ∧ seen y = true := by
  intro x y hl hx hs
  induction hl with
  | refl => exact ⟨hx, hs⟩
  | step h1 hz ih => exact ⟨hadj _ ih.1 _ hz, (h.cl _ ih.1 (.inr ih.2) (by simp) _ hz).2⟩
 rintro ⟨z, hz, hl⟩
 have hzn := hadj r hr z hz
 have hzs := (h.cl r hr (.inl rfl) (by simp) z hz).2
 -- the last step comes from a seen one
 have last : ∀ x y, Leads adj x y → x ≠ y → ∃ u, Leads adj x u ∧ y ∈ adj u := by
  intro x y hl hne
  cases hl with
  | refl => exact absurd rfl hne
  | step h1 h2 => exact ⟨_, h1, h2⟩
 by_cases e : z = r
 ·exact (h.cl r hr (.inl rfl) (by simp) z hz).1 e
 ·obtain ⟨u, hu, hru⟩ := last z r hl e
  obtain ⟨hun, hus⟩ := key z u hu hzn hzs
  exact (h.cl u hun (.inr hus) (by simp) r hru).1 rfl
def unseen (n : Nat) (seen : Nat → Bool) : Nat := (List.range n).countP fun x => !seen x
theorem unseen_lt {n : Nat} {seen : Nat → Bool} {y : Nat} (hy : y < n) (hs : seen y = false) : unseen n (fun x => if x = y then true else seen x) < unseen n seen := by
 refine countP_lt (x := y) (fun x _ hx => ?_) (List.mem_range.2 hy) (by simp [hs]) (by simp)
 by_cases e : x = y
 ·subst e; simp at hx
 ·simpa [e] using hx
end Go.Proofs.Lx

namespace Go.Proofs.Lx
open Go Go.RowKit Go.Proofs.Tj
set_option linter.unusedSimpArgs false
set_option linter.unusedVariables false

def adjB (B : List (List Int)) (x : Nat) : List Nat := (B.getD x []).map Int.toNat
structure BKx (adj : Nat → List Nat) (n r : Nat) (seen : Nat → Bool) (todo : List Nat) (x i : Nat) : Prop where
 lt : ∀ x ∈ todo, x < n
 td : ∀ x ∈ todo, x = r ∨ seen x = true
 fr : ∀ x, x < n → seen x = true → Comes adj r x
 cl : ∀ u, u < n → (u = r ∨ seen u = true) → u ∉ todo → u = x ∨ ∀ y ∈ adj u, y ≠ r ∧ seen y = true
 dn : ∀ j, (h : j < (adj x).length) → j < i → (adj x)[j] ≠ r ∧ seen (adj x)[j] = true
theorem BK.start {adj : Nat → List Nat} {n r : Nat} (hr : r < n) : BK adj n r (fun _ => false) [r] :=
 ⟨by simpa using hr, by simp, by simp, fun u _ h1 h2 => absurd (h1.resolve_right (by simp)) (by simpa using h2)⟩
theorem BK.pop {adj : Nat → List Nat} {n r x : Nat} {seen : Nat → Bool} {todo : List Nat} (h : BK adj n r seen (todo ++ [x])) : BKx adj n r seen todo x 0 :=
 ⟨fun u hu => h.lt u (by simp [hu]), fun u hu => h.td u (by simp [hu]), h.fr, fun u hu h1 h2 => by
  by_cases e : u = x
  ·exact .inl e
  ·exact .inr (h.cl u hu h1 (by simp [h2, e])), fun j _ hj => absurd hj (by omega)⟩
theorem BK.from {adj : Nat → List Nat} {n r x : Nat} {seen : Nat → Bool} {todo : List Nat} (h : BK adj n r seen (todo ++ [x])) : x < n ∧ (x = r ∨ Comes adj r x) :=
 ⟨h.lt x (by simp), (h.td x (by simp)).imp id (h.fr x (h.lt x (by simp)))⟩
theorem comes_step {adj : Nat → List Nat} {r x y : Nat} (h : x = r ∨ Comes adj r x) (hy : y ∈ adj x) : Comes adj r y := by
 rcases h with rfl | ⟨z, hz, hl⟩
 ·exact ⟨y, hy, .refl y⟩
 ·exact ⟨z, hz, .step hl hy⟩
theorem BKx.skip {adj : Nat → List Nat} {n r x i y : Nat} {seen : Nat → Bool} {todo : List Nat} (h : BKx adj n r seen todo x i) (hi : ∀ h : i < (adj x).length, (adj x)[i] = y) (h1 : y ≠ r) (h2 : seen y = true) : BKx adj n r seen todo x (i + 1) :=
 ⟨h.lt, h.td, h.fr, h.cl, fun j hj hji => by
  by_cases e : j = i
  ·subst e; rw [hi hj]; exact ⟨h1, h2⟩
  ·exact h.dn j hj (by omega)⟩
theorem BKx.push {adj : Nat → List Nat} {n r x i y : Nat} {seen : Nat → Bool} {todo : List Nat} (h : BKx adj n r seen todo x i) (hx : x = r ∨ Comes adj r x) (hi : ∀ h : i < (adj x).length, (adj x)[i] = y) (hil : i < (adj x).length) (hyn : y < n) (h1 : y ≠ r) :
  BKx adj n r (fun q => if q = y then true else seen q) (todo ++ [y]) x (i + 1) := by
 have hy : y ∈ adj x := by rw [← hi hil]; exact List.getElem_mem _
 have up : ∀ q, seen q = true → (if q = y then true else seen q) = true := fun q h => by split <;> simp [h]
 refine ⟨fun u hu => ?_, fun u hu => ?_, fun u hu hs => ?_, fun u hu hs hn => ?_, fun j hj hji => ?_⟩
 ·rcases List.mem_append.1 hu with hu | hu
  ·exact h.lt u hu
  ·simp at hu; omega
 ·rcases List.mem_append.1 hu with hu | hu
  ·exact (h.td u hu).imp id (up u)
  ·simp at hu; right; simp [hu]
 ·by_cases e : u = y
  ·rw [e]; exact comes_step hx hy
  ·rw [if_neg e] at hs; exact h.fr u hu hs
 ·have hny : u ≠ y := fun e => hn (by simp [e])
  rw [if_neg hny] at hs
  refine (h.cl u hu hs (fun hm => hn (by simp [hm]))).imp id fun h2 z hz => ⟨(h2 z hz).1, up z (h2 z hz).2⟩
 ·by_cases e : j = i
  ·subst e; rw [hi hj]; exact ⟨h1, by simp⟩
  ·exact ⟨(h.dn j hj (by omega)).1, up _ (h.dn j hj (by omega)).2⟩
theorem BKx.done {adj : Nat → List Nat} {n r x i : Nat} {seen : Nat → Bool} {todo : List Nat} (h : BKx adj n r seen todo x i) (hi : (adj x).length ≤ i) : BK adj n r seen todo :=
 ⟨h.lt, h.td, h.fr, fun u hu h1 h2 => by
  rcases h.cl u hu h1 h2 with rfl | h3
  ·intro y hy
   obtain ⟨j, hj, rfl⟩ := List.getElem_of_mem hy
   exact h.dn j hj (by omega)
  ·exact h3⟩

def tabB (n : Nat) (f : Nat → Bool) : List Bool := (List.range n).map f
theorem tabB_set {n : Nat} (f : Nat → Bool) (m : Nat) (v : Bool) : (tabB n f).set m v = tabB n fun q => if q = m then v else f q := by
 apply List.ext_getElem
 ·simp [tabB]
 ·intro i h1 h2
  rw [List.getElem_set]
  by_cases e : m = i
  ·subst e; simp [tabB]
  ·rw [if_neg e]; simp [tabB]; intro h; exact absurd h.symm e
abbrev ArrB (w : World) (g n : Nat) (f : Nat → Bool) : Prop := Arr Value.bool 4 w g (tabB n f)
theorem ArrB.at {w : World} {g n : Nat} {f : Nat → Bool} (h : ArrB w g n f) {m : Nat} (hm : m < n) : w.cell? ⟨g, m, none⟩ = some (.bool (f m)) := by
 have := Arr.cell h (i := m) (by simpa [tabB] using hm)
 rwa [show (tabB n f)[m]'(by simpa [tabB] using hm) = f m by simp [tabB]] at this
theorem ArrB.put {w : World} {g n : Nat} {f : Nat → Bool} (h : ArrB w g n f) (m : Nat) (v : Bool) : ArrB (w.setCell ⟨g, m, none⟩ (.bool v)) g n (fun q => if q = m then v else f q) := by
 have := Arr.set h m v
 rwa [tabB_set] at this
theorem ArrB.new (w : World) (n : Nat) : ArrB (w.alloc (.cells (madeCells #[.bool false] n) 4)) w.heap.size n (fun _ => false) := by
 have := made_arr Value.bool false 4 w n
 unfold ArrB
 rwa [show tabB n (fun _ => false) = List.replicate n false by apply List.ext_getElem <;> simp [tabB]]
abbrev intN (R : List Nat) : List Value := R.map fun (q : Nat) => Value.int .i64 (q : Int)

/-- What back keeps in memory. -/
structure KS (w : World) (n : Nat) (seen : Nat → Bool) (todo : List Nat) (v6 : Value) (wr : World) : Prop where
 aS : ArrB wr w.heap.size n seen
 own : wr.ownsRow (w.heap.size + 1) 3 1 v6 todo.length (intN todo)
 old : Below w.heap.size w wr
section
variable {w wr wr' W w3 : World} {n : Nat} {seen : Nat → Bool} {todo : List Nat} {v6 v' : Value} {o : Obj}
theorem KS.ext (h : KS w n seen todo v6 wr) (hb : Below wr.heap.size wr wr') : KS w n seen todo v6 wr' :=
 ⟨Arr.ext h.aS hb, h.own.kept (row := none) ⟨hb.os, hb.tape, hb.output, hb.size, fun k hk _ => hb.block k hk⟩ (by cases v6.ownBlock <;> simp), ext_trans h.old hb⟩
theorem KS.put (h : KS w n seen todo v6 wr) (k : Nat) : KS w n (fun q => if q = k then true else seen q) todo v6 (wr.setCell ⟨w.heap.size, k, none⟩ (.bool true)) :=
 ⟨ArrB.put h.aS k true, h.own.kept (grown_set wr w.heap.size k _) (.inr (fun e => by have := (h.own.lt _ e).1; omega)), h.old.setCell (Nat.le_refl _) _⟩
theorem KS.take (h : KS w n seen todo v6 wr) {k : Nat} (ho : w3.ownsRow (w.heap.size + 1) 3 1 v' (todo ++ [k]).length (intN (todo ++ [k])))
  (hg : (wr.alloc o).grownBy w3 v6.ownBlock) : KS w n seen (todo ++ [k]) v' w3 := by
 have hne : ∀ g, v6.ownBlock = some g → w.heap.size + 1 ≤ g := fun g e => (h.own.lt g e).1
 have hb := lt_of_block h.aS
 have key : ∀ g, g < w.heap.size + 1 → w3.heap[g]? = wr.heap[g]? := fun g hgl => by
  rw [hg.block g (by simp; omega) (fun e => by have := hne g e.symm; omega)]
  exact heap_alloc_old _ _ (by omega)
 refine ⟨(key _ (by omega)).trans h.aS, ho, ?_⟩
 have hsz := hg.size
 rw [World.size_alloc] at hsz
 have := h.old.size
 exact ⟨hg.os.trans h.old.os, hg.tape.trans h.old.tape, hg.output.trans h.old.output, by omega, fun g hgl => (key g (by omega)).trans (h.old.block g hgl)⟩
end

set_option maxRecDepth 100000 in
set_option maxHeartbeats 3200000 in
theorem back12_any (w : World) (v : Value) (B : List (List Int)) (hB : RdLL w v B) (hn : B.length ≤ 4096) (hrg : ∀ l ∈ B, ∀ y ∈ l, 0 ≤ y ∧ y < (B.length : Int)) (r : Nat) (hr0 : r < B.length) :
  Calls Tryz.prog 64 #[v, .int .i64 (r : Int)] w (Ret fun u w' => (∃ b, u = .bool b ∧ (b = true ↔ Comes (adjB B) r r)) ∧ Below w.heap.size w w') := by
 obtain ⟨A, c, rfl, hc, hb, hr⟩ := hB
 obtain ⟨i0, hi, hz0, hz1, hz2⟩ := info_parts infoI
 have hmk := mkB B.length (by omega) (by omega)
 rw [Int.toNat_natCast] at hmk
 have hbl0 := (ext_alloc w (.cells (madeCells #[.bool false] B.length) 4)).alloc (by simp) (.cells #[.int .i64 (r : Int)] 3)
 have Hst0 : Hid (KS w B.length (fun _ => false) [r] (.slice (some ⟨w.heap.size + 1, 0, none⟩) 1 1) ((w.alloc (.cells (madeCells #[.bool false] B.length) 4)).alloc (.cells #[.int .i64 (r : Int)] 3))) := by
  have h9 := heap_alloc_new (w.alloc (.cells (madeCells #[.bool false] B.length) 4)) (.cells #[.int .i64 (r : Int)] 3)
  rw [World.size_alloc] at h9
  exact hid ⟨Arr.alloc (ArrB.new w B.length) _, ⟨by simp, .inr ⟨w.heap.size + 1, 1, _, rfl, by omega, h9, Nat.le_refl _, by unfold maxLen; omega, rfl, rfl⟩⟩, hbl0⟩
 have Hbk0 : Hid (BK (adjB B) B.length r (fun _ => false) [r]) := hid (BK.start hr0)
 have Hadj : Hid (∀ x, x < B.length → ∀ y ∈ adjB B x, y < B.length) := hid fun x hx y hy => by
  simp only [adjB, List.mem_map, List.getD_eq_getElem?_getD, List.getElem?_eq_getElem hx, Option.getD_some] at hy
  obtain ⟨z, hz, rfl⟩ := hy
  have := hrg _ (List.getElem_mem hx) z hz
  omega
 have Hrg := hid hrg
 have Hr0 := hid hr0
 generalize hL : B.length = n at *
 have HL := hid hL
 clear hL hbl0 hrg
 refine post_gen fun Q HQ => ?_
 go_enter Tryz.func64, Tryz.ntmps64
 go_wp2
 go_loopg [6] (2 * n + 1) (fun g v6 wr => ∃ seen todo A6 c6, v6 = .slice A6 todo.length c6 ∧ KS w n seen todo v6 wr ∧ Hid (BK (adjB B) n r seen todo) ∧ 2 * unseen n seen + todo.length ≤ g ∧ 2 * unseen n seen + todo.length ≤ 2 * n + 1)
 case atStart =>
  refine ⟨_, _, _, _, rfl, Hst0.out, Hbk0, ?_⟩
  have : unseen n (fun _ => false) ≤ n := by
   have := List.countP_le_length (p := fun x => !(fun _ : Nat => false) x) (l := List.range n)
   rw [List.length_range] at this; exact this
  simp; omega
 case round =>
  clear Hst0 Hbk0
  obtain ⟨seen, todo, A6, c6, rfl, hks, hbk, hmu, hmw⟩ := hrel
  by_cases hw0 : todo = []
  ·subst hw0
   have Hno : Hid (¬ Comes (adjB B) r r) := hid (hbk.out.none (by omega) Hadj.out)
   have Ho := hid hks.old
   clear hks
   go_wp2
   go_ret
   exact Fin HQ ⟨⟨false, rfl, by simpa using Hno.out⟩, Ho.out⟩
  ·obtain ⟨td, x, rfl⟩ : ∃ td x, todo = td ++ [x] := ⟨_, _, (List.dropLast_concat_getLast hw0).symm⟩
   obtain ⟨hxn, hxc⟩ := hbk.out.from
   have Hxc := hid hxc
   have hbx := hid hbk.out.pop
   have hxB : x < B.length := by rw [HL.out]; exact hxn
   obtain ⟨g7, cap', e, hg7, hcx⟩ := own_at hks.own (i := td.length) (by simp) (by simp)
   cases e
   rw [show (intN (td ++ [x]))[td.length]'(by simp) = .int .i64 (x : Int) by simp] at hcx
   obtain ⟨adB, C, cC, rfl, p0, h1, h2, hrow⟩ := hr.atRow hxB
   have Hrow : Hid (adjB B x = (B[x]).map Int.toNat) := hid (by simp [adjB, hxB])
   have Hrow2 : Hid (∀ y ∈ B[x], 0 ≤ y ∧ y < (n : Int)) := hid (by have := Hrg.out _ (List.getElem_mem hxB); exact this)
   generalize B[x] = row at *
   obtain ⟨wo, rfl⟩ : ∃ wo : World, wo = wr := ⟨_, rfl⟩
   have e1 : (td ++ [x]).length = td.length + 1 := by simp
   rw [e1]
   have hks1 : ∀ W, Below wo.heap.size wo W → KS w n seen td (.slice (some ⟨g7, 0, none⟩) td.length c6) W := fun W hW => by
    have h9 := hks.ext hW
    refine ⟨h9.aS, ?_, h9.old⟩
    have h8 := h9.own
    rw [e1, intN, List.map_append] at h8
    exact ownsRow_pop (by rw [List.length_map, Nat.mul_one]) h8
   have Hks1 := hid (hks1 wo (ext_refl _))
   have hc7 : td.length + 1 ≤ c6 := by
    rcases hks.own.2 with ⟨e, _⟩ | ⟨g, cp, cur, e, _, _, h, _⟩
    ·cases e
    ·simp only [Value.slice.injEq] at e
     simp at h; omega
   have hc8 : ¬ c6 = 0 := by omega
   have hmu2 : 2 * unseen n seen + td.length + 1 ≤ gk := by rw [e1] at hmu; omega
   have Hmu := hid hmu2
   have htl : 2 * unseen n seen + td.length ≤ 2 * n + 1 := by rw [e1] at hmw; omega
   have Htl := hid htl
   have htb : td.length ≤ 9000 := by omega
   obtain ⟨g0, rfl⟩ : ∃ g0 : Nat, g0 = gk := ⟨_, rfl⟩
   have hlb := lt_of_block hks.aS
   have hcs1 := hks.old
   clear hks hks1 hw0 hxc hmu hmw hmu2 hbk e1 hxB htl
   go_wp2
   go_loopg [8, 6] row.length (fun g v8 v6 wr => ∃ i seen todo A6 c6, i + g = row.length ∧ v8 = .int .i64 (i : Nat) ∧ v6 = .slice A6 todo.length c6 ∧ KS w n seen todo v6 wr ∧ Hid (BKx (adjB B) n r seen todo x i) ∧ 2 * unseen n seen + todo.length + 1 ≤ g0 ∧ 2 * unseen n seen + todo.length ≤ 2 * n + 1)
   case atStart => exact ⟨0, _, _, _, _, by omega, rfl, rfl, Hks1.out, hbx, Hmu.out, Htl.out⟩
   case round =>
    clear Hks1 hbx Hmu Htl hcx hcs1 hlb
    obtain ⟨i, seen, todo, A6, c6, hig, rfl, rfl, hks, hbx, hmu, hmw⟩ := hrel
    have htb : todo.length ≤ 9000 := by omega
    have hlb := lt_of_block hks.aS
    have p1 := cell_ext hks.old p0
    by_cases hlt : i < row.length
    ·obtain ⟨ad2, rfl, hcell⟩ := (hrow.ext (scR_mono _) hks.old).at1 hlt
     have hyr := Hrow2.out _ (List.getElem_mem hlt)
     obtain ⟨y, hy⟩ := Int.eq_ofNat_of_zero_le hyr.1
     have Hiy : Hid (i < (adjB B x).length ∧ ∀ h : i < (adjB B x).length, (adjB B x)[i] = y) := hid (by
      rw [Hrow.out]; exact ⟨by simpa using hlt, fun h => by simp [hy]⟩)
     rw [hy] at hcell hyr
     have hyn : y < n := by omega
     by_cases hyr2 : y = r
     ·subst hyr2
      have Hyes : Hid (Comes (adjB B) y y) := hid (comes_step Hxc.out (by rw [← Hiy.out.2 Hiy.out.1]; exact List.getElem_mem _))
      have Ho := hid hks.old
      clear hks hy
      go_wp2
      go_ret
      exact Fin HQ ⟨⟨true, rfl, by simpa using Hyes.out⟩, Ho.out⟩
     ·have hyi : ¬ ((y : Int) = (r : Int)) := by omega
      have Hyr := hid hyr2
      have cS := hks.aS.at hyn
      have fS := Arr.free hks.aS y
      clear hyr2 hy
      cases hs : seen y with
      | true =>
       rw [hs] at cS
       have Hb := hid (hbx.out.skip Hiy.out.2 Hyr.out hs)
       clear hs
       go_wp2
       go_roundg (gk - 1)
       case measure => omega
       case rel => exact ⟨i + 1, seen, todo, A6, c6, by omega, by go_num, rfl, hks, Hb, hmu, hmw⟩
      | false =>
       rw [hs] at cS
       have Hb := hid (hbx.out.push Hxc.out Hiy.out.2 Hiy.out.1 hyn Hyr.out)
       have hun := unseen_lt hyn hs
       have Hks2 := hid (hks.put y)
       have Hown := hid Hks2.out.own
       have Hnew : Hid (∀ j u, [Value.int .i64 (y : Int)][j]? = some u → ((wr.setCell ⟨w.heap.size, y, none⟩ (.bool true)).alloc (.cells #[.int .i64 (y : Int)] 3)).cell? ((⟨wr.heap.size, 0, none⟩ : Addr).add j) = some u) := hid (by
        have h9 := cell_one_new (wr.setCell ⟨w.heap.size, y, none⟩ (.bool true)) (.int .i64 (y : Int)) 3
        simpa only [World.size_setCell] using h9)
       have Hun := hid hun
       clear hs hks hun
       go_wp2_with (at_builtin; refine wpList_append_own _ rfl _ _ 36 rfl (w.heap.size + 1) 3 i0 (.int .i64 0) 1 8 Tryz.underlying36 hi hz0 hz1 hz2 rfl (by decide) _ todo.length _ rfl (Hown.out.alloc _) ⟨wr.heap.size, 0, none⟩ 1 1 [.int .i64 (y : Int)] rfl rfl (Hnew.out) (fun u hu => by simp at hu; subst hu; rfl) (by unfold maxLen; omega) (by omega) (by simp; omega) ?_; intro v' w3 hown3 hgrow3 hnil3)
       go_roundg (gk - 1)
       case measure => omega
       case rel =>
        have ho : w3.ownsRow (w.heap.size + 1) 3 1 v' (todo ++ [y]).length (intN (todo ++ [y])) := by
         rw [List.length_append, List.length_singleton, intN, List.map_append]
         exact hown3
        have hv' : ∃ A c, v' = .slice A (todo ++ [y]).length c := by
         rcases ho.2 with ⟨h1, h2⟩ | ⟨gg, cp, cur, h1, h2, h3, h4, h5, h6, h7⟩
         ·exact ⟨_, _, by rw [h1, h2]⟩
         ·exact ⟨_, _, h1⟩
        obtain ⟨A8, c8, hv8⟩ := hv'
        refine ⟨i + 1, _, _, A8, c8, by omega, by go_num, hv8, Hks2.out.take ho hgrow3, Hb, ?_, ?_⟩
        ·have := Hun.out; rw [List.length_append, List.length_singleton]; omega
        ·have := Hun.out; rw [List.length_append, List.length_singleton]; omega
    ·have Hb := hid (hbx.out.done (by rw [Hrow.out, List.length_map]; omega))
     go_wp2
     go_roundg (g0 - 1)
     case measure => omega
     case rel => exact ⟨seen, todo, A6, c6, rfl, hks, Hb, by omega, hmw⟩
end Go.Proofs.Lx
