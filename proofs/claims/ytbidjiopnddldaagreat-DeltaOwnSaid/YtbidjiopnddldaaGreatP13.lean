/- Parts of the proof: Nk, Xr, Df, Qb. Contracts of naive.given, marked, Solve, Round, Rounds. -/
import Derived.Test.YtbidjiopnddldaaGreatP12
import Derived.Test.YtbidjiopnddldaaGreatP11
import Derived.Test.YtbidjiopnddldaaGreatP7
import Derived.Maps.OwnOps
import Derived.Maps.Views
import Derived.Maps.RangeWalk
import Derived.Test.YtbidjiopnddldaaGreatP1
namespace Go.Proofs.Lx
open Go Go.RowKit
set_option linter.unusedSimpArgs false
set_option linter.unusedVariables false

def factsErr (T : Th) (l : List Int) : Int := if risB l T.lits = true then 0 else 181
/-- The first error of a theory and facts. -/
noncomputable def givenErr (T : Th) (l : List Int) : Int := if checkErr T = 0 then factsErr T l else checkErr T
theorem givenErr_ok {T : Th} {l : List Int} : givenErr T l = 0 ↔ WfTh T ∧ risB l T.lits = true := by
 unfold givenErr factsErr
 rw [← checkErr_ok]
 by_cases h : checkErr T = 0
 ·rw [if_pos h]
  by_cases h2 : risB l T.lits = true
  ·simp [h, h2]
  ·rw [if_neg h2]; simp [h2]
 ·rw [if_neg h]; simp [h]

set_option maxHeartbeats 800000 in
theorem facts_any (w : World) (V vl : Value) (T : Th) (l : List Int) (hT : RdTh w V T) (hl : RdI w vl l) :
  Calls Tryz.prog 47 #[V, vl] w (Ret fun v w' => v = .int .i64 (factsErr T l) ∧ Below w.heap.size w w') := by
 obtain ⟨vF, vR, vB, rfl, hF, hR, hB⟩ := hT
 have hl' := hl.ext (scR_mono _) (ext_alloc w (.cells #[.int .i64 T.lits, vF, vR, vB] 25))
 have hcall := hid (rising_any _ vl l T.lits hl')
 have hbel := ext_alloc w (.cells #[.int .i64 T.lits, vF, vR, vB] 25)
 clear hl'
 refine post_gen fun Q HQ => ?_
 go_enter Tryz.func47, Tryz.ntmps47
 go_wp2_with fail
 refine hcall.out.mono ?_
 rintro e w2 ⟨_, rfl, rfl, rfl⟩
 unfold factsErr at HQ
 cases h : risB l T.lits with
 | true =>
  rw [h] at HQ
  go_wp2_with fail
  go_ret
  exact Fin HQ ⟨rfl, hbel⟩
 | false =>
  rw [h] at HQ
  go_wp2_with fail
  go_ret
  exact Fin HQ ⟨rfl, hbel⟩

theorem box4 {w w2 : World} {v0 v1 v2 v3 : Value} {ty : TypeId} (hb : Below (w.alloc (.cells #[v0, v1, v2, v3] ty)).heap.size (w.alloc (.cells #[v0, v1, v2, v3] ty)) w2) :
  w2.cell? ⟨w.heap.size, 0, none⟩ = some v0 ∧ w2.cell? ⟨w.heap.size, 1, none⟩ = some v1 ∧ w2.cell? ⟨w.heap.size, 2, none⟩ = some v2 ∧ w2.cell? ⟨w.heap.size, 3, none⟩ = some v3 := by
 rw [World.size_alloc] at hb
 exact ⟨box_cell hb 0, box_cell hb 1, box_cell hb 2, box_cell hb 3⟩

set_option maxHeartbeats 800000 in
theorem given_any (w : World) (V vl : Value) (T : Th) (l : List Int) (hT : RdTh w V T) (hl : RdI w vl l) :
  Calls Tryz.prog 57 #[V, vl] w (Ret fun v w' => v = .int .i64 (givenErr T l) ∧ Below w.heap.size w w') := by
 have HT := hid hT
 obtain ⟨vF, vR, vB, rfl, hF, hR, hB⟩ := hT
 have Hgiv : Hid (∀ c, checkErr T = c → givenErr T l = if c = 0 then factsErr T l else c) := fun c hc => by rw [givenErr, hc]
 obtain ⟨c, Hc⟩ : ∃ c, Hid (checkErr T = c) := ⟨_, hid rfl⟩
 have hbel := ext_alloc w (.cells #[.int .i64 T.lits, vF, vR, vB] 25)
 have hch := check_any (w.alloc (.cells #[.int .i64 T.lits, vF, vR, vB] 25)) _ T (HT.out.ext hbel)
 rw [Hc.out] at hch
 have Hch := hid hch
 clear hch hF hR hB
 refine post_gen fun Q HQ => ?_
 rw [Hgiv.out c Hc.out] at HQ
 go_enter Tryz.func57, Tryz.ntmps57
 go_wp2_with fail
 refine Hch.out.mono ?_
 rintro e w2 ⟨_, rfl, ⟨i, rfl⟩, hb2'⟩
 obtain ⟨b0, b1, b2, b3⟩ := box4 hb2'
 have hb2 := ext_trans hbel hb2'
 clear hb2'
 by_cases h : c = 0
 ·rw [if_pos h] at HQ
  subst h
  have Hf := hid (facts_any w2 _ vl T l (HT.out.ext hb2) (hl.ext (scR_mono _) hb2))
  go_wp2_with fail
  refine Hf.out.mono ?_
  rintro e w3 ⟨_, rfl, rfl, hb3⟩
  go_wp2_with fail
  go_ret
  exact Fin HQ ⟨rfl, ext_trans hb2 hb3⟩
 ·rw [if_neg h] at HQ
  have hne : (c != 0) = true := by simp [h]
  go_wp2_with fail
  go_ret
  exact Fin HQ ⟨rfl, hb2⟩

/-- What a slice of marks of the call's own reads as. -/
theorem own_marks {w : World} {base : Nat} {v : Value} {M : List Nat} (h : w.ownsRow base 58 1 v M.length (marksV M)) (hl : M.length ≤ 140737488355328) : RdMk w v M := own_rdS h hl

set_option maxHeartbeats 800000 in
theorem solve_any (w : World) (V vl : Value) (T : Th) (l : List Int) (hT : RdTh w V T) (hl : RdI w vl l) :
  Calls Tryz.prog 34 #[V, vl] w (Ret fun r w' => ∃ v, r = .tuple #[v, .int .i64 (givenErr T l)] ∧ (givenErr T l = 0 → w'.ownsRow w.heap.size 58 1 v (solveM T l).length (marksV (solveM T l))) ∧ (givenErr T l ≠ 0 → v = .slice none 0 0) ∧ Below w.heap.size w w') := by
 have HT := hid hT
 obtain ⟨vF, vR, vB, rfl, hF, hR, hB⟩ := hT
 have hbel := ext_alloc w (.cells #[.int .i64 T.lits, vF, vR, vB] 25)
 have hch := given_any (w.alloc (.cells #[.int .i64 T.lits, vF, vR, vB] 25)) _ vl T l (HT.out.ext hbel) (hl.ext (scR_mono _) hbel)
 have Hok := hid (@givenErr_ok T l)
 clear hF hR hB
 generalize givenErr T l = c at *
 refine post_gen fun Q HQ => ?_
 go_enter Tryz.func34, Tryz.ntmps34
 go_wp2_with fail
 refine hch.mono ?_
 rintro e w2 ⟨_, rfl, rfl, hb2'⟩
 obtain ⟨b0, b1, b2, b3⟩ := box4 hb2'
 have hb2 := ext_trans hbel hb2'
 clear hb2'
 by_cases h : c = 0
 ·subst h
  have hw := Hok.out.1 rfl
  have Hrun := hid (run_any w2 _ vl T l (HT.out.ext hb2) hw.1 (hl.ext (scR_mono _) hb2) hw.2)
  clear hw
  go_wp2_with fail
  refine Hrun.out.mono ?_
  rintro e w3 ⟨_, rfl, k, v, rfl, h1, h2, h3, hb3⟩
  go_wp2_with fail
  go_ret2
  refine Fin HQ ⟨v, rfl, fun _ => ?_, fun h => absurd rfl h, ext_trans hb2 hb3⟩
  rw [solve_run h2 h3] at h1
  rw [solve_length]
  exact own_mono h1 hb2.size
 ·have hne : (c != 0) = true := by simp [h]
  go_wp2_with fail
  go_ret2
  exact Fin HQ ⟨_, rfl, fun e => absurd e h, fun _ => rfl, hb2⟩

end Go.Proofs.Lx

namespace Go.Proofs.Lx
open Go Go.RowKit Go.Proofs.Tj
set_option linter.unusedSimpArgs false
set_option linter.unusedVariables false
/-- What an outer literal's rule may be, by its marks. -/
def SayR (S : List Nat) (q : Nat) (j : Nat) (r : Rule) : Prop := hasM S 0 (q : Int) = false ∧ ((r.kind = 1 ∧ r.body = [(j : Int)] ∧ hasM S 1 (q : Int) = false) ∨ (r.kind = 2 ∧ r.body = [] ∧ hasM S 2 (q : Int) = true) ∨ (r.kind = 2 ∧ r.body = [(j : Int)] ∧ hasM S 2 (q : Int) = false ∧ hasM S 3 (q : Int) = false))
/-- What cut makes: the cone's literals first, then what lies ahead; the cone's rules first, then those that say. -/
structure Cut (T P : Th) (F l o : List Int) (S : List Nat) (ol : List Nat) (n : Nat) (mL : List Nat) : Prop where
 nd : ol.Nodup
 lt : ∀ q ∈ ol, q < T.foes.length
 nl : n ≤ ol.length
 cone : ∀ q, q ∈ ol.take n ↔ q < T.foes.length ∧ InCone T o q
 bodies : ∀ i q : Nat, i < T.rules.length → (T.rules.getD i default).head = (q : Int) → InCone T o q → ∀ y : Nat, (y : Int) ∈ (T.rules.getD i default).body → y ∈ ol
 pfl : P.foes.length = ol.length
 pfo : ∀ j (h : j < ol.length), j < n → row P.foes (j : Int) = (row T.foes ((ol[j] : Nat) : Int)).map fun f => ((ol.idxOf f.toNat : Nat) : Int)
 pfx : ∀ j : Nat, n ≤ j → row P.foes (j : Int) = []
 mnd : mL.Nodup
 mem : ∀ i, i ∈ mL ↔ i < T.rules.length ∧ ∃ q : Nat, (T.rules.getD i default).head = (q : Int) ∧ InCone T o q
 prl : mL.length ≤ P.rules.length
 prm : ∀ k (h : k < mL.length), (P.rules.getD k default).kind = (T.rules.getD mL[k] default).kind ∧ (P.rules.getD k default).head = ((ol.idxOf (T.rules.getD mL[k] default).head.toNat : Nat) : Int) ∧
  ∀ x : Int, x ∈ (P.rules.getD k default).body ↔ ∃ y ∈ (T.rules.getD mL[k] default).body, x = ((ol.idxOf y.toNat : Nat) : Int)
 prx : ∀ k, mL.length ≤ k → k < P.rules.length → ∃ j, ∃ h : j < ol.length, n ≤ j ∧ (P.rules.getD k default).head = (j : Int) ∧ SayR S ol[j] j (P.rules.getD k default)
 pS : ∀ j (h : j < ol.length), n ≤ j → hasM S 0 ((ol[j] : Nat) : Int) = false → hasM S 1 ((ol[j] : Nat) : Int) = false → ∃ r, r < P.rules.length ∧ P.rules.getD r default = ⟨1, j, [(j : Int)]⟩
 pE : ∀ j (h : j < ol.length), n ≤ j → hasM S 0 ((ol[j] : Nat) : Int) = false → hasM S 2 ((ol[j] : Nat) : Int) = true → ∃ r, r < P.rules.length ∧ P.rules.getD r default = ⟨2, j, []⟩
 pL : ∀ j (h : j < ol.length), n ≤ j → hasM S 0 ((ol[j] : Nat) : Int) = false → hasM S 2 ((ol[j] : Nat) : Int) = false → hasM S 3 ((ol[j] : Nat) : Int) = false → ∃ r, r < P.rules.length ∧ P.rules.getD r default = ⟨2, j, [(j : Int)]⟩
 pbt : ∀ k (h : k < mL.length), ∀ x : Int, x ∈ beatsAt P k ↔ ∃ y ∈ beatsAt T mL[k], x = ((mL.idxOf y.toNat : Nat) : Int)
 lf : ∀ j (h : j < ol.length), (j : Int) ∈ l ↔ (j < n ∧ ((ol[j] : Nat) : Int) ∈ F) ∨ (n ≤ j ∧ hasM S 0 ((ol[j] : Nat) : Int) = true)
theorem nd_inj {ol : List Nat} (hnd : ol.Nodup) {i j : Nat} (hi : i < ol.length) (hj : j < ol.length) (h : ol[i] = ol[j]) : i = j := by
 rcases Nat.lt_trichotomy i j with h1 | h1 | h1
 ·exact absurd h (List.pairwise_iff_getElem.1 hnd i j hi hj h1)
 ·exact h1
 ·exact absurd h.symm (List.pairwise_iff_getElem.1 hnd j i hj hi h1)
theorem idx_of {ol : List Nat} (hnd : ol.Nodup) {j : Nat} (hj : j < ol.length) : ol.idxOf ol[j] = j := by
 have h1 : ol.idxOf ol[j] < ol.length := List.idxOf_lt_length_of_mem (List.getElem_mem hj)
 exact nd_inj hnd h1 hj (List.getElem_idxOf h1)
theorem idx_at {ol : List Nat} {q : Nat} (hq : q ∈ ol) : ∃ h : ol.idxOf q < ol.length, ol[ol.idxOf q] = q := by
 have h1 : ol.idxOf q < ol.length := List.idxOf_lt_length_of_mem hq
 exact ⟨h1, List.getElem_idxOf h1⟩
theorem beats_in {T : Th} (hwf : WfTh T) {i : Nat} (hi : i < T.rules.length) {y : Int} (hy : y ∈ beatsAt T i) : 0 ≤ y ∧ y < T.rules.length ∧ memB (row T.foes (headOf T i)) (headOf T y) = true := by
 have h := beatsAll_true.1 hwf.ba i (by rw [hwf.bl]; exact hi)
 simp only [beatsOk, Bool.and_eq_true, List.all_eq_true] at h
 have e : beatsAt T i = T.beats.getD i [] := rfl
 rw [e] at hy
 obtain ⟨k, hk, rfl⟩ := List.getElem_of_mem hy
 have := (risB_spec h.1).1 k hk
 exact ⟨this.1, this.2, h.2 _ hy⟩
section
variable {T P : Th} {F l o : List Int} {S : List Nat} {ol : List Nat} {n : Nat} {mL : List Nat}
theorem Cut.inC (h : Cut T P F l o S ol n mL) {j : Nat} (hj : j < ol.length) : InCone T o ol[j] ↔ j < n := by
 constructor
 ·intro hc
  have hm := (h.cone ol[j]).2 ⟨h.lt _ (List.getElem_mem hj), hc⟩
  obtain ⟨i, hi, e⟩ := List.getElem_of_mem hm
  rw [List.getElem_take] at e
  rw [List.length_take] at hi
  have := nd_inj h.nd (by omega) hj e
  omega
 ·intro hjn
  refine ((h.cone ol[j]).1 ?_).2
  rw [List.mem_take_iff_getElem]
  exact ⟨j, by omega, rfl⟩
theorem Cut.part (hwT : WfTh T) (hwP : WfTh P) (h : Cut T P F l o S ol n mL) (hS : ∀ q, q < T.foes.length → ¬ InCone T o q → ∀ k, hasM S k (q : Int) = hasM (solveM T F) k (q : Int)) : PartOf T P F l o ol n (fun i => mL.idxOf i) := by
 have hSj : ∀ j (hj : j < ol.length), n ≤ j → ∀ k, hasM S k ((ol[j] : Nat) : Int) = hasM (solveM T F) k ((ol[j] : Nat) : Int) := fun j hj hjn k => hS _ (h.lt _ (List.getElem_mem hj)) (fun hc => by have := (h.inC hj).1 hc; omega) k
 have hall : ∀ q : Nat, q < T.foes.length → InCone T o q → ∃ j, ∃ hj : j < ol.length, ol[j] = q := fun q hq hc => by
  have hm := List.mem_of_mem_take ((h.cone q).2 ⟨hq, hc⟩)
  obtain ⟨j, hj, e⟩ := List.getElem_of_mem hm
  exact ⟨j, hj, e⟩
 have hdT : ∀ i q : Nat, i < T.rules.length → (T.rules.getD i default).head = (q : Int) → q < T.foes.length := fun i q hi hq => by
  have h1 := hwT.ru _ (List.getElem_mem hi)
  have e : T.rules.getD i default = T.rules[i] := by simp [hi]
  rw [e] at hq
  simp only [ruleOk, Bool.and_eq_true, decide_eq_true_eq] at h1
  have := hwT.fl
  omega
 have bT : ∀ i : Nat, i < T.rules.length → ∀ x ∈ (T.rules.getD i default).body, ∃ y : Nat, x = y := fun i hi x hx => by
  have h1 := hwT.ru _ (List.getElem_mem hi)
  have e : T.rules.getD i default = T.rules[i] := by simp [hi]
  rw [e] at hx
  simp only [ruleOk, Bool.and_eq_true, decide_eq_true_eq] at h1
  obtain ⟨a, ha, rfl⟩ := List.getElem_of_mem hx
  exact ⟨_, (Int.toNat_of_nonneg ((risB_spec h1.2).1 a ha).1).symm⟩
 -- a moved rule
 have hmv : ∀ i q : Nat, i < T.rules.length → (T.rules.getD i default).head = (q : Int) → InCone T o q → ∃ hk : mL.idxOf i < mL.length, mL[mL.idxOf i] = i := fun i q h1 h2 h3 => idx_at ((h.mem i).2 ⟨h1, q, h2, h3⟩)
 have hsay : ∀ j (hj : j < ol.length) (r : Nat), n ≤ j → r < P.rules.length → (P.rules.getD r default).head = (j : Int) → SayR S ol[j] j (P.rules.getD r default) := fun j hj r hjn hr hh => by
  by_cases hrm : r < mL.length
  ·exfalso
   obtain ⟨_, h2, _⟩ := h.prm r hrm
   obtain ⟨h3, q, h4, h5⟩ := (h.mem _).1 (List.getElem_mem hrm)
   have hq := hdT _ _ h3 h4
   rw [h4, Int.toNat_natCast, hh] at h2
   obtain ⟨a, ha, rfl⟩ := hall q hq h5
   rw [idx_of h.nd ha] at h2
   have := (h.inC ha).1 h5
   omega
  ·obtain ⟨j', hj', _, h2, h3⟩ := h.prx r (by omega) hr
   rw [hh] at h2
   have : j = j' := by omega
   subst this
   exact h3
 refine ⟨fun j hj => h.lt _ (List.getElem_mem hj), fun i j hi hj e => nd_inj h.nd hi hj e, h.nl, fun j hj => h.inC hj, hall, h.pfl, fun j hj hjn i => ?_, h.pfx, fun i q h1 h2 h3 => ?_, fun i q h1 h2 h3 x => ?_, fun i q h1 h2 h3 y hy => ?_, fun r j h1 h2 h3 => ?_, fun i s q q' h1 h2 h3 h4 h5 h6 => ?_, fun j hj hjn => ?_, fun j hj hjn => ?_, fun j hj r hjn hr hh => ?_, fun j hj hjn h0 h1 => ?_, fun j hj hjn h0 h1 => ?_, fun j hj hjn h0 h1 h2 => ?_⟩
 ·rw [h.pfo j hj hjn, List.mem_map]
  have hC := (h.inC hj).2 hjn
  have hlt := h.lt _ (List.getElem_mem hj)
  constructor
  ·rintro ⟨f, hf, e⟩
   have hf0 := hf
   rw [row_nat _ _ hlt] at hf0
   obtain ⟨y, hy, rfl, _⟩ := foe_in hwT hlt hf0
   obtain ⟨a, ha, rfl⟩ := hall y hy (.foe hC hf)
   rw [Int.toNat_natCast, idx_of h.nd ha] at e
   have : i = a := by omega
   subst this
   exact ⟨ha, hf⟩
  ·rintro ⟨hi, hf⟩
   exact ⟨_, hf, by rw [Int.toNat_natCast, idx_of h.nd hi]⟩
 ·obtain ⟨hk, e⟩ := hmv i q h1 h2 h3
  obtain ⟨k1, k2, _⟩ := h.prm _ hk
  rw [e] at k1 k2
  obtain ⟨a, ha, rfl⟩ := hall q (hdT i q h1 h2) h3
  refine ⟨by have := h.prl; omega, k1, a, ha, rfl, ?_⟩
  rw [k2, h2, Int.toNat_natCast, idx_of h.nd ha]
 ·obtain ⟨hk, e⟩ := hmv i q h1 h2 h3
  obtain ⟨_, _, k3⟩ := h.prm _ hk
  rw [e] at k3
  rw [k3]
  constructor
  ·rintro ⟨y, hy, e2⟩
   obtain ⟨z, rfl⟩ := bT i h1 y hy
   obtain ⟨ha, e3⟩ := idx_at (h.bodies i q h1 h2 h3 z hy)
   rw [Int.toNat_natCast] at e2
   have : x = ol.idxOf z := by omega
   subst this
   exact ⟨ha, by rw [e3]; exact hy⟩
  ·rintro ⟨hx, hy⟩
   exact ⟨_, hy, by rw [Int.toNat_natCast, idx_of h.nd hx]⟩
 ·obtain ⟨ha, e⟩ := idx_at (h.bodies i q h1 h2 h3 y hy)
  exact ⟨_, ha, e⟩
 ·by_cases hrm : r < mL.length
  ·obtain ⟨k3, q, k4, k5⟩ := (h.mem _).1 (List.getElem_mem hrm)
   exact ⟨mL[r], q, k3, k4, k5, idx_of h.mnd hrm⟩
  ·exfalso
   obtain ⟨j', hj', k1, k2, _⟩ := h.prx r (by omega) h1
   rw [h3] at k2
   omega
 ·obtain ⟨hi, ei⟩ := hmv i q h1 h3 h4
  obtain ⟨hs, es⟩ := hmv s q' h2 h5 h6
  have hb := h.pbt _ hi ((mL.idxOf s : Nat) : Int)
  rw [ei] at hb
  have e1 : row P.beats ((mL.idxOf i : Nat) : Int) = beatsAt P (mL.idxOf i) := by simp [row, beatsAt]
  have e2 : row T.beats (i : Int) = beatsAt T i := by simp [row, beatsAt]
  rw [Bool.eq_iff_iff, beatsB, beatsB, memB_true, memB_true, e1, e2, hb]
  constructor
  ·rintro ⟨y, hy, e⟩
   obtain ⟨hy0, hyn, hyf⟩ := beats_in hwT h1 hy
   obtain ⟨z, rfl⟩ := Int.eq_ofNat_of_zero_le hy0
   have hz : z < T.rules.length := by omega
   -- the beaten rule's head is a foe of the cone's literal: it is moved too
   have hzC : ∃ q2 : Nat, (T.rules.getD z default).head = (q2 : Int) ∧ InCone T o q2 := by
    have hq := hdT i q h1 h3
    have hfo : headOf T (z : Int) ∈ row T.foes (q : Int) := by
     have := memB_true.1 hyf
     have e3 : headOf T (i : Int) = (q : Int) := by simpa [headOf] using h3
     rwa [e3] at this
    have hf0 := hfo
    rw [row_nat _ _ hq] at hf0
    obtain ⟨y2, hy2, e4, _⟩ := foe_in hwT hq hf0
    have e5 : (T.rules.getD z default).head = (y2 : Int) := by simpa [headOf] using e4
    refine ⟨y2, e5, .foe h4 ?_⟩
    rw [← e4]; exact hfo
   obtain ⟨q2, hq2, hc2⟩ := hzC
   obtain ⟨hz1, ez⟩ := hmv z q2 hz hq2 hc2
   rw [Int.toNat_natCast] at e
   have e6 : mL.idxOf s = mL.idxOf z := by omega
   have : s = z := by rw [← es, ← ez]; simp only [e6]
   subst this
   exact hy
  ·intro hy
   exact ⟨_, hy, by rw [Int.toNat_natCast]⟩
 ·rw [h.lf j hj]
  constructor
  ·rintro (⟨_, h1⟩ | ⟨h1, _⟩)
   ·exact h1
   ·omega
  ·exact fun h1 => .inl ⟨hjn, h1⟩
 ·rw [h.lf j hj, ← hSj j hj hjn 0]
  constructor
  ·rintro (⟨h1, _⟩ | ⟨_, h1⟩)
   ·omega
   ·exact h1
  ·exact fun h1 => .inr ⟨hjn, h1⟩
 ·have := hsay j hj r hjn hr hh
  unfold SayR at this
  rw [hSj j hj hjn, hSj j hj hjn, hSj j hj hjn, hSj j hj hjn] at this
  exact this
 ·rw [← hSj j hj hjn] at h0 h1
  obtain ⟨r, hr, e⟩ := h.pS j hj hjn h0 h1
  exact ⟨r, hr, by rw [e], by rw [e], by rw [e]⟩
 ·rw [← hSj j hj hjn] at h0 h1
  obtain ⟨r, hr, e⟩ := h.pE j hj hjn h0 h1
  exact ⟨r, hr, by rw [e], by rw [e], by rw [e]⟩
 ·rw [← hSj j hj hjn] at h0 h1 h2
  obtain ⟨r, hr, e⟩ := h.pL j hj hjn h0 h1 h2
  exact ⟨r, hr, by rw [e], by rw [e], by rw [e]⟩
/-- From the marks of other facts: what cut makes comes to the marks of the new facts. -/
theorem Cut.marks (hwT : WfTh T) {G : List Int} (h : Cut T P F l o (solveM T G) ol n mL) (hg : givenErr P l = 0) (hodd : ∀ x : Nat, x < T.foes.length → ¬ InCone T o x → ((x : Int) ∈ G ↔ (x : Int) ∈ F)) {j : Nat} (hj : j < ol.length) :
  (solveM P l).getD j 0 = (solveM T F).getD ol[j] 0 := by
 have hwP := (givenErr_ok.1 hg).1
 have hS : ∀ q, q < T.foes.length → ¬ InCone T o q → ∀ k, hasM (solveM T G) k (q : Int) = hasM (solveM T F) k (q : Int) := fun q hq hn k => by
  unfold hasM
  rw [Int.toNat_natCast, cone_solve hwT hodd hq hn]
 refine Nat.eq_of_testBit_eq fun k => ?_
 have := (h.part hwT hwP hS).same hwT hwP hj k
 unfold hasM at this
 rwa [Int.toNat_natCast, Int.toNat_natCast] at this
end
end Go.Proofs.Lx

namespace Go.Proofs.Lx
open Go Go.RowKit
set_option linter.unusedVariables false
set_option linter.unusedSimpArgs false
theorem dmKeyed : Go.Maps.Keyed Tryz.prog 3 := Go.Maps.int_keyed Tryz.underlying3
theorem zeroIntD (w : World) : (zeroValue 3).run Tryz.prog w = .ok (.int .i64 0) w := by kernel_rfl
theorem keyIntD {s : Int} (h : (Lit.int .i64 s).wf = true) : keyOf Tryz.prog 3 (.int .i64 s) = some (.int .i64 s) := Go.Maps.keyOf_int_mk Tryz.underlying3 h
theorem natWf {n : Nat} (h : n ≤ 1000000) : (Lit.int .i64 (n : Int)).wf = true := WalkArith.wf_i64 (by omega)
theorem ndI_inj {l : List Int} (hnd : l.Nodup) {i j : Nat} (hi : i < l.length) (hj : j < l.length) (h : l[i] = l[j]) : i = j := by
 rcases Nat.lt_trichotomy i j with k | k | k
 ·exact absurd h (List.pairwise_iff_getElem.1 hnd i j hi hj k)
 ·exact k
 ·exact absurd h.symm (List.pairwise_iff_getElem.1 hnd j i hj hi k)
/-- D gives each number of l its place, and no other number. -/
structure IxD (D : DataW Unit) (l : List Int) : Prop where
 tidy : Go.Maps.Tidy D
 size : Go.Maps.size D = l.length
 nd : l.Nodup
 wf : ∀ s ∈ l, (Lit.int .i64 s).wf = true
 at9 : ∀ j (h : j < l.length) zd, D.atKey (.int .i64 l[j]) zd = .lit (.int .i64 (j : Int))
 no : ∀ s, s ∉ l → ∀ zd, D.atKey (.int .i64 s) zd = zd
theorem isKeyInt (s : Int) : WideAt.IsKeyLit (.int .i64 s) := by unfold WideAt.IsKeyLit; trivial
theorem IxD.nil : IxD (.map []) [] := ⟨Go.Maps.tidy_empty, rfl, List.nodup_nil, by simp, fun j h => absurd h (by simp), fun s _ zd => Go.Maps.atKey_of_not_has rfl zd⟩
theorem IxD.push {D : DataW Unit} {l : List Int} (h : IxD D l) {s : Int} (hs : s ∉ l) (hw : (Lit.int .i64 s).wf = true) : IxD (D.put (.int .i64 s) (.lit (.int .i64 (l.length : Int)))) (l ++ [s]) := by
 have hn : Go.Maps.has D (.int .i64 s) = false := Go.Maps.has_false_of_atKey (h.no s hs)
 refine ⟨h.tidy.put (isKeyInt s) _, ?_, ?_, ?_, ?_, ?_⟩
 ·rw [Go.Maps.size_put h.tidy, hn, h.size]; simp
 ·rw [List.nodup_append]
  refine ⟨h.nd, by simp, fun a ha b hb e => ?_⟩
  rw [List.mem_singleton] at hb
  subst e; subst hb; exact hs ha
 ·intro x hx
  rw [List.mem_append, List.mem_singleton] at hx
  rcases hx with hx | rfl
  ·exact h.wf x hx
  ·exact hw
 ·intro j hj zd
  rw [List.length_append, List.length_singleton] at hj
  by_cases e : j < l.length
  ·rw [List.getElem_append_left e]
   rw [Go.Maps.atKey_put_other (fun e2 => hs (by injection e2 with _ e2; rw [← e2]; exact List.getElem_mem e))]
   exact h.at9 j e zd
  ·have e2 : j = l.length := by omega
   subst e2
   rw [List.getElem_append_right (Nat.le_refl _)]
   simp only [Nat.sub_self, List.getElem_cons_zero]
   exact Go.Maps.atKey_put_same h.tidy.isMap (isKeyInt s) _ _
 ·intro x hx zd
  rw [List.mem_append, List.mem_singleton] at hx
  rw [Go.Maps.atKey_put_other (fun e2 => hx (.inr (by injection e2)))]
  exact h.no x (fun e => hx (.inl e)) zd
def IM (w : World) (b : Nat) (l : List Int) : Prop := l.length ≤ 1000000 ∧ ∃ D, IxD D l ∧ w.ownsMap Tryz.prog 3 (plainElem Tryz.prog 3) b l.length D
section
variable {w w' : World} {b : Nat} {l : List Int}
theorem IM.keep (h : IM w b l) (hk : w'.heap[b]? = w.heap[b]?) : IM w' b l := by
 obtain ⟨hl, D, h1, es, clock, hb, F, hs, hD⟩ := h
 exact ⟨hl, D, h1, es, clock, hk.trans hb, F, hs, hD⟩
theorem IM.lt (h : IM w b l) : b < w.heap.size := h.2.choose_spec.2.lt
theorem IM.nd (h : IM w b l) : l.Nodup := h.2.choose_spec.1.nd
theorem IM.made (w : World) : IM (w.alloc (.map #[] 0)) w.heap.size [] := ⟨by simp, _, IxD.nil, World.ownsMap_made w _ _ _⟩
theorem IM.push (h : IM w b l) (hl : l.length < 1000000) {s : Int} (hs : s ∉ l) (hw : (Lit.int .i64 s).wf = true) :
  ∃ w', (Instr.mapUpdate 129 (.map (some b)) (.int .i64 s) (.int .i64 (l.length : Int))).run Tryz.prog w = .ok () w' ∧ IM w' b (l ++ [s]) ∧ w.grownBy w' (some b) := by
 obtain ⟨_, D, h1, h2⟩ := h
 obtain ⟨w', r1, r2, r3⟩ := h2.update dmKeyed Tryz.underlying129 (by unfold maxLen; omega) (keyIntD hw) (plainElem_int Tryz.underlying3 (natWf (by omega)))
 refine ⟨w', r1, ⟨by rw [List.length_append, List.length_singleton]; omega, _, h1.push hs hw, ?_⟩, r3⟩
 rw [List.length_append, List.length_singleton]; exact r2
theorem IM.lookok (h : IM w b l) {s : Int} (hw : (Lit.int .i64 s).wf = true) :
  (Instr.lookup 129 (.map (some b)) (.int .i64 s) true).run Tryz.prog w = .ok (if s ∈ l then .tuple #[.int .i64 (l.idxOf s : Nat), .bool true] else .tuple #[.int .i64 0, .bool false]) w := by
 obtain ⟨hl, D, h1, es, clock, hb, F, hs, rfl⟩ := h
 rcases Maps.fit_look true dmKeyed Tryz.underlying129 (zeroIntD w) hb F (keyIntD hw) with ⟨hrun, _, hat⟩ | ⟨e0, y, _, _, hrun, hRv, hat, _⟩
 ·rw [if_neg (fun hm => ?_)]
  ·exact hrun
  ·obtain ⟨j, hj, rfl⟩ := List.getElem_of_mem hm
   have := (hat (.lit (.bool true))).symm.trans (h1.at9 j hj _)
   cases this
 ·by_cases hm : s ∈ l
  ·rw [if_pos hm]
   obtain ⟨c, hc1, hc2, hc3⟩ := plainElem_int_inv Tryz.underlying3 hRv
   have hj : l.idxOf s < l.length := List.idxOf_lt_length_of_mem hm
   have e1 := h1.at9 _ hj (.lit (.bool true))
   rw [List.getElem_idxOf hj, hat, hc2] at e1
   have e2 : c = (l.idxOf s : Nat) := by
    generalize ((l.idxOf s : Nat) : Int) = z at e1
    cases e1; rfl
   rw [hrun, hc1, e2]; rfl
  ·exfalso
   have k1 := (hat (.lit (.bool true))).symm.trans (h1.no s hm _)
   have k2 := (hat (.lit (.bool false))).symm.trans (h1.no s hm _)
   have := k1.symm.trans k2
   cases this
theorem IM.look (h : IM w b l) {s : Int} (hw : (Lit.int .i64 s).wf = true) :
  (Instr.lookup 129 (.map (some b)) (.int .i64 s) false).run Tryz.prog w = .ok (.int .i64 (if s ∈ l then (l.idxOf s : Nat) else 0 : Nat)) w := by
 obtain ⟨hl, D, h1, es, clock, hb, F, hs, rfl⟩ := h
 rcases Maps.fit_look false dmKeyed Tryz.underlying129 (zeroIntD w) hb F (keyIntD hw) with ⟨hrun, _, hat⟩ | ⟨e0, y, _, _, hrun, hRv, hat, _⟩
 ·rw [if_neg (fun hm => ?_)]
  ·exact hrun
  ·obtain ⟨j, hj, rfl⟩ := List.getElem_of_mem hm
   have := (hat (.lit (.bool true))).symm.trans (h1.at9 j hj _)
   cases this
 ·by_cases hm : s ∈ l
  ·rw [if_pos hm]
   obtain ⟨c, hc1, hc2, hc3⟩ := plainElem_int_inv Tryz.underlying3 hRv
   have hj : l.idxOf s < l.length := List.idxOf_lt_length_of_mem hm
   have e1 := h1.at9 _ hj (.lit (.bool true))
   rw [List.getElem_idxOf hj, hat, hc2] at e1
   have e2 : c = (l.idxOf s : Nat) := by
    generalize ((l.idxOf s : Nat) : Int) = z at e1
    cases e1; rfl
   rw [hrun, hc1, e2]; rfl
  ·exfalso
   have k1 := (hat (.lit (.bool true))).symm.trans (h1.no s hm _)
   have k2 := (hat (.lit (.bool false))).symm.trans (h1.no s hm _)
   have := k1.symm.trans k2
   cases this
theorem IM.len (h : IM w b l) (ty : TypeId) : (Builtin.len_ #[129] ty #[.map (some b)]).run Tryz.prog w = .ok (.int .i64 (l.length : Int)) w := by
 obtain ⟨hl, D, h1, es, clock, hb, F, hs, rfl⟩ := h
 rw [run_len_map (P := Tryz.prog) (w := w) 129 ty b es clock (by kernel_rfl) hb]
 have := h1.size
 rw [Go.Maps.size_eq, Go.length_sorted] at this
 have e : es.size = l.length := by simpa using this
 rw [e]; rfl
/-- A range over such a map: 'vis' are the places that have come. -/
def RG (w : World) (b r : Nat) (l : List Int) (vis : List Nat) (cnt : Nat) : Prop :=
 l.length ≤ 1000000 ∧ vis.Nodup ∧ (∀ j ∈ vis, j < l.length) ∧ ∃ D left, IxD D l ∧ w.ranges Tryz.prog 3 (plainElem Tryz.prog 3) b r l.length D left cnt ∧ ∀ j (h : j < l.length), left (.int .i64 l[j]) = true ↔ j ∉ vis
theorem RG.im {r cnt : Nat} {vis : List Nat} (h : RG w b r l vis cnt) : IM w b l := by
 obtain ⟨hl, _, _, D, left, h1, h2, _⟩ := h
 exact ⟨hl, D, h1, h2.owns⟩
theorem RG.keep {r cnt : Nat} {vis : List Nat} (h : RG w b r l vis cnt) (hk : w'.heap[b]? = w.heap[b]?) (hk2 : w'.heap[r]? = w.heap[r]?) : RG w' b r l vis cnt := by
 obtain ⟨hl, hn, hv, D, left, h1, ⟨es, clock, since, seen, c0, hb, F, hs, hD, hr, rest⟩, h3⟩ := h
 exact ⟨hl, hn, hv, D, left, h1, ⟨es, clock, since, seen, c0, hk.trans hb, F, hs, hD, hk2.trans hr, rest⟩, h3⟩
theorem RG.lt {r cnt : Nat} {vis : List Nat} (h : RG w b r l vis cnt) : r < w.heap.size ∧ b < w.heap.size ∧ r ≠ b := by
 obtain ⟨hl, hn, hv, D, left, h1, h2, h3⟩ := h
 exact ⟨h2.lt, h2.owns.lt, h2.ne⟩
theorem RG.left {r cnt : Nat} {vis : List Nat} (h : RG w b r l vis cnt) : w.rangeLeft b r = cnt := by
 obtain ⟨hl, hn, hv, D, left, h1, h2, h3⟩ := h
 exact h2.left_eq
variable {ops : Array Oper} {rest : List Oper} {o : Oper} {a : Act} {Q : Exit → Act → World → Prop}
theorem wpList_range_IM (hg : o.guard = none) (m : Operand) (hop : o.op = Op.range 129 m) (b : Nat) (l : List Int) (hm : a.eval m = .map (some b)) (h : IM w b l)
  (hK : ∀ w' cnt, RG w' b w.heap.size l [] cnt → w.grownBy w' none → w'.heap.size = w.heap.size + 1 → wpList Tryz.prog ops Q rest (a.put o.dst (.pointer (some ⟨w.heap.size, 0, none⟩))) w') : wpList Tryz.prog ops Q (o :: rest) a w := by
 obtain ⟨hl, D, h1, h2⟩ := h
 refine wpList_range_own w hg m _ hop 3 3 dmKeyed Tryz.underlying129 (plainElem Tryz.prog 3) b l.length D hm h2 fun w' k1 k2 k3 => hK w' _ ⟨hl, List.nodup_nil, by simp, D, _, h1, k1, fun j hj => ?_⟩ k2 k3
 simp only [List.not_mem_nil, not_false_eq_true, iff_true]
 exact Go.Maps.has_true_of_atKey (h1.at9 j hj)
theorem wpList_next_IM (hg : o.guard = none) (it : Operand) (hop : o.op = Op.next it false) (b r : Nat) (l : List Int) (vis : List Nat) (cnt : Nat) (hit : a.eval it = .pointer (some ⟨r, 0, none⟩)) (h : RG w b r l vis cnt)
  (hDone : (∀ j, j < l.length → j ∈ vis) → wpList Tryz.prog ops Q rest (a.put o.dst (.tuple #[.bool false])) w)
  (hMore : ∀ (j : Nat) (hj : j < l.length) (w' : World) (cnt' : Nat), j ∉ vis → RG w' b r l (j :: vis) cnt' → cnt' < cnt → w.grownBy w' (some r) → w'.heap.size = w.heap.size →
   (Instr.entry (.pointer (some ⟨r, 0, none⟩))).run Tryz.prog w' = .ok (.tuple #[.int .i64 l[j], .int .i64 (j : Int)]) w' → wpList Tryz.prog ops Q rest (a.put o.dst (.tuple #[.bool true, .int .i64 l[j], .int .i64 (j : Int)])) w') : wpList Tryz.prog ops Q (o :: rest) a w := by
 obtain ⟨hl, hn, hv, D, left, h1, h2, h3⟩ := h
 refine wpList_next_ranges_ii w hg it hop 3 3 .i64 .i64 dmKeyed Tryz.underlying3 Tryz.underlying3 b r l.length D left cnt hit h2 (fun _ h0 => hDone fun j hj => ?_) fun x c w' cnt' hwx hwc hlx hat hrg hlt hgr hsz hen => ?_
 ·by_cases hj2 : j ∈ vis
  ·exact hj2
  ·have := (h3 j hj).2 hj2
   rw [h0] at this; cases this
 ·have hx : x ∈ l := by
   by_cases hx : x ∈ l
   ·exact hx
   ·exfalso
    have k1 := (hat (.lit (.bool true))).symm.trans (h1.no x hx _)
    cases k1
  obtain ⟨j, hj, rfl⟩ := List.getElem_of_mem hx
  have e2 : c = (j : Int) := by
   have e1 := (hat (.lit (.bool true))).symm.trans (h1.at9 j hj _)
   generalize (j : Int) = z at e1
   cases e1; rfl
  subst e2
  have hjv := (h3 j hj).1 hlx
  refine hMore j hj w' cnt' hjv ⟨hl, List.nodup_cons.2 ⟨hjv, hn⟩, fun i hi => ?_, D, _, h1, hrg, fun i hi => ?_⟩ hlt hgr hsz hen
  ·rcases List.mem_cons.1 hi with rfl | hi
   ·exact hj
   ·exact hv i hi
  ·rw [Bool.and_eq_true, h3 i hi, List.mem_cons, not_or]
   constructor
   ·rintro ⟨k1, k2⟩
    refine ⟨fun e => ?_, k1⟩
    subst e
    rw [WideAt.sameKey_self (isKeyInt _)] at k2
    cases k2
   ·rintro ⟨k1, k2⟩
    refine ⟨k2, ?_⟩
    rw [Go.Maps.sameKey_ne (fun e => k1 (by injection e with _ e; exact ndI_inj h1.nd hi hj e))]
    rfl
end
end Go.Proofs.Lx

namespace Go.Proofs.Lx
open Go Go.RowKit
set_option linter.unusedSimpArgs false
set_option linter.unusedVariables false

theorem rd_lit1 {α : Type} {R : World → α → List Value → Prop} {W : World} {g n : Nat} {e : TypeId} {cur : Array Value} {xs : List α} (hh : W.heap[g]? = some (.cells cur e (0, 0))) (hn : n = xs.length) (hb : xs.length ≤ 140737488355328)
  (hr : ∀ i (h : i < xs.length), ∃ v, cur[i]? = some v ∧ R W xs[i] [v]) : Rd 1 R W (.slice (some ⟨g, 0, none⟩) n n) xs := by
 subst hn
 refine ⟨_, _, rfl, Nat.le_refl _, hb, fun i hi => ?_⟩
 obtain ⟨v, h1, h2⟩ := hr i hi
 refine ⟨_, [v], rfl, h2, rfl, fun j u hu => ?_⟩
 match j, hu with
 | 0, hu =>
  simp at hu; subst hu
  rw [show i * 1 + 0 = i by omega, add_plain, cell_of_row W g i cur e _ hh]
  exact h1
theorem rd_lit3 {α : Type} {R : World → α → List Value → Prop} {W : World} {g n : Nat} {e : TypeId} {cur : Array Value} {xs : List α} (hh : W.heap[g]? = some (.cells cur e (0, 0))) (hn : n = xs.length) (hb : xs.length ≤ 140737488355328)
  (hr : ∀ i (h : i < xs.length), ∃ a b c, cur[i * 3]? = some a ∧ cur[i * 3 + 1]? = some b ∧ cur[i * 3 + 2]? = some c ∧ R W xs[i] [a, b, c]) : Rd 3 R W (.slice (some ⟨g, 0, none⟩) n n) xs := by
 subst hn
 refine ⟨_, _, rfl, Nat.le_refl _, hb, fun i hi => ?_⟩
 obtain ⟨a, b, c, h1, h2, h3, h4⟩ := hr i hi
 refine ⟨_, [a, b, c], rfl, h4, rfl, fun j u hu => ?_⟩
 rw [add_plain, cell_of_row W g _ cur e _ hh]
 match j, hu with
 | 0, hu => simp at hu; subst hu; exact h1
 | 1, hu => simp at hu; subst hu; exact h2
 | 2, hu => simp at hu; subst hu; exact h3
theorem rd_int1 {W : World} {g : Nat} {e : TypeId} {x : Int} (hh : W.heap[g]? = some (.cells #[.int .i64 x] e (0, 0))) : RdI W (.slice (some ⟨g, 0, none⟩) 1 1) [x] := by
 refine rd_lit1 hh rfl (by simp) fun i hi => ?_
 simp at hi; subst hi
 exact ⟨_, rfl, rfl⟩
end Go.Proofs.Lx
