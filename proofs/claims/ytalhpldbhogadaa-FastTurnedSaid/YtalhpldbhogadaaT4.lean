/- Parts of the proof: Xk, Xj. Plain: what is not in the cone of the facts that differ has the same marks. -/
import Derived.Test.YtalhpldbhogadaaU27
import Derived.Test.YtalhpldbhogadaaU29
import Derived.Test.YtalhpldbhogadaaU32
import Derived.Test.YtalhpldbhogadaaT3
import Derived.Test.YtalhpldbhogadaaU31
namespace Go.Proofs.Lx
open Go Go.RowKit Go.Proofs.Tj
set_option linter.unusedSimpArgs false
set_option linter.unusedVariables false
/-- The cone of some literals: with a literal its foes and the heads of the rules in whose bodies it stands. -/
inductive InCone (T : Th) (o : List Int) : Nat → Prop
 | base {x : Nat} : (x : Int) ∈ o → InCone T o x
 | foe {q f : Nat} : InCone T o q → (f : Int) ∈ row T.foes (q : Int) → InCone T o f
 | head {i x h : Nat} : i < T.rules.length → (x : Int) ∈ (T.rules.getD i default).body → InCone T o x → (T.rules.getD i default).head = (h : Int) → InCone T o h
open Classical in
/-- The cone as a list. -/
noncomputable def coneL (T : Th) (o : List Int) : List Int := pickL (fun q => decide (InCone T o q)) T.foes.length
theorem ris_ge {l : List Int} (hp : l.Pairwise (· < ·)) (h0 : ∀ i (hi : i < l.length), 0 ≤ l[i]) : ∀ i (hi : i < l.length), (i : Int) ≤ l[i]
 | 0, hi => by simpa using h0 0 hi
 | i + 1, hi => by
  have h1 := List.pairwise_iff_getElem.1 hp i (i + 1) (by omega) hi (by omega)
  have h2 := ris_ge hp h0 i (by omega)
  omega
theorem ris_len {l : List Int} {n : Nat} (h : risB l (n : Int) = true) : l.length ≤ n := by
 obtain ⟨h1, h2⟩ := risB_spec h
 by_cases hl : l.length = 0
 ·omega
 ·have := ris_ge h2 (fun i hi => (h1 i hi).1) (l.length - 1) (by omega)
  have := (h1 (l.length - 1) (by omega)).2
  omega
theorem any_cong {α : Type} {l : List α} {f g : α → Bool} (h : ∀ x ∈ l, f x = g x) : l.any f = l.any g := by
 rw [Bool.eq_iff_iff, List.any_eq_true, List.any_eq_true]
 exact exists_congr fun x => and_congr_right fun hx => by rw [h x hx]
section
variable {T : Th} {o : List Int} {M M' : List Nat} {F F' : List Bool}
theorem cone_body (hwf : WfTh T) (hM : ∀ x : Nat, x < T.foes.length → ¬ InCone T o x → M.getD x 0 = M'.getD x 0) {p : Nat} (hp : p < T.foes.length) (hn : ¬ InCone T o p) {r : Int}
  (hr : r ∈ row (rulesRows T.rules T.foes.length T.rules.length) (p : Int)) (k : Nat) : wholeB T M k r = wholeB T M' k r ∧ someB T M k r = someB T M' k r := by
 obtain ⟨i, hi, rfl, hh⟩ := (mem_heads hp).1 hr
 have hok := hwf.ru _ (List.getElem_mem hi)
 simp only [ruleOk, Bool.and_eq_true, decide_eq_true_eq] at hok
 have hx : ∀ x ∈ bodyAt T (i : Int), hasM M k x = hasM M' k x := by
  intro x hx
  have e : bodyAt T (i : Int) = T.rules[i].body := by simp [bodyAt, hi]
  rw [e] at hx
  obtain ⟨j, hj, rfl⟩ := List.getElem_of_mem hx
  have hb := (risB_spec hok.2).1 j hj
  have hfl := hwf.fl
  unfold hasM
  rw [hM _ (by omega) fun hc => hn (.head hi (x := (T.rules[i].body[j]).toNat) ?_ hc hh)]
  rw [show ((T.rules[i].body[j].toNat : Nat) : Int) = T.rules[i].body[j] by omega]
  have e2 : T.rules.getD i default = T.rules[i] := by simp [hi]
  rw [e2]; exact hx
 refine ⟨?_, ?_⟩
 ·unfold wholeB
  rw [any_cong fun x h => by rw [hx x h]]
 ·exact any_cong fun x h => hx x h
theorem cone_cnd (hwf : WfTh T) (hM : ∀ x : Nat, x < T.foes.length → ¬ InCone T o x → M.getD x 0 = M'.getD x 0) (hF : ∀ x : Nat, x < T.foes.length → ¬ InCone T o x → F.getD x false = F'.getD x false) (k : Nat) {q : Nat} (hq : q < T.foes.length) (hn : ¬ InCone T o q) :
  cnd T F (rulesRows T.rules T.foes.length T.rules.length) M k (q : Int) = cnd T F' (rulesRows T.rules T.foes.length T.rules.length) M' k (q : Int) := by
 have hfoe : ∀ f ∈ row T.foes (q : Int), ∃ j : Nat, j < T.foes.length ∧ f = j ∧ ¬ InCone T o j := fun f hf => by
  rw [row_nat _ _ hq] at hf
  obtain ⟨j, h1, h2, _, h4⟩ := foe_in hwf hq hf
  exact ⟨j, h1, h2, fun hc => hn (.foe hc h4)⟩
 have hq1 : ∀ r ∈ row (rulesRows T.rules T.foes.length T.rules.length) (q : Int), ∀ k, wholeB T M k r = wholeB T M' k r ∧ someB T M k r = someB T M' k r := fun r hr k => cone_body hwf hM hq hn hr k
 have hf1 : ∀ f ∈ row T.foes (q : Int), ∀ r ∈ row (rulesRows T.rules T.foes.length T.rules.length) f, ∀ k, wholeB T M k r = wholeB T M' k r ∧ someB T M k r = someB T M' k r := fun f hf r hr k => by
  obtain ⟨j, hj, rfl, hjn⟩ := hfoe f hf
  exact cone_body hwf hM hj hjn hr k
 have hqm : ∀ k, hasM M k (q : Int) = hasM M' k (q : Int) := fun k => by unfold hasM; rw [Int.toNat_natCast, hM q hq hn]
 have hfm : ∀ f ∈ row T.foes (q : Int), ∀ k, hasM M k f = hasM M' k f := fun f hf k => by
  obtain ⟨j, hj, rfl, hjn⟩ := hfoe f hf
  unfold hasM; rw [Int.toNat_natCast, hM j hj hjn]
 have hqf : F.getD (q : Int).toNat false = F'.getD (q : Int).toNat false := by rw [Int.toNat_natCast]; exact hF q hq hn
 match k with
 | 0 =>
  rw [Bool.eq_iff_iff, plusD_iff, plusD_iff, hqf]
  exact or_congr Iff.rfl (exists_congr fun r => and_congr_right fun hr => by rw [(hq1 r hr 0).1])
 | 1 =>
  rw [Bool.eq_iff_iff, minusD_iff, minusD_iff, hqf]
  exact and_congr Iff.rfl (forall₂_congr fun r hr => by rw [(hq1 r hr 1).2])
 | 2 =>
  rw [Bool.eq_iff_iff, plusP_iff, plusP_iff, hqm 0]
  refine or_congr Iff.rfl (and_congr (exists_congr fun r => and_congr_right fun hr => by rw [(hq1 r hr 2).1]) (and_congr (forall₂_congr fun f hf => by rw [hfm f hf 1]) (forall₂_congr fun f hf => forall₂_congr fun s hs => ?_)))
  rw [(hf1 f hf s hs 3).2]
  exact or_congr Iff.rfl (exists_congr fun r => and_congr_right fun hr => by rw [(hq1 r hr 2).1])
 | k + 3 =>
  show cnd T F _ M 3 (q : Int) = cnd T F' _ M' 3 (q : Int)
  rw [Bool.eq_iff_iff, minusP_iff, minusP_iff, hqm 1]
  refine and_congr Iff.rfl (or_congr (forall₂_congr fun r hr => by rw [(hq1 r hr 3).2]) (or_congr (exists_congr fun f => and_congr_right fun hf => by rw [hfm f hf 0]) (exists_congr fun f => and_congr_right fun hf => exists_congr fun s => and_congr_right fun hs => ?_)))
  rw [(hf1 f hf s hs 2).1]
  exact and_congr Iff.rfl (forall₂_congr fun r hr => by rw [(hq1 r hr 3).2])
theorem cone_orM {C C' : Nat → Bool} (h : ∀ k, C k = C' k) (x : Nat) : ∀ n, orM C x n = orM C' x n
 | 0 => rfl
 | n + 1 => by simp only [orM, cone_orM h x n, h n]
theorem cone_step (hwf : WfTh T) {a b : List Int} (hodd : ∀ x : Nat, x < T.foes.length → ¬ InCone T o x → ((x : Int) ∈ a ↔ (x : Int) ∈ b)) (hl : M.length = T.foes.length) (hl' : M'.length = T.foes.length)
  (hM : ∀ x : Nat, x < T.foes.length → ¬ InCone T o x → M.getD x 0 = M'.getD x 0) {x : Nat} (hx : x < T.foes.length) (hn : ¬ InCone T o x) : (stepM T a M).getD x 0 = (stepM T b M').getD x 0 := by
 unfold stepM roundM rnd
 simp only [List.getD_eq_getElem?_getD, List.getElem?_map]
 rw [List.getElem?_range (by omega), List.getElem?_range (by omega)]
 simp only [Option.map_some, Option.getD_some]
 have h1 := hM x hx hn
 simp only [List.getD_eq_getElem?_getD] at h1
 rw [h1]
 refine cone_orM (fun k => cone_cnd hwf hM (fun y hy hny => ?_) k hx hn) _ _
 simp only [factsB, List.getD_eq_getElem?_getD, List.getElem?_map]
 rw [List.getElem?_range hy]
 simp only [Option.map_some, Option.getD_some]
 rw [Bool.eq_iff_iff, memB_true, memB_true]
 exact hodd y hy hny
theorem cone_solve (hwf : WfTh T) {a b : List Int} (hodd : ∀ x : Nat, x < T.foes.length → ¬ InCone T o x → ((x : Int) ∈ a ↔ (x : Int) ∈ b)) {x : Nat} (hx : x < T.foes.length) (hn : ¬ InCone T o x) :
  (solveM T a).getD x 0 = (solveM T b).getD x 0 := by
 have h : ∀ k, ∀ y : Nat, y < T.foes.length → ¬ InCone T o y → (itM (stepM T a) k (startM T)).getD y 0 = (itM (stepM T b) k (startM T)).getD y 0 := by
  intro k
  induction k with
  | zero => intro y _ _; rfl
  | succ k ih => intro y hy hny; exact cone_step hwf hodd (it_length T a k) (it_length T b k) ih hy hny
 exact h _ x hx hn
end
end Go.Proofs.Lx

namespace Go.Proofs.Lx
open Go Go.RowKit Go.Proofs.Tj
set_option linter.unusedSimpArgs false
set_option linter.unusedVariables false
theorem WfTh.small {T : Th} (h : WfTh T) : Small T := by
 have h1 := h.fl
 have h2 := h.l1
 have h3 := h.rl
 have h4 := h.bl
 refine ⟨by omega, fun l hl => ?_, by omega, fun r hr => ?_, by omega, fun l hl => ?_⟩
 ·obtain ⟨q, hq, rfl⟩ := List.getElem_of_mem hl
  have := foesAll_true.1 h.fo q hq
  simp only [foesOk, Bool.and_eq_true, decide_eq_true_eq, List.getD_eq_getElem?_getD, List.getElem?_eq_getElem hq, Option.getD_some] at this
  omega
 ·have := h.ru r hr
  simp only [ruleOk, Bool.and_eq_true, decide_eq_true_eq] at this
  omega
 ·obtain ⟨i, hi, rfl⟩ := List.getElem_of_mem hl
  have := beatsAll_true.1 h.ba i hi
  simp only [beatsOk, Bool.and_eq_true, List.getD_eq_getElem?_getD, List.getElem?_eq_getElem hi, Option.getD_some] at this
  have := ris_len this.1
  omega
theorem turn_ix {n : Nat} (h0 : 0 < n) (a : Int) : ∃ k : Nat, (a.tmod (n : Int) + (n : Int)).tmod (n : Int) = (k : Int) ∧ k < n ∧ -(n : Int) < a.tmod n ∧ a.tmod n < n := by
 have h1 := Int.natAbs_tmod a n
 have h2 := Nat.mod_lt a.natAbs (show 0 < (n : Int).natAbs by omega)
 rw [← h1] at h2
 have h3 : (n : Int).natAbs = n := Int.natAbs_natCast n
 have h4 := Int.tmod_eq_emod_of_nonneg (a := a.tmod n + n) (b := n) (by omega)
 have h5 := Int.emod_nonneg (a.tmod n + n) (show (n : Int) ≠ 0 by omega)
 have h6 := Int.emod_lt_of_pos (a.tmod n + n) (show (0 : Int) < n by omega)
 exact ⟨((a.tmod n + n).tmod n).toNat, by omega, by omega, by omega, by omega⟩
/-- Four cells of a block are written. -/
def put4 (W : World) (b : Nat) (v0 v1 v2 v3 : Value) : World := (((W.setCell ⟨b, 0, none⟩ v0).setCell ⟨b, 1, none⟩ v1).setCell ⟨b, 2, none⟩ v2).setCell ⟨b, 3, none⟩ v3
theorem put4_other (W : World) (b : Nat) (v0 v1 v2 v3 : Value) {g : Nat} (h : g ≠ b) : (put4 W b v0 v1 v2 v3).heap[g]? = W.heap[g]? :=
 (heap_setCell_other _ _ g _ h).trans ((heap_setCell_other _ _ g _ h).trans ((heap_setCell_other _ _ g _ h).trans (heap_setCell_other _ _ g _ h)))
theorem put4_cells {W : World} {b : Nat} {x0 x1 x2 x3 v0 v1 v2 v3 : Value} {ty : TypeId} (h : W.heap[b]? = some (.cells #[x0, x1, x2, x3] ty (0, 0))) :
  (put4 W b v0 v1 v2 v3).cell? ⟨b, 0, none⟩ = some v0 ∧ (put4 W b v0 v1 v2 v3).cell? ⟨b, 1, none⟩ = some v1 ∧ (put4 W b v0 v1 v2 v3).cell? ⟨b, 2, none⟩ = some v2 ∧ (put4 W b v0 v1 v2 v3).cell? ⟨b, 3, none⟩ = some v3 := by
 have j0 := heap_setCell_same W b 0 _ _ v0 h
 have j1 := heap_setCell_same _ b 1 _ _ v1 j0
 have j2 := heap_setCell_same _ b 2 _ _ v2 j1
 have j3 := heap_setCell_same _ b 3 _ _ v3 j2
 have o0 := cell_of_row _ _ 0 _ _ _ j3
 have o1 := cell_of_row _ _ 1 _ _ _ j3
 have o2 := cell_of_row _ _ 2 _ _ _ j3
 have o3 := cell_of_row _ _ 3 _ _ _ j3
 simp only [List.setIfInBounds_toArray, List.set_cons_zero, List.set_cons_succ, List.getElem?_toArray, List.getElem?_cons_zero, List.getElem?_cons_succ] at o0 o1 o2 o3
 exact ⟨o0, o1, o2, o3⟩
theorem free4 {W : World} {b : Nat} {x0 x1 x2 x3 : Value} {ty : TypeId} (h : W.heap[b]? = some (.cells #[x0, x1, x2, x3] ty (0, 0))) :
  W.cell? ⟨b, 0, none⟩ = some x0 ∧ W.cell? ⟨b, 1, none⟩ = some x1 ∧ W.cell? ⟨b, 2, none⟩ = some x2 ∧ W.cell? ⟨b, 3, none⟩ = some x3 ∧ W.frozen? ⟨b, 0, none⟩ = false ∧ W.frozen? ⟨b, 1, none⟩ = false ∧ W.frozen? ⟨b, 2, none⟩ = false ∧ W.frozen? ⟨b, 3, none⟩ = false :=
 ⟨cell_of_row _ _ 0 _ _ _ h, cell_of_row _ _ 1 _ _ _ h, cell_of_row _ _ 2 _ _ _ h, cell_of_row _ _ 3 _ _ _ h, frozen_of_row _ _ _ _ _ h, frozen_of_row _ _ _ _ _ h, frozen_of_row _ _ _ _ _ h, frozen_of_row _ _ _ _ _ h⟩
theorem put4_below {m : Nat} {w W : World} {b : Nat} (v0 v1 v2 v3 : Value) (h : Below m w W) (hb : m ≤ b) : Below m w (put4 W b v0 v1 v2 v3) := (((h.setCell hb _).setCell hb _).setCell hb _).setCell hb _
theorem put4_size (W : World) (b : Nat) (v0 v1 v2 v3 : Value) : (put4 W b v0 v1 v2 v3).heap.size = W.heap.size := by simp [put4]
abbrev nilTh : Obj := .cells #[.int .i64 0, .slice none 0 0, .slice none 0 0, .slice none 0 0] 25
theorem boxA {W1 w3 w4 : World} {u v0 v1 v2 v3 : Value} {X : Th} (h3 : Below W1.heap.size W1 w3.drew) (hs : W1.heap.size ≤ w3.heap.size)
  (hu : ∀ W' : World, w4.heap.size ≤ W'.heap.size → (∀ g, w3.drew.heap.size ≤ g → g < w4.heap.size → W'.heap[g]? = w4.heap[g]?) → RdTh W' u X) (hb : Below w3.drew.heap.size w3.drew w4) :
  Below W1.heap.size W1 (w4.alloc nilTh) ∧ Below W1.heap.size W1 (w4.alloc (.cells #[v0, v1, v2, v3] 25)) ∧ Below W1.heap.size W1 (w4.alloc (.cells #[v0, v1, v2, v3] 25)) ∧ RdTh (w4.alloc (.cells #[v0, v1, v2, v3] 25)) u X ∧
   (w4.alloc (.cells #[v0, v1, v2, v3] 25)).cell? ⟨w4.heap.size, 0, none⟩ = some v0 ∧ (w4.alloc (.cells #[v0, v1, v2, v3] 25)).cell? ⟨w4.heap.size, 1, none⟩ = some v1 ∧ (w4.alloc (.cells #[v0, v1, v2, v3] 25)).cell? ⟨w4.heap.size, 2, none⟩ = some v2 ∧ (w4.alloc (.cells #[v0, v1, v2, v3] 25)).cell? ⟨w4.heap.size, 3, none⟩ = some v3 := by
 have h0 := ext_trans h3 hb
 have hn := heap_alloc_new w4 (.cells #[v0, v1, v2, v3] 25)
 exact ⟨h0.alloc h0.size _, h0.alloc h0.size _, h0.alloc h0.size _, hu _ (by simp) (fun g _ hg => Below.heap_alloc _ _ _ hg), cell_of_row _ _ 0 _ _ _ hn, cell_of_row _ _ 1 _ _ _ hn, cell_of_row _ _ 2 _ _ _ hn, cell_of_row _ _ 3 _ _ _ hn⟩
theorem boxB {W1 w3 w4 : World} {u v0 v1 v2 v3 : Value} {X : Th} (h3 : Below W1.heap.size W1 (w3.alloc nilTh).drew) (hs : W1.heap.size ≤ w3.heap.size)
  (hu : ∀ W' : World, w4.heap.size ≤ W'.heap.size → (∀ g, (w3.alloc nilTh).drew.heap.size ≤ g → g < w4.heap.size → W'.heap[g]? = w4.heap[g]?) → RdTh W' u X) (hb : Below (w3.alloc nilTh).drew.heap.size (w3.alloc nilTh).drew w4) :
  Below W1.heap.size W1 (put4 w4 w3.heap.size v0 v1 v2 v3) ∧ Below W1.heap.size W1 (put4 w4 w3.heap.size v0 v1 v2 v3) ∧ RdTh (put4 w4 w3.heap.size v0 v1 v2 v3) u X ∧
   (put4 w4 w3.heap.size v0 v1 v2 v3).cell? ⟨w3.heap.size, 0, none⟩ = some v0 ∧ (put4 w4 w3.heap.size v0 v1 v2 v3).cell? ⟨w3.heap.size, 1, none⟩ = some v1 ∧ (put4 w4 w3.heap.size v0 v1 v2 v3).cell? ⟨w3.heap.size, 2, none⟩ = some v2 ∧ (put4 w4 w3.heap.size v0 v1 v2 v3).cell? ⟨w3.heap.size, 3, none⟩ = some v3 := by
 have e : (w3.alloc nilTh).drew.heap.size = w3.heap.size + 1 := by simp [World.drew]
 have h2 := put4_below v0 v1 v2 v3 (ext_trans h3 hb) (show W1.heap.size ≤ w3.heap.size from hs)
 exact ⟨h2, h2, hu _ (by rw [put4_size]; exact Nat.le_refl _) (fun g hg _ => put4_other _ _ _ _ _ _ (by omega)), put4_cells ((hb.block w3.heap.size (by omega)).trans (heap_alloc_new w3 _))⟩
theorem turn_wrap {n : Nat} {a : Int} (h1 : -(n : Int) < a.tmod n) (h2 : a.tmod n < n) (hn : n ≤ 4096) : IntKind.i64.wrap (a.tmod (n : Int) + (n : Int)) = a.tmod (n : Int) + (n : Int) := by rw [IntKind.wrap_i64]; omega
set_option maxRecDepth 100000 in
set_option maxHeartbeats 3200000 in
theorem lawTurned_any (w : World) (V vl : Value) (a0 b0 : Int) (T : Th) (l : List Int) (hT : RdTh w V T) (hl : RdI w vl l) (wa : (Lit.int .i64 a0).wf = true) (wb : (Lit.int .i64 b0).wf = true) :
  Calls Try.prog 13 #[V, vl, .int .i64 a0, .int .i64 b0] w (Ret fun v w' => v = .bool true ∧ Below w.heap.size w w') := by
 have HT := hid hT
 have Hl := hid hl
 obtain ⟨vF, vR, vB, rfl, hF, hR, hB⟩ := hT
 obtain ⟨AR, cR, rfl⟩ : ∃ A c, vR = .slice A T.rules.length c := by obtain ⟨A, c, e, _⟩ := hR; exact ⟨A, c, e⟩
 obtain ⟨W1, HW1⟩ : ∃ W1, Hid (W1 = w.alloc (.cells #[.int .i64 T.lits, vF, .slice AR T.rules.length cR, vB] 25)) := ⟨_, hid rfl⟩
 have hb1 : Below w.heap.size w W1 := by rw [HW1.out]; exact ext_alloc _ _
 have Hbox : Hid (∀ W, Below W1.heap.size W1 W → W.cell? ⟨w.heap.size, 0, none⟩ = some (.int .i64 T.lits) ∧ W.cell? ⟨w.heap.size, 1, none⟩ = some vF ∧ W.cell? ⟨w.heap.size, 2, none⟩ = some (.slice AR T.rules.length cR) ∧ W.cell? ⟨w.heap.size, 3, none⟩ = some vB) := hid fun W h => by rw [HW1.out] at h; exact box4 h
 have Hrd : Hid (∀ W, Below W1.heap.size W1 W → RdTh W (.agg #[.int .i64 T.lits, vF, .slice AR T.rules.length cR, vB]) T ∧ RdI W vl l) := hid fun W h => ⟨HT.out.ext (ext_trans hb1 h), Hl.out.ext (scR_mono _) (ext_trans hb1 h)⟩
 have Hw := hid works_any
 have Hrun : Hid (∀ W V' l', RdTh W V' T → RdI W l' l → Calls Try.prog 36 #[V', l'] W (Ret (MkPost W (solX T l) (givenErr T l)))) := hid fun W V' l' h1 h2 =>
  (frunTop_any W V' l' T l h1 h2).mono fun e w' h => h.mono fun v w' h => FRunPost.marks h
 unfold MkPost at Hrun
 have Hb1 := hid hb1
 have hbda : -9223372036854775808 ≤ a0 ∧ a0 ≤ 9223372036854775807 := by simpa [Lit.wf, IntKind.min, IntKind.max, IntKind.signed, IntKind.bits] using wa
 have hbdb : -9223372036854775808 ≤ b0 ∧ b0 ≤ 9223372036854775807 := by simpa [Lit.wf, IntKind.min, IntKind.max, IntKind.signed, IntKind.bits] using wb
 clear hF hR hB hl hb1 wa wb
 refine post_gen fun Q HQ => ?_
 go_enter Try.func13, Try.ntmps13
 go_wp2_with fail
 rw [← HW1.out]
 refine (Hw.out W1).mono ?_
 rintro e w2 ⟨_, rfl, rfl, hb2⟩
 obtain ⟨a0', a1, a2, a3⟩ := Hbox.out w2 hb2
 have Hc := hid (Hrun.out w2 _ _ (Hrd.out w2 hb2).1 (Hrd.out w2 hb2).2)
 by_cases hd : givenErr T l = 0
 ·obtain ⟨hwf, hris⟩ := givenErr_ok.1 hd
  have hn4 := hwf.rl
  by_cases hn : T.rules.length = 0
  ·have Hn := hid hn
   rw [hd] at Hc
   generalize solX T l = Y at *
   clear hn hd hwf hris
   go_wp2_with fail
   refine Hc.out.mono ?_
   rintro e w3 ⟨_, rfl, xa, rfl, ha, hb3⟩
   have hb13 := ext_trans hb2 hb3
   clear Hc a0' a1 a2 a3
   obtain ⟨a0', a1, a2, a3⟩ := Hbox.out w3 hb13
   rw [Hn.out] at a2
   go_wp2_with fail
   go_ret
   exact Fin HQ ⟨rfl, ext_trans Hb1.out hb13⟩
  ·obtain ⟨ka, eka, hka, hka1, hka2⟩ := turn_ix (n := T.rules.length) (by omega) a0
   obtain ⟨kb, ekb, hkb, hkb1, hkb2⟩ := turn_ix (n := T.rules.length) (by omega) b0
   have hX : solX (turnTh T ka kb) l = solX T l := by unfold solX; rw [if_pos hd, if_pos (turn_given hd hka hkb), turn_solve hwf hka hkb]
   have Hrun2 : Hid (∀ W V' l', RdTh W V' (turnTh T ka kb) → RdI W l' l → Calls Try.prog 36 #[V', l'] W (Ret (MkPost W (solX T l) 0))) := hid fun W V' l' h1 h2 =>
    (frunTop_any W V' l' (turnTh T ka kb) l h1 h2).mono fun e w' h => h.mono fun v w' h => by have := FRunPost.marks h; rw [hX, turn_given hd hka hkb] at this; exact this
   unfold MkPost at Hrun2
   have Ht : Hid (∀ W V', RdTh W V' T → Calls Try.prog 42 #[V', .int .i64 ((IntKind.i64.wrap (a0.tmod (T.rules.length : Int) + (T.rules.length : Int))).tmod (T.rules.length : Int)), .int .i64 ((IntKind.i64.wrap (b0.tmod (T.rules.length : Int) + (T.rules.length : Int))).tmod (T.rules.length : Int))] W (Ret fun v w' => (∀ W' : World, w'.heap.size ≤ W'.heap.size → (∀ g, W.heap.size ≤ g → g < w'.heap.size → W'.heap[g]? = w'.heap[g]?) → RdTh W' v (turnTh T ka kb)) ∧ Below W.heap.size W w')) := hid fun W V' h => by
    rw [turn_wrap hka1 hka2 hn4, turn_wrap hkb1 hkb2 hn4, eka, ekb]
    exact turned_any W V' T ka kb h hwf.small hwf hka hkb
   rw [hd] at Hc
   have hn0 : (0 : Int) < T.rules.length := by omega
   clear hwf hris hX hd eka ekb
   generalize solX T l = Y at *
   go_wp2_with fail
   refine Hc.out.mono ?_
   rintro e w3 ⟨_, rfl, xa, rfl, ha, hb3⟩
   have hb13 := ext_trans hb2 hb3
   clear Hc a0' a1 a2 a3
   have Ha := hid ha; clear ha
   obtain ⟨a0', a1, a2, a3⟩ := Hbox.out w3 hb13
   have Hd3 := hid (hb13.drew)
   have Hb13 := hid hb13
   have Hd4 : Hid (Below W1.heap.size W1 (w3.alloc (.cells #[.int .i64 0, .slice none 0 0, .slice none 0 0, .slice none 0 0] 25)).drew) := hid (hb13.alloc hb13.size _).drew
   go_wp2_with fail
   refine wp_region_noPanic ?_
   refine wp_region_held_drew (S := fun W' : World => W'.cell? ⟨w.heap.size, 0, none⟩ = some (.int .i64 T.lits) ∧ W'.cell? ⟨w.heap.size, 1, none⟩ = some vF ∧ W'.cell? ⟨w.heap.size, 2, none⟩ = some (.slice AR T.rules.length cR) ∧ W'.cell? ⟨w.heap.size, 3, none⟩ = some vB) (by kernel_rfl) ⟨a0', a1, a2, a3⟩ (fun hHeld => ?_)
   refine wpAnyH_take (i := 0) (v := ?v1) rfl (by kernel_rfl) (by kernel_rfl) (by kernel_rfl) (fun _ _ _ h => h) (Or.inl ⟨by rfl, ?hy1⟩) (by assumption) ?rest1
   case hy1 => (intro w hSw; (try dsimp only at hSw); go_simp) <;> try with_reducible rfl
   try simp only [Act.put, List.setIfInBounds_toArray, List.set_cons_zero, List.set_cons_succ]
   refine wpAnyH_take (i := 1) (v := ?v2) rfl (by kernel_rfl) (by kernel_rfl) (by kernel_rfl) (fun _ _ _ h => h) (Or.inl ⟨by rfl, ?hy2⟩) (by assumption) ?rest2
   case hy2 => (intro w hSw; (try dsimp only at hSw); go_simp) <;> try with_reducible rfl
   try simp only [Act.put, List.setIfInBounds_toArray, List.set_cons_zero, List.set_cons_succ]
   refine wpAnyH_take (i := 2) (v := ?v3) rfl (by kernel_rfl) (by kernel_rfl) (by kernel_rfl) (fun _ _ _ h => h) (Or.inl ⟨by rfl, ?hy3⟩) (by assumption) ?rest3
   case hy3 => (intro w hSw; (try dsimp only at hSw); go_simp) <;> try with_reducible rfl
   try simp only [Act.put, List.setIfInBounds_toArray, List.set_cons_zero, List.set_cons_succ]
   refine wpAnyH_take (i := 3) (v := ?v4) rfl (by kernel_rfl) (by kernel_rfl) (by kernel_rfl) (fun _ _ _ h => h) (Or.inl ⟨by rfl, ?hy4⟩) (by assumption) ?rest4
   case hy4 => (intro w hSw; (try dsimp only at hSw); go_simp) <;> try with_reducible rfl
   try simp only [Act.put, List.setIfInBounds_toArray, List.set_cons_zero, List.set_cons_succ]
   refine wpAnyH_take (i := 4) (v := ?v5) rfl (by kernel_rfl) (by kernel_rfl) (by kernel_rfl) (fun _ _ _ h => h) (Or.inl ⟨by rfl, ?hy5⟩) (by assumption) ?rest5
   case hy5 => (intro w hSw; (try dsimp only at hSw); go_simp) <;> try with_reducible rfl
   try simp only [Act.put, List.setIfInBounds_toArray, List.set_cons_zero, List.set_cons_succ]
   refine wpAnyH_take (i := 5) (v := ?v6) rfl (by kernel_rfl) (by kernel_rfl) (by kernel_rfl) (fun _ _ _ h => h) (Or.inl ⟨by rfl, ?hy6⟩) (by assumption) ?rest6
   case hy6 => (intro w hSw; (try dsimp only at hSw); go_simp) <;> try with_reducible rfl
   try simp only [Act.put, List.setIfInBounds_toArray, List.set_cons_zero, List.set_cons_succ]
   refine wpAnyH_take (i := 6) (v := ?v7) rfl (by kernel_rfl) (by kernel_rfl) (by kernel_rfl) (fun _ _ _ h => h) (Or.inl ⟨by rfl, ?hy7⟩) (by assumption) ?rest7
   case hy7 => (intro w hSw; (try dsimp only at hSw); go_simp) <;> try with_reducible rfl
   try simp only [Act.put, List.setIfInBounds_toArray, List.set_cons_zero, List.set_cons_succ]
   refine wpAnyH_take (i := 7) (v := ?v8) rfl (by kernel_rfl) (by kernel_rfl) (by kernel_rfl) (fun _ _ _ h => h) (Or.inl ⟨by rfl, ?hy8⟩) (by assumption) ?rest8
   case hy8 => (intro w hSw; (try dsimp only at hSw); go_simp) <;> try with_reducible rfl
   try simp only [Act.put, List.setIfInBounds_toArray, List.set_cons_zero, List.set_cons_succ]
   refine wpAnyH_take (i := 8) (v := ?v9) rfl (by kernel_rfl) (by kernel_rfl) (by kernel_rfl) (fun _ _ _ h => h) (Or.inl ⟨by rfl, ?hy9⟩) (by assumption) ?rest9
   case hy9 => (intro w hSw; (try dsimp only at hSw); go_simp) <;> try with_reducible rfl
   try simp only [Act.put, List.setIfInBounds_toArray, List.set_cons_zero, List.set_cons_succ]
   refine wpAnyH_take (i := 9) (v := ?v10) rfl (by kernel_rfl) (by kernel_rfl) (by kernel_rfl) (fun _ _ _ h => h) (Or.inl ⟨by rfl, ?hy10⟩) (by assumption) ?rest10
   case hy10 => (intro w hSw; (try dsimp only at hSw); go_simp) <;> try with_reducible rfl
   try simp only [Act.put, List.setIfInBounds_toArray, List.set_cons_zero, List.set_cons_succ]
   refine wpAnyH_take (i := 10) (v := ?v11) rfl (by kernel_rfl) (by kernel_rfl) (by kernel_rfl) (fun _ _ _ h => h) (Or.inl ⟨by rfl, ?hy11⟩) (by assumption) ?rest11
   case hy11 => (intro w hSw; (try dsimp only at hSw); go_simp) <;> try with_reducible rfl
   try simp only [Act.put, List.setIfInBounds_toArray, List.set_cons_zero, List.set_cons_succ]
   refine wpAnyH_take (i := 11) (v := ?v12) rfl (by kernel_rfl) (by kernel_rfl) (by kernel_rfl) (fun _ _ _ h => h) (Or.inl ⟨by rfl, ?hy12⟩) (by assumption) ?rest12
   case hy12 => (intro w hSw; (try dsimp only at hSw); go_simp) <;> try with_reducible rfl
   try simp only [Act.put, List.setIfInBounds_toArray, List.set_cons_zero, List.set_cons_succ]
   refine wpAnyH_take (i := 12) (v := ?v13) rfl (by kernel_rfl) (by kernel_rfl) (by kernel_rfl) (fun _ _ _ h => h) (Or.inl ⟨by rfl, ?hy13⟩) (by assumption) ?rest13
   case hy13 => (intro w hSw; (try dsimp only at hSw); go_simp) <;> try with_reducible rfl
   try simp only [Act.put, List.setIfInBounds_toArray, List.set_cons_zero, List.set_cons_succ]
   refine wpAnyH_take (i := 13) (v := ?v14) rfl (by kernel_rfl) (by kernel_rfl) (by kernel_rfl) (fun _ _ _ h => h) (Or.inl ⟨by rfl, ?hy14⟩) (by assumption) ?rest14
   case hy14 => (intro w hSw; (try dsimp only at hSw); go_simp) <;> try with_reducible rfl
   try simp only [Act.put, List.setIfInBounds_toArray, List.set_cons_zero, List.set_cons_succ]
   refine wpAnyH_take (i := 14) (v := ?v15) rfl (by kernel_rfl) (by kernel_rfl) (by kernel_rfl) (fun _ _ _ h => h) (Or.inl ⟨by rfl, ?hy15⟩) (by assumption) ?rest15
   case hy15 => (intro w hSw; (try dsimp only at hSw); go_simp) <;> try with_reducible rfl
   try simp only [Act.put, List.setIfInBounds_toArray, List.set_cons_zero, List.set_cons_succ]
   refine wpAnyH_ready (rs := [15, 16]) (by kernel_rfl) (by simp) ?_
   refine AllReadyH.cons rfl (fun K9 hK9 => ?_) (AllReadyH.cons rfl (fun K9 hK9 => ?_) AllReadyH.nil)
   ·go_simp
    refine (Ht.out w3.drew _ (Hrd.out w3.drew Hd3.out).1).mono ?_
    rintro e w4 ⟨u, rfl, hu, hb4⟩
    have hu0 := hu w4 (Nat.le_refl _) (fun _ _ _ => rfl)
    obtain ⟨uF, uR, uB, rfl, ⟨F1, F2, rfl, _⟩, ⟨R1, R2, rfl, _⟩, ⟨B1, B2, rfl, _⟩⟩ := hu0
    have hS7 := Hbox.out w4 (ext_trans Hd3.out hb4)
    go_simp
    refine hK9.out _ _ hS7 (fun hHeld => ?_)
    clear hK9 K9
    try simp only [Act.put, List.setIfInBounds_toArray, List.set_cons_zero, List.set_cons_succ]
    have hz := boxA (W1 := w3) (v0 := .int .i64 (turnTh T ka kb).lits) (v1 := .slice F1 (turnTh T ka kb).foes.length F2) (v2 := .slice R1 (turnTh T ka kb).rules.length R2) (v3 := .slice B1 (turnTh T ka kb).beats.length B2) (ext_refl w3).drew (Nat.le_refl _) hu hb4
    simp only [put4, nilTh] at hz
    obtain ⟨q0, q1, q2, q3, p0, p1, p2, p3⟩ := free4 (heap_alloc_new w4 (.cells #[.int .i64 0, .slice none 0 0, .slice none 0 0, .slice none 0 0] 25))
    refine wpAnyH_ready (rs := [16]) (by kernel_rfl) (by simp) ?_
    refine AllReadyH.cons rfl (fun K9 hK9 => ?_) AllReadyH.nil
    go_simp
    refine hK9.out _ _ (Hbox.out _ (ext_trans Hb13.out hz.1)) (fun hHeld => ?_)
    clear hK9 K9
    try simp only [Act.put, List.setIfInBounds_toArray, List.set_cons_zero, List.set_cons_succ]
    refine wpAnyH_ready (rs := [17]) (by kernel_rfl) (by simp) ?_
    refine AllReadyH.cons rfl (fun K9 hK9 => ?_) AllReadyH.nil
    go_simp
    refine hK9.out _ _ (Hbox.out _ (ext_trans Hb13.out hz.2.1)) (fun hHeld => ?_)
    clear hK9 K9
    try simp only [Act.put, List.setIfInBounds_toArray, List.set_cons_zero, List.set_cons_succ]
    refine wpAnyH_done (by kernel_rfl) (NoPanic.normal ?_) _
    obtain ⟨_, _, hz0, hrd, o0, o1, o2, o3⟩ := hz
    have hz9 := ext_trans Hb13.out hz0
    have hc9 := hid (Hrun2.out _ _ _ hrd (Hrd.out _ hz9).2)
    have Ha9 := hid (Ha.out.ext (scR_mono _) hz0)
    have Hz9 := hid hz9
    clear hu hb4 hS7 hz0 hz9 hrd q0 q1 q2 q3 p0 p1 p2 p3
    go_wp2_with fail
    refine hc9.out.mono ?_
    rintro e w5 ⟨_, rfl, xb, rfl, hb, hb5⟩
    have Hs9 := hid (sameMx w5 xa xb Y (Ha9.out.ext (scR_mono _) hb5) hb)
    have Hb15 := hid (ext_trans Hz9.out hb5)
    clear hb hb5 hc9 o0 o1 o2 o3
    go_wp2_with (go_at_call 23; refine Hs9.out.mono ?_; rintro e w6 ⟨_, rfl, rfl, hb6⟩)
    go_ret
    exact Fin HQ ⟨rfl, ext_trans Hb1.out (ext_trans Hb15.out hb6)⟩
   ·go_simp
    refine hK9.out _ _ (Hbox.out _ Hd4.out) (fun hHeld => ?_)
    clear hK9 K9
    try simp only [Act.put, List.setIfInBounds_toArray, List.set_cons_zero, List.set_cons_succ]
    refine wpAnyH_ready (rs := [15]) (by kernel_rfl) (by simp) ?_
    refine AllReadyH.cons rfl (fun K9 hK9 => ?_) AllReadyH.nil
    go_simp
    refine (Ht.out (w3.alloc (.cells #[.int .i64 0, .slice none 0 0, .slice none 0 0, .slice none 0 0] 25)).drew _ (Hrd.out (w3.alloc (.cells #[.int .i64 0, .slice none 0 0, .slice none 0 0, .slice none 0 0] 25)).drew Hd4.out).1).mono ?_
    rintro e w4 ⟨u, rfl, hu, hb4⟩
    have hu0 := hu w4 (Nat.le_refl _) (fun _ _ _ => rfl)
    obtain ⟨uF, uR, uB, rfl, ⟨F1, F2, rfl, _⟩, ⟨R1, R2, rfl, _⟩, ⟨B1, B2, rfl, _⟩⟩ := hu0
    have hS7 := Hbox.out w4 (ext_trans Hd4.out hb4)
    go_simp
    refine hK9.out _ _ hS7 (fun hHeld => ?_)
    clear hK9 K9
    try simp only [Act.put, List.setIfInBounds_toArray, List.set_cons_zero, List.set_cons_succ]
    have hz := boxB (W1 := w3) (v0 := .int .i64 (turnTh T ka kb).lits) (v1 := .slice F1 (turnTh T ka kb).foes.length F2) (v2 := .slice R1 (turnTh T ka kb).rules.length R2) (v3 := .slice B1 (turnTh T ka kb).beats.length B2) (ext_alloc _ _).drew (Nat.le_refl _) hu hb4
    simp only [put4, nilTh] at hz
    obtain ⟨q0, q1, q2, q3, p0, p1, p2, p3⟩ := free4 ((hb4.block w3.heap.size (by simp [World.drew])).trans (heap_alloc_new w3 (.cells #[.int .i64 0, .slice none 0 0, .slice none 0 0, .slice none 0 0] 25)))
    refine wpAnyH_ready (rs := [17]) (by kernel_rfl) (by simp) ?_
    refine AllReadyH.cons rfl (fun K9 hK9 => ?_) AllReadyH.nil
    go_simp
    refine hK9.out _ _ (Hbox.out _ (ext_trans Hb13.out hz.1)) (fun hHeld => ?_)
    clear hK9 K9
    try simp only [Act.put, List.setIfInBounds_toArray, List.set_cons_zero, List.set_cons_succ]
    refine wpAnyH_done (by kernel_rfl) (NoPanic.normal ?_) _
    obtain ⟨_, hz0, hrd, o0, o1, o2, o3⟩ := hz
    have hz9 := ext_trans Hb13.out hz0
    have hc9 := hid (Hrun2.out _ _ _ hrd (Hrd.out _ hz9).2)
    have Ha9 := hid (Ha.out.ext (scR_mono _) hz0)
    have Hz9 := hid hz9
    clear hu hb4 hS7 hz0 hz9 hrd q0 q1 q2 q3 p0 p1 p2 p3
    go_wp2_with fail
    refine hc9.out.mono ?_
    rintro e w5 ⟨_, rfl, xb, rfl, hb, hb5⟩
    have Hs9 := hid (sameMx w5 xa xb Y (Ha9.out.ext (scR_mono _) hb5) hb)
    have Hb15 := hid (ext_trans Hz9.out hb5)
    clear hb hb5 hc9 o0 o1 o2 o3
    go_wp2_with (go_at_call 23; refine Hs9.out.mono ?_; rintro e w6 ⟨_, rfl, rfl, hb6⟩)
    go_ret
    exact Fin HQ ⟨rfl, ext_trans Hb1.out (ext_trans Hb15.out hb6)⟩
 ·generalize givenErr T l = d at *
  generalize solX T l = Y at *
  go_wp2_with fail
  refine Hc.out.mono ?_
  rintro e w3 ⟨_, rfl, xa, rfl, ha, hb3⟩
  have hb13 := ext_trans hb2 hb3
  clear Hc a0' a1 a2 a3 ha
  obtain ⟨a0', a1, a2, a3⟩ := Hbox.out w3 hb13
  go_wp2_with fail
  go_ret
  exact Fin HQ ⟨rfl, ext_trans Hb1.out hb13⟩
end Go.Proofs.Lx
