/- Parts of the proof: Xk, Xl, Xm, Wp. Plain: what is not in the cone of the facts that differ has the same marks. -/
import Derived.Test.YtalhpldbhogadaaU27
import Derived.Test.YtalhpldbhogadaaU29
import Derived.Test.YtalhpldbhogadaaU32
import Derived.Test.YtalhpldbhogadaaU5
import Derived.Test.YtalhpldbhogadaaU25
namespace Go.Proofs.Lx
open Go Go.RowKit Go.Proofs.Tj
set_option linter.unusedSimpArgs false
set_option linter.unusedVariables false
/-- The cone of some literals: with a literal its foes and the heads of the rules in whose bodies it stands. -/
inductive InCone (T : Th) (o : List Int) : Nat → Prop
 | base {x : Nat} : (x : Int) ∈ o → InCone T o x
 | foe {q f : Nat} : InCone T o q → (f : Int) ∈ row T.foes (q : Int) → InCone T o f
 | head {i x h : Nat} : i < T.rules.length → (x : Int) ∈ (T.rules.getD i default).body → InCone T o x → (T.rules.getD i default).head = (h : Int) → InCone T o h
open Classical in
/-- The cone as a list. -/
noncomputable def coneL (T : Th) (o : List Int) : List Int := pickL (fun q => decide (InCone T o q)) T.foes.length
theorem ris_ge {l : List Int} (hp : l.Pairwise (· < ·)) (h0 : ∀ i (hi : i < l.length), 0 ≤ l[i]) : ∀ i (hi : i < l.length), (i : Int) ≤ l[i]
 | 0, hi => by simpa using h0 0 hi
 | i + 1, hi => by
  have h1 := List.pairwise_iff_getElem.1 hp i (i + 1) (by omega) hi (by omega)
  have h2 := ris_ge hp h0 i (by omega)
  omega
theorem ris_len {l : List Int} {n : Nat} (h : risB l (n : Int) = true) : l.length ≤ n := by
 obtain ⟨h1, h2⟩ := risB_spec h
 by_cases hl : l.length = 0
 ·omega
 ·have := ris_ge h2 (fun i hi => (h1 i hi).1) (l.length - 1) (by omega)
  have := (h1 (l.length - 1) (by omega)).2
  omega
theorem any_cong {α : Type} {l : List α} {f g : α → Bool} (h : ∀ x ∈ l, f x = g x) : l.any f = l.any g := by
 rw [Bool.eq_iff_iff, List.any_eq_true, List.any_eq_true]
 exact exists_congr fun x => and_congr_right fun hx => by rw [h x hx]
section
variable {T : Th} {o : List Int} {M M' : List Nat} {F F' : List Bool}
theorem cone_body (hwf : WfTh T) (hM : ∀ x : Nat, x < T.foes.length → ¬ InCone T o x → M.getD x 0 = M'.getD x 0) {p : Nat} (hp : p < T.foes.length) (hn : ¬ InCone T o p) {r : Int}
  (hr : r ∈ row (rulesRows T.rules T.foes.length T.rules.length) (p : Int)) (k : Nat) : wholeB T M k r = wholeB T M' k r ∧ someB T M k r = someB T M' k r := by
 obtain ⟨i, hi, rfl, hh⟩ := (mem_heads hp).1 hr
 have hok := hwf.ru _ (List.getElem_mem hi)
 simp only [ruleOk, Bool.and_eq_true, decide_eq_true_eq] at hok
 have hx : ∀ x ∈ bodyAt T (i : Int), hasM M k x = hasM M' k x := by
  intro x hx
  have e : bodyAt T (i : Int) = T.rules[i].body := by simp [bodyAt, hi]
  rw [e] at hx
  obtain ⟨j, hj, rfl⟩ := List.getElem_of_mem hx
  have hb := (risB_spec hok.2).1 j hj
  have hfl := hwf.fl
  unfold hasM
  rw [hM _ (by omega) fun hc => hn (.head hi (x := (T.rules[i].body[j]).toNat) ?_ hc hh)]
  rw [show ((T.rules[i].body[j].toNat : Nat) : Int) = T.rules[i].body[j] by omega]
  have e2 : T.rules.getD i default = T.rules[i] := by simp [hi]
  rw [e2]; exact hx
 refine ⟨?_, ?_⟩
 ·unfold wholeB
  rw [any_cong fun x h => by rw [hx x h]]
 ·exact any_cong fun x h => hx x h
theorem cone_cnd (hwf : WfTh T) (hM : ∀ x : Nat, x < T.foes.length → ¬ InCone T o x → M.getD x 0 = M'.getD x 0) (hF : ∀ x : Nat, x < T.foes.length → ¬ InCone T o x → F.getD x false = F'.getD x false) (k : Nat) {q : Nat} (hq : q < T.foes.length) (hn : ¬ InCone T o q) :
  cnd T F (rulesRows T.rules T.foes.length T.rules.length) M k (q : Int) = cnd T F' (rulesRows T.rules T.foes.length T.rules.length) M' k (q : Int) := by
 have hfoe : ∀ f ∈ row T.foes (q : Int), ∃ j : Nat, j < T.foes.length ∧ f = j ∧ ¬ InCone T o j := fun f hf => by
  rw [row_nat _ _ hq] at hf
  obtain ⟨j, h1, h2, _, h4⟩ := foe_in hwf hq hf
  exact ⟨j, h1, h2, fun hc => hn (.foe hc h4)⟩
 have hq1 : ∀ r ∈ row (rulesRows T.rules T.foes.length T.rules.length) (q : Int), ∀ k, wholeB T M k r = wholeB T M' k r ∧ someB T M k r = someB T M' k r := fun r hr k => cone_body hwf hM hq hn hr k
 have hf1 : ∀ f ∈ row T.foes (q : Int), ∀ r ∈ row (rulesRows T.rules T.foes.length T.rules.length) f, ∀ k, wholeB T M k r = wholeB T M' k r ∧ someB T M k r = someB T M' k r := fun f hf r hr k => by
  obtain ⟨j, hj, rfl, hjn⟩ := hfoe f hf
  exact cone_body hwf hM hj hjn hr k
 have hqm : ∀ k, hasM M k (q : Int) = hasM M' k (q : Int) := fun k => by unfold hasM; rw [Int.toNat_natCast, hM q hq hn]
 have hfm : ∀ f ∈ row T.foes (q : Int), ∀ k, hasM M k f = hasM M' k f := fun f hf k => by
  obtain ⟨j, hj, rfl, hjn⟩ := hfoe f hf
  unfold hasM; rw [Int.toNat_natCast, hM j hj hjn]
 have hqf : F.getD (q : Int).toNat false = F'.getD (q : Int).toNat false := by rw [Int.toNat_natCast]; exact hF q hq hn
 match k with
 | 0 =>
  rw [Bool.eq_iff_iff, plusD_iff, plusD_iff, hqf]
  exact or_congr Iff.rfl (exists_congr fun r => and_congr_right fun hr => by rw [(hq1 r hr 0).1])
 | 1 =>
  rw [Bool.eq_iff_iff, minusD_iff, minusD_iff, hqf]
  exact and_congr Iff.rfl (forall₂_congr fun r hr => by rw [(hq1 r hr 1).2])
 | 2 =>
  rw [Bool.eq_iff_iff, plusP_iff, plusP_iff, hqm 0]
  refine or_congr Iff.rfl (and_congr (exists_congr fun r => and_congr_right fun hr => by rw [(hq1 r hr 2).1]) (and_congr (forall₂_congr fun f hf => by rw [hfm f hf 1]) (forall₂_congr fun f hf => forall₂_congr fun s hs => ?_)))
  rw [(hf1 f hf s hs 3).2]
  exact or_congr Iff.rfl (exists_congr fun r => and_congr_right fun hr => by rw [(hq1 r hr 2).1])
 | k + 3 =>
  show cnd T F _ M 3 (q : Int) = cnd T F' _ M' 3 (q : Int)
  rw [Bool.eq_iff_iff, minusP_iff, minusP_iff, hqm 1]
  refine and_congr Iff.rfl (or_congr (forall₂_congr fun r hr => by rw [(hq1 r hr 3).2]) (or_congr (exists_congr fun f => and_congr_right fun hf => by rw [hfm f hf 0]) (exists_congr fun f => and_congr_right fun hf => exists_congr fun s => and_congr_right fun hs => ?_)))
  rw [(hf1 f hf s hs 2).1]
  exact and_congr Iff.rfl (forall₂_congr fun r hr => by rw [(hq1 r hr 3).2])
theorem cone_orM {C C' : Nat → Bool} (h : ∀ k, C k = C' k) (x : Nat) : ∀ n, orM C x n = orM C' x n
 | 0 => rfl
 | n + 1 => by simp only [orM, cone_orM h x n, h n]
theorem cone_step (hwf : WfTh T) {a b : List Int} (hodd : ∀ x : Nat, x < T.foes.length → ¬ InCone T o x → ((x : Int) ∈ a ↔ (x : Int) ∈ b)) (hl : M.length = T.foes.length) (hl' : M'.length = T.foes.length)
  (hM : ∀ x : Nat, x < T.foes.length → ¬ InCone T o x → M.getD x 0 = M'.getD x 0) {x : Nat} (hx : x < T.foes.length) (hn : ¬ InCone T o x) : (stepM T a M).getD x 0 = (stepM T b M').getD x 0 := by
 unfold stepM roundM rnd
 simp only [List.getD_eq_getElem?_getD, List.getElem?_map]
 rw [List.getElem?_range (by omega), List.getElem?_range (by omega)]
 simp only [Option.map_some, Option.getD_some]
 have h1 := hM x hx hn
 simp only [List.getD_eq_getElem?_getD] at h1
 rw [h1]
 refine cone_orM (fun k => cone_cnd hwf hM (fun y hy hny => ?_) k hx hn) _ _
 simp only [factsB, List.getD_eq_getElem?_getD, List.getElem?_map]
 rw [List.getElem?_range hy]
 simp only [Option.map_some, Option.getD_some]
 rw [Bool.eq_iff_iff, memB_true, memB_true]
 exact hodd y hy hny
theorem cone_solve (hwf : WfTh T) {a b : List Int} (hodd : ∀ x : Nat, x < T.foes.length → ¬ InCone T o x → ((x : Int) ∈ a ↔ (x : Int) ∈ b)) {x : Nat} (hx : x < T.foes.length) (hn : ¬ InCone T o x) :
  (solveM T a).getD x 0 = (solveM T b).getD x 0 := by
 have h : ∀ k, ∀ y : Nat, y < T.foes.length → ¬ InCone T o y → (itM (stepM T a) k (startM T)).getD y 0 = (itM (stepM T b) k (startM T)).getD y 0 := by
  intro k
  induction k with
  | zero => intro y _ _; rfl
  | succ k ih => intro y hy hny; exact cone_step hwf hodd (it_length T a k) (it_length T b k) ih hy hny
 exact h _ x hx hn
end
end Go.Proofs.Lx

namespace Go.Proofs.Lx
open Go Go.RowKit Go.Proofs.Tj
set_option linter.unusedSimpArgs false
set_option linter.unusedVariables false
/-- A number joins a list if it isn't there yet. -/
def add1 (D : List Int) (x : Int) : List Int := if memB D x = true then D else D ++ [x]
def addAll (D l : List Int) : List Int := l.foldl add1 D
theorem addAll_succ {D l : List Int} {k : Nat} (hk : k < l.length) : addAll D (l.take (k + 1)) = add1 (addAll D (l.take k)) l[k] := by
 rw [addAll, List.take_succ_eq_append_getElem hk, List.foldl_append]; rfl
theorem mem_add1 {D : List Int} {x y : Int} : y ∈ add1 D x ↔ y ∈ D ∨ y = x := by
 unfold add1
 by_cases h : memB D x = true
 ·rw [if_pos h]
  constructor
  ·exact .inl
  ·rintro (h1 | rfl)
   ·exact h1
   ·exact memB_true.1 h
 ·rw [if_neg h, List.mem_append, List.mem_singleton]
theorem mem_addAll {x : Int} : ∀ {l D : List Int}, x ∈ addAll D l ↔ x ∈ D ∨ x ∈ l
 | [], D => by simp [addAll]
 | y :: l, D => by
  have h := mem_addAll (x := x) (l := l) (D := add1 D y)
  rw [mem_add1] at h
  rw [List.mem_cons]
  show x ∈ addAll (add1 D y) l ↔ _
  rw [h, or_assoc]
theorem addAll_pre : ∀ (l D : List Int), ∃ E, addAll D l = D ++ E
 | [], D => ⟨[], by simp [addAll]⟩
 | y :: l, D => by
  obtain ⟨E, h⟩ := addAll_pre l (add1 D y)
  show ∃ E, addAll (add1 D y) l = D ++ E
  rw [h]
  unfold add1
  by_cases hm : memB D y = true
  ·rw [if_pos hm]; exact ⟨E, rfl⟩
  ·rw [if_neg hm]; exact ⟨y :: E, by simp⟩
structure DOk (n : Nat) (D : List Int) : Prop where
 nd : D.Nodup
 rg : ∀ x ∈ D, 0 ≤ x ∧ x < n
theorem DOk.nil (n : Nat) : DOk n [] := ⟨List.nodup_nil, by simp⟩
theorem DOk.le {n : Nat} {D : List Int} (h : DOk n D) : D.length ≤ n := by
 have h1 := h.nd.length_le_of_subset (l₂ := (List.range n).map fun (x : Nat) => (x : Int)) fun x hx => by
  obtain ⟨h1, h2⟩ := h.rg x hx
  exact List.mem_map.2 ⟨x.toNat, List.mem_range.2 (by omega), by omega⟩
 simpa using h1
theorem DOk.add1 {n : Nat} {D : List Int} (h : DOk n D) {x : Int} (hx : 0 ≤ x ∧ x < n) : DOk n (add1 D x) := by
 unfold Lx.add1
 by_cases hm : memB D x = true
 ·rw [if_pos hm]; exact h
 ·rw [if_neg hm]
  refine ⟨List.nodup_append.2 ⟨h.nd, by simp, fun a ha b hb => ?_⟩, fun y hy => ?_⟩
  ·rw [List.mem_singleton] at hb
   subst hb
   rintro rfl
   exact hm (memB_true.2 ha)
  ·rw [List.mem_append, List.mem_singleton] at hy
   rcases hy with hy | rfl
   ·exact h.rg y hy
   ·exact hx
theorem DOk.addAll {n : Nat} : ∀ {l D : List Int}, DOk n D → (∀ x ∈ l, 0 ≤ x ∧ x < n) → DOk n (addAll D l)
 | [], D, h, _ => h
 | y :: l, D, h, hl => DOk.addAll (l := l) (h.add1 (hl y (by simp))) fun x hx => hl x (by simp [hx])
theorem factsB_push {n : Nat} {D : List Int} {q : Nat} : factsB n (D ++ [(q : Int)]) = (factsB n D).set q true := by
 have h := factsUpto_succ n D.length (D ++ [(q : Int)]) (by simp) (by simp)
 rw [factsUpto, factsUpto, List.take_of_length_le (by simp), List.take_left] at h
 simpa using h
/-- The closure's state: what is marked, what is to do. -/
structure CP (w : World) (g n : Nat) (D : List Int) : Prop where
 hin : w.heap[g + 1]? = some (.cells #[.slice (some ⟨g, 0, none⟩) n n] 86 (0, 0))
 htd : ∃ v, w.heap[g + 2]? = some (.cells #[v] 26 (0, 0)) ∧ w.ownsRow (g + 3) 3 1 v D.length (intsV D)
 arr : Arr Value.bool 4 w g (factsB n D)
 sz : g + 3 ≤ w.heap.size
section
variable {w w' : World} {g n : Nat} {D : List Int}
theorem CP.ext (h : CP w g n D) (hb : Below w.heap.size w w') : CP w' g n D := by
 obtain ⟨v, h1, h2⟩ := h.htd
 have := h.sz
 exact ⟨(hb.block _ (lt_of_block h.hin)).trans h.hin, ⟨v, (hb.block _ (lt_of_block h1)).trans h1, h2.kept (row := none) ⟨hb.os, hb.tape, hb.output, hb.size, fun k hk _ => hb.block k hk⟩ (by cases v.ownBlock <;> simp)⟩, h.arr.ext hb, by have := hb.size; omega⟩
theorem CP.push (h : CP w g n D) {v v' : Value} (ho : w.ownsRow (g + 3) 3 1 v D.length (intsV D)) (ht : w.heap[g + 2]? = some (.cells #[v] 26 (0, 0))) {q : Nat} {A : Obj} (hgr : ((w.setCell ⟨g, q, none⟩ (.bool true)).alloc A).grownBy w' v.ownBlock)
  (ho' : w'.ownsRow (g + 3) 3 1 v' (D.length + 1) (intsV D ++ [.int .i64 (q : Int)])) : CP (w'.setCell ⟨g + 2, 0, none⟩ v') g n (D ++ [(q : Int)]) ∧ Below g w (w'.setCell ⟨g + 2, 0, none⟩ v') := by
 have hs := h.sz
 have hsz : w.heap.size + 1 ≤ w'.heap.size := by simpa using hgr.size
 have hk : ∀ k, k < w.heap.size → (∀ k2, v.ownBlock = some k2 → k ≠ k2) → w'.heap[k]? = (w.setCell ⟨g, q, none⟩ (.bool true)).heap[k]? := fun k hk1 hk2 => by
  rw [hgr.block k (by simp; omega) (fun e => hk2 k e.symm rfl)]
  exact Below.heap_alloc _ _ _ (by simpa using hk1)
 have hlo : ∀ k, k < g + 3 → w'.heap[k]? = (w.setCell ⟨g, q, none⟩ (.bool true)).heap[k]? := fun k hk1 => hk k (by omega) fun k2 e => by have := (ho.lt k2 e).1; omega
 refine ⟨⟨?_, ⟨v', ?_, ?_⟩, ?_, by simp; omega⟩, ?_⟩
 ·rw [heap_setCell_other _ _ _ _ (by dsimp only; omega), hlo _ (by omega), heap_setCell_other _ _ _ _ (by dsimp only; omega)]
  exact h.hin
 ·rw [heap_setCell_same w' (g + 2) 0 #[v] 26 v' ((hlo _ (by omega)).trans ((heap_setCell_other _ _ _ _ (by dsimp only; omega)).trans ht))]
  rfl
 ·rw [List.length_append, List.length_singleton]
  have e : intsV (D ++ [(q : Int)]) = intsV D ++ [.int .i64 (q : Int)] := by simp [intsV]
  rw [e]
  exact ownsRow_setCell_other ho' (fun e => by have := (ho'.lt _ e).1; dsimp only at this; omega) _
 ·rw [factsB_push]
  refine Arr.other ?_ (by dsimp only; omega) _
  exact (hlo g (by omega)).trans (h.arr.set q true)
 ·refine Below.setCell (show Below g w w' from ⟨hgr.os, hgr.tape, hgr.output, by omega, fun k hk1 => ?_⟩) (by show g ≤ g + 2; omega) _
  rw [hlo k (by omega), heap_setCell_other _ _ _ _ (by dsimp only; omega)]
end
set_option maxHeartbeats 1600000 in
theorem put_any (w : World) (g n : Nat) (D L : List Int) (v : Value) (h : CP w g n D) (hD : DOk n D) (hn : n ≤ 4096) (hL : ∀ x ∈ L, 0 ≤ x ∧ x < n) (hl : ∀ W, Below g w W → RdI W v L) :
  Calls Try.prog 82 #[v, .pointer (some ⟨g + 1, 0, none⟩), .pointer (some ⟨g + 2, 0, none⟩)] w (Ret fun r w' => r = .tuple #[] ∧ CP w' g n (addAll D L) ∧ Below g w w') := by
 have Hl := hid hl
 have HL := hid hL
 have HD := hid hD
 obtain ⟨A, c, rfl⟩ : ∃ A c, v = .slice A L.length c := by obtain ⟨A, c, e, _⟩ := hl w (Below.refl _ _); exact ⟨A, c, e⟩
 have hLn : L.length ≤ 140737488355328 := by obtain ⟨_, _, _, _, h9, _⟩ := hl w (Below.refl _ _); exact h9
 obtain ⟨i0, hi, hz0, hz1, hz2⟩ := info_parts infoI
 have Hh := hid h
 clear hl hL hD h
 refine post_gen fun Q HQ => ?_
 go_enter Try.func82, Try.ntmps82
 go_wp2_with fail
 go_loopw [8] (fun v8 wr => ∃ k : Nat, k ≤ L.length ∧ v8 = .int .i64 (k : Int) ∧ CP wr g n (addAll D (L.take k)) ∧ Below g w wr) (fun v8 _ => L.length - (intOf v8).toNat)
 case atStart => exact ⟨0, Nat.zero_le _, rfl, Hh.out, Below.refl _ _⟩
 case round =>
  clear Hh
  obtain ⟨k, hk, rfl, hcp, hbl⟩ := hrel
  by_cases hkl : k < L.length
  ·obtain ⟨A', c', e', _, _, hr⟩ := Hl.out wr hbl
   obtain rfl : A = A' := by injection e'
   obtain ⟨ad, rfl, hcell⟩ := hr.at1 hkl
   clear e' hr
   obtain ⟨hx0, hxn⟩ := HL.out _ (List.getElem_mem hkl)
   obtain ⟨q, hq⟩ := Int.eq_ofNat_of_zero_le hx0
   have hqn : q < n := by omega
   have hqn2 : (q : Int) < (n : Int) := by omega
   have hs := addAll_succ (D := D) hkl
   have Hok : Hid (DOk n (addAll D (L.take k))) := hid (HD.out.addAll fun x hx => HL.out x (List.mem_of_mem_take hx))
   rw [hq] at hcell hs
   unfold add1 at hs
   clear hx0 hxn
   generalize addAll D (L.take k) = E at *
   have c1 : wr.cell? ⟨g + 1, 0, none⟩ = some (.slice (some ⟨g, 0, none⟩) n n) := by rw [cell_of_row wr (g + 1) 0 _ _ _ hcp.hin]; rfl
   have hlen : (factsB n E).length = n := factsB_length _ _
   have hcq := hcp.arr.cell (i := q) (by rw [hlen]; exact hqn)
   have hcq2 : (factsB n E)[q]'(by rw [hlen]; exact hqn) = memB E (q : Int) := by simp [factsB]
   rw [hcq2] at hcq
   clear hcq2
   cases hm : memB E (q : Int) with
   | true =>
    rw [hm] at hcq
    rw [if_pos hm] at hs
    have HS := hid hs
    have Hcp := hid hcp
    clear hs hm hcp
    go_wp2_with fail
    go_roundw
    case rel => exact ⟨k + 1, by omega, by go_num, by rw [HS.out]; exact Hcp.out, hbl⟩
    case measure => simp [intOf]; omega
   | false =>
    rw [hm] at hcq
    rw [if_neg (by rw [hm]; simp)] at hs
    have HS := hid hs
    obtain ⟨v, ht, ho⟩ := hcp.htd
    have hfr := hcp.arr.free q
    have hle := Hok.out.le
    have hsz := hcp.sz
    have Hcp := hid hcp
    have ho2 := ownsRow_setCell_other (u := .bool true) (a := ⟨g, q, none⟩) ho (fun e => by have := (ho.lt _ e).1; dsimp only at this; omega)
    have c2 : (wr.setCell ⟨g, q, none⟩ (.bool true)).cell? ⟨g + 2, 0, none⟩ = some v := by
     rw [cell_of_row _ (g + 2) 0 _ _ _ ((heap_setCell_other wr _ _ _ (by dsimp only; omega)).trans ht)]; rfl
    have c3 : (wr.setCell ⟨g, q, none⟩ (.bool true)).heap.size = wr.heap.size := by simp
    have Ho := hid ho
    have Ht := hid ht
    have Haft : Hid (∀ (cA : Obj) (w' : World), ((wr.setCell ⟨g, q, none⟩ (.bool true)).alloc cA).grownBy w' v.ownBlock → w'.frozen? ⟨g + 2, 0, none⟩ = false ∧ w'.cell? ⟨g + 2, 0, none⟩ = some v) := by
     refine hid fun cA w' hg => ?_
     have h9 : w'.heap[g + 2]? = some (.cells #[v] 26 (0, 0)) := by
      rw [hg.block (g + 2) (by simp; omega) (fun e => by have := (Ho.out.lt _ e.symm).1; omega), Below.heap_alloc _ _ _ (by simp; omega), heap_setCell_other _ _ _ _ (by dsimp only; omega)]
      exact Ht.out
     exact ⟨frozen_of_row w' (g + 2) 0 _ _ h9, by rw [cell_of_row w' (g + 2) 0 _ _ _ h9]; rfl⟩
    clear hs hm hcp ho ht
    go_wp2_with (at_builtin; refine wpList_append_own_at _ rfl _ _ 26 rfl (g + 3) 3 i0 (.int .i64 0) 1 8 Try.underlying26 hi hz0 hz1 hz2 rfl (by decide) v E.length _ rfl (ho2.alloc _) ⟨wr.heap.size, 0, none⟩ 1 1 [.int .i64 (q : Int)] rfl rfl (by rw [← c3]; exact cell_one_new _ _ _) (fun u hu => by simp at hu; subst hu; rfl) (by unfold maxLen; omega) (by omega) (by simp; omega) ?_; intro v' w' hown hgrow hnil hat; obtain ⟨gn, cn, rfl⟩ := own_form hown; obtain ⟨hqF, hq2⟩ := Haft.out _ w' hgrow)
    go_roundw
    case rel =>
     obtain ⟨h8, h9⟩ := Hcp.out.push Ho.out Ht.out hgrow hown
     exact ⟨k + 1, by omega, by go_num, by rw [HS.out]; exact h8, Below.trans hbl h9⟩
    case measure => simp [intOf]; omega
  ·obtain rfl : k = L.length := by omega
   rw [List.take_length] at hcp
   have Hcp := hid hcp
   clear hcp
   go_wp2_with fail
   (try simp only [Exit.inBlock, Exit.then])
   refine bodyPost_end (v := .tuple #[]) (by simp [results, Try.results82, go_sem]; try rfl) rfl ?_
   exact Fin HQ ⟨rfl, Hcp.out, hbl⟩
set_option maxHeartbeats 800000 in
theorem cmarked_any (w : World) (v : Value) (F : List Bool) (h : RdB w v F) (hn : F.length ≤ 4096) :
  Calls Try.prog 83 #[v] w (Ret fun r w' => w'.ownsRow w.heap.size 3 1 r (pickL (fun q => F.getD q false) F.length).length (intsV (pickL (fun q => F.getD q false) F.length)) ∧ Below w.heap.size w w') := by
 obtain ⟨A, c, rfl, hc, hb, hr⟩ := h
 have Hr := hid hr
 obtain ⟨i0, hi, hz0, hz1, hz2⟩ := info_parts infoI
 have Hs := hid (pickL_succ (fun q => F.getD q false))
 have Hle := hid (pickL_le (fun q => F.getD q false))
 clear hr
 refine post_gen fun Q HQ => ?_
 go_enter Try.func83, Try.ntmps83
 go_wp2
 go_loopw [3, 8] (fun v3 v8 wr => ∃ k : Nat, k ≤ F.length ∧ v8 = .int .i64 k ∧ wr.ownsRow w.heap.size 3 1 v3 (pickL (fun q => F.getD q false) k).length (intsV (pickL (fun q => F.getD q false) k)) ∧ Below w.heap.size w wr) (fun _ v8 _ => F.length - (intOf v8).toNat)
 case atStart => exact ⟨0, Nat.zero_le _, rfl, by simpa [intsV, pickL] using World.ownsRow_nil _ _ _ _, ext_refl _⟩
 case round =>
  obtain ⟨k, hk, rfl, hown, hbl⟩ := hrel
  by_cases hlt : k < F.length
  ·obtain ⟨ad, rfl, hcell⟩ := (Hr.out.ext (scR_mono _) hbl).at1 hlt
   have hs := Hs.out k
   have hle := Hle.out k
   have hsz := hbl.size
   have Hown2 := hid hown
   clear hown
   have hg : F.getD k false = F[k] := by simp [hlt]
   rw [hg] at hs
   cases hp : F[k] with
   | true =>
    rw [hp, if_pos rfl] at hs
    rw [hp] at hcell
    have HS := hid hs
    generalize hL : pickL (fun q => F.getD q false) k = L at *
    clear hL hp hs hg
    go_wp2_with (at_builtin; refine wpList_append_own _ rfl _ _ 26 rfl w.heap.size 3 i0 (.int .i64 0) 1 8 Try.underlying26 hi hz0 hz1 hz2 rfl (by decide) _ L.length _ rfl (Hown2.out.alloc _) ⟨wr.heap.size, 0, none⟩ 1 1 [.int .i64 (k : Int)] rfl rfl (cell_one_new _ _ _) (fun u hu => by simp at hu; subst hu; rfl) (by unfold maxLen; omega) (by omega) (by simp; omega) ?_; intro v' w3 hown' hgrow3 hnil3)
    go_roundw
    case rel =>
     refine ⟨k + 1, by omega, by go_num, ?_, ?_⟩
     ·rw [HS.out, List.length_append, List.length_singleton]
      simpa [intsV] using hown'
     ·exact below_grown (hbl.alloc hsz _) (by simp; omega) hgrow3 (fun g e => (Hown2.out.lt g e).1)
    case measure => simp [intOf]; omega
   | false =>
    rw [hp, if_neg Bool.false_ne_true, List.append_nil] at hs
    rw [hp] at hcell
    have HS := hid hs
    clear hp hs hg
    go_wp2_with fail
    go_roundw
    case rel =>
     refine ⟨k + 1, by omega, by go_num, ?_, hbl⟩
     rw [HS.out]; exact Hown2.out
    case measure => simp [intOf]; omega
  ·obtain rfl : k = F.length := by omega
   go_wp2
   go_ret
   exact Fin HQ ⟨hown, hbl⟩
end Go.Proofs.Lx

namespace Go.Proofs.Lx
open Go Go.RowKit Go.Proofs.Tj
set_option linter.unusedSimpArgs false
set_option linter.unusedVariables false
/-- h is the head of a rule with y in its body. -/
def HdOf (T : Th) (y h : Int) : Prop := ∃ j : Nat, j < T.rules.length ∧ y ∈ (T.rules.getD j default).body ∧ h = (T.rules.getD j default).head
/-- The list that the cone grows to: i of it are worked off. -/
structure PI (T : Th) (o D : List Int) (i : Nat) : Prop where
 ok : DOk T.foes.length D
 base : ∀ x ∈ o, x ∈ D
 cone : ∀ y ∈ D, InCone T o y.toNat
 shut : ∀ y ∈ D.take i, (∀ f ∈ row T.foes y, f ∈ D) ∧ ∀ h, HdOf T y h → h ∈ D
section
variable {T : Th} {o D : List Int} {i : Nat}
theorem PI.start (ho : ∀ x ∈ o, 0 ≤ x ∧ x < T.foes.length) : PI T o (addAll [] o) 0 :=
 ⟨(DOk.nil _).addAll ho, fun x hx => mem_addAll.2 (.inr hx), fun y hy => by
  rcases mem_addAll.1 hy with h | h
  ·simp at h
  ·exact .base (by rw [show ((y.toNat : Nat) : Int) = y by have := (ho y h).1; omega]; exact h), fun y hy => by simp at hy⟩
theorem heads_in (hwf : WfTh T) {y h : Int} (hh : HdOf T y h) : 0 ≤ h ∧ h < T.foes.length := by
 obtain ⟨j, hj, _, rfl⟩ := hh
 have := hwf.ru _ (List.getElem_mem hj)
 simp only [ruleOk, Bool.and_eq_true, decide_eq_true_eq] at this
 have hf := hwf.fl
 have e : T.rules.getD j default = T.rules[j] := by simp [hj]
 rw [e]; omega
theorem foes_in (hwf : WfTh T) {x : Nat} (hx : x < T.foes.length) {f : Int} (hf : f ∈ row T.foes (x : Int)) : 0 ≤ f ∧ f < T.foes.length := by
 rw [row_nat _ _ hx] at hf
 obtain ⟨j, h1, rfl, _⟩ := foe_in hwf hx hf
 omega
theorem PI.step (hwf : WfTh T) (h : PI T o D i) (hi : i < D.length) {x : Nat} (hx : D[i] = (x : Int)) {L : List Int} (hL : ∀ y, y ∈ L ↔ HdOf T (x : Int) y) : PI T o (addAll (addAll D (row T.foes (x : Int))) L) (i + 1) := by
 have hxD : (x : Int) ∈ D := by rw [← hx]; exact List.getElem_mem hi
 have hxn := (h.ok.rg _ hxD).2
 have hc : InCone T o x := by have := h.cone _ hxD; rwa [Int.toNat_natCast] at this
 have hfr : ∀ f ∈ row T.foes (x : Int), 0 ≤ f ∧ f < T.foes.length := fun f hf => foes_in hwf (by omega) hf
 have hLr : ∀ y ∈ L, 0 ≤ y ∧ y < T.foes.length := fun y hy => heads_in hwf ((hL y).1 hy)
 refine ⟨(h.ok.addAll hfr).addAll hLr, fun z hz => mem_addAll.2 (.inl (mem_addAll.2 (.inl (h.base z hz)))), fun y hy => ?_, fun y hy => ?_⟩
 ·rcases mem_addAll.1 hy with hy | hy
  ·rcases mem_addAll.1 hy with hy | hy
   ·exact h.cone y hy
   ·exact .foe hc (by rw [show ((y.toNat : Nat) : Int) = y by have := (hfr y hy).1; omega]; exact hy)
  ·obtain ⟨j, h1, h2, h3⟩ := (hL y).1 hy
   exact .head h1 h2 hc (by rw [show ((y.toNat : Nat) : Int) = y by have := (hLr y hy).1; omega]; exact h3.symm)
 ·obtain ⟨E1, e1⟩ := addAll_pre (row T.foes (x : Int)) D
  obtain ⟨E2, e2⟩ := addAll_pre L (addAll D (row T.foes (x : Int)))
  have e3 : (addAll (addAll D (row T.foes (x : Int))) L).take (i + 1) = D.take i ++ [D[i]] := by
   rw [e2, e1, List.append_assoc, List.take_append_of_le_length (by omega), List.take_succ_eq_append_getElem hi]
  rw [e3, List.mem_append, List.mem_singleton] at hy
  rcases hy with hy | hy
  ·obtain ⟨k1, k2⟩ := h.shut y hy
   exact ⟨fun f hf => mem_addAll.2 (.inl (mem_addAll.2 (.inl (k1 f hf)))), fun g hg => mem_addAll.2 (.inl (mem_addAll.2 (.inl (k2 g hg))))⟩
  ·rw [hx] at hy
   subst hy
   exact ⟨fun f hf => mem_addAll.2 (.inl (mem_addAll.2 (.inr hf))), fun g hg => mem_addAll.2 (.inr ((hL g).2 hg))⟩
theorem PI.all (h : PI T o D D.length) {q : Nat} (hc : InCone T o q) : (q : Int) ∈ D := by
 have hs := h.shut
 rw [List.take_length] at hs
 induction hc with
 | base hx => exact h.base _ hx
 | foe _ hf ih => exact (hs _ ih).1 _ hf
 | head hi hx _ hh ih => rw [← hh]; exact (hs _ ih).2 _ ⟨_, hi, hx, rfl⟩
open Classical in
theorem PI.done (h : PI T o D D.length) : pickL (fun q => (factsB T.foes.length D).getD q false) (factsB T.foes.length D).length = coneL T o := by
 rw [factsB_length]
 unfold coneL
 refine pickL_congr fun q hq => ?_
 have e : (factsB T.foes.length D).getD q false = memB D (q : Int) := by simp [factsB, hq]
 rw [e, Bool.eq_iff_iff, memB_true, decide_eq_true_iff]
 exact ⟨fun hm => by have := h.cone _ hm; rwa [Int.toNat_natCast] at this, fun hc => h.all hc⟩
/-- The rows of heads, of the first i rules and of k places of the next one's body. -/
structure HdR (T : Th) (i k : Nat) (xss : List (List Int)) : Prop where
 len : xss.length = T.foes.length
 mem : ∀ q (hq : q < xss.length) (h : Int), h ∈ xss[q] ↔ ∃ j : Nat, j < T.rules.length ∧ h = (T.rules.getD j default).head ∧ ((j < i ∧ (q : Int) ∈ (T.rules.getD j default).body) ∨ (j = i ∧ (q : Int) ∈ (T.rules.getD j default).body.take k))
 le : ∀ q (hq : q < xss.length), xss[q].length ≤ 16 * i + k
theorem HdR.zero (T : Th) : HdR T 0 0 (List.replicate T.foes.length []) := ⟨by simp, fun q hq h => by simp, fun q hq => by simp⟩
theorem HdR.next {k : Nat} {xss : List (List Int)} (h : HdR T i k xss) (hi : i < T.rules.length) (hk : k = (T.rules.getD i default).body.length) (h16 : k ≤ 16) : HdR T (i + 1) 0 xss := by
 refine ⟨h.len, fun q hq y => (h.mem q hq y).trans (exists_congr fun j => and_congr_right fun hj => and_congr_right fun _ => ?_), fun q hq => by have := h.le q hq; omega⟩
 constructor
 ·rintro (⟨h1, h2⟩ | ⟨rfl, h2⟩)
  ·exact .inl ⟨by omega, h2⟩
  ·exact .inl ⟨by omega, List.mem_of_mem_take h2⟩
 ·rintro (⟨h1, h2⟩ | ⟨_, h2⟩)
  ·by_cases e : j = i
   ·subst e
    exact .inr ⟨rfl, by rw [hk, List.take_length]; exact h2⟩
   ·exact .inl ⟨by omega, h2⟩
  ·simp at h2
theorem HdR.append {k q : Nat} {xss : List (List Int)} (h : HdR T i k xss) (hi : i < T.rules.length) (hk : k < (T.rules.getD i default).body.length) (hq : (T.rules.getD i default).body[k] = (q : Int)) (hqn : q < xss.length) :
  HdR T i (k + 1) (xss.set q (xss[q] ++ [(T.rules.getD i default).head])) := by
 have hT : ∀ (j p : Nat), (j = i ∧ (p : Int) ∈ (T.rules.getD j default).body.take (k + 1)) ↔ (j = i ∧ ((p : Int) ∈ (T.rules.getD j default).body.take k ∨ p = q)) := fun j p => and_congr_right fun e => by
  subst e
  rw [List.take_succ_eq_append_getElem hk, hq, List.mem_append, List.mem_singleton, Int.natCast_inj]
 refine ⟨by rw [List.length_set]; exact h.len, fun p hp y => ?_, fun p hp => ?_⟩
 ·rw [List.length_set] at hp
  simp only [hT]
  rw [List.getElem_set]
  by_cases e : q = p
  ·subst e
   rw [if_pos rfl, List.mem_append, List.mem_singleton, h.mem q hp y]
   constructor
   ·rintro (⟨j, h1, h2, h3⟩ | rfl)
    ·exact ⟨j, h1, h2, h3.imp id fun ⟨a, b⟩ => ⟨a, .inl b⟩⟩
    ·exact ⟨i, hi, rfl, .inr ⟨rfl, .inr rfl⟩⟩
   ·rintro ⟨j, h1, h2, h3⟩
    rcases h3 with ⟨h3, h4⟩ | ⟨rfl, h4⟩
    ·exact .inl ⟨j, h1, h2, .inl ⟨h3, h4⟩⟩
    ·exact .inr h2
  ·rw [if_neg e, h.mem p hp y]
   exact exists_congr fun j => and_congr_right fun hj => and_congr_right fun _ => or_congr Iff.rfl (and_congr_right fun hji => ⟨.inl, fun h1 => h1.elim id fun h2 => absurd h2.symm e⟩)
 ·rw [List.length_set] at hp
  have := h.le p hp
  rw [List.getElem_set]
  by_cases e : q = p
  ·subst e; rw [if_pos rfl, List.length_append, List.length_singleton]; omega
  ·rw [if_neg e]; omega
theorem HdR.done {xss : List (List Int)} (h : HdR T T.rules.length 0 xss) {q : Nat} (hq : q < xss.length) (y : Int) : y ∈ xss[q] ↔ HdOf T (q : Int) y := by
 rw [h.mem q hq y]
 constructor
 ·rintro ⟨j, h1, h2, ⟨h3, h4⟩ | ⟨_, h4⟩⟩
  ·exact ⟨j, h1, h4, h2⟩
  ·simp at h4
 ·rintro ⟨j, h1, h2, h3⟩
  exact ⟨j, h1, h3, .inl ⟨h1, h2⟩⟩
end
theorem own_ne_tag {w : World} {base e size n g : Nat} {v : Value} {xs : List Value} (h : w.ownsRow base e size v n xs) {cells : Array Value} {e' : TypeId} (hg : w.heap[g]? = some (.cells cells e' (0, 0))) (hne : e ≠ e') : v.ownBlock ≠ some g := by
 intro hb
 rcases h.2 with ⟨rfl, _⟩ | ⟨k, cap, cur, rfl, _, h3, _⟩
 ·simp [Value.ownBlock] at hb
 ·have : k = g := by simpa [Value.ownBlock] using hb
  subst this
  rw [h3] at hg
  injection hg with hg
  injection hg with h1 h2
  exact hne h2
/-- The rows in memory. -/
structure HW (W1 w : World) (g : Nat) (vs : List Value) (xss : List (List Int)) : Prop where
 rows : Rows w g (g + 1) 26 3 vs xss
 old : Below W1.heap.size W1 w
 sz : g + 1 ≤ w.heap.size
 lo : W1.heap.size ≤ g
section
variable {W1 w w' : World} {g : Nat} {vs : List Value} {xss : List (List Int)}
theorem HW.start (W1 : World) (n : Nat) : HW W1 (W1.alloc (.cells (madeCells #[Value.slice none 0 0] n) 26)) W1.heap.size (List.replicate n (.slice none 0 0)) (List.replicate n []) := by
 refine ⟨Rows.made _ _ _ _ _ _ (by omega) ((heap_alloc_new _ _).trans ?_), ext_alloc _ _, by simp, Nat.le_refl _⟩
 congr 2
 rw [← Array.toList_inj, toList_madeCells_one]
theorem HW.ext (h : HW W1 w g vs xss) (hb : Below w.heap.size w w') : HW W1 w' g vs xss := ⟨h.rows.ext hb, ext_trans h.old hb, by have := hb.size; have := h.sz; omega, h.lo⟩
theorem HW.append (h : HW W1 w g vs xss) {A : Obj} {q : Nat} (hq : q < vs.length) (hq' : q < xss.length) {v' : Value} {x : Int} (hgr : ((w.alloc A).drew).grownBy w' vs[q].ownBlock)
  (ho : w'.ownsRow (g + 1) 3 1 v' (xss[q].length + 1) (intsV xss[q] ++ [.int .i64 x])) (hat : v'.ownBlock = vs[q].ownBlock ∨ v'.ownBlock = some ((w.alloc A).drew).heap.size) :
  HW W1 (w'.setCell ⟨g, q, none⟩ v') g (vs.set q v') (xss.set q (xss[q] ++ [x])) := by
 have h2 := h.ext ((ext_alloc w A).drew)
 have hs : ((w.alloc A).drew).heap.size = w.heap.size + 1 := by simp [World.drew]
 have hsz := hgr.size
 have h0 := h.lo
 have h1 := h.sz
 have h3 := h.old.size
 refine ⟨h2.rows.append (by omega) hq hq' hgr ho (hat.imp id fun e => ⟨_, e, Nat.le_refl _⟩), ?_, by simp; omega, h0⟩
 refine Below.setCell ⟨hgr.os.trans h.old.os, hgr.tape.trans h.old.tape, hgr.output.trans h.old.output, by omega, fun k hk => ?_⟩ h0 _
 rw [hgr.block k (by omega) (fun e => by have := ((h.rows.own q hq hq').lt _ e.symm).1; omega)]
 exact (Below.heap_alloc w A k (by omega)).trans (h.old.block k hk)
/-- Behind the growth of a row: its slot is as it was, and so is a block of another type. -/
theorem HW.after (h : HW W1 w g vs xss) {A : Obj} {q : Nat} (hq : q < vs.length) (hgr : ((w.alloc A).drew).grownBy w' vs[q].ownBlock) {rb : Nat} {cells : Array Value} {e' : TypeId} (hrb : w.heap[rb]? = some (.cells cells e' (0, 0))) (hne : 3 ≠ e') :
  w'.heap[rb]? = some (.cells cells e' (0, 0)) ∧ w'.cell? ⟨g, q, none⟩ = some vs[q] ∧ w'.frozen? ⟨g, q, none⟩ = false := by
 have hq' : q < xss.length := by rw [← h.rows.len]; exact hq
 have ho := h.rows.own q hq hq'
 have hk : ∀ k, k < w.heap.size → vs[q].ownBlock ≠ some k → w'.heap[k]? = w.heap[k]? := fun k hk1 hk2 => by
  rw [hgr.block k (by simp [World.drew]; omega) (fun e => hk2 e.symm)]
  exact Below.heap_alloc w A k hk1
 have hg := (hk g h.rows.lt fun e => by have := (ho.lt _ e).1; omega).trans h.rows.blk
 refine ⟨(hk rb (lt_of_block hrb) (own_ne_tag ho hrb hne)).trans hrb, ?_, frozen_of_row w' g q _ _ hg⟩
 rw [cell_of_row w' g q _ _ _ hg]; simp [hq]
end
theorem CP.start (w : World) (n : Nat) : CP (((w.alloc (.cells (madeCells #[Value.bool false] n) 4)).alloc (.cells #[.slice (some ⟨w.heap.size, 0, none⟩) n n] 86)).alloc (.cells #[.slice none 0 0] 26)) w.heap.size n [] := by
 have h1 : (w.alloc (.cells (madeCells #[Value.bool false] n) 4)).heap.size = w.heap.size + 1 := by simp
 have h2 : ((w.alloc (.cells (madeCells #[Value.bool false] n) 4)).alloc (.cells #[.slice (some ⟨w.heap.size, 0, none⟩) n n] 86)).heap.size = w.heap.size + 2 := by simp
 refine ⟨?_, ⟨.slice none 0 0, ?_, by simpa [intsV] using World.ownsRow_nil _ _ _ _⟩, ?_, by simp⟩
 ·rw [Below.heap_alloc _ _ _ (by omega), ← h1]; exact heap_alloc_new _ _
 ·rw [← h2]; exact heap_alloc_new _ _
 ·refine (Below.heap_alloc _ _ _ (by omega)).trans ((Below.heap_alloc _ _ _ (by omega)).trans ((heap_alloc_new w _).trans ?_))
  congr 2
  rw [← Array.toList_inj, toList_madeCells_one]
  have : factsB n [] = List.replicate n false := factsUpto_zero n []
  rw [this]; simp
end Go.Proofs.Lx

namespace Go.Proofs.Lx
open Go Go.RowKit Go.Proofs.Tj
set_option linter.unusedSimpArgs false
set_option linter.unusedVariables false
theorem FRes.hasM {T : Th} {l : List Int} {D : Dyn} (h : FRes T l D) {q k : Nat} (hq : q < T.foes.length) : Lx.hasM (solveM T l) k (q : Int) = (D.marks q).testBit k := by
 unfold Lx.hasM
 rw [Int.toNat_natCast, ← h.mks, List.getD_eq_getElem?_getD, List.getElem?_eq_getElem (by simpa using hq), Option.getD_some, List.getElem_map, List.getElem_range]
/-- A list of numbers, the call's own, and an error. -/
def IntsPost (w : World) (L : List Int) (c : Int) (r : Value) (w' : World) : Prop := ∃ v, r = .tuple #[v, .int .i64 c] ∧ w'.ownsRow w.heap.size 3 1 v L.length (intsV L) ∧ Below w.heap.size w w'
noncomputable def tagErr (T : Th) (l : List Int) (tag : Int) : Int := if givenErr T l = 0 then (if tag < 1 ∨ 4 < tag then 1 else 0) else givenErr T l
noncomputable def setL (T : Th) (l : List Int) (tag : Int) : List Int := if tagErr T l tag = 0 then pickL (fun q => hasM (solveM T l) (tag.toNat - 1) (q : Int)) T.foes.length else []
noncomputable def undL (T : Th) (l : List Int) : List Int := if givenErr T l = 0 then pickL (fun q => !hasM (solveM T l) 2 (q : Int) && !hasM (solveM T l) 3 (q : Int)) T.foes.length else []
set_option maxHeartbeats 1600000 in
theorem fset_any (w : World) (V vl : Value) (T : Th) (l : List Int) (tag : Int) (hT : RdTh w V T) (hl : RdI w vl l) :
  Calls Try.prog 48 #[V, vl, .int .i64 tag] w (Ret (IntsPost w (setL T l tag) (tagErr T l tag))) := by
 have HT := hid hT
 have Hl := hid hl
 obtain ⟨vF, vR, vB, rfl, hF, hR, hB⟩ := hT
 obtain ⟨AL, cL, rfl, _⟩ := hl
 generalize l.length = nl at *
 have hA := allocs [.cells #[.int .i64 T.lits, vF, vR, vB] 25, .cells #[.int .i64 tag] 44, .cells #[.slice AL nl cL] 26] w
 obtain ⟨W1, HW1⟩ : ∃ W1, Hid (W1 = ((w.alloc (.cells #[.int .i64 T.lits, vF, vR, vB] 25)).alloc (.cells #[.int .i64 tag] 44)).alloc (.cells #[.slice AL nl cL] 26)) := ⟨_, hid rfl⟩
 have e1 : [Obj.cells #[.int .i64 T.lits, vF, vR, vB] 25, .cells #[.int .i64 tag] 44, .cells #[.slice AL nl cL] 26].foldl World.alloc w = W1 := HW1.out.symm
 rw [e1] at hA
 obtain ⟨hsz, hat, hbel⟩ := hA
 have hsz : W1.heap.size = w.heap.size + 3 := hsz
 have hg := fgiven_any W1 (.agg #[.int .i64 T.lits, vF, vR, vB]) (.slice (some ⟨w.heap.size + 1 + 1, 0, none⟩) 1 1) T [l] (HT.out.ext hbel) (rd_row1 (hat 2 _ rfl) (Hl.out.ext (scR_mono _) hbel))
 rw [givenErrs_one] at hg
 have Hg := hid hg
 have Hrun : Hid (givenErr T l = 0 → ∀ W, Below W1.heap.size W1 W → Calls Try.prog 71 #[.agg #[.int .i64 T.lits, vF, vR, vB], .slice AL nl cL] W (Ret (RunRes W T l))) := hid fun h W hb => frun_any W _ _ T l (HT.out.ext (ext_trans hbel hb)) (Hl.out.ext (scR_mono _) (ext_trans hbel hb)) (givenErr_ok.1 h).1 (givenErr_ok.1 h).2
 have Hbox : Hid (∀ W, Below W1.heap.size W1 W → W.cell? ⟨w.heap.size, 0, none⟩ = some (.int .i64 T.lits) ∧ W.cell? ⟨w.heap.size, 1, none⟩ = some vF ∧ W.cell? ⟨w.heap.size, 2, none⟩ = some vR ∧ W.cell? ⟨w.heap.size, 3, none⟩ = some vB ∧ W.cell? ⟨w.heap.size + 1, 0, none⟩ = some (.int .i64 tag)) := hid fun W hb => by
  have h0 : W.heap[w.heap.size]? = some (.cells #[.int .i64 T.lits, vF, vR, vB] 25 (0, 0)) := (hb.block _ (by omega)).trans (hat 0 _ rfl)
  have h1 : W.heap[w.heap.size + 1]? = some (.cells #[.int .i64 tag] 44 (0, 0)) := (hb.block _ (by omega)).trans (hat 1 _ rfl)
  exact ⟨cell_of_row _ _ 0 _ _ _ h0, cell_of_row _ _ 1 _ _ _ h0, cell_of_row _ _ 2 _ _ _ h0, cell_of_row _ _ 3 _ _ _ h0, cell_of_row _ _ 0 _ _ _ h1⟩
 have Hbel := hid hbel
 have Hok := hid (@givenErr_ok T l)
 clear hF hR hB hg hat hsz hbel e1
 unfold IntsPost
 have He : Hid (∀ c, givenErr T l = c → tagErr T l tag = if c = 0 then (if tag < 1 ∨ 4 < tag then 1 else 0) else c) := hid fun c hc => by unfold tagErr; rw [hc]
 have HL0 : Hid (tagErr T l tag ≠ 0 → setL T l tag = []) := hid fun h => by unfold setL; rw [if_neg h]
 have HL1 : Hid (tagErr T l tag = 0 → setL T l tag = pickL (fun q => hasM (solveM T l) (tag.toNat - 1) (q : Int)) T.foes.length) := hid fun h => by unfold setL; rw [if_pos h]
 obtain ⟨c, Hc⟩ : ∃ c, Hid (givenErr T l = c) := ⟨_, hid rfl⟩
 have he := He.out c Hc.out
 rw [Hc.out] at Hg Hrun Hok
 have hnil : ∀ W : World, W.ownsRow w.heap.size 3 1 (.slice none 0 0) ([] : List Int).length (intsV []) := fun W => by simpa [intsV] using World.ownsRow_nil _ _ _ _
 have Hnil := hid hnil
 clear hnil
 refine post_gen fun Q HQ => ?_
 go_enter Try.func48, Try.ntmps48
 go_wp2_with fail
 rw [← HW1.out]
 refine Hg.out.mono ?_
 rintro e w2 ⟨_, rfl, rfl, hb2⟩
 have Hb2 := hid hb2
 by_cases h : c = 0
 ·subst h
  rw [if_pos rfl] at he
  obtain ⟨b0, b1, b2, b3, b4⟩ := Hbox.out w2 hb2
  by_cases ht : tag < 1 ∨ 4 < tag
  ·rw [if_pos ht] at he
   have hL := HL0.out (by rw [he]; decide)
   rw [he, hL] at HQ
   have HE := hid he
   have HLL := hid hL
   clear he hL
   rcases ht with ht | ht
   ·go_wp2_with fail
    go_ret2
    exact Fin HQ ⟨_, rfl, Hnil.out _, ext_trans Hbel.out Hb2.out⟩
   ·by_cases ht1 : tag < 1
    ·omega
    go_wp2_with fail
    go_ret2
    exact Fin HQ ⟨_, rfl, Hnil.out _, ext_trans Hbel.out Hb2.out⟩
  ·rw [if_neg ht] at he
   have hL := HL1.out he
   rw [he, hL] at HQ
   have HE := hid he
   clear he hL
   obtain ⟨t, rfl⟩ : ∃ t : Nat, tag = (t : Int) := ⟨tag.toNat, by omega⟩
   have hq := hid (Hrun.out rfl w2 hb2)
   have hwf := (Hok.out.1 rfl).1
   have hfl := hwf.fl
   have hn4 : T.foes.length ≤ 4096 := by have := hwf.l1; omega
   have Hn4 := hid hn4
   have Hfl := hid hfl
   clear hb2 hwf hfl hn4
   go_wp2_with fail
   refine hq.out.mono ?_
   rintro e w3 ⟨_, rfl, G, S, D, W0, vT, rfl, hfe, hSn, hres, hbw, heng⟩
   have hb23 : Below w2.heap.size w2 w3 := ext_trans hbw heng.sp.old
   have hb13 := ext_trans Hb2.out hb23
   obtain ⟨W4, HW4⟩ : ∃ W4, Hid (W4 = w3.alloc (.cells #[.pointer (some ⟨G.b, 0, none⟩)] 105)) := ⟨_, hid rfl⟩
   have hb4 : Below w3.heap.size w3 W4 := by rw [HW4.out]; exact ext_alloc _ _
   obtain ⟨b0, b1, b2, b3, b4⟩ := Hbox.out W4 (ext_trans hb13 hb4)
   rw [HW4.out] at b0 b1 b2 b3 b4
   have hch := chosen_any W4 T.foes.length 79 #[.pointer (some ⟨w3.heap.size, 0, none⟩), .pointer (some ⟨w.heap.size + 1, 0, none⟩)] (fun q => hasT D q t) enters_set1 Hn4.out (fun q hqn W hW => by
    have hb3W := ext_trans hb4 hW
    have h0 : W.heap[w3.heap.size]? = some (.cells #[.pointer (some ⟨G.b, 0, none⟩)] 105 (0, 0)) := by
     rw [hW.block _ (by rw [HW4.out]; simp), HW4.out, heap_alloc_new]
    exact set1_any W W0 G S T D ⟨vT, heng.ext hb3W⟩ w3.heap.size (w.heap.size + 1) q t (by rw [hSn]; exact hqn) (by omega) (by omega) (hres.ti.lt q) (cell_of_row _ _ 0 _ _ _ h0) (Hbox.out W (ext_trans hb13 hb3W)).2.2.2.2)
   rw [pickL_congr (p' := fun q => hasM (solveM T l) (t - 1) (q : Int)) (fun q hqn => by rw [hres.hasM hqn]; rfl)] at hch
   rw [Hfl.out] at hch
   have Hch := hid hch
   have Hb14 := hid (ext_trans hb13 hb4)
   clear hch hres heng hfe hSn hbw hb23 hb13 hb4 hq
   rw [HW4.out] at Hch
   go_wp2_with fail
   refine Hch.out.mono ?_
   rintro e w5 ⟨_, rfl, hown, hb5⟩
   rw [← HW4.out] at hown hb5
   have Hown := hid hown
   clear hown
   go_wp2_with fail
   go_ret2
   exact Fin HQ ⟨_, rfl, own_lower Hown.out (ext_trans Hbel.out Hb14.out).size, ext_trans Hbel.out (ext_trans Hb14.out hb5)⟩
 ·rw [if_neg h] at he
  have hne : (c != 0) = true := by simp [h]
  have hL := HL0.out (by rw [he]; exact h)
  rw [he, hL] at HQ
  have HE := hid he
  clear he hL hb2
  go_wp2_with fail
  go_ret2
  exact Fin HQ ⟨_, rfl, Hnil.out _, ext_trans Hbel.out Hb2.out⟩
end Go.Proofs.Lx
