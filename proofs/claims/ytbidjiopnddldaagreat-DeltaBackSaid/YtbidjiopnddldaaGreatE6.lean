/- Parts of the proof: Da, Dd, De. Contracts of slices.Clone over ints; the cells of a list of rules. -/
import Derived.Test.YtbidjiopnddldaaGreatE5
namespace Go.Proofs.Lx
open Go Go.RowKit
set_option linter.unusedSimpArgs false
set_option linter.unusedVariables false
theorem cloneI_any (w : World) (v : Value) (M : List Int) (hv : RdI w v M) (h8 : M.length * 8 ≤ 140737488355328) :
  Calls Tryz.prog 39 #[v] w (Ret fun r w' => w'.ownsRow w.heap.size 3 1 r M.length (intsV M) ∧ Below w.heap.size w w') := by
 obtain ⟨A, c, rfl, hc, hb, hr⟩ := hv
 have hne := @Lib.run_eql_slice_nil Tryz.prog
 obtain ⟨i0, hi, hz0, hz1, hz2⟩ := info_parts infoI
 refine post_gen fun Q HQ => ?_
 cases A with
 | none =>
  have hM : M.length = 0 := by
   rcases Nat.eq_zero_or_pos M.length with h | h
   ·exact h
   ·obtain ⟨ad, _, h1, _⟩ := hr 0 h; cases h1
  have HM := hid (List.eq_nil_of_length_eq_zero hM)
  have hM0 : M.length ≤ 0 := by omega
  clear hM hr
  generalize hL : M.length = L at *
  have HL := hid hL
  clear hL
  go_enter Tryz.func39, Tryz.ntmps39
  go_wp2
  go_ret
  exact Fin HQ ⟨by rw [HM.out]; rw [HM.out] at HL; obtain rfl : 0 = L := HL.out; exact World.ownsRow_nil _ _ _ _, ext_refl _⟩
 | some ad =>
  have hn : ∀ (W : World), Below w.heap.size w W → ∀ j u, (intsV M)[j]? = some u → W.cell? (ad.add j) = some u := by
   intro W hW j u hj
   obtain ⟨hjl, rfl⟩ := List.getElem?_eq_some_iff.1 hj
   simp only [intsV, List.length_map] at hjl
   obtain ⟨ad', e, h1⟩ := hr.at1 hjl
   cases e
   have := cell_ext hW h1
   simpa [intsV] using this
  have Hn := hid hn
  clear hn hr
  go_enter Tryz.func39, Tryz.ntmps39
  go_wp2_with (at_builtin; refine wpList_append_own _ rfl _ _ 36 rfl w.heap.size 3 i0 (.int .i64 0) 1 8 Tryz.underlying36 hi hz0 hz1 hz2 rfl (by decide) _ 0 [] rfl (World.ownsRow_made w #[] 0 (Nat.le_refl _) (by unfold maxLen; omega) rfl) ad M.length c (intsV M) rfl (by simp) (Hn.out _ (ext_alloc _ _)) ?c1 ?c2 ?c3 ?c4 ?_)
  case c1 => intro u hu; obtain ⟨x, _, rfl⟩ := List.mem_map.1 hu; rfl
  case c2 => unfold maxLen; omega
  case c3 => omega
  case c4 => simp
  intro v' w1 hown hgrow _
  go_wp2
  go_ret
  refine Fin HQ ⟨by simpa using hown, ?_⟩
  exact ((ext_alloc w _).grown hgrow (by simp) (fun k hk => by simp [Value.ownBlock] at hk; omega))
/-- A list of rules' cells, in the order of the block. -/
def cellsR (rs : List Rule) (vs : Nat → Value) : List Value := (List.range rs.length).flatMap fun i => [.int .i64 (rs.getD i default).kind, .int .i64 (rs.getD i default).head, vs i]
theorem cellsR_length (rs : List Rule) (vs : Nat → Value) : (cellsR rs vs).length = rs.length * 3 := by
 unfold cellsR
 rw [List.length_flatMap]
 have : (List.range rs.length).map (fun i => ([Value.int .i64 (rs.getD i default).kind, .int .i64 (rs.getD i default).head, vs i] : List Value).length) = List.replicate rs.length 3 := by
  apply List.ext_getElem
  ·simp
  ·intro a h1 h2; simp
 rw [this]; simp
theorem cellsR_at {rs : List Rule} {vs : Nat → Value} {i : Nat} (hi : i < rs.length) : (cellsR rs vs)[i * 3]? = some (.int .i64 (rs.getD i default).kind) ∧ (cellsR rs vs)[i * 3 + 1]? = some (.int .i64 (rs.getD i default).head) ∧ (cellsR rs vs)[i * 3 + 2]? = some (vs i) := by
 have key : ∀ (n : Nat), i < n → ∀ f : Nat → List Value, (∀ j, (f j).length = 3) → ∀ q, q < 3 → ((List.range n).flatMap f)[i * 3 + q]? = (f i)[q]? := by
  intro n
  induction n with
  | zero => intro h; omega
  | succ n ih =>
   intro h f hf q hq
   have hl : ((List.range n).flatMap f).length = n * 3 := by
    rw [List.length_flatMap]
    have : (List.range n).map (fun j => (f j).length) = List.replicate n 3 := by
     apply List.ext_getElem
     ·simp
     ·intro a h1 h2; simp [hf]
    rw [this]; simp
   rw [List.range_succ, List.flatMap_append]
   by_cases e : i = n
   ·subst e
    rw [List.getElem?_append_right (by omega), hl]
    simp
   ·rw [List.getElem?_append_left (by omega)]
    exact ih (by omega) f hf q hq
 have h0 := key rs.length hi (fun i => [.int .i64 (rs.getD i default).kind, .int .i64 (rs.getD i default).head, vs i]) (fun _ => rfl) 0 (by omega)
 have h1 := key rs.length hi (fun i => [.int .i64 (rs.getD i default).kind, .int .i64 (rs.getD i default).head, vs i]) (fun _ => rfl) 1 (by omega)
 have h2 := key rs.length hi (fun i => [.int .i64 (rs.getD i default).kind, .int .i64 (rs.getD i default).head, vs i]) (fun _ => rfl) 2 (by omega)
 rw [Nat.add_zero] at h0
 exact ⟨h0, h1, h2⟩
theorem infoRl : (Tryz.prog.info? 93).map (fun i => (i.zero, i.size, i.bytes)) = some (some (.agg #[.int .i64 0, .int .i64 0, .slice none 0 0]), 3, 40) := by kernel_rfl
theorem cloneR_any (w : World) (v : Value) (rs : List Rule) (hv : RdRs w v rs) (h8 : rs.length * 40 ≤ 140737488355328) :
  Calls Tryz.prog 59 #[v] w (Ret fun r w' => ∃ vs : Nat → Value, w'.ownsRow w.heap.size 93 3 r rs.length (cellsR rs vs) ∧ (∀ i, i < rs.length → RdI w (vs i) (rs.getD i default).body) ∧ Below w.heap.size w w') := by
 obtain ⟨A, c, rfl, hc, hb, hr⟩ := hv
 have hne := @Lib.run_eql_slice_nil Tryz.prog
 obtain ⟨i0, hi, hz0, hz1, hz2⟩ := info_parts infoRl
 refine post_gen fun Q HQ => ?_
 cases A with
 | none =>
  have hM : rs.length = 0 := by
   rcases Nat.eq_zero_or_pos rs.length with h | h
   ·exact h
   ·obtain ⟨ad, _, h1, _⟩ := hr 0 h; cases h1
  have HM := hid (List.eq_nil_of_length_eq_zero hM)
  have hM0 : rs.length ≤ 0 := by omega
  clear hM hr
  generalize hL : rs.length = L at *
  have HL := hid hL
  clear hL
  go_enter Tryz.func59, Tryz.ntmps59
  go_wp2
  go_ret
  refine Fin HQ ⟨fun _ => .int .i64 0, ?_, fun i hi => ?_, ext_refl _⟩
  ·rw [HM.out]; rw [HM.out] at HL; obtain rfl : 0 = L := HL.out; exact World.ownsRow_nil _ _ _ _
  ·rw [HM.out] at HL; have : 0 = L := HL.out; omega
 | some ad =>
  have hch : ∀ i, ∃ u, i < rs.length → w.cell? (ad.add (i * 3)) = some (.int .i64 (rs.getD i default).kind) ∧ w.cell? (ad.add (i * 3 + 1)) = some (.int .i64 (rs.getD i default).head) ∧ w.cell? (ad.add (i * 3 + 2)) = some u ∧ u.oneCell' = true ∧ RdI w u (rs.getD i default).body := fun i => by
   by_cases h : i < rs.length
   ·obtain ⟨ad', B, cB, e, h0, h1, h2, h3, h4, h5⟩ := hr.atRule h
    cases e
    have e2 : rs.getD i default = rs[i] := by simp [h]
    rw [e2]
    exact ⟨_, fun _ => ⟨h0, by rw [add_field _ _ _ (by omega)]; exact h1, by rw [add_field _ _ _ (by omega)]; exact h2, rfl, B, cB, rfl, h3, h4, h5⟩⟩
   ·exact ⟨.int .i64 0, fun h9 => absurd h9 h⟩
  obtain ⟨vs, hvs⟩ := Classical.axiomOfChoice hch
  have hn : ∀ (W : World), Below w.heap.size w W → ∀ j u, (cellsR rs vs)[j]? = some u → W.cell? (ad.add j) = some u := by
   intro W hW j u hj
   have hjl := (List.getElem?_eq_some_iff.1 hj).1
   rw [cellsR_length] at hjl
   have hi3 : j / 3 < rs.length := by omega
   obtain ⟨k0, k1, k2⟩ := cellsR_at (rs := rs) (vs := vs) hi3
   obtain ⟨h0, h1, h2, _, _⟩ := hvs (j / 3) hi3
   have hq : j = j / 3 * 3 ∨ j = j / 3 * 3 + 1 ∨ j = j / 3 * 3 + 2 := by omega
   rcases hq with e | e | e
   ·rw [e] at hj ⊢; rw [k0] at hj; cases hj; exact cell_ext hW h0
   ·rw [e] at hj ⊢; rw [k1] at hj; cases hj; exact cell_ext hW h1
   ·rw [e] at hj ⊢; rw [k2] at hj; cases hj; exact cell_ext hW h2
  have Hn := hid hn
  have Hlen := hid (cellsR_length rs vs)
  have Hone : Hid (∀ u ∈ cellsR rs vs, u.oneCell' = true) := hid fun u hu => by
   unfold cellsR at hu
   obtain ⟨i, hi9, hu⟩ := List.mem_flatMap.1 hu
   have hi9 := List.mem_range.1 hi9
   simp only [List.mem_cons, List.not_mem_nil, or_false] at hu
   rcases hu with rfl | rfl | rfl
   ·rfl
   ·rfl
   ·exact (hvs i hi9).2.2.2.1
  have Hvs : Hid (∀ i, i < rs.length → RdI w (vs i) (rs.getD i default).body) := hid fun i h => (hvs i h).2.2.2.2
  clear hn hr hch hvs
  generalize hCS : cellsR rs vs = CS at *
  have HCS := hid hCS
  clear hCS
  go_enter Tryz.func59, Tryz.ntmps59
  go_wp2_with (at_builtin; refine wpList_append_own _ rfl _ _ 23 rfl w.heap.size 93 i0 (.agg #[.int .i64 0, .int .i64 0, .slice none 0 0]) 3 40 Tryz.underlying23 hi hz0 hz1 hz2 rfl (by decide) _ 0 [] rfl (World.ownsRow_made w #[] 0 (Nat.le_refl _) (by unfold maxLen; omega) rfl) ad rs.length c CS rfl Hlen.out (Hn.out _ (ext_alloc _ _)) Hone.out ?c2 ?c3 ?c4 ?_)
  case c2 => unfold maxLen; omega
  case c3 => omega
  case c4 => simp
  intro v' w1 hown hgrow _
  go_wp2
  go_ret
  refine Fin HQ ⟨vs, ?_, Hvs.out, ?_⟩
  ·rw [HCS.out]; simpa using hown
  ·exact ((ext_alloc w _).grown hgrow (by simp) (fun k hk => by simp [Value.ownBlock] at hk; omega))
end Go.Proofs.Lx

namespace Go.Proofs.Lx
open Go Go.RowKit
set_option linter.unusedSimpArgs false
set_option linter.unusedVariables false
/-- A part that is built: its block p, its rules and facts in rows that are its own. -/
structure PB (w : World) (base p : Nat) (lits : Int) (vFo vBe vOl vRu vFa : Value) (rs : List Rule) (vs : Nat → Value) (fa : List Int) : Prop where
 box : w.heap[p]? = some (.cells #[.int .i64 lits, vFo, vRu, vBe, vFa, vOl] 111 (0, 0))
 ru : w.ownsRow base 93 3 vRu rs.length (cellsR rs vs)
 fa : w.ownsRow base 3 1 vFa fa.length (intsV fa)
 bd : ∀ i, i < rs.length → w.ownsRow base 3 1 (vs i) (rs.getD i default).body.length (intsV (rs.getD i default).body) ∧ ((vs i).ownBlock = none ∨ (vs i).ownBlock ≠ vFa.ownBlock)
 lo : p < base
theorem cellsR_push (rs : List Rule) (vs : Nat → Value) (r : Rule) (u : Value) : cellsR (rs ++ [r]) (fun i => if i = rs.length then u else vs i) = cellsR rs vs ++ [.int .i64 r.kind, .int .i64 r.head, u] := by
 unfold cellsR
 rw [List.length_append, List.length_singleton, List.range_succ, List.flatMap_append]
 congr 1
 ·rw [List.flatMap_def, List.flatMap_def]
  congr 1
  refine List.map_congr_left fun i hi => ?_
  have hi := List.mem_range.1 hi
  have e : (rs ++ [r]).getD i default = rs.getD i default := by
   simp only [List.getD_eq_getElem?_getD, List.getElem?_append_left hi]
  rw [e]
  have hne : i ≠ rs.length := by omega
  simp [hne]
 ·simp
section
variable {w w' : World} {base p : Nat} {lits : Int} {vFo vBe vOl vRu vFa vRu' vFa' u : Value} {rs : List Rule} {vs : Nat → Value} {fa : List Int} {r : Rule}
theorem PB.ext (h : PB w base p lits vFo vBe vOl vRu vFa rs vs fa) (hb : Below w.heap.size w w') : PB w' base p lits vFo vBe vOl vRu vFa rs vs fa := by
 have key : ∀ {e sz n : Nat} {v : Value} {xs : List Value}, w.ownsRow base e sz v n xs → w'.ownsRow base e sz v n xs := fun ho => ho.kept (row := none) ⟨hb.os, hb.tape, hb.output, hb.size, fun k hk _ => hb.block k hk⟩ (by
  rename_i v _; cases v.ownBlock <;> simp)
 exact ⟨(hb.block _ (lt_of_block h.box)).trans h.box, key h.ru, key h.fa, fun i hi => ⟨key (h.bd i hi).1, (h.bd i hi).2⟩, h.lo⟩
/-- A rule joins. -/
theorem PB.pushR (h : PB w base p lits vFo vBe vOl vRu vFa rs vs fa) {A : Obj} (hu : w.ownsRow base 3 1 u r.body.length (intsV r.body)) (hn : u.ownBlock = none ∨ u.ownBlock ≠ vFa.ownBlock)
  (hg : (w.alloc A).grownBy w' vRu.ownBlock) (ho : w'.ownsRow base 93 3 vRu' (rs.length + 1) (cellsR rs vs ++ [.int .i64 r.kind, .int .i64 r.head, u])) :
  PB (w'.setCell ⟨p, 2, none⟩ vRu') base p lits vFo vBe vOl vRu' vFa (rs ++ [r]) (fun i => if i = rs.length then u else vs i) fa := by
 have hlp := lt_of_block h.box
 have hk : ∀ g, g < w.heap.size → vRu.ownBlock ≠ some g → w'.heap[g]? = w.heap[g]? := fun g h1 h2 => (hg.block g (by simp; omega) (fun e => h2 e.symm)).trans (Below.heap_alloc _ _ _ h1)
 have hlo := h.lo
 have hpb := hk p hlp fun e => by have := (h.ru.lt p e).1; omega
 -- rows of ints stay
 have hint : ∀ {n : Nat} {v : Value} {xs : List Value}, w.ownsRow base 3 1 v n xs → (w'.setCell ⟨p, 2, none⟩ vRu').ownsRow base 3 1 v n xs := fun {n v xs} ho9 => by
  refine ⟨ho9.1, ?_⟩
  rcases ho9.2 with k1 | ⟨g, cap, cur, k1, k2, k3, k4⟩
  ·exact .inl k1
  ·refine .inr ⟨g, cap, cur, k1, k2, ?_, k4⟩
   rw [heap_setCell_other _ _ _ _ (by dsimp only; omega)]
   refine (hk g (lt_of_block k3) fun e => ?_).trans k3
   rcases h.ru.2 with ⟨e1, _⟩ | ⟨g2, c2, u2, e1, e2, e3, _⟩
   ·rw [e1] at e; simp [Value.ownBlock] at e
   ·rw [e1] at e
    have : g2 = g := by simpa [Value.ownBlock] using e
    subst this
    rw [k3] at e3
    injection e3 with e3
    injection e3 with _ e3
    exact absurd e3 (by decide)
 refine ⟨?_, ?_, hint h.fa, fun i hi => ?_, h.lo⟩
 ·rw [heap_setCell_same w' p 2 _ _ vRu' (hpb.trans h.box)]; rfl
 ·rw [List.length_append, List.length_singleton, cellsR_push]
  exact ownsRow_setCell_other ho (fun e => by have := (ho.lt _ e).1; dsimp only at this; omega) _
 ·rw [List.length_append, List.length_singleton] at hi
  by_cases e : i = rs.length
  ·subst e
   have e2 : (rs ++ [r]).getD rs.length default = r := by simp
   rw [e2, if_pos rfl]
   exact ⟨hint hu, hn⟩
  ·have e2 : (rs ++ [r]).getD i default = rs.getD i default := by
    simp only [List.getD_eq_getElem?_getD, List.getElem?_append_left (show i < rs.length by omega)]
   rw [e2, if_neg e]
   obtain ⟨k1, k2⟩ := h.bd i (by omega)
   exact ⟨hint k1, k2⟩
/-- A rule joins, in this very world. -/
theorem PB.pushRg (h : PB w base p lits vFo vBe vOl vRu vFa rs vs fa) (hu : w.ownsRow base 3 1 u r.body.length (intsV r.body)) (hn : u.ownBlock = none ∨ u.ownBlock ≠ vFa.ownBlock)
  (hg : w.grownBy w' vRu.ownBlock) (ho : w'.ownsRow base 93 3 vRu' (rs.length + 1) (cellsR rs vs ++ [.int .i64 r.kind, .int .i64 r.head, u])) :
  PB (w'.setCell ⟨p, 2, none⟩ vRu') base p lits vFo vBe vOl vRu' vFa (rs ++ [r]) (fun i => if i = rs.length then u else vs i) fa := by
 have hlp := lt_of_block h.box
 have hk : ∀ g, g < w.heap.size → vRu.ownBlock ≠ some g → w'.heap[g]? = w.heap[g]? := fun g h1 h2 => hg.block g h1 (fun e => h2 e.symm)
 have hlo := h.lo
 have hpb := hk p hlp fun e => by have := (h.ru.lt p e).1; omega
 -- rows of ints stay
 have hint : ∀ {n : Nat} {v : Value} {xs : List Value}, w.ownsRow base 3 1 v n xs → (w'.setCell ⟨p, 2, none⟩ vRu').ownsRow base 3 1 v n xs := fun {n v xs} ho9 => by
  refine ⟨ho9.1, ?_⟩
  rcases ho9.2 with k1 | ⟨g, cap, cur, k1, k2, k3, k4⟩
  ·exact .inl k1
  ·refine .inr ⟨g, cap, cur, k1, k2, ?_, k4⟩
   rw [heap_setCell_other _ _ _ _ (by dsimp only; omega)]
   refine (hk g (lt_of_block k3) fun e => ?_).trans k3
   rcases h.ru.2 with ⟨e1, _⟩ | ⟨g2, c2, u2, e1, e2, e3, _⟩
   ·rw [e1] at e; simp [Value.ownBlock] at e
   ·rw [e1] at e
    have : g2 = g := by simpa [Value.ownBlock] using e
    subst this
    rw [k3] at e3
    injection e3 with e3
    injection e3 with _ e3
    exact absurd e3 (by decide)
 refine ⟨?_, ?_, hint h.fa, fun i hi => ?_, h.lo⟩
 ·rw [heap_setCell_same w' p 2 _ _ vRu' (hpb.trans h.box)]; rfl
 ·rw [List.length_append, List.length_singleton, cellsR_push]
  exact ownsRow_setCell_other ho (fun e => by have := (ho.lt _ e).1; dsimp only at this; omega) _
 ·rw [List.length_append, List.length_singleton] at hi
  by_cases e : i = rs.length
  ·subst e
   have e2 : (rs ++ [r]).getD rs.length default = r := by simp
   rw [e2, if_pos rfl]
   exact ⟨hint hu, hn⟩
  ·have e2 : (rs ++ [r]).getD i default = rs.getD i default := by
    simp only [List.getD_eq_getElem?_getD, List.getElem?_append_left (show i < rs.length by omega)]
   rw [e2, if_neg e]
   obtain ⟨k1, k2⟩ := h.bd i (by omega)
   exact ⟨hint k1, k2⟩
/-- A fact joins. -/
theorem PB.pushF (h : PB w base p lits vFo vBe vOl vRu vFa rs vs fa) {A : Obj} {x : Int} (hb0 : base ≤ w.heap.size) (hg : (w.alloc A).grownBy w' vFa.ownBlock) (ho : w'.ownsRow base 3 1 vFa' (fa.length + 1) (intsV fa ++ [.int .i64 x]))
  (hat : vFa'.ownBlock = vFa.ownBlock ∨ vFa'.ownBlock = some (w.alloc A).heap.size) :
  PB (w'.setCell ⟨p, 4, none⟩ vFa') base p lits vFo vBe vOl vRu vFa' rs vs (fa ++ [x]) := by
 have hlp := lt_of_block h.box
 have hk : ∀ g, g < w.heap.size → vFa.ownBlock ≠ some g → w'.heap[g]? = w.heap[g]? := fun g h1 h2 => (hg.block g (by simp; omega) (fun e => h2 e.symm)).trans (Below.heap_alloc _ _ _ h1)
 have hlo := h.lo
 have hpb := hk p hlp fun e => by have := (h.fa.lt p e).1; omega
 have hkeep : ∀ {e sz n : Nat} {v : Value} {xs : List Value}, w.ownsRow base e sz v n xs → (v.ownBlock = none ∨ v.ownBlock ≠ vFa.ownBlock) → (w'.setCell ⟨p, 4, none⟩ vFa').ownsRow base e sz v n xs := fun {e sz n v xs} ho9 hn9 => by
  refine ⟨ho9.1, ?_⟩
  rcases ho9.2 with k1 | ⟨g, cap, cur, k1, k2, k3, k4⟩
  ·exact .inl k1
  ·refine .inr ⟨g, cap, cur, k1, k2, ?_, k4⟩
   rw [heap_setCell_other _ _ _ _ (by dsimp only; omega)]
   refine (hk g (lt_of_block k3) fun e9 => ?_).trans k3
   rw [k1] at hn9
   rcases hn9 with h9 | h9
   ·simp [Value.ownBlock] at h9
   ·exact h9 (by rw [e9]; rfl)
 refine ⟨?_, hkeep h.ru ?_, ?_, fun i hi => ?_, h.lo⟩
 ·rw [heap_setCell_same w' p 4 _ _ vFa' (hpb.trans h.box)]; rfl
 ·-- rules' block is of another type
  cases ho1 : vRu.ownBlock with
  | none => exact .inl rfl
  | some g =>
   right
   intro e
   rcases h.ru.2 with ⟨e1, _⟩ | ⟨g2, c2, u2, e1, e2, e3, _⟩
   ·rw [e1] at ho1; simp [Value.ownBlock] at ho1
   ·rcases h.fa.2 with ⟨f1, _⟩ | ⟨g3, c3, u3, f1, f2, f3, _⟩
    ·rw [f1] at e; simp [Value.ownBlock] at e
    ·rw [e1] at ho1
     rw [f1] at e
     have k1 : g2 = g := by simpa [Value.ownBlock] using ho1
     have k2 : g = g3 := by simpa [Value.ownBlock] using e
     subst k1; subst k2
     rw [e3] at f3
     injection f3 with f3
     injection f3 with _ f3
     exact absurd f3 (by decide)
 ·rw [List.length_append, List.length_singleton]
  have e : intsV (fa ++ [x]) = intsV fa ++ [.int .i64 x] := by simp [intsV]
  rw [e]
  exact ownsRow_setCell_other ho (fun e => by have := (ho.lt _ e).1; dsimp only at this; omega) _
 ·obtain ⟨k1, k2⟩ := h.bd i hi
  refine ⟨hkeep k1 k2, ?_⟩
  rcases k2 with k2 | k2
  ·exact .inl k2
  ·rcases hat with e | e
   ·rw [e]; exact .inr k2
   ·right
    rw [e]
    intro e9
    have := (k1.lt _ e9).2
    simp at this
    omega
end
end Go.Proofs.Lx

namespace Go.Proofs.Lx
open Go Go.RowKit
set_option linter.unusedSimpArgs false
set_option linter.unusedVariables false
/-- What says adds. -/
def sayRs (m at9 : Nat) : List Rule := if m.testBit 0 then [] else (if m.testBit 1 then [] else [⟨1, at9, [(at9 : Int)]⟩]) ++ (if m.testBit 2 then [⟨2, at9, []⟩] else if m.testBit 3 then [] else [⟨2, at9, [(at9 : Int)]⟩])
def sayFs (m at9 : Nat) : List Int := if m.testBit 0 then [(at9 : Int)] else []
/-- Behind it: the part, and all other blocks as they were. -/
def Said (w w' : World) (base p : Nat) (lits : Int) (vFo vBe vOl vRu vFa : Value) (rs : List Rule) (fa : List Int) : Prop :=
 (∃ vRu' vFa' vs', PB w' base p lits vFo vBe vOl vRu' vFa' rs vs' fa ∧ (∀ g, vRu'.ownBlock = some g → vRu.ownBlock = some g ∨ w.heap.size ≤ g) ∧ (∀ g, vFa'.ownBlock = some g → vFa.ownBlock = some g ∨ w.heap.size ≤ g)) ∧ (w'.os = w.os ∧ w'.tape = w.tape ∧ w'.output = w.output ∧ w.heap.size ≤ w'.heap.size) ∧
  ∀ g, g < w.heap.size → g ≠ p → vRu.ownBlock ≠ some g → vFa.ownBlock ≠ some g → w'.heap[g]? = w.heap[g]?
set_option maxRecDepth 100000 in
set_option maxHeartbeats 1600000 in
theorem says_none (w : World) (base p at9 : Nat) (lits : Int) (vFo vBe vOl vRu vFa : Value) (rs : List Rule) (vs : Nat → Value) (fa : List Int) (h : PB w base p lits vFo vBe vOl vRu vFa rs vs fa) :
  Calls Tryz.prog 89 #[.pointer (some ⟨p, 0, none⟩), .int .i64 (at9 : Int), .int .u8 10] w (Ret fun r w' => r = .tuple #[] ∧ Said w w' base p lits vFo vBe vOl vRu vFa (rs ++ sayRs 10 at9) (fa ++ sayFs 10 at9)) := by
 have H := hid h
 have e1 : rs ++ sayRs 10 at9 = rs := by simp [sayRs, Nat.testBit]
 have e2 : fa ++ sayFs 10 at9 = fa := by simp [sayFs, Nat.testBit]
 rw [e1, e2]
 clear h e1 e2
 refine post_gen fun Q HQ => ?_
 go_enter Tryz.func89, Tryz.ntmps89
 go_wp2_with fail
 (try simp only [Exit.inBlock, Exit.then])
 refine bodyPost_end (v := .tuple #[]) (by simp [results, Tryz.results89, go_sem]; try rfl) rfl ?_
 exact Fin HQ ⟨rfl, ⟨_, _, _, H.out, fun g hg => .inl hg, fun g hg => .inl hg⟩, ⟨rfl, rfl, rfl, Nat.le_refl _⟩, fun g _ _ _ _ => rfl⟩
set_option maxRecDepth 100000 in
set_option maxHeartbeats 1600000 in
theorem says_fact (w : World) (base p at9 : Nat) (lits : Int) (vFo vBe vOl vRu vFa : Value) (rs : List Rule) (vs : Nat → Value) (fa : List Int) (h : PB w base p lits vFo vBe vOl vRu vFa rs vs fa) (hb0 : base ≤ w.heap.size) (hf : fa.length ≤ 100000) :
  Calls Tryz.prog 89 #[.pointer (some ⟨p, 0, none⟩), .int .i64 (at9 : Int), .int .u8 5] w (Ret fun r w' => r = .tuple #[] ∧ Said w w' base p lits vFo vBe vOl vRu vFa (rs ++ sayRs 5 at9) (fa ++ sayFs 5 at9)) := by
 have H := hid h
 have e1 : rs ++ sayRs 5 at9 = rs := by simp [sayRs, Nat.testBit]
 have e2 : fa ++ sayFs 5 at9 = fa ++ [(at9 : Int)] := by simp [sayFs, Nat.testBit]
 rw [e1, e2]
 have hlp := lt_of_block h.box
 have hlo := h.lo
 have c4 : w.cell? ⟨p, 4, none⟩ = some vFa := by rw [cell_of_row w p _ _ _ _ h.box]; rfl
 obtain ⟨i0, hi, hz0, hz1, hz2⟩ := info_parts infoI
 have Haft : Hid (∀ (cA : Obj) (w' : World), (w.alloc cA).grownBy w' vFa.ownBlock → w'.frozen? ⟨p, 4, none⟩ = false ∧ w'.cell? ⟨p, 4, none⟩ = some vFa) := hid fun cA w' hg => by
  have h9 := (hg.block p (by simp; omega) (fun e => by have := (H.out.fa.lt _ e.symm).1; omega)).trans ((Below.heap_alloc _ _ _ hlp).trans H.out.box)
  exact ⟨frozen_of_row w' p 4 _ _ h9, by rw [cell_of_row w' p 4 _ _ _ h9]; rfl⟩
 clear h e1 e2
 refine post_gen fun Q HQ => ?_
 go_enter Tryz.func89, Tryz.ntmps89
 go_wp2_with (at_builtin; refine wpList_append_own_at _ rfl _ _ 36 rfl base 3 i0 (.int .i64 0) 1 8 Tryz.underlying36 hi hz0 hz1 hz2 rfl (by decide) _ fa.length _ rfl (H.out.fa.alloc _) ⟨w.heap.size, 0, none⟩ 1 1 [.int .i64 (at9 : Int)] rfl rfl (cell_one_new _ _ _) (fun u hu => by simp at hu; subst hu; rfl) (by unfold maxLen; omega) (by omega) (by simp; omega) ?_; intro v' w' hown hgrow hnil hat; obtain ⟨gn, cn, rfl⟩ := own_form hown; obtain ⟨hqF, hq2⟩ := Haft.out _ w' hgrow)
 refine bodyPost_ret (v := .tuple #[]) (by simp [results, Tryz.results89, go_sem]; try rfl) rfl ?_
 have hp := H.out.pushF hb0 hgrow hown hat
 have hsz : w.heap.size + 1 ≤ w'.heap.size := by simpa using hgrow.size
 refine Fin HQ ⟨rfl, ⟨_, _, _, hp, fun g hg => .inl hg, fun g hg => ?_⟩, ⟨hgrow.os, hgrow.tape, hgrow.output, by simp; omega⟩, fun g h1 h2 h3 h4 => ?_⟩
 ·rcases hat with e | e
  ·exact .inl (e ▸ hg)
  ·right; rw [e] at hg; simp at hg; omega
 ·rw [heap_setCell_other _ _ _ _ h2]
  exact (hgrow.block g (by simp; omega) (fun e => h4 e.symm)).trans (Below.heap_alloc _ _ _ h1)
theorem cell_three_new (w : World) (x y z : Value) (t : TypeId) : ∀ j u, [x, y, z][j]? = some u → (w.alloc (.cells #[x, y, z] t)).cell? ((⟨w.heap.size, 0, none⟩ : Addr).add j) = some u := by
 intro j u hj
 have hn := heap_alloc_new w (.cells #[x, y, z] t)
 rw [add_plain, cell_of_row _ _ j _ _ _ hn]
 simpa using hj
theorem own_formL {w : World} {base e size n : Nat} {v : Value} {xs : List Value} (h : w.ownsRow base e size v (n + 1) xs) : ∃ g c, v = .slice (some ⟨g, 0, none⟩) (n + 1) c := by
 rcases h.2 with ⟨_, h2⟩ | ⟨g, cap, cur, h1, _⟩
 ·omega
 ·exact ⟨g, cap, h1⟩
set_option maxRecDepth 100000 in
set_option maxHeartbeats 1600000 in
theorem says_plain (w : World) (base p at9 : Nat) (lits : Int) (vFo vBe vOl vRu vFa : Value) (rs : List Rule) (vs : Nat → Value) (fa : List Int) (h : PB w base p lits vFo vBe vOl vRu vFa rs vs fa) (hb0 : base ≤ w.heap.size) (hf : rs.length ≤ 100000) :
  Calls Tryz.prog 89 #[.pointer (some ⟨p, 0, none⟩), .int .i64 (at9 : Int), .int .u8 6] w (Ret fun r w' => r = .tuple #[] ∧ Said w w' base p lits vFo vBe vOl vRu vFa (rs ++ sayRs 6 at9) (fa ++ sayFs 6 at9)) := by
 have H := hid h
 have e1 : rs ++ sayRs 6 at9 = rs ++ [⟨2, at9, []⟩] := by simp [sayRs, Nat.testBit]
 have e2 : fa ++ sayFs 6 at9 = fa := by simp [sayFs, Nat.testBit]
 rw [e1, e2]
 have hlp := lt_of_block h.box
 have hlo := h.lo
 have c2 : w.cell? ⟨p, 2, none⟩ = some vRu := by rw [cell_of_row w p _ _ _ _ h.box]; rfl
 obtain ⟨i0, hi, hz0, hz1, hz2⟩ := info_parts infoRl
 have Haft : Hid (∀ (cA : Obj) (w' : World), (w.alloc cA).grownBy w' vRu.ownBlock → w'.frozen? ⟨p, 2, none⟩ = false ∧ w'.cell? ⟨p, 2, none⟩ = some vRu) := hid fun cA w' hg => by
  have h9 := (hg.block p (by simp; omega) (fun e => by have := (H.out.ru.lt _ e.symm).1; omega)).trans ((Below.heap_alloc _ _ _ hlp).trans H.out.box)
  exact ⟨frozen_of_row w' p 2 _ _ h9, by rw [cell_of_row w' p 2 _ _ _ h9]; rfl⟩
 clear h e1 e2
 refine post_gen fun Q HQ => ?_
 go_enter Tryz.func89, Tryz.ntmps89
 go_wp2_with (at_builtin; refine wpList_append_own_at _ rfl _ _ 23 rfl base 93 i0 (.agg #[.int .i64 0, .int .i64 0, .slice none 0 0]) 3 40 Tryz.underlying23 hi hz0 hz1 hz2 rfl (by decide) _ rs.length _ rfl (H.out.ru.alloc _) ⟨w.heap.size, 0, none⟩ 1 1 [.int .i64 2, .int .i64 (at9 : Int), .slice none 0 0] rfl rfl (cell_three_new _ _ _ _ _) (fun u hu => by simp at hu; rcases hu with rfl | rfl | rfl <;> rfl) (by unfold maxLen; omega) (by omega) (by simp; omega) ?_; intro v' w' hown hgrow hnil hat; obtain ⟨gn, cn, rfl⟩ := own_formL hown; obtain ⟨hqF, hq2⟩ := Haft.out _ w' hgrow)
 (try simp only [Exit.inBlock, Exit.then])
 refine bodyPost_end (v := .tuple #[]) (by simp [results, Tryz.results89, go_sem]; try rfl) rfl ?_
 have hp := H.out.pushR (r := ⟨2, at9, []⟩) (u := .slice none 0 0) (World.ownsRow_nil _ _ _ _) (.inl rfl) hgrow hown
 have hsz : w.heap.size + 1 ≤ w'.heap.size := by simpa using hgrow.size
 refine Fin HQ ⟨rfl, ⟨_, _, _, hp, fun g hg => ?_, fun g hg => .inl hg⟩, ⟨hgrow.os, hgrow.tape, hgrow.output, by simp; omega⟩, fun g h1 h2 h3 h4 => ?_⟩
 ·rcases hat with e | e
  ·exact .inl (e ▸ hg)
  ·right; rw [e] at hg; simp at hg; omega
 ·rw [heap_setCell_other _ _ _ _ h2]
  exact (hgrow.block g (by simp; omega) (fun e => h3 e.symm)).trans (Below.heap_alloc _ _ _ h1)
end Go.Proofs.Lx
