/- Parts of the proof: If. delta.twin: the statement that lays the copy's rows, in whatever order its operations come. Printed by gen_twin.py. No condition. -/
import Derived.Test.YtbidjiopnddldaaGreatP28
import Derived.Test.YtbidjiopnddldaaGreatP3
import Derived.Test.YtbidjiopnddldaaGreatP21
import Derived.Deep.DeepCutAuto
import Derived.Deep.RegionHeld3
namespace Go.Proofs.Lx
open Go Go.RowKit Go.Proofs.Tj
set_option linter.unusedVariables false
set_option linter.unusedSimpArgs false
theorem kgen {K : Act → World → Prop} {a : Act} {w : World} (P : World → Prop) (h : P w) (k : ∀ w', P w' → K a w') : K a w := k w h
/-- What the statement leaves: the copy's block, its rows. -/
structure TD (wx W : World) (nF nB : Nat) (rs : List Rule) (gF gB g3 : Nat) (v : Value) (vs : Nat → Value) (lits : Int) : Prop where
 below : Below wx.heap.size wx W
 hF : wx.heap.size ≤ gF ∧ W.heap[gF]? = some (nilRows nF)
 hB : wx.heap.size ≤ gB ∧ W.heap[gB]? = some (nilRows nB)
 h3 : wx.heap.size ≤ g3 ∧ W.heap[g3]? = some (.cells #[.int .i64 lits, .slice (some ⟨gF, 0, none⟩) nF nF, v, .slice (some ⟨gB, 0, none⟩) nB nB] 25)
 row : W.ownsRow wx.heap.size 93 3 v rs.length (cellsR rs vs)
 bod : ∀ i, i < rs.length → RdI wx (vs i) (rs.getD i default).body
 ne : gF ≠ gB ∧ gF ≠ g3 ∧ gB ≠ g3
theorem TW.done {wx W : World} {nF nB gF gB g3 : Nat} {rs : List Rule} {v : Value} {vs : Nat → Value} (h : TW wx W nF nB rs (some gF) (some gB) (some g3) (some (v, vs))) (lits : Int) :
  TD wx ((((W.setCell ⟨g3, 0, none⟩ (.int .i64 lits)).setCell ⟨g3, 1, none⟩ (.slice (some ⟨gF, 0, none⟩) nF nF)).setCell ⟨g3, 2, none⟩ v).setCell ⟨g3, 3, none⟩ (.slice (some ⟨gB, 0, none⟩) nB nB)) nF nB rs gF gB g3 v vs lits := by
 obtain ⟨f1, f2⟩ := h.atF gF rfl
 obtain ⟨b1, b2⟩ := h.atB gB rfl
 obtain ⟨t1, t2⟩ := h.at3 g3 rfl
 obtain ⟨r1, r2⟩ := h.atR v vs rfl
 have n1 : gF ≠ g3 := fun e => by subst e; rw [f2] at t2; unfold nilRows at t2; injection t2 with t2; injection t2 with _ t3; exact absurd t3 (by decide)
 have n2 : gB ≠ g3 := fun e => by subst e; rw [b2] at t2; unfold nilRows at t2; injection t2 with t2; injection t2 with _ t3; exact absurd t3 (by decide)
 have hk : ∀ k, k ≠ g3 → ((((W.setCell ⟨g3, 0, none⟩ (.int .i64 lits)).setCell ⟨g3, 1, none⟩ (.slice (some ⟨gF, 0, none⟩) nF nF)).setCell ⟨g3, 2, none⟩ v).setCell ⟨g3, 3, none⟩ (.slice (some ⟨gB, 0, none⟩) nB nB)).heap[k]? = W.heap[k]? := fun k hk =>
  (heap_setCell_other _ _ k _ (by dsimp only; omega)).trans ((heap_setCell_other _ _ k _ (by dsimp only; omega)).trans ((heap_setCell_other _ _ k _ (by dsimp only; omega)).trans (heap_setCell_other _ _ k _ (by dsimp only; omega))))
 have nR : v.ownBlock ≠ some g3 := fun e => own_ne_tag r1 t2 (by decide) e
 have j1 := heap_setCell_same _ g3 0 _ _ (.int .i64 lits) t2
 have j2 := heap_setCell_same _ g3 1 _ _ (.slice (some ⟨gF, 0, none⟩) nF nF) j1
 have j3 := heap_setCell_same _ g3 2 _ _ v j2
 have j4 := heap_setCell_same _ g3 3 _ _ (.slice (some ⟨gB, 0, none⟩) nB nB) j3
 refine ⟨((((h.below.setCell t1 _).setCell t1 _).setCell t1 _).setCell t1 _), ⟨f1, (hk _ n1).trans f2⟩, ⟨b1, (hk _ n2).trans b2⟩, ⟨t1, j4.trans ?_⟩, ownsRow_setCell_other (ownsRow_setCell_other (ownsRow_setCell_other (ownsRow_setCell_other r1 nR _) nR _) nR _) nR _, r2, h.ne _ _ rfl rfl, n1, n2⟩
 simp
theorem cloneR0_any (w0 w : World) (v : Value) (rs : List Rule) (hv : RdRs w0 v rs) (hb0 : Below w0.heap.size w0 w) (h8 : rs.length * 40 ≤ 140737488355328) :
  Calls Tryz.prog 59 #[v] w (Ret fun r w' => ∃ vs : Nat → Value, w'.ownsRow w.heap.size 93 3 r rs.length (cellsR rs vs) ∧ (∀ i, i < rs.length → RdI w0 (vs i) (rs.getD i default).body) ∧ Below w.heap.size w w') := by
 obtain ⟨A, c, rfl, hc, hb, hr⟩ := hv
 have hne := @Lib.run_eql_slice_nil Tryz.prog
 obtain ⟨i0, hi, hz0, hz1, hz2⟩ := info_parts infoRl
 refine post_gen fun Q HQ => ?_
 cases A with
 | none =>
  have hM : rs.length = 0 := by
   rcases Nat.eq_zero_or_pos rs.length with h | h
   ·exact h
   ·obtain ⟨ad, _, h1, _⟩ := hr 0 h; cases h1
  have HM := hid (List.eq_nil_of_length_eq_zero hM)
  have hM0 : rs.length ≤ 0 := by omega
  clear hM hr
  generalize hL : rs.length = L at *
  have HL := hid hL
  clear hL
  go_enter Tryz.func59, Tryz.ntmps59
  go_wp2
  go_ret
  refine Fin HQ ⟨fun _ => .int .i64 0, ?_, fun i hi => ?_, ext_refl _⟩
  ·rw [HM.out]; rw [HM.out] at HL; obtain rfl : 0 = L := HL.out; exact World.ownsRow_nil _ _ _ _
  ·rw [HM.out] at HL; have : 0 = L := HL.out; omega
 | some ad =>
  have hch : ∀ i, ∃ u, i < rs.length → w.cell? (ad.add (i * 3)) = some (.int .i64 (rs.getD i default).kind) ∧ w.cell? (ad.add (i * 3 + 1)) = some (.int .i64 (rs.getD i default).head) ∧ w.cell? (ad.add (i * 3 + 2)) = some u ∧ u.oneCell' = true ∧ RdI w0 u (rs.getD i default).body := fun i => by
   by_cases h : i < rs.length
   ·obtain ⟨ad', B, cB, e, h0, h1, h2, h3, h4, h5⟩ := hr.atRule h
    cases e
    have e2 : rs.getD i default = rs[i] := by simp [h]
    rw [e2]
    exact ⟨_, fun _ => ⟨cell_ext hb0 h0, by rw [add_field _ _ _ (by omega)]; exact cell_ext hb0 h1, by rw [add_field _ _ _ (by omega)]; exact cell_ext hb0 h2, rfl, B, cB, rfl, h3, h4, h5⟩⟩
   ·exact ⟨.int .i64 0, fun h9 => absurd h9 h⟩
  obtain ⟨vs, hvs⟩ := Classical.axiomOfChoice hch
  have hn : ∀ (W : World), Below w.heap.size w W → ∀ j u, (cellsR rs vs)[j]? = some u → W.cell? (ad.add j) = some u := by
   intro W hW j u hj
   have hjl := (List.getElem?_eq_some_iff.1 hj).1
   rw [cellsR_length] at hjl
   have hi3 : j / 3 < rs.length := by omega
   obtain ⟨k0, k1, k2⟩ := cellsR_at (rs := rs) (vs := vs) hi3
   obtain ⟨h0, h1, h2, _, _⟩ := hvs (j / 3) hi3
   have hq : j = j / 3 * 3 ∨ j = j / 3 * 3 + 1 ∨ j = j / 3 * 3 + 2 := by omega
   rcases hq with e | e | e
   ·rw [e] at hj ⊢; rw [k0] at hj; cases hj; exact cell_ext hW h0
   ·rw [e] at hj ⊢; rw [k1] at hj; cases hj; exact cell_ext hW h1
   ·rw [e] at hj ⊢; rw [k2] at hj; cases hj; exact cell_ext hW h2
  have Hn := hid hn
  have Hlen := hid (cellsR_length rs vs)
  have Hone : Hid (∀ u ∈ cellsR rs vs, u.oneCell' = true) := hid fun u hu => by
   unfold cellsR at hu
   obtain ⟨i, hi9, hu⟩ := List.mem_flatMap.1 hu
   have hi9 := List.mem_range.1 hi9
   simp only [List.mem_cons, List.not_mem_nil, or_false] at hu
   rcases hu with rfl | rfl | rfl
   ·rfl
   ·rfl
   ·exact (hvs i hi9).2.2.2.1
  have Hvs : Hid (∀ i, i < rs.length → RdI w0 (vs i) (rs.getD i default).body) := hid fun i h => (hvs i h).2.2.2.2
  clear hn hr hch hvs
  generalize hCS : cellsR rs vs = CS at *
  have HCS := hid hCS
  clear hCS
  go_enter Tryz.func59, Tryz.ntmps59
  go_wp2_with (at_builtin; refine wpList_append_own _ rfl _ _ 23 rfl w.heap.size 93 i0 (.agg #[.int .i64 0, .int .i64 0, .slice none 0 0]) 3 40 Tryz.underlying23 hi hz0 hz1 hz2 rfl (by decide) _ 0 [] rfl (World.ownsRow_made w #[] 0 (Nat.le_refl _) (by unfold maxLen; omega) rfl) ad rs.length c CS rfl Hlen.out (Hn.out _ (ext_alloc _ _)) Hone.out ?c2 ?c3 ?c4 ?_)
  case c2 => unfold maxLen; omega
  case c3 => omega
  case c4 => simp
  intro v' w1 hown hgrow _
  go_wp2
  go_ret
  refine Fin HQ ⟨vs, ?_, Hvs.out, ?_⟩
  ·rw [HCS.out]; simpa using hown
  ·exact ((ext_alloc w _).grown hgrow (by simp) (fun k hk => by simp [Value.ownBlock] at hk; omega))
noncomputable def twBody : Code := (Tryz.f35.body).getD .skip
noncomputable def twR1C : Code := dF (dS twBody)
set_option maxRecDepth 1000000 in
set_option maxHeartbeats 60000000 in
theorem twR1 (wx : World) (p : Nat) (AF AR AB : Option Addr) (cF cR cB : Nat) (T : Th) (hp : wx.heap[p]? = some (.cells #[.int .i64 T.lits, .slice AF T.foes.length cF, .slice AR T.rules.length cR, .slice AB T.beats.length cB] 25)) (hR : RdRs wx (.slice AR T.rules.length cR) T.rules) (hnF : T.foes.length ≤ 1048576) (hnB : T.beats.length ≤ 1048576) (hnR : T.rules.length ≤ 1048576) (Q' : Exit → Act → World → Prop)
  (u0 u2 u3 u4 u5 u6 u7 u8 u9 u10 u11 u12 u13 u14 u15 u16 u17 u18 u19 u20 u21 u22 u23 u24 u25 u26 u27 u28 u29 u30 u31 u32 u33 u34 u35 u36 u37 u38 u39 u40 u41 u42 u43 u44 u45 u46 u47 u48 u49 u50 u51 u52 u53 u54 u55 u56 u57 u58 u59 u60 u61 u62 u63 u64 u65 u66 u67 u68 u69 u70 u71 u72 : Value)
  (hK : ∀ (x9 x10 x11 x12 x13 x14 x15 x16 x17 x18 x19 x20 x21 x22 : Value) (wy : World) (gF gB g3 : Nat) (v : Value) (vs : Nat → Value), TD wx wy T.foes.length T.beats.length T.rules gF gB g3 v vs T.lits → Q' .normal ⟨#[u0, .pointer (some ⟨p, 0, none⟩), u2, .pointer (some ⟨g3, 0, none⟩), u4, u5, u6, u7, u8, x9, x10, x11, x12, x13, x14, x15, x16, x17, x18, x19, x20, x21, x22, u23, u24, u25, u26, u27, u28, u29, u30, u31, u32, u33, u34, u35, u36, u37, u38, u39, u40, u41, u42, u43, u44, u45, u46, u47, u48, u49, u50, u51, u52, u53, u54, u55, u56, u57, u58, u59, u60, u61, u62, u63, u64, u65, u66, u67, u68, u69, u70, u71, u72], []⟩ wy) :
  Code.wp Tryz.prog twR1C Q' ⟨#[u0, .pointer (some ⟨p, 0, none⟩), u2, u3, u4, u5, u6, u7, u8, u9, u10, u11, u12, u13, u14, u15, u16, u17, u18, u19, u20, u21, u22, u23, u24, u25, u26, u27, u28, u29, u30, u31, u32, u33, u34, u35, u36, u37, u38, u39, u40, u41, u42, u43, u44, u45, u46, u47, u48, u49, u50, u51, u52, u53, u54, u55, u56, u57, u58, u59, u60, u61, u62, u63, u64, u65, u66, u67, u68, u69, u70, u71, u72], []⟩ wx := by
 have HK := hid hK
 clear hK
 conv => arg 2; whnf
 have hplt := lt_of_block hp
 have HS : Hid (∀ W : World, Below wx.heap.size wx W → (fun w' : World => w'.cell? ⟨p, 0, none⟩ = some (.int .i64 T.lits) ∧ w'.cell? ⟨p, 1, none⟩ = some (.slice AF T.foes.length cF) ∧ w'.cell? ⟨p, 2, none⟩ = some (.slice AR T.rules.length cR) ∧ w'.cell? ⟨p, 3, none⟩ = some (.slice AB T.beats.length cB)) W) := hid fun W hW => by
  have hp2 := (hW.block p hplt).trans hp
  refine ⟨?_, ?_, ?_, ?_⟩ <;> rw [cell_of_row W p _ _ _ _ hp2] <;> rfl
 have HR := hid hR
 have mk1 := mkLd T.foes.length hnF
 have mk2 := mkLd T.beats.length hnB
 have Htw0 := hid (TW.start wx T.foes.length T.beats.length T.rules).drew
 clear hp hR
 refine wp_region_noPanic ?_
 refine wp_region_held_drew (S := (fun w' : World => w'.cell? ⟨p, 0, none⟩ = some (.int .i64 T.lits) ∧ w'.cell? ⟨p, 1, none⟩ = some (.slice AF T.foes.length cF) ∧ w'.cell? ⟨p, 2, none⟩ = some (.slice AR T.rules.length cR) ∧ w'.cell? ⟨p, 3, none⟩ = some (.slice AB T.beats.length cB))) (by kernel_rfl) ?_ (fun hHeld => ?_)
 ·exact HS.out _ (ext_refl wx).drew
 obtain ⟨W0, hW0⟩ : ∃ W, W = wx.drew := ⟨_, rfl⟩
 rw [← hW0] at Htw0 ⊢
 clear hW0
 have hHeld := HS.out _ Htw0.out.below
 dsimp only at hHeld
 obtain ⟨e0, e1, e2, e3⟩ := hHeld
 have hHeld := HS.out _ Htw0.out.below
 dsimp only at hHeld
 refine wpAnyH_take (i := 0) (v := ?v1) (by simp only [List.getElem?_toArray, List.getElem?_cons_zero, List.getElem?_cons_succ]; rfl) (by kernel_rfl) (by kernel_rfl) (by kernel_rfl) (fun _ _ _ h => h) (Or.inl ⟨by rfl, ?hy1⟩) (by assumption) ?rest1
 case hy1 => (intro w hSw; (try dsimp only at hSw); go_simp) <;> try with_reducible rfl
 simp only [Act.put, List.setIfInBounds_toArray, List.set_cons_zero, List.set_cons_succ]
 refine wpAnyH_take (i := 1) (v := ?v2) (by simp only [List.getElem?_toArray, List.getElem?_cons_zero, List.getElem?_cons_succ]; rfl) (by kernel_rfl) (by kernel_rfl) (by kernel_rfl) (fun _ _ _ h => h) (Or.inl ⟨by rfl, ?hy2⟩) (by assumption) ?rest2
 case hy2 => (intro w hSw; (try dsimp only at hSw); go_simp) <;> try with_reducible rfl
 simp only [Act.put, List.setIfInBounds_toArray, List.set_cons_zero, List.set_cons_succ]
 refine wpAnyH_take (i := 2) (v := ?v3) (by simp only [List.getElem?_toArray, List.getElem?_cons_zero, List.getElem?_cons_succ]; rfl) (by kernel_rfl) (by kernel_rfl) (by kernel_rfl) (fun _ _ _ h => h) (Or.inl ⟨by rfl, ?hy3⟩) (by assumption) ?rest3
 case hy3 => (intro w hSw; (try dsimp only at hSw); go_simp) <;> try with_reducible rfl
 simp only [Act.put, List.setIfInBounds_toArray, List.set_cons_zero, List.set_cons_succ]
 refine wpAnyH_take (i := 3) (v := ?v4) (by simp only [List.getElem?_toArray, List.getElem?_cons_zero, List.getElem?_cons_succ]; rfl) (by kernel_rfl) (by kernel_rfl) (by kernel_rfl) (fun _ _ _ h => h) (Or.inl ⟨by rfl, ?hy4⟩) (by assumption) ?rest4
 case hy4 => (intro w hSw; (try dsimp only at hSw); go_simp) <;> try with_reducible rfl
 simp only [Act.put, List.setIfInBounds_toArray, List.set_cons_zero, List.set_cons_succ]
 refine wpAnyH_take (i := 4) (v := ?v5) (by simp only [List.getElem?_toArray, List.getElem?_cons_zero, List.getElem?_cons_succ]; rfl) (by kernel_rfl) (by kernel_rfl) (by kernel_rfl) (fun _ _ _ h => h) (Or.inl ⟨by rfl, ?hy5⟩) (by assumption) ?rest5
 case hy5 => (intro w hSw; (try dsimp only at hSw); go_simp) <;> try with_reducible rfl
 simp only [Act.put, List.setIfInBounds_toArray, List.set_cons_zero, List.set_cons_succ]
 refine wpAnyH_take (i := 6) (v := ?v6) (by simp only [List.getElem?_toArray, List.getElem?_cons_zero, List.getElem?_cons_succ]; rfl) (by kernel_rfl) (by kernel_rfl) (by kernel_rfl) (fun _ _ _ h => h) (Or.inl ⟨by rfl, ?hy6⟩) (by assumption) ?rest6
 case hy6 => (intro w hSw; (try dsimp only at hSw); go_simp) <;> try with_reducible rfl
 simp only [Act.put, List.setIfInBounds_toArray, List.set_cons_zero, List.set_cons_succ]
 refine wpAnyH_take (i := 7) (v := ?v7) (by simp only [List.getElem?_toArray, List.getElem?_cons_zero, List.getElem?_cons_succ]; rfl) (by kernel_rfl) (by kernel_rfl) (by kernel_rfl) (fun _ _ _ h => h) (Or.inl ⟨by rfl, ?hy7⟩) (by assumption) ?rest7
 case hy7 => (intro w hSw; (try dsimp only at hSw); go_simp) <;> try with_reducible rfl
 simp only [Act.put, List.setIfInBounds_toArray, List.set_cons_zero, List.set_cons_succ]
 refine wpAnyH_take (i := 9) (v := ?v8) (by simp only [List.getElem?_toArray, List.getElem?_cons_zero, List.getElem?_cons_succ]; rfl) (by kernel_rfl) (by kernel_rfl) (by kernel_rfl) (fun _ _ _ h => h) (Or.inl ⟨by rfl, ?hy8⟩) (by assumption) ?rest8
 case hy8 => (intro w hSw; (try dsimp only at hSw); go_simp) <;> try with_reducible rfl
 simp only [Act.put, List.setIfInBounds_toArray, List.set_cons_zero, List.set_cons_succ]
 refine wpAnyH_take (i := 10) (v := ?v9) (by simp only [List.getElem?_toArray, List.getElem?_cons_zero, List.getElem?_cons_succ]; rfl) (by kernel_rfl) (by kernel_rfl) (by kernel_rfl) (fun _ _ _ h => h) (Or.inl ⟨by rfl, ?hy9⟩) (by assumption) ?rest9
 case hy9 => (intro w hSw; (try dsimp only at hSw); go_simp) <;> try with_reducible rfl
 simp only [Act.put, List.setIfInBounds_toArray, List.set_cons_zero, List.set_cons_succ]
 refine wpAnyH_take (i := 11) (v := ?v10) (by simp only [List.getElem?_toArray, List.getElem?_cons_zero, List.getElem?_cons_succ]; rfl) (by kernel_rfl) (by kernel_rfl) (by kernel_rfl) (fun _ _ _ h => h) (Or.inl ⟨by rfl, ?hy10⟩) (by assumption) ?rest10
 case hy10 => (intro w hSw; (try dsimp only at hSw); go_simp) <;> try with_reducible rfl
 simp only [Act.put, List.setIfInBounds_toArray, List.set_cons_zero, List.set_cons_succ]
 refine wpAnyH_ready (rs := [5, 8, 12, 14]) (by kernel_rfl) (by simp) ?_
 refine AllReadyH.cons (by simp only [List.getElem?_toArray, List.getElem?_cons_zero, List.getElem?_cons_succ]; rfl) (fun K9 hK9 => ?_) ?_
 rotate_left
 refine AllReadyH.cons (by simp only [List.getElem?_toArray, List.getElem?_cons_zero, List.getElem?_cons_succ]; rfl) (fun K9 hK9 => ?_) ?_
 rotate_left
 refine AllReadyH.cons (by simp only [List.getElem?_toArray, List.getElem?_cons_zero, List.getElem?_cons_succ]; rfl) (fun K9 hK9 => ?_) ?_
 rotate_left
 refine AllReadyH.cons (by simp only [List.getElem?_toArray, List.getElem?_cons_zero, List.getElem?_cons_succ]; rfl) (fun K9 hK9 => ?_) ?_
 rotate_left
 exact AllReadyH.nil
 ·skip
  go_simp
  refine kgen (fun W => TW wx W T.foes.length T.beats.length T.rules (some W0.heap.size) none none none) (Htw0.out.mkF) (fun W1 htw => ?_)
  have Htw1 := hid htw
  clear htw
  refine hK9.out _ _ ?_ (fun hHeld => ?_)
  ·exact HS.out _ Htw1.out.below
  clear hK9 K9
  try simp only [Act.put, List.setIfInBounds_toArray, List.set_cons_zero, List.set_cons_succ]
  refine wpAnyH_ready (rs := [8, 12, 14]) (by kernel_rfl) (by simp) ?_
  refine AllReadyH.cons (by simp only [List.getElem?_toArray, List.getElem?_cons_zero, List.getElem?_cons_succ]; rfl) (fun K9 hK9 => ?_) ?_
  rotate_left
  refine AllReadyH.cons (by simp only [List.getElem?_toArray, List.getElem?_cons_zero, List.getElem?_cons_succ]; rfl) (fun K9 hK9 => ?_) ?_
  rotate_left
  refine AllReadyH.cons (by simp only [List.getElem?_toArray, List.getElem?_cons_zero, List.getElem?_cons_succ]; rfl) (fun K9 hK9 => ?_) ?_
  rotate_left
  exact AllReadyH.nil
  ·skip
   go_simp
   refine (cloneR0_any wx W1 _ T.rules HR.out Htw1.out.below (by omega)).mono ?_
   rintro e Wc2 ⟨_, rfl, vs2, hown2, hbod2, hbl2⟩
   obtain ⟨A2, c2, rfl⟩ := own_form0 hown2
   go_simp
   refine kgen (fun W => TW wx W T.foes.length T.beats.length T.rules (some W0.heap.size) none none (some (.slice A2 T.rules.length c2, vs2))) (Htw1.out.clone hown2 hbod2 hbl2) (fun W2 htw => ?_)
   have Htw2 := hid htw
   clear htw
   refine hK9.out _ _ ?_ (fun hHeld => ?_)
   ·exact HS.out _ Htw2.out.below
   clear hK9 K9
   try simp only [Act.put, List.setIfInBounds_toArray, List.set_cons_zero, List.set_cons_succ]
   refine wpAnyH_ready (rs := [12, 14]) (by kernel_rfl) (by simp) ?_
   refine AllReadyH.cons (by simp only [List.getElem?_toArray, List.getElem?_cons_zero, List.getElem?_cons_succ]; rfl) (fun K9 hK9 => ?_) ?_
   rotate_left
   refine AllReadyH.cons (by simp only [List.getElem?_toArray, List.getElem?_cons_zero, List.getElem?_cons_succ]; rfl) (fun K9 hK9 => ?_) ?_
   rotate_left
   exact AllReadyH.nil
   ·skip
    go_simp
    refine kgen (fun W => TW wx W T.foes.length T.beats.length T.rules (some W0.heap.size) (some W2.heap.size) none (some (.slice A2 T.rules.length c2, vs2))) (Htw2.out.mkB) (fun W3 htw => ?_)
    have Htw3 := hid htw
    clear htw
    refine hK9.out _ _ ?_ (fun hHeld => ?_)
    ·exact HS.out _ Htw3.out.below
    clear hK9 K9
    try simp only [Act.put, List.setIfInBounds_toArray, List.set_cons_zero, List.set_cons_succ]
    refine wpAnyH_take (i := 13) (v := ?v11) (by simp only [List.getElem?_toArray, List.getElem?_cons_zero, List.getElem?_cons_succ]; rfl) (by kernel_rfl) (by kernel_rfl) (by kernel_rfl) (fun _ _ _ h => h) (Or.inl ⟨by rfl, ?hy11⟩) (by assumption) ?rest11
    case hy11 => (intro w hSw; (try dsimp only at hSw); go_simp) <;> try with_reducible rfl
    simp only [Act.put, List.setIfInBounds_toArray, List.set_cons_zero, List.set_cons_succ]
    refine wpAnyH_ready (rs := [14]) (by kernel_rfl) (by simp) ?_
    refine AllReadyH.cons (by simp only [List.getElem?_toArray, List.getElem?_cons_zero, List.getElem?_cons_succ]; rfl) (fun K9 hK9 => ?_) ?_
    rotate_left
    exact AllReadyH.nil
    go_simp
    refine kgen (fun W => TW wx W T.foes.length T.beats.length T.rules (some W0.heap.size) (some W2.heap.size) (some W3.heap.size) (some (.slice A2 T.rules.length c2, vs2))) (Htw3.out.mk3) (fun W4 htw => ?_)
    have Htw4 := hid htw
    clear htw
    refine hK9.out _ _ ?_ (fun hHeld => ?_)
    ·exact HS.out _ Htw4.out.below
    clear hK9 K9
    try simp only [Act.put, List.setIfInBounds_toArray, List.set_cons_zero, List.set_cons_succ]
    refine wpAnyH_ready (rs := [15]) (by kernel_rfl) (by simp) ?_
    refine AllReadyH.cons (by simp only [List.getElem?_toArray, List.getElem?_cons_zero, List.getElem?_cons_succ]; rfl) (fun K9 hK9 => ?_) ?_
    rotate_left
    exact AllReadyH.nil
    have t2 := (Htw4.out.at3 _ rfl).2
    have p0 := frozen_of_row W4 _ 0 _ _ t2
    have p1 := frozen_of_row W4 _ 1 _ _ t2
    have p2 := frozen_of_row W4 _ 2 _ _ t2
    have p3 := frozen_of_row W4 _ 3 _ _ t2
    have q0 : W4.cell? ⟨W3.heap.size, 0, none⟩ = some ((.int .i64 0)) := by rw [cell_of_row W4 _ 0 _ _ _ t2]; rfl
    have q1 : W4.cell? ⟨W3.heap.size, 1, none⟩ = some ((.slice none 0 0)) := by rw [cell_of_row W4 _ 1 _ _ _ t2]; rfl
    have q2 : W4.cell? ⟨W3.heap.size, 2, none⟩ = some ((.slice none 0 0)) := by rw [cell_of_row W4 _ 2 _ _ _ t2]; rfl
    have q3 : W4.cell? ⟨W3.heap.size, 3, none⟩ = some ((.slice none 0 0)) := by rw [cell_of_row W4 _ 3 _ _ _ t2]; rfl
    clear t2
    go_simp
    refine kgen (fun W => TD wx W T.foes.length T.beats.length T.rules (W0.heap.size) (W2.heap.size) (W3.heap.size) (.slice A2 T.rules.length c2) vs2 T.lits) (Htw4.out.done T.lits) (fun W5 htd => ?_)
    refine hK9.out _ _ ?_ (fun hHeld => ?_)
    ·exact HS.out _ htd.below
    clear hK9 K9
    try simp only [Act.put, List.setIfInBounds_toArray, List.set_cons_zero, List.set_cons_succ]
    refine wpAnyH_done (by kernel_rfl) (NoPanic.normal ?_) _
    exact HK.out _ _ _ _ _ _ _ _ _ _ _ _ _ _ _ _ _ _ _ _ htd
   ·skip
    go_simp
    refine kgen (fun W => TW wx W T.foes.length T.beats.length T.rules (some W0.heap.size) none (some W2.heap.size) (some (.slice A2 T.rules.length c2, vs2))) (Htw2.out.mk3) (fun W6 htw => ?_)
    have Htw6 := hid htw
    clear htw
    refine hK9.out _ _ ?_ (fun hHeld => ?_)
    ·exact HS.out _ Htw6.out.below
    clear hK9 K9
    try simp only [Act.put, List.setIfInBounds_toArray, List.set_cons_zero, List.set_cons_succ]
    refine wpAnyH_ready (rs := [12]) (by kernel_rfl) (by simp) ?_
    refine AllReadyH.cons (by simp only [List.getElem?_toArray, List.getElem?_cons_zero, List.getElem?_cons_succ]; rfl) (fun K9 hK9 => ?_) ?_
    rotate_left
    exact AllReadyH.nil
    go_simp
    refine kgen (fun W => TW wx W T.foes.length T.beats.length T.rules (some W0.heap.size) (some W6.heap.size) (some W2.heap.size) (some (.slice A2 T.rules.length c2, vs2))) (Htw6.out.mkB) (fun W7 htw => ?_)
    have Htw7 := hid htw
    clear htw
    refine hK9.out _ _ ?_ (fun hHeld => ?_)
    ·exact HS.out _ Htw7.out.below
    clear hK9 K9
    try simp only [Act.put, List.setIfInBounds_toArray, List.set_cons_zero, List.set_cons_succ]
    refine wpAnyH_take (i := 13) (v := ?v12) (by simp only [List.getElem?_toArray, List.getElem?_cons_zero, List.getElem?_cons_succ]; rfl) (by kernel_rfl) (by kernel_rfl) (by kernel_rfl) (fun _ _ _ h => h) (Or.inl ⟨by rfl, ?hy12⟩) (by assumption) ?rest12
    case hy12 => (intro w hSw; (try dsimp only at hSw); go_simp) <;> try with_reducible rfl
    simp only [Act.put, List.setIfInBounds_toArray, List.set_cons_zero, List.set_cons_succ]
    refine wpAnyH_ready (rs := [15]) (by kernel_rfl) (by simp) ?_
    refine AllReadyH.cons (by simp only [List.getElem?_toArray, List.getElem?_cons_zero, List.getElem?_cons_succ]; rfl) (fun K9 hK9 => ?_) ?_
    rotate_left
    exact AllReadyH.nil
    have t2 := (Htw7.out.at3 _ rfl).2
    have p0 := frozen_of_row W7 _ 0 _ _ t2
    have p1 := frozen_of_row W7 _ 1 _ _ t2
    have p2 := frozen_of_row W7 _ 2 _ _ t2
    have p3 := frozen_of_row W7 _ 3 _ _ t2
    have q0 : W7.cell? ⟨W2.heap.size, 0, none⟩ = some ((.int .i64 0)) := by rw [cell_of_row W7 _ 0 _ _ _ t2]; rfl
    have q1 : W7.cell? ⟨W2.heap.size, 1, none⟩ = some ((.slice none 0 0)) := by rw [cell_of_row W7 _ 1 _ _ _ t2]; rfl
    have q2 : W7.cell? ⟨W2.heap.size, 2, none⟩ = some ((.slice none 0 0)) := by rw [cell_of_row W7 _ 2 _ _ _ t2]; rfl
    have q3 : W7.cell? ⟨W2.heap.size, 3, none⟩ = some ((.slice none 0 0)) := by rw [cell_of_row W7 _ 3 _ _ _ t2]; rfl
    clear t2
    go_simp
    refine kgen (fun W => TD wx W T.foes.length T.beats.length T.rules (W0.heap.size) (W6.heap.size) (W2.heap.size) (.slice A2 T.rules.length c2) vs2 T.lits) (Htw7.out.done T.lits) (fun W8 htd => ?_)
    refine hK9.out _ _ ?_ (fun hHeld => ?_)
    ·exact HS.out _ htd.below
    clear hK9 K9
    try simp only [Act.put, List.setIfInBounds_toArray, List.set_cons_zero, List.set_cons_succ]
    refine wpAnyH_done (by kernel_rfl) (NoPanic.normal ?_) _
    exact HK.out _ _ _ _ _ _ _ _ _ _ _ _ _ _ _ _ _ _ _ _ htd
  ·skip
   go_simp
   refine kgen (fun W => TW wx W T.foes.length T.beats.length T.rules (some W0.heap.size) (some W1.heap.size) none none) (Htw1.out.mkB) (fun W9 htw => ?_)
   have Htw9 := hid htw
   clear htw
   refine hK9.out _ _ ?_ (fun hHeld => ?_)
   ·exact HS.out _ Htw9.out.below
   clear hK9 K9
   try simp only [Act.put, List.setIfInBounds_toArray, List.set_cons_zero, List.set_cons_succ]
   refine wpAnyH_ready (rs := [8, 14]) (by kernel_rfl) (by simp) ?_
   refine AllReadyH.cons (by simp only [List.getElem?_toArray, List.getElem?_cons_zero, List.getElem?_cons_succ]; rfl) (fun K9 hK9 => ?_) ?_
   rotate_left
   refine AllReadyH.cons (by simp only [List.getElem?_toArray, List.getElem?_cons_zero, List.getElem?_cons_succ]; rfl) (fun K9 hK9 => ?_) ?_
   rotate_left
   exact AllReadyH.nil
   ·skip
    go_simp
    refine (cloneR0_any wx W9 _ T.rules HR.out Htw9.out.below (by omega)).mono ?_
    rintro e Wc10 ⟨_, rfl, vs10, hown10, hbod10, hbl10⟩
    obtain ⟨A10, c10, rfl⟩ := own_form0 hown10
    go_simp
    refine kgen (fun W => TW wx W T.foes.length T.beats.length T.rules (some W0.heap.size) (some W1.heap.size) none (some (.slice A10 T.rules.length c10, vs10))) (Htw9.out.clone hown10 hbod10 hbl10) (fun W10 htw => ?_)
    have Htw10 := hid htw
    clear htw
    refine hK9.out _ _ ?_ (fun hHeld => ?_)
    ·exact HS.out _ Htw10.out.below
    clear hK9 K9
    try simp only [Act.put, List.setIfInBounds_toArray, List.set_cons_zero, List.set_cons_succ]
    refine wpAnyH_take (i := 13) (v := ?v13) (by simp only [List.getElem?_toArray, List.getElem?_cons_zero, List.getElem?_cons_succ]; rfl) (by kernel_rfl) (by kernel_rfl) (by kernel_rfl) (fun _ _ _ h => h) (Or.inl ⟨by rfl, ?hy13⟩) (by assumption) ?rest13
    case hy13 => (intro w hSw; (try dsimp only at hSw); go_simp) <;> try with_reducible rfl
    simp only [Act.put, List.setIfInBounds_toArray, List.set_cons_zero, List.set_cons_succ]
    refine wpAnyH_ready (rs := [14]) (by kernel_rfl) (by simp) ?_
    refine AllReadyH.cons (by simp only [List.getElem?_toArray, List.getElem?_cons_zero, List.getElem?_cons_succ]; rfl) (fun K9 hK9 => ?_) ?_
    rotate_left
    exact AllReadyH.nil
    go_simp
    refine kgen (fun W => TW wx W T.foes.length T.beats.length T.rules (some W0.heap.size) (some W1.heap.size) (some W10.heap.size) (some (.slice A10 T.rules.length c10, vs10))) (Htw10.out.mk3) (fun W11 htw => ?_)
    have Htw11 := hid htw
    clear htw
    refine hK9.out _ _ ?_ (fun hHeld => ?_)
    ·exact HS.out _ Htw11.out.below
    clear hK9 K9
    try simp only [Act.put, List.setIfInBounds_toArray, List.set_cons_zero, List.set_cons_succ]
    refine wpAnyH_ready (rs := [15]) (by kernel_rfl) (by simp) ?_
    refine AllReadyH.cons (by simp only [List.getElem?_toArray, List.getElem?_cons_zero, List.getElem?_cons_succ]; rfl) (fun K9 hK9 => ?_) ?_
    rotate_left
    exact AllReadyH.nil
    have t2 := (Htw11.out.at3 _ rfl).2
    have p0 := frozen_of_row W11 _ 0 _ _ t2
    have p1 := frozen_of_row W11 _ 1 _ _ t2
    have p2 := frozen_of_row W11 _ 2 _ _ t2
    have p3 := frozen_of_row W11 _ 3 _ _ t2
    have q0 : W11.cell? ⟨W10.heap.size, 0, none⟩ = some ((.int .i64 0)) := by rw [cell_of_row W11 _ 0 _ _ _ t2]; rfl
    have q1 : W11.cell? ⟨W10.heap.size, 1, none⟩ = some ((.slice none 0 0)) := by rw [cell_of_row W11 _ 1 _ _ _ t2]; rfl
    have q2 : W11.cell? ⟨W10.heap.size, 2, none⟩ = some ((.slice none 0 0)) := by rw [cell_of_row W11 _ 2 _ _ _ t2]; rfl
    have q3 : W11.cell? ⟨W10.heap.size, 3, none⟩ = some ((.slice none 0 0)) := by rw [cell_of_row W11 _ 3 _ _ _ t2]; rfl
    clear t2
    go_simp
    refine kgen (fun W => TD wx W T.foes.length T.beats.length T.rules (W0.heap.size) (W1.heap.size) (W10.heap.size) (.slice A10 T.rules.length c10) vs10 T.lits) (Htw11.out.done T.lits) (fun W12 htd => ?_)
    refine hK9.out _ _ ?_ (fun hHeld => ?_)
    ·exact HS.out _ htd.below
    clear hK9 K9
    try simp only [Act.put, List.setIfInBounds_toArray, List.set_cons_zero, List.set_cons_succ]
    refine wpAnyH_done (by kernel_rfl) (NoPanic.normal ?_) _
    exact HK.out _ _ _ _ _ _ _ _ _ _ _ _ _ _ _ _ _ _ _ _ htd
   ·skip
    go_simp
    refine kgen (fun W => TW wx W T.foes.length T.beats.length T.rules (some W0.heap.size) (some W1.heap.size) (some W9.heap.size) none) (Htw9.out.mk3) (fun W13 htw => ?_)
    have Htw13 := hid htw
    clear htw
    refine hK9.out _ _ ?_ (fun hHeld => ?_)
    ·exact HS.out _ Htw13.out.below
    clear hK9 K9
    try simp only [Act.put, List.setIfInBounds_toArray, List.set_cons_zero, List.set_cons_succ]
    refine wpAnyH_ready (rs := [8]) (by kernel_rfl) (by simp) ?_
    refine AllReadyH.cons (by simp only [List.getElem?_toArray, List.getElem?_cons_zero, List.getElem?_cons_succ]; rfl) (fun K9 hK9 => ?_) ?_
    rotate_left
    exact AllReadyH.nil
    go_simp
    refine (cloneR0_any wx W13 _ T.rules HR.out Htw13.out.below (by omega)).mono ?_
    rintro e Wc14 ⟨_, rfl, vs14, hown14, hbod14, hbl14⟩
    obtain ⟨A14, c14, rfl⟩ := own_form0 hown14
    go_simp
    refine kgen (fun W => TW wx W T.foes.length T.beats.length T.rules (some W0.heap.size) (some W1.heap.size) (some W9.heap.size) (some (.slice A14 T.rules.length c14, vs14))) (Htw13.out.clone hown14 hbod14 hbl14) (fun W14 htw => ?_)
    have Htw14 := hid htw
    clear htw
    refine hK9.out _ _ ?_ (fun hHeld => ?_)
    ·exact HS.out _ Htw14.out.below
    clear hK9 K9
    try simp only [Act.put, List.setIfInBounds_toArray, List.set_cons_zero, List.set_cons_succ]
    refine wpAnyH_take (i := 13) (v := ?v14) (by simp only [List.getElem?_toArray, List.getElem?_cons_zero, List.getElem?_cons_succ]; rfl) (by kernel_rfl) (by kernel_rfl) (by kernel_rfl) (fun _ _ _ h => h) (Or.inl ⟨by rfl, ?hy14⟩) (by assumption) ?rest14
    case hy14 => (intro w hSw; (try dsimp only at hSw); go_simp) <;> try with_reducible rfl
    simp only [Act.put, List.setIfInBounds_toArray, List.set_cons_zero, List.set_cons_succ]
    refine wpAnyH_ready (rs := [15]) (by kernel_rfl) (by simp) ?_
    refine AllReadyH.cons (by simp only [List.getElem?_toArray, List.getElem?_cons_zero, List.getElem?_cons_succ]; rfl) (fun K9 hK9 => ?_) ?_
    rotate_left
    exact AllReadyH.nil
    have t2 := (Htw14.out.at3 _ rfl).2
    have p0 := frozen_of_row W14 _ 0 _ _ t2
    have p1 := frozen_of_row W14 _ 1 _ _ t2
    have p2 := frozen_of_row W14 _ 2 _ _ t2
    have p3 := frozen_of_row W14 _ 3 _ _ t2
    have q0 : W14.cell? ⟨W9.heap.size, 0, none⟩ = some ((.int .i64 0)) := by rw [cell_of_row W14 _ 0 _ _ _ t2]; rfl
    have q1 : W14.cell? ⟨W9.heap.size, 1, none⟩ = some ((.slice none 0 0)) := by rw [cell_of_row W14 _ 1 _ _ _ t2]; rfl
    have q2 : W14.cell? ⟨W9.heap.size, 2, none⟩ = some ((.slice none 0 0)) := by rw [cell_of_row W14 _ 2 _ _ _ t2]; rfl
    have q3 : W14.cell? ⟨W9.heap.size, 3, none⟩ = some ((.slice none 0 0)) := by rw [cell_of_row W14 _ 3 _ _ _ t2]; rfl
    clear t2
    go_simp
    refine kgen (fun W => TD wx W T.foes.length T.beats.length T.rules (W0.heap.size) (W1.heap.size) (W9.heap.size) (.slice A14 T.rules.length c14) vs14 T.lits) (Htw14.out.done T.lits) (fun W15 htd => ?_)
    refine hK9.out _ _ ?_ (fun hHeld => ?_)
    ·exact HS.out _ htd.below
    clear hK9 K9
    try simp only [Act.put, List.setIfInBounds_toArray, List.set_cons_zero, List.set_cons_succ]
    refine wpAnyH_done (by kernel_rfl) (NoPanic.normal ?_) _
    exact HK.out _ _ _ _ _ _ _ _ _ _ _ _ _ _ _ _ _ _ _ _ htd
  ·skip
   go_simp
   refine kgen (fun W => TW wx W T.foes.length T.beats.length T.rules (some W0.heap.size) none (some W1.heap.size) none) (Htw1.out.mk3) (fun W16 htw => ?_)
   have Htw16 := hid htw
   clear htw
   refine hK9.out _ _ ?_ (fun hHeld => ?_)
   ·exact HS.out _ Htw16.out.below
   clear hK9 K9
   try simp only [Act.put, List.setIfInBounds_toArray, List.set_cons_zero, List.set_cons_succ]
   refine wpAnyH_ready (rs := [8, 12]) (by kernel_rfl) (by simp) ?_
   refine AllReadyH.cons (by simp only [List.getElem?_toArray, List.getElem?_cons_zero, List.getElem?_cons_succ]; rfl) (fun K9 hK9 => ?_) ?_
   rotate_left
   refine AllReadyH.cons (by simp only [List.getElem?_toArray, List.getElem?_cons_zero, List.getElem?_cons_succ]; rfl) (fun K9 hK9 => ?_) ?_
   rotate_left
   exact AllReadyH.nil
   ·skip
    go_simp
    refine (cloneR0_any wx W16 _ T.rules HR.out Htw16.out.below (by omega)).mono ?_
    rintro e Wc17 ⟨_, rfl, vs17, hown17, hbod17, hbl17⟩
    obtain ⟨A17, c17, rfl⟩ := own_form0 hown17
    go_simp
    refine kgen (fun W => TW wx W T.foes.length T.beats.length T.rules (some W0.heap.size) none (some W1.heap.size) (some (.slice A17 T.rules.length c17, vs17))) (Htw16.out.clone hown17 hbod17 hbl17) (fun W17 htw => ?_)
    have Htw17 := hid htw
    clear htw
    refine hK9.out _ _ ?_ (fun hHeld => ?_)
    ·exact HS.out _ Htw17.out.below
    clear hK9 K9
    try simp only [Act.put, List.setIfInBounds_toArray, List.set_cons_zero, List.set_cons_succ]
    refine wpAnyH_ready (rs := [12]) (by kernel_rfl) (by simp) ?_
    refine AllReadyH.cons (by simp only [List.getElem?_toArray, List.getElem?_cons_zero, List.getElem?_cons_succ]; rfl) (fun K9 hK9 => ?_) ?_
    rotate_left
    exact AllReadyH.nil
    go_simp
    refine kgen (fun W => TW wx W T.foes.length T.beats.length T.rules (some W0.heap.size) (some W17.heap.size) (some W1.heap.size) (some (.slice A17 T.rules.length c17, vs17))) (Htw17.out.mkB) (fun W18 htw => ?_)
    have Htw18 := hid htw
    clear htw
    refine hK9.out _ _ ?_ (fun hHeld => ?_)
    ·exact HS.out _ Htw18.out.below
    clear hK9 K9
    try simp only [Act.put, List.setIfInBounds_toArray, List.set_cons_zero, List.set_cons_succ]
    refine wpAnyH_take (i := 13) (v := ?v15) (by simp only [List.getElem?_toArray, List.getElem?_cons_zero, List.getElem?_cons_succ]; rfl) (by kernel_rfl) (by kernel_rfl) (by kernel_rfl) (fun _ _ _ h => h) (Or.inl ⟨by rfl, ?hy15⟩) (by assumption) ?rest15
    case hy15 => (intro w hSw; (try dsimp only at hSw); go_simp) <;> try with_reducible rfl
    simp only [Act.put, List.setIfInBounds_toArray, List.set_cons_zero, List.set_cons_succ]
    refine wpAnyH_ready (rs := [15]) (by kernel_rfl) (by simp) ?_
    refine AllReadyH.cons (by simp only [List.getElem?_toArray, List.getElem?_cons_zero, List.getElem?_cons_succ]; rfl) (fun K9 hK9 => ?_) ?_
    rotate_left
    exact AllReadyH.nil
    have t2 := (Htw18.out.at3 _ rfl).2
    have p0 := frozen_of_row W18 _ 0 _ _ t2
    have p1 := frozen_of_row W18 _ 1 _ _ t2
    have p2 := frozen_of_row W18 _ 2 _ _ t2
    have p3 := frozen_of_row W18 _ 3 _ _ t2
    have q0 : W18.cell? ⟨W1.heap.size, 0, none⟩ = some ((.int .i64 0)) := by rw [cell_of_row W18 _ 0 _ _ _ t2]; rfl
    have q1 : W18.cell? ⟨W1.heap.size, 1, none⟩ = some ((.slice none 0 0)) := by rw [cell_of_row W18 _ 1 _ _ _ t2]; rfl
    have q2 : W18.cell? ⟨W1.heap.size, 2, none⟩ = some ((.slice none 0 0)) := by rw [cell_of_row W18 _ 2 _ _ _ t2]; rfl
    have q3 : W18.cell? ⟨W1.heap.size, 3, none⟩ = some ((.slice none 0 0)) := by rw [cell_of_row W18 _ 3 _ _ _ t2]; rfl
    clear t2
    go_simp
    refine kgen (fun W => TD wx W T.foes.length T.beats.length T.rules (W0.heap.size) (W17.heap.size) (W1.heap.size) (.slice A17 T.rules.length c17) vs17 T.lits) (Htw18.out.done T.lits) (fun W19 htd => ?_)
    refine hK9.out _ _ ?_ (fun hHeld => ?_)
    ·exact HS.out _ htd.below
    clear hK9 K9
    try simp only [Act.put, List.setIfInBounds_toArray, List.set_cons_zero, List.set_cons_succ]
    refine wpAnyH_done (by kernel_rfl) (NoPanic.normal ?_) _
    exact HK.out _ _ _ _ _ _ _ _ _ _ _ _ _ _ _ _ _ _ _ _ htd
   ·skip
    go_simp
    refine kgen (fun W => TW wx W T.foes.length T.beats.length T.rules (some W0.heap.size) (some W16.heap.size) (some W1.heap.size) none) (Htw16.out.mkB) (fun W20 htw => ?_)
    have Htw20 := hid htw
    clear htw
    refine hK9.out _ _ ?_ (fun hHeld => ?_)
    ·exact HS.out _ Htw20.out.below
    clear hK9 K9
    try simp only [Act.put, List.setIfInBounds_toArray, List.set_cons_zero, List.set_cons_succ]
    refine wpAnyH_ready (rs := [8]) (by kernel_rfl) (by simp) ?_
    refine AllReadyH.cons (by simp only [List.getElem?_toArray, List.getElem?_cons_zero, List.getElem?_cons_succ]; rfl) (fun K9 hK9 => ?_) ?_
    rotate_left
    exact AllReadyH.nil
    go_simp
    refine (cloneR0_any wx W20 _ T.rules HR.out Htw20.out.below (by omega)).mono ?_
    rintro e Wc21 ⟨_, rfl, vs21, hown21, hbod21, hbl21⟩
    obtain ⟨A21, c21, rfl⟩ := own_form0 hown21
    go_simp
    refine kgen (fun W => TW wx W T.foes.length T.beats.length T.rules (some W0.heap.size) (some W16.heap.size) (some W1.heap.size) (some (.slice A21 T.rules.length c21, vs21))) (Htw20.out.clone hown21 hbod21 hbl21) (fun W21 htw => ?_)
    have Htw21 := hid htw
    clear htw
    refine hK9.out _ _ ?_ (fun hHeld => ?_)
    ·exact HS.out _ Htw21.out.below
    clear hK9 K9
    try simp only [Act.put, List.setIfInBounds_toArray, List.set_cons_zero, List.set_cons_succ]
    refine wpAnyH_take (i := 13) (v := ?v16) (by simp only [List.getElem?_toArray, List.getElem?_cons_zero, List.getElem?_cons_succ]; rfl) (by kernel_rfl) (by kernel_rfl) (by kernel_rfl) (fun _ _ _ h => h) (Or.inl ⟨by rfl, ?hy16⟩) (by assumption) ?rest16
    case hy16 => (intro w hSw; (try dsimp only at hSw); go_simp) <;> try with_reducible rfl
    simp only [Act.put, List.setIfInBounds_toArray, List.set_cons_zero, List.set_cons_succ]
    refine wpAnyH_ready (rs := [15]) (by kernel_rfl) (by simp) ?_
    refine AllReadyH.cons (by simp only [List.getElem?_toArray, List.getElem?_cons_zero, List.getElem?_cons_succ]; rfl) (fun K9 hK9 => ?_) ?_
    rotate_left
    exact AllReadyH.nil
    have t2 := (Htw21.out.at3 _ rfl).2
    have p0 := frozen_of_row W21 _ 0 _ _ t2
    have p1 := frozen_of_row W21 _ 1 _ _ t2
    have p2 := frozen_of_row W21 _ 2 _ _ t2
    have p3 := frozen_of_row W21 _ 3 _ _ t2
    have q0 : W21.cell? ⟨W1.heap.size, 0, none⟩ = some ((.int .i64 0)) := by rw [cell_of_row W21 _ 0 _ _ _ t2]; rfl
    have q1 : W21.cell? ⟨W1.heap.size, 1, none⟩ = some ((.slice none 0 0)) := by rw [cell_of_row W21 _ 1 _ _ _ t2]; rfl
    have q2 : W21.cell? ⟨W1.heap.size, 2, none⟩ = some ((.slice none 0 0)) := by rw [cell_of_row W21 _ 2 _ _ _ t2]; rfl
    have q3 : W21.cell? ⟨W1.heap.size, 3, none⟩ = some ((.slice none 0 0)) := by rw [cell_of_row W21 _ 3 _ _ _ t2]; rfl
    clear t2
    go_simp
    refine kgen (fun W => TD wx W T.foes.length T.beats.length T.rules (W0.heap.size) (W16.heap.size) (W1.heap.size) (.slice A21 T.rules.length c21) vs21 T.lits) (Htw21.out.done T.lits) (fun W22 htd => ?_)
    refine hK9.out _ _ ?_ (fun hHeld => ?_)
    ·exact HS.out _ htd.below
    clear hK9 K9
    try simp only [Act.put, List.setIfInBounds_toArray, List.set_cons_zero, List.set_cons_succ]
    refine wpAnyH_done (by kernel_rfl) (NoPanic.normal ?_) _
    exact HK.out _ _ _ _ _ _ _ _ _ _ _ _ _ _ _ _ _ _ _ _ htd
 ·skip
  go_simp
  refine (cloneR0_any wx W0 _ T.rules HR.out Htw0.out.below (by omega)).mono ?_
  rintro e Wc23 ⟨_, rfl, vs23, hown23, hbod23, hbl23⟩
  obtain ⟨A23, c23, rfl⟩ := own_form0 hown23
  go_simp
  refine kgen (fun W => TW wx W T.foes.length T.beats.length T.rules none none none (some (.slice A23 T.rules.length c23, vs23))) (Htw0.out.clone hown23 hbod23 hbl23) (fun W23 htw => ?_)
  have Htw23 := hid htw
  clear htw
  refine hK9.out _ _ ?_ (fun hHeld => ?_)
  ·exact HS.out _ Htw23.out.below
  clear hK9 K9
  try simp only [Act.put, List.setIfInBounds_toArray, List.set_cons_zero, List.set_cons_succ]
  refine wpAnyH_ready (rs := [5, 12, 14]) (by kernel_rfl) (by simp) ?_
  refine AllReadyH.cons (by simp only [List.getElem?_toArray, List.getElem?_cons_zero, List.getElem?_cons_succ]; rfl) (fun K9 hK9 => ?_) ?_
  rotate_left
  refine AllReadyH.cons (by simp only [List.getElem?_toArray, List.getElem?_cons_zero, List.getElem?_cons_succ]; rfl) (fun K9 hK9 => ?_) ?_
  rotate_left
  refine AllReadyH.cons (by simp only [List.getElem?_toArray, List.getElem?_cons_zero, List.getElem?_cons_succ]; rfl) (fun K9 hK9 => ?_) ?_
  rotate_left
  exact AllReadyH.nil
  ·skip
   go_simp
   refine kgen (fun W => TW wx W T.foes.length T.beats.length T.rules (some W23.heap.size) none none (some (.slice A23 T.rules.length c23, vs23))) (Htw23.out.mkF) (fun W24 htw => ?_)
   have Htw24 := hid htw
   clear htw
   refine hK9.out _ _ ?_ (fun hHeld => ?_)
   ·exact HS.out _ Htw24.out.below
   clear hK9 K9
   try simp only [Act.put, List.setIfInBounds_toArray, List.set_cons_zero, List.set_cons_succ]
   refine wpAnyH_ready (rs := [12, 14]) (by kernel_rfl) (by simp) ?_
   refine AllReadyH.cons (by simp only [List.getElem?_toArray, List.getElem?_cons_zero, List.getElem?_cons_succ]; rfl) (fun K9 hK9 => ?_) ?_
   rotate_left
   refine AllReadyH.cons (by simp only [List.getElem?_toArray, List.getElem?_cons_zero, List.getElem?_cons_succ]; rfl) (fun K9 hK9 => ?_) ?_
   rotate_left
   exact AllReadyH.nil
   ·skip
    go_simp
    refine kgen (fun W => TW wx W T.foes.length T.beats.length T.rules (some W23.heap.size) (some W24.heap.size) none (some (.slice A23 T.rules.length c23, vs23))) (Htw24.out.mkB) (fun W25 htw => ?_)
    have Htw25 := hid htw
    clear htw
    refine hK9.out _ _ ?_ (fun hHeld => ?_)
    ·exact HS.out _ Htw25.out.below
    clear hK9 K9
    try simp only [Act.put, List.setIfInBounds_toArray, List.set_cons_zero, List.set_cons_succ]
    refine wpAnyH_take (i := 13) (v := ?v17) (by simp only [List.getElem?_toArray, List.getElem?_cons_zero, List.getElem?_cons_succ]; rfl) (by kernel_rfl) (by kernel_rfl) (by kernel_rfl) (fun _ _ _ h => h) (Or.inl ⟨by rfl, ?hy17⟩) (by assumption) ?rest17
    case hy17 => (intro w hSw; (try dsimp only at hSw); go_simp) <;> try with_reducible rfl
    simp only [Act.put, List.setIfInBounds_toArray, List.set_cons_zero, List.set_cons_succ]
    refine wpAnyH_ready (rs := [14]) (by kernel_rfl) (by simp) ?_
    refine AllReadyH.cons (by simp only [List.getElem?_toArray, List.getElem?_cons_zero, List.getElem?_cons_succ]; rfl) (fun K9 hK9 => ?_) ?_
    rotate_left
    exact AllReadyH.nil
    go_simp
    refine kgen (fun W => TW wx W T.foes.length T.beats.length T.rules (some W23.heap.size) (some W24.heap.size) (some W25.heap.size) (some (.slice A23 T.rules.length c23, vs23))) (Htw25.out.mk3) (fun W26 htw => ?_)
    have Htw26 := hid htw
    clear htw
    refine hK9.out _ _ ?_ (fun hHeld => ?_)
    ·exact HS.out _ Htw26.out.below
    clear hK9 K9
    try simp only [Act.put, List.setIfInBounds_toArray, List.set_cons_zero, List.set_cons_succ]
    refine wpAnyH_ready (rs := [15]) (by kernel_rfl) (by simp) ?_
    refine AllReadyH.cons (by simp only [List.getElem?_toArray, List.getElem?_cons_zero, List.getElem?_cons_succ]; rfl) (fun K9 hK9 => ?_) ?_
    rotate_left
    exact AllReadyH.nil
    have t2 := (Htw26.out.at3 _ rfl).2
    have p0 := frozen_of_row W26 _ 0 _ _ t2
    have p1 := frozen_of_row W26 _ 1 _ _ t2
    have p2 := frozen_of_row W26 _ 2 _ _ t2
    have p3 := frozen_of_row W26 _ 3 _ _ t2
    have q0 : W26.cell? ⟨W25.heap.size, 0, none⟩ = some ((.int .i64 0)) := by rw [cell_of_row W26 _ 0 _ _ _ t2]; rfl
    have q1 : W26.cell? ⟨W25.heap.size, 1, none⟩ = some ((.slice none 0 0)) := by rw [cell_of_row W26 _ 1 _ _ _ t2]; rfl
    have q2 : W26.cell? ⟨W25.heap.size, 2, none⟩ = some ((.slice none 0 0)) := by rw [cell_of_row W26 _ 2 _ _ _ t2]; rfl
    have q3 : W26.cell? ⟨W25.heap.size, 3, none⟩ = some ((.slice none 0 0)) := by rw [cell_of_row W26 _ 3 _ _ _ t2]; rfl
    clear t2
    go_simp
    refine kgen (fun W => TD wx W T.foes.length T.beats.length T.rules (W23.heap.size) (W24.heap.size) (W25.heap.size) (.slice A23 T.rules.length c23) vs23 T.lits) (Htw26.out.done T.lits) (fun W27 htd => ?_)
    refine hK9.out _ _ ?_ (fun hHeld => ?_)
    ·exact HS.out _ htd.below
    clear hK9 K9
    try simp only [Act.put, List.setIfInBounds_toArray, List.set_cons_zero, List.set_cons_succ]
    refine wpAnyH_done (by kernel_rfl) (NoPanic.normal ?_) _
    exact HK.out _ _ _ _ _ _ _ _ _ _ _ _ _ _ _ _ _ _ _ _ htd
   ·skip
    go_simp
    refine kgen (fun W => TW wx W T.foes.length T.beats.length T.rules (some W23.heap.size) none (some W24.heap.size) (some (.slice A23 T.rules.length c23, vs23))) (Htw24.out.mk3) (fun W28 htw => ?_)
    have Htw28 := hid htw
    clear htw
    refine hK9.out _ _ ?_ (fun hHeld => ?_)
    ·exact HS.out _ Htw28.out.below
    clear hK9 K9
    try simp only [Act.put, List.setIfInBounds_toArray, List.set_cons_zero, List.set_cons_succ]
    refine wpAnyH_ready (rs := [12]) (by kernel_rfl) (by simp) ?_
    refine AllReadyH.cons (by simp only [List.getElem?_toArray, List.getElem?_cons_zero, List.getElem?_cons_succ]; rfl) (fun K9 hK9 => ?_) ?_
    rotate_left
    exact AllReadyH.nil
    go_simp
    refine kgen (fun W => TW wx W T.foes.length T.beats.length T.rules (some W23.heap.size) (some W28.heap.size) (some W24.heap.size) (some (.slice A23 T.rules.length c23, vs23))) (Htw28.out.mkB) (fun W29 htw => ?_)
    have Htw29 := hid htw
    clear htw
    refine hK9.out _ _ ?_ (fun hHeld => ?_)
    ·exact HS.out _ Htw29.out.below
    clear hK9 K9
    try simp only [Act.put, List.setIfInBounds_toArray, List.set_cons_zero, List.set_cons_succ]
    refine wpAnyH_take (i := 13) (v := ?v18) (by simp only [List.getElem?_toArray, List.getElem?_cons_zero, List.getElem?_cons_succ]; rfl) (by kernel_rfl) (by kernel_rfl) (by kernel_rfl) (fun _ _ _ h => h) (Or.inl ⟨by rfl, ?hy18⟩) (by assumption) ?rest18
    case hy18 => (intro w hSw; (try dsimp only at hSw); go_simp) <;> try with_reducible rfl
    simp only [Act.put, List.setIfInBounds_toArray, List.set_cons_zero, List.set_cons_succ]
    refine wpAnyH_ready (rs := [15]) (by kernel_rfl) (by simp) ?_
    refine AllReadyH.cons (by simp only [List.getElem?_toArray, List.getElem?_cons_zero, List.getElem?_cons_succ]; rfl) (fun K9 hK9 => ?_) ?_
    rotate_left
    exact AllReadyH.nil
    have t2 := (Htw29.out.at3 _ rfl).2
    have p0 := frozen_of_row W29 _ 0 _ _ t2
    have p1 := frozen_of_row W29 _ 1 _ _ t2
    have p2 := frozen_of_row W29 _ 2 _ _ t2
    have p3 := frozen_of_row W29 _ 3 _ _ t2
    have q0 : W29.cell? ⟨W24.heap.size, 0, none⟩ = some ((.int .i64 0)) := by rw [cell_of_row W29 _ 0 _ _ _ t2]; rfl
    have q1 : W29.cell? ⟨W24.heap.size, 1, none⟩ = some ((.slice none 0 0)) := by rw [cell_of_row W29 _ 1 _ _ _ t2]; rfl
    have q2 : W29.cell? ⟨W24.heap.size, 2, none⟩ = some ((.slice none 0 0)) := by rw [cell_of_row W29 _ 2 _ _ _ t2]; rfl
    have q3 : W29.cell? ⟨W24.heap.size, 3, none⟩ = some ((.slice none 0 0)) := by rw [cell_of_row W29 _ 3 _ _ _ t2]; rfl
    clear t2
    go_simp
    refine kgen (fun W => TD wx W T.foes.length T.beats.length T.rules (W23.heap.size) (W28.heap.size) (W24.heap.size) (.slice A23 T.rules.length c23) vs23 T.lits) (Htw29.out.done T.lits) (fun W30 htd => ?_)
    refine hK9.out _ _ ?_ (fun hHeld => ?_)
    ·exact HS.out _ htd.below
    clear hK9 K9
    try simp only [Act.put, List.setIfInBounds_toArray, List.set_cons_zero, List.set_cons_succ]
    refine wpAnyH_done (by kernel_rfl) (NoPanic.normal ?_) _
    exact HK.out _ _ _ _ _ _ _ _ _ _ _ _ _ _ _ _ _ _ _ _ htd
  ·skip
   go_simp
   refine kgen (fun W => TW wx W T.foes.length T.beats.length T.rules none (some W23.heap.size) none (some (.slice A23 T.rules.length c23, vs23))) (Htw23.out.mkB) (fun W31 htw => ?_)
   have Htw31 := hid htw
   clear htw
   refine hK9.out _ _ ?_ (fun hHeld => ?_)
   ·exact HS.out _ Htw31.out.below
   clear hK9 K9
   try simp only [Act.put, List.setIfInBounds_toArray, List.set_cons_zero, List.set_cons_succ]
   refine wpAnyH_ready (rs := [5, 14]) (by kernel_rfl) (by simp) ?_
   refine AllReadyH.cons (by simp only [List.getElem?_toArray, List.getElem?_cons_zero, List.getElem?_cons_succ]; rfl) (fun K9 hK9 => ?_) ?_
   rotate_left
   refine AllReadyH.cons (by simp only [List.getElem?_toArray, List.getElem?_cons_zero, List.getElem?_cons_succ]; rfl) (fun K9 hK9 => ?_) ?_
   rotate_left
   exact AllReadyH.nil
   ·skip
    go_simp
    refine kgen (fun W => TW wx W T.foes.length T.beats.length T.rules (some W31.heap.size) (some W23.heap.size) none (some (.slice A23 T.rules.length c23, vs23))) (Htw31.out.mkF) (fun W32 htw => ?_)
    have Htw32 := hid htw
    clear htw
    refine hK9.out _ _ ?_ (fun hHeld => ?_)
    ·exact HS.out _ Htw32.out.below
    clear hK9 K9
    try simp only [Act.put, List.setIfInBounds_toArray, List.set_cons_zero, List.set_cons_succ]
    refine wpAnyH_take (i := 13) (v := ?v19) (by simp only [List.getElem?_toArray, List.getElem?_cons_zero, List.getElem?_cons_succ]; rfl) (by kernel_rfl) (by kernel_rfl) (by kernel_rfl) (fun _ _ _ h => h) (Or.inl ⟨by rfl, ?hy19⟩) (by assumption) ?rest19
    case hy19 => (intro w hSw; (try dsimp only at hSw); go_simp) <;> try with_reducible rfl
    simp only [Act.put, List.setIfInBounds_toArray, List.set_cons_zero, List.set_cons_succ]
    refine wpAnyH_ready (rs := [14]) (by kernel_rfl) (by simp) ?_
    refine AllReadyH.cons (by simp only [List.getElem?_toArray, List.getElem?_cons_zero, List.getElem?_cons_succ]; rfl) (fun K9 hK9 => ?_) ?_
    rotate_left
    exact AllReadyH.nil
    go_simp
    refine kgen (fun W => TW wx W T.foes.length T.beats.length T.rules (some W31.heap.size) (some W23.heap.size) (some W32.heap.size) (some (.slice A23 T.rules.length c23, vs23))) (Htw32.out.mk3) (fun W33 htw => ?_)
    have Htw33 := hid htw
    clear htw
    refine hK9.out _ _ ?_ (fun hHeld => ?_)
    ·exact HS.out _ Htw33.out.below
    clear hK9 K9
    try simp only [Act.put, List.setIfInBounds_toArray, List.set_cons_zero, List.set_cons_succ]
    refine wpAnyH_ready (rs := [15]) (by kernel_rfl) (by simp) ?_
    refine AllReadyH.cons (by simp only [List.getElem?_toArray, List.getElem?_cons_zero, List.getElem?_cons_succ]; rfl) (fun K9 hK9 => ?_) ?_
    rotate_left
    exact AllReadyH.nil
    have t2 := (Htw33.out.at3 _ rfl).2
    have p0 := frozen_of_row W33 _ 0 _ _ t2
    have p1 := frozen_of_row W33 _ 1 _ _ t2
    have p2 := frozen_of_row W33 _ 2 _ _ t2
    have p3 := frozen_of_row W33 _ 3 _ _ t2
    have q0 : W33.cell? ⟨W32.heap.size, 0, none⟩ = some ((.int .i64 0)) := by rw [cell_of_row W33 _ 0 _ _ _ t2]; rfl
    have q1 : W33.cell? ⟨W32.heap.size, 1, none⟩ = some ((.slice none 0 0)) := by rw [cell_of_row W33 _ 1 _ _ _ t2]; rfl
    have q2 : W33.cell? ⟨W32.heap.size, 2, none⟩ = some ((.slice none 0 0)) := by rw [cell_of_row W33 _ 2 _ _ _ t2]; rfl
    have q3 : W33.cell? ⟨W32.heap.size, 3, none⟩ = some ((.slice none 0 0)) := by rw [cell_of_row W33 _ 3 _ _ _ t2]; rfl
    clear t2
    go_simp
    refine kgen (fun W => TD wx W T.foes.length T.beats.length T.rules (W31.heap.size) (W23.heap.size) (W32.heap.size) (.slice A23 T.rules.length c23) vs23 T.lits) (Htw33.out.done T.lits) (fun W34 htd => ?_)
    refine hK9.out _ _ ?_ (fun hHeld => ?_)
    ·exact HS.out _ htd.below
    clear hK9 K9
    try simp only [Act.put, List.setIfInBounds_toArray, List.set_cons_zero, List.set_cons_succ]
    refine wpAnyH_done (by kernel_rfl) (NoPanic.normal ?_) _
    exact HK.out _ _ _ _ _ _ _ _ _ _ _ _ _ _ _ _ _ _ _ _ htd
   ·skip
    go_simp
    refine kgen (fun W => TW wx W T.foes.length T.beats.length T.rules none (some W23.heap.size) (some W31.heap.size) (some (.slice A23 T.rules.length c23, vs23))) (Htw31.out.mk3) (fun W35 htw => ?_)
    have Htw35 := hid htw
    clear htw
    refine hK9.out _ _ ?_ (fun hHeld => ?_)
    ·exact HS.out _ Htw35.out.below
    clear hK9 K9
    try simp only [Act.put, List.setIfInBounds_toArray, List.set_cons_zero, List.set_cons_succ]
    refine wpAnyH_ready (rs := [5]) (by kernel_rfl) (by simp) ?_
    refine AllReadyH.cons (by simp only [List.getElem?_toArray, List.getElem?_cons_zero, List.getElem?_cons_succ]; rfl) (fun K9 hK9 => ?_) ?_
    rotate_left
    exact AllReadyH.nil
    go_simp
    refine kgen (fun W => TW wx W T.foes.length T.beats.length T.rules (some W35.heap.size) (some W23.heap.size) (some W31.heap.size) (some (.slice A23 T.rules.length c23, vs23))) (Htw35.out.mkF) (fun W36 htw => ?_)
    have Htw36 := hid htw
    clear htw
    refine hK9.out _ _ ?_ (fun hHeld => ?_)
    ·exact HS.out _ Htw36.out.below
    clear hK9 K9
    try simp only [Act.put, List.setIfInBounds_toArray, List.set_cons_zero, List.set_cons_succ]
    refine wpAnyH_take (i := 13) (v := ?v20) (by simp only [List.getElem?_toArray, List.getElem?_cons_zero, List.getElem?_cons_succ]; rfl) (by kernel_rfl) (by kernel_rfl) (by kernel_rfl) (fun _ _ _ h => h) (Or.inl ⟨by rfl, ?hy20⟩) (by assumption) ?rest20
    case hy20 => (intro w hSw; (try dsimp only at hSw); go_simp) <;> try with_reducible rfl
    simp only [Act.put, List.setIfInBounds_toArray, List.set_cons_zero, List.set_cons_succ]
    refine wpAnyH_ready (rs := [15]) (by kernel_rfl) (by simp) ?_
    refine AllReadyH.cons (by simp only [List.getElem?_toArray, List.getElem?_cons_zero, List.getElem?_cons_succ]; rfl) (fun K9 hK9 => ?_) ?_
    rotate_left
    exact AllReadyH.nil
    have t2 := (Htw36.out.at3 _ rfl).2
    have p0 := frozen_of_row W36 _ 0 _ _ t2
    have p1 := frozen_of_row W36 _ 1 _ _ t2
    have p2 := frozen_of_row W36 _ 2 _ _ t2
    have p3 := frozen_of_row W36 _ 3 _ _ t2
    have q0 : W36.cell? ⟨W31.heap.size, 0, none⟩ = some ((.int .i64 0)) := by rw [cell_of_row W36 _ 0 _ _ _ t2]; rfl
    have q1 : W36.cell? ⟨W31.heap.size, 1, none⟩ = some ((.slice none 0 0)) := by rw [cell_of_row W36 _ 1 _ _ _ t2]; rfl
    have q2 : W36.cell? ⟨W31.heap.size, 2, none⟩ = some ((.slice none 0 0)) := by rw [cell_of_row W36 _ 2 _ _ _ t2]; rfl
    have q3 : W36.cell? ⟨W31.heap.size, 3, none⟩ = some ((.slice none 0 0)) := by rw [cell_of_row W36 _ 3 _ _ _ t2]; rfl
    clear t2
    go_simp
    refine kgen (fun W => TD wx W T.foes.length T.beats.length T.rules (W35.heap.size) (W23.heap.size) (W31.heap.size) (.slice A23 T.rules.length c23) vs23 T.lits) (Htw36.out.done T.lits) (fun W37 htd => ?_)
    refine hK9.out _ _ ?_ (fun hHeld => ?_)
    ·exact HS.out _ htd.below
    clear hK9 K9
    try simp only [Act.put, List.setIfInBounds_toArray, List.set_cons_zero, List.set_cons_succ]
    refine wpAnyH_done (by kernel_rfl) (NoPanic.normal ?_) _
    exact HK.out _ _ _ _ _ _ _ _ _ _ _ _ _ _ _ _ _ _ _ _ htd
  ·skip
   go_simp
   refine kgen (fun W => TW wx W T.foes.length T.beats.length T.rules none none (some W23.heap.size) (some (.slice A23 T.rules.length c23, vs23))) (Htw23.out.mk3) (fun W38 htw => ?_)
   have Htw38 := hid htw
   clear htw
   refine hK9.out _ _ ?_ (fun hHeld => ?_)
   ·exact HS.out _ Htw38.out.below
   clear hK9 K9
   try simp only [Act.put, List.setIfInBounds_toArray, List.set_cons_zero, List.set_cons_succ]
   refine wpAnyH_ready (rs := [5, 12]) (by kernel_rfl) (by simp) ?_
   refine AllReadyH.cons (by simp only [List.getElem?_toArray, List.getElem?_cons_zero, List.getElem?_cons_succ]; rfl) (fun K9 hK9 => ?_) ?_
   rotate_left
   refine AllReadyH.cons (by simp only [List.getElem?_toArray, List.getElem?_cons_zero, List.getElem?_cons_succ]; rfl) (fun K9 hK9 => ?_) ?_
   rotate_left
   exact AllReadyH.nil
   ·skip
    go_simp
    refine kgen (fun W => TW wx W T.foes.length T.beats.length T.rules (some W38.heap.size) none (some W23.heap.size) (some (.slice A23 T.rules.length c23, vs23))) (Htw38.out.mkF) (fun W39 htw => ?_)
    have Htw39 := hid htw
    clear htw
    refine hK9.out _ _ ?_ (fun hHeld => ?_)
    ·exact HS.out _ Htw39.out.below
    clear hK9 K9
    try simp only [Act.put, List.setIfInBounds_toArray, List.set_cons_zero, List.set_cons_succ]
    refine wpAnyH_ready (rs := [12]) (by kernel_rfl) (by simp) ?_
    refine AllReadyH.cons (by simp only [List.getElem?_toArray, List.getElem?_cons_zero, List.getElem?_cons_succ]; rfl) (fun K9 hK9 => ?_) ?_
    rotate_left
    exact AllReadyH.nil
    go_simp
    refine kgen (fun W => TW wx W T.foes.length T.beats.length T.rules (some W38.heap.size) (some W39.heap.size) (some W23.heap.size) (some (.slice A23 T.rules.length c23, vs23))) (Htw39.out.mkB) (fun W40 htw => ?_)
    have Htw40 := hid htw
    clear htw
    refine hK9.out _ _ ?_ (fun hHeld => ?_)
    ·exact HS.out _ Htw40.out.below
    clear hK9 K9
    try simp only [Act.put, List.setIfInBounds_toArray, List.set_cons_zero, List.set_cons_succ]
    refine wpAnyH_take (i := 13) (v := ?v21) (by simp only [List.getElem?_toArray, List.getElem?_cons_zero, List.getElem?_cons_succ]; rfl) (by kernel_rfl) (by kernel_rfl) (by kernel_rfl) (fun _ _ _ h => h) (Or.inl ⟨by rfl, ?hy21⟩) (by assumption) ?rest21
    case hy21 => (intro w hSw; (try dsimp only at hSw); go_simp) <;> try with_reducible rfl
    simp only [Act.put, List.setIfInBounds_toArray, List.set_cons_zero, List.set_cons_succ]
    refine wpAnyH_ready (rs := [15]) (by kernel_rfl) (by simp) ?_
    refine AllReadyH.cons (by simp only [List.getElem?_toArray, List.getElem?_cons_zero, List.getElem?_cons_succ]; rfl) (fun K9 hK9 => ?_) ?_
    rotate_left
    exact AllReadyH.nil
    have t2 := (Htw40.out.at3 _ rfl).2
    have p0 := frozen_of_row W40 _ 0 _ _ t2
    have p1 := frozen_of_row W40 _ 1 _ _ t2
    have p2 := frozen_of_row W40 _ 2 _ _ t2
    have p3 := frozen_of_row W40 _ 3 _ _ t2
    have q0 : W40.cell? ⟨W23.heap.size, 0, none⟩ = some ((.int .i64 0)) := by rw [cell_of_row W40 _ 0 _ _ _ t2]; rfl
    have q1 : W40.cell? ⟨W23.heap.size, 1, none⟩ = some ((.slice none 0 0)) := by rw [cell_of_row W40 _ 1 _ _ _ t2]; rfl
    have q2 : W40.cell? ⟨W23.heap.size, 2, none⟩ = some ((.slice none 0 0)) := by rw [cell_of_row W40 _ 2 _ _ _ t2]; rfl
    have q3 : W40.cell? ⟨W23.heap.size, 3, none⟩ = some ((.slice none 0 0)) := by rw [cell_of_row W40 _ 3 _ _ _ t2]; rfl
    clear t2
    go_simp
    refine kgen (fun W => TD wx W T.foes.length T.beats.length T.rules (W38.heap.size) (W39.heap.size) (W23.heap.size) (.slice A23 T.rules.length c23) vs23 T.lits) (Htw40.out.done T.lits) (fun W41 htd => ?_)
    refine hK9.out _ _ ?_ (fun hHeld => ?_)
    ·exact HS.out _ htd.below
    clear hK9 K9
    try simp only [Act.put, List.setIfInBounds_toArray, List.set_cons_zero, List.set_cons_succ]
    refine wpAnyH_done (by kernel_rfl) (NoPanic.normal ?_) _
    exact HK.out _ _ _ _ _ _ _ _ _ _ _ _ _ _ _ _ _ _ _ _ htd
   ·skip
    go_simp
    refine kgen (fun W => TW wx W T.foes.length T.beats.length T.rules none (some W38.heap.size) (some W23.heap.size) (some (.slice A23 T.rules.length c23, vs23))) (Htw38.out.mkB) (fun W42 htw => ?_)
    have Htw42 := hid htw
    clear htw
    refine hK9.out _ _ ?_ (fun hHeld => ?_)
    ·exact HS.out _ Htw42.out.below
    clear hK9 K9
    try simp only [Act.put, List.setIfInBounds_toArray, List.set_cons_zero, List.set_cons_succ]
    refine wpAnyH_ready (rs := [5]) (by kernel_rfl) (by simp) ?_
    refine AllReadyH.cons (by simp only [List.getElem?_toArray, List.getElem?_cons_zero, List.getElem?_cons_succ]; rfl) (fun K9 hK9 => ?_) ?_
    rotate_left
    exact AllReadyH.nil
    go_simp
    refine kgen (fun W => TW wx W T.foes.length T.beats.length T.rules (some W42.heap.size) (some W38.heap.size) (some W23.heap.size) (some (.slice A23 T.rules.length c23, vs23))) (Htw42.out.mkF) (fun W43 htw => ?_)
    have Htw43 := hid htw
    clear htw
    refine hK9.out _ _ ?_ (fun hHeld => ?_)
    ·exact HS.out _ Htw43.out.below
    clear hK9 K9
    try simp only [Act.put, List.setIfInBounds_toArray, List.set_cons_zero, List.set_cons_succ]
    refine wpAnyH_take (i := 13) (v := ?v22) (by simp only [List.getElem?_toArray, List.getElem?_cons_zero, List.getElem?_cons_succ]; rfl) (by kernel_rfl) (by kernel_rfl) (by kernel_rfl) (fun _ _ _ h => h) (Or.inl ⟨by rfl, ?hy22⟩) (by assumption) ?rest22
    case hy22 => (intro w hSw; (try dsimp only at hSw); go_simp) <;> try with_reducible rfl
    simp only [Act.put, List.setIfInBounds_toArray, List.set_cons_zero, List.set_cons_succ]
    refine wpAnyH_ready (rs := [15]) (by kernel_rfl) (by simp) ?_
    refine AllReadyH.cons (by simp only [List.getElem?_toArray, List.getElem?_cons_zero, List.getElem?_cons_succ]; rfl) (fun K9 hK9 => ?_) ?_
    rotate_left
    exact AllReadyH.nil
    have t2 := (Htw43.out.at3 _ rfl).2
    have p0 := frozen_of_row W43 _ 0 _ _ t2
    have p1 := frozen_of_row W43 _ 1 _ _ t2
    have p2 := frozen_of_row W43 _ 2 _ _ t2
    have p3 := frozen_of_row W43 _ 3 _ _ t2
    have q0 : W43.cell? ⟨W23.heap.size, 0, none⟩ = some ((.int .i64 0)) := by rw [cell_of_row W43 _ 0 _ _ _ t2]; rfl
    have q1 : W43.cell? ⟨W23.heap.size, 1, none⟩ = some ((.slice none 0 0)) := by rw [cell_of_row W43 _ 1 _ _ _ t2]; rfl
    have q2 : W43.cell? ⟨W23.heap.size, 2, none⟩ = some ((.slice none 0 0)) := by rw [cell_of_row W43 _ 2 _ _ _ t2]; rfl
    have q3 : W43.cell? ⟨W23.heap.size, 3, none⟩ = some ((.slice none 0 0)) := by rw [cell_of_row W43 _ 3 _ _ _ t2]; rfl
    clear t2
    go_simp
    refine kgen (fun W => TD wx W T.foes.length T.beats.length T.rules (W42.heap.size) (W38.heap.size) (W23.heap.size) (.slice A23 T.rules.length c23) vs23 T.lits) (Htw43.out.done T.lits) (fun W44 htd => ?_)
    refine hK9.out _ _ ?_ (fun hHeld => ?_)
    ·exact HS.out _ htd.below
    clear hK9 K9
    try simp only [Act.put, List.setIfInBounds_toArray, List.set_cons_zero, List.set_cons_succ]
    refine wpAnyH_done (by kernel_rfl) (NoPanic.normal ?_) _
    exact HK.out _ _ _ _ _ _ _ _ _ _ _ _ _ _ _ _ _ _ _ _ htd
 ·skip
  go_simp
  refine kgen (fun W => TW wx W T.foes.length T.beats.length T.rules none (some W0.heap.size) none none) (Htw0.out.mkB) (fun W45 htw => ?_)
  have Htw45 := hid htw
  clear htw
  refine hK9.out _ _ ?_ (fun hHeld => ?_)
  ·exact HS.out _ Htw45.out.below
  clear hK9 K9
  try simp only [Act.put, List.setIfInBounds_toArray, List.set_cons_zero, List.set_cons_succ]
  refine wpAnyH_ready (rs := [5, 8, 14]) (by kernel_rfl) (by simp) ?_
  refine AllReadyH.cons (by simp only [List.getElem?_toArray, List.getElem?_cons_zero, List.getElem?_cons_succ]; rfl) (fun K9 hK9 => ?_) ?_
  rotate_left
  refine AllReadyH.cons (by simp only [List.getElem?_toArray, List.getElem?_cons_zero, List.getElem?_cons_succ]; rfl) (fun K9 hK9 => ?_) ?_
  rotate_left
  refine AllReadyH.cons (by simp only [List.getElem?_toArray, List.getElem?_cons_zero, List.getElem?_cons_succ]; rfl) (fun K9 hK9 => ?_) ?_
  rotate_left
  exact AllReadyH.nil
  ·skip
   go_simp
   refine kgen (fun W => TW wx W T.foes.length T.beats.length T.rules (some W45.heap.size) (some W0.heap.size) none none) (Htw45.out.mkF) (fun W46 htw => ?_)
   have Htw46 := hid htw
   clear htw
   refine hK9.out _ _ ?_ (fun hHeld => ?_)
   ·exact HS.out _ Htw46.out.below
   clear hK9 K9
   try simp only [Act.put, List.setIfInBounds_toArray, List.set_cons_zero, List.set_cons_succ]
   refine wpAnyH_ready (rs := [8, 14]) (by kernel_rfl) (by simp) ?_
   refine AllReadyH.cons (by simp only [List.getElem?_toArray, List.getElem?_cons_zero, List.getElem?_cons_succ]; rfl) (fun K9 hK9 => ?_) ?_
   rotate_left
   refine AllReadyH.cons (by simp only [List.getElem?_toArray, List.getElem?_cons_zero, List.getElem?_cons_succ]; rfl) (fun K9 hK9 => ?_) ?_
   rotate_left
   exact AllReadyH.nil
   ·skip
    go_simp
    refine (cloneR0_any wx W46 _ T.rules HR.out Htw46.out.below (by omega)).mono ?_
    rintro e Wc47 ⟨_, rfl, vs47, hown47, hbod47, hbl47⟩
    obtain ⟨A47, c47, rfl⟩ := own_form0 hown47
    go_simp
    refine kgen (fun W => TW wx W T.foes.length T.beats.length T.rules (some W45.heap.size) (some W0.heap.size) none (some (.slice A47 T.rules.length c47, vs47))) (Htw46.out.clone hown47 hbod47 hbl47) (fun W47 htw => ?_)
    have Htw47 := hid htw
    clear htw
    refine hK9.out _ _ ?_ (fun hHeld => ?_)
    ·exact HS.out _ Htw47.out.below
    clear hK9 K9
    try simp only [Act.put, List.setIfInBounds_toArray, List.set_cons_zero, List.set_cons_succ]
    refine wpAnyH_take (i := 13) (v := ?v23) (by simp only [List.getElem?_toArray, List.getElem?_cons_zero, List.getElem?_cons_succ]; rfl) (by kernel_rfl) (by kernel_rfl) (by kernel_rfl) (fun _ _ _ h => h) (Or.inl ⟨by rfl, ?hy23⟩) (by assumption) ?rest23
    case hy23 => (intro w hSw; (try dsimp only at hSw); go_simp) <;> try with_reducible rfl
    simp only [Act.put, List.setIfInBounds_toArray, List.set_cons_zero, List.set_cons_succ]
    refine wpAnyH_ready (rs := [14]) (by kernel_rfl) (by simp) ?_
    refine AllReadyH.cons (by simp only [List.getElem?_toArray, List.getElem?_cons_zero, List.getElem?_cons_succ]; rfl) (fun K9 hK9 => ?_) ?_
    rotate_left
    exact AllReadyH.nil
    go_simp
    refine kgen (fun W => TW wx W T.foes.length T.beats.length T.rules (some W45.heap.size) (some W0.heap.size) (some W47.heap.size) (some (.slice A47 T.rules.length c47, vs47))) (Htw47.out.mk3) (fun W48 htw => ?_)
    have Htw48 := hid htw
    clear htw
    refine hK9.out _ _ ?_ (fun hHeld => ?_)
    ·exact HS.out _ Htw48.out.below
    clear hK9 K9
    try simp only [Act.put, List.setIfInBounds_toArray, List.set_cons_zero, List.set_cons_succ]
    refine wpAnyH_ready (rs := [15]) (by kernel_rfl) (by simp) ?_
    refine AllReadyH.cons (by simp only [List.getElem?_toArray, List.getElem?_cons_zero, List.getElem?_cons_succ]; rfl) (fun K9 hK9 => ?_) ?_
    rotate_left
    exact AllReadyH.nil
    have t2 := (Htw48.out.at3 _ rfl).2
    have p0 := frozen_of_row W48 _ 0 _ _ t2
    have p1 := frozen_of_row W48 _ 1 _ _ t2
    have p2 := frozen_of_row W48 _ 2 _ _ t2
    have p3 := frozen_of_row W48 _ 3 _ _ t2
    have q0 : W48.cell? ⟨W47.heap.size, 0, none⟩ = some ((.int .i64 0)) := by rw [cell_of_row W48 _ 0 _ _ _ t2]; rfl
    have q1 : W48.cell? ⟨W47.heap.size, 1, none⟩ = some ((.slice none 0 0)) := by rw [cell_of_row W48 _ 1 _ _ _ t2]; rfl
    have q2 : W48.cell? ⟨W47.heap.size, 2, none⟩ = some ((.slice none 0 0)) := by rw [cell_of_row W48 _ 2 _ _ _ t2]; rfl
    have q3 : W48.cell? ⟨W47.heap.size, 3, none⟩ = some ((.slice none 0 0)) := by rw [cell_of_row W48 _ 3 _ _ _ t2]; rfl
    clear t2
    go_simp
    refine kgen (fun W => TD wx W T.foes.length T.beats.length T.rules (W45.heap.size) (W0.heap.size) (W47.heap.size) (.slice A47 T.rules.length c47) vs47 T.lits) (Htw48.out.done T.lits) (fun W49 htd => ?_)
    refine hK9.out _ _ ?_ (fun hHeld => ?_)
    ·exact HS.out _ htd.below
    clear hK9 K9
    try simp only [Act.put, List.setIfInBounds_toArray, List.set_cons_zero, List.set_cons_succ]
    refine wpAnyH_done (by kernel_rfl) (NoPanic.normal ?_) _
    exact HK.out _ _ _ _ _ _ _ _ _ _ _ _ _ _ _ _ _ _ _ _ htd
   ·skip
    go_simp
    refine kgen (fun W => TW wx W T.foes.length T.beats.length T.rules (some W45.heap.size) (some W0.heap.size) (some W46.heap.size) none) (Htw46.out.mk3) (fun W50 htw => ?_)
    have Htw50 := hid htw
    clear htw
    refine hK9.out _ _ ?_ (fun hHeld => ?_)
    ·exact HS.out _ Htw50.out.below
    clear hK9 K9
    try simp only [Act.put, List.setIfInBounds_toArray, List.set_cons_zero, List.set_cons_succ]
    refine wpAnyH_ready (rs := [8]) (by kernel_rfl) (by simp) ?_
    refine AllReadyH.cons (by simp only [List.getElem?_toArray, List.getElem?_cons_zero, List.getElem?_cons_succ]; rfl) (fun K9 hK9 => ?_) ?_
    rotate_left
    exact AllReadyH.nil
    go_simp
    refine (cloneR0_any wx W50 _ T.rules HR.out Htw50.out.below (by omega)).mono ?_
    rintro e Wc51 ⟨_, rfl, vs51, hown51, hbod51, hbl51⟩
    obtain ⟨A51, c51, rfl⟩ := own_form0 hown51
    go_simp
    refine kgen (fun W => TW wx W T.foes.length T.beats.length T.rules (some W45.heap.size) (some W0.heap.size) (some W46.heap.size) (some (.slice A51 T.rules.length c51, vs51))) (Htw50.out.clone hown51 hbod51 hbl51) (fun W51 htw => ?_)
    have Htw51 := hid htw
    clear htw
    refine hK9.out _ _ ?_ (fun hHeld => ?_)
    ·exact HS.out _ Htw51.out.below
    clear hK9 K9
    try simp only [Act.put, List.setIfInBounds_toArray, List.set_cons_zero, List.set_cons_succ]
    refine wpAnyH_take (i := 13) (v := ?v24) (by simp only [List.getElem?_toArray, List.getElem?_cons_zero, List.getElem?_cons_succ]; rfl) (by kernel_rfl) (by kernel_rfl) (by kernel_rfl) (fun _ _ _ h => h) (Or.inl ⟨by rfl, ?hy24⟩) (by assumption) ?rest24
    case hy24 => (intro w hSw; (try dsimp only at hSw); go_simp) <;> try with_reducible rfl
    simp only [Act.put, List.setIfInBounds_toArray, List.set_cons_zero, List.set_cons_succ]
    refine wpAnyH_ready (rs := [15]) (by kernel_rfl) (by simp) ?_
    refine AllReadyH.cons (by simp only [List.getElem?_toArray, List.getElem?_cons_zero, List.getElem?_cons_succ]; rfl) (fun K9 hK9 => ?_) ?_
    rotate_left
    exact AllReadyH.nil
    have t2 := (Htw51.out.at3 _ rfl).2
    have p0 := frozen_of_row W51 _ 0 _ _ t2
    have p1 := frozen_of_row W51 _ 1 _ _ t2
    have p2 := frozen_of_row W51 _ 2 _ _ t2
    have p3 := frozen_of_row W51 _ 3 _ _ t2
    have q0 : W51.cell? ⟨W46.heap.size, 0, none⟩ = some ((.int .i64 0)) := by rw [cell_of_row W51 _ 0 _ _ _ t2]; rfl
    have q1 : W51.cell? ⟨W46.heap.size, 1, none⟩ = some ((.slice none 0 0)) := by rw [cell_of_row W51 _ 1 _ _ _ t2]; rfl
    have q2 : W51.cell? ⟨W46.heap.size, 2, none⟩ = some ((.slice none 0 0)) := by rw [cell_of_row W51 _ 2 _ _ _ t2]; rfl
    have q3 : W51.cell? ⟨W46.heap.size, 3, none⟩ = some ((.slice none 0 0)) := by rw [cell_of_row W51 _ 3 _ _ _ t2]; rfl
    clear t2
    go_simp
    refine kgen (fun W => TD wx W T.foes.length T.beats.length T.rules (W45.heap.size) (W0.heap.size) (W46.heap.size) (.slice A51 T.rules.length c51) vs51 T.lits) (Htw51.out.done T.lits) (fun W52 htd => ?_)
    refine hK9.out _ _ ?_ (fun hHeld => ?_)
    ·exact HS.out _ htd.below
    clear hK9 K9
    try simp only [Act.put, List.setIfInBounds_toArray, List.set_cons_zero, List.set_cons_succ]
    refine wpAnyH_done (by kernel_rfl) (NoPanic.normal ?_) _
    exact HK.out _ _ _ _ _ _ _ _ _ _ _ _ _ _ _ _ _ _ _ _ htd
  ·skip
   go_simp
   refine (cloneR0_any wx W45 _ T.rules HR.out Htw45.out.below (by omega)).mono ?_
   rintro e Wc53 ⟨_, rfl, vs53, hown53, hbod53, hbl53⟩
   obtain ⟨A53, c53, rfl⟩ := own_form0 hown53
   go_simp
   refine kgen (fun W => TW wx W T.foes.length T.beats.length T.rules none (some W0.heap.size) none (some (.slice A53 T.rules.length c53, vs53))) (Htw45.out.clone hown53 hbod53 hbl53) (fun W53 htw => ?_)
   have Htw53 := hid htw
   clear htw
   refine hK9.out _ _ ?_ (fun hHeld => ?_)
   ·exact HS.out _ Htw53.out.below
   clear hK9 K9
   try simp only [Act.put, List.setIfInBounds_toArray, List.set_cons_zero, List.set_cons_succ]
   refine wpAnyH_ready (rs := [5, 14]) (by kernel_rfl) (by simp) ?_
   refine AllReadyH.cons (by simp only [List.getElem?_toArray, List.getElem?_cons_zero, List.getElem?_cons_succ]; rfl) (fun K9 hK9 => ?_) ?_
   rotate_left
   refine AllReadyH.cons (by simp only [List.getElem?_toArray, List.getElem?_cons_zero, List.getElem?_cons_succ]; rfl) (fun K9 hK9 => ?_) ?_
   rotate_left
   exact AllReadyH.nil
   ·skip
    go_simp
    refine kgen (fun W => TW wx W T.foes.length T.beats.length T.rules (some W53.heap.size) (some W0.heap.size) none (some (.slice A53 T.rules.length c53, vs53))) (Htw53.out.mkF) (fun W54 htw => ?_)
    have Htw54 := hid htw
    clear htw
    refine hK9.out _ _ ?_ (fun hHeld => ?_)
    ·exact HS.out _ Htw54.out.below
    clear hK9 K9
    try simp only [Act.put, List.setIfInBounds_toArray, List.set_cons_zero, List.set_cons_succ]
    refine wpAnyH_take (i := 13) (v := ?v25) (by simp only [List.getElem?_toArray, List.getElem?_cons_zero, List.getElem?_cons_succ]; rfl) (by kernel_rfl) (by kernel_rfl) (by kernel_rfl) (fun _ _ _ h => h) (Or.inl ⟨by rfl, ?hy25⟩) (by assumption) ?rest25
    case hy25 => (intro w hSw; (try dsimp only at hSw); go_simp) <;> try with_reducible rfl
    simp only [Act.put, List.setIfInBounds_toArray, List.set_cons_zero, List.set_cons_succ]
    refine wpAnyH_ready (rs := [14]) (by kernel_rfl) (by simp) ?_
    refine AllReadyH.cons (by simp only [List.getElem?_toArray, List.getElem?_cons_zero, List.getElem?_cons_succ]; rfl) (fun K9 hK9 => ?_) ?_
    rotate_left
    exact AllReadyH.nil
    go_simp
    refine kgen (fun W => TW wx W T.foes.length T.beats.length T.rules (some W53.heap.size) (some W0.heap.size) (some W54.heap.size) (some (.slice A53 T.rules.length c53, vs53))) (Htw54.out.mk3) (fun W55 htw => ?_)
    have Htw55 := hid htw
    clear htw
    refine hK9.out _ _ ?_ (fun hHeld => ?_)
    ·exact HS.out _ Htw55.out.below
    clear hK9 K9
    try simp only [Act.put, List.setIfInBounds_toArray, List.set_cons_zero, List.set_cons_succ]
    refine wpAnyH_ready (rs := [15]) (by kernel_rfl) (by simp) ?_
    refine AllReadyH.cons (by simp only [List.getElem?_toArray, List.getElem?_cons_zero, List.getElem?_cons_succ]; rfl) (fun K9 hK9 => ?_) ?_
    rotate_left
    exact AllReadyH.nil
    have t2 := (Htw55.out.at3 _ rfl).2
    have p0 := frozen_of_row W55 _ 0 _ _ t2
    have p1 := frozen_of_row W55 _ 1 _ _ t2
    have p2 := frozen_of_row W55 _ 2 _ _ t2
    have p3 := frozen_of_row W55 _ 3 _ _ t2
    have q0 : W55.cell? ⟨W54.heap.size, 0, none⟩ = some ((.int .i64 0)) := by rw [cell_of_row W55 _ 0 _ _ _ t2]; rfl
    have q1 : W55.cell? ⟨W54.heap.size, 1, none⟩ = some ((.slice none 0 0)) := by rw [cell_of_row W55 _ 1 _ _ _ t2]; rfl
    have q2 : W55.cell? ⟨W54.heap.size, 2, none⟩ = some ((.slice none 0 0)) := by rw [cell_of_row W55 _ 2 _ _ _ t2]; rfl
    have q3 : W55.cell? ⟨W54.heap.size, 3, none⟩ = some ((.slice none 0 0)) := by rw [cell_of_row W55 _ 3 _ _ _ t2]; rfl
    clear t2
    go_simp
    refine kgen (fun W => TD wx W T.foes.length T.beats.length T.rules (W53.heap.size) (W0.heap.size) (W54.heap.size) (.slice A53 T.rules.length c53) vs53 T.lits) (Htw55.out.done T.lits) (fun W56 htd => ?_)
    refine hK9.out _ _ ?_ (fun hHeld => ?_)
    ·exact HS.out _ htd.below
    clear hK9 K9
    try simp only [Act.put, List.setIfInBounds_toArray, List.set_cons_zero, List.set_cons_succ]
    refine wpAnyH_done (by kernel_rfl) (NoPanic.normal ?_) _
    exact HK.out _ _ _ _ _ _ _ _ _ _ _ _ _ _ _ _ _ _ _ _ htd
   ·skip
    go_simp
    refine kgen (fun W => TW wx W T.foes.length T.beats.length T.rules none (some W0.heap.size) (some W53.heap.size) (some (.slice A53 T.rules.length c53, vs53))) (Htw53.out.mk3) (fun W57 htw => ?_)
    have Htw57 := hid htw
    clear htw
    refine hK9.out _ _ ?_ (fun hHeld => ?_)
    ·exact HS.out _ Htw57.out.below
    clear hK9 K9
    try simp only [Act.put, List.setIfInBounds_toArray, List.set_cons_zero, List.set_cons_succ]
    refine wpAnyH_ready (rs := [5]) (by kernel_rfl) (by simp) ?_
    refine AllReadyH.cons (by simp only [List.getElem?_toArray, List.getElem?_cons_zero, List.getElem?_cons_succ]; rfl) (fun K9 hK9 => ?_) ?_
    rotate_left
    exact AllReadyH.nil
    go_simp
    refine kgen (fun W => TW wx W T.foes.length T.beats.length T.rules (some W57.heap.size) (some W0.heap.size) (some W53.heap.size) (some (.slice A53 T.rules.length c53, vs53))) (Htw57.out.mkF) (fun W58 htw => ?_)
    have Htw58 := hid htw
    clear htw
    refine hK9.out _ _ ?_ (fun hHeld => ?_)
    ·exact HS.out _ Htw58.out.below
    clear hK9 K9
    try simp only [Act.put, List.setIfInBounds_toArray, List.set_cons_zero, List.set_cons_succ]
    refine wpAnyH_take (i := 13) (v := ?v26) (by simp only [List.getElem?_toArray, List.getElem?_cons_zero, List.getElem?_cons_succ]; rfl) (by kernel_rfl) (by kernel_rfl) (by kernel_rfl) (fun _ _ _ h => h) (Or.inl ⟨by rfl, ?hy26⟩) (by assumption) ?rest26
    case hy26 => (intro w hSw; (try dsimp only at hSw); go_simp) <;> try with_reducible rfl
    simp only [Act.put, List.setIfInBounds_toArray, List.set_cons_zero, List.set_cons_succ]
    refine wpAnyH_ready (rs := [15]) (by kernel_rfl) (by simp) ?_
    refine AllReadyH.cons (by simp only [List.getElem?_toArray, List.getElem?_cons_zero, List.getElem?_cons_succ]; rfl) (fun K9 hK9 => ?_) ?_
    rotate_left
    exact AllReadyH.nil
    have t2 := (Htw58.out.at3 _ rfl).2
    have p0 := frozen_of_row W58 _ 0 _ _ t2
    have p1 := frozen_of_row W58 _ 1 _ _ t2
    have p2 := frozen_of_row W58 _ 2 _ _ t2
    have p3 := frozen_of_row W58 _ 3 _ _ t2
    have q0 : W58.cell? ⟨W53.heap.size, 0, none⟩ = some ((.int .i64 0)) := by rw [cell_of_row W58 _ 0 _ _ _ t2]; rfl
    have q1 : W58.cell? ⟨W53.heap.size, 1, none⟩ = some ((.slice none 0 0)) := by rw [cell_of_row W58 _ 1 _ _ _ t2]; rfl
    have q2 : W58.cell? ⟨W53.heap.size, 2, none⟩ = some ((.slice none 0 0)) := by rw [cell_of_row W58 _ 2 _ _ _ t2]; rfl
    have q3 : W58.cell? ⟨W53.heap.size, 3, none⟩ = some ((.slice none 0 0)) := by rw [cell_of_row W58 _ 3 _ _ _ t2]; rfl
    clear t2
    go_simp
    refine kgen (fun W => TD wx W T.foes.length T.beats.length T.rules (W57.heap.size) (W0.heap.size) (W53.heap.size) (.slice A53 T.rules.length c53) vs53 T.lits) (Htw58.out.done T.lits) (fun W59 htd => ?_)
    refine hK9.out _ _ ?_ (fun hHeld => ?_)
    ·exact HS.out _ htd.below
    clear hK9 K9
    try simp only [Act.put, List.setIfInBounds_toArray, List.set_cons_zero, List.set_cons_succ]
    refine wpAnyH_done (by kernel_rfl) (NoPanic.normal ?_) _
    exact HK.out _ _ _ _ _ _ _ _ _ _ _ _ _ _ _ _ _ _ _ _ htd
  ·skip
   go_simp
   refine kgen (fun W => TW wx W T.foes.length T.beats.length T.rules none (some W0.heap.size) (some W45.heap.size) none) (Htw45.out.mk3) (fun W60 htw => ?_)
   have Htw60 := hid htw
   clear htw
   refine hK9.out _ _ ?_ (fun hHeld => ?_)
   ·exact HS.out _ Htw60.out.below
   clear hK9 K9
   try simp only [Act.put, List.setIfInBounds_toArray, List.set_cons_zero, List.set_cons_succ]
   refine wpAnyH_ready (rs := [5, 8]) (by kernel_rfl) (by simp) ?_
   refine AllReadyH.cons (by simp only [List.getElem?_toArray, List.getElem?_cons_zero, List.getElem?_cons_succ]; rfl) (fun K9 hK9 => ?_) ?_
   rotate_left
   refine AllReadyH.cons (by simp only [List.getElem?_toArray, List.getElem?_cons_zero, List.getElem?_cons_succ]; rfl) (fun K9 hK9 => ?_) ?_
   rotate_left
   exact AllReadyH.nil
   ·skip
    go_simp
    refine kgen (fun W => TW wx W T.foes.length T.beats.length T.rules (some W60.heap.size) (some W0.heap.size) (some W45.heap.size) none) (Htw60.out.mkF) (fun W61 htw => ?_)
    have Htw61 := hid htw
    clear htw
    refine hK9.out _ _ ?_ (fun hHeld => ?_)
    ·exact HS.out _ Htw61.out.below
    clear hK9 K9
    try simp only [Act.put, List.setIfInBounds_toArray, List.set_cons_zero, List.set_cons_succ]
    refine wpAnyH_ready (rs := [8]) (by kernel_rfl) (by simp) ?_
    refine AllReadyH.cons (by simp only [List.getElem?_toArray, List.getElem?_cons_zero, List.getElem?_cons_succ]; rfl) (fun K9 hK9 => ?_) ?_
    rotate_left
    exact AllReadyH.nil
    go_simp
    refine (cloneR0_any wx W61 _ T.rules HR.out Htw61.out.below (by omega)).mono ?_
    rintro e Wc62 ⟨_, rfl, vs62, hown62, hbod62, hbl62⟩
    obtain ⟨A62, c62, rfl⟩ := own_form0 hown62
    go_simp
    refine kgen (fun W => TW wx W T.foes.length T.beats.length T.rules (some W60.heap.size) (some W0.heap.size) (some W45.heap.size) (some (.slice A62 T.rules.length c62, vs62))) (Htw61.out.clone hown62 hbod62 hbl62) (fun W62 htw => ?_)
    have Htw62 := hid htw
    clear htw
    refine hK9.out _ _ ?_ (fun hHeld => ?_)
    ·exact HS.out _ Htw62.out.below
    clear hK9 K9
    try simp only [Act.put, List.setIfInBounds_toArray, List.set_cons_zero, List.set_cons_succ]
    refine wpAnyH_take (i := 13) (v := ?v27) (by simp only [List.getElem?_toArray, List.getElem?_cons_zero, List.getElem?_cons_succ]; rfl) (by kernel_rfl) (by kernel_rfl) (by kernel_rfl) (fun _ _ _ h => h) (Or.inl ⟨by rfl, ?hy27⟩) (by assumption) ?rest27
    case hy27 => (intro w hSw; (try dsimp only at hSw); go_simp) <;> try with_reducible rfl
    simp only [Act.put, List.setIfInBounds_toArray, List.set_cons_zero, List.set_cons_succ]
    refine wpAnyH_ready (rs := [15]) (by kernel_rfl) (by simp) ?_
    refine AllReadyH.cons (by simp only [List.getElem?_toArray, List.getElem?_cons_zero, List.getElem?_cons_succ]; rfl) (fun K9 hK9 => ?_) ?_
    rotate_left
    exact AllReadyH.nil
    have t2 := (Htw62.out.at3 _ rfl).2
    have p0 := frozen_of_row W62 _ 0 _ _ t2
    have p1 := frozen_of_row W62 _ 1 _ _ t2
    have p2 := frozen_of_row W62 _ 2 _ _ t2
    have p3 := frozen_of_row W62 _ 3 _ _ t2
    have q0 : W62.cell? ⟨W45.heap.size, 0, none⟩ = some ((.int .i64 0)) := by rw [cell_of_row W62 _ 0 _ _ _ t2]; rfl
    have q1 : W62.cell? ⟨W45.heap.size, 1, none⟩ = some ((.slice none 0 0)) := by rw [cell_of_row W62 _ 1 _ _ _ t2]; rfl
    have q2 : W62.cell? ⟨W45.heap.size, 2, none⟩ = some ((.slice none 0 0)) := by rw [cell_of_row W62 _ 2 _ _ _ t2]; rfl
    have q3 : W62.cell? ⟨W45.heap.size, 3, none⟩ = some ((.slice none 0 0)) := by rw [cell_of_row W62 _ 3 _ _ _ t2]; rfl
    clear t2
    go_simp
    refine kgen (fun W => TD wx W T.foes.length T.beats.length T.rules (W60.heap.size) (W0.heap.size) (W45.heap.size) (.slice A62 T.rules.length c62) vs62 T.lits) (Htw62.out.done T.lits) (fun W63 htd => ?_)
    refine hK9.out _ _ ?_ (fun hHeld => ?_)
    ·exact HS.out _ htd.below
    clear hK9 K9
    try simp only [Act.put, List.setIfInBounds_toArray, List.set_cons_zero, List.set_cons_succ]
    refine wpAnyH_done (by kernel_rfl) (NoPanic.normal ?_) _
    exact HK.out _ _ _ _ _ _ _ _ _ _ _ _ _ _ _ _ _ _ _ _ htd
   ·skip
    go_simp
    refine (cloneR0_any wx W60 _ T.rules HR.out Htw60.out.below (by omega)).mono ?_
    rintro e Wc64 ⟨_, rfl, vs64, hown64, hbod64, hbl64⟩
    obtain ⟨A64, c64, rfl⟩ := own_form0 hown64
    go_simp
    refine kgen (fun W => TW wx W T.foes.length T.beats.length T.rules none (some W0.heap.size) (some W45.heap.size) (some (.slice A64 T.rules.length c64, vs64))) (Htw60.out.clone hown64 hbod64 hbl64) (fun W64 htw => ?_)
    have Htw64 := hid htw
    clear htw
    refine hK9.out _ _ ?_ (fun hHeld => ?_)
    ·exact HS.out _ Htw64.out.below
    clear hK9 K9
    try simp only [Act.put, List.setIfInBounds_toArray, List.set_cons_zero, List.set_cons_succ]
    refine wpAnyH_ready (rs := [5]) (by kernel_rfl) (by simp) ?_
    refine AllReadyH.cons (by simp only [List.getElem?_toArray, List.getElem?_cons_zero, List.getElem?_cons_succ]; rfl) (fun K9 hK9 => ?_) ?_
    rotate_left
    exact AllReadyH.nil
    go_simp
    refine kgen (fun W => TW wx W T.foes.length T.beats.length T.rules (some W64.heap.size) (some W0.heap.size) (some W45.heap.size) (some (.slice A64 T.rules.length c64, vs64))) (Htw64.out.mkF) (fun W65 htw => ?_)
    have Htw65 := hid htw
    clear htw
    refine hK9.out _ _ ?_ (fun hHeld => ?_)
    ·exact HS.out _ Htw65.out.below
    clear hK9 K9
    try simp only [Act.put, List.setIfInBounds_toArray, List.set_cons_zero, List.set_cons_succ]
    refine wpAnyH_take (i := 13) (v := ?v28) (by simp only [List.getElem?_toArray, List.getElem?_cons_zero, List.getElem?_cons_succ]; rfl) (by kernel_rfl) (by kernel_rfl) (by kernel_rfl) (fun _ _ _ h => h) (Or.inl ⟨by rfl, ?hy28⟩) (by assumption) ?rest28
    case hy28 => (intro w hSw; (try dsimp only at hSw); go_simp) <;> try with_reducible rfl
    simp only [Act.put, List.setIfInBounds_toArray, List.set_cons_zero, List.set_cons_succ]
    refine wpAnyH_ready (rs := [15]) (by kernel_rfl) (by simp) ?_
    refine AllReadyH.cons (by simp only [List.getElem?_toArray, List.getElem?_cons_zero, List.getElem?_cons_succ]; rfl) (fun K9 hK9 => ?_) ?_
    rotate_left
    exact AllReadyH.nil
    have t2 := (Htw65.out.at3 _ rfl).2
    have p0 := frozen_of_row W65 _ 0 _ _ t2
    have p1 := frozen_of_row W65 _ 1 _ _ t2
    have p2 := frozen_of_row W65 _ 2 _ _ t2
    have p3 := frozen_of_row W65 _ 3 _ _ t2
    have q0 : W65.cell? ⟨W45.heap.size, 0, none⟩ = some ((.int .i64 0)) := by rw [cell_of_row W65 _ 0 _ _ _ t2]; rfl
    have q1 : W65.cell? ⟨W45.heap.size, 1, none⟩ = some ((.slice none 0 0)) := by rw [cell_of_row W65 _ 1 _ _ _ t2]; rfl
    have q2 : W65.cell? ⟨W45.heap.size, 2, none⟩ = some ((.slice none 0 0)) := by rw [cell_of_row W65 _ 2 _ _ _ t2]; rfl
    have q3 : W65.cell? ⟨W45.heap.size, 3, none⟩ = some ((.slice none 0 0)) := by rw [cell_of_row W65 _ 3 _ _ _ t2]; rfl
    clear t2
    go_simp
    refine kgen (fun W => TD wx W T.foes.length T.beats.length T.rules (W64.heap.size) (W0.heap.size) (W45.heap.size) (.slice A64 T.rules.length c64) vs64 T.lits) (Htw65.out.done T.lits) (fun W66 htd => ?_)
    refine hK9.out _ _ ?_ (fun hHeld => ?_)
    ·exact HS.out _ htd.below
    clear hK9 K9
    try simp only [Act.put, List.setIfInBounds_toArray, List.set_cons_zero, List.set_cons_succ]
    refine wpAnyH_done (by kernel_rfl) (NoPanic.normal ?_) _
    exact HK.out _ _ _ _ _ _ _ _ _ _ _ _ _ _ _ _ _ _ _ _ htd
 ·skip
  go_simp
  refine kgen (fun W => TW wx W T.foes.length T.beats.length T.rules none none (some W0.heap.size) none) (Htw0.out.mk3) (fun W67 htw => ?_)
  have Htw67 := hid htw
  clear htw
  refine hK9.out _ _ ?_ (fun hHeld => ?_)
  ·exact HS.out _ Htw67.out.below
  clear hK9 K9
  try simp only [Act.put, List.setIfInBounds_toArray, List.set_cons_zero, List.set_cons_succ]
  refine wpAnyH_ready (rs := [5, 8, 12]) (by kernel_rfl) (by simp) ?_
  refine AllReadyH.cons (by simp only [List.getElem?_toArray, List.getElem?_cons_zero, List.getElem?_cons_succ]; rfl) (fun K9 hK9 => ?_) ?_
  rotate_left
  refine AllReadyH.cons (by simp only [List.getElem?_toArray, List.getElem?_cons_zero, List.getElem?_cons_succ]; rfl) (fun K9 hK9 => ?_) ?_
  rotate_left
  refine AllReadyH.cons (by simp only [List.getElem?_toArray, List.getElem?_cons_zero, List.getElem?_cons_succ]; rfl) (fun K9 hK9 => ?_) ?_
  rotate_left
  exact AllReadyH.nil
  ·skip
   go_simp
   refine kgen (fun W => TW wx W T.foes.length T.beats.length T.rules (some W67.heap.size) none (some W0.heap.size) none) (Htw67.out.mkF) (fun W68 htw => ?_)
   have Htw68 := hid htw
   clear htw
   refine hK9.out _ _ ?_ (fun hHeld => ?_)
   ·exact HS.out _ Htw68.out.below
   clear hK9 K9
   try simp only [Act.put, List.setIfInBounds_toArray, List.set_cons_zero, List.set_cons_succ]
   refine wpAnyH_ready (rs := [8, 12]) (by kernel_rfl) (by simp) ?_
   refine AllReadyH.cons (by simp only [List.getElem?_toArray, List.getElem?_cons_zero, List.getElem?_cons_succ]; rfl) (fun K9 hK9 => ?_) ?_
   rotate_left
   refine AllReadyH.cons (by simp only [List.getElem?_toArray, List.getElem?_cons_zero, List.getElem?_cons_succ]; rfl) (fun K9 hK9 => ?_) ?_
   rotate_left
   exact AllReadyH.nil
   ·skip
    go_simp
    refine (cloneR0_any wx W68 _ T.rules HR.out Htw68.out.below (by omega)).mono ?_
    rintro e Wc69 ⟨_, rfl, vs69, hown69, hbod69, hbl69⟩
    obtain ⟨A69, c69, rfl⟩ := own_form0 hown69
    go_simp
    refine kgen (fun W => TW wx W T.foes.length T.beats.length T.rules (some W67.heap.size) none (some W0.heap.size) (some (.slice A69 T.rules.length c69, vs69))) (Htw68.out.clone hown69 hbod69 hbl69) (fun W69 htw => ?_)
    have Htw69 := hid htw
    clear htw
    refine hK9.out _ _ ?_ (fun hHeld => ?_)
    ·exact HS.out _ Htw69.out.below
    clear hK9 K9
    try simp only [Act.put, List.setIfInBounds_toArray, List.set_cons_zero, List.set_cons_succ]
    refine wpAnyH_ready (rs := [12]) (by kernel_rfl) (by simp) ?_
    refine AllReadyH.cons (by simp only [List.getElem?_toArray, List.getElem?_cons_zero, List.getElem?_cons_succ]; rfl) (fun K9 hK9 => ?_) ?_
    rotate_left
    exact AllReadyH.nil
    go_simp
    refine kgen (fun W => TW wx W T.foes.length T.beats.length T.rules (some W67.heap.size) (some W69.heap.size) (some W0.heap.size) (some (.slice A69 T.rules.length c69, vs69))) (Htw69.out.mkB) (fun W70 htw => ?_)
    have Htw70 := hid htw
    clear htw
    refine hK9.out _ _ ?_ (fun hHeld => ?_)
    ·exact HS.out _ Htw70.out.below
    clear hK9 K9
    try simp only [Act.put, List.setIfInBounds_toArray, List.set_cons_zero, List.set_cons_succ]
    refine wpAnyH_take (i := 13) (v := ?v29) (by simp only [List.getElem?_toArray, List.getElem?_cons_zero, List.getElem?_cons_succ]; rfl) (by kernel_rfl) (by kernel_rfl) (by kernel_rfl) (fun _ _ _ h => h) (Or.inl ⟨by rfl, ?hy29⟩) (by assumption) ?rest29
    case hy29 => (intro w hSw; (try dsimp only at hSw); go_simp) <;> try with_reducible rfl
    simp only [Act.put, List.setIfInBounds_toArray, List.set_cons_zero, List.set_cons_succ]
    refine wpAnyH_ready (rs := [15]) (by kernel_rfl) (by simp) ?_
    refine AllReadyH.cons (by simp only [List.getElem?_toArray, List.getElem?_cons_zero, List.getElem?_cons_succ]; rfl) (fun K9 hK9 => ?_) ?_
    rotate_left
    exact AllReadyH.nil
    have t2 := (Htw70.out.at3 _ rfl).2
    have p0 := frozen_of_row W70 _ 0 _ _ t2
    have p1 := frozen_of_row W70 _ 1 _ _ t2
    have p2 := frozen_of_row W70 _ 2 _ _ t2
    have p3 := frozen_of_row W70 _ 3 _ _ t2
    have q0 : W70.cell? ⟨W0.heap.size, 0, none⟩ = some ((.int .i64 0)) := by rw [cell_of_row W70 _ 0 _ _ _ t2]; rfl
    have q1 : W70.cell? ⟨W0.heap.size, 1, none⟩ = some ((.slice none 0 0)) := by rw [cell_of_row W70 _ 1 _ _ _ t2]; rfl
    have q2 : W70.cell? ⟨W0.heap.size, 2, none⟩ = some ((.slice none 0 0)) := by rw [cell_of_row W70 _ 2 _ _ _ t2]; rfl
    have q3 : W70.cell? ⟨W0.heap.size, 3, none⟩ = some ((.slice none 0 0)) := by rw [cell_of_row W70 _ 3 _ _ _ t2]; rfl
    clear t2
    go_simp
    refine kgen (fun W => TD wx W T.foes.length T.beats.length T.rules (W67.heap.size) (W69.heap.size) (W0.heap.size) (.slice A69 T.rules.length c69) vs69 T.lits) (Htw70.out.done T.lits) (fun W71 htd => ?_)
    refine hK9.out _ _ ?_ (fun hHeld => ?_)
    ·exact HS.out _ htd.below
    clear hK9 K9
    try simp only [Act.put, List.setIfInBounds_toArray, List.set_cons_zero, List.set_cons_succ]
    refine wpAnyH_done (by kernel_rfl) (NoPanic.normal ?_) _
    exact HK.out _ _ _ _ _ _ _ _ _ _ _ _ _ _ _ _ _ _ _ _ htd
   ·skip
    go_simp
    refine kgen (fun W => TW wx W T.foes.length T.beats.length T.rules (some W67.heap.size) (some W68.heap.size) (some W0.heap.size) none) (Htw68.out.mkB) (fun W72 htw => ?_)
    have Htw72 := hid htw
    clear htw
    refine hK9.out _ _ ?_ (fun hHeld => ?_)
    ·exact HS.out _ Htw72.out.below
    clear hK9 K9
    try simp only [Act.put, List.setIfInBounds_toArray, List.set_cons_zero, List.set_cons_succ]
    refine wpAnyH_ready (rs := [8]) (by kernel_rfl) (by simp) ?_
    refine AllReadyH.cons (by simp only [List.getElem?_toArray, List.getElem?_cons_zero, List.getElem?_cons_succ]; rfl) (fun K9 hK9 => ?_) ?_
    rotate_left
    exact AllReadyH.nil
    go_simp
    refine (cloneR0_any wx W72 _ T.rules HR.out Htw72.out.below (by omega)).mono ?_
    rintro e Wc73 ⟨_, rfl, vs73, hown73, hbod73, hbl73⟩
    obtain ⟨A73, c73, rfl⟩ := own_form0 hown73
    go_simp
    refine kgen (fun W => TW wx W T.foes.length T.beats.length T.rules (some W67.heap.size) (some W68.heap.size) (some W0.heap.size) (some (.slice A73 T.rules.length c73, vs73))) (Htw72.out.clone hown73 hbod73 hbl73) (fun W73 htw => ?_)
    have Htw73 := hid htw
    clear htw
    refine hK9.out _ _ ?_ (fun hHeld => ?_)
    ·exact HS.out _ Htw73.out.below
    clear hK9 K9
    try simp only [Act.put, List.setIfInBounds_toArray, List.set_cons_zero, List.set_cons_succ]
    refine wpAnyH_take (i := 13) (v := ?v30) (by simp only [List.getElem?_toArray, List.getElem?_cons_zero, List.getElem?_cons_succ]; rfl) (by kernel_rfl) (by kernel_rfl) (by kernel_rfl) (fun _ _ _ h => h) (Or.inl ⟨by rfl, ?hy30⟩) (by assumption) ?rest30
    case hy30 => (intro w hSw; (try dsimp only at hSw); go_simp) <;> try with_reducible rfl
    simp only [Act.put, List.setIfInBounds_toArray, List.set_cons_zero, List.set_cons_succ]
    refine wpAnyH_ready (rs := [15]) (by kernel_rfl) (by simp) ?_
    refine AllReadyH.cons (by simp only [List.getElem?_toArray, List.getElem?_cons_zero, List.getElem?_cons_succ]; rfl) (fun K9 hK9 => ?_) ?_
    rotate_left
    exact AllReadyH.nil
    have t2 := (Htw73.out.at3 _ rfl).2
    have p0 := frozen_of_row W73 _ 0 _ _ t2
    have p1 := frozen_of_row W73 _ 1 _ _ t2
    have p2 := frozen_of_row W73 _ 2 _ _ t2
    have p3 := frozen_of_row W73 _ 3 _ _ t2
    have q0 : W73.cell? ⟨W0.heap.size, 0, none⟩ = some ((.int .i64 0)) := by rw [cell_of_row W73 _ 0 _ _ _ t2]; rfl
    have q1 : W73.cell? ⟨W0.heap.size, 1, none⟩ = some ((.slice none 0 0)) := by rw [cell_of_row W73 _ 1 _ _ _ t2]; rfl
    have q2 : W73.cell? ⟨W0.heap.size, 2, none⟩ = some ((.slice none 0 0)) := by rw [cell_of_row W73 _ 2 _ _ _ t2]; rfl
    have q3 : W73.cell? ⟨W0.heap.size, 3, none⟩ = some ((.slice none 0 0)) := by rw [cell_of_row W73 _ 3 _ _ _ t2]; rfl
    clear t2
    go_simp
    refine kgen (fun W => TD wx W T.foes.length T.beats.length T.rules (W67.heap.size) (W68.heap.size) (W0.heap.size) (.slice A73 T.rules.length c73) vs73 T.lits) (Htw73.out.done T.lits) (fun W74 htd => ?_)
    refine hK9.out _ _ ?_ (fun hHeld => ?_)
    ·exact HS.out _ htd.below
    clear hK9 K9
    try simp only [Act.put, List.setIfInBounds_toArray, List.set_cons_zero, List.set_cons_succ]
    refine wpAnyH_done (by kernel_rfl) (NoPanic.normal ?_) _
    exact HK.out _ _ _ _ _ _ _ _ _ _ _ _ _ _ _ _ _ _ _ _ htd
  ·skip
   go_simp
   refine (cloneR0_any wx W67 _ T.rules HR.out Htw67.out.below (by omega)).mono ?_
   rintro e Wc75 ⟨_, rfl, vs75, hown75, hbod75, hbl75⟩
   obtain ⟨A75, c75, rfl⟩ := own_form0 hown75
   go_simp
   refine kgen (fun W => TW wx W T.foes.length T.beats.length T.rules none none (some W0.heap.size) (some (.slice A75 T.rules.length c75, vs75))) (Htw67.out.clone hown75 hbod75 hbl75) (fun W75 htw => ?_)
   have Htw75 := hid htw
   clear htw
   refine hK9.out _ _ ?_ (fun hHeld => ?_)
   ·exact HS.out _ Htw75.out.below
   clear hK9 K9
   try simp only [Act.put, List.setIfInBounds_toArray, List.set_cons_zero, List.set_cons_succ]
   refine wpAnyH_ready (rs := [5, 12]) (by kernel_rfl) (by simp) ?_
   refine AllReadyH.cons (by simp only [List.getElem?_toArray, List.getElem?_cons_zero, List.getElem?_cons_succ]; rfl) (fun K9 hK9 => ?_) ?_
   rotate_left
   refine AllReadyH.cons (by simp only [List.getElem?_toArray, List.getElem?_cons_zero, List.getElem?_cons_succ]; rfl) (fun K9 hK9 => ?_) ?_
   rotate_left
   exact AllReadyH.nil
   ·skip
    go_simp
    refine kgen (fun W => TW wx W T.foes.length T.beats.length T.rules (some W75.heap.size) none (some W0.heap.size) (some (.slice A75 T.rules.length c75, vs75))) (Htw75.out.mkF) (fun W76 htw => ?_)
    have Htw76 := hid htw
    clear htw
    refine hK9.out _ _ ?_ (fun hHeld => ?_)
    ·exact HS.out _ Htw76.out.below
    clear hK9 K9
    try simp only [Act.put, List.setIfInBounds_toArray, List.set_cons_zero, List.set_cons_succ]
    refine wpAnyH_ready (rs := [12]) (by kernel_rfl) (by simp) ?_
    refine AllReadyH.cons (by simp only [List.getElem?_toArray, List.getElem?_cons_zero, List.getElem?_cons_succ]; rfl) (fun K9 hK9 => ?_) ?_
    rotate_left
    exact AllReadyH.nil
    go_simp
    refine kgen (fun W => TW wx W T.foes.length T.beats.length T.rules (some W75.heap.size) (some W76.heap.size) (some W0.heap.size) (some (.slice A75 T.rules.length c75, vs75))) (Htw76.out.mkB) (fun W77 htw => ?_)
    have Htw77 := hid htw
    clear htw
    refine hK9.out _ _ ?_ (fun hHeld => ?_)
    ·exact HS.out _ Htw77.out.below
    clear hK9 K9
    try simp only [Act.put, List.setIfInBounds_toArray, List.set_cons_zero, List.set_cons_succ]
    refine wpAnyH_take (i := 13) (v := ?v31) (by simp only [List.getElem?_toArray, List.getElem?_cons_zero, List.getElem?_cons_succ]; rfl) (by kernel_rfl) (by kernel_rfl) (by kernel_rfl) (fun _ _ _ h => h) (Or.inl ⟨by rfl, ?hy31⟩) (by assumption) ?rest31
    case hy31 => (intro w hSw; (try dsimp only at hSw); go_simp) <;> try with_reducible rfl
    simp only [Act.put, List.setIfInBounds_toArray, List.set_cons_zero, List.set_cons_succ]
    refine wpAnyH_ready (rs := [15]) (by kernel_rfl) (by simp) ?_
    refine AllReadyH.cons (by simp only [List.getElem?_toArray, List.getElem?_cons_zero, List.getElem?_cons_succ]; rfl) (fun K9 hK9 => ?_) ?_
    rotate_left
    exact AllReadyH.nil
    have t2 := (Htw77.out.at3 _ rfl).2
    have p0 := frozen_of_row W77 _ 0 _ _ t2
    have p1 := frozen_of_row W77 _ 1 _ _ t2
    have p2 := frozen_of_row W77 _ 2 _ _ t2
    have p3 := frozen_of_row W77 _ 3 _ _ t2
    have q0 : W77.cell? ⟨W0.heap.size, 0, none⟩ = some ((.int .i64 0)) := by rw [cell_of_row W77 _ 0 _ _ _ t2]; rfl
    have q1 : W77.cell? ⟨W0.heap.size, 1, none⟩ = some ((.slice none 0 0)) := by rw [cell_of_row W77 _ 1 _ _ _ t2]; rfl
    have q2 : W77.cell? ⟨W0.heap.size, 2, none⟩ = some ((.slice none 0 0)) := by rw [cell_of_row W77 _ 2 _ _ _ t2]; rfl
    have q3 : W77.cell? ⟨W0.heap.size, 3, none⟩ = some ((.slice none 0 0)) := by rw [cell_of_row W77 _ 3 _ _ _ t2]; rfl
    clear t2
    go_simp
    refine kgen (fun W => TD wx W T.foes.length T.beats.length T.rules (W75.heap.size) (W76.heap.size) (W0.heap.size) (.slice A75 T.rules.length c75) vs75 T.lits) (Htw77.out.done T.lits) (fun W78 htd => ?_)
    refine hK9.out _ _ ?_ (fun hHeld => ?_)
    ·exact HS.out _ htd.below
    clear hK9 K9
    try simp only [Act.put, List.setIfInBounds_toArray, List.set_cons_zero, List.set_cons_succ]
    refine wpAnyH_done (by kernel_rfl) (NoPanic.normal ?_) _
    exact HK.out _ _ _ _ _ _ _ _ _ _ _ _ _ _ _ _ _ _ _ _ htd
   ·skip
    go_simp
    refine kgen (fun W => TW wx W T.foes.length T.beats.length T.rules none (some W75.heap.size) (some W0.heap.size) (some (.slice A75 T.rules.length c75, vs75))) (Htw75.out.mkB) (fun W79 htw => ?_)
    have Htw79 := hid htw
    clear htw
    refine hK9.out _ _ ?_ (fun hHeld => ?_)
    ·exact HS.out _ Htw79.out.below
    clear hK9 K9
    try simp only [Act.put, List.setIfInBounds_toArray, List.set_cons_zero, List.set_cons_succ]
    refine wpAnyH_ready (rs := [5]) (by kernel_rfl) (by simp) ?_
    refine AllReadyH.cons (by simp only [List.getElem?_toArray, List.getElem?_cons_zero, List.getElem?_cons_succ]; rfl) (fun K9 hK9 => ?_) ?_
    rotate_left
    exact AllReadyH.nil
    go_simp
    refine kgen (fun W => TW wx W T.foes.length T.beats.length T.rules (some W79.heap.size) (some W75.heap.size) (some W0.heap.size) (some (.slice A75 T.rules.length c75, vs75))) (Htw79.out.mkF) (fun W80 htw => ?_)
    have Htw80 := hid htw
    clear htw
    refine hK9.out _ _ ?_ (fun hHeld => ?_)
    ·exact HS.out _ Htw80.out.below
    clear hK9 K9
    try simp only [Act.put, List.setIfInBounds_toArray, List.set_cons_zero, List.set_cons_succ]
    refine wpAnyH_take (i := 13) (v := ?v32) (by simp only [List.getElem?_toArray, List.getElem?_cons_zero, List.getElem?_cons_succ]; rfl) (by kernel_rfl) (by kernel_rfl) (by kernel_rfl) (fun _ _ _ h => h) (Or.inl ⟨by rfl, ?hy32⟩) (by assumption) ?rest32
    case hy32 => (intro w hSw; (try dsimp only at hSw); go_simp) <;> try with_reducible rfl
    simp only [Act.put, List.setIfInBounds_toArray, List.set_cons_zero, List.set_cons_succ]
    refine wpAnyH_ready (rs := [15]) (by kernel_rfl) (by simp) ?_
    refine AllReadyH.cons (by simp only [List.getElem?_toArray, List.getElem?_cons_zero, List.getElem?_cons_succ]; rfl) (fun K9 hK9 => ?_) ?_
    rotate_left
    exact AllReadyH.nil
    have t2 := (Htw80.out.at3 _ rfl).2
    have p0 := frozen_of_row W80 _ 0 _ _ t2
    have p1 := frozen_of_row W80 _ 1 _ _ t2
    have p2 := frozen_of_row W80 _ 2 _ _ t2
    have p3 := frozen_of_row W80 _ 3 _ _ t2
    have q0 : W80.cell? ⟨W0.heap.size, 0, none⟩ = some ((.int .i64 0)) := by rw [cell_of_row W80 _ 0 _ _ _ t2]; rfl
    have q1 : W80.cell? ⟨W0.heap.size, 1, none⟩ = some ((.slice none 0 0)) := by rw [cell_of_row W80 _ 1 _ _ _ t2]; rfl
    have q2 : W80.cell? ⟨W0.heap.size, 2, none⟩ = some ((.slice none 0 0)) := by rw [cell_of_row W80 _ 2 _ _ _ t2]; rfl
    have q3 : W80.cell? ⟨W0.heap.size, 3, none⟩ = some ((.slice none 0 0)) := by rw [cell_of_row W80 _ 3 _ _ _ t2]; rfl
    clear t2
    go_simp
    refine kgen (fun W => TD wx W T.foes.length T.beats.length T.rules (W79.heap.size) (W75.heap.size) (W0.heap.size) (.slice A75 T.rules.length c75) vs75 T.lits) (Htw80.out.done T.lits) (fun W81 htd => ?_)
    refine hK9.out _ _ ?_ (fun hHeld => ?_)
    ·exact HS.out _ htd.below
    clear hK9 K9
    try simp only [Act.put, List.setIfInBounds_toArray, List.set_cons_zero, List.set_cons_succ]
    refine wpAnyH_done (by kernel_rfl) (NoPanic.normal ?_) _
    exact HK.out _ _ _ _ _ _ _ _ _ _ _ _ _ _ _ _ _ _ _ _ htd
  ·skip
   go_simp
   refine kgen (fun W => TW wx W T.foes.length T.beats.length T.rules none (some W67.heap.size) (some W0.heap.size) none) (Htw67.out.mkB) (fun W82 htw => ?_)
   have Htw82 := hid htw
   clear htw
   refine hK9.out _ _ ?_ (fun hHeld => ?_)
   ·exact HS.out _ Htw82.out.below
   clear hK9 K9
   try simp only [Act.put, List.setIfInBounds_toArray, List.set_cons_zero, List.set_cons_succ]
   refine wpAnyH_ready (rs := [5, 8]) (by kernel_rfl) (by simp) ?_
   refine AllReadyH.cons (by simp only [List.getElem?_toArray, List.getElem?_cons_zero, List.getElem?_cons_succ]; rfl) (fun K9 hK9 => ?_) ?_
   rotate_left
   refine AllReadyH.cons (by simp only [List.getElem?_toArray, List.getElem?_cons_zero, List.getElem?_cons_succ]; rfl) (fun K9 hK9 => ?_) ?_
   rotate_left
   exact AllReadyH.nil
   ·skip
    go_simp
    refine kgen (fun W => TW wx W T.foes.length T.beats.length T.rules (some W82.heap.size) (some W67.heap.size) (some W0.heap.size) none) (Htw82.out.mkF) (fun W83 htw => ?_)
    have Htw83 := hid htw
    clear htw
    refine hK9.out _ _ ?_ (fun hHeld => ?_)
    ·exact HS.out _ Htw83.out.below
    clear hK9 K9
    try simp only [Act.put, List.setIfInBounds_toArray, List.set_cons_zero, List.set_cons_succ]
    refine wpAnyH_ready (rs := [8]) (by kernel_rfl) (by simp) ?_
    refine AllReadyH.cons (by simp only [List.getElem?_toArray, List.getElem?_cons_zero, List.getElem?_cons_succ]; rfl) (fun K9 hK9 => ?_) ?_
    rotate_left
    exact AllReadyH.nil
    go_simp
    refine (cloneR0_any wx W83 _ T.rules HR.out Htw83.out.below (by omega)).mono ?_
    rintro e Wc84 ⟨_, rfl, vs84, hown84, hbod84, hbl84⟩
    obtain ⟨A84, c84, rfl⟩ := own_form0 hown84
    go_simp
    refine kgen (fun W => TW wx W T.foes.length T.beats.length T.rules (some W82.heap.size) (some W67.heap.size) (some W0.heap.size) (some (.slice A84 T.rules.length c84, vs84))) (Htw83.out.clone hown84 hbod84 hbl84) (fun W84 htw => ?_)
    have Htw84 := hid htw
    clear htw
    refine hK9.out _ _ ?_ (fun hHeld => ?_)
    ·exact HS.out _ Htw84.out.below
    clear hK9 K9
    try simp only [Act.put, List.setIfInBounds_toArray, List.set_cons_zero, List.set_cons_succ]
    refine wpAnyH_take (i := 13) (v := ?v33) (by simp only [List.getElem?_toArray, List.getElem?_cons_zero, List.getElem?_cons_succ]; rfl) (by kernel_rfl) (by kernel_rfl) (by kernel_rfl) (fun _ _ _ h => h) (Or.inl ⟨by rfl, ?hy33⟩) (by assumption) ?rest33
    case hy33 => (intro w hSw; (try dsimp only at hSw); go_simp) <;> try with_reducible rfl
    simp only [Act.put, List.setIfInBounds_toArray, List.set_cons_zero, List.set_cons_succ]
    refine wpAnyH_ready (rs := [15]) (by kernel_rfl) (by simp) ?_
    refine AllReadyH.cons (by simp only [List.getElem?_toArray, List.getElem?_cons_zero, List.getElem?_cons_succ]; rfl) (fun K9 hK9 => ?_) ?_
    rotate_left
    exact AllReadyH.nil
    have t2 := (Htw84.out.at3 _ rfl).2
    have p0 := frozen_of_row W84 _ 0 _ _ t2
    have p1 := frozen_of_row W84 _ 1 _ _ t2
    have p2 := frozen_of_row W84 _ 2 _ _ t2
    have p3 := frozen_of_row W84 _ 3 _ _ t2
    have q0 : W84.cell? ⟨W0.heap.size, 0, none⟩ = some ((.int .i64 0)) := by rw [cell_of_row W84 _ 0 _ _ _ t2]; rfl
    have q1 : W84.cell? ⟨W0.heap.size, 1, none⟩ = some ((.slice none 0 0)) := by rw [cell_of_row W84 _ 1 _ _ _ t2]; rfl
    have q2 : W84.cell? ⟨W0.heap.size, 2, none⟩ = some ((.slice none 0 0)) := by rw [cell_of_row W84 _ 2 _ _ _ t2]; rfl
    have q3 : W84.cell? ⟨W0.heap.size, 3, none⟩ = some ((.slice none 0 0)) := by rw [cell_of_row W84 _ 3 _ _ _ t2]; rfl
    clear t2
    go_simp
    refine kgen (fun W => TD wx W T.foes.length T.beats.length T.rules (W82.heap.size) (W67.heap.size) (W0.heap.size) (.slice A84 T.rules.length c84) vs84 T.lits) (Htw84.out.done T.lits) (fun W85 htd => ?_)
    refine hK9.out _ _ ?_ (fun hHeld => ?_)
    ·exact HS.out _ htd.below
    clear hK9 K9
    try simp only [Act.put, List.setIfInBounds_toArray, List.set_cons_zero, List.set_cons_succ]
    refine wpAnyH_done (by kernel_rfl) (NoPanic.normal ?_) _
    exact HK.out _ _ _ _ _ _ _ _ _ _ _ _ _ _ _ _ _ _ _ _ htd
   ·skip
    go_simp
    refine (cloneR0_any wx W82 _ T.rules HR.out Htw82.out.below (by omega)).mono ?_
    rintro e Wc86 ⟨_, rfl, vs86, hown86, hbod86, hbl86⟩
    obtain ⟨A86, c86, rfl⟩ := own_form0 hown86
    go_simp
    refine kgen (fun W => TW wx W T.foes.length T.beats.length T.rules none (some W67.heap.size) (some W0.heap.size) (some (.slice A86 T.rules.length c86, vs86))) (Htw82.out.clone hown86 hbod86 hbl86) (fun W86 htw => ?_)
    have Htw86 := hid htw
    clear htw
    refine hK9.out _ _ ?_ (fun hHeld => ?_)
    ·exact HS.out _ Htw86.out.below
    clear hK9 K9
    try simp only [Act.put, List.setIfInBounds_toArray, List.set_cons_zero, List.set_cons_succ]
    refine wpAnyH_ready (rs := [5]) (by kernel_rfl) (by simp) ?_
    refine AllReadyH.cons (by simp only [List.getElem?_toArray, List.getElem?_cons_zero, List.getElem?_cons_succ]; rfl) (fun K9 hK9 => ?_) ?_
    rotate_left
    exact AllReadyH.nil
    go_simp
    refine kgen (fun W => TW wx W T.foes.length T.beats.length T.rules (some W86.heap.size) (some W67.heap.size) (some W0.heap.size) (some (.slice A86 T.rules.length c86, vs86))) (Htw86.out.mkF) (fun W87 htw => ?_)
    have Htw87 := hid htw
    clear htw
    refine hK9.out _ _ ?_ (fun hHeld => ?_)
    ·exact HS.out _ Htw87.out.below
    clear hK9 K9
    try simp only [Act.put, List.setIfInBounds_toArray, List.set_cons_zero, List.set_cons_succ]
    refine wpAnyH_take (i := 13) (v := ?v34) (by simp only [List.getElem?_toArray, List.getElem?_cons_zero, List.getElem?_cons_succ]; rfl) (by kernel_rfl) (by kernel_rfl) (by kernel_rfl) (fun _ _ _ h => h) (Or.inl ⟨by rfl, ?hy34⟩) (by assumption) ?rest34
    case hy34 => (intro w hSw; (try dsimp only at hSw); go_simp) <;> try with_reducible rfl
    simp only [Act.put, List.setIfInBounds_toArray, List.set_cons_zero, List.set_cons_succ]
    refine wpAnyH_ready (rs := [15]) (by kernel_rfl) (by simp) ?_
    refine AllReadyH.cons (by simp only [List.getElem?_toArray, List.getElem?_cons_zero, List.getElem?_cons_succ]; rfl) (fun K9 hK9 => ?_) ?_
    rotate_left
    exact AllReadyH.nil
    have t2 := (Htw87.out.at3 _ rfl).2
    have p0 := frozen_of_row W87 _ 0 _ _ t2
    have p1 := frozen_of_row W87 _ 1 _ _ t2
    have p2 := frozen_of_row W87 _ 2 _ _ t2
    have p3 := frozen_of_row W87 _ 3 _ _ t2
    have q0 : W87.cell? ⟨W0.heap.size, 0, none⟩ = some ((.int .i64 0)) := by rw [cell_of_row W87 _ 0 _ _ _ t2]; rfl
    have q1 : W87.cell? ⟨W0.heap.size, 1, none⟩ = some ((.slice none 0 0)) := by rw [cell_of_row W87 _ 1 _ _ _ t2]; rfl
    have q2 : W87.cell? ⟨W0.heap.size, 2, none⟩ = some ((.slice none 0 0)) := by rw [cell_of_row W87 _ 2 _ _ _ t2]; rfl
    have q3 : W87.cell? ⟨W0.heap.size, 3, none⟩ = some ((.slice none 0 0)) := by rw [cell_of_row W87 _ 3 _ _ _ t2]; rfl
    clear t2
    go_simp
    refine kgen (fun W => TD wx W T.foes.length T.beats.length T.rules (W86.heap.size) (W67.heap.size) (W0.heap.size) (.slice A86 T.rules.length c86) vs86 T.lits) (Htw87.out.done T.lits) (fun W88 htd => ?_)
    refine hK9.out _ _ ?_ (fun hHeld => ?_)
    ·exact HS.out _ htd.below
    clear hK9 K9
    try simp only [Act.put, List.setIfInBounds_toArray, List.set_cons_zero, List.set_cons_succ]
    refine wpAnyH_done (by kernel_rfl) (NoPanic.normal ?_) _
    exact HK.out _ _ _ _ _ _ _ _ _ _ _ _ _ _ _ _ _ _ _ _ htd
end Go.Proofs.Lx
