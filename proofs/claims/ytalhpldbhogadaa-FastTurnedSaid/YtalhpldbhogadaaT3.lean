/- Parts of the proof: Xi. The law's turned: the walk. -/
import Derived.Test.YtalhpldbhogadaaT2
import Derived.Deep.RegionHeld3
namespace Go.Proofs.Lx
open Go Go.RowKit Go.Proofs.Tj
set_option linter.unusedSimpArgs false
set_option linter.unusedVariables false
set_option maxRecDepth 100000 in
set_option maxHeartbeats 3200000 in
theorem turned_any (w : World) (V : Value) (T : Th) (a b : Nat) (hT : RdTh w V T) (hs : Small T) (hwf : WfTh T) (ha : a < T.rules.length) (hb : b < T.rules.length) :
  Calls Try.prog 42 #[V, .int .i64 (a : Int), .int .i64 (b : Int)] w (Ret fun v w' => (∀ W' : World, w'.heap.size ≤ W'.heap.size → (∀ g, w.heap.size ≤ g → g < w'.heap.size → W'.heap[g]? = w'.heap[g]?) → RdTh W' v (turnTh T a b)) ∧ Below w.heap.size w w') := by
 have HT := hid hT
 obtain ⟨vF, vR, vB, rfl, hF, hR, hB⟩ := hT
 have hA := allocs [.cells #[.int .i64 T.lits, vF, vR, vB] 25, .cells #[.int .i64 0, .slice none 0 0, .slice none 0 0, .slice none 0 0] 25] w
 obtain ⟨W1, HW1⟩ : ∃ W1, Hid (W1 = (w.alloc (.cells #[.int .i64 T.lits, vF, vR, vB] 25)).alloc (.cells #[.int .i64 0, .slice none 0 0, .slice none 0 0, .slice none 0 0] 25)) := ⟨_, hid rfl⟩
 have e1 : [Obj.cells #[.int .i64 T.lits, vF, vR, vB] 25, .cells #[.int .i64 0, .slice none 0 0, .slice none 0 0, .slice none 0 0] 25].foldl World.alloc w = W1 := HW1.out.symm
 rw [e1] at hA
 obtain ⟨hsz, hat, hbel⟩ := hA
 have h0 : W1.heap[w.heap.size]? = some (.cells #[.int .i64 T.lits, vF, vR, vB] 25 (0, 0)) := hat 0 _ rfl
 have a0 := cell_of_row _ _ 0 _ _ _ h0
 have a1 := cell_of_row _ _ 1 _ _ _ h0
 have a2 := cell_of_row _ _ 2 _ _ _ h0
 have a3 := cell_of_row _ _ 3 _ _ _ h0
 simp only [List.getElem?_toArray, List.getElem?_cons_zero, List.getElem?_cons_succ] at a0 a1 a2 a3
 have Hc := hid (copyThO_any W1 _ T (HT.out.ext hbel) hs)
 have Hat := hid hat
 have Hbel := hid hbel
 have hn0 : 0 < T.rules.length := by omega
 have hnr : T.rules.length ≤ 140737488355328 := by have := hs.r; omega
 rw [HW1.out] at a0 a1 a2 a3
 clear hF hR hB hat hbel e1 h0
 refine post_gen fun Q HQ => ?_
 go_enter Try.func42, Try.ntmps42
 go_wp2_with fail
 rw [← HW1.out]
 refine Hc.out.mono ?_
 rintro e w2 ⟨V2, rfl, uF, uR, uB, b1, b2, rfl, hb1, hb12, hb2, huF, huR, huB, hbe⟩
 clear Hc a0 a1 a2 a3
 obtain ⟨gR, gB, cR, cB, AF, cF, e1, e2, e3, hts⟩ := TS.start hn0 hwf.bl hb1 hb12 huF huR huB hbe (fun r hr => by have := hs.rb r hr; omega) (fun l hl => by have := hs.br l hl; omega)
 subst e1 e2 e3
 obtain ⟨W3, HW3⟩ : ∃ W3, Hid (W3 = w2.alloc (.cells #[.int .i64 T.lits, .slice AF T.foes.length cF, .slice (some ⟨gR, 0, none⟩) T.rules.length cR, .slice (some ⟨gB, 0, none⟩) T.rules.length cB] 25)) := ⟨_, hid rfl⟩
 rw [← HW3.out] at hts
 have Hts := hid hts
 have Hs := hid hs
 have Hwf := hid hwf
 have hbl := hwf.bl
 have hn4 := hwf.rl
 clear huF huR huB hts hs hwf
 go_wp2_with fail
 rw [← HW3.out]
 clear HW3
 generalize w2.heap.size = bx at *
 have hx := Hts.out.boxc
 obtain ⟨c0, c1, c2, c3⟩ := hx
 obtain ⟨v1, x0, x1, x2, xf, Xr⟩ := Hts.out.cellR ha
 obtain ⟨v2, y0, y1, y2, yf, Yr⟩ := Hts.out.cellR hb
 obtain ⟨A1, k1, rfl⟩ : ∃ A c, v1 = .slice A (T.rules.getD a default).body.length c := by obtain ⟨A, c, e, _⟩ := Xr _ (Agr2.refl _ _ _ _); exact ⟨A, c, e⟩
 obtain ⟨A2, k2, rfl⟩ : ∃ A c, v2 = .slice A (T.rules.getD b default).body.length c := by obtain ⟨A, c, e, _⟩ := Yr _ (Agr2.refl _ _ _ _); exact ⟨A, c, e⟩
 have Hxr := hid Xr
 have Hyr := hid Yr
 clear Xr Yr
 generalize hra : T.rules.getD a default = ra at *
 generalize hrb : T.rules.getD b default = rb at *
 have Hra := hid hra
 have Hrb := hid hrb
 clear hra hrb
 have Hsw : Hid (updN (updN (fun i => T.rules.getD i default) a rb) b ra = fun i => T.rules.getD (sg a b i) default) := hid (by rw [← Hra.out, ← Hrb.out]; exact updN_sg (fun i => T.rules.getD i default) a b)
 go_cut [7] (fun v7 wx => v7 = .pointer (some ⟨bx, 0, none⟩) ∧ TS W1 T bx gR gB cR cB (.slice AF T.foes.length cF) (fun i => T.rules.getD (sg a b i) default) (beatsAt T) wx)
 case first =>
  have Hk : Hid (∀ (W : World) (k : Nat) (u : Value), W.cell? ⟨bx, 2, none⟩ = some (.slice (some ⟨gR, 0, none⟩) T.rules.length cR) → (W.setCell ⟨gR, k, none⟩ u).cell? ⟨bx, 2, none⟩ = some (.slice (some ⟨gR, 0, none⟩) T.rules.length cR)) := hid fun W k u h => by
   rw [← h]; exact World.cell?_of_block (heap_setCell_other _ _ _ _ Hts.out.ne.1)
  refine wp_region_noPanic ?_
  refine wp_region_held_drew (S := fun W' : World => W'.cell? ⟨bx, 2, none⟩ = some (.slice (some ⟨gR, 0, none⟩) T.rules.length cR)) (by kernel_rfl) (by assumption) (fun hHeld => ?_)
  refine wpAnyH_take (i := 0) (v := ?v1) rfl (by kernel_rfl) (by kernel_rfl) (by kernel_rfl) (fun _ _ _ h => h) (Or.inl ⟨by rfl, ?hy1⟩) (by assumption) ?rest1
  case hy1 => (intro w hSw; (try dsimp only at hSw); go_simp) <;> try with_reducible rfl
  try simp only [Act.put, List.setIfInBounds_toArray, List.set_cons_zero, List.set_cons_succ]
  refine wpAnyH_take (i := 1) (v := ?v2) rfl (by kernel_rfl) (by kernel_rfl) (by kernel_rfl) (fun _ _ _ h => h) (Or.inl ⟨by rfl, ?hy2⟩) (by assumption) ?rest2
  case hy2 => (intro w hSw; (try dsimp only at hSw); go_simp) <;> try with_reducible rfl
  try simp only [Act.put, List.setIfInBounds_toArray, List.set_cons_zero, List.set_cons_succ]
  refine wpAnyH_take (i := 2) (v := ?v3) rfl (by kernel_rfl) (by kernel_rfl) (by kernel_rfl) (fun _ _ _ h => h) (Or.inl ⟨by rfl, ?hy3⟩) (by assumption) ?rest3
  case hy3 => (intro w hSw; (try dsimp only at hSw); go_simp) <;> try with_reducible rfl
  try simp only [Act.put, List.setIfInBounds_toArray, List.set_cons_zero, List.set_cons_succ]
  refine wpAnyH_take (i := 3) (v := ?v4) rfl (by kernel_rfl) (by kernel_rfl) (by kernel_rfl) (fun _ _ _ h => h) (Or.inl ⟨by rfl, ?hy4⟩) (by assumption) ?rest4
  case hy4 => (intro w hSw; (try dsimp only at hSw); go_simp) <;> try with_reducible rfl
  try simp only [Act.put, List.setIfInBounds_toArray, List.set_cons_zero, List.set_cons_succ]
  refine wpAnyH_take (i := 4) (v := ?v5) rfl (by kernel_rfl) (by kernel_rfl) (by kernel_rfl) (fun _ _ _ h => h) (Or.inl ⟨by rfl, ?hy5⟩) (by assumption) ?rest5
  case hy5 => (intro w hSw; (try dsimp only at hSw); go_simp) <;> try with_reducible rfl
  try simp only [Act.put, List.setIfInBounds_toArray, List.set_cons_zero, List.set_cons_succ]
  refine wpAnyH_take (i := 5) (v := ?v6) rfl (by kernel_rfl) (by kernel_rfl) (by kernel_rfl) (fun _ _ _ h => h) (Or.inl ⟨by rfl, ?hy6⟩) (by assumption) ?rest6
  case hy6 => (intro w hSw; (try dsimp only at hSw); go_simp) <;> try with_reducible rfl
  try simp only [Act.put, List.setIfInBounds_toArray, List.set_cons_zero, List.set_cons_succ]
  refine wpAnyH_take (i := 6) (v := ?v7) rfl (by kernel_rfl) (by kernel_rfl) (by kernel_rfl) (fun _ _ _ h => h) (Or.inl ⟨by rfl, ?hy7⟩) (by assumption) ?rest7
  case hy7 => (intro w hSw; (try dsimp only at hSw); go_simp) <;> try with_reducible rfl
  try simp only [Act.put, List.setIfInBounds_toArray, List.set_cons_zero, List.set_cons_succ]
  refine wpAnyH_take (i := 7) (v := ?v8) rfl (by kernel_rfl) (by kernel_rfl) (by kernel_rfl) (fun _ _ _ h => h) (Or.inl ⟨by rfl, ?hy8⟩) (by assumption) ?rest8
  case hy8 => (intro w hSw; (try dsimp only at hSw); go_simp) <;> try with_reducible rfl
  try simp only [Act.put, List.setIfInBounds_toArray, List.set_cons_zero, List.set_cons_succ]
  refine wpAnyH_take (i := 8) (v := ?v9) rfl (by kernel_rfl) (by kernel_rfl) (by kernel_rfl) (fun _ _ _ h => h) (Or.inl ⟨by rfl, ?hy9⟩) (by assumption) ?rest9
  case hy9 => (intro w hSw; (try dsimp only at hSw); go_simp) <;> try with_reducible rfl
  try simp only [Act.put, List.setIfInBounds_toArray, List.set_cons_zero, List.set_cons_succ]
  refine wpAnyH_take (i := 9) (v := ?v10) rfl (by kernel_rfl) (by kernel_rfl) (by kernel_rfl) (fun _ _ _ h => h) (Or.inl ⟨by rfl, ?hy10⟩) (by assumption) ?rest10
  case hy10 => (intro w hSw; (try dsimp only at hSw); go_simp) <;> try with_reducible rfl
  try simp only [Act.put, List.setIfInBounds_toArray, List.set_cons_zero, List.set_cons_succ]
  refine wpAnyH_take (i := 11) (v := ?v11) rfl (by kernel_rfl) (by kernel_rfl) (by kernel_rfl) (fun _ _ _ h => h) (Or.inl ⟨by rfl, ?hy11⟩) (by assumption) ?rest11
  case hy11 => (intro w hSw; (try dsimp only at hSw); go_simp) <;> try with_reducible rfl
  try simp only [Act.put, List.setIfInBounds_toArray, List.set_cons_zero, List.set_cons_succ]
  refine wpAnyH_take (i := 12) (v := ?v12) rfl (by kernel_rfl) (by kernel_rfl) (by kernel_rfl) (fun _ _ _ h => h) (Or.inl ⟨by rfl, ?hy12⟩) (by assumption) ?rest12
  case hy12 => (intro w hSw; (try dsimp only at hSw); go_simp) <;> try with_reducible rfl
  try simp only [Act.put, List.setIfInBounds_toArray, List.set_cons_zero, List.set_cons_succ]
  refine wpAnyH_take (i := 13) (v := ?v13) rfl (by kernel_rfl) (by kernel_rfl) (by kernel_rfl) (fun _ _ _ h => h) (Or.inl ⟨by rfl, ?hy13⟩) (by assumption) ?rest13
  case hy13 => (intro w hSw; (try dsimp only at hSw); go_simp) <;> try with_reducible rfl
  try simp only [Act.put, List.setIfInBounds_toArray, List.set_cons_zero, List.set_cons_succ]
  refine wpAnyH_take (i := 14) (v := ?v14) rfl (by kernel_rfl) (by kernel_rfl) (by kernel_rfl) (fun _ _ _ h => h) (Or.inl ⟨by rfl, ?hy14⟩) (by assumption) ?rest14
  case hy14 => (intro w hSw; (try dsimp only at hSw); go_simp) <;> try with_reducible rfl
  try simp only [Act.put, List.setIfInBounds_toArray, List.set_cons_zero, List.set_cons_succ]
  refine wpAnyH_ready (rs := [10, 15]) (by kernel_rfl) (by simp) ?_
  refine AllReadyH.cons rfl (fun K9 hK9 => ?_) (AllReadyH.cons rfl (fun K9 hK9 => ?_) AllReadyH.nil)
  ·go_simp
   refine hK9.out _ _ (by assumption) (fun hHeld => ?_)
   clear hK9 K9
   try simp only [Act.put, List.setIfInBounds_toArray, List.set_cons_zero, List.set_cons_succ]
   refine wpAnyH_ready (rs := [15]) (by kernel_rfl) (by simp) ?_
   refine AllReadyH.cons rfl (fun K9 hK9 => ?_) AllReadyH.nil
   go_simp
   refine hK9.out _ _ (by assumption) (fun hHeld => ?_)
   clear hK9 K9
   try simp only [Act.put, List.setIfInBounds_toArray, List.set_cons_zero, List.set_cons_succ]
   refine wpAnyH_take (i := 16) (v := ?v15) rfl (by kernel_rfl) (by kernel_rfl) (by kernel_rfl) (fun _ _ _ h => h) (Or.inl ⟨by rfl, ?hy15⟩) (by assumption) ?rest15
   case hy15 => (intro w hSw; (try dsimp only at hSw); go_simp) <;> try with_reducible rfl
   try simp only [Act.put, List.setIfInBounds_toArray, List.set_cons_zero, List.set_cons_succ]
   refine wpAnyH_ready (rs := [17]) (by kernel_rfl) (by simp) ?_
   refine AllReadyH.cons rfl (fun K9 hK9 => ?_) AllReadyH.nil
   go_simp
   refine hK9.out _ _ (by first | assumption | exact Hk.out _ _ _ (Hk.out _ _ _ (Hk.out _ _ _ (by assumption)))) (fun hHeld => ?_)
   clear hK9 K9
   try simp only [Act.put, List.setIfInBounds_toArray, List.set_cons_zero, List.set_cons_succ]
   have hA5 := ((Agr2.setR W1.heap.size gR gB W3 (a * 3) (.int .i64 rb.kind)).trans ((Agr2.setR W1.heap.size gR gB _ (a * 3 + 1) (.int .i64 rb.head)).trans (Agr2.setR W1.heap.size gR gB _ (a * 3 + 2) (.slice A2 rb.body.length k2)))).trans (Agr2.of (Below.drew (ext_refl _)))
   have hts5 := (Hts.out.setR ha (r := rb) Hyr.out).ext (Below.drew (ext_refl _))
   generalize hW5 : ((((W3.setCell ⟨gR, a * 3, none⟩ (.int .i64 rb.kind)).setCell ⟨gR, a * 3 + 1, none⟩ (.int .i64 rb.head)).setCell ⟨gR, a * 3 + 2, none⟩ (.slice A2 rb.body.length k2)).drew) = W5 at *
   have Hts5 := hid hts5
   have HA5 := hid hA5
   obtain ⟨v9, z0, z1, z2, zf, _⟩ := Hts5.out.cellR hb
   clear hA5 hts5 x0 x1 x2 y0 y1 y2 xf yf
   refine wpAnyH_take (i := 18) (v := ?v16) rfl (by kernel_rfl) (by kernel_rfl) (by kernel_rfl) (fun _ _ _ h => h) (Or.inl ⟨by rfl, ?hy16⟩) (by assumption) ?rest16
   case hy16 => (intro w hSw; (try dsimp only at hSw); go_simp) <;> try with_reducible rfl
   try simp only [Act.put, List.setIfInBounds_toArray, List.set_cons_zero, List.set_cons_succ]
   refine wpAnyH_ready (rs := [19]) (by kernel_rfl) (by simp) ?_
   refine AllReadyH.cons rfl (fun K9 hK9 => ?_) AllReadyH.nil
   go_simp
   refine hK9.out _ _ (by first | assumption | exact Hk.out _ _ _ (Hk.out _ _ _ (Hk.out _ _ _ (by assumption)))) (fun hHeld => ?_)
   clear hK9 K9
   try simp only [Act.put, List.setIfInBounds_toArray, List.set_cons_zero, List.set_cons_succ]
   refine wpAnyH_done (by kernel_rfl) (NoPanic.normal ?_) _
   go_wp2_with fail
   go_meet
   have h9 := Hts5.out.setR hb (r := ra) (fun W' hW => Hxr.out W' (HA5.out.trans hW))
   rw [Hsw.out] at h9
   exact ⟨rfl, h9⟩
  ·go_simp
   refine hK9.out _ _ (by assumption) (fun hHeld => ?_)
   clear hK9 K9
   try simp only [Act.put, List.setIfInBounds_toArray, List.set_cons_zero, List.set_cons_succ]
   refine wpAnyH_ready (rs := [10]) (by kernel_rfl) (by simp) ?_
   refine AllReadyH.cons rfl (fun K9 hK9 => ?_) AllReadyH.nil
   go_simp
   refine hK9.out _ _ (by assumption) (fun hHeld => ?_)
   clear hK9 K9
   try simp only [Act.put, List.setIfInBounds_toArray, List.set_cons_zero, List.set_cons_succ]
   refine wpAnyH_take (i := 16) (v := ?v17) rfl (by kernel_rfl) (by kernel_rfl) (by kernel_rfl) (fun _ _ _ h => h) (Or.inl ⟨by rfl, ?hy17⟩) (by assumption) ?rest17
   case hy17 => (intro w hSw; (try dsimp only at hSw); go_simp) <;> try with_reducible rfl
   try simp only [Act.put, List.setIfInBounds_toArray, List.set_cons_zero, List.set_cons_succ]
   refine wpAnyH_ready (rs := [17]) (by kernel_rfl) (by simp) ?_
   refine AllReadyH.cons rfl (fun K9 hK9 => ?_) AllReadyH.nil
   go_simp
   refine hK9.out _ _ (by first | assumption | exact Hk.out _ _ _ (Hk.out _ _ _ (Hk.out _ _ _ (by assumption)))) (fun hHeld => ?_)
   clear hK9 K9
   try simp only [Act.put, List.setIfInBounds_toArray, List.set_cons_zero, List.set_cons_succ]
   have hA5 := ((Agr2.setR W1.heap.size gR gB W3 (a * 3) (.int .i64 rb.kind)).trans ((Agr2.setR W1.heap.size gR gB _ (a * 3 + 1) (.int .i64 rb.head)).trans (Agr2.setR W1.heap.size gR gB _ (a * 3 + 2) (.slice A2 rb.body.length k2)))).trans (Agr2.of (Below.drew (ext_refl _)))
   have hts5 := (Hts.out.setR ha (r := rb) Hyr.out).ext (Below.drew (ext_refl _))
   generalize hW5 : ((((W3.setCell ⟨gR, a * 3, none⟩ (.int .i64 rb.kind)).setCell ⟨gR, a * 3 + 1, none⟩ (.int .i64 rb.head)).setCell ⟨gR, a * 3 + 2, none⟩ (.slice A2 rb.body.length k2)).drew) = W5 at *
   have Hts5 := hid hts5
   have HA5 := hid hA5
   obtain ⟨v9, z0, z1, z2, zf, _⟩ := Hts5.out.cellR hb
   clear hA5 hts5 x0 x1 x2 y0 y1 y2 xf yf
   refine wpAnyH_take (i := 18) (v := ?v18) rfl (by kernel_rfl) (by kernel_rfl) (by kernel_rfl) (fun _ _ _ h => h) (Or.inl ⟨by rfl, ?hy18⟩) (by assumption) ?rest18
   case hy18 => (intro w hSw; (try dsimp only at hSw); go_simp) <;> try with_reducible rfl
   try simp only [Act.put, List.setIfInBounds_toArray, List.set_cons_zero, List.set_cons_succ]
   refine wpAnyH_ready (rs := [19]) (by kernel_rfl) (by simp) ?_
   refine AllReadyH.cons rfl (fun K9 hK9 => ?_) AllReadyH.nil
   go_simp
   refine hK9.out _ _ (by first | assumption | exact Hk.out _ _ _ (Hk.out _ _ _ (Hk.out _ _ _ (by assumption)))) (fun hHeld => ?_)
   clear hK9 K9
   try simp only [Act.put, List.setIfInBounds_toArray, List.set_cons_zero, List.set_cons_succ]
   refine wpAnyH_done (by kernel_rfl) (NoPanic.normal ?_) _
   go_wp2_with fail
   go_meet
   have h9 := Hts5.out.setR hb (r := ra) (fun W' hW => Hxr.out W' (HA5.out.trans hW))
   rw [Hsw.out] at h9
   exact ⟨rfl, h9⟩
 case rest =>
  obtain ⟨rfl, hts2⟩ := hcut
  have Hts2 := hid hts2
  clear hts2 c0 c1 c2 c3 x0 x1 x2 y0 y1 y2 xf yf
  clear Hxr Hyr Hra Hrb Hsw Hts
  obtain ⟨c0, c1, c2, c3⟩ := Hts2.out.boxc
  obtain ⟨v1, x0, xf, Xr⟩ := Hts2.out.cellB ha
  obtain ⟨v2, y0, yf, Yr⟩ := Hts2.out.cellB hb
  obtain ⟨B1, k1, rfl⟩ : ∃ A c, v1 = .slice A (beatsAt T a).length c := by obtain ⟨A, c, e, _⟩ := Xr _ (Agr2.refl _ _ _ _); exact ⟨A, c, e⟩
  obtain ⟨B2, k2, rfl⟩ : ∃ A c, v2 = .slice A (beatsAt T b).length c := by obtain ⟨A, c, e, _⟩ := Yr _ (Agr2.refl _ _ _ _); exact ⟨A, c, e⟩
  have Hxr := hid Xr
  have Hyr := hid Yr
  clear Xr Yr
  have Hsw0 := hid (updN_sg (beatsAt T) a b)
  generalize hra : beatsAt T a = la at *
  generalize hrb : beatsAt T b = lb at *
  have Hsw : Hid (updN (updN (beatsAt T) a lb) b la = fun i => beatsAt T (sg a b i)) := hid (by rw [← hra, ← hrb]; exact updN_sg (beatsAt T) a b)
  clear hra hrb Hsw0
  go_wp2_with fail
  go_cut [7] (fun v7 wx => v7 = .pointer (some ⟨bx, 0, none⟩) ∧ TS W1 T bx gR gB cR cB (.slice AF T.foes.length cF) (fun i => T.rules.getD (sg a b i) default) (fun i => beatsAt T (sg a b i)) wx)
  case first =>
   have Hk : Hid (∀ (W : World) (k : Nat) (u : Value), W.cell? ⟨bx, 3, none⟩ = some (.slice (some ⟨gB, 0, none⟩) T.rules.length cB) → (W.setCell ⟨gB, k, none⟩ u).cell? ⟨bx, 3, none⟩ = some (.slice (some ⟨gB, 0, none⟩) T.rules.length cB)) := hid fun W k u h => by
    rw [← h]; exact World.cell?_of_block (heap_setCell_other _ _ _ _ Hts2.out.ne.2.1)
   refine wp_region_noPanic ?_
   refine wp_region_held_drew (S := fun W' : World => W'.cell? ⟨bx, 3, none⟩ = some (.slice (some ⟨gB, 0, none⟩) T.rules.length cB)) (by kernel_rfl) (by assumption) (fun hHeld => ?_)
   refine wpAnyH_take (i := 0) (v := ?v19) rfl (by kernel_rfl) (by kernel_rfl) (by kernel_rfl) (fun _ _ _ h => h) (Or.inl ⟨by rfl, ?hy19⟩) (by assumption) ?rest19
   case hy19 => (intro w hSw; (try dsimp only at hSw); go_simp) <;> try with_reducible rfl
   try simp only [Act.put, List.setIfInBounds_toArray, List.set_cons_zero, List.set_cons_succ]
   refine wpAnyH_take (i := 1) (v := ?v20) rfl (by kernel_rfl) (by kernel_rfl) (by kernel_rfl) (fun _ _ _ h => h) (Or.inl ⟨by rfl, ?hy20⟩) (by assumption) ?rest20
   case hy20 => (intro w hSw; (try dsimp only at hSw); go_simp) <;> try with_reducible rfl
   try simp only [Act.put, List.setIfInBounds_toArray, List.set_cons_zero, List.set_cons_succ]
   refine wpAnyH_take (i := 2) (v := ?v21) rfl (by kernel_rfl) (by kernel_rfl) (by kernel_rfl) (fun _ _ _ h => h) (Or.inl ⟨by rfl, ?hy21⟩) (by assumption) ?rest21
   case hy21 => (intro w hSw; (try dsimp only at hSw); go_simp) <;> try with_reducible rfl
   try simp only [Act.put, List.setIfInBounds_toArray, List.set_cons_zero, List.set_cons_succ]
   refine wpAnyH_take (i := 3) (v := ?v22) rfl (by kernel_rfl) (by kernel_rfl) (by kernel_rfl) (fun _ _ _ h => h) (Or.inl ⟨by rfl, ?hy22⟩) (by assumption) ?rest22
   case hy22 => (intro w hSw; (try dsimp only at hSw); go_simp) <;> try with_reducible rfl
   try simp only [Act.put, List.setIfInBounds_toArray, List.set_cons_zero, List.set_cons_succ]
   refine wpAnyH_take (i := 4) (v := ?v23) rfl (by kernel_rfl) (by kernel_rfl) (by kernel_rfl) (fun _ _ _ h => h) (Or.inl ⟨by rfl, ?hy23⟩) (by assumption) ?rest23
   case hy23 => (intro w hSw; (try dsimp only at hSw); go_simp) <;> try with_reducible rfl
   try simp only [Act.put, List.setIfInBounds_toArray, List.set_cons_zero, List.set_cons_succ]
   refine wpAnyH_take (i := 5) (v := ?v24) rfl (by kernel_rfl) (by kernel_rfl) (by kernel_rfl) (fun _ _ _ h => h) (Or.inl ⟨by rfl, ?hy24⟩) (by assumption) ?rest24
   case hy24 => (intro w hSw; (try dsimp only at hSw); go_simp) <;> try with_reducible rfl
   try simp only [Act.put, List.setIfInBounds_toArray, List.set_cons_zero, List.set_cons_succ]
   refine wpAnyH_take (i := 6) (v := ?v25) rfl (by kernel_rfl) (by kernel_rfl) (by kernel_rfl) (fun _ _ _ h => h) (Or.inl ⟨by rfl, ?hy25⟩) (by assumption) ?rest25
   case hy25 => (intro w hSw; (try dsimp only at hSw); go_simp) <;> try with_reducible rfl
   try simp only [Act.put, List.setIfInBounds_toArray, List.set_cons_zero, List.set_cons_succ]
   refine wpAnyH_take (i := 7) (v := ?v26) rfl (by kernel_rfl) (by kernel_rfl) (by kernel_rfl) (fun _ _ _ h => h) (Or.inl ⟨by rfl, ?hy26⟩) (by assumption) ?rest26
   case hy26 => (intro w hSw; (try dsimp only at hSw); go_simp) <;> try with_reducible rfl
   try simp only [Act.put, List.setIfInBounds_toArray, List.set_cons_zero, List.set_cons_succ]
   refine wpAnyH_take (i := 8) (v := ?v27) rfl (by kernel_rfl) (by kernel_rfl) (by kernel_rfl) (fun _ _ _ h => h) (Or.inl ⟨by rfl, ?hy27⟩) (by assumption) ?rest27
   case hy27 => (intro w hSw; (try dsimp only at hSw); go_simp) <;> try with_reducible rfl
   try simp only [Act.put, List.setIfInBounds_toArray, List.set_cons_zero, List.set_cons_succ]
   refine wpAnyH_take (i := 9) (v := ?v28) rfl (by kernel_rfl) (by kernel_rfl) (by kernel_rfl) (fun _ _ _ h => h) (Or.inl ⟨by rfl, ?hy28⟩) (by assumption) ?rest28
   case hy28 => (intro w hSw; (try dsimp only at hSw); go_simp) <;> try with_reducible rfl
   try simp only [Act.put, List.setIfInBounds_toArray, List.set_cons_zero, List.set_cons_succ]
   refine wpAnyH_take (i := 11) (v := ?v29) rfl (by kernel_rfl) (by kernel_rfl) (by kernel_rfl) (fun _ _ _ h => h) (Or.inl ⟨by rfl, ?hy29⟩) (by assumption) ?rest29
   case hy29 => (intro w hSw; (try dsimp only at hSw); go_simp) <;> try with_reducible rfl
   try simp only [Act.put, List.setIfInBounds_toArray, List.set_cons_zero, List.set_cons_succ]
   refine wpAnyH_take (i := 12) (v := ?v30) rfl (by kernel_rfl) (by kernel_rfl) (by kernel_rfl) (fun _ _ _ h => h) (Or.inl ⟨by rfl, ?hy30⟩) (by assumption) ?rest30
   case hy30 => (intro w hSw; (try dsimp only at hSw); go_simp) <;> try with_reducible rfl
   try simp only [Act.put, List.setIfInBounds_toArray, List.set_cons_zero, List.set_cons_succ]
   refine wpAnyH_take (i := 13) (v := ?v31) rfl (by kernel_rfl) (by kernel_rfl) (by kernel_rfl) (fun _ _ _ h => h) (Or.inl ⟨by rfl, ?hy31⟩) (by assumption) ?rest31
   case hy31 => (intro w hSw; (try dsimp only at hSw); go_simp) <;> try with_reducible rfl
   try simp only [Act.put, List.setIfInBounds_toArray, List.set_cons_zero, List.set_cons_succ]
   refine wpAnyH_take (i := 14) (v := ?v32) rfl (by kernel_rfl) (by kernel_rfl) (by kernel_rfl) (fun _ _ _ h => h) (Or.inl ⟨by rfl, ?hy32⟩) (by assumption) ?rest32
   case hy32 => (intro w hSw; (try dsimp only at hSw); go_simp) <;> try with_reducible rfl
   try simp only [Act.put, List.setIfInBounds_toArray, List.set_cons_zero, List.set_cons_succ]
   refine wpAnyH_ready (rs := [10, 15]) (by kernel_rfl) (by simp) ?_
   refine AllReadyH.cons rfl (fun K9 hK9 => ?_) (AllReadyH.cons rfl (fun K9 hK9 => ?_) AllReadyH.nil)
   ·go_simp
    refine hK9.out _ _ (by assumption) (fun hHeld => ?_)
    clear hK9 K9
    try simp only [Act.put, List.setIfInBounds_toArray, List.set_cons_zero, List.set_cons_succ]
    refine wpAnyH_ready (rs := [15]) (by kernel_rfl) (by simp) ?_
    refine AllReadyH.cons rfl (fun K9 hK9 => ?_) AllReadyH.nil
    go_simp
    refine hK9.out _ _ (by assumption) (fun hHeld => ?_)
    clear hK9 K9
    try simp only [Act.put, List.setIfInBounds_toArray, List.set_cons_zero, List.set_cons_succ]
    refine wpAnyH_take (i := 16) (v := ?v33) rfl (by kernel_rfl) (by kernel_rfl) (by kernel_rfl) (fun _ _ _ h => h) (Or.inl ⟨by rfl, ?hy33⟩) (by assumption) ?rest33
    case hy33 => (intro w hSw; (try dsimp only at hSw); go_simp) <;> try with_reducible rfl
    try simp only [Act.put, List.setIfInBounds_toArray, List.set_cons_zero, List.set_cons_succ]
    refine wpAnyH_ready (rs := [17]) (by kernel_rfl) (by simp) ?_
    refine AllReadyH.cons rfl (fun K9 hK9 => ?_) AllReadyH.nil
    go_simp
    refine hK9.out _ _ (by first | assumption | exact Hk.out _ _ _ (by assumption)) (fun hHeld => ?_)
    clear hK9 K9
    try simp only [Act.put, List.setIfInBounds_toArray, List.set_cons_zero, List.set_cons_succ]
    have hA5 := (Agr2.setB W1.heap.size gR gB wc a (.slice B2 lb.length k2)).trans (Agr2.of (Below.drew (ext_refl _)))
    have hts5 := (Hts2.out.setB ha (x := lb) Hyr.out).ext (Below.drew (ext_refl _))
    generalize hW5 : ((wc.setCell ⟨gB, a, none⟩ (.slice B2 lb.length k2)).drew) = W5 at *
    have Hts5 := hid hts5
    have HA5 := hid hA5
    obtain ⟨v9, z0, zf, _⟩ := Hts5.out.cellB hb
    clear hA5 hts5 x0 y0 xf yf
    refine wpAnyH_take (i := 18) (v := ?v34) rfl (by kernel_rfl) (by kernel_rfl) (by kernel_rfl) (fun _ _ _ h => h) (Or.inl ⟨by rfl, ?hy34⟩) (by assumption) ?rest34
    case hy34 => (intro w hSw; (try dsimp only at hSw); go_simp) <;> try with_reducible rfl
    try simp only [Act.put, List.setIfInBounds_toArray, List.set_cons_zero, List.set_cons_succ]
    refine wpAnyH_ready (rs := [19]) (by kernel_rfl) (by simp) ?_
    refine AllReadyH.cons rfl (fun K9 hK9 => ?_) AllReadyH.nil
    go_simp
    refine hK9.out _ _ (by first | assumption | exact Hk.out _ _ _ (by assumption)) (fun hHeld => ?_)
    clear hK9 K9
    try simp only [Act.put, List.setIfInBounds_toArray, List.set_cons_zero, List.set_cons_succ]
    refine wpAnyH_done (by kernel_rfl) (NoPanic.normal ?_) _
    go_wp2_with fail
    go_meet
    have h9 := Hts5.out.setB hb (x := la) (fun W' hW => Hxr.out W' (HA5.out.trans hW))
    rw [Hsw.out] at h9
    exact ⟨rfl, h9⟩
   ·go_simp
    refine hK9.out _ _ (by assumption) (fun hHeld => ?_)
    clear hK9 K9
    try simp only [Act.put, List.setIfInBounds_toArray, List.set_cons_zero, List.set_cons_succ]
    refine wpAnyH_ready (rs := [10]) (by kernel_rfl) (by simp) ?_
    refine AllReadyH.cons rfl (fun K9 hK9 => ?_) AllReadyH.nil
    go_simp
    refine hK9.out _ _ (by assumption) (fun hHeld => ?_)
    clear hK9 K9
    try simp only [Act.put, List.setIfInBounds_toArray, List.set_cons_zero, List.set_cons_succ]
    refine wpAnyH_take (i := 16) (v := ?v35) rfl (by kernel_rfl) (by kernel_rfl) (by kernel_rfl) (fun _ _ _ h => h) (Or.inl ⟨by rfl, ?hy35⟩) (by assumption) ?rest35
    case hy35 => (intro w hSw; (try dsimp only at hSw); go_simp) <;> try with_reducible rfl
    try simp only [Act.put, List.setIfInBounds_toArray, List.set_cons_zero, List.set_cons_succ]
    refine wpAnyH_ready (rs := [17]) (by kernel_rfl) (by simp) ?_
    refine AllReadyH.cons rfl (fun K9 hK9 => ?_) AllReadyH.nil
    go_simp
    refine hK9.out _ _ (by first | assumption | exact Hk.out _ _ _ (by assumption)) (fun hHeld => ?_)
    clear hK9 K9
    try simp only [Act.put, List.setIfInBounds_toArray, List.set_cons_zero, List.set_cons_succ]
    have hA5 := (Agr2.setB W1.heap.size gR gB wc a (.slice B2 lb.length k2)).trans (Agr2.of (Below.drew (ext_refl _)))
    have hts5 := (Hts2.out.setB ha (x := lb) Hyr.out).ext (Below.drew (ext_refl _))
    generalize hW5 : ((wc.setCell ⟨gB, a, none⟩ (.slice B2 lb.length k2)).drew) = W5 at *
    have Hts5 := hid hts5
    have HA5 := hid hA5
    obtain ⟨v9, z0, zf, _⟩ := Hts5.out.cellB hb
    clear hA5 hts5 x0 y0 xf yf
    refine wpAnyH_take (i := 18) (v := ?v36) rfl (by kernel_rfl) (by kernel_rfl) (by kernel_rfl) (fun _ _ _ h => h) (Or.inl ⟨by rfl, ?hy36⟩) (by assumption) ?rest36
    case hy36 => (intro w hSw; (try dsimp only at hSw); go_simp) <;> try with_reducible rfl
    try simp only [Act.put, List.setIfInBounds_toArray, List.set_cons_zero, List.set_cons_succ]
    refine wpAnyH_ready (rs := [19]) (by kernel_rfl) (by simp) ?_
    refine AllReadyH.cons rfl (fun K9 hK9 => ?_) AllReadyH.nil
    go_simp
    refine hK9.out _ _ (by first | assumption | exact Hk.out _ _ _ (by assumption)) (fun hHeld => ?_)
    clear hK9 K9
    try simp only [Act.put, List.setIfInBounds_toArray, List.set_cons_zero, List.set_cons_succ]
    refine wpAnyH_done (by kernel_rfl) (NoPanic.normal ?_) _
    go_wp2_with fail
    go_meet
    have h9 := Hts5.out.setB hb (x := la) (fun W' hW => Hxr.out W' (HA5.out.trans hW))
    rw [Hsw.out] at h9
    exact ⟨rfl, h9⟩
  case rest =>
   obtain ⟨rfl, hts3⟩ := hcut
   clear c0 c1 c2 c3 x0 y0 xf yf Hxr Hyr Hsw Hts2
   clear B1 B2 k1 k2 la lb
   have Hts3 := hid hts3
   clear hts3
   go_wp2_with fail
   go_loopw [8] (fun v8 wr => ∃ i : Nat, i ≤ T.rules.length ∧ v8 = .int .i64 (i : Int) ∧ TS W1 T bx gR gB cR cB (.slice AF T.foes.length cF) (fun i => T.rules.getD (sg a b i) default) (fun j => if j < i then turnB T a b j else beatsAt T (sg a b j)) wr) (fun v8 _ => T.rules.length - (intOf v8).toNat)
   case atStart => exact ⟨0, Nat.zero_le _, rfl, by simpa using Hts3.out⟩
   case round =>
    clear Hts3
    obtain ⟨i, hi, rfl, hts4⟩ := hrel
    obtain ⟨wo, rfl⟩ : ∃ wo : World, wo = wr := ⟨_, rfl⟩
    have Hts4 := hid hts4
    clear hts4
    obtain ⟨c0, c1, c2, c3⟩ := Hts4.out.boxc
    by_cases hlt : i < T.rules.length
    ·obtain ⟨vb, x0, xf, Xr⟩ := Hts4.out.cellB hlt
     simp only [if_neg (Nat.lt_irrefl i)] at Xr
     have Hm := hid (fun x hx => turn_marks Hwf.out ha hb hlt (x := x) hx)
     have Hlb : Hid (∀ y ∈ beatsAt T (sg a b i), 0 ≤ y ∧ y < T.rules.length) := hid fun y hy => ⟨(beats_mem Hwf.out (sg_lt ha hb hlt) hy).1, (beats_mem Hwf.out (sg_lt ha hb hlt) hy).2.1⟩
     have Htb : Hid (turnB T a b i = pickL (fun x => memB (beatsAt T (sg a b i)) ((sg a b x : Nat) : Int)) T.rules.length) := hid rfl
     generalize hBL : beatsAt T (sg a b i) = BL at *
     obtain ⟨Ab, kb, rfl⟩ : ∃ A c, vb = .slice A BL.length c := by obtain ⟨A, c, e, _⟩ := Xr _ (Agr2.refl _ _ _ _); exact ⟨A, c, e⟩
     have hBLn : BL.length ≤ 140737488355328 := by obtain ⟨A, c, e, _, h9, _⟩ := Xr _ (Agr2.refl _ _ _ _); exact h9
     have Hxr := hid Xr
     clear Xr hBL
     have hmk := mkB (T.rules.length : Int) (by omega) (by omega)
     rw [Int.toNat_natCast] at hmk
     have Hts := hid (Hts4.out.bB)
     go_wp2_with fail
     clear hmk
     go_loopw [10] (fun v10 wr => ∃ k : Nat, k ≤ BL.length ∧ v10 = .int .i64 (k : Int) ∧ Below wo.heap.size wo wr ∧ Arr Value.bool 4 wr wo.heap.size (factsUpto T.rules.length k (BL.map fun y => ((sg a b y.toNat : Nat) : Int)))) (fun v10 _ => BL.length - (intOf v10).toNat)
     case atStart =>
      refine ⟨0, Nat.zero_le _, rfl, ext_alloc _ _, ?_⟩
      rw [factsUpto_zero]
      refine (heap_alloc_new wo _).trans ?_
      congr 2
      rw [← Array.toList_inj, toList_madeCells_one, List.map_replicate]
     case round =>
      obtain ⟨k, hk, rfl, hbl, har⟩ := hrel
      obtain ⟨w5, rfl⟩ : ∃ w5 : World, w5 = wr := ⟨_, rfl⟩
      have Hts5 := hid (Hts4.out.ext hbl)
      have y0 := cell_ext hbl x0
      have yr := Hxr.out w5 (Agr2.of hbl)
      clear c0 c1 c2 c3 x0 xf
      obtain ⟨c0, c1, c2, c3⟩ := Hts5.out.boxc
      have Hbl := hid hbl
      by_cases hkl : k < BL.length
      ·obtain ⟨A', cc', e', _, _, hr⟩ := yr
       obtain rfl : Ab = A' := by injection e'
       obtain ⟨ad, rfl, hcell⟩ := hr.at1 hkl
       clear e'
       obtain ⟨hy0, hyn⟩ := Hlb.out _ (List.getElem_mem hkl)
       obtain ⟨y, hy⟩ := Int.eq_ofNat_of_zero_le hy0
       have Hsucc := hid (factsUpto_succ T.rules.length k (BL.map fun y => ((sg a b y.toNat : Nat) : Int)) (by simpa using hkl) (by simp only [List.getElem_map]; omega))
       simp only [List.getElem_map] at Hsucc
       rw [hy, Int.toNat_natCast, Int.toNat_natCast] at Hsucc
       have hyn' : y < T.rules.length := by omega
       rw [hy] at hcell
       clear hy0 hyn hy
       have hll : (factsUpto T.rules.length k (BL.map fun y => ((sg a b y.toNat : Nat) : Int))).length = T.rules.length := by rw [factsUpto, factsB_length]
       by_cases hya : y = a
       ·have hsg : sg a b y = b := by unfold sg; rw [if_pos hya]
        rw [hya] at hcell
        rw [hsg] at Hsucc
        have hfr := har.free b
        have hcq := har.cell (i := b) (by rw [hll]; exact hb)
        have Hnx := hid (har.set b true)
        have hbn : (b : Int) < (T.rules.length : Int) := by omega
        clear hya hsg har
        go_wp2_with fail
        go_roundw
        case rel => exact ⟨k + 1, by omega, by go_num, Hbl.out.setCell (Nat.le_refl _) _, by rw [Hsucc.out]; exact Hnx.out⟩
        case measure => simp [intOf]; omega
       ·by_cases hyb : y = b
        ·have hsg : sg a b y = a := by unfold sg; rw [if_neg hya, if_pos hyb]
         have hba : (b : Int) ≠ (a : Int) := by omega
         rw [hyb] at hcell
         rw [hsg] at Hsucc
         have hfr := har.free a
         have hcq := har.cell (i := a) (by rw [hll]; exact ha)
         have Hnx := hid (har.set a true)
         have hbn : (a : Int) < (T.rules.length : Int) := by omega
         clear hya hyb hsg har
         go_wp2_with fail
         go_roundw
         case rel => exact ⟨k + 1, by omega, by go_num, Hbl.out.setCell (Nat.le_refl _) _, by rw [Hsucc.out]; exact Hnx.out⟩
         case measure => simp [intOf]; omega
        ·have hsg : sg a b y = y := by unfold sg; rw [if_neg hya, if_neg hyb]
         have hba : (y : Int) ≠ (a : Int) := by omega
         have hbb : (y : Int) ≠ (b : Int) := by omega
         rw [hsg] at Hsucc
         have hfr := har.free y
         have hcq := har.cell (i := y) (by rw [hll]; exact hyn')
         have Hnx := hid (har.set y true)
         have hbn : (y : Int) < (T.rules.length : Int) := by omega
         clear hya hyb hsg har
         go_wp2_with fail
         go_roundw
         case rel => exact ⟨k + 1, by omega, by go_num, Hbl.out.setCell (Nat.le_refl _) _, by rw [Hsucc.out]; exact Hnx.out⟩
         case measure => simp [intOf]; omega
      ·obtain rfl : k = BL.length := by omega
       obtain ⟨cur, hcur, hcurv⟩ := Hts5.out.bB
       have hcs : i < cur.size := by obtain ⟨v9, h9, _⟩ := hcurv i hlt; exact (Array.getElem?_eq_some_iff.1 h9).1
       have hfr := frozen_of_row w5 gB i _ _ hcur
       have Hcur := hid hcs
       have HcurB := hid hcur
       have Hst5 := hid (TJ.start (i := i) Hts5.out hcur)
       have hgI : wo.heap.size ≠ gR ∧ wo.heap.size ≠ gB ∧ W1.heap.size ≤ wo.heap.size := by
        obtain ⟨_, k1, _⟩ := Hts4.out.bR
        obtain ⟨_, k2, _⟩ := Hts4.out.bB
        have := lt_of_block k1
        have := lt_of_block k2
        have := Hts4.out.old.size
        omega
       have Hin : Hid (∀ W', Agr2 W1.heap.size gR gB w5 W' → Arr Value.bool 4 W' wo.heap.size (factsB T.rules.length (BL.map fun y => ((sg a b y.toNat : Nat) : Int)))) := hid fun W' hW => by
        have h9 := har
        have e9 : BL.length = (BL.map fun y => ((sg a b y.toNat : Nat) : Int)).length := by simp
        rw [e9, factsUpto_all] at h9
        exact (hW.2 _ hgI.2.2 h9.lt hgI.1 hgI.2.1).trans h9
       clear hcur hcurv hcs har hgI yr hbl
       generalize hP : (fun x => memB BL ((sg a b x : Nat) : Int)) = P at *
       have Hm2 : Hid (∀ x (hx : x < T.rules.length), (factsB T.rules.length (BL.map fun y => ((sg a b y.toNat : Nat) : Int)))[x]'(by rw [factsB_length]; exact hx) = P x) := hid fun x hx => by rw [← hP]; exact Hm.out x hx
       clear hP Hm
       go_wp2_with fail
       go_loopw [12] (fun v12 wr => ∃ (x : Nat) (v : Value), x ≤ T.rules.length ∧ v12 = .int .i64 (x : Int) ∧ TJ W1 w5 wr gR gB i cur v (pickL P x)) (fun v12 _ => T.rules.length - (intOf v12).toNat)
       case atStart => exact ⟨0, _, Nat.zero_le _, rfl, Hst5.out⟩
       case round =>
        clear c0 c1 c2 c3 y0 hfr Hst5
        obtain ⟨x, v, hx, rfl, htj⟩ := hrel
        have hs9 := Hin.out wr htj.agr
        by_cases hxl : x < T.rules.length
        ·have hc9 := hs9.cell (i := x) (by rw [factsB_length]; exact hxl)
         rw [Hm2.out x hxl] at hc9
         have hS := pickL_succ P x
         have hLe := pickL_le P x
         cases hp : P x with
         | true =>
          rw [hp] at hc9 hS
          rw [if_pos rfl] at hS
          have HS := hid hS
          generalize pickL P x = L at *
          have Htj := hid htj
          obtain ⟨c3, y0⟩ := Htj.out.cells Hts5.out Hcur.out
          have Hka : Hid (∀ A : Obj, ((wr.alloc A).drew).cell? ⟨bx, 3, none⟩ = some (.slice (some ⟨gB, 0, none⟩) T.rules.length cB)) := hid fun A => cell_ext (ext_alloc wr A).drew c3
          have Hst : Hid (∀ (W : World) (u : Value), W.cell? ⟨bx, 3, none⟩ = some (.slice (some ⟨gB, 0, none⟩) T.rules.length cB) → (W.setCell ⟨gB, i, none⟩ u).cell? ⟨bx, 3, none⟩ = some (.slice (some ⟨gB, 0, none⟩) T.rules.length cB)) := hid fun W u h => by
           rw [← h]; exact World.cell?_of_block (heap_setCell_other _ _ _ _ Hts5.out.ne.2.1)
          have hgBl : gB < wr.heap.size := lt_of_block Htj.out.hB
          clear hS hp hs9 htj
          go_wp2_with fail
          refine wp_region_noPanic ?_
          refine wp_region_held_drew (S := fun W' : World => W'.cell? ⟨bx, 3, none⟩ = some (.slice (some ⟨gB, 0, none⟩) T.rules.length cB)) (by kernel_rfl) (by assumption) (fun hHeld => ?_)
          refine wpAnyH_take (i := 0) (v := ?v37) rfl (by kernel_rfl) (by kernel_rfl) (by kernel_rfl) (fun _ _ _ h => h) (Or.inl ⟨by rfl, ?hy37⟩) (by assumption) ?rest37
          case hy37 => (intro w hSw; (try dsimp only at hSw); go_simp) <;> try with_reducible rfl
          try simp only [Act.put, List.setIfInBounds_toArray, List.set_cons_zero, List.set_cons_succ]
          refine wpAnyH_take (i := 1) (v := ?v38) rfl (by kernel_rfl) (by kernel_rfl) (by kernel_rfl) (fun _ _ _ h => h) (Or.inl ⟨by rfl, ?hy38⟩) (by assumption) ?rest38
          case hy38 => (intro w hSw; (try dsimp only at hSw); go_simp) <;> try with_reducible rfl
          try simp only [Act.put, List.setIfInBounds_toArray, List.set_cons_zero, List.set_cons_succ]
          refine wpAnyH_take (i := 2) (v := ?v39) rfl (by kernel_rfl) (by kernel_rfl) (by kernel_rfl) (fun _ _ _ h => h) (Or.inl ⟨by rfl, ?hy39⟩) (by assumption) ?rest39
          case hy39 => (intro w hSw; (try dsimp only at hSw); go_simp) <;> try with_reducible rfl
          try simp only [Act.put, List.setIfInBounds_toArray, List.set_cons_zero, List.set_cons_succ]
          refine wpAnyH_take (i := 3) (v := ?v40) rfl (by kernel_rfl) (by kernel_rfl) (by kernel_rfl) (fun _ _ _ h => h) (Or.inl ⟨by rfl, ?hy40⟩) (by assumption) ?rest40
          case hy40 => (intro w hSw; (try dsimp only at hSw); go_simp) <;> try with_reducible rfl
          try simp only [Act.put, List.setIfInBounds_toArray, List.set_cons_zero, List.set_cons_succ]
          refine wpAnyH_take (i := 4) (v := ?v41) rfl (by kernel_rfl) (by kernel_rfl) (by kernel_rfl) (fun _ _ _ h => h) (Or.inl ⟨by rfl, ?hy41⟩) (by assumption) ?rest41
          case hy41 => (intro w hSw; (try dsimp only at hSw); go_simp) <;> try with_reducible rfl
          try simp only [Act.put, List.setIfInBounds_toArray, List.set_cons_zero, List.set_cons_succ]
          refine wpAnyH_take (i := 5) (v := ?v42) rfl (by kernel_rfl) (by kernel_rfl) (by kernel_rfl) (fun _ _ _ h => h) (Or.inl ⟨by rfl, ?hy42⟩) (by assumption) ?rest42
          case hy42 => (intro w hSw; (try dsimp only at hSw); go_simp) <;> try with_reducible rfl
          try simp only [Act.put, List.setIfInBounds_toArray, List.set_cons_zero, List.set_cons_succ]
          refine wpAnyH_take (i := 6) (v := ?v43) rfl (by kernel_rfl) (by kernel_rfl) (by kernel_rfl) (fun _ _ _ h => h) (Or.inl ⟨by rfl, ?hy43⟩) (by assumption) ?rest43
          case hy43 => (intro w hSw; (try dsimp only at hSw); go_simp) <;> try with_reducible rfl
          try simp only [Act.put, List.setIfInBounds_toArray, List.set_cons_zero, List.set_cons_succ]
          refine wpAnyH_take (i := 8) (v := ?v44) rfl (by kernel_rfl) (by kernel_rfl) (by kernel_rfl) (fun _ _ _ h => h) (Or.inl ⟨by rfl, ?hy44⟩) (by assumption) ?rest44
          case hy44 => (intro w hSw; (try dsimp only at hSw); go_simp) <;> try with_reducible rfl
          try simp only [Act.put, List.setIfInBounds_toArray, List.set_cons_zero, List.set_cons_succ]
          refine wpAnyH_ready (rs := [7, 9]) (by kernel_rfl) (by simp) ?_
          refine AllReadyH.cons rfl (fun K9 hK9 => ?_) (AllReadyH.cons rfl (fun K9 hK9 => ?_) AllReadyH.nil)
          ·go_simp
           refine hK9.out _ _ (by assumption) (fun hHeld => ?_)
           clear hK9 K9
           try simp only [Act.put, List.setIfInBounds_toArray, List.set_cons_zero, List.set_cons_succ]
           refine wpAnyH_ready (rs := [9]) (by kernel_rfl) (by simp) ?_
           refine AllReadyH.cons rfl (fun K9 hK9 => ?_) AllReadyH.nil
           go_simp
           refine hK9.out _ _ (Hka.out _) (fun hHeld => ?_)
           clear hK9 K9
           try simp only [Act.put, List.setIfInBounds_toArray, List.set_cons_zero, List.set_cons_succ]
           refine wpAnyH_ready (rs := [10]) (by kernel_rfl) (by simp) ?_
           refine AllReadyH.cons rfl (fun K9 hK9 => ?_) AllReadyH.nil
           (refine step_append_own_at rfl (.tmp 113) (.tmp 115) 26 rfl w5.heap.size 3 (.int .i64 0) 8 Try.underlying26 infoI rfl v _ _ rfl (Htj.out.own.alloc _) _ (.int .i64 (x : Int)) rfl (by simp [go_sem]) rfl (by unfold maxLen; omega) (by omega) (by have := Htj.out.agr.1; simp; omega) ?_; intro v' w' hown hgrow hat; obtain ⟨gn, cn, rfl⟩ := own_form hown; obtain ⟨hq5, hqR, hqF⟩ := Htj.out.after Hts5.out Hcur.out hgrow)
           refine hK9.out _ _ hq5 (fun hHeld => ?_)
           clear hK9 K9
           try simp only [Act.put, List.setIfInBounds_toArray, List.set_cons_zero, List.set_cons_succ]
           refine wpAnyH_take (i := 11) (v := ?v45) rfl (by kernel_rfl) (by kernel_rfl) (by kernel_rfl) (fun _ _ _ h => h) (Or.inl ⟨by rfl, ?hy45⟩) (by assumption) ?rest45
           case hy45 => (intro w hSw; (try dsimp only at hSw); go_simp) <;> try with_reducible rfl
           try simp only [Act.put, List.setIfInBounds_toArray, List.set_cons_zero, List.set_cons_succ]
           refine wpAnyH_ready (rs := [12]) (by kernel_rfl) (by simp) ?_
           refine AllReadyH.cons rfl (fun K9 hK9 => ?_) AllReadyH.nil
           go_simp
           refine hK9.out _ _ (Hst.out _ _ hq5) (fun hHeld => ?_)
           clear hK9 K9
           try simp only [Act.put, List.setIfInBounds_toArray, List.set_cons_zero, List.set_cons_succ]
           refine wpAnyH_done (by kernel_rfl) (NoPanic.normal ?_) _
           clear hq5 hqR hqF
           go_wp2_with fail
           go_roundw
           case rel =>
            have h9 := Htj.out.append Hts5.out Hcur.out hgrow hown
            rw [← HS.out] at h9
            exact ⟨x + 1, _, by omega, by go_num, h9⟩
           case measure => simp [intOf]; omega
          ·go_simp
           refine hK9.out _ _ (Hka.out _) (fun hHeld => ?_)
           clear hK9 K9
           try simp only [Act.put, List.setIfInBounds_toArray, List.set_cons_zero, List.set_cons_succ]
           refine wpAnyH_ready (rs := [7]) (by kernel_rfl) (by simp) ?_
           refine AllReadyH.cons rfl (fun K9 hK9 => ?_) AllReadyH.nil
           go_simp
           refine hK9.out _ _ (Hka.out _) (fun hHeld => ?_)
           clear hK9 K9
           try simp only [Act.put, List.setIfInBounds_toArray, List.set_cons_zero, List.set_cons_succ]
           refine wpAnyH_ready (rs := [10]) (by kernel_rfl) (by simp) ?_
           refine AllReadyH.cons rfl (fun K9 hK9 => ?_) AllReadyH.nil
           (refine step_append_own_at rfl (.tmp 113) (.tmp 115) 26 rfl w5.heap.size 3 (.int .i64 0) 8 Try.underlying26 infoI rfl v _ _ rfl (Htj.out.own.alloc _) _ (.int .i64 (x : Int)) rfl (by simp [go_sem]) rfl (by unfold maxLen; omega) (by omega) (by have := Htj.out.agr.1; simp; omega) ?_; intro v' w' hown hgrow hat; obtain ⟨gn, cn, rfl⟩ := own_form hown; obtain ⟨hq5, hqR, hqF⟩ := Htj.out.after Hts5.out Hcur.out hgrow)
           refine hK9.out _ _ hq5 (fun hHeld => ?_)
           clear hK9 K9
           try simp only [Act.put, List.setIfInBounds_toArray, List.set_cons_zero, List.set_cons_succ]
           refine wpAnyH_take (i := 11) (v := ?v46) rfl (by kernel_rfl) (by kernel_rfl) (by kernel_rfl) (fun _ _ _ h => h) (Or.inl ⟨by rfl, ?hy46⟩) (by assumption) ?rest46
           case hy46 => (intro w hSw; (try dsimp only at hSw); go_simp) <;> try with_reducible rfl
           try simp only [Act.put, List.setIfInBounds_toArray, List.set_cons_zero, List.set_cons_succ]
           refine wpAnyH_ready (rs := [12]) (by kernel_rfl) (by simp) ?_
           refine AllReadyH.cons rfl (fun K9 hK9 => ?_) AllReadyH.nil
           go_simp
           refine hK9.out _ _ (Hst.out _ _ hq5) (fun hHeld => ?_)
           clear hK9 K9
           try simp only [Act.put, List.setIfInBounds_toArray, List.set_cons_zero, List.set_cons_succ]
           refine wpAnyH_done (by kernel_rfl) (NoPanic.normal ?_) _
           clear hq5 hqR hqF
           go_wp2_with fail
           go_roundw
           case rel =>
            have h9 := Htj.out.append Hts5.out Hcur.out hgrow hown
            rw [← HS.out] at h9
            exact ⟨x + 1, _, by omega, by go_num, h9⟩
           case measure => simp [intOf]; omega
         | false =>
          rw [hp] at hc9 hS
          rw [if_neg (by simp), List.append_nil] at hS
          have HS := hid hS
          generalize pickL P x = L at *
          have Htj := hid htj
          clear hS hp hs9 htj
          go_wp2_with fail
          go_roundw
          case rel => exact ⟨x + 1, v, by omega, by go_num, by rw [HS.out]; exact Htj.out⟩
          case measure => simp [intOf]; omega
        ·obtain rfl : x = T.rules.length := by omega
         have Htj := hid htj
         clear hs9 htj
         go_wp2_with fail
         go_roundw
         case rel =>
          refine ⟨i + 1, by omega, by go_num, ?_⟩
          have h9 := Htj.out.done Hts5.out HcurB.out hlt (Nat.le_trans (pickL_le _ _) hn4)
          rw [← Htb.out, updN_step] at h9
          exact h9
         case measure => simp [intOf]; omega
    ·obtain rfl : i = T.rules.length := by omega
     have Hts5 := hid (Hts4.out.congr (bs' := turnB T a b) fun j hj => by simp only [if_pos hj])
     have hsz9 : W1.heap.size = w.heap.size + 2 := hsz
     have hg5 := Hts5.out.ne.2.2.2
     have k27 : wo.heap[w.heap.size + 1]? = some (.cells #[.int .i64 0, .slice none 0 0, .slice none 0 0, .slice none 0 0] 25 (0, 0)) := (Hts5.out.old.block (w.heap.size + 1) (by omega)).trans (Hat.out 1 _ rfl)
     have q0 : wo.cell? ⟨w.heap.size + 1, 0, none⟩ = some (.int .i64 0) := by rw [cell_of_row wo _ 0 _ _ _ k27]; rfl
     have q1 : wo.cell? ⟨w.heap.size + 1, 1, none⟩ = some (.slice none 0 0) := by rw [cell_of_row wo _ 1 _ _ _ k27]; rfl
     have q2 : wo.cell? ⟨w.heap.size + 1, 2, none⟩ = some (.slice none 0 0) := by rw [cell_of_row wo _ 2 _ _ _ k27]; rfl
     have q3 : wo.cell? ⟨w.heap.size + 1, 3, none⟩ = some (.slice none 0 0) := by rw [cell_of_row wo _ 3 _ _ _ k27]; rfl
     have p0 := frozen_of_row wo (w.heap.size + 1) 0 _ _ k27
     have p1 := frozen_of_row wo (w.heap.size + 1) 1 _ _ k27
     have p2 := frozen_of_row wo (w.heap.size + 1) 2 _ _ k27
     have p3 := frozen_of_row wo (w.heap.size + 1) 3 _ _ k27
     have j7 := heap_setCell_same _ (w.heap.size + 1) 0 _ _ (.int .i64 T.lits) k27
     have j8 := heap_setCell_same _ (w.heap.size + 1) 1 _ _ (.slice AF T.foes.length cF) j7
     have j9 := heap_setCell_same _ (w.heap.size + 1) 2 _ _ (.slice (some ⟨gR, 0, none⟩) T.rules.length cR) j8
     have j10 := heap_setCell_same _ (w.heap.size + 1) 3 _ _ (.slice (some ⟨gB, 0, none⟩) T.rules.length cB) j9
     have o0 := cell_of_row _ _ 0 _ _ _ j10
     have o1 := cell_of_row _ _ 1 _ _ _ j10
     have o2 := cell_of_row _ _ 2 _ _ _ j10
     have o3 := cell_of_row _ _ 3 _ _ _ j10
     simp only [List.setIfInBounds_toArray, List.set_cons_zero, List.set_cons_succ, List.getElem?_toArray, List.getElem?_cons_zero, List.getElem?_cons_succ] at o0 o1 o2 o3
     have hA9 : Agr2 W1.heap.size gR gB wo ((((wo.setCell ⟨w.heap.size + 1, 0, none⟩ (.int .i64 T.lits)).setCell ⟨w.heap.size + 1, 1, none⟩ (.slice AF T.foes.length cF)).setCell ⟨w.heap.size + 1, 2, none⟩ (.slice (some ⟨gR, 0, none⟩) T.rules.length cR)).setCell ⟨w.heap.size + 1, 3, none⟩ (.slice (some ⟨gB, 0, none⟩) T.rules.length cB)) := (Agr2.low _ _ _ (by omega) _ _).trans ((Agr2.low _ _ _ (by omega) _ _).trans ((Agr2.low _ _ _ (by omega) _ _).trans (Agr2.low _ _ _ (by omega) _ _)))
     have hk9 : ∀ g, w.heap.size + 2 ≤ g → (((((wo.setCell ⟨w.heap.size + 1, 0, none⟩ (.int .i64 T.lits)).setCell ⟨w.heap.size + 1, 1, none⟩ (.slice AF T.foes.length cF)).setCell ⟨w.heap.size + 1, 2, none⟩ (.slice (some ⟨gR, 0, none⟩) T.rules.length cR)).setCell ⟨w.heap.size + 1, 3, none⟩ (.slice (some ⟨gB, 0, none⟩) T.rules.length cB))).heap[g]? = wo.heap[g]? := fun g hg => (heap_setCell_other _ _ g _ (by dsimp only; omega)).trans ((heap_setCell_other _ _ g _ (by dsimp only; omega)).trans ((heap_setCell_other _ _ g _ (by dsimp only; omega)).trans (heap_setCell_other _ _ g _ (by dsimp only; omega))))
     have hlR : gR < wo.heap.size := by obtain ⟨_, k1, _⟩ := Hts5.out.bR; exact lt_of_block k1
     have hlB : gB < wo.heap.size := by obtain ⟨_, k1, _⟩ := Hts5.out.bB; exact lt_of_block k1
     have hz9 : (((((wo.setCell ⟨w.heap.size + 1, 0, none⟩ (.int .i64 T.lits)).setCell ⟨w.heap.size + 1, 1, none⟩ (.slice AF T.foes.length cF)).setCell ⟨w.heap.size + 1, 2, none⟩ (.slice (some ⟨gR, 0, none⟩) T.rules.length cR)).setCell ⟨w.heap.size + 1, 3, none⟩ (.slice (some ⟨gB, 0, none⟩) T.rules.length cB))).heap.size = wo.heap.size := by simp
     have Hth : Hid (∀ W' : World, (((((wo.setCell ⟨w.heap.size + 1, 0, none⟩ (.int .i64 T.lits)).setCell ⟨w.heap.size + 1, 1, none⟩ (.slice AF T.foes.length cF)).setCell ⟨w.heap.size + 1, 2, none⟩ (.slice (some ⟨gR, 0, none⟩) T.rules.length cR)).setCell ⟨w.heap.size + 1, 3, none⟩ (.slice (some ⟨gB, 0, none⟩) T.rules.length cB))).heap.size ≤ W'.heap.size → (∀ g, w.heap.size ≤ g → g < (((((wo.setCell ⟨w.heap.size + 1, 0, none⟩ (.int .i64 T.lits)).setCell ⟨w.heap.size + 1, 1, none⟩ (.slice AF T.foes.length cF)).setCell ⟨w.heap.size + 1, 2, none⟩ (.slice (some ⟨gR, 0, none⟩) T.rules.length cR)).setCell ⟨w.heap.size + 1, 3, none⟩ (.slice (some ⟨gB, 0, none⟩) T.rules.length cB))).heap.size → W'.heap[g]? = (((((wo.setCell ⟨w.heap.size + 1, 0, none⟩ (.int .i64 T.lits)).setCell ⟨w.heap.size + 1, 1, none⟩ (.slice AF T.foes.length cF)).setCell ⟨w.heap.size + 1, 2, none⟩ (.slice (some ⟨gR, 0, none⟩) T.rules.length cR)).setCell ⟨w.heap.size + 1, 3, none⟩ (.slice (some ⟨gB, 0, none⟩) T.rules.length cB))).heap[g]?) → RdTh W' (.agg #[.int .i64 T.lits, .slice AF T.foes.length cF, .slice (some ⟨gR, 0, none⟩) T.rules.length cR, .slice (some ⟨gB, 0, none⟩) T.rules.length cB]) (turnTh T a b)) := hid fun W' hs hk =>
      Hts5.out.theory (hA9.trans ⟨hs, fun g hm hg _ _ => hk g (by omega) hg⟩) ((hk gR (by omega) (by omega)).trans (hk9 gR (by omega))) ((hk gB (by omega) (by omega)).trans (hk9 gB (by omega))) hn4
     clear hlR hlB hz9
     have Hb9 : Hid (Below w.heap.size w ((((wo.setCell ⟨w.heap.size + 1, 0, none⟩ (.int .i64 T.lits)).setCell ⟨w.heap.size + 1, 1, none⟩ (.slice AF T.foes.length cF)).setCell ⟨w.heap.size + 1, 2, none⟩ (.slice (some ⟨gR, 0, none⟩) T.rules.length cR)).setCell ⟨w.heap.size + 1, 3, none⟩ (.slice (some ⟨gB, 0, none⟩) T.rules.length cB))) := hid (((((ext_trans Hbel.out Hts5.out.old).setCell (by dsimp only; omega) _).setCell (by dsimp only; omega) _).setCell (by dsimp only; omega) _).setCell (by dsimp only; omega) _)
     clear hA9 hk9 k27 j7 j8 j9 j10
     go_wp2
     clear c0 c1 c2 c3 q0 q1 q2 q3 p0 p1 p2 p3
     generalize ((((wo.setCell ⟨w.heap.size + 1, 0, none⟩ (.int .i64 T.lits)).setCell ⟨w.heap.size + 1, 1, none⟩ (.slice AF T.foes.length cF)).setCell ⟨w.heap.size + 1, 2, none⟩ (.slice (some ⟨gR, 0, none⟩) T.rules.length cR)).setCell ⟨w.heap.size + 1, 3, none⟩ (.slice (some ⟨gB, 0, none⟩) T.rules.length cB)) = W9 at *
     refine bodyPost_ret (by simp [results, Try.results42, go_sem, o0, o1, o2, o3]; try rfl) rfl ?_
     exact Fin HQ ⟨Hth.out, Hb9.out⟩
end Go.Proofs.Lx
