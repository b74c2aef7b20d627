/- Parts of the proof: Ie, Dy. Contract of delta's Set. -/
import Derived.Test.YtbidjiopnddldaaGreatP27
import Derived.Test.YtbidjiopnddldaaGreatP17
import Derived.Test.YtbidjiopnddldaaGreatP15
import Derived.Test.YtbidjiopnddldaaGreatP16
namespace Go.Proofs.Lx
open Go Go.RowKit Go.Proofs.Tj
set_option linter.unusedVariables false
set_option linter.unusedSimpArgs false
set_option maxRecDepth 100000 in
set_option maxHeartbeats 6400000 in
theorem setD_ok (w : World) (x : Nat) (vM vF : Value) (T : Th) (G F U : List Int) (Ft : Nat → Prop) (h : EngD w x vM T G (solveM T G) U Ft) (hwf : WfTh T) (hG : risB G T.lits = true) (hF : RdI w vF F) (hn : risB F T.lits = true) :
  Calls Tryz.prog 18 #[.pointer (some ⟨x, 0, none⟩), vF] w (Ret fun r w' => ∃ v, r = .tuple #[v, .int .i64 0] ∧ Turn w w' x vM T G F (notIn F G ++ notIn G F) Ft v) := by
 obtain ⟨vFo, vR, vB, vFa, vTo, ⟨c0, c1, c2, c3, c4, c5, c6, c7⟩, hT, hGr, _⟩ := h.cells
 have hn4 : T.foes.length ≤ 4096 := by have := hwf.fl; have := hwf.l1; omega
 have hGl : G.length ≤ 4096 := h.sm.2.1
 have hFl : F.length ≤ 4096 := by have := ris_len (l := F) (n := T.foes.length) (by rw [hwf.fl]; exact hn); omega
 have Hu := hid (unmade_any w x c0)
 have Hc := hid (checkFacts_any w _ vF T F hT hF)
 rw [show risB F T.lits = true from hn] at Hc
 obtain ⟨AF, cF, rfl, hFc, hFn, hFr⟩ := hF
 obtain ⟨AG, cG, rfl, hGc, hGn, hGrr⟩ := hGr
 have Hst : Hid (∀ W, Below w.heap.size w W → W.cell? ⟨x, 5, none⟩ = some (.slice AG G.length cG) ∧ RcI W AF F ∧ RcI W AG G) := hid fun W hW => ⟨cell_ext hW c5, hFr.ext (scR_mono _) hW, hGrr.ext (scR_mono _) hW⟩
 have HGc := hid hGc
 have HFc := hid hFc
 have H := hid h
 have HG := hid hG
 have Hwf := hid hwf
 have Hn := hid hn
 have hfl := hwf.fl
 obtain ⟨i0, hi, hz0, hz1, hz2⟩ := info_parts infoI
 have HI := hid (⟨hi, hz0, hz1, hz2⟩ : _ ∧ _ ∧ _ ∧ _)
 have hFm : ∀ q ∈ F, 0 ≤ q ∧ q < T.foes.length := fun q hq => by
  obtain ⟨i, hi, rfl⟩ := List.getElem_of_mem hq
  have := (risB_spec hn).1 i hi; omega
 have hGm : ∀ q ∈ G, 0 ≤ q ∧ q < T.foes.length := fun q hq => by
  obtain ⟨i, hi, rfl⟩ := List.getElem_of_mem hq
  have := (risB_spec hG).1 i hi; omega
 have HFm := hid (⟨hFm, hGm⟩ : _ ∧ _)
 clear h hG hn hT hwf hFr hGrr hFm hGm hi hz0 hz1 hz2 hFc hGc c6 c7
 refine post_gen fun Q HQ => ?_
 go_enter Tryz.func18, Tryz.ntmps18
 go_wp2_with (first | (go_at_call 38; refine Hu.out.mono ?_; rintro e w1 ⟨_, rfl, rfl, rfl⟩) | (go_at_call 47; refine Hc.out.mono ?_; rintro e w1 ⟨_, rfl, rfl, hb1⟩; have Hb1 := hid hb1; clear hb1))
 clear Hu Hc c0 c5 c1 c2 c3 c4
 obtain ⟨wc, rfl⟩ : ∃ wc : World, wc = w1 := ⟨_, rfl⟩
 have hwc := Hb1.out.size
 go_loopw [7, 25] (fun v7 v25 wr => ∃ k : Nat, k ≤ F.length ∧ v25 = .int .i64 (k : Int) ∧ wr.ownsRow wc.heap.size 3 1 v7 (notIn (F.take k) G).length (intsV (notIn (F.take k) G)) ∧ Below wc.heap.size wc wr) (fun _ v25 _ => F.length - (intOf v25).toNat)
 case atStart => exact ⟨0, Nat.zero_le _, rfl, World.ownsRow_nil _ _ _ _, ext_refl _⟩
 case round =>
  obtain ⟨k, hk, rfl, hown, hbl⟩ := hrel
  have hlow := ext_trans Hb1.out hbl
  obtain ⟨c5, hFr, hGr⟩ := Hst.out wr hlow
  have Hown := hid hown
  have Hbl := hid hbl
  have hwr := hbl.size
  by_cases hlt : k < F.length
  ·obtain ⟨ad, rfl, hcell⟩ := hFr.at1 hlt
   have Hsu := hid (notIn_succ (G := G) hlt)
   have hle := notIn_le (F.take k) G
   rw [List.length_take] at hle
   have hle2 : (notIn (F.take k) G).length ≤ 4096 := by omega
   have Hct := hid (contains_any wr (.slice AG G.length cG) G F[k] ⟨AG, cG, rfl, HGc.out, hGn, hGr⟩)
   clear hown hbl hFr hGr hle
   generalize F[k] = q at *
   by_cases hm : memB G q = true
   ·rw [hm] at Hct
    rw [if_pos hm, List.append_nil] at Hsu
    clear hm
    go_wp2_with (go_at_call 48; refine Hct.out.mono ?_; rintro e w1 ⟨_, rfl, rfl, hE⟩; have hE := hE.symm; subst hE)
    go_roundw
    case rel => exact ⟨k + 1, by omega, by go_num, by rw [Hsu.out]; exact Hown.out, Hbl.out⟩
    case measure => exact meas_lt hlt
   ·rw [show memB G q = false by simpa using hm] at Hct
    rw [if_neg hm] at Hsu
    obtain ⟨hi, hz0, hz1, hz2⟩ := HI.out
    clear hm
    generalize notIn (F.take k) G = L at *
    go_wp2_with (first | (go_at_call 48; refine Hct.out.mono ?_; rintro e w1 ⟨_, rfl, rfl, hE⟩; have hE := hE.symm; subst hE) | (at_builtin; refine wpList_append_own_at _ rfl _ _ 36 rfl wc.heap.size 3 i0 (.int .i64 0) 1 8 Tryz.underlying36 hi hz0 hz1 hz2 rfl (by decide) _ L.length _ rfl (Hown.out.alloc _) ⟨wr.heap.size, 0, none⟩ 1 1 [.int .i64 q] rfl rfl (cell_one_new _ _ _) (fun u hu => by simp at hu; subst hu; rfl) (by unfold maxLen; omega) (by omega) (by simp; omega) ?_; intro v' w' hown2 hgrow hnil hat; obtain ⟨gn, cn, rfl⟩ := own_form hown2))
    go_roundw
    case rel =>
     refine ⟨k + 1, by omega, by go_num, ?_, below_grown (Hbl.out.alloc hwr _) (by simp; omega) hgrow (fun g hg => (Hown.out.lt g hg).1)⟩
     rw [Hsu.out, List.length_append, List.length_singleton]
     simpa [intsV] using hown2
    case measure => exact meas_lt hlt
  ·obtain rfl : k = F.length := by omega
   rw [List.take_length] at Hown
   clear hown hbl hFr
   go_wp2_with fail
   obtain ⟨wd, rfl⟩ : ∃ wd : World, wd = wr := ⟨_, rfl⟩
   have hL1 := notIn_le F G
   go_loopw [7, 46] (fun v7 v46 wr => ∃ k : Nat, k ≤ G.length ∧ v46 = .int .i64 (k : Int) ∧ wr.ownsRow wc.heap.size 3 1 v7 (notIn F G ++ notIn (G.take k) F).length (intsV (notIn F G ++ notIn (G.take k) F)) ∧ Below wc.heap.size wc wr) (fun _ v46 _ => G.length - (intOf v46).toNat)
   case atStart => exact ⟨0, Nat.zero_le _, rfl, by simpa [notIn] using Hown.out, Hbl.out⟩
   case round =>
    clear Hown Hbl hGr c5 hlow
    obtain ⟨k, hk, rfl, hown, hbl⟩ := hrel
    have hlow := ext_trans Hb1.out hbl
    obtain ⟨c5, hFr, hGr⟩ := Hst.out wr hlow
    have Hown := hid hown
    have Hbl := hid hbl
    have hwr := hbl.size
    by_cases hlt : k < G.length
    ·obtain ⟨ad, rfl, hcell⟩ := hGr.at1 hlt
     have Hsu := hid (notIn_succ (G := F) hlt)
     have hle := notIn_le (G.take k) F
     rw [List.length_take] at hle
     have hle2 : (notIn F G ++ notIn (G.take k) F).length ≤ 8192 := by rw [List.length_append]; omega
     have Hct := hid (contains_any wr (.slice AF F.length cF) F G[k] ⟨AF, cF, rfl, HFc.out, hFn, hFr⟩)
     clear hown hbl hFr hGr hle
     generalize G[k] = q at *
     by_cases hm : memB F q = true
     ·rw [hm] at Hct
      rw [if_pos hm, List.append_nil] at Hsu
      clear hm
      go_wp2_with (go_at_call 48; refine Hct.out.mono ?_; rintro e w1 ⟨_, rfl, rfl, hE⟩; have hE := hE.symm; subst hE)
      go_roundw
      case rel => exact ⟨k + 1, by omega, by go_num, by rw [Hsu.out]; exact Hown.out, Hbl.out⟩
      case measure => exact meas_lt hlt
     ·rw [show memB F q = false by simpa using hm] at Hct
      rw [if_neg hm] at Hsu
      obtain ⟨hi, hz0, hz1, hz2⟩ := HI.out
      clear hm
      have Hsu2 : Hid (notIn F G ++ notIn (G.take (k + 1)) F = (notIn F G ++ notIn (G.take k) F) ++ [q]) := hid (by rw [Hsu.out, List.append_assoc])
      clear Hsu
      generalize notIn F G ++ notIn (G.take k) F = L at *
      go_wp2_with (first | (go_at_call 48; refine Hct.out.mono ?_; rintro e w1 ⟨_, rfl, rfl, hE⟩; have hE := hE.symm; subst hE) | (at_builtin; refine wpList_append_own_at _ rfl _ _ 36 rfl wc.heap.size 3 i0 (.int .i64 0) 1 8 Tryz.underlying36 hi hz0 hz1 hz2 rfl (by decide) _ L.length _ rfl (Hown.out.alloc _) ⟨wr.heap.size, 0, none⟩ 1 1 [.int .i64 q] rfl rfl (cell_one_new _ _ _) (fun u hu => by simp at hu; subst hu; rfl) (by unfold maxLen; omega) (by omega) (by simp; omega) ?_; intro v' w' hown2 hgrow hnil hat; obtain ⟨gn, cn, rfl⟩ := own_form hown2))
      go_roundw
      case rel =>
       refine ⟨k + 1, by omega, by go_num, ?_, below_grown (Hbl.out.alloc hwr _) (by simp; omega) hgrow (fun g hg => (Hown.out.lt g hg).1)⟩
       rw [Hsu2.out, List.length_append, List.length_singleton]
       simpa [intsV] using hown2
      case measure => exact meas_lt hlt
    ·obtain rfl : k = G.length := by omega
     rw [List.take_length] at Hown
     have hL2 := notIn_le G F
     have hLo : (notIn F G ++ notIn G F).length ≤ 8192 := by rw [List.length_append]; omega
     have hto := own_rdI Hown.out (by omega)
     have Hto := hid hto
     have Hcl := hid (cloneI_any wr (.slice AF F.length cF) F ⟨AF, cF, rfl, HFc.out, hFn, hFr⟩ (by omega))
     have Hlow := hid hlow
     clear hown hbl hFr hGr hto hlow c5
     obtain ⟨A7, c7, rfl⟩ := own_form0 Hown.out
     clear Hown
     generalize hLn : (notIn F G ++ notIn G F).length = Ln at *
     clear hLn
     go_wp2_with fail
     refine Hcl.out.mono ?_
     rintro e w5 ⟨v5, rfl, hown5, hb5⟩
     obtain ⟨A5, c5, rfl⟩ : ∃ A c, v5 = .slice A F.length c := own_form0 hown5
     have Hb5 := hid (ext_trans Hlow.out hb5)
     have Hown5 := hid (own_lower hown5 Hlow.out.size)
     have Hbec := hid (becomeD_any w5 x vM (.slice A5 F.length c5) _ T G F (notIn F G ++ notIn G F) U Ft (H.out.ext Hb5.out) Hwf.out Hn.out wr.heap.size hown5 (Hto.out.ext (scR_mono _) hb5) (fun y hy => by
      rcases List.mem_append.1 hy with h9 | h9
      ·exact HFm.out.1 y (mem_notIn.1 h9).1
      ·exact HFm.out.2 y (mem_notIn.1 h9).1) odd_set)
     clear hown5 hb5 Hcl
     go_wp2_with fail
     refine Hbec.out.mono ?_
     rintro e w6 ⟨v6, rfl, hpost⟩
     have Hpost := hid hpost
     clear hpost Hbec
     go_wp2_with fail
     go_ret2
     exact Fin HQ ⟨_, rfl, turn_after (bF := 0) H.out Hb5.out Hown5.out Hpost.out⟩
end Go.Proofs.Lx

namespace Go.Proofs.Lx
open Go Go.RowKit
set_option linter.unusedVariables false
set_option linter.unusedSimpArgs false
theorem lt_objD {w : World} {g : Nat} {o : Obj} (h : w.heap[g]? = some o) : g < w.heap.size := (Array.getElem?_eq_some_iff.1 h).1
def nilRows (n : Nat) : Obj := .cells (Array.replicate n (Value.slice none 0 0)) 36
/-- What has been made since wx: the foes' rows, the superiority's, the box, the rules. -/
structure TW (wx W : World) (nF nB : Nat) (rs : List Rule) (fF fB f3 : Option Nat) (fR : Option (Value × (Nat → Value))) : Prop where
 below : Below wx.heap.size wx W
 atF : ∀ g, fF = some g → wx.heap.size ≤ g ∧ W.heap[g]? = some (nilRows nF)
 atB : ∀ g, fB = some g → wx.heap.size ≤ g ∧ W.heap[g]? = some (nilRows nB)
 at3 : ∀ g, f3 = some g → wx.heap.size ≤ g ∧ W.heap[g]? = some (.cells #[.int .i64 0, .slice none 0 0, .slice none 0 0, .slice none 0 0] 25)
 atR : ∀ v vs, fR = some (v, vs) → W.ownsRow wx.heap.size 93 3 v rs.length (cellsR rs vs) ∧ ∀ i, i < rs.length → RdI wx (vs i) (rs.getD i default).body
 ne : ∀ g h, fF = some g → fB = some h → g ≠ h
section
variable {wx W W' : World} {nF nB : Nat} {rs : List Rule} {fF fB f3 : Option Nat} {fR : Option (Value × (Nat → Value))}
theorem TW.start (wx : World) (nF nB : Nat) (rs : List Rule) : TW wx wx nF nB rs none none none none := ⟨Below.refl _ _, by simp, by simp, by simp, by simp, by simp⟩
theorem TW.ext (h : TW wx W nF nB rs fF fB f3 fR) (hb : Below W.heap.size W W') : TW wx W' nF nB rs fF fB f3 fR :=
 ⟨base_trans h.below h.below.size hb, fun g e => ⟨(h.atF g e).1, (hb.block g (lt_objD (h.atF g e).2)).trans (h.atF g e).2⟩, fun g e => ⟨(h.atB g e).1, (hb.block g (lt_objD (h.atB g e).2)).trans (h.atB g e).2⟩, fun g e => ⟨(h.at3 g e).1, (hb.block g (lt_objD (h.at3 g e).2)).trans (h.at3 g e).2⟩,
  fun v vs e => ⟨own_ext (h.atR v vs e).1 hb, (h.atR v vs e).2⟩, h.ne⟩
theorem TW.drew (h : TW wx W nF nB rs fF fB f3 fR) : TW wx W.drew nF nB rs fF fB f3 fR := h.ext (ext_refl W).drew
theorem TW.mkF (h : TW wx W nF nB rs none fB f3 fR) : TW wx (W.alloc (nilRows nF)) nF nB rs (some W.heap.size) fB f3 fR := by
 have h2 := h.ext (ext_alloc W (nilRows nF))
 refine ⟨h2.below, fun g e => ?_, h2.atB, h2.at3, h2.atR, fun g k e1 e2 => ?_⟩
 ·injection e with e; subst e
  exact ⟨h.below.size, heap_alloc_new W _⟩
 ·injection e1 with e1; subst e1
  have := lt_objD (h.atB k e2).2
  omega
theorem TW.mkB (h : TW wx W nF nB rs fF none f3 fR) : TW wx (W.alloc (nilRows nB)) nF nB rs fF (some W.heap.size) f3 fR := by
 have h2 := h.ext (ext_alloc W (nilRows nB))
 refine ⟨h2.below, h2.atF, fun g e => ?_, h2.at3, h2.atR, fun g k e1 e2 => ?_⟩
 ·injection e with e; subst e
  exact ⟨h.below.size, heap_alloc_new W _⟩
 ·injection e2 with e2; subst e2
  have := lt_objD (h.atF g e1).2
  omega
theorem TW.mk3 (h : TW wx W nF nB rs fF fB none fR) : TW wx (W.alloc (.cells #[.int .i64 0, .slice none 0 0, .slice none 0 0, .slice none 0 0] 25)) nF nB rs fF fB (some W.heap.size) fR := by
 have h2 := h.ext (ext_alloc W (.cells #[.int .i64 0, .slice none 0 0, .slice none 0 0, .slice none 0 0] 25))
 refine ⟨h2.below, h2.atF, h2.atB, fun g e => ?_, h2.atR, h2.ne⟩
 injection e with e; subst e
 exact ⟨h.below.size, heap_alloc_new W _⟩
theorem TW.clone (h : TW wx W nF nB rs fF fB f3 none) {v : Value} {vs : Nat → Value} (ho : W'.ownsRow W.heap.size 93 3 v rs.length (cellsR rs vs)) (hr : ∀ i, i < rs.length → RdI wx (vs i) (rs.getD i default).body) (hb : Below W.heap.size W W') : TW wx W' nF nB rs fF fB f3 (some (v, vs)) := by
 have h2 := h.ext hb
 refine ⟨h2.below, h2.atF, h2.atB, h2.at3, fun v2 vs2 e => ?_, h2.ne⟩
 injection e with e; injection e with e1 e2; subst e1; subst e2
 exact ⟨own_lower ho h.below.size, hr⟩
end
/-- Rows that are cloned one by one into the array g: the first i are there. -/
structure TL (W0 w : World) (g n : Nat) (L : List (List Int)) (vs : List Value) : Prop where
 blk : w.heap[g]? = some (.cells (vs ++ List.replicate (n - vs.length) (Value.slice none 0 0)).toArray 36 (0, 0))
 own : ∀ j (h : j < vs.length) (h2 : j < L.length), w.ownsRow W0.heap.size 3 1 vs[j] L[j].length (intsV L[j])
 le : vs.length ≤ n
 lo : g < W0.heap.size
 kp : Kp g W0 w
theorem TL.start {W0 : World} {g n : Nat} (L : List (List Int)) (h : W0.heap[g]? = some (nilRows n)) : TL W0 W0 g n L [] := by
 refine ⟨?_, fun j hj => absurd hj (by simp), by simp, lt_objD h, Kp.refl _ _⟩
 rw [h]; unfold nilRows
 simp
theorem TL.push {W0 w w' : World} {g n : Nat} {L : List (List Int)} {vs : List Value} (h : TL W0 w g n L vs) {v : Value} (hn : vs.length < n) (hL : vs.length < L.length) (hb : Below w.heap.size w w') (ho : w'.ownsRow w.heap.size 3 1 v L[vs.length].length (intsV L[vs.length])) : TL W0 (w'.setCell ⟨g, vs.length, none⟩ v) g n L (vs ++ [v]) := by
 have hg := h.lo
 have hs := h.kp.sz
 have hgl : g < w.heap.size := by omega
 refine ⟨?_, fun j hj hj2 => ?_, by rw [List.length_append, List.length_singleton]; omega, h.lo, (h.kp.trans (Kp.below hb)).set (.inl rfl) _⟩
 ·rw [heap_setCell_same w' g vs.length _ _ v ((hb.block g hgl).trans h.blk)]
  congr 2
  apply Array.toList_inj.1
  simp only [Array.toList_setIfInBounds, List.length_append, List.length_singleton]
  rw [List.set_append_right _ _ (Nat.le_refl _), Nat.sub_self]
  have e : n - vs.length = (n - (vs.length + 1)) + 1 := by omega
  rw [e, List.replicate_succ, List.set_cons_zero, List.append_assoc]
  rfl
 ·rw [List.length_append, List.length_singleton] at hj
  have key : ∀ {b k : Nat} {u : Value} {xs : List Value}, W0.heap.size ≤ b → w'.ownsRow b 3 1 u k xs → (w'.setCell ⟨g, vs.length, none⟩ v).ownsRow W0.heap.size 3 1 u k xs := fun {b k u xs} hb0 h9 =>
   own_lower (ownsRow_setCell_other h9 (fun e => by have := (h9.lt _ e).1; dsimp only at this; omega) _) hb0
  by_cases e : j = vs.length
  ·subst e
   rw [List.getElem_append_right (Nat.le_refl _)]
   simp only [Nat.sub_self, List.getElem_cons_zero]
   exact key hs ho
  ·have hjl : j < vs.length := by omega
   rw [List.getElem_append_left hjl]
   exact key (Nat.le_refl _) (own_ext (h.own j hjl hj2) hb)
/-- How they read in every world that has their blocks. -/
theorem TL.reads {W0 w W : World} {g n : Nat} {L : List (List Int)} {vs : List Value} (h : TL W0 w g n L vs) (hv : vs.length = n) (hL : L.length = n) (hn : n ≤ 140737488355328) (hx : ∀ l ∈ L, l.length ≤ 140737488355328) (hg : W.heap[g]? = w.heap[g]?) (hk : ∀ k, W0.heap.size ≤ k → k < w.heap.size → W.heap[k]? = w.heap[k]?) : RdLL W (.slice (some ⟨g, 0, none⟩) n n) L := by
 have hb := hg.trans h.blk
 rw [hv, Nat.sub_self, List.replicate_zero, List.append_nil] at hb
 refine ⟨_, n, by rw [hL], by omega, by omega, fun i hi => ⟨_, _, rfl, ⟨vs[i]'(by omega), rfl, own_rdI (own_heap (h.own i (by omega) hi) fun k k1 k2 => hk k k1 k2) (hx _ (List.getElem_mem hi))⟩, rfl, fun j u hu => ?_⟩⟩
 match j, hu with
 | 0, hu =>
  simp at hu; subst hu
  rw [add_plain, Nat.add_zero, Nat.mul_one, cell_of_row W g i _ _ _ hb]
  have hi2 : i < vs.length := by omega
  simp [hi2]
end Go.Proofs.Lx
