/- Parts of the proof: Do, Dp. delta.cut: the superiority of the part. Printed by gen_cut.py. No condition. -/
import Derived.Test.YtbidjiopnddldaaGreatP19
namespace Go.Proofs.Lx
open Go Go.RowKit Go.Proofs.Tj
set_option linter.unusedVariables false
set_option linter.unusedSimpArgs false
theorem PB.setBe {w : World} {base p : Nat} {lits : Int} {vFo vBe vOl vRu vFa v : Value} {rs : List Rule} {vs : Nat → Value} {fa : List Int} (h : PB w base p lits vFo vBe vOl vRu vFa rs vs fa) : PB (w.setCell ⟨p, 3, none⟩ v) base p lits vFo v vOl vRu vFa rs vs fa := by
 have hlo := h.lo
 have key : ∀ {e sz n : Nat} {u : Value} {xs : List Value}, w.ownsRow base e sz u n xs → (w.setCell ⟨p, 3, none⟩ v).ownsRow base e sz u n xs := fun ho => ownsRow_setCell_other ho (fun e => by have := (ho.lt _ e).1; dsimp only at this; omega) _
 refine ⟨?_, key h.ru, key h.fa, fun i hi => ⟨key (h.bd i hi).1, (h.bd i hi).2⟩, h.lo⟩
 rw [heap_setCell_same w p 3 _ _ v h.box]; rfl
theorem beats_len {T : Th} (hwf : WfTh T) {i : Nat} (hi : i < T.beats.length) : T.beats[i].length ≤ 4096 ∧ (∀ y ∈ T.beats[i], 0 ≤ y ∧ y < T.rules.length) ∧ beatsAt T i = T.beats[i] := by
 have h := beatsAll_true.1 hwf.ba i hi
 simp only [beatsOk, Bool.and_eq_true] at h
 have e : T.beats.getD i [] = T.beats[i] := by simp [hi]
 rw [e] at h
 refine ⟨?_, fun y hy => ?_, e⟩
 ·have := ris_len h.1
  have := hwf.rl
  omega
 ·obtain ⟨k, hk, rfl⟩ := List.getElem_of_mem hy
  exact (risB_spec h.1).1 k hk
/-- The rows of the part's superiority, when some places have come. -/
structure BE6 (T : Th) (mI : List Int) (vis : List Nat) (xss : List (List Int)) (n : Nat) : Prop where
 len : xss.length = n
 done : ∀ k ∈ vis, ∀ h : k < mI.length, xss.getD k [] = srt ((beatsAt T mI[k].toNat).map (ixD mI))
 left : ∀ k, k ∉ vis → xss.getD k [] = []
 le : ∀ l ∈ xss, l.length ≤ 4096
theorem BE6.start (T : Th) (mI : List Int) (n : Nat) : BE6 T mI [] (List.replicate n []) n :=
 ⟨by simp, fun k hk => absurd hk (by simp), fun k _ => by simp [List.getD_eq_getElem?_getD, List.getElem?_replicate]; split <;> rfl, fun l hl => by rw [List.mem_replicate] at hl; rw [hl.2]; simp⟩
theorem BE6.next {T : Th} {mI : List Int} {vis : List Nat} {xss : List (List Int)} {n : Nat} (h : BE6 T mI vis xss n) {j : Nat} (hj : j < mI.length) (hjn : j < n) (hl : (beatsAt T mI[j].toNat).length ≤ 4096) : BE6 T mI (j :: vis) (xss.set j (srt ((beatsAt T mI[j].toNat).map (ixD mI)))) n := by
 refine ⟨by rw [List.length_set]; exact h.len, fun k hk hk2 => ?_, fun k hk => ?_, fun l hm => ?_⟩
 ·by_cases e : j = k
  ·subst e
   rw [List.getD_eq_getElem?_getD, List.getElem?_set_self (by rw [h.len]; exact hjn)]; rfl
  ·rw [List.getD_eq_getElem?_getD, List.getElem?_set_ne e, ← List.getD_eq_getElem?_getD]
   rcases List.mem_cons.1 hk with h9 | h9
   ·exact absurd h9.symm e
   ·exact h.done k h9 hk2
 ·rw [List.mem_cons, not_or] at hk
  rw [List.getD_eq_getElem?_getD, List.getElem?_set_ne (fun e => hk.1 e.symm), ← List.getD_eq_getElem?_getD]
  exact h.left k hk.2
 ·rcases List.mem_or_eq_of_mem_set hm with h9 | h9
  ·exact h.le l h9
  ·rw [h9, srt_length, List.length_map]; exact hl
theorem HX.le {W1 w : World} {g : Nat} {vs : List Value} {xss : List (List Int)} (h : HX W1 w g vs xss) {q : Nat} (hq : q < vs.length) : vs[q].ownBlock ≠ some g := fun e => by
 have := ((h.rows.own q hq (by rw [← h.rows.len]; exact hq)).lt _ e).1
 have := h.rows.hg
 omega
set_option maxRecDepth 1000000 in
set_option maxHeartbeats 60000000 in
theorem cut_s6 (w W7 : World) (x p b r6 bm g2 nR : Nat) (Ac Af AF AR AB AM : Option Addr) (cc cf cF cR cB cM : Nat) (T : Th) (M : List Nat) (cone F mI : List Int) (hwf : WfTh T) (her : ER w x AF AR AB AM cF cR cB cM T M) (hb1 : Below w.heap.size w W7) 
  (him : IM W7 bm mI) (hmI : ∀ k (h : k < mI.length), 0 ≤ mI[k] ∧ mI[k] < T.rules.length) (hml : mI.length ≤ nR) (bx : Array Value) (hp : W7.heap[p]? = some (.cells bx 111 (0, 0))) (hbx : bx[3]? = some (.slice (some ⟨g2, 0, none⟩) nR nR)) (hpg : p ≠ g2)
  (hg : W7.heap[g2]? = some (.cells (List.replicate nR (Value.slice none 0 0)).toArray 36 (0, 0))) (hwg : w.heap.size ≤ g2) (f : Nat → Value) (K : Act → World → Prop) (Q' : Exit → Act → World → Prop)
  (hK : ∀ (t : Array Value) (w' : World) (vs : List Value) (xss : List (List Int)) (vis : List Nat), LC t x p b r6 (.slice Ac cone.length cc) (.slice Af F.length cf) → HX W7 w' g2 vs xss → BE6 T mI vis xss nR → (∀ k, k < mI.length → k ∈ vis) → K ⟨t, []⟩ w') :
  Code.wp Tryz.prog cutSeg6 (Exit.then K Q') ⟨#[.pointer (some ⟨x, 0, none⟩), .slice Ac cone.length cc, .slice Af F.length cf, (f 3), (f 4), (f 5), .pointer (some ⟨r6, 0, none⟩), .map (some b), .pointer (some ⟨p, 0, none⟩), (f 9), (f 10), (f 11), (f 12), .map (some bm), (f 14), (f 15), (f 16), (f 17), (f 18), (f 19), (f 20), (f 21), (f 22), (f 23), (f 24), (f 25), (f 26), (f 27), (f 28), (f 29), (f 30), (f 31), (f 32), (f 33), (f 34), (f 35), (f 36), (f 37), (f 38), (f 39), (f 40), (f 41), (f 42), (f 43), (f 44), (f 45), (f 46), (f 47), (f 48), (f 49), (f 50), (f 51), (f 52), (f 53), (f 54), (f 55), (f 56), (f 57), (f 58), (f 59), (f 60), (f 61), (f 62), (f 63), (f 64), (f 65), (f 66), (f 67), (f 68), (f 69), (f 70), (f 71), (f 72), (f 73), (f 74), (f 75), (f 76), (f 77), (f 78), (f 79), (f 80), (f 81), (f 82), (f 83), (f 84), (f 85), (f 86), (f 87), (f 88), (f 89), (f 90), (f 91), (f 92), (f 93), (f 94), (f 95), (f 96), (f 97), (f 98), (f 99), (f 100), (f 101), (f 102), (f 103), (f 104), (f 105), (f 106), (f 107), (f 108), (f 109), (f 110), (f 111), (f 112), (f 113), (f 114), (f 115), (f 116), (f 117), (f 118), (f 119), (f 120), (f 121), (f 122), (f 123), (f 124), (f 125), (f 126), (f 127), (f 128), (f 129), (f 130), (f 131), (f 132), (f 133), (f 134), (f 135), (f 136), (f 137), (f 138), (f 139), (f 140), (f 141), (f 142), (f 143), (f 144), (f 145), (f 146), (f 147), (f 148), (f 149), (f 150), (f 151), (f 152), (f 153), (f 154), (f 155), (f 156), (f 157), (f 158), (f 159), (f 160), (f 161), (f 162), (f 163), (f 164), (f 165), (f 166), (f 167), (f 168), (f 169), (f 170), (f 171), (f 172), (f 173), (f 174), (f 175), (f 176), (f 177), (f 178), (f 179), (f 180), (f 181), (f 182), (f 183), (f 184), (f 185), (f 186), (f 187), (f 188), (f 189), (f 190), (f 191), (f 192), (f 193), (f 194), (f 195), (f 196), (f 197), (f 198), (f 199), (f 200), (f 201), (f 202), (f 203), (f 204), (f 205), (f 206), (f 207), (f 208), (f 209), (f 210), (f 211), (f 212), (f 213), (f 214), (f 215), (f 216), (f 217), (f 218), (f 219), (f 220), (f 221), (f 222), (f 223), (f 224), (f 225), (f 226), (f 227), (f 228), (f 229), (f 230), (f 231), (f 232), (f 233), (f 234), (f 235), (f 236), (f 237), (f 238), (f 239), (f 240), (f 241), (f 242), (f 243), (f 244), (f 245), (f 246)], []⟩ W7 := by
 have HK := hid hK
 have Her := hid her
 have Hwf := hid hwf
 have Hb1 := hid hb1
 have Him := hid him
 have Hp := hid hp
 have Hbx := hid hbx
 have HmI := hid hmI
 have Hwg := hid hwg
 have hr4 := hwf.rl
 have hbl := hwf.bl
 have hbmg : bm ≠ g2 := fun e => him.noCells _ _ _ (by rw [e]; exact hg)
 have Hne := hid (show p ≠ g2 ∧ bm ≠ g2 from ⟨hpg, hbmg⟩)
 have H0 := hid (HX.start hg)
 have him7 := him
 have Hg := hid hg
 clear hK her hwf hb1 him hp hbx hmI hwg hpg hbmg hg
 conv => arg 2; whnf
 go_wp2_with (at_range; refine wpList_range_IM rfl _ rfl bm mI rfl him7 ?_; intro w0 cnt0 hrg0 hg0 hs0)
 go_frame
 go_loopw [175] (fun v175 wr => ∃ vis cnt, RG wr bm W7.heap.size mI vis cnt ∧ ∃ vs xss, HX W7 wr g2 vs xss ∧ BE6 T mI vis xss nR) (fun _ wr => wr.rangeLeft bm W7.heap.size)
 case atStart =>
  exact ⟨[], cnt0, hrg0, _, _, H0.out.ext (below_none hg0), BE6.start T mI nR⟩
 case round =>
  clear him7 hrg0 hg0 hs0
  obtain ⟨vis, cnt, hrg, vs, xss, hx, hbe⟩ := hrel
  go_wp2_with (at_next; refine wpList_next_IM rfl _ rfl bm W7.heap.size mI vis cnt rfl hrg ?_ ?_)
  ·intro hall
   have HX9 := hid hx
   have HB := hid hbe
   have Hall := hid hall
   clear hx hbe hrg hall
   go_wp2
   exact HK.out _ _ _ _ vis ⟨rfl, rfl, rfl, rfl, rfl, rfl, rfl⟩ HX9.out HB.out Hall.out
  ·intro j hj w2 cnt2 hjv hrg2 hlt hgr hsz hen
   have hx2 := hx.other hgr (Nat.le_refl _) (RG.noCells hrg)
   have Hleft := hid (show w2.rangeLeft bm W7.heap.size < wr.rangeLeft bm W7.heap.size by rw [hrg2.left, hrg.left]; exact hlt)
   have Hrg2 := hid hrg2
   have Hx2 := hid hx2
   have HB := hid hbe
   obtain ⟨hi0, hi1⟩ := HmI.out j hj
   obtain ⟨i, hii⟩ := Int.eq_ofNat_of_zero_le hi0
   have hin : i < T.beats.length := by omega
   have hlow := hx2.low Hb1.out Hwg.out
   obtain ⟨⟨e2, e3, e4, e6⟩, eF, eR, eB, eM⟩ := Her.out w2 hlow
   obtain ⟨adB, B, cBr, rfl, hcB, hB1, hB2, hrow⟩ := eB.atRow hin
   obtain ⟨hl4, hlr, hba⟩ := beats_len Hwf.out hin
   have hcB0 : RcI w B T.beats[i] := by
    obtain ⟨_, _, _, eB0, _⟩ := Her.out w (ext_refl _)
    obtain ⟨ad2, B2, c2, e9, hc9, _, _, hr9⟩ := eB0.atRow hin
    cases e9
    have := cell_ext hlow hc9
    rw [this] at hcB
    injection hcB with hcB
    injection hcB with e9 _ _
    subst e9
    exact hr9
   have HcB := hid hcB0
   have Hlr := hid hlr
   have Hba : Hid (beatsAt T mI[j].toNat = T.beats[i]) := hid (by rw [hii]; exact hba)
   have hjn : j < nR := by omega
   have hpl := lt_of_block Hp.out
   have c3 : w2.cell? ⟨p, 3, none⟩ = some (.slice (some ⟨g2, 0, none⟩) nR nR) := by rw [cell_of_row w2 p 3 _ _ _ ((hx2.old p hpl Hne.out.1).trans Hp.out)]; exact Hbx.out
   rw [hii] at hen
   have hi0 : (0 : Int) ≤ (i : Int) := by omega
   have hi1 : (i : Int) < (T.beats.length : Int) := by omega
   have hmr : (T.rules.length : Int) ≤ 4096 := by omega
   clear hx hbe hrg hrg2 hgr hsz hlt hx2 eF eR eB eM hrow hcB0 hlr hba hlow e2 e3 e6
   generalize hLb : T.beats[i] = Lb at *
   clear hLb
   go_wp2
   go_loopw [189] (fun v189 wr => ∃ a : Nat, a ≤ Lb.length ∧ v189 = .int .i64 (a : Int) ∧ RG wr bm W7.heap.size mI (j :: vis) cnt2 ∧ ∃ vs, HX W7 wr g2 vs (xss.set j ((Lb.take a).map (ixD mI)))) (fun v189 _ => Lb.length - (intOf v189).toNat)
   case atStart =>
    refine ⟨0, Nat.zero_le _, rfl, Hrg2.out, vs, ?_⟩
    have e : xss.set j ((Lb.take 0).map (ixD mI)) = xss := by
     rw [List.take_zero, List.map_nil]
     have h9 := HB.out.left j hjv
     have hjx : j < xss.length := by rw [HB.out.len]; exact hjn
     rw [List.getD_eq_getElem?_getD, List.getElem?_eq_getElem hjx] at h9
     have h9 : xss[j] = [] := h9
     rw [← h9]; exact List.set_getElem_self hjx
    rw [e]; exact Hx2.out
   case round =>
    clear c3 e4 hcB
    obtain ⟨a, ha, rfl, hrg, vs3, hx⟩ := hrel
    have hvl := hx.rows.len
    rw [List.length_set, HB.out.len] at hvl
    have hkv : j < vs3.length := by omega
    have hkx : j < (xss.set j ((Lb.take a).map (ixD mI))).length := by rw [List.length_set, HB.out.len]; exact hjn
    have hat : (xss.set j ((Lb.take a).map (ixD mI)))[j] = (Lb.take a).map (ixD mI) := List.getElem_set_self _
    have hlow := hx.low Hb1.out Hwg.out
    have c3 : wr.cell? ⟨p, 3, none⟩ = some (.slice (some ⟨g2, 0, none⟩) nR nR) := by rw [cell_of_row wr p 3 _ _ _ ((hx.old p hpl Hne.out.1).trans Hp.out)]; exact Hbx.out
    have hbm9 := hx.old bm Him.out.lt Hne.out.2
    have hrgl := hrg.lt
    have hr2g : W7.heap.size ≠ g2 := fun e => by have := hx.rows.hg; omega
    by_cases hal : a < Lb.length
    ·obtain ⟨adL, rfl, hca⟩ := (HcB.out.ext (scR_mono _) hlow).at1 hal
     have hyw : (Lit.int .i64 Lb[a]).wf = true := idx_wf (Hlr.out _ (List.getElem_mem hal)) hmr
     have Htk : Hid ((Lb.take (a + 1)).map (ixD mI) = (Lb.take a).map (ixD mI) ++ [ixD mI Lb[a]]) := hid (by rw [List.take_succ_eq_append_getElem hal, List.map_append]; rfl)
     have hlen : (xss.set j ((Lb.take a).map (ixD mI)))[j].length ≤ 1000000 := by rw [hat, List.length_map, List.length_take]; omega
     have Hhx := hid hx
     have Hat := hid hat
     have Hrg := hid hrg
     have Hbm9 := hid hbm9
     clear hx hat hrg hbm9 c3
     generalize Lb[a] = y at *
     go_wp2
     refine cutR40 wr W7 p g2 bm nR j mI y vs3 _ Hhx.out bx Hp.out Hbx.out Hne.out.1 Hne.out.2 Him.out hyw hkv hkx hjn hlen _ _ _ _ _ _ _ _ _ _ _ _ _ _ _ _ _ _ _ _ _ _ _ _ _ _ _ _ _ _ _ _ _ _ _ _ _ _ _ _ _ _ _ _ _ _ _ _ _ _ _ _ _ _ _ _ _ _ _ _ _ _ _ _ _ _ _ _ _ _ _ _ _ _ _ _ _ _ _ _ _ _ _ _ _ _ _ _ _ _ _ _ _ _ _ _ _ _ _ _ _ _ _ _ _ _ _ _ _ _ _ _ _ _ _ _ _ _ _ _ _ _ _ _ _ _ _ _ _ _ _ _ _ _ _ _ _ _ _ _ _ _ _ _ _ _ _ _ _ _ _ _ _ _ _ _ _ _ _ _ _ _ _ _ _ _ _ _ _ _ _ _ _ _ _ _ _ _ _ _ _ _ _ _ _ _ _ _ _ _ _ _ _ _ _ _ _ _ _ _ _ _ _ _ _ _ _ _ _ _ _ _ _ _ _ _ _ _ _ _ _ _ _ _ _ _ _ _ _ _ _ _ _ _ _ _ _ _ _ _ _ _ _ _ ?_
     intro z193 z194 z195 z196 z197 z198 z199 z200 z201 z202 z203 z204 z205 z206 z207 z208 w4 v' h4 hk4
     have hrg4 := Hrg.out.keep (w' := w4) ((h4.old bm Him.out.lt Hne.out.2).trans Hbm9.out.symm) (hk4 _ hrgl.1 hr2g (own_ne_map (Hhx.out.rows.own j hkv hkx) Hrg.out.noCells))
     rw [Hat.out, List.set_set, ← Htk.out] at h4
     have H4 := hid h4
     have HR4 := hid hrg4
     clear h4 hca hyw hlen Hat Hhx hk4 hrg4
     go_wp2
     go_roundw
     case rel => exact ⟨a + 1, by omega, by go_num, HR4.out, _, H4.out⟩
     case measure => simp [intOf]; omega
    ·obtain rfl : a = Lb.length := by omega
     have hown := hx.rows.own j hkv hkx
     have hcell := hx.rows.cell hkv
     rw [hat, List.take_length] at hown
     have hll : (Lb.map (ixD mI)).length ≤ 100000000 := by rw [List.length_map]; omega
     have Hsort := hid (sortI_any wr W7.heap.size vs3[j] (Lb.map (ixD mI)) hown hll)
     have Hown := hid hown
     have Hhx := hid hx
     have Hrg := hid hrg
     have Hbm9 := hid hbm9
     have Hat := hid hat
     have hjn2 : (j : Int) < (nR : Int) := by omega
     have hj0 : (0 : Int) ≤ (j : Int) := by omega
     clear hx hrg hbm9 hown hat
     go_wp2_with fail
     refine Hsort.out.mono ?_
     rintro e w9 ⟨_, rfl, rfl, hown9, hg9⟩
     have hx9 := Hhx.out.sorted hkv hkx (ys := srt (Lb.map (ixD mI))) (by rw [Hat.out, srt_length, List.take_length]) hg9 (by rw [Hat.out, List.take_length]; exact hown9)
     have hrg9 := Hrg.out.keep (w' := w9) ((hx9.old bm Him.out.lt Hne.out.2).trans Hbm9.out.symm) (hg9.block _ hrgl.1 (fun e => own_ne_map Hown.out Hrg.out.noCells e.symm))
     rw [List.set_set] at hx9
     have hbe9 := HB.out.next hj hjn (by rw [Hba.out]; exact hl4)
     rw [Hba.out] at hbe9
     have HX9 := hid hx9
     have HR9 := hid hrg9
     have HB9 := hid hbe9
     have hml : w9.rangeLeft bm W7.heap.size = w2.rangeLeft bm W7.heap.size := by rw [hrg9.left, Hrg2.out.left]
     clear hx9 hrg9 hbe9 hown9 hg9 hcell c3 hjn2 hj0
     go_wp2
     go_roundw
     case rel => exact ⟨j :: vis, cnt2, HR9.out, _, _, HX9.out, HB9.out⟩
     case measure => rw [hml]; exact Hleft.out
end Go.Proofs.Lx

namespace Go.Proofs.Lx
open Go Go.RowKit Go.Proofs.Tj
set_option linter.unusedVariables false
set_option linter.unusedSimpArgs false
theorem inFacts_succ {D cone F : List Int} {k : Nat} (hk : k < F.length) : inFacts D cone (F.take (k + 1)) = inFacts D cone (F.take k) ++ if memB cone F[k] = true then [ixD D F[k]] else [] := by
 unfold inFacts
 rw [List.take_succ_eq_append_getElem hk, List.filter_append, List.map_append]
 congr 1
 by_cases h : memB cone F[k] = true
 ·rw [if_pos h]; simp [h]
 ·rw [if_neg h]; simp [h]
theorem inFacts_le (D cone F : List Int) : (inFacts D cone F).length ≤ F.length := by
 unfold inFacts; rw [List.length_map]; exact List.length_filter_le _ _
/-- What turns when a row grows in the box p: p, the row's own block, new blocks. -/
structure Kr (p : Nat) (v0 v : Value) (a b : World) : Prop where
 os : b.os = a.os
 tape : b.tape = a.tape
 output : b.output = a.output
 sz : a.heap.size ≤ b.heap.size
 old : ∀ k, k < a.heap.size → k ≠ p → v0.ownBlock ≠ some k → b.heap[k]? = a.heap[k]?
 at9 : ∀ k, v.ownBlock = some k → v0.ownBlock = some k ∨ a.heap.size ≤ k
theorem Kr.refl (p : Nat) (v : Value) (a : World) : Kr p v v a a := ⟨rfl, rfl, rfl, Nat.le_refl _, fun _ _ _ _ => rfl, fun _ h => .inl h⟩
theorem Kr.ext {p : Nat} {v0 v : Value} {a b c : World} (h : Kr p v0 v a b) (hb : Below b.heap.size b c) : Kr p v0 v a c :=
 ⟨hb.os.trans h.os, hb.tape.trans h.tape, hb.output.trans h.output, Nat.le_trans h.sz hb.size, fun k h1 h2 h3 => (hb.block k (Nat.lt_of_lt_of_le h1 h.sz)).trans (h.old k h1 h2 h3), h.at9⟩
theorem Kr.grow {p : Nat} {v0 v v' : Value} {a b c : World} (h : Kr p v0 v a b) {A : Obj} (hg : (b.alloc A).grownBy c v.ownBlock) (hat : v'.ownBlock = v.ownBlock ∨ v'.ownBlock = some (b.alloc A).heap.size) (o : Nat) (u : Value) : Kr p v0 v' a (c.setCell ⟨p, o, none⟩ u) := by
 have hs := h.sz
 have h1 : (b.alloc A).heap.size = b.heap.size + 1 := by simp
 have hsz := hg.size
 refine ⟨hg.os.trans h.os, hg.tape.trans h.tape, hg.output.trans h.output, by rw [World.size_setCell]; omega, fun k k1 k2 k3 => ?_, fun k hk => ?_⟩
 ·rw [heap_setCell_other _ _ _ _ k2]
  refine (hg.block k (by omega) fun e => ?_).trans ((Below.heap_alloc b A k (by omega)).trans (h.old k k1 k2 k3))
  rcases h.at9 k e.symm with h9 | h9
  ·exact k3 h9
  ·omega
 ·rcases hat with e | e
  ·exact h.at9 k (e ▸ hk)
  ·right; rw [e] at hk; injection hk with hk; omega
set_option maxRecDepth 1000000 in
set_option maxHeartbeats 60000000 in
theorem cut_s7 (w W3 WA : World) (x p b r6 base : Nat) (lits : Int) (vFo vBe vOl vRu vFa0 : Value) (rs : List Rule) (vs : Nat → Value) (fa0 : List Int) (Ac Af : Option Addr) (cc cf : Nat) (T : Th) (cone F D E : List Int) (hn4 : T.foes.length ≤ 4096) (hb1 : Below w.heap.size w W3) (hfr : RcI w Af F) (hF : ∀ q ∈ F, 0 ≤ q ∧ q < T.foes.length) (hFl : F.length ≤ 4096) (hfa : fa0.length ≤ 4096)
  (him : IM W3 b D) (hE : D = cone ++ E) (hbp : b ≠ p) (hwp : w.heap.size ≤ p) (hbase : base = W3.heap.size)
  (hpb : PB WA base p lits vFo vBe vOl vRu vFa0 rs vs fa0) (hkp : Kp p W3 WA) (f : Nat → Value) (K : Act → World → Prop) (Q' : Exit → Act → World → Prop)
  (hK : ∀ (t : Array Value) (w' : World) (vFa : Value), LC t x p b r6 (.slice Ac cone.length cc) (.slice Af F.length cf) → PB w' base p lits vFo vBe vOl vRu vFa rs vs (fa0 ++ inFacts D cone F) → Kr p vFa0 vFa WA w' → K ⟨t, []⟩ w') :
  Code.wp Tryz.prog cutSeg7 (Exit.then K Q') ⟨#[.pointer (some ⟨x, 0, none⟩), .slice Ac cone.length cc, .slice Af F.length cf, (f 3), (f 4), (f 5), .pointer (some ⟨r6, 0, none⟩), .map (some b), .pointer (some ⟨p, 0, none⟩), (f 9), (f 10), (f 11), (f 12), (f 13), (f 14), (f 15), (f 16), (f 17), (f 18), (f 19), (f 20), (f 21), (f 22), (f 23), (f 24), (f 25), (f 26), (f 27), (f 28), (f 29), (f 30), (f 31), (f 32), (f 33), (f 34), (f 35), (f 36), (f 37), (f 38), (f 39), (f 40), (f 41), (f 42), (f 43), (f 44), (f 45), (f 46), (f 47), (f 48), (f 49), (f 50), (f 51), (f 52), (f 53), (f 54), (f 55), (f 56), (f 57), (f 58), (f 59), (f 60), (f 61), (f 62), (f 63), (f 64), (f 65), (f 66), (f 67), (f 68), (f 69), (f 70), (f 71), (f 72), (f 73), (f 74), (f 75), (f 76), (f 77), (f 78), (f 79), (f 80), (f 81), (f 82), (f 83), (f 84), (f 85), (f 86), (f 87), (f 88), (f 89), (f 90), (f 91), (f 92), (f 93), (f 94), (f 95), (f 96), (f 97), (f 98), (f 99), (f 100), (f 101), (f 102), (f 103), (f 104), (f 105), (f 106), (f 107), (f 108), (f 109), (f 110), (f 111), (f 112), (f 113), (f 114), (f 115), (f 116), (f 117), (f 118), (f 119), (f 120), (f 121), (f 122), (f 123), (f 124), (f 125), (f 126), (f 127), (f 128), (f 129), (f 130), (f 131), (f 132), (f 133), (f 134), (f 135), (f 136), (f 137), (f 138), (f 139), (f 140), (f 141), (f 142), (f 143), (f 144), (f 145), (f 146), (f 147), (f 148), (f 149), (f 150), (f 151), (f 152), (f 153), (f 154), (f 155), (f 156), (f 157), (f 158), (f 159), (f 160), (f 161), (f 162), (f 163), (f 164), (f 165), (f 166), (f 167), (f 168), (f 169), (f 170), (f 171), (f 172), (f 173), (f 174), (f 175), (f 176), (f 177), (f 178), (f 179), (f 180), (f 181), (f 182), (f 183), (f 184), (f 185), (f 186), (f 187), (f 188), (f 189), (f 190), (f 191), (f 192), (f 193), (f 194), (f 195), (f 196), (f 197), (f 198), (f 199), (f 200), (f 201), (f 202), (f 203), (f 204), (f 205), (f 206), (f 207), (f 208), (f 209), (f 210), (f 211), (f 212), (f 213), (f 214), (f 215), (f 216), (f 217), (f 218), (f 219), (f 220), (f 221), (f 222), (f 223), (f 224), (f 225), (f 226), (f 227), (f 228), (f 229), (f 230), (f 231), (f 232), (f 233), (f 234), (f 235), (f 236), (f 237), (f 238), (f 239), (f 240), (f 241), (f 242), (f 243), (f 244), (f 245), (f 246)], []⟩ WA := by
 have HK := hid hK
 have Hfr := hid hfr
 have HF := hid hF
 have Hb1 := hid hb1
 have Hpb := hid hpb
 have Hkp := hid hkp
 have Hwp := hid hwp
 have Hba := hid hbase
 have HE := hid hE
 have Hin : Hid (∀ W : World, Kp p W3 W → IM W b D) := hid fun W hW => him.keep (hW.old b him.lt hbp)
 obtain ⟨i0, hi, hz0, hz1, hz2⟩ := info_parts infoI
 have hf4 : (T.foes.length : Int) ≤ 4096 := by omega
 clear hK hfr hF hb1 him hpb hkp hwp hbp hbase hE
 conv => arg 2; whnf
 go_wp2
 go_loopw [219] (fun v219 wr => ∃ k : Nat, k ≤ F.length ∧ v219 = .int .i64 (k : Int) ∧ ∃ vFa, PB wr base p lits vFo vBe vOl vRu vFa rs vs (fa0 ++ inFacts D cone (F.take k)) ∧ Kr p vFa0 vFa WA wr) (fun v219 _ => F.length - (intOf v219).toNat)
 case atStart => exact ⟨0, Nat.zero_le _, rfl, vFa0, by simpa [inFacts] using Hpb.out, Kr.refl _ _ _⟩
 case round =>
  obtain ⟨k, hk, rfl, vFa, hpb, hkr⟩ := hrel
  by_cases hlt : k < F.length
  ·have hkp : Kp p W3 wr := ⟨hkr.os.trans Hkp.out.os, hkr.tape.trans Hkp.out.tape, hkr.output.trans Hkp.out.output, Nat.le_trans Hkp.out.sz hkr.sz, fun j h1 h2 => (hkr.old j (Nat.lt_of_lt_of_le h1 Hkp.out.sz) h2 (fun e => by have := (Hpb.out.fa.lt _ e).1; have := Hba.out; omega)).trans (Hkp.out.old j h1 h2)⟩
   have hlow := hkp.lows Hb1.out Hwp.out
   obtain ⟨adF, rfl, hcf⟩ := (Hfr.out.ext (scR_mono _) hlow).at1 hlt
   have hqw : (Lit.int .i64 F[k]).wf = true := idx_wf (HF.out _ (List.getElem_mem hlt)) hf4
   have hlk := (Hin.out wr hkp).lookok hqw
   have Hsu := hid (inFacts_succ (D := D) (cone := cone) hlt)
   have hfl9 := inFacts_le D cone (F.take k)
   rw [List.length_take] at hfl9
   have hlen : (fa0 ++ inFacts D cone (F.take k)).length ≤ 100000 := by rw [List.length_append]; omega
   have HP := hid hpb
   have HKr := hid hkr
   have hbs : base ≤ wr.heap.size := by have := hkp.sz; have := Hba.out; omega
   clear hpb hkr hlow
   generalize F[k] = q at *
   by_cases hco : q ∈ cone
   ·have hin : q ∈ D := by rw [HE.out]; exact List.mem_append_left _ hco
    have hix : D.idxOf q < cone.length := by rw [HE.out]; exact idx_in hco
    rw [if_pos hin] at hlk
    rw [if_pos (memB_true.2 hco)] at Hsu
    have Hix : Hid (ixD D q = ((D.idxOf q : Nat) : Int)) := hid (by unfold ixD; rw [if_pos hin])
    have hpl := lt_of_block HP.out.box
    have c4 : wr.cell? ⟨p, 4, none⟩ = some vFa := by rw [cell_of_row wr p 4 _ _ _ HP.out.box]; rfl
    have Haft : Hid (∀ (cA : Obj) (w' : World), (wr.alloc cA).grownBy w' vFa.ownBlock → w'.frozen? ⟨p, 4, none⟩ = false ∧ w'.cell? ⟨p, 4, none⟩ = some vFa) := hid fun cA w' hg => by
     have h9 := (hg.block p (by simp; omega) (fun e => by have := (HP.out.fa.lt _ e.symm).1; have := HP.out.lo; omega)).trans ((Below.heap_alloc _ _ _ hpl).trans HP.out.box)
     exact ⟨frozen_of_row w' p 4 _ _ h9, by rw [cell_of_row w' p 4 _ _ _ h9]; rfl⟩
    obtain ⟨Aa, ca, rfl⟩ : ∃ A c, vFa = .slice A (fa0 ++ inFacts D cone (F.take k)).length c := own_form0 HP.out.fa
    clear hin hco hfl9
    generalize hLn : (fa0 ++ inFacts D cone (F.take k)).length = Ln at *
    have HLn := hid hLn
    clear hLn
    generalize D.idxOf q = ih at *
    have hgi : (ih : Int) < (cone.length : Int) := by omega
    have hfa9 : wr.ownsRow base 3 1 (.slice Aa Ln ca) Ln (intsV (fa0 ++ inFacts D cone (F.take k))) := by have := HP.out.fa; rw [HLn.out] at this; exact this
    have Hfa9 := hid hfa9
    clear hfa9
    go_wp2_with (at_builtin; refine wpList_append_own_at _ rfl _ _ 36 rfl base 3 i0 (.int .i64 0) 1 8 Tryz.underlying36 hi hz0 hz1 hz2 rfl (by decide) _ Ln _ rfl (Hfa9.out.alloc _) ⟨wr.heap.size, 0, none⟩ 1 1 [.int .i64 (ih : Int)] rfl rfl (cell_one_new _ _ _) (fun u hu => by simp at hu; subst hu; rfl) (by unfold maxLen; omega) (by omega) (by simp; omega) ?_; intro v' w' hown hgrow hnil hat; obtain ⟨gn, cn, rfl⟩ := own_form hown; obtain ⟨hqF, hq2⟩ := Haft.out _ w' hgrow)
    rw [← HLn.out] at hown
    have hp9 := HP.out.pushF hbs hgrow hown hat
    have hk9 := HKr.out.grow hgrow hat 4 (.slice (some ⟨gn, 0, none⟩) ((fa0 ++ inFacts D cone (F.take k)).length + 1) cn)
    rw [HLn.out] at hp9 hk9
    have Hp9 := hid hp9
    have HK9 := hid hk9
    clear hp9 hk9 hown hgrow hnil hat hqF hq2
    go_roundw
    case rel =>
     have h9 := Hp9.out
     rw [List.append_assoc, ← Hix.out, ← Hsu.out] at h9
     exact ⟨k + 1, by omega, by go_num, _, h9, HK9.out⟩
    case measure => simp [intOf]; omega
   ·rw [if_neg (fun h => hco (memB_true.1 h)), List.append_nil] at Hsu
    have hix : q ∈ D → cone.length ≤ D.idxOf q := fun _ => by rw [HE.out]; exact idx_out hco
    by_cases hin : q ∈ D
    ·rw [if_pos hin] at hlk
     have hix := hix hin
     clear hin hco
     generalize D.idxOf q = ih at *
     have hgi : ¬ (ih : Int) < (cone.length : Int) := by omega
     go_wp2
     go_roundw
     case rel =>
      have h9 := HP.out
      rw [← Hsu.out] at h9
      exact ⟨k + 1, by omega, by go_num, _, h9, HKr.out⟩
     case measure => simp [intOf]; omega
    ·rw [if_neg hin] at hlk
     clear hin hco hix
     go_wp2
     go_roundw
     case rel =>
      have h9 := HP.out
      rw [← Hsu.out] at h9
      exact ⟨k + 1, by omega, by go_num, _, h9, HKr.out⟩
     case measure => simp [intOf]; omega
  ·obtain rfl : k = F.length := by omega
   rw [List.take_length] at hpb
   have HP := hid hpb
   have HKr := hid hkr
   clear hpb hkr
   go_wp2
   exact HK.out _ _ _ ⟨rfl, rfl, rfl, rfl, rfl, rfl, rfl⟩ HP.out HKr.out
end Go.Proofs.Lx
