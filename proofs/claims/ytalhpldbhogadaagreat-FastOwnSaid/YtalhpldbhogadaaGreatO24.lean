/- Parts of the proof: Fo, Fx, Fy. pair: the first loop. Printed by gen_pair.py. No condition. -/
import Derived.Test.YtalhpldbhogadaaGreatO23
import Derived.Deep.DeepCutAuto
import Derived.Deep.RegionHeld3
namespace Go.Proofs.Lx
open Go Go.RowKit Go.Proofs.Tj
set_option linter.unusedSimpArgs false
set_option linter.unusedVariables false

theorem mapNil1 (b : Nat) (W : World) : Sem.run Tryz.prog (binOp BinOp.eql 201 (.map (some b)) (.map none)) W = .ok (.bool false) W := by kernel_rfl
theorem mapNil2 (W : World) : Sem.run Tryz.prog (binOp BinOp.eql 201 (.map none) (.map none)) W = .ok (.bool true) W := by kernel_rfl
theorem updMap (mb : Nat → Option Nat) (q : Nat) (z : Option Nat) : Tj.upd (fun q => Value.map (mb q)) q (.map z) = fun j => Value.map (Tj.upd mb q z j) := by
 funext j
 unfold Tj.upd
 by_cases e : j = q
 ·rw [if_pos e, if_pos e]
 ·rw [if_neg e, if_neg e]
def pr1 (D : Dyn) (s : Nat) (X : PX) (q : Nat) : PX := if D.backs q = 0 then X else addP q s X
def prs (S : Stc) (D : Dyn) (X : PX) (s : Nat) : PX := (S.foes (S.head s)).foldl (pr1 D s) X
def prAll (S : Stc) (D : Dyn) (X : PX) (k : Nat) : PX := (List.range k).foldl (prs S D) X
theorem pr1_le (D : Dyn) (s : Nat) (X : PX) (q : Nat) : X.P ≤ (pr1 D s X q).P := by unfold pr1; split; exact Nat.le_refl _; exact Nat.le_succ _
theorem foldl_le {α : Type} (f : PX → α → PX) (hf : ∀ X a, X.P ≤ (f X a).P) : ∀ (l : List α) (X : PX), X.P ≤ (l.foldl f X).P
 | [], X => Nat.le_refl _
 | a :: l, X => Nat.le_trans (hf X a) (foldl_le f hf l (f X a))
theorem prs_le (S : Stc) (D : Dyn) (X : PX) (s : Nat) : X.P ≤ (prs S D X s).P := foldl_le _ (fun X q => pr1_le D s X q) _ X
theorem take_le {α : Type} (f : PX → α → PX) (hf : ∀ X a, X.P ≤ (f X a).P) (l : List α) (X : PX) (j : Nat) : ((l.take j).foldl f X).P ≤ (l.foldl f X).P := by
 conv => rhs; rw [← List.take_append_drop j l, List.foldl_append]
 exact foldl_le f hf _ _
theorem prAll_mono (S : Stc) (D : Dyn) (X : PX) {k m : Nat} (h : k ≤ m) : (prAll S D X k).P ≤ (prAll S D X m).P := by
 unfold prAll
 have e : List.range k = (List.range m).take k := by rw [List.take_range, Nat.min_eq_left h]
 rw [e]; exact take_le _ (fun X s => prs_le S D X s) _ _ _
def OfL (X : PX) : Prop := ∀ s, (X.ofs s).length ≤ X.P
theorem OfL.pr1 {D : Dyn} {s q : Nat} {X : PX} (h : OfL X) : OfL (pr1 D s X q) := by
 unfold Lx.pr1; split
 ·exact h
 ·intro r
  show (Tj.upd X.ofs s (X.ofs s ++ [X.P]) r).length ≤ X.P + 1
  by_cases e : r = s
  ·rw [e, Tj.upd_same, List.length_append]; have := h s; simp; omega
  ·rw [Tj.upd_ne e]; have := h r; omega
theorem OfL.foldl {α : Type} {f : PX → α → PX} (hf : ∀ X a, OfL X → OfL (f X a)) : ∀ (l : List α) (X : PX), OfL X → OfL (l.foldl f X)
 | [], X, h => h
 | a :: l, X, h => OfL.foldl hf l (f X a) (hf X a h)
theorem OfL.prs {S : Stc} {D : Dyn} {s : Nat} {X : PX} (h : OfL X) : OfL (prs S D X s) := OfL.foldl (fun X q h => h.pr1) _ X h
theorem OfL.prAll {S : Stc} {D : Dyn} {k : Nat} {X : PX} (h : OfL X) : OfL (prAll S D X k) := OfL.foldl (fun X q h => h.prs) _ X h
theorem range_foldl_px (S : Stc) (D : Dyn) (X : PX) (k : Nat) : prAll S D X (k + 1) = prs S D (prAll S D X k) k := by unfold prAll; rw [List.range_succ, List.foldl_append]; rfl
theorem take_foldl_px (D : Dyn) (s : Nat) (X : PX) (l : List Nat) (k : Nat) (h : k < l.length) : (l.take (k + 1)).foldl (pr1 D s) X = pr1 D s ((l.take k).foldl (pr1 D s) X) l[k] := by rw [List.take_add_one, List.getElem?_eq_getElem h, List.foldl_append]; rfl
set_option maxRecDepth 1000000 in
set_option maxHeartbeats 60000000 in
theorem pair_s1 (w W0 : World) (b : Nat) (g : Key → Nat) (vF vR : Value) (ga : Nat) (S : Stc) (T : Th) (D : Dyn) (X0 : PX) (h : PAt w W0 b g vF vR ga S T D X0 none) (hPt : (prAll S D X0 S.m).P ≤ 65536) (hok : OfL X0) (hsl : ∀ p, D.settled p = false ∧ D.left p = 0)
  (f : Nat → Value) (K : Act → World → Prop) (Q' : Exit → Act → World → Prop)
  (hK : ∀ (t : Array Value) (w' : World), t.size = 177 → t[0]? = some (.pointer (some ⟨b, 0, none⟩)) → t[2]? = some (sl ga S.n) → PAt w' W0 b g vF vR ga S T D (prAll S D X0 S.m) none → K ⟨t, []⟩ w') :
  Code.wp Tryz.prog pairSeg1 (Exit.then K Q') ⟨#[.pointer (some ⟨b, 0, none⟩), (f 1), sl ga S.n, (f 3), (f 4), (f 5), (f 6), (f 7), (f 8), (f 9), (f 10), (f 11), (f 12), (f 13), (f 14), (f 15), (f 16), (f 17), (f 18), (f 19), (f 20), (f 21), (f 22), (f 23), (f 24), (f 25), (f 26), (f 27), (f 28), (f 29), (f 30), (f 31), (f 32), (f 33), (f 34), (f 35), (f 36), (f 37), (f 38), (f 39), (f 40), (f 41), (f 42), (f 43), (f 44), (f 45), (f 46), (f 47), (f 48), (f 49), (f 50), (f 51), (f 52), (f 53), (f 54), (f 55), (f 56), (f 57), (f 58), (f 59), (f 60), (f 61), (f 62), (f 63), (f 64), (f 65), (f 66), (f 67), (f 68), (f 69), (f 70), (f 71), (f 72), (f 73), (f 74), (f 75), (f 76), (f 77), (f 78), (f 79), (f 80), (f 81), (f 82), (f 83), (f 84), (f 85), (f 86), (f 87), (f 88), (f 89), (f 90), (f 91), (f 92), (f 93), (f 94), (f 95), (f 96), (f 97), (f 98), (f 99), (f 100), (f 101), (f 102), (f 103), (f 104), (f 105), (f 106), (f 107), (f 108), (f 109), (f 110), (f 111), (f 112), (f 113), (f 114), (f 115), (f 116), (f 117), (f 118), (f 119), (f 120), (f 121), (f 122), (f 123), (f 124), (f 125), (f 126), (f 127), (f 128), (f 129), (f 130), (f 131), (f 132), (f 133), (f 134), (f 135), (f 136), (f 137), (f 138), (f 139), (f 140), (f 141), (f 142), (f 143), (f 144), (f 145), (f 146), (f 147), (f 148), (f 149), (f 150), (f 151), (f 152), (f 153), (f 154), (f 155), (f 156), (f 157), (f 158), (f 159), (f 160), (f 161), (f 162), (f 163), (f 164), (f 165), (f 166), (f 167), (f 168), (f 169), (f 170), (f 171), (f 172), (f 173), (f 174), (f 175), (f 176)], []⟩ w := by
 have HK := hid hK
 have H0 := hid h
 obtain ⟨vB, vP, vin, vof, vbe, l, mb, vT, h, hM, _⟩ := h
 have Hm : Hid (T.rules.length = S.m) := hid h.st.m
 have Hn : Hid (T.foes.length = S.n) := hid h.st.n
 have hn4 : S.n ≤ 4096 := h.st.n4
 have hm4 : S.m ≤ 4096 := h.st.m4
 have Hhdn : Hid (∀ r, r < S.m → S.head r < S.n) := hid h.st.hdn
 have Hfon : Hid (∀ q, q < S.n → ∀ f ∈ S.foes q, f < S.n) := hid h.st.fon
 obtain ⟨AR, cR, rfl⟩ : ∃ A c, vR = .slice A S.m c := by
  obtain ⟨A, c, e, _⟩ := h.rR
  exact ⟨A, c, by rw [← Hm.out]; exact e⟩
 obtain ⟨AF, cF, rfl⟩ : ∃ A c, vF = .slice A S.n c := by
  obtain ⟨A, c, e, _⟩ := h.rF
  exact ⟨A, c, by rw [← Hn.out]; exact e⟩
 have e2 := h.hR
 have HPt := hid hPt
 have Hok := hid hok
 have Hsl := hid hsl
 clear hK h hM hPt hok hsl
 conv => arg 2; whnf
 go_wp2
 clear e2
 go_loopw [24] (fun v24 wr => ∃ k : Nat, k ≤ S.m ∧ v24 = .int .i64 k ∧ PAt wr W0 b g (.slice AF S.n cF) (.slice AR S.m cR) ga S T D (prAll S D X0 k) none) (fun v24 _ => S.m - (intOf v24).toNat)
 case atStart => exact ⟨0, Nat.zero_le _, rfl, H0.out⟩
 case round =>
  obtain ⟨k, hk, rfl, hla⟩ := hrel
  by_cases hlt : k < S.m
  ·obtain ⟨vB, vP, vin, vof, vbe, l, mb, vT, h, hM, _⟩ := hla
   have HM := hid hM
   have Hs := hid (range_foldl_px S D X0 k)
   have Hle := hid (prAll_mono S D X0 (show k + 1 ≤ S.m by omega))
   rw [Hs.out] at Hle
   have Hokk : Hid (OfL (prAll S D X0 k)) := hid Hok.out.prAll
   generalize prAll S D X0 k = Xk at *
   obtain ⟨gR, B, c1, c2, eR, kk⟩ := h.rule (show k < (Xk.S S).m from hlt)
   cases eR
   obtain ⟨k0, k1, k2⟩ := kk wr h.sp.old
   have hhd := Hhdn.out k hlt
   obtain ⟨kd, Hkd⟩ : ∃ kd, Hid (S.kind k = kd) := ⟨_, hid rfl⟩
   obtain ⟨hd, Hhd⟩ : ∃ hd, Hid (S.head k = hd) := ⟨_, hid rfl⟩
   obtain ⟨bl, Hbl⟩ : ∃ bl, Hid (S.bodyLen k = bl) := ⟨_, hid rfl⟩
   rw [show (Xk.S S).kind k = kd from Hkd.out] at k0
   rw [show (Xk.S S).head k = hd from Hhd.out] at k1
   rw [Hhd.out] at hhd
   rw [show (Xk.S S).bodyLen k = bl from Hbl.out] at k2
   obtain ⟨gF, BF, c3, c4, eF, kf, hfl, kff⟩ := h.foes (show hd < (Xk.S S).n from hhd)
   cases eF
   have Hfok := hid (Hfon.out hd hhd)
   have Hprs : Hid (prs S D Xk k = (S.foes hd).foldl (pr1 D k) Xk) := hid (by unfold prs; rw [Hhd.out])
   have efo : (Xk.S S).foes hd = S.foes hd := rfl
   rw [efo] at hfl
   have Kf : Hid (∀ w', Below W0.heap.size W0 w' → w'.cell? (gF.add hd) = some (.slice BF (S.foes hd).length c4)) := hid kf
   have Kff : Hid (∀ i (hi : i < (S.foes hd).length), ∃ ad, BF = some ad ∧ ∀ w', Below W0.heap.size W0 w' → w'.cell? (ad.add i) = some (.int .i64 ((S.foes hd)[i] : Int))) := hid kff
   clear kf kff efo
   generalize S.foes hd = fo at *
   have h1 := h.addX2l rfl (.cells #[.int .i64 kd, .int .i64 (hd : Int), .slice B bl c2] 75)
   have hz := h1.inX2 rfl (List.mem_cons_self)
   have H1 := hid h1
   have HM1 := hid (HM.out.more (wr.heap.size, .cells #[.int .i64 kd, .int .i64 (hd : Int), .slice B bl c2] 75))
   have x21 : (wr.alloc (.cells #[.int .i64 kd, .int .i64 (hd : Int), .slice B bl c2] 75)).cell? ⟨wr.heap.size, 1, none⟩ = some (.int .i64 (hd : Int)) := cell_of_row _ _ 1 _ _ _ hz
   have e1 := h1.hF
   have kf1 := Kf.out _ h1.sp.old
   clear h h1 hz kk
   go_wp2
   clear k0 k1 k2
   go_quiet (fail)
   have H2 := hid (H1.out.drewN nq)
   generalize (wr.alloc (.cells #[.int .i64 kd, .int .i64 (hd : Int), .slice B bl c2] 75)).drewN nq = w2 at *
   clear x21 e1 kf1
   go_wp2
   go_loopw [39] (fun v39 wr => ∃ j : Nat, j ≤ fo.length ∧ v39 = .int .i64 j ∧ PAt wr W0 b g (.slice (some gF) S.n cF) (.slice (some gR) S.m cR) ga S T D ((fo.take j).foldl (pr1 D k) Xk) none) (fun v39 _ => fo.length - (intOf v39).toNat)
   case atStart => exact ⟨0, Nat.zero_le _, rfl, _, _, _, _, _, _, _, _, H2.out, HM1.out, fun z e => by cases e⟩
   case round =>
    obtain ⟨j, hj, rfl, hla⟩ := hrel
    by_cases hjl : j < fo.length
    ·obtain ⟨vB3, vP3, vin3, vof3, vbe3, l3, mb3, vT3, h3, hM3, _⟩ := hla
     have Hsj := hid (take_foldl_px D k Xk fo j hjl)
     have HlP : Hid (((fo.take j).foldl (pr1 D k) Xk).P ≤ 65536) := hid (by
      have e1 := take_le (pr1 D k) (fun X q => pr1_le D k X q) fo Xk j
      have e2 := Hle.out
      rw [Hprs.out] at e2
      have e3 := HPt.out
      omega)
     have Hol3 : Hid (OfL ((fo.take j).foldl (pr1 D k) Xk)) := hid (OfL.foldl (fun X q h => h.pr1) _ _ Hokk.out)
     generalize (fo.take j).foldl (pr1 D k) Xk = X3 at *
     obtain ⟨ad, rfl, kc⟩ := Kff.out j hjl
     have c := kc wr h3.sp.old
     obtain ⟨q, Hq⟩ : ∃ q, Hid (fo[j] = q) := ⟨_, hid rfl⟩
     have hqn : q < S.n := by rw [← Hq.out]; exact Hfok.out _ (List.getElem_mem hjl)
     rw [Hq.out] at c Hsj
     have e15 : wr.cell? ⟨b, 15, none⟩ = some (sl (g .backs) S.n) := h3.hBacks
     have c15 : wr.cell? ⟨g .backs, q, none⟩ = some (.int .i64 (D.backs q)) := h3.rBacks hqn
     obtain ⟨ca, fa⟩ := h3.readX1g rfl hqn
     have H3 := hid h3
     have HM3 := hid hM3
     have hgab : ga ≠ b := h3.sp.far .x1 ga rfl
     have hzl : ga < wr.heap.size := (Cont.ok_lt (h3.sp.ok .x1) (show (contE _ _ _ _ .x1).fp ga from rfl)).2
     clear h3 hM3 kc
     obtain ⟨bq, Hbq⟩ : ∃ bq, Hid (D.backs q = bq) := ⟨_, hid rfl⟩
     rw [Hbq.out] at c15
     by_cases hb0 : bq = 0
     ·have Hp : Hid (pr1 D k X3 q = X3) := hid (by unfold pr1; rw [if_pos (by rw [Hbq.out]; exact hb0)])
      subst hb0
      go_wp2
      go_roundw
      case rel =>
       refine ⟨j + 1, by omega, by go_num, ?_⟩
       rw [Hsj.out, Hp.out]
       exact ⟨_, _, _, _, _, _, _, _, H3.out, HM3.out, fun z e => by cases e⟩
      case measure => simp [intOf]; omega
     ·have hme1 := mapNil1
      have hme2 := mapNil2
      have Hp : Hid (pr1 D k X3 q = addP q k X3) := hid (by unfold pr1; rw [if_neg (by rw [Hbq.out]; exact hb0)])
      cases hmq : mb3 q with
      | some bm =>
       rw [hmq] at ca
       go_wp2
       refine pairRest wr W0 b g _ _ ga S T D X3 _ _ _ _ _ _ mb3 _ H3.out HM3.out q k bm hqn hlt hmq HlP.out (Hol3.out k) (Hsl.out _).1 (Hsl.out _).2 _ _ (by assumption) _ _ _ _ _ _ _ _ _ _ _ _ _ _ _ _ _ _ _ _ _ _ _ _ _ _ _ _ _ _ _ _ _ _ _ _ _ _ _ _ _ _ _ _ _ _ _ _ _ _ _ _ _ _ _ _ _ _ _ _ _ _ _ _ _ _ _ _ _ _ _ _ _ _ _ _ _ _ _ _ _ _ _ _ _ _ _ _ _ _ _ _ _ _ _ _ _ _ _ _ _ _ _ _ _ _ _ _ _ _ _ _ _ _ _ _ _ _ _ _ _ _ _ _ _ _ _ _ _ _ _ _ _ _ _ _ _ _ _ _ _ _ _ _ _ _ _ _ _ _ _ _ _ _ _ _ _ _ _ _ _ _ _ _ _ _ _ _ _ _ _ _ _ ?_
       intro y60 y61 y62 y63 y64 y65 y66 y67 y68 y69 y70 y71 y72 y73 y74 y75 y76 y77 y78 y79 y80 y81 y82 y83 y84 y85 y86 y87 y88 y89 y90 y91 y92 y93 y94 y95 y96 y97 y98 y99 y100 y101 y102 y103 y104 y105 y106 y107 y108 y109 y110 w5 h5
       have H5 := hid h5
       clear h5
       go_wp2
       go_roundw
       case rel =>
        refine ⟨j + 1, by omega, by go_num, ?_⟩
        rw [Hsj.out, Hp.out]
        exact H5.out
       case measure => simp [intOf]; omega
      | none =>
       rw [hmq] at ca
       have hmm := @run_makeMap Tryz.prog
       have h4 := (H3.out.writeX1g rfl q (.map (some wr.heap.size))).addX2l rfl (.map #[] 0)
       rw [updMap, show (wr.setCell ⟨ga, q, none⟩ (.map (some wr.heap.size))).heap.size = wr.heap.size by simp] at h4
       have H4 := hid h4
       clear h4
       have hzn : ∀ o, (wr.heap.size, o) ∉ l3 := fun o hm => absurd (lt_of_obj (H3.out.inX2 rfl hm)) (Nat.lt_irrefl _)
       have HM4 := hid (HM3.out.make hqn hmq hzn)
       have ca4 : (wr.alloc (.map #[] 0)).cell? ⟨ga, q, none⟩ = some (.map none) := cell_ext (ext_alloc wr _) ca
       have fa4 : (wr.alloc (.map #[] 0)).frozen? ⟨ga, q, none⟩ = false := ((H3.out.addX2l rfl (.map #[] 0)).readX1g rfl hqn).2
       have hst : ∀ (a : Addr) (m : Option Nat) (W : World), Sem.run Tryz.prog (store a (.map m) .plain) W = stored Tryz.prog W a (.map m) .plain := fun a m W => run_store Tryz.prog W a _ _ rfl
       clear hzn
       go_wp2
       refine pairRest _ W0 b g _ _ ga S T D X3 _ _ _ _ _ _ _ _ H4.out HM4.out q k wr.heap.size hqn hlt (Tj.upd_same _ _ _) HlP.out (Hol3.out k) (Hsl.out _).1 (Hsl.out _).2 _ _ (by assumption) _ _ _ _ _ _ _ _ _ _ _ _ _ _ _ _ _ _ _ _ _ _ _ _ _ _ _ _ _ _ _ _ _ _ _ _ _ _ _ _ _ _ _ _ _ _ _ _ _ _ _ _ _ _ _ _ _ _ _ _ _ _ _ _ _ _ _ _ _ _ _ _ _ _ _ _ _ _ _ _ _ _ _ _ _ _ _ _ _ _ _ _ _ _ _ _ _ _ _ _ _ _ _ _ _ _ _ _ _ _ _ _ _ _ _ _ _ _ _ _ _ _ _ _ _ _ _ _ _ _ _ _ _ _ _ _ _ _ _ _ _ _ _ _ _ _ _ _ _ _ _ _ _ _ _ _ _ _ _ _ _ _ _ _ _ _ _ _ _ _ _ _ _ ?_
       intro y60 y61 y62 y63 y64 y65 y66 y67 y68 y69 y70 y71 y72 y73 y74 y75 y76 y77 y78 y79 y80 y81 y82 y83 y84 y85 y86 y87 y88 y89 y90 y91 y92 y93 y94 y95 y96 y97 y98 y99 y100 y101 y102 y103 y104 y105 y106 y107 y108 y109 y110 w5 h5
       have H5 := hid h5
       clear h5
       go_wp2
       go_roundw
       case rel =>
        refine ⟨j + 1, by omega, by go_num, ?_⟩
        rw [Hsj.out, Hp.out]
        exact H5.out
       case measure => simp [intOf]; omega
    ·obtain rfl : j = fo.length := by omega
     rw [List.take_length] at hla
     have hla2 := hid hla
     clear hla
     go_wp2
     go_roundw
     case rel =>
      refine ⟨k + 1, by omega, by go_num, ?_⟩
      rw [Hs.out, Hprs.out]
      exact hla2.out
     case measure => simp [intOf]; omega
  ·obtain rfl : k = S.m := by omega
   have hla2 := hid hla
   clear hla
   go_wp2
   refine HK.out _ _ ?_ ?_ ?_ hla2.out
   ·rfl
   ·rfl
   ·rfl
end Go.Proofs.Lx

namespace Go.Proofs.Lx
open Go Go.RowKit Go.Proofs.Tj
set_option linter.unusedSimpArgs false
set_option linter.unusedVariables false

def btT (T : Th) (t : Nat) : List Nat := (T.beats.getD t []).map Int.toNat
structure PY where
 beats : Nat → List Nat
 left : Nat → Int
def PY.S (Y : PY) (S : Stc) : Stc := { S with beats := Y.beats }
def PY.D (Y : PY) (D : Dyn) : Dyn := { D with left := Y.left }
def bt1 (S : Stc) (A : Nat → Nat → Nat) (t : Nat) (Y : PY) (s : Nat) : PY := { beats := Tj.upd Y.beats t (Y.beats t ++ [A (S.head t) s]), left := Tj.upd Y.left (A (S.head t) s) (addW (Y.left (A (S.head t) s)) 1) }
def bts (S : Stc) (T : Th) (A : Nat → Nat → Nat) (Y : PY) (t : Nat) : PY := if supR S t = true then (btT T t).foldl (bt1 S A t) Y else Y
def btAll (S : Stc) (T : Th) (A : Nat → Nat → Nat) (Y : PY) (k : Nat) : PY := (List.range k).foldl (bts S T A) Y
theorem btAll_succ (S : Stc) (T : Th) (A : Nat → Nat → Nat) (Y : PY) (k : Nat) : btAll S T A Y (k + 1) = bts S T A (btAll S T A Y k) k := by unfold btAll; rw [List.range_succ, List.foldl_append]; rfl
theorem take_foldl_py (S : Stc) (A : Nat → Nat → Nat) (t : Nat) (Y : PY) (l : List Nat) (k : Nat) (h : k < l.length) : (l.take (k + 1)).foldl (bt1 S A t) Y = bt1 S A t ((l.take k).foldl (bt1 S A t) Y) l[k] := by rw [List.take_add_one, List.getElem?_eq_getElem h, List.foldl_append]; rfl
theorem bt1_len (S : Stc) (A : Nat → Nat → Nat) (t : Nat) : ∀ (l : List Nat) (Y : PY), ((l.foldl (bt1 S A t) Y).beats t).length = (Y.beats t).length + l.length
 | [], Y => by simp
 | x :: l, Y => by
  rw [List.foldl_cons, bt1_len S A t l]
  show (Tj.upd Y.beats t (Y.beats t ++ [_]) t).length + _ = _
  rw [Tj.upd_same]; simp; omega
theorem bt1_other (S : Stc) (A : Nat → Nat → Nat) {t r : Nat} (hr : r ≠ t) : ∀ (l : List Nat) (Y : PY), (l.foldl (bt1 S A t) Y).beats r = Y.beats r
 | [], Y => rfl
 | x :: l, Y => by
  rw [List.foldl_cons, bt1_other S A hr l]
  show Tj.upd Y.beats t _ r = _
  rw [Tj.upd_ne hr]
theorem btAll_nil (S : Stc) (T : Th) (A : Nat → Nat → Nat) (Y : PY) (h : ∀ t, Y.beats t = []) : ∀ k t, k ≤ t → (btAll S T A Y k).beats t = []
 | 0, t, _ => h t
 | k + 1, t, hk => by
  rw [btAll_succ]
  have h1 := btAll_nil S T A Y h k t (by omega)
  unfold bts; split
  ·rw [bt1_other S A (by omega)]; exact h1
  ·exact h1
/-- A row of the theory's beats. -/
theorem EngV.btRow {w W0 : World} {G : Gh} {S : Stc} {T : Th} {D : Dyn} {vT : Value} (h : EngV w W0 G S T D vT) {t : Nat} (hlt : t < T.beats.length) (hnn : ∀ x ∈ T.beats[t], 0 ≤ x) : ∃ (g : Addr) (B : Option Addr) (c1 c2 : Nat), G.vB = .slice (some g) T.beats.length c1 ∧ (∀ w', Below W0.heap.size W0 w' → w'.cell? (g.add t) = some (.slice B (btT T t).length c2)) ∧ (btT T t).length ≤ 140737488355328 ∧
  (∀ k (hk : k < (btT T t).length), ∃ ad, B = some ad ∧ ∀ w', Below W0.heap.size W0 w' → w'.cell? (ad.add k) = some (.int .i64 ((btT T t)[k] : Int))) := by
 obtain ⟨A, c1, e1, _, _, hr1⟩ := h.rB
 obtain ⟨ad, B, c, eA, k0, k1, k2, k3⟩ := hr1.atRow hlt
 subst eA
 have e : T.beats[t] = (btT T t).map fun (x : Nat) => (x : Int) := by
  have e : T.beats.getD t [] = T.beats[t] := by simp [hlt]
  unfold btT
  rw [e, List.map_map]
  apply List.ext_getElem
  ·simp
  ·intro i h1 h2
   have := hnn _ (List.getElem_mem h1)
   simp only [List.getElem_map, Function.comp]; omega
 rw [e] at k0 k2 k3
 simp only [List.length_map] at k0 k2
 exact ⟨ad, B, c1, c, e1, fun w' hb => cell_ext hb k0, k2, fun k hk => by
  obtain ⟨ad, e, c⟩ := natsRcI k3 hk
  exact ⟨ad, e, fun w' hb => cell_ext hb c⟩⟩
theorem lookNil (s : Int) (W : World) : (Instr.lookup 201 (.map none) (.int .i64 s) false).run Tryz.prog W = .ok (.int .i64 0) W := by kernel_rfl
def PBt (w W0 : World) (b : Nat) (g : Key → Nat) (vF vR vB : Value) (ga : Nat) (S : Stc) (T : Th) (D : Dyn) (X : PX) (Y : PY) (p : Option (Nat × Obj)) : Prop :=
 ∃ vP vin vof vbe l mb vT, EngV w W0 ⟨b, g, vF, vR, vB, vP, vin, vof, vbe, .arr (sl ga S.n) 201 1 S.n (tab S.n fun q => Value.map (mb q)), .blks l⟩ (Y.S (X.S S)) T (Y.D (X.D D)) vT ∧ MapsIn S.n l mb X.P X.A ∧ (∀ z, p = some z → z ∈ l)
set_option maxRecDepth 1000000 in
set_option maxHeartbeats 60000000 in
theorem pair_s2 (w W0 : World) (b : Nat) (g : Key → Nat) (vF vR vB : Value) (ga : Nat) (S : Stc) (T : Th) (D : Dyn) (X : PX) (Y0 : PY) (h : PBt w W0 b g vF vR vB ga S T D X Y0 none) (hP : X.P ≤ 65536)
  (hb0 : ∀ t, Y0.beats t = []) (hbt : ∀ t (ht : t < T.beats.length), ∀ x ∈ T.beats[t], 0 ≤ x) (hbl : ∀ t, (btT T t).length ≤ 4096) (hat : ∀ t, t < S.m → supR S t = true → ∀ s ∈ btT T t, s < S.m ∧ X.A (S.head t) s < X.P)
  (f : Nat → Value) (Q' : Exit → Act → World → Prop)
  (hK : ∀ (t : Array Value) (w' : World), PBt w' W0 b g vF vR vB ga S T D X (btAll S T X.A Y0 S.m) none → Q' .normal ⟨t, []⟩ w') :
  Code.wp Tryz.prog pairSeg2 Q' ⟨#[.pointer (some ⟨b, 0, none⟩), (f 1), sl ga S.n, (f 3), (f 4), (f 5), (f 6), (f 7), (f 8), (f 9), (f 10), (f 11), (f 12), (f 13), (f 14), (f 15), (f 16), (f 17), (f 18), (f 19), (f 20), (f 21), (f 22), (f 23), (f 24), (f 25), (f 26), (f 27), (f 28), (f 29), (f 30), (f 31), (f 32), (f 33), (f 34), (f 35), (f 36), (f 37), (f 38), (f 39), (f 40), (f 41), (f 42), (f 43), (f 44), (f 45), (f 46), (f 47), (f 48), (f 49), (f 50), (f 51), (f 52), (f 53), (f 54), (f 55), (f 56), (f 57), (f 58), (f 59), (f 60), (f 61), (f 62), (f 63), (f 64), (f 65), (f 66), (f 67), (f 68), (f 69), (f 70), (f 71), (f 72), (f 73), (f 74), (f 75), (f 76), (f 77), (f 78), (f 79), (f 80), (f 81), (f 82), (f 83), (f 84), (f 85), (f 86), (f 87), (f 88), (f 89), (f 90), (f 91), (f 92), (f 93), (f 94), (f 95), (f 96), (f 97), (f 98), (f 99), (f 100), (f 101), (f 102), (f 103), (f 104), (f 105), (f 106), (f 107), (f 108), (f 109), (f 110), (f 111), (f 112), (f 113), (f 114), (f 115), (f 116), (f 117), (f 118), (f 119), (f 120), (f 121), (f 122), (f 123), (f 124), (f 125), (f 126), (f 127), (f 128), (f 129), (f 130), (f 131), (f 132), (f 133), (f 134), (f 135), (f 136), (f 137), (f 138), (f 139), (f 140), (f 141), (f 142), (f 143), (f 144), (f 145), (f 146), (f 147), (f 148), (f 149), (f 150), (f 151), (f 152), (f 153), (f 154), (f 155), (f 156), (f 157), (f 158), (f 159), (f 160), (f 161), (f 162), (f 163), (f 164), (f 165), (f 166), (f 167), (f 168), (f 169), (f 170), (f 171), (f 172), (f 173), (f 174), (f 175), (f 176)], []⟩ w := by
 have HK := hid hK
 have H0 := hid h
 obtain ⟨vP, vin, vof, vbe, l, mb, vT, h, hM, _⟩ := h
 have Hm : Hid (T.rules.length = S.m) := hid h.st.m
 have Hbl0 : Hid (T.beats.length = S.m) := hid h.st.bl
 have hn4 : S.n ≤ 4096 := h.st.n4
 have hm4 : S.m ≤ 4096 := h.st.m4
 have Hhdn : Hid (∀ r, r < S.m → S.head r < S.n) := hid h.st.hdn
 obtain ⟨AR, cR, rfl⟩ : ∃ A c, vR = .slice A S.m c := by
  obtain ⟨A, c, e, _⟩ := h.rR
  exact ⟨A, c, by rw [← Hm.out]; exact e⟩
 obtain ⟨AB, cB, rfl⟩ : ∃ A c, vB = .slice A S.m c := by
  obtain ⟨A, c, e, _⟩ := h.rB
  exact ⟨A, c, by rw [← Hbl0.out]; exact e⟩
 have e2 := h.hR
 have Hb0 := hid (btAll_nil S T X.A Y0 hb0)
 have Hbt := hid hbt
 have Hbl := hid hbl
 have Hat := hid hat
 clear hK h hM hb0 hbt hbl hat
 conv => arg 2; whnf
 go_wp2
 clear e2
 go_loopw [119] (fun v119 wr => ∃ k : Nat, k ≤ S.m ∧ v119 = .int .i64 k ∧ PBt wr W0 b g vF (.slice AR S.m cR) (.slice AB S.m cB) ga S T D X (btAll S T X.A Y0 k) none) (fun v119 _ => S.m - (intOf v119).toNat)
 case atStart => exact ⟨0, Nat.zero_le _, rfl, H0.out⟩
 case round =>
  obtain ⟨k, hk, rfl, hla⟩ := hrel
  by_cases hlt : k < S.m
  ·obtain ⟨vP, vin, vof, vbe, l, mb, vT, h, hM, _⟩ := hla
   have HM := hid hM
   have Hs := hid (btAll_succ S T X.A Y0 k)
   have Hnil : Hid ((btAll S T X.A Y0 k).beats k = []) := hid (Hb0.out k k (Nat.le_refl _))
   generalize btAll S T X.A Y0 k = Yk at *
   obtain ⟨gR, B, c1, c2, eR, kk⟩ := h.rule (show k < (Yk.S (X.S S)).m from hlt)
   cases eR
   obtain ⟨k0, k1, k2⟩ := kk wr h.sp.old
   have hhd := Hhdn.out k hlt
   obtain ⟨kd, Hkd⟩ : ∃ kd, Hid (S.kind k = kd) := ⟨_, hid rfl⟩
   obtain ⟨hd, Hhd⟩ : ∃ hd, Hid (S.head k = hd) := ⟨_, hid rfl⟩
   obtain ⟨bl, Hbl2⟩ : ∃ bl, Hid (S.bodyLen k = bl) := ⟨_, hid rfl⟩
   rw [show (Yk.S (X.S S)).kind k = kd from Hkd.out] at k0
   rw [show (Yk.S (X.S S)).head k = hd from Hhd.out] at k1
   rw [Hhd.out] at hhd
   rw [show (Yk.S (X.S S)).bodyLen k = bl from Hbl2.out] at k2
   have htb : k < T.beats.length := by rw [Hbl0.out]; exact hlt
   obtain ⟨gB, BB, c3, c4, eB, kf, hfl, kff⟩ := h.btRow htb (Hbt.out k htb)
   have eB : Value.slice AB S.m cB = Value.slice (some gB) T.beats.length c3 := eB
   rw [Hbl0.out] at eB
   cases eB
   have Hblk := hid (Hbl.out k)
   have Hatk := hid (Hat.out k hlt)
   have Hbts : Hid (bts S T X.A Yk k = if supR S k = true then (btT T k).foldl (bt1 S X.A k) Yk else Yk) := hid rfl
   rw [Hhd.out] at Hatk
   have Kf := hid kf
   have Kff := hid kff
   clear kf kff
   generalize btT T k = fo at *
   have h1 := h.addX2l rfl (.cells #[.int .i64 kd, .int .i64 (hd : Int), .slice B bl c2] 75)
   have H1 := hid h1
   have HM1 := hid (HM.out.more (wr.heap.size, .cells #[.int .i64 kd, .int .i64 (hd : Int), .slice B bl c2] 75))
   have e3 := h1.hB
   have kf1 := Kf.out _ h1.sp.old
   have Hsup := hid (esup_any _ W0 _ _ T _ ⟨_, h1⟩ k hlt)
   rw [show supR (Yk.S (X.S S)) k = supR S k from rfl] at Hsup
   clear h h1 kk hM
   cases hsp : supR S k with
   | false =>
    have Hbts2 : Hid (bts S T X.A Yk k = Yk) := hid (by rw [Hbts.out, if_neg (by rw [hsp]; exact Bool.false_ne_true)])
    rw [hsp] at Hsup
    clear hsp
    go_wp2_with (go_at_call 87; refine Hsup.out.mono ?_; rintro e w9 ⟨_, rfl, rfl, rfl⟩)
    go_roundw
    case rel =>
     refine ⟨k + 1, by omega, by go_num, ?_⟩
     rw [Hs.out, Hbts2.out]
     exact ⟨_, _, _, _, _, _, _, H1.out, HM1.out, fun z e => by cases e⟩
    case measure => simp [intOf]; omega
   | true =>
    have Hbts2 : Hid (bts S T X.A Yk k = fo.foldl (bt1 S X.A k) Yk) := hid (by rw [Hbts.out, if_pos hsp])
    have Hatk2 := hid (Hatk.out hsp)
    rw [hsp] at Hsup
    clear hsp
    go_wp2_with (go_at_call 87; refine Hsup.out.mono ?_; rintro e w9 ⟨_, rfl, rfl, rfl⟩)
    generalize hzz : wr.heap.size = zz at *
    generalize hw1 : wr.alloc (.cells #[.int .i64 kd, .int .i64 (hd : Int), .slice B bl c2] 75) = w1 at *
    clear hw1 hzz e3 kf1 k0 k1 k2
    have Hbx : Hid (Obj.cells #[.int .i64 kd, .int .i64 (hd : Int), .slice B bl c2] 75 = Obj.cells #[.int .i64 kd, .int .i64 (hd : Int), .slice B bl c2] 75) := hid rfl
    go_loopw [137] (fun v137 wr => ∃ j : Nat, j ≤ fo.length ∧ v137 = .int .i64 j ∧ PBt wr W0 b g vF (.slice (some gR) S.m cR) (.slice (some gB) S.m cB) ga S T D X ((fo.take j).foldl (bt1 S X.A k) Yk) (some (zz, .cells #[.int .i64 kd, .int .i64 (hd : Int), .slice B bl c2] 75))) (fun v137 _ => fo.length - (intOf v137).toNat)
    case atStart => exact ⟨0, Nat.zero_le _, rfl, _, _, _, _, _, _, _, H1.out, HM1.out, fun z e => by injection e with e; subst e; exact List.mem_cons_self⟩
    case round =>
     obtain ⟨j, hj, rfl, hla⟩ := hrel
     by_cases hjl : j < fo.length
     ·obtain ⟨vP3, vin3, vof3, vbe3, l3, mb3, vT3, h3, hM3, hbx⟩ := hla
      have Hbm := hid (hbx _ rfl)
      have x21 : wr.cell? ⟨zz, 1, none⟩ = some (.int .i64 (hd : Int)) := cell_of_row _ _ 1 _ _ _ (h3.inX2 rfl Hbm.out)
      have Hsj := hid (take_foldl_py S X.A k Yk fo j hjl)
      have Hol3 : Hid ((((fo.take j).foldl (bt1 S X.A k) Yk).beats k).length ≤ 1000000) := hid (by
       rw [bt1_len, Hnil.out]
       have := Hblk.out
       simp only [List.length_nil, List.length_take]; omega)
      generalize (fo.take j).foldl (bt1 S X.A k) Yk = Y3 at *
      obtain ⟨ad, rfl, kc⟩ := Kff.out j hjl
      have c := kc wr h3.sp.old
      obtain ⟨s, Hq⟩ : ∃ s, Hid (fo[j] = s) := ⟨_, hid rfl⟩
      have Hss := hid (Hatk2.out s (by rw [← Hq.out]; exact List.getElem_mem hjl))
      have hsm : s < S.m := Hss.out.1
      rw [Hq.out] at c Hsj
      obtain ⟨ca, fa⟩ := h3.readX1g rfl hhd
      have hlook : ∀ W : World, W.heap = wr.heap → (Instr.lookup 201 (.map (mb3 hd)) (.int .i64 (s : Int)) false).run Tryz.prog W = .ok (.int .i64 (X.A hd s : Int)) W := fun W hW => by
       cases hmq : mb3 hd with
       | none => rw [hM3.nil hd hhd hmq]; exact lookNil _ W
       | some bm =>
        obtain ⟨o, fn, hm, hMO, hfn⟩ := hM3.at1 hd bm hhd hmq
        rw [← hfn s]
        exact (hMO W bm (by rw [hW]; exact h3.inX2 rfl hm)).look (wfI _ (by omega) (by omega))
      have hlk := hlook wr rfl
      obtain ⟨p, Hp⟩ : ∃ p, Hid (X.A hd s = p) := ⟨_, hid rfl⟩
      have hpP : p < X.P := by rw [← Hp.out]; exact Hss.out.2
      rw [Hp.out] at hlk
      have H3 := hid h3
      have HM3 := hid hM3
      clear h3 hM3 kc hlook hbx
      go_wp2
      refine pairR24 wr W0 _ _ T _ _ H3.out k p hlt (by show (Y3.beats k).length ≤ _; exact Hol3.out) _ _ _ _ _ _ _ _ _ _ _ _ _ _ _ _ _ _ _ _ _ _ _ _ _ _ _ _ _ _ _ _ _ _ _ _ _ _ _ _ _ _ _ _ _ _ _ _ _ _ _ _ _ _ _ _ _ _ _ _ _ _ _ _ _ _ _ _ _ _ _ _ _ _ _ _ _ _ _ _ _ _ _ _ _ _ _ _ _ _ _ _ _ _ _ _ _ _ _ _ _ _ _ _ _ _ _ _ _ _ _ _ _ _ _ _ _ _ _ _ _ _ _ _ _ _ _ _ _ _ _ _ _ _ _ _ _ _ _ _ _ _ _ _ _ _ _ _ _ _ _ _ _ _ _ _ _ _ _ _ _ _ _ _ _ _ _ _ _ _ _ _ _ _ _ ?_
      intro y148 y149 y150 y151 y152 y153 y154 y155 y156 y157 y158 y159 y160 y161 y162 y163 w4 v4 h4
      obtain ⟨gp, cp, eP⟩ := h4.pForm (show p < X.P from hpP)
      have eP : vP3 = .slice (some ⟨gp, 0, none⟩) X.P cp := eP
      subst eP
      obtain ⟨_, _, _, p3⟩ := h4.rPair (show _ = Value.slice (some ⟨gp, 0, none⟩) X.P cp from rfl) hpP
      have e21 : w4.cell? ⟨b, 21, none⟩ = some (.slice (some ⟨gp, 0, none⟩) X.P cp) := h4.hPairs
      have f3 := h4.fPair (show _ = Value.slice (some ⟨gp, 0, none⟩) X.P cp from rfl) (p * 4 + 3)
      have H4 := hid h4
      clear h4
      go_wp2
      go_roundw
      case rel =>
       have h5 := H4.out.wLeft (show _ = Value.slice (some ⟨gp, 0, none⟩) X.P cp from rfl) p (wrap64 ((Y3.D (X.D D)).left p + 1))
       refine ⟨j + 1, by omega, by go_num, ?_⟩
       rw [Hsj.out, show bt1 S X.A k Y3 s = { beats := Tj.upd Y3.beats k (Y3.beats k ++ [p]), left := Tj.upd Y3.left p (addW (Y3.left p) 1) } by unfold bt1; rw [Hhd.out, Hp.out]]
       exact ⟨_, _, _, _, _, _, _, h5, HM3.out, fun z e => by injection e with e; subst e; exact Hbm.out⟩
      case measure => simp [intOf]; omega
     ·obtain rfl : j = fo.length := by omega
      rw [List.take_length] at hla
      have hla2 := hid hla
      clear hla
      go_wp2
      go_roundw
      case rel =>
       obtain ⟨a1, a2, a3, a4, a5, a6, a7, a8, a9, _⟩ := hla2.out
       refine ⟨k + 1, by omega, by go_num, ?_⟩
       rw [Hs.out, Hbts2.out]
       exact ⟨a1, a2, a3, a4, a5, a6, a7, a8, a9, fun z e => by cases e⟩
      case measure => simp [intOf]; omega
  ·obtain rfl : k = S.m := by omega
   have hla2 := hid hla
   clear hla
   go_wp2
   exact HK.out _ _ hla2.out
end Go.Proofs.Lx

namespace Go.Proofs.Lx
open Go Go.RowKit Go.Proofs.Tj
set_option linter.unusedSimpArgs false
set_option linter.unusedVariables false

theorem frame177 (t : Array Value) (a0 a2 : Value) (h : t.size = 177) (h0 : t[0]? = some a0) (h2 : t[2]? = some a2) : ∃ f : Nat → Value, t = #[a0, (f 1), a2, (f 3), (f 4), (f 5), (f 6), (f 7), (f 8), (f 9), (f 10), (f 11), (f 12), (f 13), (f 14), (f 15), (f 16), (f 17), (f 18), (f 19), (f 20), (f 21), (f 22), (f 23), (f 24), (f 25), (f 26), (f 27), (f 28), (f 29), (f 30), (f 31), (f 32), (f 33), (f 34), (f 35), (f 36), (f 37), (f 38), (f 39), (f 40), (f 41), (f 42), (f 43), (f 44), (f 45), (f 46), (f 47), (f 48), (f 49), (f 50), (f 51), (f 52), (f 53), (f 54), (f 55), (f 56), (f 57), (f 58), (f 59), (f 60), (f 61), (f 62), (f 63), (f 64), (f 65), (f 66), (f 67), (f 68), (f 69), (f 70), (f 71), (f 72), (f 73), (f 74), (f 75), (f 76), (f 77), (f 78), (f 79), (f 80), (f 81), (f 82), (f 83), (f 84), (f 85), (f 86), (f 87), (f 88), (f 89), (f 90), (f 91), (f 92), (f 93), (f 94), (f 95), (f 96), (f 97), (f 98), (f 99), (f 100), (f 101), (f 102), (f 103), (f 104), (f 105), (f 106), (f 107), (f 108), (f 109), (f 110), (f 111), (f 112), (f 113), (f 114), (f 115), (f 116), (f 117), (f 118), (f 119), (f 120), (f 121), (f 122), (f 123), (f 124), (f 125), (f 126), (f 127), (f 128), (f 129), (f 130), (f 131), (f 132), (f 133), (f 134), (f 135), (f 136), (f 137), (f 138), (f 139), (f 140), (f 141), (f 142), (f 143), (f 144), (f 145), (f 146), (f 147), (f 148), (f 149), (f 150), (f 151), (f 152), (f 153), (f 154), (f 155), (f 156), (f 157), (f 158), (f 159), (f 160), (f 161), (f 162), (f 163), (f 164), (f 165), (f 166), (f 167), (f 168), (f 169), (f 170), (f 171), (f 172), (f 173), (f 174), (f 175), (f 176)] := by
 obtain ⟨f, hf⟩ : ∃ f : Nat → Value, ∀ i (hi : i < t.size), t[i] = f i := ⟨fun i => t.getD i undef, fun i hi => by simp [Array.getD, hi]⟩
 have e : t.toList = (List.range 177).map f := by
  apply List.ext_getElem
  ·simp [h]
  ·intro i h1 h2
   simp only [Array.getElem_toList, List.getElem_map, List.getElem_range]
   exact hf i _
 have e2 : (List.range 177).map f = [f 0, f 1, f 2, f 3, f 4, f 5, f 6, f 7, f 8, f 9, f 10, f 11, f 12, f 13, f 14, f 15, f 16, f 17, f 18, f 19, f 20, f 21, f 22, f 23, f 24, f 25, f 26, f 27, f 28, f 29, f 30, f 31, f 32, f 33, f 34, f 35, f 36, f 37, f 38, f 39, f 40, f 41, f 42, f 43, f 44, f 45, f 46, f 47, f 48, f 49, f 50, f 51, f 52, f 53, f 54, f 55, f 56, f 57, f 58, f 59, f 60, f 61, f 62, f 63, f 64, f 65, f 66, f 67, f 68, f 69, f 70, f 71, f 72, f 73, f 74, f 75, f 76, f 77, f 78, f 79, f 80, f 81, f 82, f 83, f 84, f 85, f 86, f 87, f 88, f 89, f 90, f 91, f 92, f 93, f 94, f 95, f 96, f 97, f 98, f 99, f 100, f 101, f 102, f 103, f 104, f 105, f 106, f 107, f 108, f 109, f 110, f 111, f 112, f 113, f 114, f 115, f 116, f 117, f 118, f 119, f 120, f 121, f 122, f 123, f 124, f 125, f 126, f 127, f 128, f 129, f 130, f 131, f 132, f 133, f 134, f 135, f 136, f 137, f 138, f 139, f 140, f 141, f 142, f 143, f 144, f 145, f 146, f 147, f 148, f 149, f 150, f 151, f 152, f 153, f 154, f 155, f 156, f 157, f 158, f 159, f 160, f 161, f 162, f 163, f 164, f 165, f 166, f 167, f 168, f 169, f 170, f 171, f 172, f 173, f 174, f 175, f 176] := by kernel_rfl
 have g0 : f 0 = a0 := by rw [← hf 0 (by omega)]; rw [Array.getElem?_eq_getElem (by omega)] at h0; injection h0
 have g2 : f 2 = a2 := by rw [← hf 2 (by omega)]; rw [Array.getElem?_eq_getElem (by omega)] at h2; injection h2
 refine ⟨f, ?_⟩
 rw [← g0, ← g2]
 apply Array.toList_inj.1
 rw [e, e2]
theorem wp_frame177 {c : Code} {Q : Exit → Act → World → Prop} {w : World} {t : Array Value} (a0 a2 : Value) (h : t.size = 177) (h0 : t[0]? = some a0) (h2 : t[2]? = some a2) (k : ∀ f : Nat → Value, Code.wp Tryz.prog c Q ⟨#[a0, (f 1), a2, (f 3), (f 4), (f 5), (f 6), (f 7), (f 8), (f 9), (f 10), (f 11), (f 12), (f 13), (f 14), (f 15), (f 16), (f 17), (f 18), (f 19), (f 20), (f 21), (f 22), (f 23), (f 24), (f 25), (f 26), (f 27), (f 28), (f 29), (f 30), (f 31), (f 32), (f 33), (f 34), (f 35), (f 36), (f 37), (f 38), (f 39), (f 40), (f 41), (f 42), (f 43), (f 44), (f 45), (f 46), (f 47), (f 48), (f 49), (f 50), (f 51), (f 52), (f 53), (f 54), (f 55), (f 56), (f 57), (f 58), (f 59), (f 60), (f 61), (f 62), (f 63), (f 64), (f 65), (f 66), (f 67), (f 68), (f 69), (f 70), (f 71), (f 72), (f 73), (f 74), (f 75), (f 76), (f 77), (f 78), (f 79), (f 80), (f 81), (f 82), (f 83), (f 84), (f 85), (f 86), (f 87), (f 88), (f 89), (f 90), (f 91), (f 92), (f 93), (f 94), (f 95), (f 96), (f 97), (f 98), (f 99), (f 100), (f 101), (f 102), (f 103), (f 104), (f 105), (f 106), (f 107), (f 108), (f 109), (f 110), (f 111), (f 112), (f 113), (f 114), (f 115), (f 116), (f 117), (f 118), (f 119), (f 120), (f 121), (f 122), (f 123), (f 124), (f 125), (f 126), (f 127), (f 128), (f 129), (f 130), (f 131), (f 132), (f 133), (f 134), (f 135), (f 136), (f 137), (f 138), (f 139), (f 140), (f 141), (f 142), (f 143), (f 144), (f 145), (f 146), (f 147), (f 148), (f 149), (f 150), (f 151), (f 152), (f 153), (f 154), (f 155), (f 156), (f 157), (f 158), (f 159), (f 160), (f 161), (f 162), (f 163), (f 164), (f 165), (f 166), (f 167), (f 168), (f 169), (f 170), (f 171), (f 172), (f 173), (f 174), (f 175), (f 176)], []⟩ w) : Code.wp Tryz.prog c Q ⟨t, []⟩ w := by
 obtain ⟨f, rfl⟩ := frame177 t a0 a2 h h0 h2
 exact k f
theorem infoMp : (Tryz.prog.info? 201).map (fun i => (i.zero, i.size, i.bytes)) = some (some (.map none), 1, 8) := by kernel_rfl
def px0 (S : Stc) (D : Dyn) : PX := { P := 0, pq := S.pq, ps := S.ps, ofs := S.ofs, att := D.attacks, A := fun _ _ => 0 }
def py0 (S : Stc) (D : Dyn) : PY := { beats := S.beats, left := D.left }
def pairX (S : Stc) (D : Dyn) : PX := prAll S D (px0 S D) S.m
def pairY (S : Stc) (T : Th) (D : Dyn) : PY := btAll S T (pairX S D).A (py0 S D) S.m
def pairS (S : Stc) (T : Th) (D : Dyn) : Stc := (pairY S T D).S ((pairX S D).S S)
def pairD (S : Stc) (T : Th) (D : Dyn) : Dyn := (pairY S T D).D ((pairX S D).D D)
/-- What pair asks of what is laid so far. -/
structure PairOk (S : Stc) (T : Th) (D : Dyn) : Prop where
 p0 : S.P = 0
 ofs0 : ∀ s, S.ofs s = []
 b0 : ∀ t, S.beats t = []
 sl : ∀ p, D.settled p = false ∧ D.left p = 0
 P : (pairX S D).P ≤ 65536
 bt : ∀ t (ht : t < T.beats.length), ∀ x ∈ T.beats[t], 0 ≤ x
 bl : ∀ t, (btT T t).length ≤ 4096
 at1 : ∀ t, t < S.m → supR S t = true → ∀ s ∈ btT T t, s < S.m ∧ (pairX S D).A (S.head t) s < (pairX S D).P
set_option maxRecDepth 1000000 in
set_option maxHeartbeats 60000000 in
theorem epair_any (w W0 : World) (b : Nat) (g : Key → Nat) (vF vR vB vP : Value) (vin vof vbe : List Value) (S : Stc) (T : Th) (D : Dyn) (vT : Value) (h : EngV w W0 ⟨b, g, vF, vR, vB, vP, vin, vof, vbe, .no, .no⟩ S T D vT) (hp : PairOk S T D) :
  Calls Tryz.prog 89 #[.pointer (some ⟨b, 0, none⟩)] w (Ret fun v w' => v = .tuple #[] ∧ ∃ vB vP vin vof vbe vT, EngV w' W0 ⟨b, g, vF, vR, vB, vP, vin, vof, vbe, .no, .no⟩ (pairS S T D) T (pairD S T D) vT) := by
 have hn4 := h.st.n4
 have hmk : ∀ W : World, (Instr.makeSlice 200 (.int .i64 (S.n : Int)) (.int .i64 (S.n : Int))).run Tryz.prog W = .ok (.slice (some ⟨W.heap.size, 0, none⟩) S.n S.n) (W.alloc (.cells (madeCells #[.map none] S.n) 201)) := fun W => run_make_row' _ _ _ 8 Tryz.underlying200 infoMp rfl .i64 .i64 S.n (by omega) (by omega) W
 simp only [made_rep] at hmk
 have h1 := (h.startX2.madeX1g 201 (.map none) S.n (by unfold maxLen; omega))
 have e0 := h.hn
 have hS : S = (px0 S D).S S := by
  have := hp.p0
  obtain ⟨n, m, P, kind, head, bodyLen, foes, inn, pq, ps, ofs, beats, first⟩ := S
  subst this; rfl
 have hPA : PAt (w.alloc (.cells (List.replicate S.n (Value.map none)).toArray 201)) W0 b g vF vR w.heap.size S T D (px0 S D) none := by
  refine ⟨vB, vP, vin, vof, vbe, [], fun _ => none, vT, ?_, MapsIn.start _ _, fun z e => by cases e⟩
  rw [← hS]; exact h1
 have HPA := hid hPA
 have Hp := hid hp
 clear h h1 hPA hS hp
 refine post_gen fun Q HQ => ?_
 go_enter Tryz.func89, Tryz.ntmps89
 refine wp_seq_k fun K hK => ?_
 have HKK := hid hK
 clear hK
 go_wp2
 refine HKK.out _ _ ?_
 clear HKK
 refine wp_seq_k fun K hK => ?_
 have HKK := hid hK
 clear hK
 refine wp_frame177 (.pointer (some ⟨b, 0, none⟩)) (sl w.heap.size S.n) rfl rfl rfl fun f => ?_
 refine pair_s1 _ W0 b g vF vR w.heap.size S T D (px0 S D) HPA.out Hp.out.P (fun s => by rw [show (px0 S D).ofs s = [] from Hp.out.ofs0 s]; exact Nat.zero_le _) Hp.out.sl f K _ ?_
 intro t w2 hsz h0 h2 h3
 refine HKK.out _ _ ?_
 clear HKK
 obtain ⟨vB2, vP2, vin2, vof2, vbe2, l2, mb2, vT2, h4, hM4, _⟩ := h3
 refine wp_frame177 _ _ hsz h0 h2 fun f => ?_
 refine pair_s2 _ W0 b g vF vR vB2 w.heap.size S T D (pairX S D) (py0 S D) ⟨_, _, _, _, _, _, _, h4, hM4, fun z e => by cases e⟩ Hp.out.P Hp.out.b0 Hp.out.bt Hp.out.bl Hp.out.at1 f _ ?_
 intro t w3 h5
 obtain ⟨_, _, _, _, _, _, _, h6, _, _⟩ := h5
 have H6 := hid h6.dropX1.dropX2
 clear h6 h4 hM4
 go_returns
 exact Fin HQ ⟨rfl, _, _, _, _, _, _, H6.out⟩
end Go.Proofs.Lx
