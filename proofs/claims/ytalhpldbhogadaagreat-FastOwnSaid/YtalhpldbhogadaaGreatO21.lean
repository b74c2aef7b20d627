/- Parts of the proof: Fg, Fh. lay: the loop that counts for each rule. Printed by gen_lay.py. No condition. -/
import Derived.Test.YtalhpldbhogadaaGreatO20
namespace Go.Proofs.Lx
open Go Go.RowKit Go.Proofs.Tj
set_option linter.unusedVariables false
set_option linter.unusedSimpArgs false


/-- The engine beside a box. -/
def LayX (w W0 : World) (b : Nat) (g : Key → Nat) (X1 X2 : Cont) (vF vR : Value) (S : Stc) (T : Th) (D : Dyn) : Prop := ∃ vB vP vin vof vbe vT, EngV w W0 ⟨b, g, vF, vR, vB, vP, vin, vof, vbe, X1, X2⟩ S T D vT
theorem LayX.at {w W0 : World} {b : Nat} {g : Key → Nat} {X1 X2 : Cont} {vF vR : Value} {S : Stc} {T : Th} {D : Dyn} (h : LayX w W0 b g X1 X2 vF vR S T D) : LayAt w W0 b g X1 vF vR S T D := by
 obtain ⟨a1, a2, a3, a4, a5, a6, h⟩ := h
 exact ⟨a1, a2, a3, a4, a5, X2, a6, h⟩
theorem LayAt.congr {w W0 : World} {b : Nat} {g : Key → Nat} {X1 : Cont} {vF vR : Value} {S S' : Stc} {T : Th} {D D' : Dyn} (h : LayAt w W0 b g X1 vF vR S T D) (e : S = S') (e2 : D = D') : LayAt w W0 b g X1 vF vR S' T D' := e ▸ e2 ▸ h
/-- Into a rule's body. -/
def innP (T : Th) (k j : Nat) : Nat → List Nat := ((bdyT T k).take j).foldl (innAdd k) (innL T k)
theorem innP_zero (T : Th) (k : Nat) : innP T k 0 = innL T k := rfl
theorem innP_all (T : Th) (k : Nat) : innP T k (bdyT T k).length = innL T (k + 1) := by unfold innP; rw [List.take_length]; rfl
theorem innP_succ (T : Th) (k j : Nat) (h : j < (bdyT T k).length) : innP T k (j + 1) = Tj.upd (innP T k j) (bdyT T k)[j] (innP T k j (bdyT T k)[j] ++ [k]) := by
 unfold innP; rw [List.take_add_one, List.getElem?_eq_getElem h, List.foldl_append]; rfl
theorem innP_len {T : Th} (h : LayOk T) {k : Nat} (hk : k < T.rules.length) (j b : Nat) : (innP T k j b).length ≤ 16 * k + 16 := by
 have h1 := innL_len h k (by omega) b
 have h2 := fold_innAdd k ((bdyT T k).take j) (innL T k) b
 have h3 := h.st.b16 k (by show k < T.rules.length; omega)
 rw [← bdy_len] at h3
 have h4 : ((bdyT T k).take j).length ≤ (bdyT T k).length := by simp; omega
 show (((bdyT T k).take j).foldl (innAdd k) (innL T k) b).length ≤ _
 omega
theorem layA_t {S : Stc} {D : Dyn} {r hd : Nat} (h : S.kind r = 1) (e : S.head r = hd) : layA S D r = incStrict D hd := by unfold layA strR; rw [h, e]; rfl
theorem layA_f {S : Stc} {D : Dyn} {r : Nat} (h : S.kind r ≠ 1) : layA S D r = D := by unfold layA strR; rw [if_neg]; simpa using h
theorem layB_t {S : Stc} {D : Dyn} {r hd : Nat} (h : supR S r = true) (e : S.head r = hd) : layB S D r = incBacks D hd := by unfold layB; rw [if_pos h, e]
theorem layB_f {S : Stc} {D : Dyn} {r : Nat} (h : supR S r = false) : layB S D r = D := by unfold layB; rw [if_neg (by rw [h]; exact Bool.false_ne_true)]
def stI (T : Th) (I : Nat → List Nat) : Stc := { stc0 T with inn := I }


set_option maxRecDepth 1000000 in
set_option maxHeartbeats 60000000 in
theorem lay_s3 (w W0 : World) (b bt : Nat) (g : Key → Nat) (vF vR vl : Value) (T : Th) (hl : LayOk T) (h : LayAt w W0 b g .no vF vR (stc0 T) T dyn0) (f : Nat → Value)
  (hbox : ∀ W : World, Below W0.heap.size W0 W → W.cell? ⟨bt, 0, none⟩ = some (.int .i64 (T.foes.length : Int)) ∧ W.cell? ⟨bt, 1, none⟩ = some vF ∧ W.cell? ⟨bt, 2, none⟩ = some vR) (K : Act → World → Prop) (Q' : Exit → Act → World → Prop)
  (hK : ∀ (t : Array Value) (w' : World), LF t vl bt T.foes.length T.rules.length b → LayAt w' W0 b g .no vF vR (layS1 T T.rules.length) T (layD1 T T.rules.length) → K ⟨t, []⟩ w') :
  Code.wp Tryz.prog laySeg3 (Exit.then K Q') ⟨#[(f 0), vl, .pointer (some ⟨bt, 0, none⟩), (f 3), (f 4), .int .i64 (T.foes.length : Int), .int .i64 (T.rules.length : Int), .pointer (some ⟨b, 0, none⟩), (f 8), (f 9), (f 10), (f 11), (f 12), (f 13), (f 14), (f 15), (f 16), (f 17), (f 18), (f 19), (f 20), (f 21), (f 22), (f 23), (f 24), (f 25), (f 26), (f 27), (f 28), (f 29), (f 30), (f 31), (f 32), (f 33), (f 34), (f 35), (f 36), (f 37), (f 38), (f 39), (f 40), (f 41), (f 42), (f 43), (f 44), (f 45), (f 46), (f 47), (f 48), (f 49), (f 50), (f 51), (f 52), (f 53), (f 54), (f 55), (f 56), (f 57), (f 58), (f 59), (f 60), (f 61), (f 62), (f 63), (f 64), (f 65), (f 66), (f 67), (f 68), (f 69), (f 70), (f 71), (f 72), (f 73), (f 74), (f 75), (f 76), (f 77), (f 78), (f 79), (f 80), (f 81), (f 82), (f 83), (f 84), (f 85), (f 86), (f 87), (f 88), (f 89), (f 90), (f 91), (f 92), (f 93), (f 94), (f 95), (f 96), (f 97), (f 98), (f 99), (f 100), (f 101), (f 102), (f 103), (f 104), (f 105), (f 106), (f 107), (f 108), (f 109), (f 110), (f 111), (f 112), (f 113), (f 114), (f 115), (f 116), (f 117), (f 118), (f 119), (f 120), (f 121), (f 122), (f 123), (f 124), (f 125), (f 126), (f 127), (f 128), (f 129), (f 130), (f 131), (f 132), (f 133), (f 134), (f 135), (f 136), (f 137), (f 138), (f 139), (f 140), (f 141), (f 142), (f 143), (f 144), (f 145), (f 146), (f 147), (f 148), (f 149), (f 150), (f 151), (f 152), (f 153), (f 154), (f 155), (f 156), (f 157), (f 158), (f 159), (f 160), (f 161), (f 162), (f 163), (f 164), (f 165), (f 166), (f 167), (f 168), (f 169), (f 170), (f 171), (f 172), (f 173), (f 174), (f 175), (f 176), (f 177), (f 178), (f 179), (f 180), (f 181), (f 182), (f 183), (f 184), (f 185), (f 186), (f 187), (f 188), (f 189), (f 190), (f 191), (f 192), (f 193), (f 194), (f 195), (f 196), (f 197), (f 198), (f 199), (f 200), (f 201), (f 202), (f 203), (f 204), (f 205), (f 206), (f 207), (f 208), (f 209), (f 210), (f 211), (f 212), (f 213), (f 214), (f 215), (f 216), (f 217), (f 218), (f 219), (f 220), (f 221), (f 222), (f 223), (f 224), (f 225), (f 226), (f 227), (f 228), (f 229), (f 230), (f 231), (f 232), (f 233), (f 234), (f 235), (f 236), (f 237), (f 238), (f 239), (f 240), (f 241), (f 242), (f 243), (f 244), (f 245), (f 246), (f 247), (f 248), (f 249), (f 250), (f 251), (f 252), (f 253), (f 254), (f 255), (f 256), (f 257), (f 258), (f 259), (f 260), (f 261), (f 262), (f 263), (f 264), (f 265), (f 266), (f 267), (f 268), (f 269), (f 270), (f 271), (f 272), (f 273), (f 274), (f 275), (f 276), (f 277), (f 278), (f 279), (f 280), (f 281), (f 282), (f 283), (f 284), (f 285), (f 286), (f 287), (f 288), (f 289), (f 290), (f 291), (f 292), (f 293), (f 294), (f 295), (f 296), (f 297), (f 298), (f 299), (f 300), (f 301), (f 302), (f 303), (f 304), (f 305), (f 306), (f 307), (f 308), (f 309), (f 310), (f 311), (f 312), (f 313), (f 314), (f 315), (f 316), (f 317), (f 318), (f 319), (f 320), (f 321), (f 322), (f 323), (f 324), (f 325), (f 326), (f 327), (f 328), (f 329), (f 330), (f 331), (f 332), (f 333), (f 334), (f 335), (f 336), (f 337), (f 338), (f 339), (f 340), (f 341), (f 342), (f 343), (f 344), (f 345), (f 346), (f 347), (f 348), (f 349), (f 350), (f 351), (f 352), (f 353), (f 354), (f 355), (f 356), (f 357), (f 358), (f 359), (f 360), (f 361), (f 362), (f 363), (f 364), (f 365), (f 366), (f 367), (f 368)], []⟩ w := by
 have HK := hid hK
 have Hbox := hid hbox
 have Hl := hid hl
 have hn4 : T.foes.length ≤ 4096 := hl.st.n4
 have hm4 : T.rules.length ≤ 4096 := hl.st.m4
 have H0 := hid h
 obtain ⟨_, _, _, _, _, _, _, h0⟩ := h
 obtain ⟨AR, cR, rfl⟩ : ∃ A c, vR = .slice A T.rules.length c := by
  obtain ⟨A, c, e, _⟩ := h0.rR
  exact ⟨A, c, e⟩
 obtain ⟨_, _, b2⟩ := hbox w h0.sp.old
 clear hK hbox hl h0
 conv => arg 2; whnf
 go_wp2
 go_loopw [68] (fun v68 wr => ∃ k : Nat, k ≤ T.rules.length ∧ v68 = .int .i64 k ∧ LayAt wr W0 b g .no vF (.slice AR T.rules.length cR) (stI T (innL T k)) T (layD1 T k)) (fun v68 _ => T.rules.length - (intOf v68).toNat)
 case atStart => exact ⟨0, Nat.zero_le _, rfl, H0.out⟩
 case round =>
  clear b2
  obtain ⟨k, hk, rfl, hla⟩ := hrel
  by_cases hlt : k < T.rules.length
  ·obtain ⟨vB, vP, vin, vof, vbe, x2, vT, h⟩ := hla
   obtain ⟨ga, B, c1, c2, eR, kk, kb⟩ := h.ruleB Hl.out hlt
   cases eR
   obtain ⟨k0, k1, k2⟩ := kk wr h.sp.old
   have hb16 := Hl.out.st.b16 k hlt
   rw [← bdy_len] at hb16
   have Hdl := hid (bdy_len T k)
   obtain ⟨I0, HI0⟩ : ∃ I0, Hid (innP T k 0 = I0) := ⟨_, hid rfl⟩
   have Hin := hid (fun j b => innP_len Hl.out hlt j b)
   have Hsucc := hid (innP_succ T k)
   have Hall := hid (innP_all T k)
   obtain ⟨l, Hbl⟩ : ∃ l, Hid (bdyT T k = l) := ⟨_, hid rfl⟩
   obtain ⟨kd, Hkd⟩ : ∃ kd, Hid ((stc0 T).kind k = kd) := ⟨_, hid rfl⟩
   obtain ⟨hd, Hhd⟩ : ∃ hd, Hid ((stc0 T).head k = hd) := ⟨_, hid rfl⟩
   have hhn : hd < T.foes.length := by rw [← Hhd.out]; exact Hl.out.st.hdn k hlt
   have Hblt := hid (bdy_lt Hl.out hlt)
   have Kb := hid kb
   rw [Hbl.out] at k2 hb16 Kb Hblt Hsucc Hall Hdl
   rw [Hkd.out] at k0
   rw [Hhd.out] at k1
   have h1 := h.newX2 (.cells #[.int .i64 kd, .int .i64 (hd : Int), .slice B l.length c2] 75)
   have H1 := hid h1
   clear h1 h kk kb
   go_wp2
   have h1 := H1.out
   generalize hW1 : wr.alloc (.cells #[.int .i64 kd, .int .i64 (hd : Int), .slice B l.length c2] 75) = w1 at *
   clear hW1 H1
   generalize wr.heap.size = z at *
   clear k0 k1 k2
   refine layR6 w1 W0 _ _ T _ _ h1 z kd hd B l.length c2 rfl k hlt _ _ _ _ _ _ _ _ _ _ _ _ _ _ _ _ _ _ _ _ _ _ _ _ _ _ _ _ _ _ _ _ _ _ _ _ _ _ _ _ _ _ _ _ _ _ _ _ _ _ _ _ _ _ _ _ _ _ _ _ _ _ _ _ _ _ _ _ _ _ _ _ _ _ _ _ _ _ _ _ _ _ _ _ _ _ _ _ _ _ _ _ _ _ _ _ _ _ _ _ _ _ _ _ _ _ _ _ _ _ _ _ _ _ _ _ _ _ _ _ _ _ _ _ _ _ _ _ _ _ _ _ _ _ _ _ _ _ _ _ _ _ _ _ _ _ _ _ _ _ _ _ _ _ _ _ _ _ _ _ _ _ _ _ _ _ _ _ _ _ _ _ _ _ _ _ _ _ _ _ _ _ _ _ _ _ _ _ _ _ _ _ _ _ _ _ _ _ _ _ _ _ _ _ _ _ _ _ _ _ _ _ _ _ _ _ _ _ _ _ _ _ _ _ _ _ _ _ _ _ _ _ _ _ _ _ _ _ _ _ _ _ _ _ _ _ _ _ _ _ _ _ _ _ _ _ _ _ _ _ _ _ _ _ _ _ _ _ _ _ _ _ _ _ _ _ _ _ _ _ _ _ _ _ _ _ _ _ _ _ _ _ _ _ _ _ _ _ _ _ _ _ _ _ _ _ _ _ _ _ _ _ _ _ _ _ _ _ _ _ _ _ _ _ _ _ _ _ _ _ _ _ _ _ _ _ _ _ _ _ _ _ _ _ _ _ _ _ _ _ _ _ _ _ _ _ _ _ _ _ _ _ _ _ _ _ _ ?_
   intro y73 y74 y75 y76 y77 y78 y79 y80 y81 y82 y83 y84 y85 y86 y87 y88 y89 y90 w2 h2
   have x22 : w2.cell? ⟨z, 2, none⟩ = some (.slice B l.length c2) := cell_of_row w2 _ 2 _ _ _ (h2.atX2 rfl)
   have H2 := hid h2
   clear h1 h2
   go_wp2
   clear x22
   go_loopw [94] (fun v94 wr => ∃ j : Nat, j ≤ l.length ∧ v94 = .int .i64 j ∧ LayX wr W0 b g .no (.blks [(z, .cells #[.int .i64 kd, .int .i64 (hd : Int), .slice B l.length c2] 75)]) vF (.slice (some ga) T.rules.length cR) (stI T (innP T k j)) T (setNeeds (layD1 T k) k (l.length : Int))) (fun v94 _ => l.length - (intOf v94).toNat)
   case atStart => exact ⟨0, Nat.zero_le _, rfl, _, _, _, _, _, _, H2.out⟩
   case round =>
    obtain ⟨j, hj, rfl, hxx⟩ := hrel
    obtain ⟨vB3, vP3, vin3, vof3, vbe3, vT3, h3⟩ := hxx
    by_cases hjl : j < l.length
    ·obtain ⟨ad, rfl, kc⟩ := Kb.out j hjl
     have c := kc wr h3.sp.old
     obtain ⟨q, Hq⟩ : ∃ q, Hid (l[j] = q) := ⟨_, hid rfl⟩
     have hqn : q < T.foes.length := by rw [← Hq.out]; exact Hblt.out _ (List.getElem_mem hjl)
     rw [Hq.out] at c
     have hlen : (innP T k j q).length ≤ 1000000 := by have := Hin.out j q; omega
     have H3 := hid h3
     have Hlen := hid hlen
     clear kc h3 hlen
     go_wp2
     refine layR10 wr W0 _ _ T _ _ H3.out q k hqn Hlen.out _ _ _ _ _ _ _ _ _ _ _ _ _ _ _ _ _ _ _ _ _ _ _ _ _ _ _ _ _ _ _ _ _ _ _ _ _ _ _ _ _ _ _ _ _ _ _ _ _ _ _ _ _ _ _ _ _ _ _ _ _ _ _ _ _ _ _ _ _ _ _ _ _ _ _ _ _ _ _ _ _ _ _ _ _ _ _ _ _ _ _ _ _ _ _ _ _ _ _ _ _ _ _ _ _ _ _ _ _ _ _ _ _ _ _ _ _ _ _ _ _ _ _ _ _ _ _ _ _ _ _ _ _ _ _ _ _ _ _ _ _ _ _ _ _ _ _ _ _ _ _ _ _ _ _ _ _ _ _ _ _ _ _ _ _ _ _ _ _ _ _ _ _ _ _ _ _ _ _ _ _ _ _ _ _ _ _ _ _ _ _ _ _ _ _ _ _ _ _ _ _ _ _ _ _ _ _ _ _ _ _ _ _ _ _ _ _ _ _ _ _ _ _ _ _ _ _ _ _ _ _ _ _ _ _ _ _ _ _ _ _ _ _ _ _ _ _ _ _ _ _ _ _ _ _ _ _ _ _ _ _ _ _ _ _ _ _ _ _ _ _ _ _ _ _ _ _ _ _ _ _ _ _ _ _ _ _ _ _ _ _ _ _ _ _ _ _ _ _ _ _ _ _ _ _ _ _ _ _ _ _ _ _ _ _ _ _ _ _ _ _ _ _ _ _ _ _ _ _ _ _ _ _ _ _ _ _ _ _ _ _ _ _ _ _ _ _ _ _ _ _ _ _ _ _ _ _ _ _ _ _ _ _ _ _ _ _ ?_
     intro z98 z99 z100 z101 z102 z103 z104 z105 z106 z107 z108 z109 z110 z111 z112 z113 w4 v' h4
     have H4 := hid h4
     clear h4 c
     go_wp2
     go_roundw
     case rel =>
      have hs := Hsucc.out j hjl
      rw [Hq.out] at hs
      have h5 := H4.out
      refine ⟨j + 1, by omega, by go_num, ?_⟩
      rw [hs]
      exact ⟨_, _, _, _, _, _, h5⟩
     case measure => simp [intOf]; omega
    ·obtain rfl : j = l.length := by omega
     have x20 : wr.cell? ⟨z, 0, none⟩ = some (.int .i64 kd) := cell_of_row wr _ 0 _ _ _ (h3.atX2 rfl)
     have hhr : k < (stI T (innP T k l.length)).m := hlt
     have HD : Hid (layD1 T (k + 1) = layB (stc0 T) (layA (stc0 T) (setNeeds (layD1 T k) k (l.length : Int)) k) k) := hid (by rw [layD1_succ]; unfold layRD; rw [← Hdl.out])
     by_cases hk1 : kd = 1
     ·have HdA : Hid (layA (stc0 T) (setNeeds (layD1 T k) k (l.length : Int)) k = incStrict (setNeeds (layD1 T k) k (l.length : Int)) hd) := hid (layA_t (by rw [Hkd.out]; exact hk1) Hhd.out)
      have Hh3 := hid h3
      clear h3
      go_wp2
      refine layR13 wr W0 _ _ T _ _ Hh3.out z kd hd _ l.length c2 rfl hhn _ _ _ _ _ _ _ _ _ _ _ _ _ _ _ _ _ _ _ _ _ _ _ _ _ _ _ _ _ _ _ _ _ _ _ _ _ _ _ _ _ _ _ _ _ _ _ _ _ _ _ _ _ _ _ _ _ _ _ _ _ _ _ _ _ _ _ _ _ _ _ _ _ _ _ _ _ _ _ _ _ _ _ _ _ _ _ _ _ _ _ _ _ _ _ _ _ _ _ _ _ _ _ _ _ _ _ _ _ _ _ _ _ _ _ _ _ _ _ _ _ _ _ _ _ _ _ _ _ _ _ _ _ _ _ _ _ _ _ _ _ _ _ _ _ _ _ _ _ _ _ _ _ _ _ _ _ _ _ _ _ _ _ _ _ _ _ _ _ _ _ _ _ _ _ _ _ _ _ _ _ _ _ _ _ _ _ _ _ _ _ _ _ _ _ _ _ _ _ _ _ _ _ _ _ _ _ _ _ _ _ _ _ _ _ _ _ _ _ _ _ _ _ _ _ _ _ _ _ _ _ _ _ _ _ _ _ _ _ _ _ _ _ _ _ _ _ _ _ _ _ _ _ _ _ _ _ _ _ _ _ _ _ _ _ _ _ _ _ _ _ _ _ _ _ _ _ _ _ _ _ _ _ _ _ _ _ _ _ _ _ _ _ _ _ _ _ _ _ _ _ _ _ _ _ _ _ _ _ _ _ _ _ _ _ _ _ _ _ _ _ _ _ _ _ _ _ _ _ _ _ _ _ _ _ _ _ _ _ _ _ _ _ _ _ _ _ _ _ _ _ _ _ _ _ _ _ _ _ _ _ _ _ _ _ _ _ _ ?_
      intro v118 v119 v120 v121 v122 v123 v124 v125 v126 v127 w6 h6
      have Hsup := hid (esup_any w6 W0 _ _ T _ ⟨_, h6⟩ k hhr)
      have hse : supR (stI T (innP T k l.length)) k = supR (stc0 T) k := rfl
      rw [hse] at Hsup
      have Hh6 := hid h6
      cases hsp : supR (stc0 T) k with
      | true =>
       have Hsp := hid hsp
       rw [hsp] at Hsup
       clear hsp hse
       go_wp2_with (go_at_call 87; refine Hsup.out.mono ?_; rintro e w9 ⟨_, rfl, rfl, rfl⟩)
       refine layR15 w6 W0 _ _ T _ _ Hh6.out z kd hd _ l.length c2 rfl hhn _ _ _ _ _ _ _ _ _ _ _ _ _ _ _ _ _ _ _ _ _ _ _ _ _ _ _ _ _ _ _ _ _ _ _ _ _ _ _ _ _ _ _ _ _ _ _ _ _ _ _ _ _ _ _ _ _ _ _ _ _ _ _ _ _ _ _ _ _ _ _ _ _ _ _ _ _ _ _ _ _ _ _ _ _ _ _ _ _ _ _ _ _ _ _ _ _ _ _ _ _ _ _ _ _ _ _ _ _ _ _ _ _ _ _ _ _ _ _ _ _ _ _ _ _ _ _ _ _ _ _ _ _ _ _ _ _ _ _ _ _ _ _ _ _ _ _ _ _ _ _ _ _ _ _ _ _ _ _ _ _ _ _ _ _ _ _ _ _ _ _ _ _ _ _ _ _ _ _ _ _ _ _ _ _ _ _ _ _ _ _ _ _ _ _ _ _ _ _ _ _ _ _ _ _ _ _ _ _ _ _ _ _ _ _ _ _ _ _ _ _ _ _ _ _ _ _ _ _ _ _ _ _ _ _ _ _ _ _ _ _ _ _ _ _ _ _ _ _ _ _ _ _ _ _ _ _ _ _ _ _ _ _ _ _ _ _ _ _ _ _ _ _ _ _ _ _ _ _ _ _ _ _ _ _ _ _ _ _ _ _ _ _ _ _ _ _ _ _ _ _ _ _ _ _ _ _ _ _ _ _ _ _ _ _ _ _ _ _ _ _ _ _ _ _ _ _ _ _ _ _ _ _ _ _ _ _ _ _ _ _ _ _ _ _ _ _ _ _ _ _ _ _ _ _ _ _ _ _ _ _ _ _ _ _ _ _ _ ?_
       intro v131 v132 v133 v134 v135 v136 v137 v138 v139 v140 w7 h7
       have Hh7 := hid h7
       clear h7
       go_wp2
       go_roundw
       case rel =>
        refine ⟨k + 1, by omega, by go_num, ?_⟩
        rw [← Hall.out, HD.out, HdA.out, layB_t Hsp.out Hhd.out]
        exact ⟨_, _, _, _, _, _, _, Hh7.out⟩
       case measure => simp [intOf]; omega
      | false =>
       have Hsp := hid hsp
       rw [hsp] at Hsup
       clear hsp hse
       go_wp2_with (go_at_call 87; refine Hsup.out.mono ?_; rintro e w9 ⟨_, rfl, rfl, rfl⟩)
       go_roundw
       case rel =>
        refine ⟨k + 1, by omega, by go_num, ?_⟩
        rw [← Hall.out, HD.out, HdA.out, layB_f Hsp.out]
        exact ⟨_, _, _, _, _, _, _, Hh6.out⟩
       case measure => simp [intOf]; omega
     ·have HdA : Hid (layA (stc0 T) (setNeeds (layD1 T k) k (l.length : Int)) k = setNeeds (layD1 T k) k (l.length : Int)) := hid (layA_f (by rw [Hkd.out]; exact hk1))
      have h6 := h3
      clear h3
      have Hsup := hid (esup_any wr W0 _ _ T _ ⟨_, h6⟩ k hhr)
      have hse : supR (stI T (innP T k l.length)) k = supR (stc0 T) k := rfl
      rw [hse] at Hsup
      have Hh6 := hid h6
      cases hsp : supR (stc0 T) k with
      | true =>
       have Hsp := hid hsp
       rw [hsp] at Hsup
       clear hsp hse
       go_wp2_with (go_at_call 87; refine Hsup.out.mono ?_; rintro e w9 ⟨_, rfl, rfl, rfl⟩)
       refine layR15 wr W0 _ _ T _ _ Hh6.out z kd hd _ l.length c2 rfl hhn _ _ _ _ _ _ _ _ _ _ _ _ _ _ _ _ _ _ _ _ _ _ _ _ _ _ _ _ _ _ _ _ _ _ _ _ _ _ _ _ _ _ _ _ _ _ _ _ _ _ _ _ _ _ _ _ _ _ _ _ _ _ _ _ _ _ _ _ _ _ _ _ _ _ _ _ _ _ _ _ _ _ _ _ _ _ _ _ _ _ _ _ _ _ _ _ _ _ _ _ _ _ _ _ _ _ _ _ _ _ _ _ _ _ _ _ _ _ _ _ _ _ _ _ _ _ _ _ _ _ _ _ _ _ _ _ _ _ _ _ _ _ _ _ _ _ _ _ _ _ _ _ _ _ _ _ _ _ _ _ _ _ _ _ _ _ _ _ _ _ _ _ _ _ _ _ _ _ _ _ _ _ _ _ _ _ _ _ _ _ _ _ _ _ _ _ _ _ _ _ _ _ _ _ _ _ _ _ _ _ _ _ _ _ _ _ _ _ _ _ _ _ _ _ _ _ _ _ _ _ _ _ _ _ _ _ _ _ _ _ _ _ _ _ _ _ _ _ _ _ _ _ _ _ _ _ _ _ _ _ _ _ _ _ _ _ _ _ _ _ _ _ _ _ _ _ _ _ _ _ _ _ _ _ _ _ _ _ _ _ _ _ _ _ _ _ _ _ _ _ _ _ _ _ _ _ _ _ _ _ _ _ _ _ _ _ _ _ _ _ _ _ _ _ _ _ _ _ _ _ _ _ _ _ _ _ _ _ _ _ _ _ _ _ _ _ _ _ _ _ _ _ _ _ _ _ _ _ _ _ _ _ _ _ _ _ _ _ ?_
       intro v131 v132 v133 v134 v135 v136 v137 v138 v139 v140 w7 h7
       have Hh7 := hid h7
       clear h7
       go_wp2
       go_roundw
       case rel =>
        refine ⟨k + 1, by omega, by go_num, ?_⟩
        rw [← Hall.out, HD.out, HdA.out, layB_t Hsp.out Hhd.out]
        exact ⟨_, _, _, _, _, _, _, Hh7.out⟩
       case measure => simp [intOf]; omega
      | false =>
       have Hsp := hid hsp
       rw [hsp] at Hsup
       clear hsp hse
       go_wp2_with (go_at_call 87; refine Hsup.out.mono ?_; rintro e w9 ⟨_, rfl, rfl, rfl⟩)
       go_roundw
       case rel =>
        refine ⟨k + 1, by omega, by go_num, ?_⟩
        rw [← Hall.out, HD.out, HdA.out, layB_f Hsp.out]
        exact ⟨_, _, _, _, _, _, _, Hh6.out⟩
       case measure => simp [intOf]; omega
  ·obtain rfl : k = T.rules.length := by omega
   have hla2 := hid hla
   clear hla
   go_wp2
   exact HK.out _ _ ⟨rfl, rfl, rfl, rfl, rfl, rfl⟩ hla2.out
end Go.Proofs.Lx

namespace Go.Proofs.Lx
open Go Go.RowKit Go.Proofs.Tj
set_option linter.unusedVariables false
set_option linter.unusedSimpArgs false

noncomputable def layR17 : Code := fstC layRest3
noncomputable def laySeg18 : Code := fstC (sndC layRest3)
theorem memUpd (l : List Nat) (q : Nat) : (fun j => Value.bool (Tj.upd (fun q => decide (q ∈ l)) q true j)) = fun j => Value.bool (decide (j ∈ l ++ [q])) := by
 funext j
 congr 1
 unfold Tj.upd
 by_cases e : j = q
 ·rw [if_pos e]; simp [e]
 ·rw [if_neg e]; simp [e]
def tell1 (D : Dyn) (q : Nat) : Dyn := tellD D q 1
theorem steps_tells {n : Nat} (l : List Nat) (D : Dyn) (h : ∀ x ∈ l, x < n) : Steps n D (l.foldl tell1 D) := steps_foldl l D fun x hx D => Steps.tell1 (h x hx) (by omega) (by omega)
set_option maxRecDepth 1000000 in
set_option maxHeartbeats 60000000 in
theorem lay_r17 (w W0 : World) (b bt : Nat) (g : Key → Nat) (vF vR vl : Value) (T : Th) (S : Stc) (D : Dyn) (h : LayAt w W0 b g .no vF vR S T D) (f : Nat → Value) (K : Act → World → Prop) (Q' : Exit → Act → World → Prop)
  (hK : ∀ (t : Array Value) (w' : World) (gx : Nat), LF t vl bt T.foes.length T.rules.length b → t[12]? = some (sl gx T.foes.length) → LayAt w' W0 b g (.arr (sl gx T.foes.length) 4 1 T.foes.length (tab T.foes.length fun _ => Value.bool false)) vF vR S T D → K ⟨t, []⟩ w') :
  Code.wp Tryz.prog layR17 (Exit.then K Q') ⟨#[(f 0), vl, .pointer (some ⟨bt, 0, none⟩), (f 3), (f 4), .int .i64 (T.foes.length : Int), .int .i64 (T.rules.length : Int), .pointer (some ⟨b, 0, none⟩), (f 8), (f 9), (f 10), (f 11), (f 12), (f 13), (f 14), (f 15), (f 16), (f 17), (f 18), (f 19), (f 20), (f 21), (f 22), (f 23), (f 24), (f 25), (f 26), (f 27), (f 28), (f 29), (f 30), (f 31), (f 32), (f 33), (f 34), (f 35), (f 36), (f 37), (f 38), (f 39), (f 40), (f 41), (f 42), (f 43), (f 44), (f 45), (f 46), (f 47), (f 48), (f 49), (f 50), (f 51), (f 52), (f 53), (f 54), (f 55), (f 56), (f 57), (f 58), (f 59), (f 60), (f 61), (f 62), (f 63), (f 64), (f 65), (f 66), (f 67), (f 68), (f 69), (f 70), (f 71), (f 72), (f 73), (f 74), (f 75), (f 76), (f 77), (f 78), (f 79), (f 80), (f 81), (f 82), (f 83), (f 84), (f 85), (f 86), (f 87), (f 88), (f 89), (f 90), (f 91), (f 92), (f 93), (f 94), (f 95), (f 96), (f 97), (f 98), (f 99), (f 100), (f 101), (f 102), (f 103), (f 104), (f 105), (f 106), (f 107), (f 108), (f 109), (f 110), (f 111), (f 112), (f 113), (f 114), (f 115), (f 116), (f 117), (f 118), (f 119), (f 120), (f 121), (f 122), (f 123), (f 124), (f 125), (f 126), (f 127), (f 128), (f 129), (f 130), (f 131), (f 132), (f 133), (f 134), (f 135), (f 136), (f 137), (f 138), (f 139), (f 140), (f 141), (f 142), (f 143), (f 144), (f 145), (f 146), (f 147), (f 148), (f 149), (f 150), (f 151), (f 152), (f 153), (f 154), (f 155), (f 156), (f 157), (f 158), (f 159), (f 160), (f 161), (f 162), (f 163), (f 164), (f 165), (f 166), (f 167), (f 168), (f 169), (f 170), (f 171), (f 172), (f 173), (f 174), (f 175), (f 176), (f 177), (f 178), (f 179), (f 180), (f 181), (f 182), (f 183), (f 184), (f 185), (f 186), (f 187), (f 188), (f 189), (f 190), (f 191), (f 192), (f 193), (f 194), (f 195), (f 196), (f 197), (f 198), (f 199), (f 200), (f 201), (f 202), (f 203), (f 204), (f 205), (f 206), (f 207), (f 208), (f 209), (f 210), (f 211), (f 212), (f 213), (f 214), (f 215), (f 216), (f 217), (f 218), (f 219), (f 220), (f 221), (f 222), (f 223), (f 224), (f 225), (f 226), (f 227), (f 228), (f 229), (f 230), (f 231), (f 232), (f 233), (f 234), (f 235), (f 236), (f 237), (f 238), (f 239), (f 240), (f 241), (f 242), (f 243), (f 244), (f 245), (f 246), (f 247), (f 248), (f 249), (f 250), (f 251), (f 252), (f 253), (f 254), (f 255), (f 256), (f 257), (f 258), (f 259), (f 260), (f 261), (f 262), (f 263), (f 264), (f 265), (f 266), (f 267), (f 268), (f 269), (f 270), (f 271), (f 272), (f 273), (f 274), (f 275), (f 276), (f 277), (f 278), (f 279), (f 280), (f 281), (f 282), (f 283), (f 284), (f 285), (f 286), (f 287), (f 288), (f 289), (f 290), (f 291), (f 292), (f 293), (f 294), (f 295), (f 296), (f 297), (f 298), (f 299), (f 300), (f 301), (f 302), (f 303), (f 304), (f 305), (f 306), (f 307), (f 308), (f 309), (f 310), (f 311), (f 312), (f 313), (f 314), (f 315), (f 316), (f 317), (f 318), (f 319), (f 320), (f 321), (f 322), (f 323), (f 324), (f 325), (f 326), (f 327), (f 328), (f 329), (f 330), (f 331), (f 332), (f 333), (f 334), (f 335), (f 336), (f 337), (f 338), (f 339), (f 340), (f 341), (f 342), (f 343), (f 344), (f 345), (f 346), (f 347), (f 348), (f 349), (f 350), (f 351), (f 352), (f 353), (f 354), (f 355), (f 356), (f 357), (f 358), (f 359), (f 360), (f 361), (f 362), (f 363), (f 364), (f 365), (f 366), (f 367), (f 368)], []⟩ w := by
 have HK := hid hK
 obtain ⟨vB, vP, vin, vof, vbe, x2, vT, h⟩ := h
 have hn4 := h.st.n4
 rw [← h.st.n] at hn4
 have H1 := hid (h.madeX1 T.foes.length (by unfold maxLen; omega))
 have hmk := mkB (T.foes.length : Int) (by omega) (by omega)
 simp only [made_rep, Int.toNat_natCast] at hmk
 clear hK h
 conv => arg 2; whnf
 go_wp2
 refine HK.out _ _ w.heap.size ?_ ?_ ⟨_, _, _, _, _, _, _, H1.out⟩
 ·exact ⟨rfl, rfl, rfl, rfl, rfl, rfl⟩
 ·rfl
set_option maxRecDepth 1000000 in
set_option maxHeartbeats 60000000 in
theorem lay_s18 (w W0 : World) (b bt : Nat) (g : Key → Nat) (vF vR vl : Value) (T : Th) (S : Stc) (D : Dyn) (gx : Nat) (fl : List Nat) (h : LayAt w W0 b g (.arr (sl gx T.foes.length) 4 1 T.foes.length (tab T.foes.length fun _ => Value.bool false)) vF vR S T D) (hti : TI S.n D) (hfl : RdI W0 vl (fl.map fun (x : Nat) => (x : Int))) (hfn : ∀ x ∈ fl, x < S.n) (f : Nat → Value) (K : Act → World → Prop) (Q' : Exit → Act → World → Prop)
  (hK : ∀ (t : Array Value) (w' : World), LF t vl bt T.foes.length T.rules.length b → t[12]? = some (sl gx T.foes.length) → LayAt w' W0 b g (.arr (sl gx T.foes.length) 4 1 T.foes.length (tab T.foes.length fun q => Value.bool (decide (q ∈ fl)))) vF vR S T (fl.foldl tell1 D) → K ⟨t, []⟩ w') :
  Code.wp Tryz.prog laySeg18 (Exit.then K Q') ⟨#[(f 0), vl, .pointer (some ⟨bt, 0, none⟩), (f 3), (f 4), .int .i64 (T.foes.length : Int), .int .i64 (T.rules.length : Int), .pointer (some ⟨b, 0, none⟩), (f 8), (f 9), (f 10), (f 11), sl gx T.foes.length, (f 13), (f 14), (f 15), (f 16), (f 17), (f 18), (f 19), (f 20), (f 21), (f 22), (f 23), (f 24), (f 25), (f 26), (f 27), (f 28), (f 29), (f 30), (f 31), (f 32), (f 33), (f 34), (f 35), (f 36), (f 37), (f 38), (f 39), (f 40), (f 41), (f 42), (f 43), (f 44), (f 45), (f 46), (f 47), (f 48), (f 49), (f 50), (f 51), (f 52), (f 53), (f 54), (f 55), (f 56), (f 57), (f 58), (f 59), (f 60), (f 61), (f 62), (f 63), (f 64), (f 65), (f 66), (f 67), (f 68), (f 69), (f 70), (f 71), (f 72), (f 73), (f 74), (f 75), (f 76), (f 77), (f 78), (f 79), (f 80), (f 81), (f 82), (f 83), (f 84), (f 85), (f 86), (f 87), (f 88), (f 89), (f 90), (f 91), (f 92), (f 93), (f 94), (f 95), (f 96), (f 97), (f 98), (f 99), (f 100), (f 101), (f 102), (f 103), (f 104), (f 105), (f 106), (f 107), (f 108), (f 109), (f 110), (f 111), (f 112), (f 113), (f 114), (f 115), (f 116), (f 117), (f 118), (f 119), (f 120), (f 121), (f 122), (f 123), (f 124), (f 125), (f 126), (f 127), (f 128), (f 129), (f 130), (f 131), (f 132), (f 133), (f 134), (f 135), (f 136), (f 137), (f 138), (f 139), (f 140), (f 141), (f 142), (f 143), (f 144), (f 145), (f 146), (f 147), (f 148), (f 149), (f 150), (f 151), (f 152), (f 153), (f 154), (f 155), (f 156), (f 157), (f 158), (f 159), (f 160), (f 161), (f 162), (f 163), (f 164), (f 165), (f 166), (f 167), (f 168), (f 169), (f 170), (f 171), (f 172), (f 173), (f 174), (f 175), (f 176), (f 177), (f 178), (f 179), (f 180), (f 181), (f 182), (f 183), (f 184), (f 185), (f 186), (f 187), (f 188), (f 189), (f 190), (f 191), (f 192), (f 193), (f 194), (f 195), (f 196), (f 197), (f 198), (f 199), (f 200), (f 201), (f 202), (f 203), (f 204), (f 205), (f 206), (f 207), (f 208), (f 209), (f 210), (f 211), (f 212), (f 213), (f 214), (f 215), (f 216), (f 217), (f 218), (f 219), (f 220), (f 221), (f 222), (f 223), (f 224), (f 225), (f 226), (f 227), (f 228), (f 229), (f 230), (f 231), (f 232), (f 233), (f 234), (f 235), (f 236), (f 237), (f 238), (f 239), (f 240), (f 241), (f 242), (f 243), (f 244), (f 245), (f 246), (f 247), (f 248), (f 249), (f 250), (f 251), (f 252), (f 253), (f 254), (f 255), (f 256), (f 257), (f 258), (f 259), (f 260), (f 261), (f 262), (f 263), (f 264), (f 265), (f 266), (f 267), (f 268), (f 269), (f 270), (f 271), (f 272), (f 273), (f 274), (f 275), (f 276), (f 277), (f 278), (f 279), (f 280), (f 281), (f 282), (f 283), (f 284), (f 285), (f 286), (f 287), (f 288), (f 289), (f 290), (f 291), (f 292), (f 293), (f 294), (f 295), (f 296), (f 297), (f 298), (f 299), (f 300), (f 301), (f 302), (f 303), (f 304), (f 305), (f 306), (f 307), (f 308), (f 309), (f 310), (f 311), (f 312), (f 313), (f 314), (f 315), (f 316), (f 317), (f 318), (f 319), (f 320), (f 321), (f 322), (f 323), (f 324), (f 325), (f 326), (f 327), (f 328), (f 329), (f 330), (f 331), (f 332), (f 333), (f 334), (f 335), (f 336), (f 337), (f 338), (f 339), (f 340), (f 341), (f 342), (f 343), (f 344), (f 345), (f 346), (f 347), (f 348), (f 349), (f 350), (f 351), (f 352), (f 353), (f 354), (f 355), (f 356), (f 357), (f 358), (f 359), (f 360), (f 361), (f 362), (f 363), (f 364), (f 365), (f 366), (f 367), (f 368)], []⟩ w := by
 have HK := hid hK
 have Hti := hid hti
 have Hfn := hid hfn
 have H0 := hid h
 obtain ⟨A, c, rfl, hc, hb, hr⟩ := hfl
 have Hr := hid hr
 simp only [List.length_map] at hc hb HK
 have Hn : Hid (T.foes.length = S.n) := let ⟨_, _, _, _, _, _, _, k⟩ := h; hid k.st.n
 have hn4 : S.n ≤ 4096 := let ⟨_, _, _, _, _, _, _, k⟩ := h; k.st.n4
 clear hK h hti hfn hr
 conv => arg 2; whnf
 simp only [List.length_map]
 go_wp2
 go_loopw [146] (fun v146 wr => ∃ k : Nat, k ≤ fl.length ∧ v146 = .int .i64 k ∧ LayAt wr W0 b g (.arr (sl gx T.foes.length) 4 1 T.foes.length (tab T.foes.length fun q => Value.bool (decide (q ∈ fl.take k)))) vF vR S T ((fl.take k).foldl tell1 D)) (fun v146 _ => fl.length - (intOf v146).toNat)
 case atStart =>
  have := H0.out
  exact ⟨0, Nat.zero_le _, rfl, by simpa using this⟩
 case round =>
  obtain ⟨k, hk, rfl, hla⟩ := hrel
  by_cases hlt : k < fl.length
  ·obtain ⟨vB, vP, vin, vof, vbe, x2, vT, h⟩ := hla
   obtain ⟨ad, rfl, hcell⟩ := natsRcI Hr.out hlt
   replace hcell := cell_ext h.sp.old hcell
   obtain ⟨q, Hq⟩ : ∃ q, Hid (fl[k] = q) := ⟨_, hid rfl⟩
   have hqS : q < S.n := by rw [← Hq.out]; exact Hfn.out _ (List.getElem_mem hlt)
   have hqT : q < T.foes.length := by rw [Hn.out]; exact hqS
   rw [Hq.out] at hcell
   obtain ⟨x1c, x1f⟩ := h.readX1 rfl hqT
   have Htk : Hid (fl.take (k + 1) = fl.take k ++ [q]) := hid (by rw [List.take_add_one, List.getElem?_eq_getElem hlt, Hq.out]; rfl)
   have h2 := h.writeX1 rfl q true
   have hti2 := Hti.out.steps (steps_tells (fl.take k) D fun x hx => Hfn.out x (List.mem_of_mem_take hx))
   have Htell := hid (etell_any _ W0 _ S T _ ⟨_, h2⟩ hti2 q 1 hqS (by omega) (by omega))
   unfold Stp at Htell
   clear h h2 hti2
   go_wp2_with (go_at_call 88; refine Htell.out.mono ?_; rintro e w9 ⟨_, rfl, rfl, he⟩)
   go_roundw
   case rel =>
    obtain ⟨_, h5⟩ := he
    rw [memUpd] at h5
    refine ⟨k + 1, by omega, by go_num, ?_⟩
    rw [Htk.out, List.foldl_append]
    exact ⟨_, _, _, _, _, _, _, h5⟩
   case measure => simp [intOf]; omega
  ·obtain rfl : k = fl.length := by omega
   rw [List.take_length] at hla
   have hla2 := hid hla
   clear hla
   go_wp2
   refine HK.out _ _ ?_ ?_ hla2.out
   ·exact ⟨rfl, rfl, rfl, rfl, rfl, rfl⟩
   ·rfl
end Go.Proofs.Lx
