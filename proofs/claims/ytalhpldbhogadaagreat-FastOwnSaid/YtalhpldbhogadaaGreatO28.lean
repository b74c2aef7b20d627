/- Parts of the proof: Fi, Fj, Fz, Ng, Nh, Nw, Nr, Ne. lay: the rules without a body. Printed by gen_lay.py. No condition. -/
import Derived.Test.YtalhpldbhogadaaGreatO21
import Derived.Test.YtalhpldbhogadaaGreatO24
import Derived.Test.YtalhpldbhogadaaGreatO25
import Derived.Test.YtalhpldbhogadaaGreatO26
import Derived.Test.YtalhpldbhogadaaGreatO27
import Derived.Test.YtalhpldbhogadaaGreatO9
import Derived.Deep.DeepCutAuto
import Derived.Test.YtalhpldbhogadaaGreatO8
import Derived.Deep.RegionHeld3
namespace Go.Proofs.Lx
open Go Go.RowKit Go.Proofs.Tj
set_option linter.unusedVariables false
set_option linter.unusedSimpArgs false

noncomputable def laySeg24 : Code := fstC (sndC (sndC layRest3))
def tellR (S : Stc) (D : Dyn) (r : Nat) : Dyn := if strR S r = true ∧ S.bodyLen r = 0 then tellD D (S.head r) 1 else D
theorem steps_tellR {n : Nat} {S : Stc} {r : Nat} (h : S.head r < n) (D : Dyn) : Steps n D (tellR S D r) := by
 unfold tellR; split
 ·exact Steps.tell1 h (by omega) (by omega)
 ·exact Steps.refl D
theorem range_foldl_succ {α : Type} (f : α → Nat → α) (D : α) (k : Nat) : (List.range (k + 1)).foldl f D = f ((List.range k).foldl f D) k := by rw [List.range_succ, List.foldl_append]; rfl
theorem lt_of_range {k n r : Nat} (h : k ≤ n) (hr : r ∈ List.range k) : r < n := by rw [List.mem_range] at hr; omega
set_option maxRecDepth 1000000 in
set_option maxHeartbeats 60000000 in
theorem lay_s24 (w W0 : World) (b bt : Nat) (g : Key → Nat) (vF vR vl : Value) (T : Th) (S : Stc) (D : Dyn) (X1 : Cont) (v12 : Value) (h : LayAt w W0 b g X1 vF vR S T D) (hti : TI S.n D) (hbox : ∀ W : World, Below W0.heap.size W0 W → W.cell? ⟨bt, 0, none⟩ = some (.int .i64 (T.foes.length : Int)) ∧ W.cell? ⟨bt, 1, none⟩ = some vF ∧ W.cell? ⟨bt, 2, none⟩ = some vR) (f : Nat → Value) (K : Act → World → Prop) (Q' : Exit → Act → World → Prop)
  (hK : ∀ (t : Array Value) (w' : World), LF t vl bt T.foes.length T.rules.length b → t[12]? = some v12 → LayAt w' W0 b g X1 vF vR S T ((List.range S.m).foldl (tellR S) D) → K ⟨t, []⟩ w') :
  Code.wp Tryz.prog laySeg24 (Exit.then K Q') ⟨#[(f 0), vl, .pointer (some ⟨bt, 0, none⟩), (f 3), (f 4), .int .i64 (T.foes.length : Int), .int .i64 (T.rules.length : Int), .pointer (some ⟨b, 0, none⟩), (f 8), (f 9), (f 10), (f 11), v12, (f 13), (f 14), (f 15), (f 16), (f 17), (f 18), (f 19), (f 20), (f 21), (f 22), (f 23), (f 24), (f 25), (f 26), (f 27), (f 28), (f 29), (f 30), (f 31), (f 32), (f 33), (f 34), (f 35), (f 36), (f 37), (f 38), (f 39), (f 40), (f 41), (f 42), (f 43), (f 44), (f 45), (f 46), (f 47), (f 48), (f 49), (f 50), (f 51), (f 52), (f 53), (f 54), (f 55), (f 56), (f 57), (f 58), (f 59), (f 60), (f 61), (f 62), (f 63), (f 64), (f 65), (f 66), (f 67), (f 68), (f 69), (f 70), (f 71), (f 72), (f 73), (f 74), (f 75), (f 76), (f 77), (f 78), (f 79), (f 80), (f 81), (f 82), (f 83), (f 84), (f 85), (f 86), (f 87), (f 88), (f 89), (f 90), (f 91), (f 92), (f 93), (f 94), (f 95), (f 96), (f 97), (f 98), (f 99), (f 100), (f 101), (f 102), (f 103), (f 104), (f 105), (f 106), (f 107), (f 108), (f 109), (f 110), (f 111), (f 112), (f 113), (f 114), (f 115), (f 116), (f 117), (f 118), (f 119), (f 120), (f 121), (f 122), (f 123), (f 124), (f 125), (f 126), (f 127), (f 128), (f 129), (f 130), (f 131), (f 132), (f 133), (f 134), (f 135), (f 136), (f 137), (f 138), (f 139), (f 140), (f 141), (f 142), (f 143), (f 144), (f 145), (f 146), (f 147), (f 148), (f 149), (f 150), (f 151), (f 152), (f 153), (f 154), (f 155), (f 156), (f 157), (f 158), (f 159), (f 160), (f 161), (f 162), (f 163), (f 164), (f 165), (f 166), (f 167), (f 168), (f 169), (f 170), (f 171), (f 172), (f 173), (f 174), (f 175), (f 176), (f 177), (f 178), (f 179), (f 180), (f 181), (f 182), (f 183), (f 184), (f 185), (f 186), (f 187), (f 188), (f 189), (f 190), (f 191), (f 192), (f 193), (f 194), (f 195), (f 196), (f 197), (f 198), (f 199), (f 200), (f 201), (f 202), (f 203), (f 204), (f 205), (f 206), (f 207), (f 208), (f 209), (f 210), (f 211), (f 212), (f 213), (f 214), (f 215), (f 216), (f 217), (f 218), (f 219), (f 220), (f 221), (f 222), (f 223), (f 224), (f 225), (f 226), (f 227), (f 228), (f 229), (f 230), (f 231), (f 232), (f 233), (f 234), (f 235), (f 236), (f 237), (f 238), (f 239), (f 240), (f 241), (f 242), (f 243), (f 244), (f 245), (f 246), (f 247), (f 248), (f 249), (f 250), (f 251), (f 252), (f 253), (f 254), (f 255), (f 256), (f 257), (f 258), (f 259), (f 260), (f 261), (f 262), (f 263), (f 264), (f 265), (f 266), (f 267), (f 268), (f 269), (f 270), (f 271), (f 272), (f 273), (f 274), (f 275), (f 276), (f 277), (f 278), (f 279), (f 280), (f 281), (f 282), (f 283), (f 284), (f 285), (f 286), (f 287), (f 288), (f 289), (f 290), (f 291), (f 292), (f 293), (f 294), (f 295), (f 296), (f 297), (f 298), (f 299), (f 300), (f 301), (f 302), (f 303), (f 304), (f 305), (f 306), (f 307), (f 308), (f 309), (f 310), (f 311), (f 312), (f 313), (f 314), (f 315), (f 316), (f 317), (f 318), (f 319), (f 320), (f 321), (f 322), (f 323), (f 324), (f 325), (f 326), (f 327), (f 328), (f 329), (f 330), (f 331), (f 332), (f 333), (f 334), (f 335), (f 336), (f 337), (f 338), (f 339), (f 340), (f 341), (f 342), (f 343), (f 344), (f 345), (f 346), (f 347), (f 348), (f 349), (f 350), (f 351), (f 352), (f 353), (f 354), (f 355), (f 356), (f 357), (f 358), (f 359), (f 360), (f 361), (f 362), (f 363), (f 364), (f 365), (f 366), (f 367), (f 368)], []⟩ w := by
 have HK := hid hK
 have Hti := hid hti
 have Hbox := hid hbox
 have H0 := hid h
 have Hn : Hid (T.foes.length = S.n) := let ⟨_, _, _, _, _, _, _, k⟩ := h; hid k.st.n
 have Hm : Hid (T.rules.length = S.m) := let ⟨_, _, _, _, _, _, _, k⟩ := h; hid k.st.m
 have hn4 : S.n ≤ 4096 := let ⟨_, _, _, _, _, _, _, k⟩ := h; k.st.n4
 have hm4 : S.m ≤ 4096 := let ⟨_, _, _, _, _, _, _, k⟩ := h; k.st.m4
 have Hhdn : Hid (∀ r, r < S.m → S.head r < S.n) := let ⟨_, _, _, _, _, _, _, k⟩ := h; hid k.st.hdn
 obtain ⟨AR, cR, rfl⟩ : ∃ A c, vR = .slice A S.m c := by
  obtain ⟨_, _, _, _, _, _, _, h0⟩ := h
  obtain ⟨A, c, e, _⟩ := h0.rR
  exact ⟨A, c, by rw [← Hm.out]; exact e⟩
 obtain ⟨_, _, b2⟩ := hbox w (let ⟨_, _, _, _, _, _, _, k⟩ := h; k.sp.old)
 clear hK hti hbox h
 conv => arg 2; whnf
 go_wp2
 clear b2
 go_loopw [160] (fun v160 wr => ∃ k : Nat, k ≤ S.m ∧ v160 = .int .i64 k ∧ LayAt wr W0 b g X1 vF (.slice AR S.m cR) S T ((List.range k).foldl (tellR S) D)) (fun v160 _ => S.m - (intOf v160).toNat)
 case atStart => exact ⟨0, Nat.zero_le _, rfl, H0.out⟩
 case round =>
  obtain ⟨k, hk, rfl, hla⟩ := hrel
  by_cases hlt : k < S.m
  ·obtain ⟨vB, vP, vin, vof, vbe, x2, vT, h⟩ := hla
   obtain ⟨ga, B, c1, c2, eR, kk⟩ := h.rule hlt
   cases eR
   obtain ⟨k0, k1, k2⟩ := kk wr h.sp.old
   have hhd := Hhdn.out k hlt
   have hti2 := Hti.out.steps (steps_foldl (List.range k) D fun r hr D => steps_tellR (Hhdn.out r (lt_of_range hk hr)) D)
   have Hs := hid (range_foldl_succ (tellR S) D k)
   generalize (List.range k).foldl (tellR S) D = Dk at *
   obtain ⟨kd, Hkd⟩ : ∃ kd, Hid (S.kind k = kd) := ⟨_, hid rfl⟩
   obtain ⟨hd, Hhd⟩ : ∃ hd, Hid (S.head k = hd) := ⟨_, hid rfl⟩
   obtain ⟨bl, Hbl⟩ : ∃ bl, Hid (S.bodyLen k = bl) := ⟨_, hid rfl⟩
   rw [Hkd.out] at k0
   rw [Hhd.out] at k1 hhd
   rw [Hbl.out] at k2
   have h1 := h.newX2 (.cells #[.int .i64 kd, .int .i64 (hd : Int), .slice B bl c2] 75)
   have Htell := hid (etell_any _ W0 _ S T _ ⟨_, h1⟩ hti2 hd 1 hhd (by omega) (by omega))
   unfold Stp at Htell
   have H1 := hid h1
   clear h h1 kk hti2
   by_cases hc : kd = 1 ∧ bl = 0
   ·have HtR : Hid (tellR S Dk k = tellD Dk hd 1) := hid (by unfold tellR strR; rw [Hkd.out, Hbl.out, Hhd.out, if_pos ⟨by rw [hc.1]; rfl, hc.2⟩])
    obtain ⟨rfl, rfl⟩ := hc
    go_wp2_with (go_at_call 88; refine Htell.out.mono ?_; rintro e w9 ⟨_, rfl, rfl, he⟩)
    go_roundw
    case rel =>
     obtain ⟨_, h5⟩ := he
     refine ⟨k + 1, by omega, by go_num, ?_⟩
     rw [Hs.out, HtR.out]
     exact ⟨_, _, _, _, _, _, _, h5⟩
    case measure => simp [intOf]; omega
   ·have HtR : Hid (tellR S Dk k = Dk) := hid (by unfold tellR strR; rw [Hkd.out, Hbl.out, if_neg (fun e => hc ⟨by simpa using e.1, e.2⟩)])
    clear Htell
    by_cases hk1 : kd = 1
    ·have hb0 : ¬ ((bl : Int) = 0) := by omega
     subst hk1
     clear hc
     go_wp2
     go_roundw
     case rel =>
      refine ⟨k + 1, by omega, by go_num, ?_⟩
      rw [Hs.out, HtR.out]
      exact ⟨_, _, _, _, _, _, _, H1.out⟩
     case measure => simp [intOf]; omega
    ·clear hc
     go_wp2
     go_roundw
     case rel =>
      refine ⟨k + 1, by omega, by go_num, ?_⟩
      rw [Hs.out, HtR.out]
      exact ⟨_, _, _, _, _, _, _, H1.out⟩
     case measure => simp [intOf]; omega
  ·obtain rfl : k = S.m := by omega
   have hla2 := hid hla
   clear hla
   go_wp2
   refine HK.out _ _ ?_ ?_ hla2.out
   ·exact ⟨rfl, rfl, rfl, rfl, rfl, rfl⟩
   ·rfl
end Go.Proofs.Lx

namespace Go.Proofs.Lx
open Go Go.RowKit Go.Proofs.Tj
set_option linter.unusedVariables false
set_option linter.unusedSimpArgs false

noncomputable def laySeg30 : Code := fstC (sndC (sndC (sndC layRest3)))
def strD (F : Nat → Bool) (D : Dyn) (q : Nat) : Dyn := if F q = true then { D with strict := Tj.upd D.strict q (-1) } else if D.strict q = 0 then tellD D q 2 else D
theorem steps_strD {n : Nat} {F : Nat → Bool} {q : Nat} (h : q < n) (D : Dyn) : Steps n D (strD F D q) := by
 unfold strD; split
 ·exact Steps.oth rfl rfl
 split
 ·exact Steps.tell1 h (by omega) (by omega)
 ·exact Steps.refl D
theorem range_foldl_succ' {α : Type} (f : α → Nat → α) (D : α) (k : Nat) : (List.range (k + 1)).foldl f D = f ((List.range k).foldl f D) k := by rw [List.range_succ, List.foldl_append]; rfl
theorem lt_of_range' {k n r : Nat} (h : k ≤ n) (hr : r ∈ List.range k) : r < n := by rw [List.mem_range] at hr; omega
set_option maxRecDepth 1000000 in
set_option maxHeartbeats 60000000 in
theorem lay_s30 (w W0 : World) (b bt : Nat) (g : Key → Nat) (vF vR vl : Value) (T : Th) (S : Stc) (D : Dyn) (gx : Nat) (F : Nat → Bool) (h : LayAt w W0 b g (.arr (sl gx T.foes.length) 4 1 T.foes.length (tab T.foes.length fun q => Value.bool (F q))) vF vR S T D) (hti : TI S.n D) (hbox : ∀ W : World, Below W0.heap.size W0 W → W.cell? ⟨bt, 0, none⟩ = some (.int .i64 (T.foes.length : Int)) ∧ W.cell? ⟨bt, 1, none⟩ = some vF ∧ W.cell? ⟨bt, 2, none⟩ = some vR) (f : Nat → Value) (K : Act → World → Prop) (Q' : Exit → Act → World → Prop)
  (hK : ∀ (t : Array Value) (w' : World), LF t vl bt T.foes.length T.rules.length b → LayAt w' W0 b g .no vF vR S T ((List.range T.foes.length).foldl (strD F) D) → K ⟨t, []⟩ w') :
  Code.wp Tryz.prog laySeg30 (Exit.then K Q') ⟨#[(f 0), vl, .pointer (some ⟨bt, 0, none⟩), (f 3), (f 4), .int .i64 (T.foes.length : Int), .int .i64 (T.rules.length : Int), .pointer (some ⟨b, 0, none⟩), (f 8), (f 9), (f 10), (f 11), sl gx T.foes.length, (f 13), (f 14), (f 15), (f 16), (f 17), (f 18), (f 19), (f 20), (f 21), (f 22), (f 23), (f 24), (f 25), (f 26), (f 27), (f 28), (f 29), (f 30), (f 31), (f 32), (f 33), (f 34), (f 35), (f 36), (f 37), (f 38), (f 39), (f 40), (f 41), (f 42), (f 43), (f 44), (f 45), (f 46), (f 47), (f 48), (f 49), (f 50), (f 51), (f 52), (f 53), (f 54), (f 55), (f 56), (f 57), (f 58), (f 59), (f 60), (f 61), (f 62), (f 63), (f 64), (f 65), (f 66), (f 67), (f 68), (f 69), (f 70), (f 71), (f 72), (f 73), (f 74), (f 75), (f 76), (f 77), (f 78), (f 79), (f 80), (f 81), (f 82), (f 83), (f 84), (f 85), (f 86), (f 87), (f 88), (f 89), (f 90), (f 91), (f 92), (f 93), (f 94), (f 95), (f 96), (f 97), (f 98), (f 99), (f 100), (f 101), (f 102), (f 103), (f 104), (f 105), (f 106), (f 107), (f 108), (f 109), (f 110), (f 111), (f 112), (f 113), (f 114), (f 115), (f 116), (f 117), (f 118), (f 119), (f 120), (f 121), (f 122), (f 123), (f 124), (f 125), (f 126), (f 127), (f 128), (f 129), (f 130), (f 131), (f 132), (f 133), (f 134), (f 135), (f 136), (f 137), (f 138), (f 139), (f 140), (f 141), (f 142), (f 143), (f 144), (f 145), (f 146), (f 147), (f 148), (f 149), (f 150), (f 151), (f 152), (f 153), (f 154), (f 155), (f 156), (f 157), (f 158), (f 159), (f 160), (f 161), (f 162), (f 163), (f 164), (f 165), (f 166), (f 167), (f 168), (f 169), (f 170), (f 171), (f 172), (f 173), (f 174), (f 175), (f 176), (f 177), (f 178), (f 179), (f 180), (f 181), (f 182), (f 183), (f 184), (f 185), (f 186), (f 187), (f 188), (f 189), (f 190), (f 191), (f 192), (f 193), (f 194), (f 195), (f 196), (f 197), (f 198), (f 199), (f 200), (f 201), (f 202), (f 203), (f 204), (f 205), (f 206), (f 207), (f 208), (f 209), (f 210), (f 211), (f 212), (f 213), (f 214), (f 215), (f 216), (f 217), (f 218), (f 219), (f 220), (f 221), (f 222), (f 223), (f 224), (f 225), (f 226), (f 227), (f 228), (f 229), (f 230), (f 231), (f 232), (f 233), (f 234), (f 235), (f 236), (f 237), (f 238), (f 239), (f 240), (f 241), (f 242), (f 243), (f 244), (f 245), (f 246), (f 247), (f 248), (f 249), (f 250), (f 251), (f 252), (f 253), (f 254), (f 255), (f 256), (f 257), (f 258), (f 259), (f 260), (f 261), (f 262), (f 263), (f 264), (f 265), (f 266), (f 267), (f 268), (f 269), (f 270), (f 271), (f 272), (f 273), (f 274), (f 275), (f 276), (f 277), (f 278), (f 279), (f 280), (f 281), (f 282), (f 283), (f 284), (f 285), (f 286), (f 287), (f 288), (f 289), (f 290), (f 291), (f 292), (f 293), (f 294), (f 295), (f 296), (f 297), (f 298), (f 299), (f 300), (f 301), (f 302), (f 303), (f 304), (f 305), (f 306), (f 307), (f 308), (f 309), (f 310), (f 311), (f 312), (f 313), (f 314), (f 315), (f 316), (f 317), (f 318), (f 319), (f 320), (f 321), (f 322), (f 323), (f 324), (f 325), (f 326), (f 327), (f 328), (f 329), (f 330), (f 331), (f 332), (f 333), (f 334), (f 335), (f 336), (f 337), (f 338), (f 339), (f 340), (f 341), (f 342), (f 343), (f 344), (f 345), (f 346), (f 347), (f 348), (f 349), (f 350), (f 351), (f 352), (f 353), (f 354), (f 355), (f 356), (f 357), (f 358), (f 359), (f 360), (f 361), (f 362), (f 363), (f 364), (f 365), (f 366), (f 367), (f 368)], []⟩ w := by
 have HK := hid hK
 have Hti := hid hti
 have Hbox := hid hbox
 have H0 := hid h
 have Hn : Hid (T.foes.length = S.n) := let ⟨_, _, _, _, _, _, _, k⟩ := h; hid k.st.n
 have Hm : Hid (T.rules.length = S.m) := let ⟨_, _, _, _, _, _, _, k⟩ := h; hid k.st.m
 have hn4 : S.n ≤ 4096 := let ⟨_, _, _, _, _, _, _, k⟩ := h; k.st.n4
 have hm4 : S.m ≤ 4096 := let ⟨_, _, _, _, _, _, _, k⟩ := h; k.st.m4
 have Hhdn : Hid (∀ r, r < S.m → S.head r < S.n) := let ⟨_, _, _, _, _, _, _, k⟩ := h; hid k.st.hdn
 have hn4T : T.foes.length ≤ 4096 := by rw [Hn.out]; exact hn4
 clear hK hti hbox h
 conv => arg 2; whnf
 go_wp2
 go_loopw [179] (fun v179 wr => ∃ k : Nat, k ≤ T.foes.length ∧ v179 = .int .i64 k ∧ LayAt wr W0 b g (.arr (sl gx T.foes.length) 4 1 T.foes.length (tab T.foes.length fun q => Value.bool (F q))) vF vR S T ((List.range k).foldl (strD F) D)) (fun v179 _ => T.foes.length - (intOf v179).toNat)
 case atStart => exact ⟨0, Nat.zero_le _, rfl, H0.out⟩
 case round =>
  obtain ⟨k, hk, rfl, hla⟩ := hrel
  by_cases hlt : k < T.foes.length
  ·obtain ⟨vB, vP, vin, vof, vbe, x2, vT, h⟩ := hla
   have hkS : k < S.n := by rw [← Hn.out]; exact hlt
   have hti2 := Hti.out.steps (steps_foldl (List.range k) D fun r hr D => steps_strD (F := F) (lt_of_range' (show k ≤ S.n by omega) hr) D)
   have Hs := hid (range_foldl_succ' (strD F) D k)
   generalize (List.range k).foldl (strD F) D = Dk at *
   obtain ⟨x1c, _⟩ := h.readX1 rfl hlt
   have e14 := h.hStrict
   rw [← Hn.out] at e14
   have c10 := h.rStrict hkS
   have f10 := h.fStrict k
   have hne := h.bStrict
   have Htell := hid (etell_any _ W0 _ S T _ ⟨_, h⟩ hti2 k 2 hkS (by omega) (by omega))
   unfold Stp at Htell
   have H := hid h
   have Hw := hid (h.wStrict k (-1))
   clear h hti2 hkS
   cases hF : F k with
   | true =>
    have HF := hid hF
    rw [hF] at x1c
    clear hF
    go_wp2
    go_roundw
    case rel =>
     refine ⟨k + 1, by omega, by go_num, ?_⟩
     rw [Hs.out, show strD F Dk k = { Dk with strict := Tj.upd Dk.strict k (-1) } by unfold strD; rw [if_pos HF.out]]
     exact ⟨_, _, _, _, _, _, _, Hw.out⟩
    case measure => simp [intOf]; omega
   | false =>
    have HF := hid hF
    rw [hF] at x1c
    clear hF
    obtain ⟨sx, Hsx⟩ : ∃ sx, Hid (Dk.strict k = sx) := ⟨_, hid rfl⟩
    rw [Hsx.out] at c10
    by_cases h0 : sx = 0
    ·have HtR : Hid (strD F Dk k = tellD Dk k 2) := hid (by unfold strD; rw [if_neg (by rw [HF.out]; exact Bool.false_ne_true), if_pos (by rw [Hsx.out]; exact h0)])
     subst h0
     go_wp2_with (go_at_call 88; refine Htell.out.mono ?_; rintro e w9 ⟨_, rfl, rfl, he⟩)
     go_roundw
     case rel =>
      obtain ⟨_, h5⟩ := he
      refine ⟨k + 1, by omega, by go_num, ?_⟩
      rw [Hs.out, HtR.out]
      exact ⟨_, _, _, _, _, _, _, h5⟩
     case measure => simp [intOf]; omega
    ·have HtR : Hid (strD F Dk k = Dk) := hid (by unfold strD; rw [if_neg (by rw [HF.out]; exact Bool.false_ne_true), if_neg (by rw [Hsx.out]; exact h0)])
     go_wp2
     go_roundw
     case rel =>
      refine ⟨k + 1, by omega, by go_num, ?_⟩
      rw [Hs.out, HtR.out]
      exact ⟨_, _, _, _, _, _, _, H.out⟩
     case measure => simp [intOf]; omega
  ·obtain rfl : k = T.foes.length := by omega
   have hla2 := hid hla
   clear hla
   go_wp2
   refine HK.out _ _ ?_ ?_
   ·exact ⟨rfl, rfl, rfl, rfl, rfl, rfl⟩
   ·obtain ⟨vB, vP, vin, vof, vbe, x2, vT, h⟩ := hla2.out
    exact ⟨_, _, _, _, _, _, _, h.dropX1⟩
end Go.Proofs.Lx

namespace Go.Proofs.Lx
open Go Go.RowKit Go.Proofs.Tj
set_option linter.unusedVariables false
set_option linter.unusedSimpArgs false

def fire0 (S : Stc) (D : Dyn) (r : Nat) : Dyn := if supR S r = true then (S.beats r).foldl (setl S) (setBacked D (S.head r)) else D
def rule0 (S : Stc) (D : Dyn) (r : Nat) : Dyn := if S.bodyLen r = 0 then (S.ofs r).foldl (stn S) (fire0 S D r) else D
theorem range_foldl_g {α : Type} (f : α → Nat → α) (D : α) (k : Nat) : (List.range (k + 1)).foldl f D = f ((List.range k).foldl f D) k := by rw [List.range_succ, List.foldl_append]; rfl
set_option maxRecDepth 1000000 in
set_option maxHeartbeats 60000000 in
theorem lay_s50 (w W0 : World) (b bt : Nat) (g : Key → Nat) (vF vR vl : Value) (T : Th) (S : Stc) (D : Dyn) (h : LayAt w W0 b g .no vF vR S T D) (hok : SOk S) (hPP : S.P ≤ 65536) (hbox : ∀ W : World, Below W0.heap.size W0 W → W.cell? ⟨bt, 0, none⟩ = some (.int .i64 (T.foes.length : Int)) ∧ W.cell? ⟨bt, 1, none⟩ = some vF ∧ W.cell? ⟨bt, 2, none⟩ = some vR) (f : Nat → Value) (K : Act → World → Prop) (Q' : Exit → Act → World → Prop)
  (hK : ∀ (t : Array Value) (w' : World), LF t vl bt T.foes.length T.rules.length b → LayAt w' W0 b g .no vF vR S T ((List.range S.m).foldl (rule0 S) D) → K ⟨t, []⟩ w') :
  Code.wp Tryz.prog laySeg50 (Exit.then K Q') ⟨#[(f 0), vl, .pointer (some ⟨bt, 0, none⟩), (f 3), (f 4), .int .i64 (T.foes.length : Int), .int .i64 (T.rules.length : Int), .pointer (some ⟨b, 0, none⟩), (f 8), (f 9), (f 10), (f 11), (f 12), (f 13), (f 14), (f 15), (f 16), (f 17), (f 18), (f 19), (f 20), (f 21), (f 22), (f 23), (f 24), (f 25), (f 26), (f 27), (f 28), (f 29), (f 30), (f 31), (f 32), (f 33), (f 34), (f 35), (f 36), (f 37), (f 38), (f 39), (f 40), (f 41), (f 42), (f 43), (f 44), (f 45), (f 46), (f 47), (f 48), (f 49), (f 50), (f 51), (f 52), (f 53), (f 54), (f 55), (f 56), (f 57), (f 58), (f 59), (f 60), (f 61), (f 62), (f 63), (f 64), (f 65), (f 66), (f 67), (f 68), (f 69), (f 70), (f 71), (f 72), (f 73), (f 74), (f 75), (f 76), (f 77), (f 78), (f 79), (f 80), (f 81), (f 82), (f 83), (f 84), (f 85), (f 86), (f 87), (f 88), (f 89), (f 90), (f 91), (f 92), (f 93), (f 94), (f 95), (f 96), (f 97), (f 98), (f 99), (f 100), (f 101), (f 102), (f 103), (f 104), (f 105), (f 106), (f 107), (f 108), (f 109), (f 110), (f 111), (f 112), (f 113), (f 114), (f 115), (f 116), (f 117), (f 118), (f 119), (f 120), (f 121), (f 122), (f 123), (f 124), (f 125), (f 126), (f 127), (f 128), (f 129), (f 130), (f 131), (f 132), (f 133), (f 134), (f 135), (f 136), (f 137), (f 138), (f 139), (f 140), (f 141), (f 142), (f 143), (f 144), (f 145), (f 146), (f 147), (f 148), (f 149), (f 150), (f 151), (f 152), (f 153), (f 154), (f 155), (f 156), (f 157), (f 158), (f 159), (f 160), (f 161), (f 162), (f 163), (f 164), (f 165), (f 166), (f 167), (f 168), (f 169), (f 170), (f 171), (f 172), (f 173), (f 174), (f 175), (f 176), (f 177), (f 178), (f 179), (f 180), (f 181), (f 182), (f 183), (f 184), (f 185), (f 186), (f 187), (f 188), (f 189), (f 190), (f 191), (f 192), (f 193), (f 194), (f 195), (f 196), (f 197), (f 198), (f 199), (f 200), (f 201), (f 202), (f 203), (f 204), (f 205), (f 206), (f 207), (f 208), (f 209), (f 210), (f 211), (f 212), (f 213), (f 214), (f 215), (f 216), (f 217), (f 218), (f 219), (f 220), (f 221), (f 222), (f 223), (f 224), (f 225), (f 226), (f 227), (f 228), (f 229), (f 230), (f 231), (f 232), (f 233), (f 234), (f 235), (f 236), (f 237), (f 238), (f 239), (f 240), (f 241), (f 242), (f 243), (f 244), (f 245), (f 246), (f 247), (f 248), (f 249), (f 250), (f 251), (f 252), (f 253), (f 254), (f 255), (f 256), (f 257), (f 258), (f 259), (f 260), (f 261), (f 262), (f 263), (f 264), (f 265), (f 266), (f 267), (f 268), (f 269), (f 270), (f 271), (f 272), (f 273), (f 274), (f 275), (f 276), (f 277), (f 278), (f 279), (f 280), (f 281), (f 282), (f 283), (f 284), (f 285), (f 286), (f 287), (f 288), (f 289), (f 290), (f 291), (f 292), (f 293), (f 294), (f 295), (f 296), (f 297), (f 298), (f 299), (f 300), (f 301), (f 302), (f 303), (f 304), (f 305), (f 306), (f 307), (f 308), (f 309), (f 310), (f 311), (f 312), (f 313), (f 314), (f 315), (f 316), (f 317), (f 318), (f 319), (f 320), (f 321), (f 322), (f 323), (f 324), (f 325), (f 326), (f 327), (f 328), (f 329), (f 330), (f 331), (f 332), (f 333), (f 334), (f 335), (f 336), (f 337), (f 338), (f 339), (f 340), (f 341), (f 342), (f 343), (f 344), (f 345), (f 346), (f 347), (f 348), (f 349), (f 350), (f 351), (f 352), (f 353), (f 354), (f 355), (f 356), (f 357), (f 358), (f 359), (f 360), (f 361), (f 362), (f 363), (f 364), (f 365), (f 366), (f 367), (f 368)], []⟩ w := by
 have HK := hid hK
 have Hbox := hid hbox
 have H0 := hid h
 have Hn : Hid (T.foes.length = S.n) := let ⟨_, _, _, _, _, _, _, k⟩ := h; hid k.st.n
 have Hm : Hid (T.rules.length = S.m) := let ⟨_, _, _, _, _, _, _, k⟩ := h; hid k.st.m
 have hn4 : S.n ≤ 4096 := let ⟨_, _, _, _, _, _, _, k⟩ := h; k.st.n4
 have hm4 : S.m ≤ 4096 := let ⟨_, _, _, _, _, _, _, k⟩ := h; k.st.m4
 have Hhdn : Hid (∀ r, r < S.m → S.head r < S.n) := let ⟨_, _, _, _, _, _, _, k⟩ := h; hid k.st.hdn
 have Hok := hid hok
 have hP2 : S.P ≤ 16777216 := by omega
 obtain ⟨AR, cR, rfl⟩ : ∃ A c, vR = .slice A S.m c := by
  obtain ⟨_, _, _, _, _, _, _, h0⟩ := h
  obtain ⟨A, c, e, _⟩ := h0.rR
  exact ⟨A, c, by rw [← Hm.out]; exact e⟩
 obtain ⟨_, _, b2⟩ := hbox w (let ⟨_, _, _, _, _, _, _, k⟩ := h; k.sp.old)
 clear hK hbox h hok
 conv => arg 2; whnf
 go_wp2
 clear b2
 go_loopw [256] (fun v256 wr => ∃ k : Nat, k ≤ S.m ∧ v256 = .int .i64 k ∧ LayAt wr W0 b g .no vF (.slice AR S.m cR) S T ((List.range k).foldl (rule0 S) D)) (fun v256 _ => S.m - (intOf v256).toNat)
 case atStart => exact ⟨0, Nat.zero_le _, rfl, H0.out⟩
 case round =>
  obtain ⟨k, hk, rfl, hla⟩ := hrel
  by_cases hlt : k < S.m
  ·obtain ⟨vB, vP, vin, vof, vbe, x2, vT, h⟩ := hla
   have Hs := hid (range_foldl_g (rule0 S) D k)
   generalize (List.range k).foldl (rule0 S) D = Dk at *
   obtain ⟨ga, B, c1, c2, eR, kk⟩ := h.rule hlt
   cases eR
   obtain ⟨k0, k1, k2⟩ := kk wr h.sp.old
   have hhd := Hhdn.out k hlt
   obtain ⟨kd, Hkd⟩ : ∃ kd, Hid (S.kind k = kd) := ⟨_, hid rfl⟩
   obtain ⟨hd, Hhd⟩ : ∃ hd, Hid (S.head k = hd) := ⟨_, hid rfl⟩
   obtain ⟨bl, Hbl⟩ : ∃ bl, Hid (S.bodyLen k = bl) := ⟨_, hid rfl⟩
   rw [Hkd.out] at k0
   rw [Hhd.out] at k1 hhd
   rw [Hbl.out] at k2
   have h1 := h.newX2 (.cells #[.int .i64 kd, .int .i64 (hd : Int), .slice B bl c2] 75)
   have H1 := hid h1
   have x22 : (wr.alloc (.cells #[.int .i64 kd, .int .i64 (hd : Int), .slice B bl c2] 75)).cell? ⟨wr.heap.size, 2, none⟩ = some (.slice B bl c2) := cell_of_row _ _ 2 _ _ _ (h1.atX2 rfl)
   have Hsup := hid (esup_any _ W0 _ _ T _ ⟨_, h1⟩ k hlt)
   clear h h1 kk
   by_cases hb0 : bl = 0
   ·have Hr0 : Hid (rule0 S Dk k = (S.ofs k).foldl (stn S) (fire0 S Dk k)) := hid (by unfold rule0; rw [if_pos (by rw [Hbl.out]; exact hb0)])
    subst hb0
    have Hfin : Hid (∀ E : Dyn, E = fire0 S Dk k → rule0 S Dk k = (S.ofs k).foldl (stn S) E) := hid fun E e => by rw [e]; exact Hr0.out
    cases hsp : supR S k with
    | true =>
     have Hf0 : Hid (fire0 S Dk k = (S.beats k).foldl (setl S) (setBacked Dk hd)) := hid (by unfold fire0; rw [if_pos hsp, Hhd.out])
     rw [hsp] at Hsup
     clear hsp
     go_wp2_with (go_at_call 87; refine Hsup.out.mono ?_; rintro e w9 ⟨_, rfl, rfl, rfl⟩)
     refine layR55 _ W0 _ S T _ _ H1.out _ kd hd _ 0 c2 rfl hhd _ _ _ _ _ _ _ _ _ _ _ _ _ _ _ _ _ _ _ _ _ _ _ _ _ _ _ _ _ _ _ _ _ _ _ _ _ _ _ _ _ _ _ _ _ _ _ _ _ _ _ _ _ _ _ _ _ _ _ _ _ _ _ _ _ _ _ _ _ _ _ _ _ _ _ _ _ _ _ _ _ _ _ _ _ _ _ _ _ _ _ _ _ _ _ _ _ _ _ _ _ _ _ _ _ _ _ _ _ _ _ _ _ _ _ _ _ _ _ _ _ _ _ _ _ _ _ _ _ _ _ _ _ _ _ _ _ _ _ _ _ _ _ _ _ _ _ _ _ _ _ _ _ _ _ _ _ _ _ _ _ _ _ _ _ _ _ _ _ _ _ _ _ _ _ _ _ _ _ _ _ _ _ _ _ _ _ _ _ _ _ _ _ _ _ _ _ _ _ _ _ _ _ _ _ _ _ _ _ _ _ _ _ _ _ _ _ _ _ _ _ _ _ _ _ _ _ _ _ _ _ _ _ _ _ _ _ _ _ _ _ _ _ _ _ _ _ _ _ _ _ _ _ _ _ _ _ _ _ _ _ _ _ _ _ _ _ _ _ _ _ _ _ _ _ _ _ _ _ _ _ _ _ _ _ _ _ _ _ _ _ _ _ _ _ _ _ _ _ _ _ _ _ _ _ _ _ _ _ _ _ _ _ _ _ _ _ _ _ _ _ _ _ _ _ _ _ _ _ _ _ _ _ _ _ _ _ _ _ _ _ _ _ _ _ _ _ _ _ _ _ _ _ _ _ _ _ _ _ _ _ _ _ _ _ _ _ _ ?_
     intro y268 y269 y270 y271 y272 y273 y274 w4 h4
     refine (‹∀ a w, Code.wp Tryz.prog layBeatsC _ a w → _›) _ _ ?_
     refine layBeats w4 W0 _ S T _ _ h4 Hok.out hPP k hlt _ _ _ _ _ _ _ _ _ _ _ _ _ _ _ _ _ _ _ _ _ _ _ _ _ _ _ _ _ _ _ _ _ _ _ _ _ _ _ _ _ _ _ _ _ _ _ _ _ _ _ _ _ _ _ _ _ _ _ _ _ _ _ _ _ _ _ _ _ _ _ _ _ _ _ _ _ _ _ _ _ _ _ _ _ _ _ _ _ _ _ _ _ _ _ _ _ _ _ _ _ _ _ _ _ _ _ _ _ _ _ _ _ _ _ _ _ _ _ _ _ _ _ _ _ _ _ _ _ _ _ _ _ _ _ _ _ _ _ _ _ _ _ _ _ _ _ _ _ _ _ _ _ _ _ _ _ _ _ _ _ _ _ _ _ _ _ _ _ _ _ _ _ _ _ _ _ _ _ _ _ _ _ _ _ _ _ _ _ _ _ _ _ _ _ _ _ _ _ _ _ _ _ _ _ _ _ _ _ _ _ _ _ _ _ _ _ _ _ _ _ _ _ _ _ _ _ _ _ _ _ _ _ _ _ _ _ _ _ _ _ _ _ _ _ _ _ _ _ _ _ _ _ _ _ _ _ _ _ _ _ _ _ _ _ _ _ _ _ _ _ _ _ _ _ _ _ _ _ _ _ _ _ _ _ _ _ _ _ _ _ _ _ _ _ _ _ _ _ _ _ _ _ _ _ _ _ _ _ _ _ _ _ _ _ _ _ _ _ _ _ _ _ _ _ _ _ _ _ _ _ _ _ _ _ _ _ _ _ _ _ _ _ _ _ _ _ _ _ _ _ _ _ _ _ _ _ _ _ _ _ _ _ _ _ _ _ _ ?_
     intro x24 x275 x276 x277 x278 x279 x280 x281 x282 x283 x284 x285 x286 x287 x288 x289 x290 x291 x292 x293 x294 x295 x296 x297 x298 x299 x300 x301 x302 x303 x304 x305 x306 x307 x308 x309 x310 x311 x312 x313 x314 x315 x316 x317 x318 x319 w5 h5
     refine (‹∀ a w, Code.wp Tryz.prog layOfsC _ a w → _›) _ _ ?_
     try dsimp only
     refine layOfs w5 W0 _ S T _ _ h5 Hok.out hPP k hlt _ _ _ _ _ _ _ _ _ _ _ _ _ _ _ _ _ _ _ _ _ _ _ _ _ _ _ _ _ _ _ _ _ _ _ _ _ _ _ _ _ _ _ _ _ _ _ _ _ _ _ _ _ _ _ _ _ _ _ _ _ _ _ _ _ _ _ _ _ _ _ _ _ _ _ _ _ _ _ _ _ _ _ _ _ _ _ _ _ _ _ _ _ _ _ _ _ _ _ _ _ _ _ _ _ _ _ _ _ _ _ _ _ _ _ _ _ _ _ _ _ _ _ _ _ _ _ _ _ _ _ _ _ _ _ _ _ _ _ _ _ _ _ _ _ _ _ _ _ _ _ _ _ _ _ _ _ _ _ _ _ _ _ _ _ _ _ _ _ _ _ _ _ _ _ _ _ _ _ _ _ _ _ _ _ _ _ _ _ _ _ _ _ _ _ _ _ _ _ _ _ _ _ _ _ _ _ _ _ _ _ _ _ _ _ _ _ _ _ _ _ _ _ _ _ _ _ _ _ _ _ _ _ _ _ _ _ _ _ _ _ _ _ _ _ _ _ _ _ _ _ _ _ _ _ _ _ _ _ _ _ _ _ _ _ _ _ _ _ _ _ _ _ _ _ _ _ _ _ _ _ _ _ _ _ _ _ _ _ _ _ _ _ _ _ _ _ _ _ _ _ _ _ _ _ _ _ _ _ _ _ _ _ _ _ _ _ _ _ _ _ _ _ _ _ _ _ _ _ _ _ _ _ _ _ _ _ _ _ _ _ _ _ _ _ _ _ _ _ _ _ _ _ _ _ _ _ _ _ _ _ _ _ _ _ _ _ _ ?_
     intro z26 z320 z321 z322 z323 z324 z325 z326 z327 z328 z329 z330 z331 z332 z333 z334 z335 z336 z337 z338 z339 z340 z341 z342 z343 z344 z345 z346 z347 z348 z349 z350 z351 z352 z353 z354 w6 h6
     have H6 := hid h6
     clear h6
     try dsimp only
     go_wp2
     go_roundw
     case rel =>
      refine ⟨k + 1, by omega, by go_num, ?_⟩
      rw [Hs.out, Hfin.out _ Hf0.out.symm]
      exact ⟨_, _, _, _, _, _, _, H6.out⟩
     case measure => simp [intOf]; omega
    | false =>
     have Hf0 : Hid (fire0 S Dk k = Dk) := hid (by unfold fire0; rw [if_neg (by rw [hsp]; exact Bool.false_ne_true)])
     rw [hsp] at Hsup
     clear hsp
     go_wp2_with fail
     refine Hsup.out.mono ?_
     rintro e w9 ⟨_, rfl, rfl, rfl⟩
     rename_i KB aB KC aC KD aD
     have HaC := hid aB
     clear aB
     go_wp2
     refine HaC.out _ _ ?_
     try dsimp only
     refine layOfs _ W0 _ S T _ _ H1.out Hok.out hPP k hlt _ _ _ _ _ _ _ _ _ _ _ _ _ _ _ _ _ _ _ _ _ _ _ _ _ _ _ _ _ _ _ _ _ _ _ _ _ _ _ _ _ _ _ _ _ _ _ _ _ _ _ _ _ _ _ _ _ _ _ _ _ _ _ _ _ _ _ _ _ _ _ _ _ _ _ _ _ _ _ _ _ _ _ _ _ _ _ _ _ _ _ _ _ _ _ _ _ _ _ _ _ _ _ _ _ _ _ _ _ _ _ _ _ _ _ _ _ _ _ _ _ _ _ _ _ _ _ _ _ _ _ _ _ _ _ _ _ _ _ _ _ _ _ _ _ _ _ _ _ _ _ _ _ _ _ _ _ _ _ _ _ _ _ _ _ _ _ _ _ _ _ _ _ _ _ _ _ _ _ _ _ _ _ _ _ _ _ _ _ _ _ _ _ _ _ _ _ _ _ _ _ _ _ _ _ _ _ _ _ _ _ _ _ _ _ _ _ _ _ _ _ _ _ _ _ _ _ _ _ _ _ _ _ _ _ _ _ _ _ _ _ _ _ _ _ _ _ _ _ _ _ _ _ _ _ _ _ _ _ _ _ _ _ _ _ _ _ _ _ _ _ _ _ _ _ _ _ _ _ _ _ _ _ _ _ _ _ _ _ _ _ _ _ _ _ _ _ _ _ _ _ _ _ _ _ _ _ _ _ _ _ _ _ _ _ _ _ _ _ _ _ _ _ _ _ _ _ _ _ _ _ _ _ _ _ _ _ _ _ _ _ _ _ _ _ _ _ _ _ _ _ _ _ _ _ _ _ _ _ _ _ _ _ _ _ _ _ _ ?_
     intro z26 z320 z321 z322 z323 z324 z325 z326 z327 z328 z329 z330 z331 z332 z333 z334 z335 z336 z337 z338 z339 z340 z341 z342 z343 z344 z345 z346 z347 z348 z349 z350 z351 z352 z353 z354 w6 h6
     have H6 := hid h6
     clear h6
     try dsimp only
     go_wp2
     go_roundw
     case rel =>
      refine ⟨k + 1, by omega, by go_num, ?_⟩
      rw [Hs.out, Hfin.out _ Hf0.out.symm]
      exact ⟨_, _, _, _, _, _, _, H6.out⟩
     case measure => simp [intOf]; omega
   ·have Hr0 : Hid (rule0 S Dk k = Dk) := hid (by unfold rule0; rw [if_neg (by rw [Hbl.out]; exact hb0)])
    have hbp : (0 : Int) < (bl : Int) := by omega
    clear Hsup
    go_wp2
    go_roundw
    case rel =>
     refine ⟨k + 1, by omega, by go_num, ?_⟩
     rw [Hs.out, Hr0.out]
     exact ⟨_, _, _, _, _, _, _, H1.out⟩
    case measure => simp [intOf]; omega
  ·obtain rfl : k = S.m := by omega
   have hla2 := hid hla
   clear hla
   go_wp2
   refine HK.out _ _ ?_ hla2.out
   exact ⟨rfl, rfl, rfl, rfl, rfl, rfl⟩
end Go.Proofs.Lx

namespace Go.Proofs.Lx
open Go Go.RowKit
set_option linter.unusedSimpArgs false
set_option linter.unusedVariables false

def cnd (T : Th) (F : List Bool) (RL : List (List Int)) (M : List Nat) : Nat → Int → Bool
 | 0 => plusDB T F RL M
 | 1 => minusDB T F RL M
 | 2 => plusPB T RL M
 | _ => minusPB T RL M
def orM (C : Nat → Bool) (x : Nat) : Nat → Nat
 | 0 => x
 | k + 1 => if C k then orM C x k ||| 2 ^ k else orM C x k
def rnd (C : Nat → Int → Bool) (M : List Nat) (i j : Nat) : List Nat := (List.range M.length).map fun (q : Nat) => orM (fun k => C k (q : Int)) (M.getD q 0) (if q < j then i + 1 else i)
def roundM (T : Th) (F : List Bool) (RL : List (List Int)) (M : List Nat) : List Nat := rnd (cnd T F RL M) M 4 0
section
variable {C : Nat → Int → Bool} {M : List Nat}
theorem rnd_length (i j : Nat) : (rnd C M i j).length = M.length := by simp [rnd]
theorem rnd_zero : rnd C M 0 0 = M := by
 apply List.ext_getElem
 ·simp [rnd]
 ·intro q h1 h2; simp [rnd, orM, h2]
theorem rnd_next (i : Nat) : rnd C M i M.length = rnd C M (i + 1) 0 := by
 apply List.ext_getElem
 ·simp [rnd]
 ·intro q h1 h2
  rw [rnd_length] at h1
  simp [rnd, h1]
theorem rnd_skip {i j : Nat} (h : C i (j : Int) = false) : rnd C M i (j + 1) = rnd C M i j := by
 apply List.ext_getElem
 ·simp [rnd]
 ·intro q h1 h2
  rw [rnd_length] at h1
  simp only [rnd, List.getElem_map, List.getElem_range]
  by_cases e : q = j
  ·subst e
   rw [if_pos (by omega), if_neg (by omega), orM, h]; rfl
  ·by_cases e2 : q < j
   ·rw [if_pos (by omega), if_pos e2]
   ·rw [if_neg (by omega), if_neg e2]
theorem rnd_hit {i j : Nat} (h : C i (j : Int) = true) (hj : j < (rnd C M i j).length) : rnd C M i (j + 1) = (rnd C M i j).set j ((rnd C M i j)[j] ||| 2 ^ i) := by
 apply List.ext_getElem
 ·simp [rnd]
 ·intro q h1 h2
  rw [List.getElem_set]
  by_cases e : j = q
  ·subst e
   rw [if_pos rfl]
   simp only [rnd, List.getElem_map, List.getElem_range]
   rw [if_pos (by omega), if_neg (by omega), orM, h]; rfl
  ·rw [if_neg e]
   simp only [rnd, List.getElem_map, List.getElem_range]
   by_cases e2 : q < j
   ·rw [if_pos (by omega), if_pos e2]
   ·rw [if_neg (by omega), if_neg e2]
theorem orM_lt {C : Nat → Bool} {x : Nat} (hx : x < 256) : ∀ k, k ≤ 8 → orM C x k < 256
 | 0, _ => hx
 | k + 1, h => by
  have ih := orM_lt (C := C) hx k (by omega)
  unfold orM
  split
  ·exact Nat.or_lt_two_pow (n := 8) ih (Nat.pow_lt_pow_right (by decide) (by omega))
  ·exact ih
theorem rnd_lt (h : ∀ x ∈ M, x < 256) {i j : Nat} (hi : i < 8) : ∀ x ∈ rnd C M i j, x < 256 := by
 intro x hx
 obtain ⟨q, hq, rfl⟩ := List.mem_map.1 hx
 have hq := List.mem_range.1 hq
 refine orM_lt ?_ _ (by split <;> omega)
 have : M.getD q 0 = M[q] := by simp [hq]
 rw [this]; exact h _ (List.getElem_mem hq)
end
theorem bit_or (x : Nat) (hx : x < 256) (k : Nat) (hk : k < 4) : bits .or .u8 (x : Int) ((2 ^ k : Nat) : Int) = ((x ||| 2 ^ k : Nat) : Int) := by
 have h2 : 2 ^ k < 2 ^ 8 := Nat.pow_lt_pow_right (by decide) (by omega)
 exact (bits_nat .u8 8 (by decide) wraps_u8 x (2 ^ k) hx h2).2
end Go.Proofs.Lx

namespace Go.Proofs.Lx
open Go Go.RowKit
set_option linter.unusedSimpArgs false
set_option linter.unusedVariables false

/-- The relation of the two loops. -/
def RI (w : World) (T : Th) (F : List Bool) (RL : List (List Int)) (M : List Nat) (v : Value) (i j : Nat) (wr : World) : Prop :=
 wr.ownsRow w.heap.size 77 1 v M.length (marksV (rnd (cnd T F RL M) M i j)) ∧ Below w.heap.size w wr

theorem RI.ext {w : World} {T : Th} {F : List Bool} {RL : List (List Int)} {M : List Nat} {v : Value} {i j : Nat} {w1 w2 : World} (h : RI w T F RL M v i j w1) (hb : Below w1.heap.size w1 w2) : RI w T F RL M v i j w2 :=
 ⟨h.1.kept (row := none) ⟨hb.os, hb.tape, hb.output, hb.size, fun k hk _ => hb.block k hk⟩ (by cases v.ownBlock <;> simp), ext_trans h.2 hb⟩
end Go.Proofs.Lx

namespace Go.Proofs.Lx
open Go Go.RowKit
set_option linter.unusedSimpArgs false
set_option linter.unusedVariables false

def rulesUpto (rs : List Rule) (k : Nat) (q : Nat) : List Int := ((List.range k).filter fun i => (rs.getD i default).head == (q : Int)).map fun (i : Nat) => (i : Int)
/-- Of each literal the rules with it as head, the first k rules alone. -/
def rulesRows (rs : List Rule) (n k : Nat) : List (List Int) := (List.range n).map (rulesUpto rs k)
theorem rulesRows_length (rs : List Rule) (n k : Nat) : (rulesRows rs n k).length = n := by simp [rulesRows]
theorem rulesRows_at (rs : List Rule) (n k : Nat) {q : Nat} (hq : q < n) : (rulesRows rs n k)[q]'(by rw [rulesRows_length]; exact hq) = rulesUpto rs k q := by simp [rulesRows]
theorem rulesUpto_length (rs : List Rule) (k q : Nat) : (rulesUpto rs k q).length ≤ k := by
 unfold rulesUpto; rw [List.length_map]
 exact Nat.le_trans (List.length_filter_le _ _) (by simp)
theorem rulesRows_succ (rs : List Rule) (n k : Nat) (hk : k < rs.length) (h0 : 0 ≤ rs[k].head) (h1 : rs[k].head < n) :
  rulesRows rs n (k + 1) = (rulesRows rs n k).set rs[k].head.toNat (rulesUpto rs k rs[k].head.toNat ++ [(k : Int)]) := by
 apply List.ext_getElem
 ·simp [rulesRows]
 ·intro q hq1 hq2
  rw [rulesRows_length] at hq1
  rw [rulesRows_at _ _ _ hq1, List.getElem_set]
  have hg : rs.getD k default = rs[k] := by simp [hk]
  by_cases e : rs[k].head.toNat = q
  ·rw [if_pos e]; subst e
   rw [rulesUpto, List.range_succ, List.filter_append, List.map_append]
   have : ((rs.getD k default).head == ((rs[k].head.toNat : Nat) : Int)) = true := by rw [hg, beq_iff_eq]; omega
   rw [List.filter_cons_of_pos (by exact this)]; rfl
  ·rw [if_neg e, rulesRows_at _ _ _ hq1, rulesUpto, List.range_succ, List.filter_append, List.map_append]
   have : ¬ ((rs.getD k default).head == (q : Int)) = true := by rw [hg, beq_iff_eq]; omega
   rw [List.filter_cons_of_neg (by exact this)]; simp [rulesUpto]
theorem rulesRows_zero (rs : List Rule) (n : Nat) : rulesRows rs n 0 = List.replicate n [] := by
 apply List.ext_getElem
 ·simp [rulesRows]
 ·intro q h1 h2; rw [rulesRows_length] at h1; rw [rulesRows_at _ _ _ h1]; simp [rulesUpto]
theorem mem_rulesUpto {rs : List Rule} {k q : Nat} {r : Int} : r ∈ rulesUpto rs k q ↔ ∃ i : Nat, i < k ∧ r = i ∧ (rs.getD i default).head = q := by
 simp only [rulesUpto, List.mem_map, List.mem_filter, List.mem_range, beq_iff_eq]
 constructor
 ·rintro ⟨i, ⟨h1, h2⟩, rfl⟩; exact ⟨i, h1, rfl, h2⟩
 ·rintro ⟨i, h1, rfl, h2⟩; exact ⟨i, ⟨h1, h2⟩, rfl⟩

def factsB (n : Nat) (l : List Int) : List Bool := (List.range n).map fun (q : Nat) => memB l q
def factsUpto (n k : Nat) (l : List Int) : List Bool := factsB n (l.take k)
theorem factsB_length (n : Nat) (l : List Int) : (factsB n l).length = n := by simp [factsB]
theorem factsUpto_succ (n k : Nat) (l : List Int) (hk : k < l.length) (h0 : 0 ≤ l[k]) : factsUpto n (k + 1) l = (factsUpto n k l).set l[k].toNat true := by
 apply List.ext_getElem
 ·simp [factsUpto, factsB]
 ·intro q h1 h2
  have hq : q < n := by simpa [factsUpto, factsB] using h1
  rw [List.getElem_set]
  simp only [factsUpto, factsB, List.getElem_map, List.getElem_range]
  rw [List.take_succ_eq_append_getElem hk]
  by_cases e : l[k].toNat = q
  ·rw [if_pos e, memB_true]
   subst e
   have : ((l[k].toNat : Nat) : Int) = l[k] := by omega
   rw [this]; exact List.mem_append_right _ (List.mem_singleton.2 rfl)
  ·rw [if_neg e, Bool.eq_iff_iff, memB_true, memB_true]
   simp only [List.mem_append, List.mem_singleton]
   constructor
   ·rintro (h | h)
    ·exact h
    ·omega
   ·exact .inl
theorem factsUpto_zero (n : Nat) (l : List Int) : factsUpto n 0 l = List.replicate n false := by
 apply List.ext_getElem <;> simp [factsUpto, factsB, memB]
theorem factsUpto_all (n : Nat) (l : List Int) : factsUpto n l.length l = factsB n l := by simp [factsUpto]

theorem grown_refl (w : World) (r : Option Nat) : w.grownBy w r := ⟨rfl, rfl, rfl, Nat.le_refl _, fun _ _ _ => rfl⟩
theorem grown_below {w w' : World} (h : Below w.heap.size w w') (r : Option Nat) : w.grownBy w' r := ⟨h.os, h.tape, h.output, h.size, fun k hk _ => h.block k hk⟩
theorem grown_set (w : World) (b i : Nat) (v : Value) : w.grownBy (w.setCell ⟨b, i, none⟩ v) (some b) :=
 ⟨rfl, rfl, rfl, by simp, fun k _ hk => heap_setCell_other w ⟨b, i, none⟩ k v (fun e => hk (by rw [e]))⟩
section
variable {w w' : World} {b : Nat} {T : Th} {F : List Bool} {RL : List (List Int)} {M : List Nat}
end
section
variable {W1 : World} {vals : Array Value} {b gA gR base : Nat} {F : List Bool} {vs : List Value} {xss : List (List Int)} {w w' : World}
theorem alloc3 (w : World) (A B C : Obj) : (((w.alloc A).alloc B).alloc C).drew.heap.size = w.heap.size + 3 ∧ (((w.alloc A).alloc B).alloc C).drew.heap[w.heap.size]? = some A ∧ (((w.alloc A).alloc B).alloc C).drew.heap[w.heap.size + 1]? = some B ∧ (((w.alloc A).alloc B).alloc C).drew.heap[w.heap.size + 2]? = some C := by
 refine ⟨by simp only [World.alloc, World.drew, Array.size_push], ?_, ?_, ?_⟩
 all_goals simp only [World.alloc, World.drew, Array.getElem?_push, Array.size_push]
 ·rw [if_neg (by omega), if_neg (by omega), if_pos trivial]
 ·rw [if_neg (by omega), if_pos trivial]
 ·rw [if_pos trivial]
end

end Go.Proofs.Lx

namespace Go.Proofs.Lx
open Go Go.RowKit
set_option linter.unusedSimpArgs false
set_option linter.unusedVariables false

def blkS : Code → Code
 | .block _ b => b
 | c => c
def loopS : Code → Code
 | .loop b => b
 | c => c
end Go.Proofs.Lx

namespace Go.Proofs.Lx
open Go Go.RowKit
set_option linter.unusedSimpArgs false
set_option linter.unusedVariables false

end Go.Proofs.Lx
