/- Parts of the proof: Fk, Fi, Fj. lay: the foes that are counted. Printed by gen_lay.py. No condition. -/
import Derived.Test.YtalhpldbhogadaaB25
import Derived.Test.YtalhpldbhogadaaB33
namespace Go.Proofs.Lx
open Go Go.RowKit Go.Proofs.Tj
set_option linter.unusedVariables false
set_option linter.unusedSimpArgs false

def incOpn (D : Dyn) (q : Nat) : Dyn := { D with opn := Tj.upd D.opn q (addW (D.opn q) 1) }
def orClash (D : Dyn) (q f : Nat) : Dyn := { D with clash := Tj.upd D.clash q (D.clash q || hasT D f 1) }
def foeD (q : Nat) (D : Dyn) (f : Nat) : Dyn := orClash (if hasT D f 2 = true then D else incOpn D q) q f
def foesD (S : Stc) (D : Dyn) (q : Nat) : Dyn := (S.foes q).foldl (foeD q) D
theorem steps_foeD {n : Nat} (q : Nat) (D : Dyn) (f : Nat) : Steps n D (foeD q D f) := by
  unfold foeD
  split
  · exact Steps.oth rfl rfl
  · exact Steps.oth rfl rfl
theorem steps_foesD {n : Nat} (S : Stc) (D : Dyn) (q : Nat) : Steps n D (foesD S D q) := steps_foldl _ D fun f _ D => steps_foeD q D f
theorem range_foldl_succ'' {α : Type} (f : α → Nat → α) (D : α) (k : Nat) : (List.range (k + 1)).foldl f D = f ((List.range k).foldl f D) k := by rw [List.range_succ, List.foldl_append]; rfl
theorem take_foldl_succ {α β : Type} (f : α → β → α) (D : α) (l : List β) (k : Nat) (h : k < l.length) : (l.take (k + 1)).foldl f D = f ((l.take k).foldl f D) l[k] := by rw [List.take_add_one, List.getElem?_eq_getElem h, List.foldl_append]; rfl
set_option maxRecDepth 1000000 in
set_option maxHeartbeats 60000000 in
theorem lay_s38 (w W0 : World) (b bt : Nat) (g : Key → Nat) (vF vR vl : Value) (T : Th) (S : Stc) (D : Dyn) (h : LayAt w W0 b g .no vF vR S T D) (hti : TI S.n D) (hbox : ∀ W : World, Below W0.heap.size W0 W → W.cell? ⟨bt, 0, none⟩ = some (.int .i64 (T.foes.length : Int)) ∧ W.cell? ⟨bt, 1, none⟩ = some vF ∧ W.cell? ⟨bt, 2, none⟩ = some vR) (f : Nat → Value) (K : Act → World → Prop) (Q' : Exit → Act → World → Prop)
    (hK : ∀ (t : Array Value) (w' : World), LF t vl bt T.foes.length T.rules.length b → LayAt w' W0 b g .no vF vR S T ((List.range T.foes.length).foldl (foesD S) D) → K ⟨t, []⟩ w') :
    Code.wp Try.prog laySeg38 (Exit.then K Q') ⟨#[(f 0), vl, .pointer (some ⟨bt, 0, none⟩), (f 3), (f 4), .int .i64 (T.foes.length : Int), .int .i64 (T.rules.length : Int), .pointer (some ⟨b, 0, none⟩), (f 8), (f 9), (f 10), (f 11), (f 12), (f 13), (f 14), (f 15), (f 16), (f 17), (f 18), (f 19), (f 20), (f 21), (f 22), (f 23), (f 24), (f 25), (f 26), (f 27), (f 28), (f 29), (f 30), (f 31), (f 32), (f 33), (f 34), (f 35), (f 36), (f 37), (f 38), (f 39), (f 40), (f 41), (f 42), (f 43), (f 44), (f 45), (f 46), (f 47), (f 48), (f 49), (f 50), (f 51), (f 52), (f 53), (f 54), (f 55), (f 56), (f 57), (f 58), (f 59), (f 60), (f 61), (f 62), (f 63), (f 64), (f 65), (f 66), (f 67), (f 68), (f 69), (f 70), (f 71), (f 72), (f 73), (f 74), (f 75), (f 76), (f 77), (f 78), (f 79), (f 80), (f 81), (f 82), (f 83), (f 84), (f 85), (f 86), (f 87), (f 88), (f 89), (f 90), (f 91), (f 92), (f 93), (f 94), (f 95), (f 96), (f 97), (f 98), (f 99), (f 100), (f 101), (f 102), (f 103), (f 104), (f 105), (f 106), (f 107), (f 108), (f 109), (f 110), (f 111), (f 112), (f 113), (f 114), (f 115), (f 116), (f 117), (f 118), (f 119), (f 120), (f 121), (f 122), (f 123), (f 124), (f 125), (f 126), (f 127), (f 128), (f 129), (f 130), (f 131), (f 132), (f 133), (f 134), (f 135), (f 136), (f 137), (f 138), (f 139), (f 140), (f 141), (f 142), (f 143), (f 144), (f 145), (f 146), (f 147), (f 148), (f 149), (f 150), (f 151), (f 152), (f 153), (f 154), (f 155), (f 156), (f 157), (f 158), (f 159), (f 160), (f 161), (f 162), (f 163), (f 164), (f 165), (f 166), (f 167), (f 168), (f 169), (f 170), (f 171), (f 172), (f 173), (f 174), (f 175), (f 176), (f 177), (f 178), (f 179), (f 180), (f 181), (f 182), (f 183), (f 184), (f 185), (f 186), (f 187), (f 188), (f 189), (f 190), (f 191), (f 192), (f 193), (f 194), (f 195), (f 196), (f 197), (f 198), (f 199), (f 200), (f 201), (f 202), (f 203), (f 204), (f 205), (f 206), (f 207), (f 208), (f 209), (f 210), (f 211), (f 212), (f 213), (f 214), (f 215), (f 216), (f 217), (f 218), (f 219), (f 220), (f 221), (f 222), (f 223), (f 224), (f 225), (f 226), (f 227), (f 228), (f 229), (f 230), (f 231), (f 232), (f 233), (f 234), (f 235), (f 236), (f 237), (f 238), (f 239), (f 240), (f 241), (f 242), (f 243), (f 244), (f 245), (f 246), (f 247), (f 248), (f 249), (f 250), (f 251), (f 252), (f 253), (f 254), (f 255), (f 256), (f 257), (f 258), (f 259), (f 260), (f 261), (f 262), (f 263), (f 264), (f 265), (f 266), (f 267), (f 268), (f 269), (f 270), (f 271), (f 272), (f 273), (f 274), (f 275), (f 276), (f 277), (f 278), (f 279), (f 280), (f 281), (f 282), (f 283), (f 284), (f 285), (f 286), (f 287), (f 288), (f 289), (f 290), (f 291), (f 292), (f 293), (f 294), (f 295), (f 296), (f 297), (f 298), (f 299), (f 300), (f 301), (f 302), (f 303), (f 304), (f 305), (f 306), (f 307), (f 308), (f 309), (f 310), (f 311), (f 312), (f 313), (f 314), (f 315), (f 316), (f 317), (f 318), (f 319), (f 320), (f 321), (f 322), (f 323), (f 324), (f 325), (f 326), (f 327), (f 328), (f 329), (f 330), (f 331), (f 332), (f 333), (f 334), (f 335), (f 336), (f 337), (f 338), (f 339), (f 340), (f 341), (f 342), (f 343), (f 344), (f 345), (f 346), (f 347), (f 348), (f 349), (f 350), (f 351), (f 352), (f 353), (f 354), (f 355), (f 356), (f 357), (f 358), (f 359), (f 360), (f 361), (f 362), (f 363), (f 364), (f 365), (f 366), (f 367), (f 368)], []⟩ w := by
  have HK := hid hK
  have Hti := hid hti
  have Hbox := hid hbox
  have H0 := hid h
  have Hn : Hid (T.foes.length = S.n) := let ⟨_, _, _, _, _, _, _, k⟩ := h; hid k.st.n
  have Hm : Hid (T.rules.length = S.m) := let ⟨_, _, _, _, _, _, _, k⟩ := h; hid k.st.m
  have hn4 : S.n ≤ 4096 := let ⟨_, _, _, _, _, _, _, k⟩ := h; k.st.n4
  have hm4 : S.m ≤ 4096 := let ⟨_, _, _, _, _, _, _, k⟩ := h; k.st.m4
  have Hhdn : Hid (∀ r, r < S.m → S.head r < S.n) := let ⟨_, _, _, _, _, _, _, k⟩ := h; hid k.st.hdn
  have hn4T : T.foes.length ≤ 4096 := by rw [Hn.out]; exact hn4
  have Hfon : Hid (∀ q, q < S.n → ∀ f ∈ S.foes q, f < S.n) := let ⟨_, _, _, _, _, _, _, k⟩ := h; hid k.st.fon
  obtain ⟨AF, cF, rfl⟩ : ∃ A c, vF = .slice A S.n c := by
    obtain ⟨_, _, _, _, _, _, _, h0⟩ := h
    obtain ⟨A, c, e, _⟩ := h0.rF
    exact ⟨A, c, by rw [← Hn.out]; exact e⟩
  clear hK hti hbox h
  conv => arg 2; whnf
  go_wp2
  go_loopw [205] (fun v205 wr => ∃ k : Nat, k ≤ T.foes.length ∧ v205 = .int .i64 k ∧ LayAt wr W0 b g .no (.slice AF S.n cF) vR S T ((List.range k).foldl (foesD S) D)) (fun v205 _ => T.foes.length - (intOf v205).toNat)
  case atStart => exact ⟨0, Nat.zero_le _, rfl, H0.out⟩
  case round =>
    obtain ⟨k, hk, rfl, hla⟩ := hrel
    by_cases hlt : k < T.foes.length
    · have hkS : k < S.n := by rw [← Hn.out]; exact hlt
      have Hs := hid (range_foldl_succ'' (foesD S) D k)
      have Htik := hid (Hti.out.steps (steps_foldl (List.range k) D fun r hr D => steps_foesD S D r))
      generalize (List.range k).foldl (foesD S) D = Dk at *
      have Hfok := hid (Hfon.out k hkS)
      obtain ⟨_, b1, _⟩ := Hbox.out wr (let ⟨_, _, _, _, _, _, _, k⟩ := hla; k.sp.old)
      have Hla := hid hla
      obtain ⟨vB, vP, vin, vof, vbe, x2, vT, h⟩ := hla
      obtain ⟨ga, B, c1, c2, eF, kk, hfl, kf⟩ := h.foes hkS
      cases eF
      have k0 := kk wr h.sp.old
      have Kf := hid kf
      have Hfd : Hid (foesD S Dk k = (S.foes k).foldl (foeD k) Dk) := hid rfl
      generalize S.foes k = fo at *
      clear h kk kf
      go_wp2
      clear k0 b1
      go_loopw [214] (fun v214 wr => ∃ j : Nat, j ≤ fo.length ∧ v214 = .int .i64 j ∧ LayAt wr W0 b g .no (.slice (some ga) S.n cF) vR S T ((fo.take j).foldl (foeD k) Dk)) (fun v214 _ => fo.length - (intOf v214).toNat)
      case atStart => exact ⟨0, Nat.zero_le _, rfl, Hla.out⟩
      case round =>
        obtain ⟨j, hj, rfl, hla⟩ := hrel
        by_cases hjl : j < fo.length
        · obtain ⟨vB, vP, vin, vof, vbe, x2, vT, h⟩ := hla
          obtain ⟨ad, rfl, kc⟩ := Kf.out j hjl
          have c := kc wr h.sp.old
          have Hsj := hid (take_foldl_succ (foeD k) Dk fo j hjl)
          have hti2 := Htik.out.steps (steps_foldl (fo.take j) Dk fun r hr D => steps_foeD (n := S.n) k D r)
          generalize (fo.take j).foldl (foeD k) Dk = E at *
          obtain ⟨q, Hq⟩ : ∃ q, Hid (fo[j] = q) := ⟨_, hid rfl⟩
          have hqn : q < S.n := by rw [← Hq.out]; exact Hfok.out _ (List.getElem_mem hjl)
          rw [Hq.out] at c Hsj
          have e17 := h.hOpn
          have c10 := h.rOpn hkS
          have f10 := h.fOpn k
          have hne := h.bOpn
          have hk0 : (0 : Int) ≤ (k : Int) := by omega
          have hk1 : (k : Int) < (S.n : Int) := by omega
          have Hhas := hid (ehas_any _ W0 _ S T _ ⟨_, h⟩ q 2 hqn (by omega) (by omega) (hti2.lt q))
          have H := hid h
          have Hw := hid (h.wOpn k (addW (E.opn k) 1))
          have Hti2 := hid hti2
          clear h hti2 kc
          cases hF : hasT E q 2 with
          | true =>
            have HF : Hid (foeD k E q = orClash E k q) := hid (by unfold foeD; rw [if_pos hF])
            rw [hF] at Hhas
            clear hF
            go_wp2_with (go_at_call 77; refine Hhas.out.mono ?_; rintro e w9 ⟨_, rfl, rfl, rfl⟩)
            refine layR46 wr W0 _ S T _ _ H.out k q hkS hqn (Hti2.out.lt q) _ _ _ _ _ _ _ _ _ _ _ _ _ _ _ _ _ _ _ _ _ _ _ _ _ _ _ _ _ _ _ _ _ _ _ _ _ _ _ _ _ _ _ _ _ _ _ _ _ _ _ _ _ _ _ _ _ _ _ _ _ _ _ _ _ _ _ _ _ _ _ _ _ _ _ _ _ _ _ _ _ _ _ _ _ _ _ _ _ _ _ _ _ _ _ _ _ _ _ _ _ _ _ _ _ _ _ _ _ _ _ _ _ _ _ _ _ _ _ _ _ _ _ _ _ _ _ _ _ _ _ _ _ _ _ _ _ _ _ _ _ _ _ _ _ _ _ _ _ _ _ _ _ _ _ _ _ _ _ _ _ _ _ _ _ _ _ _ _ _ _ _ _ _ _ _ _ _ _ _ _ _ _ _ _ _ _ _ _ _ _ _ _ _ _ _ _ _ _ _ _ _ _ _ _ _ _ _ _ _ _ _ _ _ _ _ _ _ _ _ _ _ _ _ _ _ _ _ _ _ _ _ _ _ _ _ _ _ _ _ _ _ _ _ _ _ _ _ _ _ _ _ _ _ _ _ _ _ _ _ _ _ _ _ _ _ _ _ _ _ _ _ _ _ _ _ _ _ _ _ _ _ _ _ _ _ _ _ _ _ _ _ _ _ _ _ _ _ _ _ _ _ _ _ _ _ _ _ _ _ _ _ _ _ _ _ _ _ _ _ _ _ _ _ _ _ _ _ _ _ _ _ _ _ _ _ _ _ _ _ _ _ _ _ _ _ _ _ _ _ _ _ _ _ _ _ _ _ _ _ _ _ _ _ _ _ _ ?_
            intro z231 z232 z233 z234 z235 z236 z237 z238 z239 z240 z241 z242 z243 z244 z245 z246 z247 z248 w4 h4
            have H4 := hid h4
            clear h4
            go_wp2
            go_roundw
            case rel =>
              refine ⟨j + 1, by omega, by go_num, ?_⟩
              rw [Hsj.out, HF.out]
              exact ⟨_, _, _, _, _, _, _, H4.out⟩
            case measure => simp [intOf]; omega
          | false =>
            have HF : Hid (foeD k E q = orClash (incOpn E k) k q) := hid (by unfold foeD; rw [if_neg (by rw [hF]; exact Bool.false_ne_true)])
            rw [hF] at Hhas
            clear hF
            go_wp2_with (go_at_call 77; refine Hhas.out.mono ?_; rintro e w9 ⟨_, rfl, rfl, rfl⟩)
            refine layR46 _ W0 _ S T _ _ Hw.out k q hkS hqn (Hti2.out.lt q) _ _ _ _ _ _ _ _ _ _ _ _ _ _ _ _ _ _ _ _ _ _ _ _ _ _ _ _ _ _ _ _ _ _ _ _ _ _ _ _ _ _ _ _ _ _ _ _ _ _ _ _ _ _ _ _ _ _ _ _ _ _ _ _ _ _ _ _ _ _ _ _ _ _ _ _ _ _ _ _ _ _ _ _ _ _ _ _ _ _ _ _ _ _ _ _ _ _ _ _ _ _ _ _ _ _ _ _ _ _ _ _ _ _ _ _ _ _ _ _ _ _ _ _ _ _ _ _ _ _ _ _ _ _ _ _ _ _ _ _ _ _ _ _ _ _ _ _ _ _ _ _ _ _ _ _ _ _ _ _ _ _ _ _ _ _ _ _ _ _ _ _ _ _ _ _ _ _ _ _ _ _ _ _ _ _ _ _ _ _ _ _ _ _ _ _ _ _ _ _ _ _ _ _ _ _ _ _ _ _ _ _ _ _ _ _ _ _ _ _ _ _ _ _ _ _ _ _ _ _ _ _ _ _ _ _ _ _ _ _ _ _ _ _ _ _ _ _ _ _ _ _ _ _ _ _ _ _ _ _ _ _ _ _ _ _ _ _ _ _ _ _ _ _ _ _ _ _ _ _ _ _ _ _ _ _ _ _ _ _ _ _ _ _ _ _ _ _ _ _ _ _ _ _ _ _ _ _ _ _ _ _ _ _ _ _ _ _ _ _ _ _ _ _ _ _ _ _ _ _ _ _ _ _ _ _ _ _ _ _ _ _ _ _ _ _ _ _ _ _ _ _ _ _ _ _ _ _ _ _ _ _ _ _ _ _ _ ?_
            intro z231 z232 z233 z234 z235 z236 z237 z238 z239 z240 z241 z242 z243 z244 z245 z246 z247 z248 w4 h4
            have H4 := hid h4
            clear h4
            go_wp2
            go_roundw
            case rel =>
              refine ⟨j + 1, by omega, by go_num, ?_⟩
              rw [Hsj.out, HF.out]
              exact ⟨_, _, _, _, _, _, _, H4.out⟩
            case measure => simp [intOf]; omega
        · obtain rfl : j = fo.length := by omega
          rw [List.take_length] at hla
          have hla2 := hid hla
          clear hla
          go_wp2
          go_roundw
          case rel =>
            refine ⟨k + 1, by omega, by go_num, ?_⟩
            rw [Hs.out, Hfd.out]
            exact hla2.out
          case measure => simp [intOf]; omega
    · obtain rfl : k = T.foes.length := by omega
      have hla2 := hid hla
      clear hla
      go_wp2
      refine HK.out _ _ ?_ hla2.out
      exact ⟨rfl, rfl, rfl, rfl, rfl, rfl⟩
end Go.Proofs.Lx

namespace Go.Proofs.Lx
open Go Go.RowKit Go.Proofs.Tj
set_option linter.unusedVariables false
set_option linter.unusedSimpArgs false

noncomputable def laySeg24 : Code := fstC (sndC (sndC layRest3))
def tellR (S : Stc) (D : Dyn) (r : Nat) : Dyn := if strR S r = true ∧ S.bodyLen r = 0 then tellD D (S.head r) 1 else D
theorem steps_tellR {n : Nat} {S : Stc} {r : Nat} (h : S.head r < n) (D : Dyn) : Steps n D (tellR S D r) := by
  unfold tellR; split
  · exact Steps.tell1 h (by omega) (by omega)
  · exact Steps.refl D
theorem range_foldl_succ {α : Type} (f : α → Nat → α) (D : α) (k : Nat) : (List.range (k + 1)).foldl f D = f ((List.range k).foldl f D) k := by rw [List.range_succ, List.foldl_append]; rfl
theorem lt_of_range {k n r : Nat} (h : k ≤ n) (hr : r ∈ List.range k) : r < n := by rw [List.mem_range] at hr; omega
set_option maxRecDepth 1000000 in
set_option maxHeartbeats 60000000 in
theorem lay_s24 (w W0 : World) (b bt : Nat) (g : Key → Nat) (vF vR vl : Value) (T : Th) (S : Stc) (D : Dyn) (X1 : Cont) (v12 : Value) (h : LayAt w W0 b g X1 vF vR S T D) (hti : TI S.n D) (hbox : ∀ W : World, Below W0.heap.size W0 W → W.cell? ⟨bt, 0, none⟩ = some (.int .i64 (T.foes.length : Int)) ∧ W.cell? ⟨bt, 1, none⟩ = some vF ∧ W.cell? ⟨bt, 2, none⟩ = some vR) (f : Nat → Value) (K : Act → World → Prop) (Q' : Exit → Act → World → Prop)
    (hK : ∀ (t : Array Value) (w' : World), LF t vl bt T.foes.length T.rules.length b → t[12]? = some v12 → LayAt w' W0 b g X1 vF vR S T ((List.range S.m).foldl (tellR S) D) → K ⟨t, []⟩ w') :
    Code.wp Try.prog laySeg24 (Exit.then K Q') ⟨#[(f 0), vl, .pointer (some ⟨bt, 0, none⟩), (f 3), (f 4), .int .i64 (T.foes.length : Int), .int .i64 (T.rules.length : Int), .pointer (some ⟨b, 0, none⟩), (f 8), (f 9), (f 10), (f 11), v12, (f 13), (f 14), (f 15), (f 16), (f 17), (f 18), (f 19), (f 20), (f 21), (f 22), (f 23), (f 24), (f 25), (f 26), (f 27), (f 28), (f 29), (f 30), (f 31), (f 32), (f 33), (f 34), (f 35), (f 36), (f 37), (f 38), (f 39), (f 40), (f 41), (f 42), (f 43), (f 44), (f 45), (f 46), (f 47), (f 48), (f 49), (f 50), (f 51), (f 52), (f 53), (f 54), (f 55), (f 56), (f 57), (f 58), (f 59), (f 60), (f 61), (f 62), (f 63), (f 64), (f 65), (f 66), (f 67), (f 68), (f 69), (f 70), (f 71), (f 72), (f 73), (f 74), (f 75), (f 76), (f 77), (f 78), (f 79), (f 80), (f 81), (f 82), (f 83), (f 84), (f 85), (f 86), (f 87), (f 88), (f 89), (f 90), (f 91), (f 92), (f 93), (f 94), (f 95), (f 96), (f 97), (f 98), (f 99), (f 100), (f 101), (f 102), (f 103), (f 104), (f 105), (f 106), (f 107), (f 108), (f 109), (f 110), (f 111), (f 112), (f 113), (f 114), (f 115), (f 116), (f 117), (f 118), (f 119), (f 120), (f 121), (f 122), (f 123), (f 124), (f 125), (f 126), (f 127), (f 128), (f 129), (f 130), (f 131), (f 132), (f 133), (f 134), (f 135), (f 136), (f 137), (f 138), (f 139), (f 140), (f 141), (f 142), (f 143), (f 144), (f 145), (f 146), (f 147), (f 148), (f 149), (f 150), (f 151), (f 152), (f 153), (f 154), (f 155), (f 156), (f 157), (f 158), (f 159), (f 160), (f 161), (f 162), (f 163), (f 164), (f 165), (f 166), (f 167), (f 168), (f 169), (f 170), (f 171), (f 172), (f 173), (f 174), (f 175), (f 176), (f 177), (f 178), (f 179), (f 180), (f 181), (f 182), (f 183), (f 184), (f 185), (f 186), (f 187), (f 188), (f 189), (f 190), (f 191), (f 192), (f 193), (f 194), (f 195), (f 196), (f 197), (f 198), (f 199), (f 200), (f 201), (f 202), (f 203), (f 204), (f 205), (f 206), (f 207), (f 208), (f 209), (f 210), (f 211), (f 212), (f 213), (f 214), (f 215), (f 216), (f 217), (f 218), (f 219), (f 220), (f 221), (f 222), (f 223), (f 224), (f 225), (f 226), (f 227), (f 228), (f 229), (f 230), (f 231), (f 232), (f 233), (f 234), (f 235), (f 236), (f 237), (f 238), (f 239), (f 240), (f 241), (f 242), (f 243), (f 244), (f 245), (f 246), (f 247), (f 248), (f 249), (f 250), (f 251), (f 252), (f 253), (f 254), (f 255), (f 256), (f 257), (f 258), (f 259), (f 260), (f 261), (f 262), (f 263), (f 264), (f 265), (f 266), (f 267), (f 268), (f 269), (f 270), (f 271), (f 272), (f 273), (f 274), (f 275), (f 276), (f 277), (f 278), (f 279), (f 280), (f 281), (f 282), (f 283), (f 284), (f 285), (f 286), (f 287), (f 288), (f 289), (f 290), (f 291), (f 292), (f 293), (f 294), (f 295), (f 296), (f 297), (f 298), (f 299), (f 300), (f 301), (f 302), (f 303), (f 304), (f 305), (f 306), (f 307), (f 308), (f 309), (f 310), (f 311), (f 312), (f 313), (f 314), (f 315), (f 316), (f 317), (f 318), (f 319), (f 320), (f 321), (f 322), (f 323), (f 324), (f 325), (f 326), (f 327), (f 328), (f 329), (f 330), (f 331), (f 332), (f 333), (f 334), (f 335), (f 336), (f 337), (f 338), (f 339), (f 340), (f 341), (f 342), (f 343), (f 344), (f 345), (f 346), (f 347), (f 348), (f 349), (f 350), (f 351), (f 352), (f 353), (f 354), (f 355), (f 356), (f 357), (f 358), (f 359), (f 360), (f 361), (f 362), (f 363), (f 364), (f 365), (f 366), (f 367), (f 368)], []⟩ w := by
  have HK := hid hK
  have Hti := hid hti
  have Hbox := hid hbox
  have H0 := hid h
  have Hn : Hid (T.foes.length = S.n) := let ⟨_, _, _, _, _, _, _, k⟩ := h; hid k.st.n
  have Hm : Hid (T.rules.length = S.m) := let ⟨_, _, _, _, _, _, _, k⟩ := h; hid k.st.m
  have hn4 : S.n ≤ 4096 := let ⟨_, _, _, _, _, _, _, k⟩ := h; k.st.n4
  have hm4 : S.m ≤ 4096 := let ⟨_, _, _, _, _, _, _, k⟩ := h; k.st.m4
  have Hhdn : Hid (∀ r, r < S.m → S.head r < S.n) := let ⟨_, _, _, _, _, _, _, k⟩ := h; hid k.st.hdn
  obtain ⟨AR, cR, rfl⟩ : ∃ A c, vR = .slice A S.m c := by
    obtain ⟨_, _, _, _, _, _, _, h0⟩ := h
    obtain ⟨A, c, e, _⟩ := h0.rR
    exact ⟨A, c, by rw [← Hm.out]; exact e⟩
  obtain ⟨_, _, b2⟩ := hbox w (let ⟨_, _, _, _, _, _, _, k⟩ := h; k.sp.old)
  clear hK hti hbox h
  conv => arg 2; whnf
  go_wp2
  clear b2
  go_loopw [160] (fun v160 wr => ∃ k : Nat, k ≤ S.m ∧ v160 = .int .i64 k ∧ LayAt wr W0 b g X1 vF (.slice AR S.m cR) S T ((List.range k).foldl (tellR S) D)) (fun v160 _ => S.m - (intOf v160).toNat)
  case atStart => exact ⟨0, Nat.zero_le _, rfl, H0.out⟩
  case round =>
    obtain ⟨k, hk, rfl, hla⟩ := hrel
    by_cases hlt : k < S.m
    · obtain ⟨vB, vP, vin, vof, vbe, x2, vT, h⟩ := hla
      obtain ⟨ga, B, c1, c2, eR, kk⟩ := h.rule hlt
      cases eR
      obtain ⟨k0, k1, k2⟩ := kk wr h.sp.old
      have hhd := Hhdn.out k hlt
      have hti2 := Hti.out.steps (steps_foldl (List.range k) D fun r hr D => steps_tellR (Hhdn.out r (lt_of_range hk hr)) D)
      have Hs := hid (range_foldl_succ (tellR S) D k)
      generalize (List.range k).foldl (tellR S) D = Dk at *
      obtain ⟨kd, Hkd⟩ : ∃ kd, Hid (S.kind k = kd) := ⟨_, hid rfl⟩
      obtain ⟨hd, Hhd⟩ : ∃ hd, Hid (S.head k = hd) := ⟨_, hid rfl⟩
      obtain ⟨bl, Hbl⟩ : ∃ bl, Hid (S.bodyLen k = bl) := ⟨_, hid rfl⟩
      rw [Hkd.out] at k0
      rw [Hhd.out] at k1 hhd
      rw [Hbl.out] at k2
      have h1 := h.newX2 (.cells #[.int .i64 kd, .int .i64 (hd : Int), .slice B bl c2] 37)
      have Htell := hid (etell_any _ W0 _ S T _ ⟨_, h1⟩ hti2 hd 1 hhd (by omega) (by omega))
      unfold Stp at Htell
      have H1 := hid h1
      clear h h1 kk hti2
      by_cases hc : kd = 1 ∧ bl = 0
      · have HtR : Hid (tellR S Dk k = tellD Dk hd 1) := hid (by unfold tellR strR; rw [Hkd.out, Hbl.out, Hhd.out, if_pos ⟨by rw [hc.1]; rfl, hc.2⟩])
        obtain ⟨rfl, rfl⟩ := hc
        go_wp2_with (go_at_call 145; refine Htell.out.mono ?_; rintro e w9 ⟨_, rfl, rfl, he⟩)
        go_roundw
        case rel =>
          obtain ⟨_, h5⟩ := he
          refine ⟨k + 1, by omega, by go_num, ?_⟩
          rw [Hs.out, HtR.out]
          exact ⟨_, _, _, _, _, _, _, h5⟩
        case measure => simp [intOf]; omega
      · have HtR : Hid (tellR S Dk k = Dk) := hid (by unfold tellR strR; rw [Hkd.out, Hbl.out, if_neg (fun e => hc ⟨by simpa using e.1, e.2⟩)])
        clear Htell
        by_cases hk1 : kd = 1
        · have hb0 : ¬ ((bl : Int) = 0) := by omega
          subst hk1
          clear hc
          go_wp2
          go_roundw
          case rel =>
            refine ⟨k + 1, by omega, by go_num, ?_⟩
            rw [Hs.out, HtR.out]
            exact ⟨_, _, _, _, _, _, _, H1.out⟩
          case measure => simp [intOf]; omega
        · clear hc
          go_wp2
          go_roundw
          case rel =>
            refine ⟨k + 1, by omega, by go_num, ?_⟩
            rw [Hs.out, HtR.out]
            exact ⟨_, _, _, _, _, _, _, H1.out⟩
          case measure => simp [intOf]; omega
    · obtain rfl : k = S.m := by omega
      have hla2 := hid hla
      clear hla
      go_wp2
      refine HK.out _ _ ?_ ?_ hla2.out
      · exact ⟨rfl, rfl, rfl, rfl, rfl, rfl⟩
      · rfl
end Go.Proofs.Lx

namespace Go.Proofs.Lx
open Go Go.RowKit Go.Proofs.Tj
set_option linter.unusedVariables false
set_option linter.unusedSimpArgs false

noncomputable def laySeg30 : Code := fstC (sndC (sndC (sndC layRest3)))
def strD (F : Nat → Bool) (D : Dyn) (q : Nat) : Dyn := if F q = true then { D with strict := Tj.upd D.strict q (-1) } else if D.strict q = 0 then tellD D q 2 else D
theorem steps_strD {n : Nat} {F : Nat → Bool} {q : Nat} (h : q < n) (D : Dyn) : Steps n D (strD F D q) := by
  unfold strD; split
  · exact Steps.oth rfl rfl
  split
  · exact Steps.tell1 h (by omega) (by omega)
  · exact Steps.refl D
theorem range_foldl_succ' {α : Type} (f : α → Nat → α) (D : α) (k : Nat) : (List.range (k + 1)).foldl f D = f ((List.range k).foldl f D) k := by rw [List.range_succ, List.foldl_append]; rfl
theorem lt_of_range' {k n r : Nat} (h : k ≤ n) (hr : r ∈ List.range k) : r < n := by rw [List.mem_range] at hr; omega
set_option maxRecDepth 1000000 in
set_option maxHeartbeats 60000000 in
theorem lay_s30 (w W0 : World) (b bt : Nat) (g : Key → Nat) (vF vR vl : Value) (T : Th) (S : Stc) (D : Dyn) (gx : Nat) (F : Nat → Bool) (h : LayAt w W0 b g (.arr (sl gx T.foes.length) 4 1 T.foes.length (tab T.foes.length fun q => Value.bool (F q))) vF vR S T D) (hti : TI S.n D) (hbox : ∀ W : World, Below W0.heap.size W0 W → W.cell? ⟨bt, 0, none⟩ = some (.int .i64 (T.foes.length : Int)) ∧ W.cell? ⟨bt, 1, none⟩ = some vF ∧ W.cell? ⟨bt, 2, none⟩ = some vR) (f : Nat → Value) (K : Act → World → Prop) (Q' : Exit → Act → World → Prop)
    (hK : ∀ (t : Array Value) (w' : World), LF t vl bt T.foes.length T.rules.length b → LayAt w' W0 b g .no vF vR S T ((List.range T.foes.length).foldl (strD F) D) → K ⟨t, []⟩ w') :
    Code.wp Try.prog laySeg30 (Exit.then K Q') ⟨#[(f 0), vl, .pointer (some ⟨bt, 0, none⟩), (f 3), (f 4), .int .i64 (T.foes.length : Int), .int .i64 (T.rules.length : Int), .pointer (some ⟨b, 0, none⟩), (f 8), (f 9), (f 10), (f 11), sl gx T.foes.length, (f 13), (f 14), (f 15), (f 16), (f 17), (f 18), (f 19), (f 20), (f 21), (f 22), (f 23), (f 24), (f 25), (f 26), (f 27), (f 28), (f 29), (f 30), (f 31), (f 32), (f 33), (f 34), (f 35), (f 36), (f 37), (f 38), (f 39), (f 40), (f 41), (f 42), (f 43), (f 44), (f 45), (f 46), (f 47), (f 48), (f 49), (f 50), (f 51), (f 52), (f 53), (f 54), (f 55), (f 56), (f 57), (f 58), (f 59), (f 60), (f 61), (f 62), (f 63), (f 64), (f 65), (f 66), (f 67), (f 68), (f 69), (f 70), (f 71), (f 72), (f 73), (f 74), (f 75), (f 76), (f 77), (f 78), (f 79), (f 80), (f 81), (f 82), (f 83), (f 84), (f 85), (f 86), (f 87), (f 88), (f 89), (f 90), (f 91), (f 92), (f 93), (f 94), (f 95), (f 96), (f 97), (f 98), (f 99), (f 100), (f 101), (f 102), (f 103), (f 104), (f 105), (f 106), (f 107), (f 108), (f 109), (f 110), (f 111), (f 112), (f 113), (f 114), (f 115), (f 116), (f 117), (f 118), (f 119), (f 120), (f 121), (f 122), (f 123), (f 124), (f 125), (f 126), (f 127), (f 128), (f 129), (f 130), (f 131), (f 132), (f 133), (f 134), (f 135), (f 136), (f 137), (f 138), (f 139), (f 140), (f 141), (f 142), (f 143), (f 144), (f 145), (f 146), (f 147), (f 148), (f 149), (f 150), (f 151), (f 152), (f 153), (f 154), (f 155), (f 156), (f 157), (f 158), (f 159), (f 160), (f 161), (f 162), (f 163), (f 164), (f 165), (f 166), (f 167), (f 168), (f 169), (f 170), (f 171), (f 172), (f 173), (f 174), (f 175), (f 176), (f 177), (f 178), (f 179), (f 180), (f 181), (f 182), (f 183), (f 184), (f 185), (f 186), (f 187), (f 188), (f 189), (f 190), (f 191), (f 192), (f 193), (f 194), (f 195), (f 196), (f 197), (f 198), (f 199), (f 200), (f 201), (f 202), (f 203), (f 204), (f 205), (f 206), (f 207), (f 208), (f 209), (f 210), (f 211), (f 212), (f 213), (f 214), (f 215), (f 216), (f 217), (f 218), (f 219), (f 220), (f 221), (f 222), (f 223), (f 224), (f 225), (f 226), (f 227), (f 228), (f 229), (f 230), (f 231), (f 232), (f 233), (f 234), (f 235), (f 236), (f 237), (f 238), (f 239), (f 240), (f 241), (f 242), (f 243), (f 244), (f 245), (f 246), (f 247), (f 248), (f 249), (f 250), (f 251), (f 252), (f 253), (f 254), (f 255), (f 256), (f 257), (f 258), (f 259), (f 260), (f 261), (f 262), (f 263), (f 264), (f 265), (f 266), (f 267), (f 268), (f 269), (f 270), (f 271), (f 272), (f 273), (f 274), (f 275), (f 276), (f 277), (f 278), (f 279), (f 280), (f 281), (f 282), (f 283), (f 284), (f 285), (f 286), (f 287), (f 288), (f 289), (f 290), (f 291), (f 292), (f 293), (f 294), (f 295), (f 296), (f 297), (f 298), (f 299), (f 300), (f 301), (f 302), (f 303), (f 304), (f 305), (f 306), (f 307), (f 308), (f 309), (f 310), (f 311), (f 312), (f 313), (f 314), (f 315), (f 316), (f 317), (f 318), (f 319), (f 320), (f 321), (f 322), (f 323), (f 324), (f 325), (f 326), (f 327), (f 328), (f 329), (f 330), (f 331), (f 332), (f 333), (f 334), (f 335), (f 336), (f 337), (f 338), (f 339), (f 340), (f 341), (f 342), (f 343), (f 344), (f 345), (f 346), (f 347), (f 348), (f 349), (f 350), (f 351), (f 352), (f 353), (f 354), (f 355), (f 356), (f 357), (f 358), (f 359), (f 360), (f 361), (f 362), (f 363), (f 364), (f 365), (f 366), (f 367), (f 368)], []⟩ w := by
  have HK := hid hK
  have Hti := hid hti
  have Hbox := hid hbox
  have H0 := hid h
  have Hn : Hid (T.foes.length = S.n) := let ⟨_, _, _, _, _, _, _, k⟩ := h; hid k.st.n
  have Hm : Hid (T.rules.length = S.m) := let ⟨_, _, _, _, _, _, _, k⟩ := h; hid k.st.m
  have hn4 : S.n ≤ 4096 := let ⟨_, _, _, _, _, _, _, k⟩ := h; k.st.n4
  have hm4 : S.m ≤ 4096 := let ⟨_, _, _, _, _, _, _, k⟩ := h; k.st.m4
  have Hhdn : Hid (∀ r, r < S.m → S.head r < S.n) := let ⟨_, _, _, _, _, _, _, k⟩ := h; hid k.st.hdn
  have hn4T : T.foes.length ≤ 4096 := by rw [Hn.out]; exact hn4
  clear hK hti hbox h
  conv => arg 2; whnf
  go_wp2
  go_loopw [179] (fun v179 wr => ∃ k : Nat, k ≤ T.foes.length ∧ v179 = .int .i64 k ∧ LayAt wr W0 b g (.arr (sl gx T.foes.length) 4 1 T.foes.length (tab T.foes.length fun q => Value.bool (F q))) vF vR S T ((List.range k).foldl (strD F) D)) (fun v179 _ => T.foes.length - (intOf v179).toNat)
  case atStart => exact ⟨0, Nat.zero_le _, rfl, H0.out⟩
  case round =>
    obtain ⟨k, hk, rfl, hla⟩ := hrel
    by_cases hlt : k < T.foes.length
    · obtain ⟨vB, vP, vin, vof, vbe, x2, vT, h⟩ := hla
      have hkS : k < S.n := by rw [← Hn.out]; exact hlt
      have hti2 := Hti.out.steps (steps_foldl (List.range k) D fun r hr D => steps_strD (F := F) (lt_of_range' (show k ≤ S.n by omega) hr) D)
      have Hs := hid (range_foldl_succ' (strD F) D k)
      generalize (List.range k).foldl (strD F) D = Dk at *
      obtain ⟨x1c, _⟩ := h.readX1 rfl hlt
      have e14 := h.hStrict
      rw [← Hn.out] at e14
      have c10 := h.rStrict hkS
      have f10 := h.fStrict k
      have hne := h.bStrict
      have Htell := hid (etell_any _ W0 _ S T _ ⟨_, h⟩ hti2 k 2 hkS (by omega) (by omega))
      unfold Stp at Htell
      have H := hid h
      have Hw := hid (h.wStrict k (-1))
      clear h hti2 hkS
      cases hF : F k with
      | true =>
        have HF := hid hF
        rw [hF] at x1c
        clear hF
        go_wp2
        go_roundw
        case rel =>
          refine ⟨k + 1, by omega, by go_num, ?_⟩
          rw [Hs.out, show strD F Dk k = { Dk with strict := Tj.upd Dk.strict k (-1) } by unfold strD; rw [if_pos HF.out]]
          exact ⟨_, _, _, _, _, _, _, Hw.out⟩
        case measure => simp [intOf]; omega
      | false =>
        have HF := hid hF
        rw [hF] at x1c
        clear hF
        obtain ⟨sx, Hsx⟩ : ∃ sx, Hid (Dk.strict k = sx) := ⟨_, hid rfl⟩
        rw [Hsx.out] at c10
        by_cases h0 : sx = 0
        · have HtR : Hid (strD F Dk k = tellD Dk k 2) := hid (by unfold strD; rw [if_neg (by rw [HF.out]; exact Bool.false_ne_true), if_pos (by rw [Hsx.out]; exact h0)])
          subst h0
          go_wp2_with (go_at_call 145; refine Htell.out.mono ?_; rintro e w9 ⟨_, rfl, rfl, he⟩)
          go_roundw
          case rel =>
            obtain ⟨_, h5⟩ := he
            refine ⟨k + 1, by omega, by go_num, ?_⟩
            rw [Hs.out, HtR.out]
            exact ⟨_, _, _, _, _, _, _, h5⟩
          case measure => simp [intOf]; omega
        · have HtR : Hid (strD F Dk k = Dk) := hid (by unfold strD; rw [if_neg (by rw [HF.out]; exact Bool.false_ne_true), if_neg (by rw [Hsx.out]; exact h0)])
          go_wp2
          go_roundw
          case rel =>
            refine ⟨k + 1, by omega, by go_num, ?_⟩
            rw [Hs.out, HtR.out]
            exact ⟨_, _, _, _, _, _, _, H.out⟩
          case measure => simp [intOf]; omega
    · obtain rfl : k = T.foes.length := by omega
      have hla2 := hid hla
      clear hla
      go_wp2
      refine HK.out _ _ ?_ ?_
      · exact ⟨rfl, rfl, rfl, rfl, rfl, rfl⟩
      · obtain ⟨vB, vP, vin, vof, vbe, x2, vT, h⟩ := hla2.out
        exact ⟨_, _, _, _, _, _, _, h.dropX1⟩
end Go.Proofs.Lx
