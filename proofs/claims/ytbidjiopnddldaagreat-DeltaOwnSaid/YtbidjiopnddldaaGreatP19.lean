/- Parts of the proof: Dm, Dn. delta.cut: the rules of the cone. Printed by gen_cut.py. No condition. -/
import Derived.Test.YtbidjiopnddldaaGreatP18
import Derived.Lib.JoinLaws
namespace Go.Proofs.Lx
open Go Go.RowKit Go.Proofs.Tj
set_option linter.unusedVariables false
set_option linter.unusedSimpArgs false
theorem PB.other {w w' : World} {base p : Nat} {lits : Int} {vFo vBe vOl vRu vFa : Value} {rs : List Rule} {vs : Nat → Value} {fa : List Int} (h : PB w base p lits vFo vBe vOl vRu vFa rs vs fa) {r : Nat} (hg : w.grownBy w' (some r)) (hc : ∀ c e f, w.heap[r]? ≠ some (.cells c e f)) : PB w' base p lits vFo vBe vOl vRu vFa rs vs fa := by
 have key : ∀ {e sz n : Nat} {v : Value} {xs : List Value}, w.ownsRow base e sz v n xs → w'.ownsRow base e sz v n xs := fun ho => ho.kept hg (.inr (own_ne_map ho hc))
 refine ⟨(hg.block p (lt_of_block h.box) fun e => ?_).trans h.box, key h.ru, key h.fa, fun i hi => ⟨key (h.bd i hi).1, (h.bd i hi).2⟩, h.lo⟩
 injection e with e
 subst e
 exact hc _ _ _ h.box
theorem Kp.lows {p : Nat} {w W3 W : World} (h : Kp p W3 W) (hb : Below w.heap.size w W3) (hp : w.heap.size ≤ p) : Below w.heap.size w W :=
 ⟨h.os.trans hb.os, h.tape.trans hb.tape, h.output.trans hb.output, Nat.le_trans hb.size h.sz, fun k hk => (h.old k (Nat.lt_of_lt_of_le hk hb.size) (by omega)).trans (hb.block k hk)⟩
theorem mkOd (m : Nat) (hn : m ≤ 1048576) : ∀ W : World, (Instr.makeSlice 36 (.int .i64 0) (.int .i64 (m : Int))).run Tryz.prog W = .ok (.slice (some ⟨W.heap.size, 0, none⟩) 0 m) (W.alloc (.cells (madeCells #[.int .i64 0] m) 3)) := fun W =>
 run_make_room _ _ _ 8 Tryz.underlying36 infoI rfl .i64 .i64 m (by omega) (by omega) W
/-- The moved rules' numbers. -/
def mvI (T : Th) (cone : List Int) (k : Nat) : List Int := (mvL T cone k).map fun (i : Nat) => (i : Int)
theorem mvI_len (T : Th) (D cone : List Int) (k : Nat) : (mvI T cone k).length = (movRs T D cone k).length := by simp [mvI, movRs]
theorem mvI_le (T : Th) (cone : List Int) (k : Nat) : (mvI T cone k).length ≤ k := by simpa [mvI] using mvL_len T cone k
theorem mvI_t {T : Th} {cone : List Int} {k : Nat} (h : memB cone (T.rules.getD k default).head = true) : mvI T cone (k + 1) = mvI T cone k ++ [(k : Int)] := by
 unfold mvI; rw [mvL_succ, if_pos h, List.map_append]; rfl
theorem mvI_f {T : Th} {cone : List Int} {k : Nat} (h : memB cone (T.rules.getD k default).head ≠ true) : mvI T cone (k + 1) = mvI T cone k := by
 unfold mvI; rw [mvL_succ, if_neg h, List.append_nil]
theorem mvI_not {T : Th} {cone : List Int} {k : Nat} : ((k : Nat) : Int) ∉ mvI T cone k := fun h => by
 unfold mvI at h
 obtain ⟨i, hi, e⟩ := List.mem_map.1 h
 have := (mem_mvL.1 hi).1
 omega
theorem PB.start {w : World} {p : Nat} {lits : Int} {vFo vOl : Value} (h : w.heap[p]? = some (.cells #[.int .i64 lits, vFo, .slice none 0 0, .slice none 0 0, .slice none 0 0, vOl] 111 (0, 0))) {base : Nat} (hp : p < base) (vs : Nat → Value) : PB w base p lits vFo (.slice none 0 0) vOl (.slice none 0 0) (.slice none 0 0) [] vs [] :=
 ⟨h, World.ownsRow_nil _ _ _ _, World.ownsRow_nil _ _ _ _, fun i hi => absurd hi (by simp), hp⟩
set_option maxRecDepth 1000000 in
set_option maxHeartbeats 60000000 in
theorem cut_s4 (w W3 W4 : World) (x p b r6 bm base : Nat) (lits : Int) (vFo vOl : Value) (Ac Af AF AR AB AM : Option Addr) (cc cf cF cR cB cM : Nat) (T : Th) (M : List Nat) (cone F D : List Int) (hwf : WfTh T) (her : ER w x AF AR AB AM cF cR cB cM T M) (hb1 : Below w.heap.size w W3) (hcr : RcI w Ac cone) (hok : DOk T.foes.length cone) (him : IM W3 b D) (hD : DOk T.foes.length D) (hDe : D = outL T cone T.rules.length) (hbp : b ≠ p) (hwp : w.heap.size ≤ p) (hbase : base = W3.heap.size) (hbm : W3.heap.size ≤ bm)
  (hpb : PB W4 base p lits vFo (.slice none 0 0) vOl (.slice none 0 0) (.slice none 0 0) [] (fun _ => .slice none 0 0) []) (him4 : IM W4 bm []) (hkp : Kp p W3 W4) (f : Nat → Value) (K : Act → World → Prop) (Q' : Exit → Act → World → Prop)
  (hK : ∀ (t : Array Value) (w' : World) (vRu : Value) (vs : Nat → Value), LC t x p b r6 (.slice Ac cone.length cc) (.slice Af F.length cf) → t[13]? = some (.map (some bm)) → PB w' base p lits vFo (.slice none 0 0) vOl vRu (.slice none 0 0) (movRs T D cone T.rules.length) vs [] → IM w' bm (mvI T cone T.rules.length) → Kp p W3 w' → K ⟨t, []⟩ w') :
  Code.wp Tryz.prog cutSeg4 (Exit.then K Q') ⟨#[.pointer (some ⟨x, 0, none⟩), .slice Ac cone.length cc, .slice Af F.length cf, (f 3), (f 4), (f 5), .pointer (some ⟨r6, 0, none⟩), .map (some b), .pointer (some ⟨p, 0, none⟩), (f 9), (f 10), (f 11), (f 12), .map (some bm), (f 14), (f 15), (f 16), (f 17), (f 18), (f 19), (f 20), (f 21), (f 22), (f 23), (f 24), (f 25), (f 26), (f 27), (f 28), (f 29), (f 30), (f 31), (f 32), (f 33), (f 34), (f 35), (f 36), (f 37), (f 38), (f 39), (f 40), (f 41), (f 42), (f 43), (f 44), (f 45), (f 46), (f 47), (f 48), (f 49), (f 50), (f 51), (f 52), (f 53), (f 54), (f 55), (f 56), (f 57), (f 58), (f 59), (f 60), (f 61), (f 62), (f 63), (f 64), (f 65), (f 66), (f 67), (f 68), (f 69), (f 70), (f 71), (f 72), (f 73), (f 74), (f 75), (f 76), (f 77), (f 78), (f 79), (f 80), (f 81), (f 82), (f 83), (f 84), (f 85), (f 86), (f 87), (f 88), (f 89), (f 90), (f 91), (f 92), (f 93), (f 94), (f 95), (f 96), (f 97), (f 98), (f 99), (f 100), (f 101), (f 102), (f 103), (f 104), (f 105), (f 106), (f 107), (f 108), (f 109), (f 110), (f 111), (f 112), (f 113), (f 114), (f 115), (f 116), (f 117), (f 118), (f 119), (f 120), (f 121), (f 122), (f 123), (f 124), (f 125), (f 126), (f 127), (f 128), (f 129), (f 130), (f 131), (f 132), (f 133), (f 134), (f 135), (f 136), (f 137), (f 138), (f 139), (f 140), (f 141), (f 142), (f 143), (f 144), (f 145), (f 146), (f 147), (f 148), (f 149), (f 150), (f 151), (f 152), (f 153), (f 154), (f 155), (f 156), (f 157), (f 158), (f 159), (f 160), (f 161), (f 162), (f 163), (f 164), (f 165), (f 166), (f 167), (f 168), (f 169), (f 170), (f 171), (f 172), (f 173), (f 174), (f 175), (f 176), (f 177), (f 178), (f 179), (f 180), (f 181), (f 182), (f 183), (f 184), (f 185), (f 186), (f 187), (f 188), (f 189), (f 190), (f 191), (f 192), (f 193), (f 194), (f 195), (f 196), (f 197), (f 198), (f 199), (f 200), (f 201), (f 202), (f 203), (f 204), (f 205), (f 206), (f 207), (f 208), (f 209), (f 210), (f 211), (f 212), (f 213), (f 214), (f 215), (f 216), (f 217), (f 218), (f 219), (f 220), (f 221), (f 222), (f 223), (f 224), (f 225), (f 226), (f 227), (f 228), (f 229), (f 230), (f 231), (f 232), (f 233), (f 234), (f 235), (f 236), (f 237), (f 238), (f 239), (f 240), (f 241), (f 242), (f 243), (f 244), (f 245), (f 246)], []⟩ W4 := by
 have HK := hid hK
 have Her := hid her
 have Hwf := hid hwf
 have Hok := hid hok
 have HD := hid hD
 have Hb1 := hid hb1
 have Him := hid him
 have Hpb := hid hpb
 have Him4 := hid him4
 have Hkp := hid hkp
 have Hwp := hid hwp
 have Hbp := hid hbp
 have Hba := hid hbase
 have Hbm := hid hbm
 have hf4 : (T.foes.length : Int) ≤ 4096 := by have := hwf.fl; have := hwf.l1; omega
 have hr4 := hwf.rl
 have hcl := hok.le
 have hdl := hD.le
 have HDe := hid hDe
 obtain ⟨i0, hi, hz0, hz1, hz2⟩ := info_parts infoI
 obtain ⟨iR, hiR, hzR0, hzR1, hzR2⟩ := info_parts infoRl
 have hHi := hid (⟨hi, hz0, hz1, hz2⟩ : _ ∧ _ ∧ _ ∧ _)
 have hHr := hid (⟨hiR, hzR0, hzR1, hzR2⟩ : _ ∧ _ ∧ _ ∧ _)
 have e3 := ((Her.out W4 (hkp.lows hb1 hwp)).1).2.1
 clear hK her hwf hok hD hb1 him hpb him4 hkp hwp hbp hDe hbase hbm hi hz0 hz1 hz2 hiR hzR0 hzR1 hzR2
 conv => arg 2; whnf
 go_wp2
 go_loopw [87] (fun v87 wr => ∃ k : Nat, k ≤ T.rules.length ∧ v87 = .int .i64 (k : Int) ∧ IM wr bm (mvI T cone k) ∧ Kp p W3 wr ∧ ∃ vRu vs, PB wr base p lits vFo (.slice none 0 0) vOl vRu (.slice none 0 0) (movRs T D cone k) vs []) (fun v87 _ => T.rules.length - (intOf v87).toNat)
 case atStart => exact ⟨0, Nat.zero_le _, rfl, Him4.out, Hkp.out, _, _, Hpb.out⟩
 case round =>
  clear e3 Hpb Him4 Hkp
  obtain ⟨k, hk, rfl, him, hkp, vRu, vs, hpb⟩ := hrel
  have hlow : Below w.heap.size w wr := hkp.lows Hb1.out Hwp.out
  by_cases hlt : k < T.rules.length
  ·obtain ⟨adR, B, cB', eR, hk0, hk1, hk2, hB1, hB2, hrow⟩ := (Her.out w (ext_refl _)).2.2.1.atRule hlt
   subst eR
   replace hk0 := cell_ext hlow hk0
   replace hk1 := cell_ext hlow hk1
   replace hk2 := cell_ext hlow hk2
   obtain ⟨⟨hh0, hh1⟩, hbo, hb16⟩ := rule_in Hwf.out hlt
   have hwh : (Lit.int .i64 T.rules[k].head).wf = true := idx_wf ⟨hh0, hh1⟩ hf4
   have hB3 : T.rules[k].body.length ≤ 140737488355328 := by omega
   have Hgd : Hid (T.rules.getD k default = T.rules[k]) := hid (by simp [hlt])
   have Hin : Hid (∀ W : World, (∀ g, g < W3.heap.size → g ≠ p → W.heap[g]? = W3.heap[g]?) → IM W b D) := hid fun W hW => Him.out.keep (hW b Him.out.lt Hbp.out)
   have Hlk : Hid (∀ cA : Obj, (Instr.lookup 129 (.map (some b)) (.int .i64 T.rules[k].head) true).run Tryz.prog (wr.alloc cA) = .ok (if T.rules[k].head ∈ D then .tuple #[.int .i64 (D.idxOf T.rules[k].head : Nat), .bool true] else .tuple #[.int .i64 0, .bool false]) (wr.alloc cA)) := hid fun cA => (Hin.out _ (hkp.trans (Kp.below (ext_alloc wr cA))).old).lookok hwh
   obtain ⟨E, hE⟩ := outL_pre T cone T.rules.length (Nat.le_refl _)
   rw [← HDe.out] at hE
   have HP := hid hpb
   have HI := hid him
   have HKp := hid hkp
   have Hbo := hid hbo
   clear hpb him hkp hbo
   by_cases hco : T.rules[k].head ∈ cone
   ·have hin : T.rules[k].head ∈ D := by rw [hE]; exact List.mem_append_left _ hco
    have hix : D.idxOf T.rules[k].head < cone.length := by rw [hE]; exact idx_in hco
    have hlk : ∀ cA : Obj, (Instr.lookup 129 (.map (some b)) (.int .i64 T.rules[k].head) true).run Tryz.prog (wr.alloc cA) = .ok (.tuple #[.int .i64 (D.idxOf T.rules[k].head : Nat), .bool true]) (wr.alloc cA) := fun cA => by rw [Hlk.out cA, if_pos hin]
    have Hcm : Hid (memB cone (T.rules.getD k default).head = true) := hid (by rw [Hgd.out]; exact memB_true.2 hco)
    have Hix : Hid (ixD D T.rules[k].head = ((D.idxOf T.rules[k].head : Nat) : Int)) := hid (by unfold ixD; rw [if_pos hin])
    have Hrow : Hid (∀ W, Below w.heap.size w W → RcI W B T.rules[k].body) := hid fun W hW => hrow.ext (scR_mono _) hW
    have HmR : Hid (movR T D k = ⟨T.rules[k].kind, ixD D T.rules[k].head, srt (T.rules[k].body.map (ixD D))⟩) := hid (by unfold movR; rw [Hgd.out])
    -- the map of the moved rules
    have Hmu : Hid (∀ cA : Obj, ∃ w2, (Instr.mapUpdate 129 (.map (some bm)) (.int .i64 (k : Int)) (.int .i64 ((movRs T D cone k).length : Int))).run Tryz.prog (wr.alloc cA) = .ok () w2 ∧ IM w2 bm (mvI T cone k ++ [(k : Int)]) ∧ (wr.alloc cA).grownBy w2 (some bm)) := hid fun cA => by
     have h1 := HI.out.keep (w' := wr.alloc cA) (Below.heap_alloc wr cA _ HI.out.lt)
     have h2 := mvI_le T cone k
     obtain ⟨w2, a1, a2, a3⟩ := h1.push (by omega) mvI_not (natWf (by omega))
     rw [mvI_len T D cone k] at a1
     exact ⟨w2, a1, a2, a3⟩
    obtain ⟨Ar, cr, rfl⟩ : ∃ A c, vRu = .slice A (movRs T D cone k).length c := own_form0 HP.out.ru
    have hpl := lt_of_block HP.out.box
    have c2 : wr.cell? ⟨p, 2, none⟩ = some (.slice Ar (movRs T D cone k).length cr) := by rw [cell_of_row wr p _ _ _ _ HP.out.box]; rfl
    clear hE hin hco Hlk hrow
    generalize hLm : (movRs T D cone k).length = Lm at *
    have HLm := hid hLm
    clear hLm
    generalize D.idxOf T.rules[k].head = ih at *
    generalize T.rules[k].head = hd at *
    generalize T.rules[k].kind = kd at *
    generalize hbd : T.rules[k].body = bd at *
    clear hbd
    have hgi : ¬ (cone.length : Int) ≤ (ih : Int) := by omega
    obtain ⟨w2, hmu, him2, hg2⟩ := Hmu.out (.cells #[.int .i64 kd, .int .i64 hd, .slice B bd.length cB'] 93)
    have hwrb : wr.heap.size < (wr.alloc (.cells #[.int .i64 kd, .int .i64 hd, .slice B bd.length cB'] 93)).heap.size := by simp
    have hrb : w2.heap[wr.heap.size]? = some (.cells #[.int .i64 kd, .int .i64 hd, .slice B bd.length cB'] 93 (0, 0)) := (hg2.block wr.heap.size hwrb (fun e => by injection e with e; have := HI.out.lt; omega)).trans (heap_alloc_new wr _)
    have hd0 : w2.cell? ⟨wr.heap.size, 0, none⟩ = some (.int .i64 kd) := by rw [cell_of_row w2 _ 0 _ _ _ hrb]; rfl
    have hd2 : w2.cell? ⟨wr.heap.size, 2, none⟩ = some (.slice B bd.length cB') := by rw [cell_of_row w2 _ 2 _ _ _ hrb]; rfl
    have HP2 := hid ((HP.out.ext (ext_alloc wr (.cells #[.int .i64 kd, .int .i64 hd, .slice B bd.length cB'] 93))).other hg2 (IM.noCells (HI.out.keep (Below.heap_alloc wr _ _ HI.out.lt))))
    have HK2 := hid ((HKp.out.trans (Kp.below (ext_alloc wr (.cells #[.int .i64 kd, .int .i64 hd, .slice B bd.length cB'] 93)))).grown hg2 (fun g hg => .inl (by injection hg with hg; have := Hbm.out; omega)))
    have HI2 := hid him2
    have hw2l := hid hwrb
    have hs2 : wr.heap.size < w2.heap.size := Nat.lt_of_lt_of_le hwrb hg2.size
    have Hrb := hid hrb
    clear him2 hg2 hrb Hmu HP HI HKp hlow hwrb
    obtain ⟨wq, rfl⟩ : ∃ wq : World, wq = wr := ⟨_, rfl⟩
    have hmk := mkOd bd.length (by omega)
    go_wp2
    clear hmk
    go_loopw [18, 120] (fun v18 v120 wr => ∃ j : Nat, j ≤ bd.length ∧ v120 = .int .i64 (j : Int) ∧ wr.ownsRow w2.heap.size 3 1 v18 j (intsV ((bd.take j).map (ixD D))) ∧ Below w2.heap.size w2 wr) (fun _ v120 _ => bd.length - (intOf v120).toNat)
    case atStart => exact ⟨0, Nat.zero_le _, rfl, World.ownsRow_made w2 _ _ (Nat.le_refl _) (by unfold maxLen; omega) (by simp [madeCells]), ext_alloc _ _⟩
    case round =>
     clear hd0 hd2 hmu
     obtain ⟨j, hj, rfl, hown, hbl⟩ := hrel
     have Hbl := hid hbl
     have hlow := (HK2.out.trans (Kp.below hbl)).lows Hb1.out Hwp.out
     by_cases hjl : j < bd.length
     ·obtain ⟨adB, rfl, hcell⟩ := (Hrow.out wr hlow).at1 hjl
      have hyw : (Lit.int .i64 bd[j]).wf = true := idx_wf (Hbo.out _ (List.getElem_mem hjl)) hf4
      have Htk : Hid ((bd.take (j + 1)).map (ixD D) = (bd.take j).map (ixD D) ++ [ixD D bd[j]]) := hid (by rw [List.take_succ_eq_append_getElem hjl, List.map_append]; rfl)
      have hlk := (Hin.out wr (HK2.out.trans (Kp.below hbl)).old).lookx hyw
      have hwle := hbl.size
      have Hown := hid hown
      obtain ⟨hi, hz0, hz1, hz2⟩ := hHi.out
      clear hbl hown
      generalize hyx : ixD D bd[j] = yx at *
      have Hyx := hid hyx
      clear hyx
      generalize bd[j] = y at *
      go_wp2_with (at_builtin; refine wpList_append_own_at _ rfl _ _ 36 rfl w2.heap.size 3 i0 (.int .i64 0) 1 8 Tryz.underlying36 hi hz0 hz1 hz2 rfl (by decide) _ j _ rfl (Hown.out.alloc _) ⟨wr.heap.size, 0, none⟩ 1 1 [.int .i64 yx] rfl rfl (cell_one_new _ _ _) (fun u hu => by simp at hu; subst hu; rfl) (by unfold maxLen; omega) (by omega) (by simp; omega) ?_; intro v' w' hown2 hgrow hnil hat; obtain ⟨gn, cn, rfl⟩ := own_form hown2)
      go_roundw
      case rel =>
       refine ⟨j + 1, by omega, by go_num, ?_, ?_⟩
       ·rw [Htk.out]; simpa [intsV] using hown2
       ·exact below_grown (Hbl.out.alloc hwle _) (by simp; omega) hgrow (fun g hg => (Hown.out.lt g hg).1)
      case measure => simp [intOf]; omega
     ·obtain rfl : j = bd.length := by omega
      rw [List.take_length] at hown
      have Hown := hid hown
      have hl16 : (bd.map (ixD D)).length = bd.length := by simp
      have Hsort := hid (sortI_any wr w2.heap.size _ (bd.map (ixD D)) (by rw [hl16]; exact hown) (by rw [hl16]; omega))
      rw [hl16] at Hsort
      obtain ⟨A18, c18, rfl⟩ := own_form0 hown
      clear hown hl16
      go_wp2_with fail
      refine Hsort.out.mono ?_
      rintro e w8 ⟨_, rfl, rfl, hown8, hg8⟩
      have hb8 := below_grown Hbl.out Hbl.out.size hg8 (fun g hg => (Hown.out.lt g hg).1)
      have HP8 := hid (HP2.out.ext hb8)
      have HI8 := hid (HI2.out.keep (hb8.block _ HI2.out.lt))
      have HK8 := hid (HK2.out.trans (Kp.below hb8))
      have hrb8 := (hb8.block _ hs2).trans Hrb.out
      have hd0 : w8.cell? ⟨wq.heap.size, 0, none⟩ = some (.int .i64 kd) := by rw [cell_of_row w8 _ 0 _ _ _ hrb8]; rfl
      have hpl8 := lt_of_block HP8.out.box
      have c28 : w8.cell? ⟨p, 2, none⟩ = some (.slice Ar Lm cr) := by rw [cell_of_row w8 p _ _ _ _ HP8.out.box]; rfl
      have hs8 := hb8.size
      have hown9 : w8.ownsRow base 3 1 (.slice A18 bd.length c18) bd.length (intsV (srt (bd.map (ixD D)))) := own_lower hown8 (by have := HK2.out.sz; have := Hba.out; omega)
      have Hown9 := hid hown9
      have Haft : Hid (∀ (cA : Obj) (w' : World), (w8.alloc cA).grownBy w' (Value.slice Ar Lm cr).ownBlock → w'.frozen? ⟨p, 2, none⟩ = false ∧ w'.cell? ⟨p, 2, none⟩ = some (.slice Ar Lm cr)) := hid fun cA w' hg => by
       have h9 := (hg.block p (by simp; omega) (fun e => by have := (HP8.out.ru.lt _ e.symm).1; have := HP8.out.lo; omega)).trans ((Below.heap_alloc _ _ _ hpl8).trans HP8.out.box)
       exact ⟨frozen_of_row w' p 2 _ _ h9, by rw [cell_of_row w' p 2 _ _ _ h9]; rfl⟩
      have hru8 : w8.ownsRow base 93 3 (.slice Ar Lm cr) Lm (cellsR (movRs T D cone k) vs) := by have := HP8.out.ru; rw [HLm.out] at this; exact this
      have Hru8 := hid hru8
      have hLm4 : Lm ≤ 4096 := by have := mvI_le T cone k; have := mvI_len T D cone k; have := HLm.out; omega
      have hb0 : base ≤ w8.heap.size := by have := HK8.out.sz; have := Hba.out; omega
      obtain ⟨hi, hz0, hz1, hz2⟩ := hHr.out
      clear Hsort hb8 hg8 hown8 hown9 hru8 hrb8
      go_wp2_with (at_builtin; refine wpList_append_own_at _ rfl _ _ 23 rfl base 93 iR (.agg #[.int .i64 0, .int .i64 0, .slice none 0 0]) 3 40 Tryz.underlying23 hi hz0 hz1 hz2 rfl (by decide) _ Lm _ rfl (Hru8.out.alloc _) ⟨w8.heap.size, 0, none⟩ 1 1 [.int .i64 kd, .int .i64 (ih : Int), .slice A18 bd.length c18] rfl rfl (cell_three_new _ _ _ _ _) (fun u hu => by simp at hu; rcases hu with rfl | rfl | rfl <;> rfl) (by unfold maxLen; omega) (by omega) (by simp; omega) ?_; intro v' w' hown hgrow hnil hat; obtain ⟨gn, cn, rfl⟩ := own_formL hown; obtain ⟨hqF, hq2⟩ := Haft.out _ w' hgrow)
      have hbm8 : bm ≠ p := fun e => HI8.out.noCells _ _ _ (by rw [e]; exact HP8.out.box)
      have hbmr : (Value.slice Ar Lm cr).ownBlock ≠ some bm := own_ne_map HP8.out.ru HI8.out.noCells
      have hal := ext_alloc w8 (.cells #[.int .i64 kd, .int .i64 (ih : Int), .slice A18 bd.length c18] 93)
      have hI9 := HI8.out.keep (w' := w'.setCell ⟨p, 2, none⟩ (.slice (some ⟨gn, 0, none⟩) (Lm + 1) cn)) (by
       rw [heap_setCell_other _ _ _ _ hbm8]
       exact (hgrow.block bm (Nat.lt_of_lt_of_le HI8.out.lt hal.size) (fun e => hbmr e.symm)).trans (hal.block _ HI8.out.lt))
      have hK9 := ((HK8.out.trans (Kp.below hal)).grown hgrow (fun g hg => .inl (by have := (HP8.out.ru.lt g hg).1; have := Hba.out; omega))).set (x := ⟨p, 2, none⟩) (.inl rfl) (.slice (some ⟨gn, 0, none⟩) (Lm + 1) cn)
      rw [← HLm.out] at hown
      have hbl9 : (srt (bd.map (ixD D))).length = bd.length := by rw [srt_length, List.length_map]
      have hp9 := (HP8.out.ext hal).pushRg (r := ⟨kd, (ih : Int), srt (bd.map (ixD D))⟩) (u := .slice A18 bd.length c18) (by rw [hbl9]; exact own_ext Hown9.out hal) (by cases (Value.slice A18 bd.length c18).ownBlock with | none => exact .inl rfl | some g => exact .inr (by simp [Value.ownBlock])) hgrow hown
      rw [HLm.out] at hp9
      have Hp9 := hid hp9
      have HI9 := hid hI9
      have HK9 := hid hK9
      clear hp9 hI9 hK9 hal hown hgrow hnil hat hqF hq2
      go_roundw
      case rel =>
       have e9 : movRs T D cone (k + 1) = movRs T D cone k ++ [⟨kd, (ih : Int), srt (bd.map (ixD D))⟩] := by rw [movRs_succ, if_pos Hcm.out, HmR.out, Hix.out]
       have hq9 := Hp9.out
       rw [← e9] at hq9
       exact ⟨k + 1, by omega, by go_num, by rw [mvI_t Hcm.out]; exact HI9.out, HK9.out, _, _, hq9⟩
      case measure => simp [intOf]; omega
   ·have hix : T.rules[k].head ∈ D → cone.length ≤ D.idxOf T.rules[k].head := fun _ => by rw [hE]; exact idx_out hco
    have Hcm : Hid (memB cone (T.rules.getD k default).head ≠ true) := hid (by rw [Hgd.out]; exact fun h => hco (memB_true.1 h))
    clear hE hrow
    by_cases hin : T.rules[k].head ∈ D
    ·have hix := hix hin
     have hlk : ∀ cA : Obj, (Instr.lookup 129 (.map (some b)) (.int .i64 T.rules[k].head) true).run Tryz.prog (wr.alloc cA) = .ok (.tuple #[.int .i64 (D.idxOf T.rules[k].head : Nat), .bool true]) (wr.alloc cA) := fun cA => by rw [Hlk.out cA, if_pos hin]
     clear Hlk hin hco
     generalize D.idxOf T.rules[k].head = ih at *
     generalize T.rules[k].head = hd at *
     generalize T.rules[k].kind = kd at *
     generalize T.rules[k].body = bd at *
     have hgi : (cone.length : Int) ≤ (ih : Int) := by omega
     go_wp2
     go_roundw
     case rel => exact ⟨k + 1, by omega, by go_num, by rw [mvI_f Hcm.out]; exact HI.out.keep (Below.heap_alloc wr _ _ HI.out.lt), HKp.out.trans (Kp.below (ext_alloc wr _)), _, _, by rw [movRs_succ, if_neg Hcm.out]; exact HP.out.ext (ext_alloc wr _)⟩
     case measure => simp [intOf]; omega
    ·have hlk : ∀ cA : Obj, (Instr.lookup 129 (.map (some b)) (.int .i64 T.rules[k].head) true).run Tryz.prog (wr.alloc cA) = .ok (.tuple #[.int .i64 0, .bool false]) (wr.alloc cA) := fun cA => by rw [Hlk.out cA, if_neg hin]
     clear Hlk hin hco hix
     generalize T.rules[k].head = hd at *
     generalize T.rules[k].kind = kd at *
     generalize T.rules[k].body = bd at *
     go_wp2
     go_roundw
     case rel => exact ⟨k + 1, by omega, by go_num, by rw [mvI_f Hcm.out]; exact HI.out.keep (Below.heap_alloc wr _ _ HI.out.lt), HKp.out.trans (Kp.below (ext_alloc wr _)), _, _, by rw [movRs_succ, if_neg Hcm.out]; exact HP.out.ext (ext_alloc wr _)⟩
     case measure => simp [intOf]; omega
  ·obtain rfl : k = T.rules.length := by omega
   have HP := hid hpb
   have HI := hid him
   have HKp := hid hkp
   clear hpb him hkp
   go_wp2
   exact HK.out _ _ _ _ ⟨rfl, rfl, rfl, rfl, rfl, rfl, rfl⟩ rfl HP.out HI.out HKp.out
end Go.Proofs.Lx

namespace Go.Proofs.Lx
open Go Go.RowKit Go.Proofs.Tj
set_option linter.unusedVariables false
set_option linter.unusedSimpArgs false
theorem below_none {w w' : World} (h : w.grownBy w' none) : Below w.heap.size w w' := ⟨h.os, h.tape, h.output, h.size, fun k hk => h.block k hk (by simp)⟩
theorem nd_le {l : List Nat} {n : Nat} (h1 : l.Nodup) (h2 : ∀ j ∈ l, j < n) : l.length ≤ n := by
 have : DOk n (l.map fun (i : Nat) => (i : Int)) := by
  refine ⟨?_, fun x hx => ?_⟩
  ·rw [List.nodup_iff_pairwise_ne, List.pairwise_map]
   exact (List.nodup_iff_pairwise_ne.1 h1).imp fun h e => h (by omega)
  ·obtain ⟨i, hi, rfl⟩ := List.mem_map.1 hx
   have := h2 i hi
   omega
 simpa using this.le
theorem sayRs_le (m j : Nat) : (sayRs m j).length ≤ 2 := by
 unfold sayRs
 split
 ·simp
 ·split <;> split <;> (try split) <;> simp
theorem sayFs_le (m j : Nat) : (sayFs m j).length ≤ 1 := by
 unfold sayFs; split <;> simp
theorem sayAll_le (S : List Nat) (D : List Int) (n : Nat) : ∀ vis, (sayAll S D n vis).length ≤ 2 * vis.length
 | [] => by simp [sayAll]
 | j :: vis => by
  rw [sayAll_cons, List.length_append, List.length_cons]
  have := sayAll_le S D n vis
  split
  ·have := sayRs_le (S.getD (D.getD j 0).toNat 0) j; omega
  ·simp; omega
theorem sayFacts_le (S : List Nat) (D : List Int) (n : Nat) : ∀ vis, (sayFacts S D n vis).length ≤ vis.length
 | [] => by simp [sayFacts]
 | j :: vis => by
  rw [sayFacts_cons, List.length_append, List.length_cons]
  have := sayFacts_le S D n vis
  split
  ·have := sayFs_le (S.getD (D.getD j 0).toNat 0) j; omega
  ·simp; omega
theorem says_any (w : World) (base p at9 m : Nat) (hm : m = 0 ∨ m = 2 ∨ m = 4 ∨ m = 5 ∨ m = 6 ∨ m = 10) (lits : Int) (vFo vBe vOl vRu vFa : Value) (rs : List Rule) (vs : Nat → Value) (fa : List Int) (h : PB w base p lits vFo vBe vOl vRu vFa rs vs fa) (hb0 : base ≤ w.heap.size) (hf : rs.length ≤ 100000) (hf2 : fa.length ≤ 100000) :
  Calls Tryz.prog 89 #[.pointer (some ⟨p, 0, none⟩), .int .i64 (at9 : Int), .int .u8 (m : Int)] w (Ret fun r w' => r = .tuple #[] ∧ Said w w' base p lits vFo vBe vOl vRu vFa (rs ++ sayRs m at9) (fa ++ sayFs m at9)) := by
 rcases hm with rfl | rfl | rfl | rfl | rfl | rfl
 ·exact says_zero w base p at9 lits vFo vBe vOl vRu vFa rs vs fa h hb0 hf
 ·exact says_loop w base p at9 lits vFo vBe vOl vRu vFa rs vs fa h hb0 hf
 ·exact says_four w base p at9 lits vFo vBe vOl vRu vFa rs vs fa h hb0 hf
 ·exact says_fact w base p at9 lits vFo vBe vOl vRu vFa rs vs fa h hb0 hf2
 ·exact says_plain w base p at9 lits vFo vBe vOl vRu vFa rs vs fa h hb0 hf
 ·exact says_none w base p at9 lits vFo vBe vOl vRu vFa rs vs fa h
theorem movRs_le (T : Th) (D cone : List Int) (k : Nat) : (movRs T D cone k).length ≤ k := by have := mvI_le T cone k; have := mvI_len T D cone k; omega
set_option maxRecDepth 1000000 in
set_option maxHeartbeats 60000000 in
theorem cut_s5 (w W3 W5 : World) (x p b r6 bm base : Nat) (lits : Int) (vFo vOl vRu0 : Value) (vs0 : Nat → Value) (Ac Af AF AR AB AM : Option Addr) (cc cf cF cR cB cM : Nat) (T : Th) (M : List Nat) (cone F D : List Int) (hwf : WfTh T) (her : ER w x AF AR AB AM cF cR cB cM T M) (hb1 : Below w.heap.size w W3) (hcr : RcI w Ac cone) (hok : DOk T.foes.length cone) (him : IM W3 b D) (hD : DOk T.foes.length D) (hbp : b ≠ p) (hwp : w.heap.size ≤ p) (hbase : base = W3.heap.size)
  (hMl : M.length = T.foes.length) (hM : ∀ q, q < M.length → M.getD q 0 = 0 ∨ M.getD q 0 = 2 ∨ M.getD q 0 = 4 ∨ M.getD q 0 = 5 ∨ M.getD q 0 = 6 ∨ M.getD q 0 = 10)
  (hpb : PB W5 base p lits vFo (.slice none 0 0) vOl vRu0 (.slice none 0 0) (movRs T D cone T.rules.length) vs0 []) (him5 : IM W5 bm (mvI T cone T.rules.length)) (hkp : Kp p W3 W5) (f : Nat → Value) (K : Act → World → Prop) (Q' : Exit → Act → World → Prop)
  (hK : ∀ (t : Array Value) (w' : World) (vRu vFa : Value) (vs : Nat → Value) (vis : List Nat), LC t x p b r6 (.slice Ac cone.length cc) (.slice Af F.length cf) → t[13]? = some (.map (some bm)) → (∀ j, j ∈ vis ↔ j < D.length) → vis.length ≤ D.length → PB w' base p lits vFo (.slice none 0 0) vOl vRu vFa (movRs T D cone T.rules.length ++ sayAll M D cone.length vis) vs (sayFacts M D cone.length vis) → IM w' bm (mvI T cone T.rules.length) → Kp p W3 w' → K ⟨t, []⟩ w') :
  Code.wp Tryz.prog cutSeg5 (Exit.then K Q') ⟨#[.pointer (some ⟨x, 0, none⟩), .slice Ac cone.length cc, .slice Af F.length cf, (f 3), (f 4), (f 5), .pointer (some ⟨r6, 0, none⟩), .map (some b), .pointer (some ⟨p, 0, none⟩), (f 9), (f 10), (f 11), (f 12), .map (some bm), (f 14), (f 15), (f 16), (f 17), (f 18), (f 19), (f 20), (f 21), (f 22), (f 23), (f 24), (f 25), (f 26), (f 27), (f 28), (f 29), (f 30), (f 31), (f 32), (f 33), (f 34), (f 35), (f 36), (f 37), (f 38), (f 39), (f 40), (f 41), (f 42), (f 43), (f 44), (f 45), (f 46), (f 47), (f 48), (f 49), (f 50), (f 51), (f 52), (f 53), (f 54), (f 55), (f 56), (f 57), (f 58), (f 59), (f 60), (f 61), (f 62), (f 63), (f 64), (f 65), (f 66), (f 67), (f 68), (f 69), (f 70), (f 71), (f 72), (f 73), (f 74), (f 75), (f 76), (f 77), (f 78), (f 79), (f 80), (f 81), (f 82), (f 83), (f 84), (f 85), (f 86), (f 87), (f 88), (f 89), (f 90), (f 91), (f 92), (f 93), (f 94), (f 95), (f 96), (f 97), (f 98), (f 99), (f 100), (f 101), (f 102), (f 103), (f 104), (f 105), (f 106), (f 107), (f 108), (f 109), (f 110), (f 111), (f 112), (f 113), (f 114), (f 115), (f 116), (f 117), (f 118), (f 119), (f 120), (f 121), (f 122), (f 123), (f 124), (f 125), (f 126), (f 127), (f 128), (f 129), (f 130), (f 131), (f 132), (f 133), (f 134), (f 135), (f 136), (f 137), (f 138), (f 139), (f 140), (f 141), (f 142), (f 143), (f 144), (f 145), (f 146), (f 147), (f 148), (f 149), (f 150), (f 151), (f 152), (f 153), (f 154), (f 155), (f 156), (f 157), (f 158), (f 159), (f 160), (f 161), (f 162), (f 163), (f 164), (f 165), (f 166), (f 167), (f 168), (f 169), (f 170), (f 171), (f 172), (f 173), (f 174), (f 175), (f 176), (f 177), (f 178), (f 179), (f 180), (f 181), (f 182), (f 183), (f 184), (f 185), (f 186), (f 187), (f 188), (f 189), (f 190), (f 191), (f 192), (f 193), (f 194), (f 195), (f 196), (f 197), (f 198), (f 199), (f 200), (f 201), (f 202), (f 203), (f 204), (f 205), (f 206), (f 207), (f 208), (f 209), (f 210), (f 211), (f 212), (f 213), (f 214), (f 215), (f 216), (f 217), (f 218), (f 219), (f 220), (f 221), (f 222), (f 223), (f 224), (f 225), (f 226), (f 227), (f 228), (f 229), (f 230), (f 231), (f 232), (f 233), (f 234), (f 235), (f 236), (f 237), (f 238), (f 239), (f 240), (f 241), (f 242), (f 243), (f 244), (f 245), (f 246)], []⟩ W5 := by
 have HK := hid hK
 have Her := hid her
 have Hok := hid hok
 have HD := hid hD
 have Hb1 := hid hb1
 have Him := hid him
 have Hpb := hid hpb
 have Him5 := hid him5
 have Hkp := hid hkp
 have Hwp := hid hwp
 have Hbp := hid hbp
 have Hba := hid hbase
 have HM := hid hM
 have HMl := hid hMl
 have hf4 : (T.foes.length : Int) ≤ 4096 := by have := hwf.fl; have := hwf.l1; omega
 have hr4 := hwf.rl
 have hcl := hok.le
 have hdl := hD.le
 have Hin : Hid (∀ W : World, Kp p W3 W → IM W b D) := hid fun W hW => him.keep (hW.old b him.lt hbp)
 have hin5 := Hin.out W5 hkp
 clear hK her hwf hok hD hb1 him hpb him5 hkp hwp hbp hbase hM hMl
 conv => arg 2; whnf
 go_wp2_with (at_range; refine wpList_range_IM rfl _ rfl b D rfl hin5 ?_; intro w0 cnt0 hrg0 hg0 hs0)
 go_frame
 go_loopw [148] (fun v148 wr => ∃ vis cnt, RG wr b W5.heap.size D vis cnt ∧ IM wr bm (mvI T cone T.rules.length) ∧ Kp p W3 wr ∧ ∃ vRu vFa vs, PB wr base p lits vFo (.slice none 0 0) vOl vRu vFa (movRs T D cone T.rules.length ++ sayAll M D cone.length vis) vs (sayFacts M D cone.length vis)) (fun _ wr => wr.rangeLeft b W5.heap.size)
 case atStart =>
  have hb9 := below_none hg0
  have h9 := Hpb.out.ext hb9
  refine ⟨[], cnt0, hrg0, Him5.out.keep (hb9.block _ Him5.out.lt), Hkp.out.trans (Kp.below hb9), vRu0, .slice none 0 0, vs0, ?_⟩
  simpa [sayAll, sayFacts] using h9
 case round =>
  clear hin5 hrg0 hg0 hs0
  obtain ⟨vis, cnt, hrg, him, hkp, vRu, vFa, vs, hpb⟩ := hrel
  go_wp2_with (at_next; refine wpList_next_IM rfl _ rfl b W5.heap.size D vis cnt rfl hrg ?_ ?_)
  ·intro hall
   have HP := hid hpb
   have HI := hid him
   have HKp := hid hkp
   have Hrg := hid hrg
   have Hall := hid hall
   clear hpb him hkp hrg hall
   go_wp2
   have hv : ∀ j, j ∈ vis ↔ j < D.length := fun j => ⟨Hrg.out.2.2.1 j, Hall.out j⟩
   exact HK.out _ _ _ _ _ vis ⟨rfl, rfl, rfl, rfl, rfl, rfl, rfl⟩ rfl hv (nd_le Hrg.out.2.1 Hrg.out.2.2.1) HP.out HI.out HKp.out
  ·intro j hj w2 cnt2 hjv hrg2 hlt hgr hsz hen
   have hnc := RG.noCells hrg
   have hr5 := hrg.lt.1
   have HP := hid (hpb.other hgr hnc)
   have hbmr : bm ≠ W5.heap.size := fun e => by
    obtain ⟨hl, D9, h1, es, clock, hb, F9, hs, hD9⟩ := him
    obtain ⟨hl2, hn2, hv2, D2, left, h12, ⟨es2, clock2, since, seen, c0, hb2, F2, hs2, hD2, hr2, rest⟩, h32⟩ := hrg
    rw [e, hr2] at hb; cases hb
   have HI := hid (him.keep (hgr.block bm him.lt (fun e => by injection e with e; exact hbmr e)))
   have HKp := hid (hkp.grown hgr (fun g hg => .inl (by injection hg with hg; have := Hkp.out.sz; omega)))
   have Hleft := hid (show w2.rangeLeft b W5.heap.size < wr.rangeLeft b W5.heap.size by rw [hrg2.left, hrg.left]; exact hlt)
   have Hrg2 := hid hrg2
   have hjD4 : j < 4096 := by omega
   clear hpb him hkp hrg hgr hnc hlt hrg2
   have hsc := sayAll_cons M D cone.length j vis
   have hsf := sayFacts_cons M D cone.length j vis
   by_cases hjn : j < cone.length
   ·rw [if_neg (by omega), List.append_nil] at hsc hsf
    have Hsc := hid hsc
    have Hsf := hid hsf
    clear hsc hsf
    have hgi : ¬ (cone.length : Int) ≤ (j : Int) := by omega
    go_wp2
    go_roundw
    case rel =>
     have h9 := HP.out
     rw [← Hsc.out, ← Hsf.out] at h9
     exact ⟨j :: vis, cnt2, Hrg2.out, HI.out, HKp.out, _, _, _, h9⟩
    case measure => exact Hleft.out
   ·rw [if_pos (by omega)] at hsc hsf
    have Hsc := hid hsc
    have Hsf := hid hsf
    clear hsc hsf
    have hgi : (cone.length : Int) ≤ (j : Int) := by omega
    have hlow := HKp.out.lows Hb1.out Hwp.out
    obtain ⟨⟨e2, e3, e4, e6⟩, eF, eR, eB, eM⟩ := Her.out w2 hlow
    have hq0 := HD.out.rg _ (List.getElem_mem hj)
    obtain ⟨q, hq⟩ := Int.eq_ofNat_of_zero_le hq0.1
    have hqM : q < M.length := by rw [HMl.out]; omega
    obtain ⟨adM, rfl, hcM⟩ := eM.at1 hqM
    have hMq : M.getD q 0 = M[q] := by simp [hqM]
    have hDj : (D.getD j 0).toNat = q := by simp [hj, hq]
    have hm := HM.out q hqM
    rw [hDj] at Hsc Hsf
    rw [hMq] at Hsc Hsf hm
    rw [hq] at hen
    have hvl := nd_le Hrg2.out.2.1 Hrg2.out.2.2.1
    rw [List.length_cons] at hvl
    have hl1 : (movRs T D cone T.rules.length ++ sayAll M D cone.length vis).length ≤ 100000 := by
     rw [List.length_append]
     have := movRs_le T D cone T.rules.length
     have := sayAll_le M D cone.length vis
     omega
    have hl2 : (sayFacts M D cone.length vis).length ≤ 100000 := by have := sayFacts_le M D cone.length vis; omega
    have Hcall := hid (says_any w2 base p j M[q] hm lits vFo _ vOl vRu vFa _ vs _ HP.out (by have := HKp.out.sz; have := Hba.out; omega) hl1 hl2)
    have hi0 : (0 : Int) ≤ (q : Int) := by omega
    have hi1 : (q : Int) < (M.length : Int) := by omega
    clear e2 e3 e4 eF eR eB eM hq0 hm hMq hDj hl1 hl2 hlow hq
    generalize M[q] = mq at *
    go_wp2_with fail
    refine Hcall.out.mono ?_
    rintro e w9 ⟨_, rfl, rfl, ⟨vRu9, vFa9, vs9, hp9, hr9, hf9⟩, ⟨ho1, ho2, ho3, hs9⟩, hk9⟩
    have hnp : ∀ g, (∀ c e f, w2.heap[g]? ≠ some (.cells c e f)) → g < w2.heap.size → w9.heap[g]? = w2.heap[g]? := fun g hg hlt => hk9 g hlt (fun e => by subst e; exact hg _ _ _ HP.out.box) (own_ne_map HP.out.ru hg) (own_ne_map HP.out.fa hg)
    have hrgl := Hrg2.out.lt
    have hI9 := HI.out.keep (hnp bm HI.out.noCells HI.out.lt)
    have hR9 := Hrg2.out.keep (hnp b Hrg2.out.im.noCells hrgl.2.1) (hnp _ Hrg2.out.noCells hrgl.1)
    have hK9 : Kp p W3 w9 := ⟨ho1.trans HKp.out.os, ho2.trans HKp.out.tape, ho3.trans HKp.out.output, Nat.le_trans HKp.out.sz hs9, fun g h1 h2 => (hk9 g (Nat.lt_of_lt_of_le h1 HKp.out.sz) h2 (fun e => by have := (HP.out.ru.lt g e).1; have := Hba.out; omega) (fun e => by have := (HP.out.fa.lt g e).1; have := Hba.out; omega)).trans (HKp.out.old g h1 h2)⟩
    have Hp9 := hid hp9
    have HI9 := hid hI9
    have HR9 := hid hR9
    have HK9 := hid hK9
    have hml : w9.rangeLeft b W5.heap.size = w2.rangeLeft b W5.heap.size := by rw [hR9.left, Hrg2.out.left]
    have Hleft9 := hid (show w9.rangeLeft b W5.heap.size < wr.rangeLeft b W5.heap.size by rw [hml]; exact Hleft.out)
    clear hp9 hI9 hR9 hK9 hnp hk9 hr9 hf9 hrgl hml
    go_wp2
    go_roundw
    case rel =>
     have h9 := Hp9.out
     rw [List.append_assoc, ← Hsc.out, ← Hsf.out] at h9
     exact ⟨j :: vis, cnt2, HR9.out, HI9.out, HK9.out, _, _, _, h9⟩
    case measure => exact Hleft9.out
end Go.Proofs.Lx
