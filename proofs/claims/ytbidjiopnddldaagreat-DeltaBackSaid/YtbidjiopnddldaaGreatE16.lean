/- Parts of the proof: Dh, Ds, Dt, Dg. Contract of delta's outer: the map that gives the part's literals their places. -/
import Derived.Test.YtbidjiopnddldaaGreatE15
import Derived.Test.YtbidjiopnddldaaGreatE12
import Derived.Test.YtbidjiopnddldaaGreatE14
import Derived.Test.YtbidjiopnddldaaGreatProg
import Derived.Shelf.Sort.Plain
import Derived.Shelf.Slices.In.SortNone
import Derived.Sort.OwnSortedInts
import Derived.Test.YtbidjiopnddldaaGreatE6
import Derived.Deep.DeepCutAuto
namespace Go.Proofs.Lx
open Go Go.RowKit Go.Proofs.Tj
set_option linter.unusedSimpArgs false
set_option linter.unusedVariables false
theorem idx_in {cone E : List Int} {x : Int} (h : x ∈ cone) : (cone ++ E).idxOf x < cone.length := by
 rw [List.idxOf_append, if_pos h]; exact List.idxOf_lt_length_of_mem h
theorem idx_out {cone E : List Int} {x : Int} (h : x ∉ cone) : cone.length ≤ (cone ++ E).idxOf x := by
 rw [List.idxOf_append, if_neg h]; omega
theorem rule_in {T : Th} (hwf : WfTh T) {k : Nat} (hk : k < T.rules.length) : (0 ≤ T.rules[k].head ∧ T.rules[k].head < T.foes.length) ∧ (∀ x ∈ T.rules[k].body, 0 ≤ x ∧ x < T.foes.length) ∧ T.rules[k].body.length ≤ 16 := by
 have h1 := hwf.ru _ (List.getElem_mem hk)
 have hf := hwf.fl
 simp only [ruleOk, Bool.and_eq_true, decide_eq_true_eq] at h1
 refine ⟨by omega, fun x hx => ?_, by omega⟩
 obtain ⟨a, ha, rfl⟩ := List.getElem_of_mem hx
 have := (risB_spec h1.2).1 a ha
 omega
theorem idx_wf {n : Int} {x : Int} (h : 0 ≤ x ∧ x < n) (hn : n ≤ 4096) : (Lit.int .i64 x).wf = true := WalkArith.wf_i64 (by omega)
set_option maxRecDepth 100000 in
set_option maxHeartbeats 3200000 in
theorem outerD_any (w : World) (x : Nat) (vM vC : Value) (T : Th) (F : List Int) (M : List Nat) (U : List Int) (Ft : Nat → Prop) (h : EngD w x vM T F M U Ft) (hwf : WfTh T) (cone : List Int) (hc : RdI w vC cone) (hok : DOk T.foes.length cone) :
  Calls Tryz.prog 87 #[.pointer (some ⟨x, 0, none⟩), vC] w (Ret fun r w' => ∃ b, r = .map (some b) ∧ w.heap.size ≤ b ∧ IM w' b (outL T cone T.rules.length) ∧ Below w.heap.size w w') := by
 obtain ⟨vF, vR, vB, vFa, vTo, ⟨c0, c1, c2, c3, c4, c5, c6, c7⟩, hTh, _⟩ := h.cells
 obtain ⟨vF2, vR2, vB2, e, hF, hR, hB⟩ := hTh
 injection e with e
 simp only [Array.mk.injEq, List.cons.injEq, and_true] at e
 obtain ⟨_, rfl, rfl, rfl⟩ := e
 obtain ⟨Ac, cc, rfl, hcc, hcn, hcr⟩ := hc
 obtain ⟨AR, cR, rfl, hRc, hRn, hRr⟩ := hR
 have hfl4 : (T.foes.length : Int) ≤ 4096 := by have := hwf.fl; have := hwf.l1; omega
 have Hst : Hid (∀ W, Below w.heap.size w W → W.cell? ⟨x, 3, none⟩ = some (.slice AR T.rules.length cR) ∧ RcI W Ac cone ∧ RcRs W AR T.rules) := hid fun W hW => ⟨cell_ext hW c3, hcr.ext (scR_mono _) hW, hRr.ext ruleR_mono hW⟩
 have Hwf := hid hwf
 have Hok := hid hok
 have hle := hok.le
 have hrl := hwf.rl
 clear h c0 c1 c2 c3 c4 c5 c6 c7 hF hB hcr hRr hok hwf
 have hmm : ∀ (n : Int) (W : World), (Instr.makeMap 129 (some (.int .i64 n))).run Tryz.prog W = .ok (.map (some W.heap.size)) (W.alloc (.map #[] 0)) := fun n W => by simp [Instr.makeMap, run_underlying Tryz.underlying129, asInt, asIntOf, Result.andThen]
 refine post_gen fun Q HQ => ?_
 go_enter Tryz.func87, Tryz.ntmps87
 go_wp2_with fail
 go_loopw [22] (fun v22 wr => ∃ k : Nat, k ≤ cone.length ∧ v22 = .int .i64 (k : Int) ∧ IM wr w.heap.size (cone.take k) ∧ Below w.heap.size w wr) (fun v22 _ => cone.length - (intOf v22).toNat)
 case atStart => exact ⟨0, Nat.zero_le _, rfl, by simpa using IM.made w, ext_alloc _ _⟩
 case round =>
  obtain ⟨k, hk, rfl, him, hbl⟩ := hrel
  by_cases hlt : k < cone.length
  ·obtain ⟨ad, rfl, hcell⟩ := (Hst.out wr hbl).2.1.at1 hlt
   have hlen : (cone.take k).length = k := by rw [List.length_take]; omega
   have hnot : cone[k] ∉ cone.take k := fun hm => by
    obtain ⟨i, hi, e⟩ := List.getElem_of_mem hm
    rw [List.getElem_take] at e
    rw [List.length_take] at hi
    have := ndI_inj Hok.out.nd (by omega) hlt e
    omega
   obtain ⟨w2, hu, him2, hg2⟩ := him.push (by omega) hnot (idx_wf (Hok.out.rg _ (List.getElem_mem hlt)) hfl4)
   rw [hlen] at hu
   rw [← List.take_succ_eq_append_getElem hlt] at him2
   have Him2 := hid him2
   have Hbl2 := hid (below_grown hbl hbl.size hg2 (fun g hg => by injection hg with hg; omega))
   clear him him2 hg2 hnot
   generalize cone[k] = q at *
   go_wp2_with fail
   go_roundw
   case rel => exact ⟨k + 1, by omega, by go_num, Him2.out, Hbl2.out⟩
   case measure => simp [intOf]; omega
  ·obtain rfl : k = cone.length := by omega
   rw [List.take_length] at him
   have Him := hid him
   have Hbl := hid hbl
   have c3 := (Hst.out wr hbl).1
   clear him
   go_wp2_with fail
   obtain ⟨wc, rfl⟩ : ∃ wc : World, wc = wr := ⟨_, rfl⟩
   go_loopw [8, 39] (fun v8 v39 wr => ∃ k : Nat, k ≤ T.rules.length ∧ v39 = .int .i64 (k : Int) ∧ v8 = .int .i64 ((outL T cone k).length : Int) ∧ IM wr w.heap.size (outL T cone k) ∧ Below w.heap.size w wr) (fun _ v39 _ => T.rules.length - (intOf v39).toNat)
   case atStart => exact ⟨0, Nat.zero_le _, rfl, by rw [outL_zero], by rw [outL_zero]; exact Him.out, Hbl.out⟩
   case round =>
    clear Him Hbl
    obtain ⟨k, hk, rfl, rfl, him, hbl⟩ := hrel
    by_cases hlt : k < T.rules.length
    ·obtain ⟨adR, B, cB, eR, hk0, hk1, hk2, hB1, hB2, hrow⟩ := (Hst.out w (ext_refl _)).2.2.atRule hlt
     subst eR
     replace hk0 := cell_ext hbl hk0
     replace hk1 := cell_ext hbl hk1
     replace hk2 := cell_ext hbl hk2
     obtain ⟨⟨hh0, hh1⟩, hbo, hb16⟩ := rule_in Hwf.out hlt
     have hwh : (Lit.int .i64 T.rules[k].head).wf = true := idx_wf ⟨hh0, hh1⟩ hfl4
     have Hsucc := hid (outL_succ (T := T) (cone := cone) hlt)
     have hDk := outL_ok Hwf.out Hok.out (k := k) (by omega)
     obtain ⟨E, hE⟩ := outL_pre T cone k (by omega)
     have Hlk : Hid (∀ cA : Obj, (Instr.lookup 129 (.map (some w.heap.size)) (.int .i64 T.rules[k].head) true).run Tryz.prog (wr.alloc cA) = .ok (if T.rules[k].head ∈ outL T cone k then .tuple #[.int .i64 ((outL T cone k).idxOf T.rules[k].head : Nat), .bool true] else .tuple #[.int .i64 0, .bool false]) (wr.alloc cA)) := hid fun cA => (him.keep (Below.heap_alloc wr cA _ him.lt)).lookok hwh
     have Hbo := hid hbo
     have Hbl := hid hbl
     have Him := hid him
     have HDk := hid hDk
     have hDle := hDk.le
     clear him hbl hbo hDk
     generalize hOD : outL T cone k = D at *
     by_cases hco : T.rules[k].head ∈ cone
     ·have hin : T.rules[k].head ∈ D := by rw [hE]; exact List.mem_append_left _ hco
      have hix : D.idxOf T.rules[k].head < cone.length := by rw [hE]; exact idx_in hco
      have hlk : ∀ cA : Obj, (Instr.lookup 129 (.map (some w.heap.size)) (.int .i64 T.rules[k].head) true).run Tryz.prog (wr.alloc cA) = .ok (.tuple #[.int .i64 (D.idxOf T.rules[k].head : Nat), .bool true]) (wr.alloc cA) := fun cA => by rw [Hlk.out cA, if_pos hin]
      rw [if_pos (memB_true.2 hco)] at Hsucc
      have Hrow : Hid (∀ W, Below w.heap.size w W → RcI W B T.rules[k].body) := hid fun W hW => hrow.ext (scR_mono _) hW
      have hB3 : T.rules[k].body.length ≤ 140737488355328 := by omega
      clear hE hin hco Hlk hrow
      generalize D.idxOf T.rules[k].head = ih at *
      generalize T.rules[k].head = hd at *
      generalize T.rules[k].kind = kd at *
      generalize hbd : T.rules[k].body = bd at *
      clear hbd
      have hgi : ¬ (cone.length : Int) ≤ (ih : Int) := by omega
      go_wp2_with fail
      go_loopw [8, 61] (fun v8 v61 wr => ∃ j : Nat, j ≤ bd.length ∧ v61 = .int .i64 (j : Int) ∧ v8 = .int .i64 ((addAll D (bd.take j)).length : Int) ∧ IM wr w.heap.size (addAll D (bd.take j)) ∧ Below w.heap.size w wr) (fun _ v61 _ => bd.length - (intOf v61).toNat)
      case atStart => exact ⟨0, Nat.zero_le _, rfl, by simp [addAll], by simpa [addAll] using Him.out.keep (Below.heap_alloc wr _ _ Him.out.lt), Hbl.out.alloc (by have := Hbl.out.size; omega) _⟩
      case round =>
       obtain ⟨j, hj, rfl, rfl, him, hb2⟩ := hrel
       have Hb2 := hid hb2
       by_cases hjl : j < bd.length
       ·obtain ⟨adB, rfl, hcell⟩ := (Hrow.out wr hb2).at1 hjl
        have hyw : (Lit.int .i64 bd[j]).wf = true := idx_wf (Hbo.out _ (List.getElem_mem hjl)) hfl4
        have Hs := hid (addAll_succ (D := D) hjl)
        have hlk := him.lookok hyw
        have hDj : DOk T.foes.length (addAll D (bd.take j)) := HDk.out.addAll fun z hz => Hbo.out z (List.mem_of_mem_take hz)
        have hDl := hDj.le
        generalize addAll D (bd.take j) = D2 at *
        generalize bd[j] = y at *
        by_cases hm : y ∈ D2
        ·rw [if_pos hm] at hlk
         have Him2 := hid him
         have Hm : Hid (add1 D2 y = D2) := hid (by unfold add1; rw [if_pos (memB_true.2 hm)])
         clear him hm
         go_wp2_with fail
         go_roundw
         case rel => exact ⟨j + 1, by omega, by go_num, by rw [Hs.out, Hm.out], by rw [Hs.out, Hm.out]; exact Him2.out, Hb2.out⟩
         case measure => simp [intOf]; omega
        ·rw [if_neg hm] at hlk
         have Hm : Hid (add1 D2 y = D2 ++ [y]) := hid (by unfold add1; rw [if_neg (fun h => hm (memB_true.1 h))])
         obtain ⟨w2, hu, him2, hg2⟩ := him.push (by omega) hm hyw
         have Him2 := hid him2
         have Hb3 := hid (below_grown hb2 hb2.size hg2 (fun g hg => by injection hg with hg; omega))
         clear him him2 hg2 hm
         go_wp2_with fail
         go_roundw
         case rel => exact ⟨j + 1, by omega, by go_num, by rw [Hs.out, Hm.out, List.length_append, List.length_singleton]; go_num, by rw [Hs.out, Hm.out]; exact Him2.out, Hb3.out⟩
         case measure => simp [intOf]; omega
       ·obtain rfl : j = bd.length := by omega
        rw [List.take_length] at him
        have Him2 := hid him
        clear him
        go_wp2_with fail
        go_roundw
        case rel => exact ⟨k + 1, by omega, by go_num, by rw [Hsucc.out, List.take_length], by rw [Hsucc.out]; exact Him2.out, Hb2.out⟩
        case measure => simp [intOf]; omega
     ·have hix : T.rules[k].head ∈ D → cone.length ≤ D.idxOf T.rules[k].head := fun _ => by rw [hE]; exact idx_out hco
      rw [if_neg (fun h => hco (memB_true.1 h))] at Hsucc
      have hB3 : T.rules[k].body.length ≤ 140737488355328 := by omega
      clear hE hrow
      by_cases hin : T.rules[k].head ∈ D
      ·have hix := hix hin
       have hlk : ∀ cA : Obj, (Instr.lookup 129 (.map (some w.heap.size)) (.int .i64 T.rules[k].head) true).run Tryz.prog (wr.alloc cA) = .ok (.tuple #[.int .i64 (D.idxOf T.rules[k].head : Nat), .bool true]) (wr.alloc cA) := fun cA => by rw [Hlk.out cA, if_pos hin]
       clear Hlk hin hco
       generalize D.idxOf T.rules[k].head = ih at *
       generalize T.rules[k].head = hd at *
       generalize T.rules[k].kind = kd at *
       generalize T.rules[k].body = bd at *
       have hgi : (cone.length : Int) ≤ (ih : Int) := by omega
       go_wp2_with fail
       go_roundw
       case rel => exact ⟨k + 1, by omega, by go_num, by rw [Hsucc.out], by rw [Hsucc.out]; exact Him.out.keep (Below.heap_alloc wr _ _ Him.out.lt), Hbl.out.alloc (by have := Hbl.out.size; omega) _⟩
       case measure => simp [intOf]; omega
      ·have hlk : ∀ cA : Obj, (Instr.lookup 129 (.map (some w.heap.size)) (.int .i64 T.rules[k].head) true).run Tryz.prog (wr.alloc cA) = .ok (.tuple #[.int .i64 0, .bool false]) (wr.alloc cA) := fun cA => by rw [Hlk.out cA, if_neg hin]
       clear Hlk hin hco hix
       generalize T.rules[k].head = hd at *
       generalize T.rules[k].kind = kd at *
       generalize T.rules[k].body = bd at *
       go_wp2_with fail
       go_roundw
       case rel => exact ⟨k + 1, by omega, by go_num, by rw [Hsucc.out], by rw [Hsucc.out]; exact Him.out.keep (Below.heap_alloc wr _ _ Him.out.lt), Hbl.out.alloc (by have := Hbl.out.size; omega) _⟩
       case measure => simp [intOf]; omega
    ·obtain rfl : k = T.rules.length := by omega
     have Him := hid him
     have Hbl := hid hbl
     clear him hbl
     go_wp2_with fail
     go_ret
     exact Fin HQ ⟨_, rfl, Nat.le_refl _, Him.out, Hbl.out⟩
end Go.Proofs.Lx

namespace Go.Proofs
open Go.Shelf
def Tryz.lays189_ren : Go.Shelf.Ren := ⟨fun | 189 => 88 | 125 => 103 | 257 => 102 | 128 => 128 | 129 => 129 | 294 => 120 | 295 => 121 | 296 => 122 | 297 => 123 | 298 => 124 | 299 => 125 | 216 => 67 | 300 => 126 | 301 => 127 | 328 => 150 | 329 => 151 | 330 => 152 | 331 => 153 | 332 => 154 | 215 => 84 | 343 => 158 | n => n, fun | 28 => 36 | 3 => 3 | 46 => 105 | 0 => 0 | 51 => 157 | 53 => 159 | 4 => 4 | 183 => 151 | 182 => 150 | 131 => 81 | 5 => 5 | 9 => 9 | 218 => 164 | 222 => 168 | 228 => 170 | 229 => 77 | n => n, fun | n => n⟩
theorem Tryz.lays189 : Go.Proofs.Lays.n189 Tryz.prog Tryz.lays189_ren := {
 mixed := by kernel_rfl
 f125 := Tryz.func103.trans (congrArg some (by kernel_rfl))
 f128 := Tryz.func128.trans (congrArg some (by kernel_rfl))
 f129 := Tryz.func129.trans (congrArg some (by kernel_rfl))
 f189 := Tryz.func88.trans (congrArg some (by kernel_rfl))
 f215 := Tryz.func84.trans (congrArg some (by kernel_rfl))
 f216 := Tryz.func67.trans (congrArg some (by kernel_rfl))
 f257 := Tryz.func102.trans (congrArg some (by kernel_rfl))
 f294 := Tryz.func120.trans (congrArg some (by kernel_rfl))
 f295 := Tryz.func121.trans (congrArg some (by kernel_rfl))
 f296 := Tryz.func122.trans (congrArg some (by kernel_rfl))
 f297 := Tryz.func123.trans (congrArg some (by kernel_rfl))
 f298 := Tryz.func124.trans (congrArg some (by kernel_rfl))
 f299 := Tryz.func125.trans (congrArg some (by kernel_rfl))
 f300 := Tryz.func126.trans (congrArg some (by kernel_rfl))
 f301 := Tryz.func127.trans (congrArg some (by kernel_rfl))
 f328 := Tryz.func150.trans (congrArg some (by kernel_rfl))
 f329 := Tryz.func151.trans (congrArg some (by kernel_rfl))
 f330 := Tryz.func152.trans (congrArg some (by kernel_rfl))
 f331 := Tryz.func153.trans (congrArg some (by kernel_rfl))
 f332 := Tryz.func154.trans (congrArg some (by kernel_rfl))
 f343 := Tryz.func158.trans (congrArg some (by kernel_rfl))
 t0 := Tryz.underlying0
 a0 := Tryz.isAgg0
 z0 := Tryz.sizeOf0
 v0 := Tryz.zeroValue0
 t3 := Tryz.underlying3
 a3 := Tryz.isAgg3
 z3 := Tryz.sizeOf3
 v3 := Tryz.zeroValue3
 t4 := Tryz.underlying4
 a4 := Tryz.isAgg4
 z4 := Tryz.sizeOf4
 v4 := Tryz.zeroValue4
 t5 := Tryz.underlying5
 a5 := Tryz.isAgg5
 z5 := Tryz.sizeOf5
 v5 := Tryz.zeroValue5
 t9 := Tryz.underlying9
 a9 := Tryz.isAgg9
 z9 := Tryz.sizeOf9
 v9 := Tryz.zeroValue9
 t28 := Tryz.underlying36
 a28 := Tryz.isAgg36
 z28 := Tryz.sizeOf36
 v28 := Tryz.zeroValue36
 t46 := Tryz.underlying105
 a46 := Tryz.isAgg105
 z46 := Tryz.sizeOf105
 v46 := Tryz.zeroValue105
 t51 := Tryz.underlying157
 a51 := Tryz.isAgg157
 z51 := Tryz.sizeOf157
 v51 := Tryz.zeroValue157
 t53 := Tryz.underlying159
 a53 := Tryz.isAgg159
 z53 := Tryz.sizeOf159
 v53 := Tryz.zeroValue159
 t131 := Tryz.underlying81
 a131 := Tryz.isAgg81
 z131 := Tryz.sizeOf81
 v131 := Tryz.zeroValue81
 t182 := Tryz.underlying150
 a182 := Tryz.isAgg150
 z182 := Tryz.sizeOf150
 v182 := Tryz.zeroValue150
 t183 := Tryz.underlying151
 a183 := Tryz.isAgg151
 z183 := Tryz.sizeOf151
 v183 := Tryz.zeroValue151
 t218 := Tryz.underlying164
 a218 := Tryz.isAgg164
 z218 := Tryz.sizeOf164
 v218 := Tryz.zeroValue164
 t222 := Tryz.underlying168
 a222 := Tryz.isAgg168
 z222 := Tryz.sizeOf168
 v222 := Tryz.zeroValue168
 t228 := Tryz.underlying170
 a228 := Tryz.isAgg170
 z228 := Tryz.sizeOf170
 v228 := Tryz.zeroValue170
 t229 := Tryz.underlying77
 a229 := Tryz.isAgg77
 z229 := Tryz.sizeOf77
 v229 := Tryz.zeroValue77 }
end Go.Proofs

namespace Go.Proofs.Lx
open Go Go.RowKit Go.Sort Go.Proofs
set_option linter.unusedVariables false
theorem sortI_any (w : World) (base : Nat) (v : Value) (xs : List Int) (h : w.ownsRow base 3 1 v xs.length (intsV xs)) (hl : xs.length ≤ 100000000) :
  Calls Tryz.prog 88 #[v] w (Ret fun r w' => r = .tuple #[] ∧ w'.ownsRow base 3 1 v xs.length (intsV (srt xs)) ∧ w.grownBy w' v.ownBlock) := by
 rcases h.2 with ⟨rfl, h0⟩ | ⟨g, cap, cur, rfl, hb, hg, hc1, hc2, hc3, ht⟩
 ·refine (Any.slices_Sort_int_none Tryz.lays189 none 0 w).mono ?_
  rintro e w' ⟨rfl, rfl⟩
  have e0 : xs = [] := List.eq_nil_of_length_eq_zero h0
  subst e0
  exact ⟨_, rfl, rfl, by simpa [srt, intsV] using h, ⟨rfl, rfl, rfl, Nat.le_refl _, fun _ _ _ => rfl⟩⟩
 ·rw [Nat.mul_one] at ht
  refine (Any.slices_Sort_int Tryz.lays189 g 0 cap xs w (holds_of_blockI hg ht) (lt_of_block hg) (by omega)).mono ?_
  rintro e w' ⟨rfl, n, os, rfl⟩
  exact ⟨_, rfl, rfl, ownsRow_sortedI (srt_length xs) hb hg hc1 hc2 hc3, grownBy_sortedI _⟩
end Go.Proofs.Lx

namespace Go.Proofs.Lx
open Go Go.RowKit
set_option linter.unusedSimpArgs false
set_option linter.unusedVariables false
theorem cell_three_at (w : World) (x y z : Value) (t : TypeId) (g : Nat) (hg : g = w.heap.size) : ∀ j u, [x, y, z][j]? = some u → (w.alloc (.cells #[x, y, z] t)).cell? ((⟨g, 0, none⟩ : Addr).add j) = some u := by
 subst hg; exact cell_three_new w x y z t
set_option maxRecDepth 100000 in
set_option maxHeartbeats 1600000 in
theorem says_loop (w : World) (base p at9 : Nat) (lits : Int) (vFo vBe vOl vRu vFa : Value) (rs : List Rule) (vs : Nat → Value) (fa : List Int) (h : PB w base p lits vFo vBe vOl vRu vFa rs vs fa) (hb0 : base ≤ w.heap.size) (hf : rs.length ≤ 100000) :
  Calls Tryz.prog 89 #[.pointer (some ⟨p, 0, none⟩), .int .i64 (at9 : Int), .int .u8 2] w (Ret fun r w' => r = .tuple #[] ∧ Said w w' base p lits vFo vBe vOl vRu vFa (rs ++ sayRs 2 at9) (fa ++ sayFs 2 at9)) := by
 have H := hid h
 have e1 : rs ++ sayRs 2 at9 = rs ++ [⟨2, at9, [(at9 : Int)]⟩] := by simp [sayRs, Nat.testBit]
 have e2 : fa ++ sayFs 2 at9 = fa := by simp [sayFs, Nat.testBit]
 rw [e1, e2]
 have hlo := h.lo
 obtain ⟨i0, hi, hz0, hz1, hz2⟩ := info_parts infoRl
 have hlpHaft := lt_of_block H.out.box
 have c2 : w.cell? ⟨p, 2, none⟩ = some vRu := by rw [cell_of_row w p _ _ _ _ H.out.box]; rfl
 have Haft : Hid (∀ (cA cB : Obj) (w' : World), ((w.alloc cA).alloc cB).grownBy w' vRu.ownBlock → w'.frozen? ⟨p, 2, none⟩ = false ∧ w'.cell? ⟨p, 2, none⟩ = some vRu) := hid fun cA cB w' hg => by
  have hb9 : Below w.heap.size w ((w.alloc cA).alloc cB) := ext_trans (ext_alloc _ _) (ext_alloc _ _)
  have h9 := (hg.block p (Nat.lt_of_lt_of_le hlpHaft hb9.size) (fun e => by have := (H.out.ru.lt _ e.symm).1; have := H.out.lo; omega)).trans ((hb9.block p hlpHaft).trans H.out.box)
  exact ⟨frozen_of_row w' p 2 _ _ h9, by rw [cell_of_row w' p 2 _ _ _ h9]; rfl⟩
 clear h e1 e2
 refine post_gen fun Q HQ => ?_
 go_enter Tryz.func89, Tryz.ntmps89
 go_wp2_with (at_builtin; refine wpList_append_own_at _ rfl _ _ 23 rfl base 93 i0 (.agg #[.int .i64 0, .int .i64 0, .slice none 0 0]) 3 40 Tryz.underlying23 hi hz0 hz1 hz2 rfl (by decide) _ (rs.length) _ rfl ((H.out.ru.alloc _).alloc _) ⟨w.heap.size + 1, 0, none⟩ 1 1 [.int .i64 2, .int .i64 (at9 : Int), .slice (some ⟨w.heap.size, 0, none⟩) 1 1] rfl rfl (cell_three_at _ _ _ _ _ _ (by simp)) (fun u hu => by simp at hu; rcases hu with rfl | rfl | rfl <;> rfl) (by unfold maxLen; omega) (by omega) (by simp; omega) ?_; intro v1 w1 hown1 hgrow1 hnil1 hat1; obtain ⟨gn1, cn1, rfl⟩ := own_formL hown1; obtain ⟨hqF1, hq21⟩ := Haft.out _ _ w1 hgrow1)
 (try simp only [Exit.inBlock, Exit.then])
 refine bodyPost_end (v := .tuple #[]) (by simp [results, Tryz.results89, go_sem]; try rfl) rfl ?_
 have hb91 : Below w.heap.size w ((w.alloc (.cells #[.int .i64 (at9 : Int)] 3)).alloc (.cells #[.int .i64 2, .int .i64 (at9 : Int), .slice (some ⟨w.heap.size, 0, none⟩) 1 1] 93)) := ext_trans (ext_alloc _ _) (ext_alloc _ _)
 have hp1 := (H.out.ext hb91).pushRg (r := ⟨2, at9, [(at9 : Int)]⟩) (u := .slice (some ⟨w.heap.size, 0, none⟩) 1 1) ((World.ownsRow_lit w #[.int .i64 (at9 : Int)] 1 (by omega) (by unfold maxLen; omega) rfl).alloc _) (.inr fun e => absurd (H.out.fa.lt _ e.symm).2 (Nat.lt_irrefl _)) hgrow1 hown1
 have hsz1 : w.heap.size ≤ w1.heap.size := Nat.le_trans hb91.size hgrow1.size
 have hk1 : ∀ g, g < w.heap.size → vRu.ownBlock ≠ some g → w1.heap[g]? = w.heap[g]? := fun g h1 h3 => (hgrow1.block g (Nat.lt_of_lt_of_le h1 hb91.size) (fun e => h3 e.symm)).trans (hb91.block g h1)
 have hv1 : ∀ g, Value.ownBlock (.slice (some ⟨gn1, 0, none⟩) (rs.length + 1) cn1) = some g → vRu.ownBlock = some g ∨ w.heap.size ≤ g := fun g hg => by
  rcases hat1 with e | e
  ·exact .inl (e ▸ hg)
  ·right; have e9 : some g = some _ := hg.symm.trans e; injection e9 with e9; have := hb91.size; omega
 refine Fin HQ ⟨rfl, ⟨_, _, _, hp1, hv1, fun g hg => .inl hg⟩, ⟨hgrow1.os, hgrow1.tape, hgrow1.output, by rw [World.size_setCell]; omega⟩, fun g h1 h2 h3 h4 => ?_⟩
 rw [heap_setCell_other _ _ _ _ h2]
 exact hk1 g h1 h3
set_option maxRecDepth 100000 in
set_option maxHeartbeats 1600000 in
theorem says_four (w : World) (base p at9 : Nat) (lits : Int) (vFo vBe vOl vRu vFa : Value) (rs : List Rule) (vs : Nat → Value) (fa : List Int) (h : PB w base p lits vFo vBe vOl vRu vFa rs vs fa) (hb0 : base ≤ w.heap.size) (hf : rs.length ≤ 100000) :
  Calls Tryz.prog 89 #[.pointer (some ⟨p, 0, none⟩), .int .i64 (at9 : Int), .int .u8 4] w (Ret fun r w' => r = .tuple #[] ∧ Said w w' base p lits vFo vBe vOl vRu vFa (rs ++ sayRs 4 at9) (fa ++ sayFs 4 at9)) := by
 have H := hid h
 have e1 : rs ++ sayRs 4 at9 = (rs ++ [⟨1, at9, [(at9 : Int)]⟩]) ++ [⟨2, at9, []⟩] := by simp [sayRs, Nat.testBit]
 have e2 : fa ++ sayFs 4 at9 = fa := by simp [sayFs, Nat.testBit]
 rw [e1, e2]
 have hlo := h.lo
 obtain ⟨i0, hi, hz0, hz1, hz2⟩ := info_parts infoRl
 have hlpHaft := lt_of_block H.out.box
 have c2 : w.cell? ⟨p, 2, none⟩ = some vRu := by rw [cell_of_row w p _ _ _ _ H.out.box]; rfl
 have Haft : Hid (∀ (cA cB : Obj) (w' : World), ((w.alloc cA).alloc cB).grownBy w' vRu.ownBlock → w'.frozen? ⟨p, 2, none⟩ = false ∧ w'.cell? ⟨p, 2, none⟩ = some vRu) := hid fun cA cB w' hg => by
  have hb9 : Below w.heap.size w ((w.alloc cA).alloc cB) := ext_trans (ext_alloc _ _) (ext_alloc _ _)
  have h9 := (hg.block p (Nat.lt_of_lt_of_le hlpHaft hb9.size) (fun e => by have := (H.out.ru.lt _ e.symm).1; have := H.out.lo; omega)).trans ((hb9.block p hlpHaft).trans H.out.box)
  exact ⟨frozen_of_row w' p 2 _ _ h9, by rw [cell_of_row w' p 2 _ _ _ h9]; rfl⟩
 clear h e1 e2
 refine post_gen fun Q HQ => ?_
 go_enter Tryz.func89, Tryz.ntmps89
 refine wp_seq_k fun K hK => ?_
 have HK := hid hK
 clear hK
 go_wp2_with (at_builtin; refine wpList_append_own_at _ rfl _ _ 23 rfl base 93 i0 (.agg #[.int .i64 0, .int .i64 0, .slice none 0 0]) 3 40 Tryz.underlying23 hi hz0 hz1 hz2 rfl (by decide) _ (rs.length) _ rfl ((H.out.ru.alloc _).alloc _) ⟨w.heap.size + 1, 0, none⟩ 1 1 [.int .i64 1, .int .i64 (at9 : Int), .slice (some ⟨w.heap.size, 0, none⟩) 1 1] rfl rfl (cell_three_at _ _ _ _ _ _ (by simp)) (fun u hu => by simp at hu; rcases hu with rfl | rfl | rfl <;> rfl) (by unfold maxLen; omega) (by omega) (by simp; omega) ?_; intro v1 w1 hown1 hgrow1 hnil1 hat1; obtain ⟨gn1, cn1, rfl⟩ := own_formL hown1; obtain ⟨hqF1, hq21⟩ := Haft.out _ _ w1 hgrow1)
 (try simp only [Exit.inBlock, Exit.then])
 refine HK.out _ _ ?_
 clear HK
 have hb91 : Below w.heap.size w ((w.alloc (.cells #[.int .i64 (at9 : Int)] 3)).alloc (.cells #[.int .i64 1, .int .i64 (at9 : Int), .slice (some ⟨w.heap.size, 0, none⟩) 1 1] 93)) := ext_trans (ext_alloc _ _) (ext_alloc _ _)
 have hp1 := (H.out.ext hb91).pushRg (r := ⟨1, at9, [(at9 : Int)]⟩) (u := .slice (some ⟨w.heap.size, 0, none⟩) 1 1) ((World.ownsRow_lit w #[.int .i64 (at9 : Int)] 1 (by omega) (by unfold maxLen; omega) rfl).alloc _) (.inr fun e => absurd (H.out.fa.lt _ e.symm).2 (Nat.lt_irrefl _)) hgrow1 hown1
 have hsz1 : w.heap.size ≤ w1.heap.size := Nat.le_trans hb91.size hgrow1.size
 have hk1 : ∀ g, g < w.heap.size → vRu.ownBlock ≠ some g → w1.heap[g]? = w.heap[g]? := fun g h1 h3 => (hgrow1.block g (Nat.lt_of_lt_of_le h1 hb91.size) (fun e => h3 e.symm)).trans (hb91.block g h1)
 have hv1 : ∀ g, Value.ownBlock (.slice (some ⟨gn1, 0, none⟩) (rs.length + 1) cn1) = some g → vRu.ownBlock = some g ∨ w.heap.size ≤ g := fun g hg => by
  rcases hat1 with e | e
  ·exact .inl (e ▸ hg)
  ·right; have e9 : some g = some _ := hg.symm.trans e; injection e9 with e9; have := hb91.size; omega
 obtain ⟨W1, HW1⟩ : ∃ W1, Hid (w1.setCell ⟨p, 2, none⟩ (.slice (some ⟨gn1, 0, none⟩) (rs.length + 1) cn1) = W1) := ⟨_, hid rfl⟩
 have Hos : Hid (W1.os = w.os ∧ W1.tape = w.tape ∧ W1.output = w.output) := hid (by rw [← HW1.out]; exact ⟨hgrow1.os, hgrow1.tape, hgrow1.output⟩)
 have HS1 : Hid (W1.heap.size = w1.heap.size) := hid (by rw [← HW1.out]; simp)
 have hk9 : ∀ g, g < w.heap.size → g ≠ p → vRu.ownBlock ≠ some g → W1.heap[g]? = w.heap[g]? := fun g h1 h2 h3 => by rw [← HW1.out, heap_setCell_other _ _ _ _ h2]; exact hk1 g h1 h3
 rw [HW1.out] at hp1
 rw [HW1.out]
 have H1 := hid hp1
 have Hk9 := hid hk9
 have Hv1 := hid hv1
 clear hp1 hk9 hv1 hk1 c2 hqF1 hq21 hown1 hnil1 hat1 Haft hgrow1 hb91
 have Hll : Hid ((rs ++ [(⟨1, at9, [(at9 : Int)]⟩ : Rule)]).length = rs.length + 1) := hid (by simp)
 have hlpHaft1 := lt_of_block H1.out.box
 have c21 : W1.cell? ⟨p, 2, none⟩ = some (.slice (some ⟨gn1, 0, none⟩) (rs.length + 1) cn1 : Value) := by rw [cell_of_row W1 p _ _ _ _ H1.out.box]; rfl
 have Haft1 : Hid (∀ (cA : Obj) (w' : World), (W1.alloc cA).grownBy w' (Value.slice (some ⟨gn1, 0, none⟩) (rs.length + 1) cn1).ownBlock → w'.frozen? ⟨p, 2, none⟩ = false ∧ w'.cell? ⟨p, 2, none⟩ = some (.slice (some ⟨gn1, 0, none⟩) (rs.length + 1) cn1 : Value)) := hid fun cA w' hg => by
  have hb9 : Below W1.heap.size W1 (W1.alloc cA) := ext_alloc _ _
  have h9 := (hg.block p (Nat.lt_of_lt_of_le hlpHaft1 hb9.size) (fun e => by have := (H1.out.ru.lt _ e.symm).1; have := H1.out.lo; omega)).trans ((hb9.block p hlpHaft1).trans H1.out.box)
  exact ⟨frozen_of_row w' p 2 _ _ h9, by rw [cell_of_row w' p 2 _ _ _ h9]; rfl⟩
 go_wp2_with (at_builtin; refine wpList_append_own_at _ rfl _ _ 23 rfl base 93 i0 (.agg #[.int .i64 0, .int .i64 0, .slice none 0 0]) 3 40 Tryz.underlying23 hi hz0 hz1 hz2 rfl (by decide) _ ((rs ++ [(⟨1, at9, [(at9 : Int)]⟩ : Rule)]).length) _ rfl (H1.out.ru.alloc _) ⟨W1.heap.size, 0, none⟩ 1 1 [.int .i64 2, .int .i64 (at9 : Int), .slice none 0 0] rfl rfl (cell_three_new _ _ _ _ _) (fun u hu => by simp at hu; rcases hu with rfl | rfl | rfl <;> rfl) (by unfold maxLen; have := Hll.out; omega) (by have := Hll.out; omega) (by have := HS1.out; simp; omega) ?_; intro v2 w2 hown2 hgrow2 hnil2 hat2; obtain ⟨gn2, cn2, rfl⟩ := own_formL hown2; obtain ⟨hqF2, hq22⟩ := Haft1.out _ w2 hgrow2)
 (try simp only [Exit.inBlock, Exit.then])
 refine bodyPost_end (v := .tuple #[]) (by simp [results, Tryz.results89, go_sem]; try rfl) rfl ?_
 have hS1 := HS1.out
 have hb92 : Below W1.heap.size W1 (W1.alloc (.cells #[.int .i64 2, .int .i64 (at9 : Int), .slice none 0 0] 93)) := ext_alloc _ _
 have hp2 := (H1.out.ext hb92).pushRg (r := ⟨2, at9, []⟩) (u := .slice none 0 0) (World.ownsRow_nil _ _ _ _) (.inl rfl) hgrow2 hown2
 have hsz2 : W1.heap.size ≤ w2.heap.size := Nat.le_trans hb92.size hgrow2.size
 have hk2 : ∀ g, g < W1.heap.size → (Value.slice (some ⟨gn1, 0, none⟩) (rs.length + 1) cn1).ownBlock ≠ some g → w2.heap[g]? = W1.heap[g]? := fun g h1 h3 => (hgrow2.block g (Nat.lt_of_lt_of_le h1 hb92.size) (fun e => h3 e.symm)).trans (hb92.block g h1)
 have hv2 : ∀ g, Value.ownBlock (.slice (some ⟨gn2, 0, none⟩) ((rs ++ [(⟨1, at9, [(at9 : Int)]⟩ : Rule)]).length + 1) cn2) = some g → (Value.slice (some ⟨gn1, 0, none⟩) (rs.length + 1) cn1).ownBlock = some g ∨ W1.heap.size ≤ g := fun g hg => by
  rcases hat2 with e | e
  ·exact .inl (e ▸ hg)
  ·right; have e9 : some g = some _ := hg.symm.trans e; injection e9 with e9; have := hb92.size; omega
 have hS1 := HS1.out
 rw [Hll.out] at hp2 hv2
 refine Fin HQ ⟨rfl, ⟨_, _, _, hp2, fun g hg => ?_, fun g hg => .inl hg⟩, ⟨hgrow2.os.trans Hos.out.1, hgrow2.tape.trans Hos.out.2.1, hgrow2.output.trans Hos.out.2.2, by rw [World.size_setCell]; omega⟩, fun g h1 h2 h3 h4 => ?_⟩
 ·rcases hv2 g hg with e | e
  ·exact Hv1.out g e
  ·exact .inr (by omega)
 ·rw [heap_setCell_other _ _ _ _ h2]
  refine (hk2 g (by omega) fun e => ?_).trans (Hk9.out g h1 h2 h3)
  rcases Hv1.out g e with e | e
  ·exact h3 e
  ·omega
set_option maxRecDepth 100000 in
set_option maxHeartbeats 1600000 in
theorem says_zero (w : World) (base p at9 : Nat) (lits : Int) (vFo vBe vOl vRu vFa : Value) (rs : List Rule) (vs : Nat → Value) (fa : List Int) (h : PB w base p lits vFo vBe vOl vRu vFa rs vs fa) (hb0 : base ≤ w.heap.size) (hf : rs.length ≤ 100000) :
  Calls Tryz.prog 89 #[.pointer (some ⟨p, 0, none⟩), .int .i64 (at9 : Int), .int .u8 0] w (Ret fun r w' => r = .tuple #[] ∧ Said w w' base p lits vFo vBe vOl vRu vFa (rs ++ sayRs 0 at9) (fa ++ sayFs 0 at9)) := by
 have H := hid h
 have e1 : rs ++ sayRs 0 at9 = (rs ++ [⟨1, at9, [(at9 : Int)]⟩]) ++ [⟨2, at9, [(at9 : Int)]⟩] := by simp [sayRs, Nat.testBit]
 have e2 : fa ++ sayFs 0 at9 = fa := by simp [sayFs, Nat.testBit]
 rw [e1, e2]
 have hlo := h.lo
 obtain ⟨i0, hi, hz0, hz1, hz2⟩ := info_parts infoRl
 have hlpHaft := lt_of_block H.out.box
 have c2 : w.cell? ⟨p, 2, none⟩ = some vRu := by rw [cell_of_row w p _ _ _ _ H.out.box]; rfl
 have Haft : Hid (∀ (cA cB : Obj) (w' : World), ((w.alloc cA).alloc cB).grownBy w' vRu.ownBlock → w'.frozen? ⟨p, 2, none⟩ = false ∧ w'.cell? ⟨p, 2, none⟩ = some vRu) := hid fun cA cB w' hg => by
  have hb9 : Below w.heap.size w ((w.alloc cA).alloc cB) := ext_trans (ext_alloc _ _) (ext_alloc _ _)
  have h9 := (hg.block p (Nat.lt_of_lt_of_le hlpHaft hb9.size) (fun e => by have := (H.out.ru.lt _ e.symm).1; have := H.out.lo; omega)).trans ((hb9.block p hlpHaft).trans H.out.box)
  exact ⟨frozen_of_row w' p 2 _ _ h9, by rw [cell_of_row w' p 2 _ _ _ h9]; rfl⟩
 clear h e1 e2
 refine post_gen fun Q HQ => ?_
 go_enter Tryz.func89, Tryz.ntmps89
 refine wp_seq_k fun K hK => ?_
 have HK := hid hK
 clear hK
 go_wp2_with (at_builtin; refine wpList_append_own_at _ rfl _ _ 23 rfl base 93 i0 (.agg #[.int .i64 0, .int .i64 0, .slice none 0 0]) 3 40 Tryz.underlying23 hi hz0 hz1 hz2 rfl (by decide) _ (rs.length) _ rfl ((H.out.ru.alloc _).alloc _) ⟨w.heap.size + 1, 0, none⟩ 1 1 [.int .i64 1, .int .i64 (at9 : Int), .slice (some ⟨w.heap.size, 0, none⟩) 1 1] rfl rfl (cell_three_at _ _ _ _ _ _ (by simp)) (fun u hu => by simp at hu; rcases hu with rfl | rfl | rfl <;> rfl) (by unfold maxLen; omega) (by omega) (by simp; omega) ?_; intro v1 w1 hown1 hgrow1 hnil1 hat1; obtain ⟨gn1, cn1, rfl⟩ := own_formL hown1; obtain ⟨hqF1, hq21⟩ := Haft.out _ _ w1 hgrow1)
 (try simp only [Exit.inBlock, Exit.then])
 refine HK.out _ _ ?_
 clear HK
 have hb91 : Below w.heap.size w ((w.alloc (.cells #[.int .i64 (at9 : Int)] 3)).alloc (.cells #[.int .i64 1, .int .i64 (at9 : Int), .slice (some ⟨w.heap.size, 0, none⟩) 1 1] 93)) := ext_trans (ext_alloc _ _) (ext_alloc _ _)
 have hp1 := (H.out.ext hb91).pushRg (r := ⟨1, at9, [(at9 : Int)]⟩) (u := .slice (some ⟨w.heap.size, 0, none⟩) 1 1) ((World.ownsRow_lit w #[.int .i64 (at9 : Int)] 1 (by omega) (by unfold maxLen; omega) rfl).alloc _) (.inr fun e => absurd (H.out.fa.lt _ e.symm).2 (Nat.lt_irrefl _)) hgrow1 hown1
 have hsz1 : w.heap.size ≤ w1.heap.size := Nat.le_trans hb91.size hgrow1.size
 have hk1 : ∀ g, g < w.heap.size → vRu.ownBlock ≠ some g → w1.heap[g]? = w.heap[g]? := fun g h1 h3 => (hgrow1.block g (Nat.lt_of_lt_of_le h1 hb91.size) (fun e => h3 e.symm)).trans (hb91.block g h1)
 have hv1 : ∀ g, Value.ownBlock (.slice (some ⟨gn1, 0, none⟩) (rs.length + 1) cn1) = some g → vRu.ownBlock = some g ∨ w.heap.size ≤ g := fun g hg => by
  rcases hat1 with e | e
  ·exact .inl (e ▸ hg)
  ·right; have e9 : some g = some _ := hg.symm.trans e; injection e9 with e9; have := hb91.size; omega
 obtain ⟨W1, HW1⟩ : ∃ W1, Hid (w1.setCell ⟨p, 2, none⟩ (.slice (some ⟨gn1, 0, none⟩) (rs.length + 1) cn1) = W1) := ⟨_, hid rfl⟩
 have Hos : Hid (W1.os = w.os ∧ W1.tape = w.tape ∧ W1.output = w.output) := hid (by rw [← HW1.out]; exact ⟨hgrow1.os, hgrow1.tape, hgrow1.output⟩)
 have HS1 : Hid (W1.heap.size = w1.heap.size) := hid (by rw [← HW1.out]; simp)
 have hk9 : ∀ g, g < w.heap.size → g ≠ p → vRu.ownBlock ≠ some g → W1.heap[g]? = w.heap[g]? := fun g h1 h2 h3 => by rw [← HW1.out, heap_setCell_other _ _ _ _ h2]; exact hk1 g h1 h3
 rw [HW1.out] at hp1
 rw [HW1.out]
 have H1 := hid hp1
 have Hk9 := hid hk9
 have Hv1 := hid hv1
 clear hp1 hk9 hv1 hk1 c2 hqF1 hq21 hown1 hnil1 hat1 Haft hgrow1 hb91
 have Hll : Hid ((rs ++ [(⟨1, at9, [(at9 : Int)]⟩ : Rule)]).length = rs.length + 1) := hid (by simp)
 have hlpHaft1 := lt_of_block H1.out.box
 have c21 : W1.cell? ⟨p, 2, none⟩ = some (.slice (some ⟨gn1, 0, none⟩) (rs.length + 1) cn1 : Value) := by rw [cell_of_row W1 p _ _ _ _ H1.out.box]; rfl
 have Haft1 : Hid (∀ (cA cB : Obj) (w' : World), ((W1.alloc cA).alloc cB).grownBy w' (Value.slice (some ⟨gn1, 0, none⟩) (rs.length + 1) cn1).ownBlock → w'.frozen? ⟨p, 2, none⟩ = false ∧ w'.cell? ⟨p, 2, none⟩ = some (.slice (some ⟨gn1, 0, none⟩) (rs.length + 1) cn1 : Value)) := hid fun cA cB w' hg => by
  have hb9 : Below W1.heap.size W1 ((W1.alloc cA).alloc cB) := ext_trans (ext_alloc _ _) (ext_alloc _ _)
  have h9 := (hg.block p (Nat.lt_of_lt_of_le hlpHaft1 hb9.size) (fun e => by have := (H1.out.ru.lt _ e.symm).1; have := H1.out.lo; omega)).trans ((hb9.block p hlpHaft1).trans H1.out.box)
  exact ⟨frozen_of_row w' p 2 _ _ h9, by rw [cell_of_row w' p 2 _ _ _ h9]; rfl⟩
 go_wp2_with (at_builtin; refine wpList_append_own_at _ rfl _ _ 23 rfl base 93 i0 (.agg #[.int .i64 0, .int .i64 0, .slice none 0 0]) 3 40 Tryz.underlying23 hi hz0 hz1 hz2 rfl (by decide) _ ((rs ++ [(⟨1, at9, [(at9 : Int)]⟩ : Rule)]).length) _ rfl ((H1.out.ru.alloc _).alloc _) ⟨W1.heap.size + 1, 0, none⟩ 1 1 [.int .i64 2, .int .i64 (at9 : Int), .slice (some ⟨W1.heap.size, 0, none⟩) 1 1] rfl rfl (cell_three_at _ _ _ _ _ _ (by simp)) (fun u hu => by simp at hu; rcases hu with rfl | rfl | rfl <;> rfl) (by unfold maxLen; have := Hll.out; omega) (by have := Hll.out; omega) (by have := HS1.out; simp; omega) ?_; intro v2 w2 hown2 hgrow2 hnil2 hat2; obtain ⟨gn2, cn2, rfl⟩ := own_formL hown2; obtain ⟨hqF2, hq22⟩ := Haft1.out _ _ w2 hgrow2)
 (try simp only [Exit.inBlock, Exit.then])
 refine bodyPost_end (v := .tuple #[]) (by simp [results, Tryz.results89, go_sem]; try rfl) rfl ?_
 have hS1 := HS1.out
 have hb92 : Below W1.heap.size W1 ((W1.alloc (.cells #[.int .i64 (at9 : Int)] 3)).alloc (.cells #[.int .i64 2, .int .i64 (at9 : Int), .slice (some ⟨W1.heap.size, 0, none⟩) 1 1] 93)) := ext_trans (ext_alloc _ _) (ext_alloc _ _)
 have hp2 := (H1.out.ext hb92).pushRg (r := ⟨2, at9, [(at9 : Int)]⟩) (u := .slice (some ⟨W1.heap.size, 0, none⟩) 1 1) ((World.ownsRow_lit W1 #[.int .i64 (at9 : Int)] 1 (by omega) (by unfold maxLen; omega) rfl).alloc _) (.inr fun e => absurd (H1.out.fa.lt _ e.symm).2 (Nat.lt_irrefl _)) hgrow2 hown2
 have hsz2 : W1.heap.size ≤ w2.heap.size := Nat.le_trans hb92.size hgrow2.size
 have hk2 : ∀ g, g < W1.heap.size → (Value.slice (some ⟨gn1, 0, none⟩) (rs.length + 1) cn1).ownBlock ≠ some g → w2.heap[g]? = W1.heap[g]? := fun g h1 h3 => (hgrow2.block g (Nat.lt_of_lt_of_le h1 hb92.size) (fun e => h3 e.symm)).trans (hb92.block g h1)
 have hv2 : ∀ g, Value.ownBlock (.slice (some ⟨gn2, 0, none⟩) ((rs ++ [(⟨1, at9, [(at9 : Int)]⟩ : Rule)]).length + 1) cn2) = some g → (Value.slice (some ⟨gn1, 0, none⟩) (rs.length + 1) cn1).ownBlock = some g ∨ W1.heap.size ≤ g := fun g hg => by
  rcases hat2 with e | e
  ·exact .inl (e ▸ hg)
  ·right; have e9 : some g = some _ := hg.symm.trans e; injection e9 with e9; have := hb92.size; omega
 have hS1 := HS1.out
 rw [Hll.out] at hp2 hv2
 refine Fin HQ ⟨rfl, ⟨_, _, _, hp2, fun g hg => ?_, fun g hg => .inl hg⟩, ⟨hgrow2.os.trans Hos.out.1, hgrow2.tape.trans Hos.out.2.1, hgrow2.output.trans Hos.out.2.2, by rw [World.size_setCell]; omega⟩, fun g h1 h2 h3 h4 => ?_⟩
 ·rcases hv2 g hg with e | e
  ·exact Hv1.out g e
  ·exact .inr (by omega)
 ·rw [heap_setCell_other _ _ _ _ h2]
  refine (hk2 g (by omega) fun e => ?_).trans (Hk9.out g h1 h2 h3)
  rcases Hv1.out g e with e | e
  ·exact h3 e
  ·omega
end Go.Proofs.Lx
