/- Region 11 of NaiveLoops: a rule goes onto the ring's rules. A theorem of its own. -/
import Derived.Test.YtalhpldbhogadaaKg
import Derived.Test.YtalhpldbhogadaaNr
namespace Go.Proofs.Lx
open Go Go.RowKit
set_option linter.unusedSimpArgs false
set_option linter.unusedVariables false

noncomputable def loopR11 : Code := blkS (fstS (sndS (loopS (blkS (sndS (fstS (sndS (sndS (sndS (sndS (sndS (sndS ((Try.f5.body).getD .skip)))))))))))))

set_option maxRecDepth 1000000 in
set_option maxHeartbeats 60000000 in
theorem loops_R11 (w0 wr : World) (n b gF gB k : Nat) (v : Value) (cs : List Value) (hrg : RG w0 wr n b gF gB v k cs) (hlt : k < n) (hn : n ≤ 50) (K : Act → World → Prop) (Q' : Exit → Act → World → Prop)
    (u1 u2 u5 u6 u7 u8 u9 u10 u11 u12 u13 u14 u15 u16 u17 u18 u19 u20 u21 u22 u23 u24 u25 u26 u27 u28 u29 u30 u31 u32 u33 u34 u35 u36 u37 u38 u39 u40 u41 u42 u43 u44 u45 u46 u47 u48 u49 u50 u51 u52 u53 u54 u55 u56 u57 u58 u59 u60 u61 u62 u63 u64 u65 u66 u67 u68 u69 u70 u71 u72 u73 u74 u75 u76 u77 u78 u79 u80 u81 u82 u83 u84 u85 u86 u87 u88 u89 u90 u91 u92 u93 u94 u95 u96 u97 u98 u99 u100 u101 : Value)
    (hK : ∀ (x31 x32 x33 x34 x35 x36 x37 x38 x39 x40 x41 x42 : Value) (wy : World) (v' : Value) (cs' : List Value), RG w0 wy n b gF gB v' (k + 1) cs' → K ⟨#[.int .i64 (n : Int), u1, u2, .pointer (some ⟨b, 0, none⟩), .int .i64 (k : Int), u5, u6, u7, u8, u9, u10, u11, u12, u13, u14, u15, u16, u17, u18, u19, u20, u21, u22, u23, u24, u25, u26, u27, u28, u29, u30, x31, x32, x33, x34, x35, x36, x37, x38, x39, x40, x41, x42, u43, u44, u45, u46, u47, u48, u49, u50, u51, u52, u53, u54, u55, u56, u57, u58, u59, u60, u61, u62, u63, u64, u65, u66, u67, u68, u69, u70, u71, u72, u73, u74, u75, u76, u77, u78, u79, u80, u81, u82, u83, u84, u85, u86, u87, u88, u89, u90, u91, u92, u93, u94, u95, u96, u97, u98, u99, u100, u101], []⟩ wy) :
    Code.wp Try.prog loopR11 (Exit.inBlock 1 (Exit.then K Q')) ⟨#[.int .i64 (n : Int), u1, u2, .pointer (some ⟨b, 0, none⟩), .int .i64 (k : Int), u5, u6, u7, u8, u9, u10, u11, u12, u13, u14, u15, u16, u17, u18, u19, u20, u21, u22, u23, u24, u25, u26, u27, u28, u29, u30, u31, u32, u33, u34, u35, u36, u37, u38, u39, u40, u41, u42, u43, u44, u45, u46, u47, u48, u49, u50, u51, u52, u53, u54, u55, u56, u57, u58, u59, u60, u61, u62, u63, u64, u65, u66, u67, u68, u69, u70, u71, u72, u73, u74, u75, u76, u77, u78, u79, u80, u81, u82, u83, u84, u85, u86, u87, u88, u89, u90, u91, u92, u93, u94, u95, u96, u97, u98, u99, u100, u101], []⟩ wr := by
  have HK := hid hK
  have Hrg := hid hrg
  have Hlt := hid hlt
  clear hK
  conv => arg 2; whnf
  have hc2 : wr.cell? ⟨b, 2, none⟩ = some v := by rw [cell_of_row wr b 2 _ _ _ hrg.box]; rfl
  have hfr := frozen_of_row wr b 2 _ _ hrg.box
  have hbl := lt_of_block hrg.box
  have hmod : ((k : Int) + 1).tmod (n : Int) = (((k : Int) + 1) % (n : Int)) := by
    rw [Int.tmod_eq_emod_of_nonneg (by omega)]
  have hn0 : ¬ n = 0 := by omega
  have hwr : IntKind.i64.wrap ((k : Int) + 1) = (k : Int) + 1 := by
    simp [IntKind.wrap, IntKind.bits, IntKind.signed]; omega
  have Hnew : Hid (∀ cA, ∀ j u, [Value.int .i64 2, Value.int .i64 (((k : Int) + 1) % (n : Int)), Value.slice (some ⟨wr.heap.size, 0, none⟩) 1 1][j]? = some u → (((wr.alloc (.cells cA 3)).alloc (.cells #[.int .i64 2, .int .i64 (((k : Int) + 1) % (n : Int)), .slice (some ⟨wr.heap.size, 0, none⟩) 1 1] 37)).drew).cell? ((⟨wr.heap.size + 1, 0, none⟩ : Addr).add j) = some u) := by
    refine hid fun cA j u hu => ?_
    have hb9 : (((wr.alloc (.cells cA 3)).alloc (.cells #[.int .i64 2, .int .i64 (((k : Int) + 1) % (n : Int)), .slice (some ⟨wr.heap.size, 0, none⟩) 1 1] 37)).drew).heap[wr.heap.size + 1]? = some (.cells #[.int .i64 2, .int .i64 (((k : Int) + 1) % (n : Int)), .slice (some ⟨wr.heap.size, 0, none⟩) 1 1] 37 (0, 0)) := by
      have := heap_alloc_new (wr.alloc (.cells cA 3)) (.cells #[.int .i64 2, .int .i64 (((k : Int) + 1) % (n : Int)), .slice (some ⟨wr.heap.size, 0, none⟩) 1 1] 37)
      rw [World.size_alloc] at this; exact this
    rw [add_plain, cell_of_row _ _ j _ _ _ hb9]
    simpa using hu
  have Haft : Hid (∀ (cA cC : Array Value) (w' : World), (((wr.alloc (.cells cA 3)).alloc (.cells cC 37)).drew).grownBy w' v.ownBlock → w'.cell? ⟨b, 2, none⟩ = some v ∧ w'.frozen? ⟨b, 2, none⟩ = false) := by
    refine hid fun cA cC w' hg => ?_
    have h9 := (hrg.blocks2 hg b hbl (by have := hrg.ne; omega)).trans hrg.box
    exact ⟨by rw [cell_of_row w' b 2 _ _ _ h9]; rfl, frozen_of_row w' b 2 _ _ h9⟩
  clear hrg
  refine wp_region_noPanic ?_
  refine wp_region_held_drew (S := fun _ => True) (by kernel_rfl) trivial (fun hHeld => ?_)
  refine wpAnyH_take (i := 0) (v := ?v1) rfl (by kernel_rfl) (by kernel_rfl) (by kernel_rfl) (fun _ _ _ h => h) (Or.inl ⟨by rfl, ?hy1⟩) (by assumption) ?rest1
  case hy1 => (intro w hSw; (try dsimp only at hSw); go_simp) <;> try with_reducible rfl
  simp only [Act.put, List.setIfInBounds_toArray, List.set_cons_zero, List.set_cons_succ]
  refine wpAnyH_take (i := 2) (v := ?v2) rfl (by kernel_rfl) (by kernel_rfl) (by kernel_rfl) (fun _ _ _ h => h) (Or.inl ⟨by rfl, ?hy2⟩) (by assumption) ?rest2
  case hy2 => (intro w hSw; (try dsimp only at hSw); go_simp) <;> try with_reducible rfl
  simp only [Act.put, List.setIfInBounds_toArray, List.set_cons_zero, List.set_cons_succ]
  refine wpAnyH_take (i := 3) (v := ?v3) rfl (by kernel_rfl) (by kernel_rfl) (by kernel_rfl) (fun _ _ _ h => h) (Or.inl ⟨by rfl, ?hy3⟩) (by assumption) ?rest3
  case hy3 => (intro w hSw; (try dsimp only at hSw); go_simp) <;> try with_reducible rfl
  simp only [Act.put, List.setIfInBounds_toArray, List.set_cons_zero, List.set_cons_succ]
  refine wpAnyH_take (i := 4) (v := ?v4) rfl (by kernel_rfl) (by kernel_rfl) (by kernel_rfl) (fun _ _ _ h => h) (Or.inl ⟨by rfl, ?hy4⟩) (by assumption) ?rest4
  case hy4 => (intro w hSw; (try dsimp only at hSw); go_simp) <;> try with_reducible rfl
  simp only [Act.put, List.setIfInBounds_toArray, List.set_cons_zero, List.set_cons_succ]
  refine wpAnyH_take (i := 5) (v := ?v5) rfl (by kernel_rfl) (by kernel_rfl) (by kernel_rfl) (fun _ _ _ h => h) (Or.inl ⟨by rfl, ?hy5⟩) (by assumption) ?rest5
  case hy5 => (intro w hSw; (try dsimp only at hSw); go_simp) <;> try with_reducible rfl
  simp only [Act.put, List.setIfInBounds_toArray, List.set_cons_zero, List.set_cons_succ]
  refine wpAnyH_take (i := 6) (v := ?v6) rfl (by kernel_rfl) (by kernel_rfl) (by kernel_rfl) (fun _ _ _ h => h) (Or.inl ⟨by rfl, ?hy6⟩) (by assumption) ?rest6
  case hy6 => (intro w hSw; (try dsimp only at hSw); go_simp) <;> try with_reducible rfl
  simp only [Act.put, List.setIfInBounds_toArray, List.set_cons_zero, List.set_cons_succ]
  refine wpAnyH_ready (rs := [1, 7]) (by kernel_rfl) (by simp) ?_
  refine AllReadyH.cons rfl (fun K9 hK9 => ?_) (AllReadyH.cons rfl (fun K9 hK9 => ?_) AllReadyH.nil)
  · go_simp
    refine hK9.out _ _ trivial (fun hHeld => ?_)
    clear hK9 K9
    try simp only [Act.put, List.setIfInBounds_toArray, List.set_cons_zero, List.set_cons_succ]
    refine wpAnyH_ready (rs := [7]) (by kernel_rfl) (by simp) ?_
    refine AllReadyH.cons rfl (fun K9 hK9 => ?_) AllReadyH.nil
    go_simp
    refine hK9.out _ _ trivial (fun hHeld => ?_)
    clear hK9 K9
    try simp only [Act.put, List.setIfInBounds_toArray, List.set_cons_zero, List.set_cons_succ]
    refine wpAnyH_take (i := 8) (v := ?v7) rfl (by kernel_rfl) (by kernel_rfl) (by kernel_rfl) (fun _ _ _ h => h) (Or.inl ⟨by rfl, ?hy7⟩) (by assumption) ?rest7
    case hy7 => (intro w hSw; (try dsimp only at hSw); go_simp) <;> try with_reducible rfl
    simp only [Act.put, List.setIfInBounds_toArray, List.set_cons_zero, List.set_cons_succ]
    refine wpAnyH_ready (rs := [9]) (by kernel_rfl) (by simp) ?_
    refine AllReadyH.cons rfl (fun K9 hK9 => ?_) AllReadyH.nil
    go_simp
    refine hK9.out _ _ trivial (fun hHeld => ?_)
    clear hK9 K9
    try simp only [Act.put, List.setIfInBounds_toArray, List.set_cons_zero, List.set_cons_succ]
    refine wpAnyH_ready (rs := [10]) (by kernel_rfl) (by simp) ?_
    refine AllReadyH.cons rfl (fun K9 hK9 => ?_) AllReadyH.nil
    (refine step_append3 rfl (.tmp 32) (.tmp 40) 23 rfl (w0.heap.size + 3) 37 _ 40 Try.underlying23 infoR rfl v k cs rfl (Hrg.out.own2 _ _) ⟨wr.heap.size + 1, 0, none⟩ (.int .i64 2) (.int .i64 (((k : Int) + 1) % (n : Int))) (.slice (some ⟨wr.heap.size, 0, none⟩) 1 1) rfl (Hnew.out _) (by intro u hu; simp at hu; rcases hu with rfl | rfl | rfl <;> rfl) (by unfold maxLen; omega) (by omega) (by have := Hrg.out.sz; simp [World.drew]; omega) ?_; intro v' w' hown hgrow hat; obtain ⟨gn, cn, rfl⟩ := own_form3 hown; obtain ⟨hq2, hqF⟩ := Haft.out _ _ w' hgrow)
    refine hK9.out _ _ trivial (fun hHeld => ?_)
    clear hK9 K9
    try simp only [Act.put, List.setIfInBounds_toArray, List.set_cons_zero, List.set_cons_succ]
    refine wpAnyH_take (i := 11) (v := ?v8) rfl (by kernel_rfl) (by kernel_rfl) (by kernel_rfl) (fun _ _ _ h => h) (Or.inl ⟨by rfl, ?hy8⟩) (by assumption) ?rest8
    case hy8 => (intro w hSw; (try dsimp only at hSw); go_simp) <;> try with_reducible rfl
    simp only [Act.put, List.setIfInBounds_toArray, List.set_cons_zero, List.set_cons_succ]
    refine wpAnyH_ready (rs := [12]) (by kernel_rfl) (by simp) ?_
    refine AllReadyH.cons rfl (fun K9 hK9 => ?_) AllReadyH.nil
    go_simp
    refine hK9.out _ _ trivial (fun hHeld => ?_)
    clear hK9 K9
    try simp only [Act.put, List.setIfInBounds_toArray, List.set_cons_zero, List.set_cons_succ]
    refine wpAnyH_done (by kernel_rfl) (NoPanic.normal ?_) _
    clear hq2 hqF hc2 hfr
    go_wp2_with fail
    exact HK.out _ _ _ _ _ _ _ _ _ _ _ _ _ _ _ (Hrg.out.append Hlt.out hown hgrow hat (by simp [World.drew]))
  · go_simp
    refine hK9.out _ _ trivial (fun hHeld => ?_)
    clear hK9 K9
    try simp only [Act.put, List.setIfInBounds_toArray, List.set_cons_zero, List.set_cons_succ]
    refine wpAnyH_take (i := 8) (v := ?v9) rfl (by kernel_rfl) (by kernel_rfl) (by kernel_rfl) (fun _ _ _ h => h) (Or.inl ⟨by rfl, ?hy9⟩) (by assumption) ?rest9
    case hy9 => (intro w hSw; (try dsimp only at hSw); go_simp) <;> try with_reducible rfl
    simp only [Act.put, List.setIfInBounds_toArray, List.set_cons_zero, List.set_cons_succ]
    refine wpAnyH_ready (rs := [1, 9]) (by kernel_rfl) (by simp) ?_
    refine AllReadyH.cons rfl (fun K9 hK9 => ?_) (AllReadyH.cons rfl (fun K9 hK9 => ?_) AllReadyH.nil)
    · go_simp
      refine hK9.out _ _ trivial (fun hHeld => ?_)
      clear hK9 K9
      try simp only [Act.put, List.setIfInBounds_toArray, List.set_cons_zero, List.set_cons_succ]
      refine wpAnyH_ready (rs := [9]) (by kernel_rfl) (by simp) ?_
      refine AllReadyH.cons rfl (fun K9 hK9 => ?_) AllReadyH.nil
      go_simp
      refine hK9.out _ _ trivial (fun hHeld => ?_)
      clear hK9 K9
      try simp only [Act.put, List.setIfInBounds_toArray, List.set_cons_zero, List.set_cons_succ]
      refine wpAnyH_ready (rs := [10]) (by kernel_rfl) (by simp) ?_
      refine AllReadyH.cons rfl (fun K9 hK9 => ?_) AllReadyH.nil
      (refine step_append3 rfl (.tmp 32) (.tmp 40) 23 rfl (w0.heap.size + 3) 37 _ 40 Try.underlying23 infoR rfl v k cs rfl (Hrg.out.own2 _ _) ⟨wr.heap.size + 1, 0, none⟩ (.int .i64 2) (.int .i64 (((k : Int) + 1) % (n : Int))) (.slice (some ⟨wr.heap.size, 0, none⟩) 1 1) rfl (Hnew.out _) (by intro u hu; simp at hu; rcases hu with rfl | rfl | rfl <;> rfl) (by unfold maxLen; omega) (by omega) (by have := Hrg.out.sz; simp [World.drew]; omega) ?_; intro v' w' hown hgrow hat; obtain ⟨gn, cn, rfl⟩ := own_form3 hown; obtain ⟨hq2, hqF⟩ := Haft.out _ _ w' hgrow)
      refine hK9.out _ _ trivial (fun hHeld => ?_)
      clear hK9 K9
      try simp only [Act.put, List.setIfInBounds_toArray, List.set_cons_zero, List.set_cons_succ]
      refine wpAnyH_take (i := 11) (v := ?v10) rfl (by kernel_rfl) (by kernel_rfl) (by kernel_rfl) (fun _ _ _ h => h) (Or.inl ⟨by rfl, ?hy10⟩) (by assumption) ?rest10
      case hy10 => (intro w hSw; (try dsimp only at hSw); go_simp) <;> try with_reducible rfl
      simp only [Act.put, List.setIfInBounds_toArray, List.set_cons_zero, List.set_cons_succ]
      refine wpAnyH_ready (rs := [12]) (by kernel_rfl) (by simp) ?_
      refine AllReadyH.cons rfl (fun K9 hK9 => ?_) AllReadyH.nil
      go_simp
      refine hK9.out _ _ trivial (fun hHeld => ?_)
      clear hK9 K9
      try simp only [Act.put, List.setIfInBounds_toArray, List.set_cons_zero, List.set_cons_succ]
      refine wpAnyH_done (by kernel_rfl) (NoPanic.normal ?_) _
      clear hq2 hqF hc2 hfr
      go_wp2_with fail
      exact HK.out _ _ _ _ _ _ _ _ _ _ _ _ _ _ _ (Hrg.out.append Hlt.out hown hgrow hat (by simp [World.drew]))
    · go_simp
      refine hK9.out _ _ trivial (fun hHeld => ?_)
      clear hK9 K9
      try simp only [Act.put, List.setIfInBounds_toArray, List.set_cons_zero, List.set_cons_succ]
      refine wpAnyH_ready (rs := [1]) (by kernel_rfl) (by simp) ?_
      refine AllReadyH.cons rfl (fun K9 hK9 => ?_) AllReadyH.nil
      go_simp
      refine hK9.out _ _ trivial (fun hHeld => ?_)
      clear hK9 K9
      try simp only [Act.put, List.setIfInBounds_toArray, List.set_cons_zero, List.set_cons_succ]
      refine wpAnyH_ready (rs := [10]) (by kernel_rfl) (by simp) ?_
      refine AllReadyH.cons rfl (fun K9 hK9 => ?_) AllReadyH.nil
      (refine step_append3 rfl (.tmp 32) (.tmp 40) 23 rfl (w0.heap.size + 3) 37 _ 40 Try.underlying23 infoR rfl v k cs rfl (Hrg.out.own2 _ _) ⟨wr.heap.size + 1, 0, none⟩ (.int .i64 2) (.int .i64 (((k : Int) + 1) % (n : Int))) (.slice (some ⟨wr.heap.size, 0, none⟩) 1 1) rfl (Hnew.out _) (by intro u hu; simp at hu; rcases hu with rfl | rfl | rfl <;> rfl) (by unfold maxLen; omega) (by omega) (by have := Hrg.out.sz; simp [World.drew]; omega) ?_; intro v' w' hown hgrow hat; obtain ⟨gn, cn, rfl⟩ := own_form3 hown; obtain ⟨hq2, hqF⟩ := Haft.out _ _ w' hgrow)
      refine hK9.out _ _ trivial (fun hHeld => ?_)
      clear hK9 K9
      try simp only [Act.put, List.setIfInBounds_toArray, List.set_cons_zero, List.set_cons_succ]
      refine wpAnyH_take (i := 11) (v := ?v11) rfl (by kernel_rfl) (by kernel_rfl) (by kernel_rfl) (fun _ _ _ h => h) (Or.inl ⟨by rfl, ?hy11⟩) (by assumption) ?rest11
      case hy11 => (intro w hSw; (try dsimp only at hSw); go_simp) <;> try with_reducible rfl
      simp only [Act.put, List.setIfInBounds_toArray, List.set_cons_zero, List.set_cons_succ]
      refine wpAnyH_ready (rs := [12]) (by kernel_rfl) (by simp) ?_
      refine AllReadyH.cons rfl (fun K9 hK9 => ?_) AllReadyH.nil
      go_simp
      refine hK9.out _ _ trivial (fun hHeld => ?_)
      clear hK9 K9
      try simp only [Act.put, List.setIfInBounds_toArray, List.set_cons_zero, List.set_cons_succ]
      refine wpAnyH_done (by kernel_rfl) (NoPanic.normal ?_) _
      clear hq2 hqF hc2 hfr
      go_wp2_with fail
      exact HK.out _ _ _ _ _ _ _ _ _ _ _ _ _ _ _ (Hrg.out.append Hlt.out hown hgrow hat (by simp [World.drew]))
end Go.Proofs.Lx
