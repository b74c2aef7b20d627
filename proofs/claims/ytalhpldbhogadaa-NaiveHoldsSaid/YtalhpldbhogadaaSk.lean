/- Contracts of naive.Holds and of the reference's Holds (layer 15). Printed by gen_sk.py. -/
import Derived.Test.YtalhpldbhogadaaSj
import Derived.Test.YtalhpldbhogadaaNh
namespace Go.Proofs.Lx
open Go Go.RowKit
set_option linter.unusedSimpArgs false
set_option linter.unusedVariables false

/-- The error that Holds answers. -/
noncomputable def holdsErr (T : Th) (l : List Int) (n : Nat) (tag q : Int) : Int := if markedErr T l n = 0 then (if tag < 1 ∨ 4 < tag ∨ q < 0 ∨ T.lits ≤ q then 1 else 0) else markedErr T l n
/-- What it answers. -/
noncomputable def holdsV (T : Th) (l : List Int) (M : List Nat) (tag q : Int) : Bool :=
  if markedErr T l M.length = 0 then (if tag < 1 ∨ 4 < tag ∨ q < 0 ∨ T.lits ≤ q then false else cnd T (factsB T.foes.length l) (rulesRows T.rules T.foes.length T.rules.length) M (tag - 1).toNat q) else false
/-- The answer of Holds. -/
def HoldsPost (w : World) (T : Th) (l : List Int) (M : List Nat) (tag q : Int) (r : Value) (w' : World) : Prop := r = .tuple #[.bool (holdsV T l M tag q), .int .i64 (holdsErr T l M.length tag q)] ∧ Below w.heap.size w w'

set_option maxRecDepth 100000 in
set_option maxHeartbeats 3200000 in
theorem rholds_any (w : World) (V vl vm : Value) (T : Th) (l : List Int) (M : List Nat) (tag q : Int) (hT : RdTh w V T) (hl : RdI w vl l) (hm : RdMk w vm M) (h8 : ∀ x ∈ M, x < 256) :
    Calls Try.prog 27 #[V, vl, vm, .int .i64 tag, .int .i64 q] w (Ret (HoldsPost w T l M tag q)) := by
  have HT := hid hT
  have Hm := hid hm
  have H8 := hid h8
  obtain ⟨vF, vR, vB, rfl, hF, hR, hB⟩ := hT
  obtain ⟨AM, cM, hvm, _⟩ := id hm
  have hbel := ext_alloc w (.cells #[.int .i64 T.lits, vF, vR, vB] 25)
  have hch := given15_any (w.alloc (.cells #[.int .i64 T.lits, vF, vR, vB] 25)) _ vl T l (HT.out.ext hbel) (hl.ext (scR_mono _) hbel)
  obtain ⟨c, Hc⟩ : ∃ c, Hid (givenErr T l = c) := ⟨_, hid rfl⟩
  rw [Hc.out] at hch
  have Hpost : Hid (∀ w', Below w.heap.size w w' → (c ≠ 0 → HoldsPost w T l M tag q (.tuple #[.bool false, .int .i64 c]) w') ∧ (c = 0 → ((M.length : Int) ≠ T.lits → HoldsPost w T l M tag q (.tuple #[.bool false, .int .i64 3]) w') ∧
     ((M.length : Int) = T.lits → (tag < 1 ∨ 4 < tag ∨ q < 0 ∨ T.lits ≤ q) → HoldsPost w T l M tag q (.tuple #[.bool false, .int .i64 1]) w') ∧
     ((M.length : Int) = T.lits → ¬ (tag < 1 ∨ 4 < tag ∨ q < 0 ∨ T.lits ≤ q) → HoldsPost w T l M tag q (.tuple #[.bool (cnd T (factsB T.foes.length l) (rulesRows T.rules T.foes.length T.rules.length) M (tag - 1).toNat q), .int .i64 0]) w'))) := hid fun w' hb => by
    refine ⟨fun h => ⟨?_, hb⟩, fun h => ⟨fun h2 => ⟨?_, hb⟩, fun h2 h3 => ⟨?_, hb⟩, fun h2 h3 => ⟨?_, hb⟩⟩⟩
    · have e : markedErr T l M.length = c := by rw [markedErr, Hc.out, if_neg h]
      rw [holdsV, holdsErr, e, if_neg h, if_neg h]
    · have e : markedErr T l M.length = 3 := by rw [markedErr, Hc.out, if_pos h, if_neg h2]
      rw [holdsV, holdsErr, e, if_neg (by decide), if_neg (by decide)]
    · have e : markedErr T l M.length = 0 := by rw [markedErr, Hc.out, if_pos h, if_pos h2]
      rw [holdsV, holdsErr, e, if_pos rfl, if_pos rfl, if_pos h3, if_pos h3]
    · have e : markedErr T l M.length = 0 := by rw [markedErr, Hc.out, if_pos h, if_pos h2]
      rw [holdsV, holdsErr, e, if_pos rfl, if_pos rfl, if_neg h3, if_neg h3]
  have Hch := hid hch
  have Hl := hid hl
  clear hch hF hR hB hm h8 hl
  subst hvm
  refine post_gen fun Q HQ => ?_
  go_enter Try.func27, Try.ntmps27
  go_wp2_with fail
  refine Hch.out.mono ?_
  rintro e w2 ⟨_, rfl, rfl, hb2'⟩
  obtain ⟨b0, b1, b2, b3⟩ := box4 hb2'
  have hb2 := ext_trans hbel hb2'
  clear hb2' hbel Hch
  by_cases h : c = 0
  case neg =>
    have hne : (c != 0) = true := by simp [h]
    go_wp2_with fail
    go_ret2
    exact Fin HQ ((Hpost.out w2 hb2).1 h)
  subst h
  by_cases hn : (M.length : Int) = T.lits
  case neg =>
    have hne : ((M.length : Int) != T.lits) = true := by simp [hn]
    have Hn := hid hn
    clear hn
    go_wp2_with fail
    go_ret2
    exact Fin HQ (((Hpost.out w2 hb2).2 (by simp)).1 Hn.out)
  have hne : ((M.length : Int) != T.lits) = false := by simp [hn]
  have Hn := hid hn
  clear hn
  have Hbad := hid (((Hpost.out w2 hb2).2 (by simp)).2.1 Hn.out)
  by_cases g1 : tag < 1
  · go_wp2_with fail
    go_ret2
    exact Fin HQ (Hbad.out (.inl g1))
  by_cases g2 : 4 < tag
  · go_wp2_with fail
    go_ret2
    exact Fin HQ (Hbad.out (.inr (.inl g2)))
  by_cases g3 : q < 0
  · go_wp2_with fail
    go_ret2
    exact Fin HQ (Hbad.out (.inr (.inr (.inl g3))))
  by_cases g4 : T.lits ≤ q
  · go_wp2_with fail
    go_ret2
    exact Fin HQ (Hbad.out (.inr (.inr (.inr g4))))
  have hwf := (givenErr_ok.1 Hc.out)
  have Hlen : Hid (M.length = T.foes.length) := hid (by have := Hn.out; have := hwf.1.fl; omega)
  have Hval := hid (nval hwf.1 l M Hlen.out H8.out)
  have Hnew := hid (newWorld15_any w2 _ vl T l (HT.out.ext hb2) hwf.1 (Hl.out.ext (scR_mono _) hb2))
  have hqf : q < (T.foes.length : Int) := by have := hwf.1.fl; omega
  obtain ⟨k, hk⟩ : ∃ k : Nat, tag = (k : Int) + 1 := ⟨(tag - 1).toNat, by omega⟩
  have Hk := hid hk
  have hk4 : k < 4 := by omega
  have Hkk : Hid ((tag - 1).toNat = k) := hid (by omega)
  clear hwf hk
  go_wp2_with fail
  refine Hnew.out.mono ?_
  rintro e w3 ⟨_, rfl, b, rfl, hnr, hb3⟩
  have hb4 := ext_trans hb2 hb3
  have Hr := hid (wholds15_any w3 b T l _ M _ hnr (Hm.out.ext (scR_mono _) hb4) Hval.out q (by omega) hqf tag k hk4 Hk.out)
  have Hfin : Hid (∀ m, HoldsPost w T l M tag q (.tuple #[.bool (cnd T (factsB T.foes.length l) (rulesRows T.rules T.foes.length T.rules.length) M k q), .int .i64 0]) (w3.drewN m)) := hid fun m => by
    have := ((Hpost.out (w3.drewN m) (ext_trans hb4 (ext_drewN _ _))).2 (by simp)).2.2 Hn.out (by omega)
    rwa [Hkk.out] at this
  clear hnr Hnew
  go_wp2_with fail
  refine Hr.out.mono ?_
  rintro e w5 ⟨rfl, m, rfl⟩
  go_wp2_with fail
  go_ret2
  exact Fin HQ (Hfin.out m)

set_option maxRecDepth 100000 in
set_option maxHeartbeats 6400000 in
theorem nholds_any (w : World) (V vl vm : Value) (T : Th) (l : List Int) (M : List Nat) (tag q : Int) (hT : RdTh w V T) (hl : RdI w vl l) (hm : RdMk w vm M) (h8 : ∀ x ∈ M, x < 256) :
    Calls Try.prog 26 #[V, vl, vm, .int .i64 tag, .int .i64 q] w (Ret (HoldsPost w T l M tag q)) := by
  have HT := hid hT
  have Hm := hid hm
  have H8 := hid h8
  obtain ⟨vF, vR, vB, rfl, hF, hR, hB⟩ := hT
  have hbel := ext_alloc w (.cells #[.int .i64 T.lits, vF, vR, vB] 25)
  have hch := marked_any (w.alloc (.cells #[.int .i64 T.lits, vF, vR, vB] 25)) _ vl vm T l M (HT.out.ext hbel) (hl.ext (scR_mono _) hbel) (hm.ext (scR_mono _) hbel)
  obtain ⟨c, Hc⟩ : ∃ c, Hid (markedErr T l M.length = c) := ⟨_, hid rfl⟩
  rw [Hc.out] at hch
  have Hpost : Hid (∀ w', Below w.heap.size w w' → (c ≠ 0 → HoldsPost w T l M tag q (.tuple #[.bool false, .int .i64 c]) w') ∧ (c = 0 → 
     ((tag < 1 ∨ 4 < tag ∨ q < 0 ∨ T.lits ≤ q) → HoldsPost w T l M tag q (.tuple #[.bool false, .int .i64 1]) w') ∧
     (¬ (tag < 1 ∨ 4 < tag ∨ q < 0 ∨ T.lits ≤ q) → HoldsPost w T l M tag q (.tuple #[.bool (cnd T (factsB T.foes.length l) (rulesRows T.rules T.foes.length T.rules.length) M (tag - 1).toNat q), .int .i64 0]) w'))) := hid fun w' hb => by
    refine ⟨fun h => ⟨?_, hb⟩, fun h => ⟨fun h3 => ⟨?_, hb⟩, fun h3 => ⟨?_, hb⟩⟩⟩
    · rw [holdsV, holdsErr, Hc.out, if_neg h, if_neg h]
    · rw [holdsV, holdsErr, Hc.out, if_pos h, if_pos h, if_pos h3, if_pos h3]
    · rw [holdsV, holdsErr, Hc.out, if_pos h, if_pos h, if_neg h3, if_neg h3]
  have Hch := hid hch
  have Hl := hid hl
  clear hch hF hR hB hm h8 hl
  refine post_gen fun Q HQ => ?_
  go_enter Try.func26, Try.ntmps26
  go_wp2_with fail
  refine Hch.out.mono ?_
  rintro e w2 ⟨_, rfl, rfl, hb2'⟩
  obtain ⟨b0, b1, b2, b3⟩ := box4 hb2'
  have hb2 := ext_trans hbel hb2'
  clear hb2' hbel Hch
  by_cases h : c = 0
  case neg =>
    have hne : (c != 0) = true := by simp [h]
    go_wp2_with fail
    go_ret2
    exact Fin HQ ((Hpost.out w2 hb2).1 h)
  subst h
  have Hbad := hid (((Hpost.out w2 hb2).2 (by simp)).1)
  by_cases g1 : tag < 1
  · go_wp2_with fail
    go_ret2
    exact Fin HQ (Hbad.out (.inl g1))
  by_cases g2 : 4 < tag
  · go_wp2_with fail
    go_ret2
    exact Fin HQ (Hbad.out (.inr (.inl g2)))
  by_cases g3 : q < 0
  · go_wp2_with fail
    go_ret2
    exact Fin HQ (Hbad.out (.inr (.inr (.inl g3))))
  by_cases g4 : T.lits ≤ q
  · go_wp2_with fail
    go_ret2
    exact Fin HQ (Hbad.out (.inr (.inr (.inr g4))))
  obtain ⟨hok, hlm⟩ := markedErr_ok.1 Hc.out
  have hwf := (givenErr_ok.1 hok)
  have Hlen : Hid (M.length = T.foes.length) := hid (by have := hwf.1.fl; omega)
  have Hval := hid (nval hwf.1 l M Hlen.out H8.out)
  have hqf : q < (T.foes.length : Int) := by have := hwf.1.fl; omega
  have Hcon : Hid (∀ W, Below w2.heap.size w2 W → Calls Try.prog 60 #[] W (fun e w' => e = .returned cndV ∧ Below w2.heap.size w2 w' ∧ Below W.heap.size W w')) := hid fun W hW =>
    (conds_plain W).mono fun e w' ⟨v, he, hv, hb⟩ => ⟨by rw [he, hv], ext_trans hW hb, hb⟩
  have Hnew : Hid (∀ W, Below w2.heap.size w2 W → Calls Try.prog 58 #[.agg #[.int .i64 T.lits, vF, vR, vB], vl, vm] W (Ret fun r w' => ∃ b, r = .pointer (some ⟨b, 0, none⟩) ∧ NW w' b T (factsB T.foes.length l) (rulesRows T.rules T.foes.length T.rules.length) M ∧ Below w2.heap.size w2 w')) := hid fun W hW => by
    have hb := ext_trans hb2 hW
    refine (newWorld_any W _ vl vm T l M (HT.out.ext hb) hwf.1 (Hl.out.ext (scR_mono _) hb) hwf.2 (Hm.out.ext (scR_mono _) hb)).mono ?_
    rintro e w' ⟨_, rfl, b, rfl, _, h2, h3⟩
    exact ⟨_, rfl, b, rfl, h2.nw, ext_trans hW h3⟩
  have Hfin : Hid (∀ W, Below w2.heap.size w2 W → ∀ k : Nat, tag = (k : Int) + 1 → HoldsPost w T l M tag q (.tuple #[.bool (cnd T (factsB T.foes.length l) (rulesRows T.rules T.foes.length T.rules.length) M k q), .int .i64 0]) W) := hid fun W hW k hk => by
    have := ((Hpost.out W (ext_trans hb2 hW)).2 (by simp)).2 (by omega)
    rwa [show (tag - 1).toNat = k by omega] at this
  have hr2 := ext_refl w2
  have Hcells : Hid (∀ W, Below w2.heap.size w2 W → W.cell? ⟨w.heap.size, 0, none⟩ = some (.int .i64 T.lits) ∧ W.cell? ⟨w.heap.size, 1, none⟩ = some vF ∧ W.cell? ⟨w.heap.size, 2, none⟩ = some vR ∧ W.cell? ⟨w.heap.size, 3, none⟩ = some vB) := hid fun W h => ⟨cell_ext h b0, cell_ext h b1, cell_ext h b2, cell_ext h b3⟩
  clear hok hlm hwf Hpost Hbad hb2
  rcases (show tag = 1 ∨ tag = 2 ∨ tag = 3 ∨ tag = 4 by omega) with rfl | rfl | rfl | rfl
  · have hix : ∀ W : World, Sem.run Try.prog (Instr.index 94 cndV (.int .i64 0)) W = .ok (.func (.func 88) #[] #[]) W := cndIx 0 _ (by omega) rfl
    unfold cndV at hix Hcon
    have hwr : IntKind.i64.wrap 0 = 0 := by decide
    have Hcl : Hid (∀ W b, NW W b T (factsB T.foes.length l) (rulesRows T.rules T.foes.length T.rules.length) M → Below w2.heap.size w2 W → Calls Try.prog 88 #[.pointer (some ⟨b, 0, none⟩), .int .i64 q] W (Ret fun v w' => v = .bool (cnd T (factsB T.foes.length l) (rulesRows T.rules T.foes.length T.rules.length) M 0 q) ∧ Below w2.heap.size w2 w')) := hid fun W b hn hW =>
      (plusDelta_any W b T _ _ M hn Hval.out q (by omega) hqf).mono fun e w' ⟨v, he, hv, hb⟩ => ⟨v, he, hv, ext_trans hW hb⟩
    have HfinK := hid (fun W hW => Hfin.out W hW 0 (by omega))
    generalize cnd T (factsB T.foes.length l) (rulesRows T.rules T.foes.length T.rules.length) M 0 q = C at *
    clear Hfin
    go_wp2_with fail
    go_region_with (first
      | (go_at_call 60; refine (Hcon.out _ (by first | assumption | exact Below.drew (by assumption))).mono ?_; rintro e w7 ⟨rfl, hbc, hbc2⟩; obtain ⟨d0, d1, d2, d3⟩ := Hcells.out _ hbc)
      | (go_at_call 58; refine (Hnew.out _ (by first | assumption | exact Below.drew (by assumption))).mono ?_; rintro e w8 ⟨_, rfl, b, rfl, hnw, hbn⟩)
      | (go_at_call 88; refine (Hcl.out _ b (by first | exact hnw | exact hnw.ext (ext_refl _).drew | exact hnw.ext hbc2 | exact (hnw.ext hbc2).ext (ext_refl _).drew) (by first | assumption | exact Below.drew (by assumption))).mono ?_; rintro e w9 ⟨_, rfl, rfl, hbz⟩))
    all_goals
      go_wp2_with fail
      go_ret2
      first
        | exact Fin HQ (HfinK.out _ hbz)
        | exact Fin HQ (HfinK.out _ hbz.drew)
  · have hix : ∀ W : World, Sem.run Try.prog (Instr.index 94 cndV (.int .i64 1)) W = .ok (.func (.func 89) #[] #[]) W := cndIx 1 _ (by omega) rfl
    unfold cndV at hix Hcon
    have hwr : IntKind.i64.wrap 1 = 1 := by decide
    have Hcl : Hid (∀ W b, NW W b T (factsB T.foes.length l) (rulesRows T.rules T.foes.length T.rules.length) M → Below w2.heap.size w2 W → Calls Try.prog 89 #[.pointer (some ⟨b, 0, none⟩), .int .i64 q] W (Ret fun v w' => v = .bool (cnd T (factsB T.foes.length l) (rulesRows T.rules T.foes.length T.rules.length) M 1 q) ∧ Below w2.heap.size w2 w')) := hid fun W b hn hW =>
      (minusDelta_any W b T _ _ M hn Hval.out q (by omega) hqf).mono fun e w' ⟨v, he, hv, hb⟩ => ⟨v, he, hv, ext_trans hW hb⟩
    have HfinK := hid (fun W hW => Hfin.out W hW 1 (by omega))
    generalize cnd T (factsB T.foes.length l) (rulesRows T.rules T.foes.length T.rules.length) M 1 q = C at *
    clear Hfin
    go_wp2_with fail
    go_region_with (first
      | (go_at_call 60; refine (Hcon.out _ (by first | assumption | exact Below.drew (by assumption))).mono ?_; rintro e w7 ⟨rfl, hbc, hbc2⟩; obtain ⟨d0, d1, d2, d3⟩ := Hcells.out _ hbc)
      | (go_at_call 58; refine (Hnew.out _ (by first | assumption | exact Below.drew (by assumption))).mono ?_; rintro e w8 ⟨_, rfl, b, rfl, hnw, hbn⟩)
      | (go_at_call 89; refine (Hcl.out _ b (by first | exact hnw | exact hnw.ext (ext_refl _).drew | exact hnw.ext hbc2 | exact (hnw.ext hbc2).ext (ext_refl _).drew) (by first | assumption | exact Below.drew (by assumption))).mono ?_; rintro e w9 ⟨_, rfl, rfl, hbz⟩))
    all_goals
      go_wp2_with fail
      go_ret2
      first
        | exact Fin HQ (HfinK.out _ hbz)
        | exact Fin HQ (HfinK.out _ hbz.drew)
  · have hix : ∀ W : World, Sem.run Try.prog (Instr.index 94 cndV (.int .i64 2)) W = .ok (.func (.func 90) #[] #[]) W := cndIx 2 _ (by omega) rfl
    unfold cndV at hix Hcon
    have hwr : IntKind.i64.wrap 2 = 2 := by decide
    have Hcl : Hid (∀ W b, NW W b T (factsB T.foes.length l) (rulesRows T.rules T.foes.length T.rules.length) M → Below w2.heap.size w2 W → Calls Try.prog 90 #[.pointer (some ⟨b, 0, none⟩), .int .i64 q] W (Ret fun v w' => v = .bool (cnd T (factsB T.foes.length l) (rulesRows T.rules T.foes.length T.rules.length) M 2 q) ∧ Below w2.heap.size w2 w')) := hid fun W b hn hW =>
      (plusPartial_any W b T _ _ M hn Hval.out q (by omega) hqf).mono fun e w' ⟨v, he, hv, hb⟩ => ⟨v, he, hv, ext_trans hW hb⟩
    have HfinK := hid (fun W hW => Hfin.out W hW 2 (by omega))
    generalize cnd T (factsB T.foes.length l) (rulesRows T.rules T.foes.length T.rules.length) M 2 q = C at *
    clear Hfin
    go_wp2_with fail
    go_region_with (first
      | (go_at_call 60; refine (Hcon.out _ (by first | assumption | exact Below.drew (by assumption))).mono ?_; rintro e w7 ⟨rfl, hbc, hbc2⟩; obtain ⟨d0, d1, d2, d3⟩ := Hcells.out _ hbc)
      | (go_at_call 58; refine (Hnew.out _ (by first | assumption | exact Below.drew (by assumption))).mono ?_; rintro e w8 ⟨_, rfl, b, rfl, hnw, hbn⟩)
      | (go_at_call 90; refine (Hcl.out _ b (by first | exact hnw | exact hnw.ext (ext_refl _).drew | exact hnw.ext hbc2 | exact (hnw.ext hbc2).ext (ext_refl _).drew) (by first | assumption | exact Below.drew (by assumption))).mono ?_; rintro e w9 ⟨_, rfl, rfl, hbz⟩))
    all_goals
      go_wp2_with fail
      go_ret2
      first
        | exact Fin HQ (HfinK.out _ hbz)
        | exact Fin HQ (HfinK.out _ hbz.drew)
  · have hix : ∀ W : World, Sem.run Try.prog (Instr.index 94 cndV (.int .i64 3)) W = .ok (.func (.func 91) #[] #[]) W := cndIx 3 _ (by omega) rfl
    unfold cndV at hix Hcon
    have hwr : IntKind.i64.wrap 3 = 3 := by decide
    have Hcl : Hid (∀ W b, NW W b T (factsB T.foes.length l) (rulesRows T.rules T.foes.length T.rules.length) M → Below w2.heap.size w2 W → Calls Try.prog 91 #[.pointer (some ⟨b, 0, none⟩), .int .i64 q] W (Ret fun v w' => v = .bool (cnd T (factsB T.foes.length l) (rulesRows T.rules T.foes.length T.rules.length) M 3 q) ∧ Below w2.heap.size w2 w')) := hid fun W b hn hW =>
      (minusPartial_any W b T _ _ M hn Hval.out q (by omega) hqf).mono fun e w' ⟨v, he, hv, hb⟩ => ⟨v, he, hv, ext_trans hW hb⟩
    have HfinK := hid (fun W hW => Hfin.out W hW 3 (by omega))
    generalize cnd T (factsB T.foes.length l) (rulesRows T.rules T.foes.length T.rules.length) M 3 q = C at *
    clear Hfin
    go_wp2_with fail
    go_region_with (first
      | (go_at_call 60; refine (Hcon.out _ (by first | assumption | exact Below.drew (by assumption))).mono ?_; rintro e w7 ⟨rfl, hbc, hbc2⟩; obtain ⟨d0, d1, d2, d3⟩ := Hcells.out _ hbc)
      | (go_at_call 58; refine (Hnew.out _ (by first | assumption | exact Below.drew (by assumption))).mono ?_; rintro e w8 ⟨_, rfl, b, rfl, hnw, hbn⟩)
      | (go_at_call 91; refine (Hcl.out _ b (by first | exact hnw | exact hnw.ext (ext_refl _).drew | exact hnw.ext hbc2 | exact (hnw.ext hbc2).ext (ext_refl _).drew) (by first | assumption | exact Below.drew (by assumption))).mono ?_; rintro e w9 ⟨_, rfl, rfl, hbz⟩))
    all_goals
      go_wp2_with fail
      go_ret2
      first
        | exact Fin HQ (HfinK.out _ hbz)
        | exact Fin HQ (HfinK.out _ hbz.drew)
end Go.Proofs.Lx
