/- Parts of the proof: Ic, In, Id, Ie, Dy. Contracts of delta's Add and Drop. -/
import Derived.Test.YtbidjiopnddldaaGreatE23
import Derived.Test.YtbidjiopnddldaaGreatE15
import Derived.Test.YtbidjiopnddldaaGreatE13
import Derived.Test.YtbidjiopnddldaaGreatE14
namespace Go.Proofs.Lx
open Go Go.RowKit Go.Proofs.Tj
set_option linter.unusedVariables false
set_option linter.unusedSimpArgs false
/-- An engine has turned to other facts: what is told, the engine, all else. -/
def Turn (w w' : World) (x : Nat) (vM : Value) (T : Th) (G F o : List Int) (Ft : Nat → Prop) (v : Value) : Prop :=
 w'.ownsRow w.heap.size 60 3 v (chL (solveM T G) (solveM T F) (coneL T o)).length (chV (chL (solveM T G) (solveM T F) (coneL T o))) ∧
  EngD w' x vM T F (solveM T F) (coneL T o) (fun g => Ft g ∨ (w.heap.size ≤ g ∧ g < w'.heap.size)) ∧ Alt x vM w w'
theorem EngD.more {w : World} {x : Nat} {vM : Value} {T : Th} {F : List Int} {M : List Nat} {U : List Int} {Ft Ft2 : Nat → Prop} (h : EngD w x vM T F M U Ft) (h1 : ∀ g, Ft g → Ft2 g) (h2 : ∀ g, Ft2 g → g < w.heap.size) : EngD w x vM T F M U Ft2 := by
 obtain ⟨vF, vR, vB, vFa, vTo, k1, k2⟩ := h.ex
 exact ⟨⟨vF, vR, vB, vFa, vTo, k1, fun W hW => k2 W fun g hg => hW g (h1 g hg)⟩, h.own, h2, h1 _ h.fx, fun g hg => ⟨h1 _ (h.fm g hg).1, (h.fm g hg).2⟩, h.sm⟩
/-- Behind some steps that leave all as it was. -/
theorem turn_after {w w2 w' : World} {x bF : Nat} {vM vF v : Value} {T : Th} {G F o U : List Int} {Ft : Nat → Prop} (h0 : EngD w x vM T G (solveM T G) U Ft) (hb : Below w.heap.size w w2) (hF : w2.ownsRow w.heap.size 3 1 vF F.length (intsV F))
  (h : w'.ownsRow w2.heap.size 60 3 v (chL (solveM T G) (solveM T F) (coneL T o)).length (chV (chL (solveM T G) (solveM T F) (coneL T o))) ∧
   EngD w' x vM T F (solveM T F) (coneL T o) (fun g => Ft g ∨ vF.ownBlock = some g ∨ (w2.heap.size ≤ g ∧ g < w'.heap.size)) ∧ Alt x vM w2 w') : Turn w w' x vM T G F o Ft v := by
 obtain ⟨k1, k2, k3⟩ := h
 have hs := hb.size
 have hs3 := k3.sz
 refine ⟨own_lower k1 hs, k2.more (fun g hg => ?_) (fun g hg => ?_), ⟨k3.os.trans hb.os, k3.tape.trans hb.tape, k3.output.trans hb.output, by omega, fun k h1 h2 h3 => (k3.old k (by omega) h2 h3).trans (hb.block k h1)⟩⟩
 ·rcases hg with h9 | h9 | h9
  ·exact .inl h9
  ·have := hF.lt g h9; exact .inr (by omega)
  ·exact .inr (by omega)
 ·rcases hg with h9 | h9
  ·have := h0.ft g h9; omega
  ·exact h9.2
/-- A number more in a rising list; one less. -/
def addL (G : List Int) (q : Int) : List Int := G.take (ltCount G q) ++ q :: G.drop (ltCount G q)
def dropL (G : List Int) (q : Int) : List Int := G.take (ltCount G q) ++ G.drop (ltCount G q + 1)
theorem lt_split {q : Int} : ∀ {l : List Int}, l.Pairwise (· < ·) → (∀ x ∈ l.take (ltCount l q), x < q) ∧ (∀ x ∈ l.drop (ltCount l q), q ≤ x)
 | [], _ => by simp [ltCount]
 | a :: l, h => by
  obtain ⟨h1, h2⟩ := List.pairwise_cons.1 h
  obtain ⟨k1, k2⟩ := lt_split (q := q) h2
  unfold ltCount at k1 k2 ⊢
  by_cases ha : a < q
  ·rw [List.countP_cons_of_pos (by simpa using ha)]
   refine ⟨fun x hx => ?_, fun x hx => ?_⟩
   ·rw [List.take_succ_cons] at hx
    rcases List.mem_cons.1 hx with rfl | hx
    ·exact ha
    ·exact k1 x hx
   ·rw [List.drop_succ_cons] at hx
    exact k2 x hx
  ·have h0 : l.countP (fun x => decide (x < q)) = 0 := List.countP_eq_zero.2 fun x hx => by have := h1 x hx; simp; omega
   rw [List.countP_cons_of_neg (by simpa using ha), h0]
   refine ⟨fun x hx => by simp at hx, fun x hx => ?_⟩
   simp only [List.drop_zero] at hx
   rcases List.mem_cons.1 hx with rfl | hx
   ·omega
   ·have := h1 x hx; omega
theorem lt_le (G : List Int) (q : Int) : ltCount G q ≤ G.length := List.countP_le_length
theorem add_ris {G : List Int} {n q : Int} (hG : risB G n = true) (hq : 0 ≤ q ∧ q < n) (hn : q ∉ G) : risB (addL G q) n = true := by
 obtain ⟨k1, k2⟩ := lt_split (q := q) (risB_spec hG).2
 refine ris_put hG hq k1 fun x hx => ?_
 have h1 := k2 x hx
 have : x ≠ q := fun e => hn (e ▸ List.mem_of_mem_drop hx)
 omega
theorem mem_add {G : List Int} {q x : Int} : x ∈ addL G q ↔ x = q ∨ x ∈ G := mem_put
theorem drop_at {G : List Int} {n q : Int} (hG : risB G n = true) (hq : q ∈ G) : ∃ h : ltCount G q < G.length, G[ltCount G q] = q := by
 obtain ⟨k1, k2⟩ := lt_split (q := q) (risB_spec hG).2
 rw [← List.take_append_drop (ltCount G q) G, List.mem_append] at hq
 rcases hq with hq | hq
 ·have := k1 q hq; omega
 ·obtain ⟨j, hj, e⟩ := List.getElem_of_mem hq
  rw [List.length_drop] at hj
  have hl : ltCount G q < G.length := by omega
  refine ⟨hl, ?_⟩
  rw [List.getElem_drop] at e
  have h0 : q ≤ G[ltCount G q] := k2 _ (by
   rw [List.mem_iff_getElem]
   exact ⟨0, by rw [List.length_drop]; omega, by rw [List.getElem_drop]; simp⟩)
  rcases Nat.eq_zero_or_pos j with rfl | hj0
  ·simpa using e
  ·have := pw_lt (risB_spec hG).2 (i := ltCount G q) (j := ltCount G q + j) (by omega) (by omega)
   omega
theorem drop_ris {G : List Int} {n q : Int} (hG : risB G n = true) : risB (dropL G q) n = true := ris_cut hG
theorem mem_drop {G : List Int} {n q x : Int} (hG : risB G n = true) (hq : q ∈ G) : x ∈ dropL G q ↔ x ∈ G ∧ x ≠ q := by
 obtain ⟨h1, h2⟩ := drop_at hG hq
 exact mem_cut hG h1 h2
theorem addL_len (G : List Int) (q : Int) : (addL G q).length = G.length + 1 := by
 have := lt_le G q
 simp [addL]; omega
set_option maxRecDepth 100000 in
set_option maxHeartbeats 3200000 in
theorem addD_arg (w : World) (x : Nat) (vM : Value) (T : Th) (G : List Int) (M : List Nat) (U : List Int) (Ft : Nat → Prop) (h : EngD w x vM T G M U Ft) (q : Int) (hq : q < 0 ∨ T.lits ≤ q) :
  Calls Tryz.prog 14 #[.pointer (some ⟨x, 0, none⟩), .int .i64 q] w (Ret fun r w' => r = .tuple #[.slice none 0 0, .int .i64 1] ∧ w = w') := by
 obtain ⟨vF, vR, vB, vFa, vTo, ⟨c0, c1, c2, c3, c4, c5, c6, c7⟩, _⟩ := h.cells
 have Hu := hid (unmade_any w x c0)
 clear h
 refine post_gen fun Q HQ => ?_
 by_cases h0 : q < 0
 ·go_enter Tryz.func14, Tryz.ntmps14
  go_wp2_with (go_at_call 38; refine Hu.out.mono ?_; rintro e w1 ⟨_, rfl, rfl, rfl⟩)
  go_ret2
  exact Fin HQ ⟨rfl, rfl⟩
 ·have h1 : T.lits ≤ q := by omega
  go_enter Tryz.func14, Tryz.ntmps14
  go_wp2_with (go_at_call 38; refine Hu.out.mono ?_; rintro e w1 ⟨_, rfl, rfl, rfl⟩)
  go_ret2
  exact Fin HQ ⟨rfl, rfl⟩
set_option maxRecDepth 100000 in
set_option maxHeartbeats 3200000 in
theorem addD_fact (w : World) (x : Nat) (vM : Value) (T : Th) (G : List Int) (M : List Nat) (U : List Int) (Ft : Nat → Prop) (h : EngD w x vM T G M U Ft) (hG : risB G T.lits = true) (q : Int) (hq0 : 0 ≤ q) (hq1 : q < T.lits) (hm : q ∈ G) :
  Calls Tryz.prog 14 #[.pointer (some ⟨x, 0, none⟩), .int .i64 q] w (Ret fun r w' => r = .tuple #[.slice none 0 0, .int .i64 181] ∧ w = w') := by
 obtain ⟨vF, vR, vB, vFa, vTo, ⟨c0, c1, c2, c3, c4, c5, c6, c7⟩, _, hF, _⟩ := h.cells
 have Hu := hid (unmade_any w x c0)
 have Hb := hid (binarySearch_any w vFa G q hF (risB_spec hG).2)
 rw [memB_true.2 hm] at Hb
 have h1 : ¬ T.lits ≤ q := by omega
 have h0 : ¬ q < 0 := by omega
 clear h hG hm hF
 refine post_gen fun Q HQ => ?_
 go_enter Tryz.func14, Tryz.ntmps14
 go_wp2_with (first | (go_at_call 38; refine Hu.out.mono ?_; rintro e w1 ⟨_, rfl, rfl, rfl⟩) | (go_at_call 40; refine Hb.out.mono ?_; rintro e w1 ⟨_, rfl, rfl, hE⟩; have hE := hE.symm; subst hE))
 go_ret2
 exact Fin HQ ⟨rfl, rfl⟩
set_option maxRecDepth 100000 in
set_option maxHeartbeats 3200000 in
theorem addD_ok (w : World) (x : Nat) (vM : Value) (T : Th) (G U : List Int) (Ft : Nat → Prop) (h : EngD w x vM T G (solveM T G) U Ft) (hwf : WfTh T) (hG : risB G T.lits = true) (q : Int) (hq0 : 0 ≤ q) (hq1 : q < T.lits) (hm : q ∉ G) :
  Calls Tryz.prog 14 #[.pointer (some ⟨x, 0, none⟩), .int .i64 q] w (Ret fun r w' => ∃ v, r = .tuple #[v, .int .i64 0] ∧ Turn w w' x vM T G (addL G q) [q] Ft v) := by
 obtain ⟨vF, vR, vB, vFa, vTo, ⟨c0, c1, c2, c3, c4, c5, c6, c7⟩, _, hF, _⟩ := h.cells
 have Hu := hid (unmade_any w x c0)
 have Hb := hid (binarySearch_any w vFa G q hF (risB_spec hG).2)
 rw [memB_false.2 hm] at Hb
 have hGl : G.length ≤ 4096 := h.sm.2.1
 have Hc := hid (cloneI_any w vFa G hF (by omega))
 have h1 : ¬ T.lits ≤ q := by omega
 have h0 : ¬ q < 0 := by omega
 have hlt := lt_le G q
 have H := hid h
 have HG := hid hG
 have Hwf := hid hwf
 have Hm := hid hm
 have hfl := hwf.fl
 clear h hG hm hF hwf
 generalize hk : ltCount G q = k at *
 have Hk := hid hk
 clear hk
 refine post_gen fun Q HQ => ?_
 go_enter Tryz.func14, Tryz.ntmps14
 go_wp2_with (first | (go_at_call 38; refine Hu.out.mono ?_; rintro e w1 ⟨_, rfl, rfl, rfl⟩) | (go_at_call 40; refine Hb.out.mono ?_; rintro e w1 ⟨_, rfl, rfl, hE⟩; have hE := hE.symm; subst hE))
 refine Hc.out.mono ?_
 rintro e w1 ⟨v1, rfl, hown1, hb1⟩
 have Hown1 := hid hown1
 have Hb1 := hid hb1
 have hs1 := hb1.size
 clear hown1 hb1 Hc Hu Hb c0 c1 c2 c3 c4 c5 c6 c7
 obtain ⟨A1, cc1, rfl⟩ : ∃ A c, v1 = .slice A G.length c := own_form0 Hown1.out
 have hne : (Value.slice A1 G.length cc1).ownBlock ≠ some w1.heap.size := fun e => absurd (Hown1.out.lt _ e).2 (Nat.lt_irrefl _)
 have Hin := hid (insertI_any (w1.alloc (.cells #[.int .i64 q] 3)) w.heap.size _ G k q w1.heap.size (own_ext Hown1.out (ext_alloc _ _)) (heap_alloc_new w1 _) hne hlt (by omega) (Nat.le_trans hs1 (ext_alloc _ _).size))
 go_wp2_with fail
 refine Hin.out.mono ?_
 rintro e w2 ⟨v2, rfl, hown2, hg2⟩
 have hb2 : Below w.heap.size w w2 := below_grown (Hb1.out.alloc hs1 _) (Nat.le_trans hs1 (ext_alloc _ _).size) hg2 (fun g hg => (Hown1.out.lt g hg).1)
 have hFe : G.take k ++ q :: G.drop k = addL G q := by unfold addL; rw [Hk.out]
 rw [hFe] at hown2
 have hFl := addL_len G q
 have Hown2 := hid hown2
 have Hb2 := hid hb2
 have hs2 := hb2.size
 obtain ⟨A2, cc2, rfl⟩ : ∃ A c, v2 = .slice A (G.length + 1) c := own_form0 hown2
 clear hown2 hb2 hg2 Hin hne
 have hb3 : Below w.heap.size w (w2.alloc (.cells #[.int .i64 q] 3)) := Hb2.out.alloc hs2 _
 have Hb3 := hid hb3
 have hF3 : (w2.alloc (.cells #[.int .i64 q] 3)).ownsRow w.heap.size 3 1 (.slice A2 (G.length + 1) cc2) (addL G q).length (intsV (addL G q)) := by rw [hFl]; exact own_ext Hown2.out (ext_alloc _ _)
 have HF3 := hid hF3
 have hto : RdI (w2.alloc (.cells #[.int .i64 q] 3)) (.slice (some ⟨w2.heap.size, 0, none⟩) 1 1) [q] := own_rdI (World.ownsRow_lit w2 #[.int .i64 q] 1 (Nat.le_refl _) (by unfold maxLen; omega) rfl) (by simp)
 have Hbec := hid (becomeD_any (w2.alloc (.cells #[.int .i64 q] 3)) x vM (.slice A2 (G.length + 1) cc2) (.slice (some ⟨w2.heap.size, 0, none⟩) 1 1) T G (addL G q) [q] U Ft (H.out.ext hb3) Hwf.out (add_ris HG.out ⟨hq0, hq1⟩ Hm.out) w.heap.size hF3 hto (fun y hy => by simp at hy; subst hy; omega) (odd_one fun y hy => by rw [mem_add]; simp [hy]))
 clear hb3 hF3 hto
 go_wp2_with fail
 refine Hbec.out.mono ?_
 rintro e w4 ⟨v4, rfl, hpost⟩
 have Hpost := hid hpost
 clear hpost Hbec
 go_wp2_with fail
 go_ret2
 exact Fin HQ ⟨_, rfl, turn_after (bF := 0) H.out Hb3.out HF3.out Hpost.out⟩
end Go.Proofs.Lx

namespace Go.Proofs.Lx
open Go Go.RowKit Go.Proofs.Tj
set_option linter.unusedSimpArgs false
set_option linter.unusedVariables false
def exS : Th := ⟨3, [[], [], []], [⟨2, 1, [0]⟩], [[]]⟩
theorem exS_edge {y z : Nat} (h : z ∈ adjN (beatsAt exS) y) : False := by
 match y with
 | 0 => simp [adjN, beatsAt, exS] at h
 | y + 1 => simp [adjN, beatsAt, exS] at h
theorem exS_leads {x y : Nat} (h : Leads (adjN (beatsAt exS)) x y) : x = y := by
 induction h with
 | refl => rfl
 | step _ hz ih => exact (exS_edge hz).elim
theorem exS_wf : WfTh exS := by
 refine ⟨by decide, by decide, by decide, by decide +kernel, by decide, ?_, by decide +kernel, by decide, by decide +kernel, fun x y _ _ h1 h2 => exS_leads h1⟩
 exact List.all_eq_true.1 (by decide +kernel)
theorem exS_solve0 : solveM exS [] = [10, 10, 10] := by
 rw [← solve_eq (k := 6) (by decide +kernel) (by decide)]
 decide +kernel
theorem exS_solve1 : solveM exS [0] = [5, 6, 10] := by
 rw [← solve_eq (k := 6) (by decide +kernel) (by decide)]
 decide +kernel
theorem exS_in {q : Nat} (h : InCone exS [0] q) : q ≤ 1 := by
 induction h with
 | @base x hx => simp at hx; omega
 | @foe q f _ hf ih =>
  have : q = 0 ∨ q = 1 := by omega
  rcases this with rfl | rfl <;> simp [row, exS] at hf
 | @head i x h hi hb _ hh ih =>
  have : i = 0 := by simp [exS] at hi; omega
  subst this
  simp [exS] at hh
  omega
theorem exS_cone : coneL exS [0] = [0, 1] := by
 have h0 : InCone exS [0] 0 := .base (by simp)
 have h1 : InCone exS [0] 1 := .head (i := 0) (x := 0) (by decide) (by decide) h0 (by decide)
 have h2 : ¬ InCone exS [0] 2 := fun h => by have := exS_in h; omega
 unfold coneL pickL
 rw [show exS.foes.length = 3 from rfl]
 simp [List.range_succ, h0, h1, h2]
theorem exS_ch : chL (solveM exS []) (solveM exS [0]) (coneL exS [0]) = [(0, 10, 5), (1, 10, 6)] := by
 rw [exS_solve0, exS_solve1, exS_cone]
 decide
theorem exS_add : addL [] 0 = [0] := by decide
end Go.Proofs.Lx

namespace Go.Proofs.Lx
open Go Go.RowKit Go.Proofs.Tj
set_option linter.unusedVariables false
set_option linter.unusedSimpArgs false
set_option maxRecDepth 100000 in
set_option maxHeartbeats 3200000 in
theorem dropD_arg (w : World) (x : Nat) (vM : Value) (T : Th) (G : List Int) (M : List Nat) (U : List Int) (Ft : Nat → Prop) (h : EngD w x vM T G M U Ft) (q : Int) (hq : q < 0 ∨ T.lits ≤ q) :
  Calls Tryz.prog 16 #[.pointer (some ⟨x, 0, none⟩), .int .i64 q] w (Ret fun r w' => r = .tuple #[.slice none 0 0, .int .i64 1] ∧ w = w') := by
 obtain ⟨vF, vR, vB, vFa, vTo, ⟨c0, c1, c2, c3, c4, c5, c6, c7⟩, _⟩ := h.cells
 have Hu := hid (unmade_any w x c0)
 clear h
 refine post_gen fun Q HQ => ?_
 by_cases h0 : q < 0
 ·go_enter Tryz.func16, Tryz.ntmps16
  go_wp2_with (go_at_call 38; refine Hu.out.mono ?_; rintro e w1 ⟨_, rfl, rfl, rfl⟩)
  go_ret2
  exact Fin HQ ⟨rfl, rfl⟩
 ·have h1 : T.lits ≤ q := by omega
  go_enter Tryz.func16, Tryz.ntmps16
  go_wp2_with (go_at_call 38; refine Hu.out.mono ?_; rintro e w1 ⟨_, rfl, rfl, rfl⟩)
  go_ret2
  exact Fin HQ ⟨rfl, rfl⟩
set_option maxRecDepth 100000 in
set_option maxHeartbeats 3200000 in
theorem dropD_fact (w : World) (x : Nat) (vM : Value) (T : Th) (G : List Int) (M : List Nat) (U : List Int) (Ft : Nat → Prop) (h : EngD w x vM T G M U Ft) (hG : risB G T.lits = true) (q : Int) (hq0 : 0 ≤ q) (hq1 : q < T.lits) (hm : q ∉ G) :
  Calls Tryz.prog 16 #[.pointer (some ⟨x, 0, none⟩), .int .i64 q] w (Ret fun r w' => r = .tuple #[.slice none 0 0, .int .i64 181] ∧ w = w') := by
 obtain ⟨vF, vR, vB, vFa, vTo, ⟨c0, c1, c2, c3, c4, c5, c6, c7⟩, _, hF, _⟩ := h.cells
 have Hu := hid (unmade_any w x c0)
 have Hb := hid (binarySearch_any w vFa G q hF (risB_spec hG).2)
 rw [memB_false.2 hm] at Hb
 have h1 : ¬ T.lits ≤ q := by omega
 have h0 : ¬ q < 0 := by omega
 clear h hG hm hF
 refine post_gen fun Q HQ => ?_
 go_enter Tryz.func16, Tryz.ntmps16
 go_wp2_with (first | (go_at_call 38; refine Hu.out.mono ?_; rintro e w1 ⟨_, rfl, rfl, rfl⟩) | (go_at_call 40; refine Hb.out.mono ?_; rintro e w1 ⟨_, rfl, rfl, hE⟩; have hE := hE.symm; subst hE))
 go_ret2
 exact Fin HQ ⟨rfl, rfl⟩
theorem dropL_len {G : List Int} {q : Int} (h : ltCount G q < G.length) : (dropL G q).length = G.length - 1 := by simp [dropL]; omega
set_option maxRecDepth 100000 in
set_option maxHeartbeats 3200000 in
theorem dropD_ok (w : World) (x : Nat) (vM : Value) (T : Th) (G U : List Int) (Ft : Nat → Prop) (h : EngD w x vM T G (solveM T G) U Ft) (hwf : WfTh T) (hG : risB G T.lits = true) (q : Int) (hq0 : 0 ≤ q) (hq1 : q < T.lits) (hm : q ∈ G) :
  Calls Tryz.prog 16 #[.pointer (some ⟨x, 0, none⟩), .int .i64 q] w (Ret fun r w' => ∃ v, r = .tuple #[v, .int .i64 0] ∧ Turn w w' x vM T G (dropL G q) [q] Ft v) := by
 obtain ⟨vF, vR, vB, vFa, vTo, ⟨c0, c1, c2, c3, c4, c5, c6, c7⟩, _, hF, _⟩ := h.cells
 have Hu := hid (unmade_any w x c0)
 have Hb := hid (binarySearch_any w vFa G q hF (risB_spec hG).2)
 rw [memB_true.2 hm] at Hb
 have hGl : G.length ≤ 4096 := h.sm.2.1
 have Hc := hid (cloneI_any w vFa G hF (by omega))
 have h1 : ¬ T.lits ≤ q := by omega
 have h0 : ¬ q < 0 := by omega
 obtain ⟨hlt, _⟩ := drop_at hG hm
 have hFl := dropL_len hlt
 have H := hid h
 have HG := hid hG
 have Hwf := hid hwf
 have Hm := hid hm
 have hfl := hwf.fl
 clear h hG hm hF hwf
 generalize hk : ltCount G q = k at *
 have Hk := hid hk
 clear hk
 refine post_gen fun Q HQ => ?_
 go_enter Tryz.func16, Tryz.ntmps16
 go_wp2_with (first | (go_at_call 38; refine Hu.out.mono ?_; rintro e w1 ⟨_, rfl, rfl, rfl⟩) | (go_at_call 40; refine Hb.out.mono ?_; rintro e w1 ⟨_, rfl, rfl, hE⟩; have hE := hE.symm; subst hE))
 refine Hc.out.mono ?_
 rintro e w1 ⟨v1, rfl, hown1, hb1⟩
 have Hown1 := hid hown1
 have Hb1 := hid hb1
 have hs1 := hb1.size
 clear hown1 hb1 Hc Hu Hb c0 c1 c2 c3 c4 c5 c6 c7
 obtain ⟨A1, cc1, rfl⟩ : ∃ A c, v1 = .slice A G.length c := own_form0 Hown1.out
 have Hde := hid (deleteI_any w1 w.heap.size _ G k Hown1.out hlt (by omega))
 go_wp2_with fail
 refine Hde.out.mono ?_
 rintro e w2 ⟨v2, rfl, hown2, hg2⟩
 have hb2 : Below w.heap.size w w2 := below_grown Hb1.out hs1 hg2 (fun g hg => (Hown1.out.lt g hg).1)
 have hFe : G.take k ++ G.drop (k + 1) = dropL G q := by unfold dropL; rw [Hk.out]
 rw [hFe] at hown2
 have Hown2 := hid hown2
 have Hb2 := hid hb2
 have hs2 := hb2.size
 obtain ⟨A2, cc2, rfl⟩ : ∃ A c, v2 = .slice A (G.length - 1) c := own_form0 hown2
 clear hown2 hb2 hg2 Hde
 have hb3 : Below w.heap.size w (w2.alloc (.cells #[.int .i64 q] 3)) := Hb2.out.alloc hs2 _
 have Hb3 := hid hb3
 have hF3 : (w2.alloc (.cells #[.int .i64 q] 3)).ownsRow w.heap.size 3 1 (.slice A2 (G.length - 1) cc2) (dropL G q).length (intsV (dropL G q)) := by rw [hFl]; exact own_ext Hown2.out (ext_alloc _ _)
 have HF3 := hid hF3
 have hto : RdI (w2.alloc (.cells #[.int .i64 q] 3)) (.slice (some ⟨w2.heap.size, 0, none⟩) 1 1) [q] := own_rdI (World.ownsRow_lit w2 #[.int .i64 q] 1 (Nat.le_refl _) (by unfold maxLen; omega) rfl) (by simp)
 have Hbec := hid (becomeD_any (w2.alloc (.cells #[.int .i64 q] 3)) x vM (.slice A2 (G.length - 1) cc2) (.slice (some ⟨w2.heap.size, 0, none⟩) 1 1) T G (dropL G q) [q] U Ft (H.out.ext hb3) Hwf.out (drop_ris HG.out) w.heap.size hF3 hto (fun y hy => by simp at hy; subst hy; omega) (odd_one fun y hy => by rw [mem_drop HG.out Hm.out]; simp [hy]))
 clear hb3 hF3 hto
 go_wp2_with fail
 refine Hbec.out.mono ?_
 rintro e w4 ⟨v4, rfl, hpost⟩
 have Hpost := hid hpost
 clear hpost Hbec
 go_wp2_with fail
 go_ret2
 exact Fin HQ ⟨_, rfl, turn_after (bF := 0) H.out Hb3.out HF3.out Hpost.out⟩
/-- What came and what went. -/
def notIn (F G : List Int) : List Int := F.filter fun q => !memB G q
theorem notIn_succ {F G : List Int} {k : Nat} (hk : k < F.length) : notIn (F.take (k + 1)) G = notIn (F.take k) G ++ if memB G F[k] = true then [] else [F[k]] := by
 unfold notIn
 rw [List.take_succ_eq_append_getElem hk, List.filter_append]
 congr 1
 by_cases h : memB G F[k] = true
 ·rw [if_pos h]; simp [h]
 ·rw [if_neg h]; simp [h]
theorem mem_notIn {F G : List Int} {q : Int} : q ∈ notIn F G ↔ q ∈ F ∧ q ∉ G := by
 unfold notIn
 rw [List.mem_filter, Bool.not_eq_true', memB_false]
theorem notIn_le (F G : List Int) : (notIn F G).length ≤ F.length := List.length_filter_le _ _
theorem odd_set {T : Th} {F G : List Int} : ∀ x : Nat, x < T.foes.length → ¬ InCone T (notIn F G ++ notIn G F) x → ((x : Int) ∈ G ↔ (x : Int) ∈ F) := fun x _ hn => by
 constructor
 ·intro h
  exact Classical.byContradiction fun h2 => hn (.base (List.mem_append_right _ (mem_notIn.2 ⟨h, h2⟩)))
 ·intro h
  exact Classical.byContradiction fun h2 => hn (.base (List.mem_append_left _ (mem_notIn.2 ⟨h, h2⟩)))
set_option maxRecDepth 100000 in
set_option maxHeartbeats 3200000 in
theorem setD_fact (w : World) (x : Nat) (vM vF : Value) (T : Th) (G F : List Int) (M : List Nat) (U : List Int) (Ft : Nat → Prop) (h : EngD w x vM T G M U Ft) (hF : RdI w vF F) (hn : risB F T.lits ≠ true) :
  Calls Tryz.prog 18 #[.pointer (some ⟨x, 0, none⟩), vF] w (Ret fun r w' => r = .tuple #[.slice none 0 0, .int .i64 181] ∧ Below w.heap.size w w') := by
 obtain ⟨vFo, vR, vB, vFa, vTo, ⟨c0, c1, c2, c3, c4, c5, c6, c7⟩, hT, _, _⟩ := h.cells
 have Hu := hid (unmade_any w x c0)
 have Hc := hid (checkFacts_any w _ vF T F hT hF)
 rw [show risB F T.lits = false by simpa using hn] at Hc
 clear h hn hT hF
 refine post_gen fun Q HQ => ?_
 go_enter Tryz.func18, Tryz.ntmps18
 go_wp2_with (first | (go_at_call 38; refine Hu.out.mono ?_; rintro e w1 ⟨_, rfl, rfl, rfl⟩) | (go_at_call 47; refine Hc.out.mono ?_; rintro e w1 ⟨_, rfl, rfl, hb1⟩; have Hb1 := hid hb1; clear hb1))
 go_ret2
 exact Fin HQ ⟨rfl, Hb1.out⟩
end Go.Proofs.Lx

namespace Go.Proofs.Lx
open Go Go.RowKit Go.Proofs.Tj
set_option linter.unusedVariables false
set_option linter.unusedSimpArgs false
set_option maxRecDepth 100000 in
set_option maxHeartbeats 6400000 in
theorem setD_ok (w : World) (x : Nat) (vM vF : Value) (T : Th) (G F U : List Int) (Ft : Nat → Prop) (h : EngD w x vM T G (solveM T G) U Ft) (hwf : WfTh T) (hG : risB G T.lits = true) (hF : RdI w vF F) (hn : risB F T.lits = true) :
  Calls Tryz.prog 18 #[.pointer (some ⟨x, 0, none⟩), vF] w (Ret fun r w' => ∃ v, r = .tuple #[v, .int .i64 0] ∧ Turn w w' x vM T G F (notIn F G ++ notIn G F) Ft v) := by
 obtain ⟨vFo, vR, vB, vFa, vTo, ⟨c0, c1, c2, c3, c4, c5, c6, c7⟩, hT, hGr, _⟩ := h.cells
 have hn4 : T.foes.length ≤ 4096 := by have := hwf.fl; have := hwf.l1; omega
 have hGl : G.length ≤ 4096 := h.sm.2.1
 have hFl : F.length ≤ 4096 := by have := ris_len (l := F) (n := T.foes.length) (by rw [hwf.fl]; exact hn); omega
 have Hu := hid (unmade_any w x c0)
 have Hc := hid (checkFacts_any w _ vF T F hT hF)
 rw [show risB F T.lits = true from hn] at Hc
 obtain ⟨AF, cF, rfl, hFc, hFn, hFr⟩ := hF
 obtain ⟨AG, cG, rfl, hGc, hGn, hGrr⟩ := hGr
 have Hst : Hid (∀ W, Below w.heap.size w W → W.cell? ⟨x, 5, none⟩ = some (.slice AG G.length cG) ∧ RcI W AF F ∧ RcI W AG G) := hid fun W hW => ⟨cell_ext hW c5, hFr.ext (scR_mono _) hW, hGrr.ext (scR_mono _) hW⟩
 have HGc := hid hGc
 have HFc := hid hFc
 have H := hid h
 have HG := hid hG
 have Hwf := hid hwf
 have Hn := hid hn
 have hfl := hwf.fl
 obtain ⟨i0, hi, hz0, hz1, hz2⟩ := info_parts infoI
 have HI := hid (⟨hi, hz0, hz1, hz2⟩ : _ ∧ _ ∧ _ ∧ _)
 have hFm : ∀ q ∈ F, 0 ≤ q ∧ q < T.foes.length := fun q hq => by
  obtain ⟨i, hi, rfl⟩ := List.getElem_of_mem hq
  have := (risB_spec hn).1 i hi; omega
 have hGm : ∀ q ∈ G, 0 ≤ q ∧ q < T.foes.length := fun q hq => by
  obtain ⟨i, hi, rfl⟩ := List.getElem_of_mem hq
  have := (risB_spec hG).1 i hi; omega
 have HFm := hid (⟨hFm, hGm⟩ : _ ∧ _)
 clear h hG hn hT hwf hFr hGrr hFm hGm hi hz0 hz1 hz2 hFc hGc c6 c7
 refine post_gen fun Q HQ => ?_
 go_enter Tryz.func18, Tryz.ntmps18
 go_wp2_with (first | (go_at_call 38; refine Hu.out.mono ?_; rintro e w1 ⟨_, rfl, rfl, rfl⟩) | (go_at_call 47; refine Hc.out.mono ?_; rintro e w1 ⟨_, rfl, rfl, hb1⟩; have Hb1 := hid hb1; clear hb1))
 clear Hu Hc c0 c5 c1 c2 c3 c4
 obtain ⟨wc, rfl⟩ : ∃ wc : World, wc = w1 := ⟨_, rfl⟩
 have hwc := Hb1.out.size
 go_loopw [7, 25] (fun v7 v25 wr => ∃ k : Nat, k ≤ F.length ∧ v25 = .int .i64 (k : Int) ∧ wr.ownsRow wc.heap.size 3 1 v7 (notIn (F.take k) G).length (intsV (notIn (F.take k) G)) ∧ Below wc.heap.size wc wr) (fun _ v25 _ => F.length - (intOf v25).toNat)
 case atStart => exact ⟨0, Nat.zero_le _, rfl, World.ownsRow_nil _ _ _ _, ext_refl _⟩
 case round =>
  obtain ⟨k, hk, rfl, hown, hbl⟩ := hrel
  have hlow := ext_trans Hb1.out hbl
  obtain ⟨c5, hFr, hGr⟩ := Hst.out wr hlow
  have Hown := hid hown
  have Hbl := hid hbl
  have hwr := hbl.size
  by_cases hlt : k < F.length
  ·obtain ⟨ad, rfl, hcell⟩ := hFr.at1 hlt
   have Hsu := hid (notIn_succ (G := G) hlt)
   have hle := notIn_le (F.take k) G
   rw [List.length_take] at hle
   have hle2 : (notIn (F.take k) G).length ≤ 4096 := by omega
   have Hct := hid (contains_any wr (.slice AG G.length cG) G F[k] ⟨AG, cG, rfl, HGc.out, hGn, hGr⟩)
   clear hown hbl hFr hGr hle
   generalize F[k] = q at *
   by_cases hm : memB G q = true
   ·rw [hm] at Hct
    rw [if_pos hm, List.append_nil] at Hsu
    clear hm
    go_wp2_with (go_at_call 48; refine Hct.out.mono ?_; rintro e w1 ⟨_, rfl, rfl, hE⟩; have hE := hE.symm; subst hE)
    go_roundw
    case rel => exact ⟨k + 1, by omega, by go_num, by rw [Hsu.out]; exact Hown.out, Hbl.out⟩
    case measure => exact meas_lt hlt
   ·rw [show memB G q = false by simpa using hm] at Hct
    rw [if_neg hm] at Hsu
    obtain ⟨hi, hz0, hz1, hz2⟩ := HI.out
    clear hm
    generalize notIn (F.take k) G = L at *
    go_wp2_with (first | (go_at_call 48; refine Hct.out.mono ?_; rintro e w1 ⟨_, rfl, rfl, hE⟩; have hE := hE.symm; subst hE) | (at_builtin; refine wpList_append_own_at _ rfl _ _ 36 rfl wc.heap.size 3 i0 (.int .i64 0) 1 8 Tryz.underlying36 hi hz0 hz1 hz2 rfl (by decide) _ L.length _ rfl (Hown.out.alloc _) ⟨wr.heap.size, 0, none⟩ 1 1 [.int .i64 q] rfl rfl (cell_one_new _ _ _) (fun u hu => by simp at hu; subst hu; rfl) (by unfold maxLen; omega) (by omega) (by simp; omega) ?_; intro v' w' hown2 hgrow hnil hat; obtain ⟨gn, cn, rfl⟩ := own_form hown2))
    go_roundw
    case rel =>
     refine ⟨k + 1, by omega, by go_num, ?_, below_grown (Hbl.out.alloc hwr _) (by simp; omega) hgrow (fun g hg => (Hown.out.lt g hg).1)⟩
     rw [Hsu.out, List.length_append, List.length_singleton]
     simpa [intsV] using hown2
    case measure => exact meas_lt hlt
  ·obtain rfl : k = F.length := by omega
   rw [List.take_length] at Hown
   clear hown hbl hFr
   go_wp2_with fail
   obtain ⟨wd, rfl⟩ : ∃ wd : World, wd = wr := ⟨_, rfl⟩
   have hL1 := notIn_le F G
   go_loopw [7, 46] (fun v7 v46 wr => ∃ k : Nat, k ≤ G.length ∧ v46 = .int .i64 (k : Int) ∧ wr.ownsRow wc.heap.size 3 1 v7 (notIn F G ++ notIn (G.take k) F).length (intsV (notIn F G ++ notIn (G.take k) F)) ∧ Below wc.heap.size wc wr) (fun _ v46 _ => G.length - (intOf v46).toNat)
   case atStart => exact ⟨0, Nat.zero_le _, rfl, by simpa [notIn] using Hown.out, Hbl.out⟩
   case round =>
    clear Hown Hbl hGr c5 hlow
    obtain ⟨k, hk, rfl, hown, hbl⟩ := hrel
    have hlow := ext_trans Hb1.out hbl
    obtain ⟨c5, hFr, hGr⟩ := Hst.out wr hlow
    have Hown := hid hown
    have Hbl := hid hbl
    have hwr := hbl.size
    by_cases hlt : k < G.length
    ·obtain ⟨ad, rfl, hcell⟩ := hGr.at1 hlt
     have Hsu := hid (notIn_succ (G := F) hlt)
     have hle := notIn_le (G.take k) F
     rw [List.length_take] at hle
     have hle2 : (notIn F G ++ notIn (G.take k) F).length ≤ 8192 := by rw [List.length_append]; omega
     have Hct := hid (contains_any wr (.slice AF F.length cF) F G[k] ⟨AF, cF, rfl, HFc.out, hFn, hFr⟩)
     clear hown hbl hFr hGr hle
     generalize G[k] = q at *
     by_cases hm : memB F q = true
     ·rw [hm] at Hct
      rw [if_pos hm, List.append_nil] at Hsu
      clear hm
      go_wp2_with (go_at_call 48; refine Hct.out.mono ?_; rintro e w1 ⟨_, rfl, rfl, hE⟩; have hE := hE.symm; subst hE)
      go_roundw
      case rel => exact ⟨k + 1, by omega, by go_num, by rw [Hsu.out]; exact Hown.out, Hbl.out⟩
      case measure => exact meas_lt hlt
     ·rw [show memB F q = false by simpa using hm] at Hct
      rw [if_neg hm] at Hsu
      obtain ⟨hi, hz0, hz1, hz2⟩ := HI.out
      clear hm
      have Hsu2 : Hid (notIn F G ++ notIn (G.take (k + 1)) F = (notIn F G ++ notIn (G.take k) F) ++ [q]) := hid (by rw [Hsu.out, List.append_assoc])
      clear Hsu
      generalize notIn F G ++ notIn (G.take k) F = L at *
      go_wp2_with (first | (go_at_call 48; refine Hct.out.mono ?_; rintro e w1 ⟨_, rfl, rfl, hE⟩; have hE := hE.symm; subst hE) | (at_builtin; refine wpList_append_own_at _ rfl _ _ 36 rfl wc.heap.size 3 i0 (.int .i64 0) 1 8 Tryz.underlying36 hi hz0 hz1 hz2 rfl (by decide) _ L.length _ rfl (Hown.out.alloc _) ⟨wr.heap.size, 0, none⟩ 1 1 [.int .i64 q] rfl rfl (cell_one_new _ _ _) (fun u hu => by simp at hu; subst hu; rfl) (by unfold maxLen; omega) (by omega) (by simp; omega) ?_; intro v' w' hown2 hgrow hnil hat; obtain ⟨gn, cn, rfl⟩ := own_form hown2))
      go_roundw
      case rel =>
       refine ⟨k + 1, by omega, by go_num, ?_, below_grown (Hbl.out.alloc hwr _) (by simp; omega) hgrow (fun g hg => (Hown.out.lt g hg).1)⟩
       rw [Hsu2.out, List.length_append, List.length_singleton]
       simpa [intsV] using hown2
      case measure => exact meas_lt hlt
    ·obtain rfl : k = G.length := by omega
     rw [List.take_length] at Hown
     have hL2 := notIn_le G F
     have hLo : (notIn F G ++ notIn G F).length ≤ 8192 := by rw [List.length_append]; omega
     have hto := own_rdI Hown.out (by omega)
     have Hto := hid hto
     have Hcl := hid (cloneI_any wr (.slice AF F.length cF) F ⟨AF, cF, rfl, HFc.out, hFn, hFr⟩ (by omega))
     have Hlow := hid hlow
     clear hown hbl hFr hGr hto hlow c5
     obtain ⟨A7, c7, rfl⟩ := own_form0 Hown.out
     clear Hown
     generalize hLn : (notIn F G ++ notIn G F).length = Ln at *
     clear hLn
     go_wp2_with fail
     refine Hcl.out.mono ?_
     rintro e w5 ⟨v5, rfl, hown5, hb5⟩
     obtain ⟨A5, c5, rfl⟩ : ∃ A c, v5 = .slice A F.length c := own_form0 hown5
     have Hb5 := hid (ext_trans Hlow.out hb5)
     have Hown5 := hid (own_lower hown5 Hlow.out.size)
     have Hbec := hid (becomeD_any w5 x vM (.slice A5 F.length c5) _ T G F (notIn F G ++ notIn G F) U Ft (H.out.ext Hb5.out) Hwf.out Hn.out wr.heap.size hown5 (Hto.out.ext (scR_mono _) hb5) (fun y hy => by
      rcases List.mem_append.1 hy with h9 | h9
      ·exact HFm.out.1 y (mem_notIn.1 h9).1
      ·exact HFm.out.2 y (mem_notIn.1 h9).1) odd_set)
     clear hown5 hb5 Hcl
     go_wp2_with fail
     refine Hbec.out.mono ?_
     rintro e w6 ⟨v6, rfl, hpost⟩
     have Hpost := hid hpost
     clear hpost Hbec
     go_wp2_with fail
     go_ret2
     exact Fin HQ ⟨_, rfl, turn_after (bF := 0) H.out Hb5.out Hown5.out Hpost.out⟩
end Go.Proofs.Lx

namespace Go.Proofs.Lx
open Go Go.RowKit
set_option linter.unusedVariables false
set_option linter.unusedSimpArgs false
theorem lt_objD {w : World} {g : Nat} {o : Obj} (h : w.heap[g]? = some o) : g < w.heap.size := (Array.getElem?_eq_some_iff.1 h).1
def nilRows (n : Nat) : Obj := .cells (Array.replicate n (Value.slice none 0 0)) 36
/-- What has been made since wx: the foes' rows, the superiority's, the box, the rules. -/
structure TW (wx W : World) (nF nB : Nat) (rs : List Rule) (fF fB f3 : Option Nat) (fR : Option (Value × (Nat → Value))) : Prop where
 below : Below wx.heap.size wx W
 atF : ∀ g, fF = some g → wx.heap.size ≤ g ∧ W.heap[g]? = some (nilRows nF)
 atB : ∀ g, fB = some g → wx.heap.size ≤ g ∧ W.heap[g]? = some (nilRows nB)
 at3 : ∀ g, f3 = some g → wx.heap.size ≤ g ∧ W.heap[g]? = some (.cells #[.int .i64 0, .slice none 0 0, .slice none 0 0, .slice none 0 0] 25)
 atR : ∀ v vs, fR = some (v, vs) → W.ownsRow wx.heap.size 93 3 v rs.length (cellsR rs vs) ∧ ∀ i, i < rs.length → RdI wx (vs i) (rs.getD i default).body
 ne : ∀ g h, fF = some g → fB = some h → g ≠ h
section
variable {wx W W' : World} {nF nB : Nat} {rs : List Rule} {fF fB f3 : Option Nat} {fR : Option (Value × (Nat → Value))}
theorem TW.start (wx : World) (nF nB : Nat) (rs : List Rule) : TW wx wx nF nB rs none none none none := ⟨Below.refl _ _, by simp, by simp, by simp, by simp, by simp⟩
theorem TW.ext (h : TW wx W nF nB rs fF fB f3 fR) (hb : Below W.heap.size W W') : TW wx W' nF nB rs fF fB f3 fR :=
 ⟨base_trans h.below h.below.size hb, fun g e => ⟨(h.atF g e).1, (hb.block g (lt_objD (h.atF g e).2)).trans (h.atF g e).2⟩, fun g e => ⟨(h.atB g e).1, (hb.block g (lt_objD (h.atB g e).2)).trans (h.atB g e).2⟩, fun g e => ⟨(h.at3 g e).1, (hb.block g (lt_objD (h.at3 g e).2)).trans (h.at3 g e).2⟩,
  fun v vs e => ⟨own_ext (h.atR v vs e).1 hb, (h.atR v vs e).2⟩, h.ne⟩
theorem TW.drew (h : TW wx W nF nB rs fF fB f3 fR) : TW wx W.drew nF nB rs fF fB f3 fR := h.ext (ext_refl W).drew
theorem TW.mkF (h : TW wx W nF nB rs none fB f3 fR) : TW wx (W.alloc (nilRows nF)) nF nB rs (some W.heap.size) fB f3 fR := by
 have h2 := h.ext (ext_alloc W (nilRows nF))
 refine ⟨h2.below, fun g e => ?_, h2.atB, h2.at3, h2.atR, fun g k e1 e2 => ?_⟩
 ·injection e with e; subst e
  exact ⟨h.below.size, heap_alloc_new W _⟩
 ·injection e1 with e1; subst e1
  have := lt_objD (h.atB k e2).2
  omega
theorem TW.mkB (h : TW wx W nF nB rs fF none f3 fR) : TW wx (W.alloc (nilRows nB)) nF nB rs fF (some W.heap.size) f3 fR := by
 have h2 := h.ext (ext_alloc W (nilRows nB))
 refine ⟨h2.below, h2.atF, fun g e => ?_, h2.at3, h2.atR, fun g k e1 e2 => ?_⟩
 ·injection e with e; subst e
  exact ⟨h.below.size, heap_alloc_new W _⟩
 ·injection e2 with e2; subst e2
  have := lt_objD (h.atF g e1).2
  omega
theorem TW.mk3 (h : TW wx W nF nB rs fF fB none fR) : TW wx (W.alloc (.cells #[.int .i64 0, .slice none 0 0, .slice none 0 0, .slice none 0 0] 25)) nF nB rs fF fB (some W.heap.size) fR := by
 have h2 := h.ext (ext_alloc W (.cells #[.int .i64 0, .slice none 0 0, .slice none 0 0, .slice none 0 0] 25))
 refine ⟨h2.below, h2.atF, h2.atB, fun g e => ?_, h2.atR, h2.ne⟩
 injection e with e; subst e
 exact ⟨h.below.size, heap_alloc_new W _⟩
theorem TW.clone (h : TW wx W nF nB rs fF fB f3 none) {v : Value} {vs : Nat → Value} (ho : W'.ownsRow W.heap.size 93 3 v rs.length (cellsR rs vs)) (hr : ∀ i, i < rs.length → RdI wx (vs i) (rs.getD i default).body) (hb : Below W.heap.size W W') : TW wx W' nF nB rs fF fB f3 (some (v, vs)) := by
 have h2 := h.ext hb
 refine ⟨h2.below, h2.atF, h2.atB, h2.at3, fun v2 vs2 e => ?_, h2.ne⟩
 injection e with e; injection e with e1 e2; subst e1; subst e2
 exact ⟨own_lower ho h.below.size, hr⟩
end
/-- Rows that are cloned one by one into the array g: the first i are there. -/
structure TL (W0 w : World) (g n : Nat) (L : List (List Int)) (vs : List Value) : Prop where
 blk : w.heap[g]? = some (.cells (vs ++ List.replicate (n - vs.length) (Value.slice none 0 0)).toArray 36 (0, 0))
 own : ∀ j (h : j < vs.length) (h2 : j < L.length), w.ownsRow W0.heap.size 3 1 vs[j] L[j].length (intsV L[j])
 le : vs.length ≤ n
 lo : g < W0.heap.size
 kp : Kp g W0 w
theorem TL.start {W0 : World} {g n : Nat} (L : List (List Int)) (h : W0.heap[g]? = some (nilRows n)) : TL W0 W0 g n L [] := by
 refine ⟨?_, fun j hj => absurd hj (by simp), by simp, lt_objD h, Kp.refl _ _⟩
 rw [h]; unfold nilRows
 simp
theorem TL.push {W0 w w' : World} {g n : Nat} {L : List (List Int)} {vs : List Value} (h : TL W0 w g n L vs) {v : Value} (hn : vs.length < n) (hL : vs.length < L.length) (hb : Below w.heap.size w w') (ho : w'.ownsRow w.heap.size 3 1 v L[vs.length].length (intsV L[vs.length])) : TL W0 (w'.setCell ⟨g, vs.length, none⟩ v) g n L (vs ++ [v]) := by
 have hg := h.lo
 have hs := h.kp.sz
 have hgl : g < w.heap.size := by omega
 refine ⟨?_, fun j hj hj2 => ?_, by rw [List.length_append, List.length_singleton]; omega, h.lo, (h.kp.trans (Kp.below hb)).set (.inl rfl) _⟩
 ·rw [heap_setCell_same w' g vs.length _ _ v ((hb.block g hgl).trans h.blk)]
  congr 2
  apply Array.toList_inj.1
  simp only [Array.toList_setIfInBounds, List.length_append, List.length_singleton]
  rw [List.set_append_right _ _ (Nat.le_refl _), Nat.sub_self]
  have e : n - vs.length = (n - (vs.length + 1)) + 1 := by omega
  rw [e, List.replicate_succ, List.set_cons_zero, List.append_assoc]
  rfl
 ·rw [List.length_append, List.length_singleton] at hj
  have key : ∀ {b k : Nat} {u : Value} {xs : List Value}, W0.heap.size ≤ b → w'.ownsRow b 3 1 u k xs → (w'.setCell ⟨g, vs.length, none⟩ v).ownsRow W0.heap.size 3 1 u k xs := fun {b k u xs} hb0 h9 =>
   own_lower (ownsRow_setCell_other h9 (fun e => by have := (h9.lt _ e).1; dsimp only at this; omega) _) hb0
  by_cases e : j = vs.length
  ·subst e
   rw [List.getElem_append_right (Nat.le_refl _)]
   simp only [Nat.sub_self, List.getElem_cons_zero]
   exact key hs ho
  ·have hjl : j < vs.length := by omega
   rw [List.getElem_append_left hjl]
   exact key (Nat.le_refl _) (own_ext (h.own j hjl hj2) hb)
/-- How they read in every world that has their blocks. -/
theorem TL.reads {W0 w W : World} {g n : Nat} {L : List (List Int)} {vs : List Value} (h : TL W0 w g n L vs) (hv : vs.length = n) (hL : L.length = n) (hn : n ≤ 140737488355328) (hx : ∀ l ∈ L, l.length ≤ 140737488355328) (hg : W.heap[g]? = w.heap[g]?) (hk : ∀ k, W0.heap.size ≤ k → k < w.heap.size → W.heap[k]? = w.heap[k]?) : RdLL W (.slice (some ⟨g, 0, none⟩) n n) L := by
 have hb := hg.trans h.blk
 rw [hv, Nat.sub_self, List.replicate_zero, List.append_nil] at hb
 refine ⟨_, n, by rw [hL], by omega, by omega, fun i hi => ⟨_, _, rfl, ⟨vs[i]'(by omega), rfl, own_rdI (own_heap (h.own i (by omega) hi) fun k k1 k2 => hk k k1 k2) (hx _ (List.getElem_mem hi))⟩, rfl, fun j u hu => ?_⟩⟩
 match j, hu with
 | 0, hu =>
  simp at hu; subst hu
  rw [add_plain, Nat.add_zero, Nat.mul_one, cell_of_row W g i _ _ _ hb]
  have hi2 : i < vs.length := by omega
  simp [hi2]
end Go.Proofs.Lx
