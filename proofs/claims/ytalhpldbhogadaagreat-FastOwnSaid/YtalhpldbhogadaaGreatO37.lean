/- Parts of the proof: Mt, Pq, We, Mu, Rw, Rt. What the fast engine answers is its holder's: each answer in blocks that the call has made. -/
import Derived.Test.YtalhpldbhogadaaGreatO6
import Derived.Test.YtalhpldbhogadaaGreatO35
import Derived.Test.YtalhpldbhogadaaGreatO36
import Derived.Test.YtalhpldbhogadaaGreatO31
import Derived.Test.YtalhpldbhogadaaGreatO34
import Derived.Test.YtalhpldbhogadaaGreatO1
import Derived.SizedLaws
import Derived.Lib.SmallJoins
import Derived.ProofKit
import Derived.OpenShut
import Derived.Test.YtalhpldbhogadaaGreatRows
namespace Go.Proofs.Lx
open Go Go.RowKit Go.Proofs.Tj
set_option linter.unusedVariables false
set_option linter.unusedSimpArgs false
/-- A list in blocks of the call's own. -/
def OwnA (w w' : World) (e : TypeId) (sz : Nat) (v : Value) : Prop := ∃ (A : Option Addr) (n c : Nat) (xs : List Value), v = .slice A n c ∧ n ≤ 70000 ∧ w'.ownsRow w.heap.size e sz (.slice A n c) n xs ∧ Below w.heap.size w w'
theorem OwnA.of {w w' : World} {e : TypeId} {sz n : Nat} {v : Value} {xs : List Value} (h : w'.ownsRow w.heap.size e sz v n xs) (hn : n ≤ 70000) (hb : Below w.heap.size w w') : OwnA w w' e sz v := by
 rcases h.2 with ⟨h1, h2⟩ | ⟨g, cap, cur, h1, _⟩
 ·exact ⟨none, 0, 0, [], h1, by omega, World.ownsRow_nil _ _ _ _, hb⟩
 ·subst h1
  exact ⟨_, n, cap, xs, rfl, hn, h, hb⟩
theorem OwnA.nil {w w' : World} {e : TypeId} {sz : Nat} (hb : Below w.heap.size w w') : OwnA w w' e sz (.slice none 0 0) := ⟨none, 0, 0, [], rfl, by omega, World.ownsRow_nil _ _ _ _, hb⟩
theorem tagsO_le (x : Nat) : tagsN x ≤ 4 := by
 unfold tagsN
 repeat (first | omega | split)
theorem totalO_le (X : List Nat) : totalN X ≤ 4 * X.length := by
 induction X with
 | nil => simp [totalN]
 | cons x X ih =>
  have := tagsO_le x
  unfold totalN at *
  rw [List.map_cons, List.sum_cons, List.length_cons]; omega
theorem foesO_le {T : Th} {l : List Int} (h : givenErr T l = 0) : T.foes.length ≤ 4096 := by
 have hwf := (givenErr_ok.1 h).1
 have h1 := hwf.fl
 have h2 := hwf.l1
 omega
section
variable (w : World) (V vl : Value) (T : Th) (l : List Int) (hT : RdTh w V T) (hl : RdI w vl l)
include hT hl
theorem ansRun : Calls Tryz.prog 5 #[V, vl] w (Ret fun r w' => ∃ v c, r = .tuple #[v, .int .i64 c] ∧ OwnA w w' 77 1 v) := by
 refine (frunTop_any w V vl T l hT hl).mono fun e w' h => h.mono ?_
 rintro _ w' ⟨v, rfl, h1, h2, hb⟩
 refine ⟨v, _, rfl, ?_⟩
 by_cases hc : givenErr T l = 0
 ·exact OwnA.of (h1 hc) (by rw [solve_length]; have := foesO_le hc; omega) hb
 ·rw [h2 hc]; exact OwnA.nil hb
theorem ansCount : Calls Tryz.prog 6 #[V, vl] w (Ret fun r w' => ∃ v q u c, r = .tuple #[v, .agg #[.int .i64 q, .int .i64 u], .int .i64 c] ∧ OwnA w w' 77 1 v) := by
 refine (fcounted_any w V vl T l hT hl).mono fun e w' h => h.mono ?_
 rintro _ w' ⟨v, q, u, rfl, h1, h2, hb⟩
 refine ⟨v, q, u, _, rfl, ?_⟩
 by_cases hc : givenErr T l = 0
 ·exact OwnA.of (h1 hc).1 (by rw [solve_length]; have := foesO_le hc; omega) hb
 ·rw [(h2 hc).1]; exact OwnA.nil hb
theorem ansOrder : Calls Tryz.prog 7 #[V, vl] w (Ret fun r w' => ∃ v c, r = .tuple #[v, .int .i64 c] ∧ OwnA w w' 98 2 v) := by
 refine (forder_any w V vl T l hT hl).mono fun e w' h => h.mono ?_
 rintro _ w' ⟨v, rfl, h1, h2, hb⟩
 refine ⟨v, _, rfl, ?_⟩
 by_cases hc : givenErr T l = 0
 ·obtain ⟨D, hD, ho⟩ := h1 hc
  refine OwnA.of ho ?_ hb
  have h4 := totalO_le (solveM T l)
  rw [solve_length] at h4
  have := foesO_le hc
  rw [hD.len]; omega
 ·rw [h2 hc]; exact OwnA.nil hb
theorem ansSet (tag : Int) : Calls Tryz.prog 8 #[V, vl, .int .i64 tag] w (Ret fun r w' => ∃ v c, r = .tuple #[v, .int .i64 c] ∧ OwnA w w' 3 1 v) := by
 refine (fset_any w V vl T l tag hT hl).mono fun e w' h => h.mono ?_
 rintro _ w' ⟨v, rfl, h1, hb⟩
 refine ⟨v, _, rfl, OwnA.of h1 ?_ hb⟩
 unfold setL
 by_cases hc : tagErr T l tag = 0
 ·rw [if_pos hc]
  have hg : givenErr T l = 0 := by
   by_cases h : givenErr T l = 0
   ·exact h
   ·unfold tagErr at hc; rw [if_neg h] at hc; exact hc
  exact Nat.le_trans (pickL_le _ _) (by have := foesO_le hg; omega)
 ·rw [if_neg hc]; simp
theorem ansUnd : Calls Tryz.prog 9 #[V, vl] w (Ret fun r w' => ∃ v c, r = .tuple #[v, .int .i64 c] ∧ OwnA w w' 3 1 v) := by
 refine (fund_any w V vl T l hT hl).mono fun e w' h => h.mono ?_
 rintro _ w' ⟨v, rfl, h1, hb⟩
 refine ⟨v, _, rfl, OwnA.of h1 ?_ hb⟩
 unfold undL
 by_cases hc : givenErr T l = 0
 ·rw [if_pos hc]; exact Nat.le_trans (pickL_le _ _) (by have := foesO_le hc; omega)
 ·rw [if_neg hc]; simp
theorem ansDif : Calls Tryz.prog 10 #[V, vl, .slice none 0 0] w (Ret fun r w' => ∃ v c, r = .tuple #[v, .int .i64 c] ∧ OwnA w w' 3 1 v) := by
 refine (fdiffer_any w V vl (.slice none 0 0) T l [] hT hl Rd.nil).mono fun e w' h => h.mono ?_
 rintro _ w' ⟨v, rfl, h1, hb⟩
 refine ⟨v, _, rfl, OwnA.of h1 ?_ hb⟩
 unfold difL
 by_cases hc : difErr T l [] = 0
 ·rw [if_pos hc]
  have hg : checkErr T = 0 := by
   unfold difErr givenErrs at hc
   by_cases h : checkErr T = 0
   ·exact h
   ·rw [if_neg h] at hc; exact hc
  have hwf := (checkErr_ok T).1 hg
  have h3 := hwf.fl
  have h4 := hwf.l1
  exact Nat.le_trans (pickL_le _ _) (by omega)
 ·rw [if_neg hc]; simp
end
end Go.Proofs.Lx

namespace Go.Proofs.Lx
open Go Go.RowKit Go.Proofs.Tj
set_option linter.unusedSimpArgs false
set_option linter.unusedVariables false
def exC : Th := ⟨2, [[1], [0]], [⟨2, 0, []⟩, ⟨2, 1, []⟩], [[1], []]⟩
def exD : Th := ⟨2, [[1], [0]], [⟨2, 0, []⟩, ⟨2, 1, []⟩], [[], []]⟩
theorem exC_edge {y z : Nat} (h : z ∈ adjN (beatsAt exC) y) : y = 0 ∧ z = 1 := by
 match y with
 | 0 => simpa [adjN, beatsAt, exC] using h
 | 1 => simp [adjN, beatsAt, exC] at h
 | y + 2 => simp [adjN, beatsAt, exC] at h
theorem exD_edge {y z : Nat} (h : z ∈ adjN (beatsAt exD) y) : False := by
 match y with
 | 0 => simp [adjN, beatsAt, exD] at h
 | 1 => simp [adjN, beatsAt, exD] at h
 | y + 2 => simp [adjN, beatsAt, exD] at h
theorem exC_leads {x y : Nat} (h : Leads (adjN (beatsAt exC)) x y) : x = y ∨ x = 0 ∧ y = 1 := by
 induction h with
 | refl => exact .inl rfl
 | step _ hz ih =>
  obtain ⟨rfl, rfl⟩ := exC_edge hz
  omega
theorem exD_leads {x y : Nat} (h : Leads (adjN (beatsAt exD)) x y) : x = y := by
 induction h with
 | refl => rfl
 | step _ hz ih => exact (exD_edge hz).elim
theorem exC_wf : WfTh exC := by
 refine ⟨by decide, by decide, by decide, by decide +kernel, by decide, ?_, by decide +kernel, by decide, by decide +kernel, fun x y _ _ h1 h2 => ?_⟩
 ·exact List.all_eq_true.1 (by decide +kernel)
 ·have := exC_leads h1; have := exC_leads h2; omega
theorem exD_wf : WfTh exD := by
 refine ⟨by decide, by decide, by decide, by decide +kernel, by decide, ?_, by decide +kernel, by decide, by decide +kernel, fun x y _ _ h1 h2 => exD_leads h1⟩
 exact List.all_eq_true.1 (by decide +kernel)
theorem exC_solve : solveM exC [] = [6, 10] := by
 rw [← solve_eq (k := 4) (by decide +kernel) (by decide)]
 decide +kernel
theorem exD_solve : solveM exD [] = [10, 10] := by
 rw [← solve_eq (k := 4) (by decide +kernel) (by decide)]
 decide +kernel
end Go.Proofs.Lx

namespace Go.Proofs.Lx
open Go Go.RowKit Go.Proofs.Tj
set_option linter.unusedSimpArgs false
set_option linter.unusedVariables false
/-- The example's blocks. -/
def wkBlocks (h : Nat) : List Obj :=
 [.cells #[.int .i64 1] 3, .cells #[.int .i64 0] 3,
  .cells #[.slice (some ⟨h, 0, none⟩) 1 1, .slice (some ⟨h + 1, 0, none⟩) 1 1] 26,
  .cells #[.int .i64 2, .int .i64 0, .slice none 0 0, .int .i64 2, .int .i64 1, .slice none 0 0] 75,
  .cells #[.int .i64 1] 3,
  .cells #[.slice (some ⟨h + 1 + 1 + 1 + 1, 0, none⟩) 1 1, .slice none 0 0] 26,
  .cells #[.int .i64 2, .slice (some ⟨h + 1 + 1, 0, none⟩) 2 2, .slice (some ⟨h + 1 + 1 + 1, 0, none⟩) 2 2, .slice (some ⟨h + 1 + 1 + 1 + 1 + 1, 0, none⟩) 2 2] 25]
def wkW (w : World) : World := (wkBlocks w.heap.size).foldl World.alloc w
theorem wk_rd (W : World) (h : Nat) (vB : Value) (X : List (List Int)) (hh : ∀ i o, i < 4 → (wkBlocks h)[i]? = some o → W.heap[h + i]? = some o) (hB : RdLL W vB X) :
  RdTh W (.agg #[.int .i64 2, .slice (some ⟨h + 1 + 1, 0, none⟩) 2 2, .slice (some ⟨h + 1 + 1 + 1, 0, none⟩) 2 2, vB]) ⟨2, [[1], [0]], [⟨2, 0, []⟩, ⟨2, 1, []⟩], X⟩ := by
 have h0 := hh 0 _ (by omega) rfl
 have h1 := hh 1 _ (by omega) rfl
 have h2 := hh 2 _ (by omega) rfl
 have h3 := hh 3 _ (by omega) rfl
 refine ⟨_, _, _, rfl, ?_, ?_, hB⟩
 ·refine rd_lit1 h2 rfl (by simp) fun i hi => ?_
  match i, hi with
  | 0, _ => exact ⟨_, rfl, _, rfl, rd_int1 h0⟩
  | 1, _ => exact ⟨_, rfl, _, rfl, rd_int1 h1⟩
 ·refine rd_lit3 h3 rfl (by simp) fun i hi => ?_
  match i, hi with
  | 0, _ => exact ⟨_, _, _, rfl, rfl, rfl, _, rfl, Rd.nil⟩
  | 1, _ => exact ⟨_, _, _, rfl, rfl, rfl, _, rfl, Rd.nil⟩
theorem wkC_rd (w : World) : RdTh (wkW w) (.agg #[.int .i64 2, .slice (some ⟨w.heap.size + 1 + 1, 0, none⟩) 2 2, .slice (some ⟨w.heap.size + 1 + 1 + 1, 0, none⟩) 2 2, .slice (some ⟨w.heap.size + 1 + 1 + 1 + 1 + 1, 0, none⟩) 2 2]) exC := by
 obtain ⟨_, ha, _⟩ := allocs (wkBlocks w.heap.size) w
 refine wk_rd (wkW w) w.heap.size _ _ (fun i o _ h => ha i o h) ?_
 refine rd_lit1 (ha 5 _ rfl) rfl (by simp) fun i hi => ?_
 match i, hi with
 | 0, _ => exact ⟨_, rfl, _, rfl, rd_int1 (ha 4 _ rfl)⟩
 | 1, _ => exact ⟨_, rfl, _, rfl, Rd.nil⟩
/-- Behind the first call the count is kept, and the theory's last field is written anew. -/
def wkW2 (w w2 : World) (q u : Int) : World :=
 (((w2.alloc (.cells #[.int .i64 q, .int .i64 u] 58)).alloc (.cells #[.slice none 0 0, .slice none 0 0] 26)).setCell ⟨w.heap.size + 1 + 1 + 1 + 1 + 1 + 1, 3, none⟩ (.slice (some ⟨w2.heap.size + 1, 0, none⟩) 2 2))
theorem wkW2_heap (w w2 : World) (q u : Int) (hb : Below (wkW w).heap.size (wkW w) w2) : (∀ k, k < w2.heap.size → k ≠ w.heap.size + 6 → (wkW2 w w2 q u).heap[k]? = w2.heap[k]?) ∧ (wkW2 w w2 q u).heap[w2.heap.size]? = some (.cells #[.int .i64 q, .int .i64 u] 58 (0, 0)) ∧ (wkW2 w w2 q u).heap[w2.heap.size + 1]? = some (.cells #[.slice none 0 0, .slice none 0 0] 26 (0, 0)) ∧ (wkW2 w w2 q u).heap.size = w2.heap.size + 2 := by
 obtain ⟨hs, _, _⟩ := allocs (wkBlocks w.heap.size) w
 have hs2 : (wkW w).heap.size = w.heap.size + 7 := hs
 have hle := hb.size
 unfold wkW2
 refine ⟨fun k hk hne => ?_, ?_, ?_, ?_⟩
 ·rw [heap_setCell_other _ _ k _ (by simpa using hne), heap_alloc_old _ _ (by simp; omega), heap_alloc_old _ _ hk]
 ·rw [heap_setCell_other _ _ _ _ (by dsimp only; omega), heap_alloc_old _ _ (by simp), heap_alloc_new]
 ·rw [heap_setCell_other _ _ _ _ (by dsimp only; omega)]
  have : w2.heap.size + 1 = (w2.alloc (.cells #[.int .i64 q, .int .i64 u] 58)).heap.size := by simp
  rw [this, heap_alloc_new]
 ·simp
theorem wkD_rd (w w2 : World) (q u : Int) (hb : Below (wkW w).heap.size (wkW w) w2) : RdTh (wkW2 w w2 q u) (.agg #[.int .i64 2, .slice (some ⟨w.heap.size + 1 + 1, 0, none⟩) 2 2, .slice (some ⟨w.heap.size + 1 + 1 + 1, 0, none⟩) 2 2, .slice (some ⟨w2.heap.size + 1, 0, none⟩) 2 2]) exD := by
 obtain ⟨hs, ha, _⟩ := allocs (wkBlocks w.heap.size) w
 have hs2 : (wkW w).heap.size = w.heap.size + 7 := hs
 have hle := hb.size
 obtain ⟨h1, _, h2, _⟩ := wkW2_heap w w2 q u hb
 refine wk_rd (wkW2 w w2 q u) w.heap.size _ _ (fun i o hi h => ?_) ?_
 ·rw [h1 _ (by omega) (by omega), hb.block _ (by omega)]
  exact ha i o h
 ·refine rd_lit1 h2 rfl (by simp) fun i hi => ?_
  match i, hi with
  | 0, _ => exact ⟨_, rfl, _, rfl, Rd.nil⟩
  | 1, _ => exact ⟨_, rfl, _, rfl, Rd.nil⟩

set_option maxHeartbeats 1600000 in
theorem works_any (w : World) : Calls Tryz.prog 4 #[] w (Ret fun v w' => v = .bool true ∧ Below w.heap.size w w') := by
 have hsA := hid (allocs (wkBlocks w.heap.size) w)
 have HcA := hid (fcounted_any (wkW w) _ _ exC [] (wkC_rd w) Rd.nil)
 have HcB := hid (fun w2 q u hb => frunTop_any (wkW2 w w2 q u) _ _ exD [] (wkD_rd w w2 q u hb) Rd.nil)
 have HeA := hid (givenErr_ok.2 ⟨exC_wf, (by decide : risB [] exC.lits = true)⟩)
 have HeB := hid (givenErr_ok.2 ⟨exD_wf, (by decide : risB [] exD.lits = true)⟩)
 refine post_gen fun Q HQ => ?_
 go_enter Tryz.func4, Tryz.ntmps4
 go_wp2_with fail
 refine HcA.out.mono ?_
 rintro e w2 ⟨_, rfl, v, q, u, rfl, h1, _, hb2⟩
 obtain ⟨o1, hq, _⟩ := h1 HeA.out
 rw [HeA.out]
 clear h1
 rw [exC_solve] at o1 hq
 have hq : q = 4 := hq
 subst hq
 obtain ⟨g, cap, rfl, hg, hg2, hc⟩ := own_all o1 (by decide)
 have c0 := hc 0 _ rfl; have c1 := hc 1 _ rfl
 clear hc o1
 have hbox : w2.heap[w.heap.size + 1 + 1 + 1 + 1 + 1 + 1]? = some (.cells #[.int .i64 2, .slice (some ⟨w.heap.size + 1 + 1, 0, none⟩) 2 2, .slice (some ⟨w.heap.size + 1 + 1 + 1, 0, none⟩) 2 2, .slice (some ⟨w.heap.size + 1 + 1 + 1 + 1 + 1, 0, none⟩) 2 2] 25 (0, 0)) := by
  rw [hb2.block _ (by have := hsA.out.1; show _ < ((wkBlocks w.heap.size).foldl World.alloc w).heap.size; rw [this]; show _ < w.heap.size + 7; omega)]
  exact hsA.out.2.1 6 _ rfl
 have hs2 : w.heap.size + 7 ≤ w2.heap.size := by have h1 := hsA.out.1; have h2 := hb2.size; rw [show (wkW w).heap.size = w.heap.size + 7 from h1] at h2; exact h2
 have hs3 : w.heap.size + 7 ≤ g := by have h1 := hsA.out.1; rw [show (wkW w).heap.size = w.heap.size + 7 from h1] at hg; exact hg
 have hbo : ∀ o o' : Obj, ((w2.alloc o).alloc o').heap[w.heap.size + 1 + 1 + 1 + 1 + 1 + 1]? = _ := fun o o' => (heap_alloc_old _ o' (by simp; omega)).trans ((heap_alloc_old w2 o (by omega)).trans hbox)
 have s3 : ∀ o o' : Obj, ((w2.alloc o).alloc o').cell? ⟨w.heap.size + 1 + 1 + 1 + 1 + 1 + 1, 3, none⟩ = some (.slice (some ⟨w.heap.size + 1 + 1 + 1 + 1 + 1, 0, none⟩) 2 2) := fun o o' => cell_of_row _ _ 3 _ _ _ (hbo o o')
 have sf : ∀ o o' : Obj, ((w2.alloc o).alloc o').frozen? ⟨w.heap.size + 1 + 1 + 1 + 1 + 1 + 1, 3, none⟩ = false := fun o o' => frozen_of_row _ _ 3 _ _ (hbo o o')
 have hbs : ∀ (o o' : Obj) (u : Value), (((w2.alloc o).alloc o').setCell ⟨w.heap.size + 1 + 1 + 1 + 1 + 1 + 1, 3, none⟩ u).heap[w.heap.size + 1 + 1 + 1 + 1 + 1 + 1]? = some (.cells #[.int .i64 2, .slice (some ⟨w.heap.size + 1 + 1, 0, none⟩) 2 2, .slice (some ⟨w.heap.size + 1 + 1 + 1, 0, none⟩) 2 2, u] 25 (0, 0)) := fun o o' u => by
  rw [heap_setCell_same _ _ 3 _ _ _ (hbo o o')]; rfl
 have t0 : ∀ (o o' : Obj) (u : Value), (((w2.alloc o).alloc o').setCell ⟨w.heap.size + 1 + 1 + 1 + 1 + 1 + 1, 3, none⟩ u).cell? ⟨w.heap.size + 1 + 1 + 1 + 1 + 1 + 1, 0, none⟩ = some (.int .i64 2) := fun o o' u => cell_of_row _ _ 0 _ _ _ (hbs o o' u)
 have t1 : ∀ (o o' : Obj) (u : Value), (((w2.alloc o).alloc o').setCell ⟨w.heap.size + 1 + 1 + 1 + 1 + 1 + 1, 3, none⟩ u).cell? ⟨w.heap.size + 1 + 1 + 1 + 1 + 1 + 1, 1, none⟩ = some (.slice (some ⟨w.heap.size + 1 + 1, 0, none⟩) 2 2) := fun o o' u => cell_of_row _ _ 1 _ _ _ (hbs o o' u)
 have t2 : ∀ (o o' : Obj) (u : Value), (((w2.alloc o).alloc o').setCell ⟨w.heap.size + 1 + 1 + 1 + 1 + 1 + 1, 3, none⟩ u).cell? ⟨w.heap.size + 1 + 1 + 1 + 1 + 1 + 1, 2, none⟩ = some (.slice (some ⟨w.heap.size + 1 + 1 + 1, 0, none⟩) 2 2) := fun o o' u => cell_of_row _ _ 2 _ _ _ (hbs o o' u)
 have t3 : ∀ (o o' : Obj) (u : Value), (((w2.alloc o).alloc o').setCell ⟨w.heap.size + 1 + 1 + 1 + 1 + 1 + 1, 3, none⟩ u).cell? ⟨w.heap.size + 1 + 1 + 1 + 1 + 1 + 1, 3, none⟩ = some u := fun o o' u => cell_of_row _ _ 3 _ _ _ (hbs o o' u)
 clear hbo hbs
 have Hb2 := hid hb2
 have Hg := hid (And.intro hg hg2)
 clear hbox hg hg2 hb2
 have hcb := HcB.out w2 4 u Hb2.out
 unfold FRunPost at hcb
 rw [HeB.out] at hcb
 have HcB2 := hid hcb
 clear hcb HcB
 go_wp2_with fail
 refine HcB2.out.mono ?_
 rintro e w3 ⟨_, rfl, v, rfl, h1, _, hb3⟩
 have o1 := h1 trivial
 clear h1 s3 sf t0 t1 t2 t3 HcB2
 rw [exD_solve] at o1
 obtain ⟨gn, capn, rfl, hgn, hgn2, hc⟩ := own_all o1 (by decide)
 have n0 := hc 0 _ rfl; have n1 := hc 1 _ rfl
 obtain ⟨hk, hcnt, _, hz⟩ := wkW2_heap w w2 4 u Hb2.out
 have hm : ∀ i, w3.cell? ⟨g, i, none⟩ = w2.cell? ⟨g, i, none⟩ := fun i => by
  refine World.cell?_of_block ?_
  show w3.heap[g]? = w2.heap[g]?
  rw [hb3.block g (by rw [hz]; have := Hg.out.2; omega)]
  exact hk g Hg.out.2 (by have := Hg.out.1; omega)
 rw [← hm] at c0 c1
 have q0 : w3.cell? ⟨w2.heap.size, 0, none⟩ = some (.int .i64 4) := cell_of_row _ _ 0 _ _ _ ((hb3.block _ (by rw [hz]; omega)).trans hcnt)
 have hfin : Below w.heap.size w w3 := by
  have h1 : Below w.heap.size w w2 := ext_trans (allocs (wkBlocks w.heap.size) w).2.2 Hb2.out
  have h2 : Below w.heap.size w (wkW2 w w2 4 u) := ((h1.alloc (by omega) _).alloc (by simp; omega) _).setCell (by show w.heap.size ≤ w.heap.size + 1 + 1 + 1 + 1 + 1 + 1; omega) _
  exact ext_trans h2 hb3
 clear hk hz hm hc o1 hb3 hcnt
 have Hnum := hid num16_any
 go_wp2_with (go_at_call 15; refine (Hnum.out _ _).mono ?_; rintro e w' ⟨_, rfl, rfl, hw9⟩; rw [hw9]; clear hw9 w')
 go_ret
 exact Fin HQ ⟨rfl, hfin⟩
end Go.Proofs.Lx

namespace Go.Proofs.Lx
open Go Go.RowKit Go.Proofs.Tj
set_option linter.unusedVariables false
set_option linter.unusedSimpArgs false
theorem own_low {w : World} {base base' e size n : Nat} {v : Value} {xs : List Value} (h : w.ownsRow base e size v n xs) (hb : base' ≤ base) : w.ownsRow base' e size v n xs :=
 ⟨h.1, h.2.imp id fun ⟨g, cap, cur, h1, h2, h3⟩ => ⟨g, cap, cur, h1, Nat.le_trans hb h2, h3⟩⟩
/-- The six lists of one round are put into the book. -/
theorem six_kept {w0 w1 w2 w3 w4 w5 w6 : World} (h1 : Below w0.heap.size w0 w1) (h2 : Below w1.heap.size w1 w2) (h3 : Below w2.heap.size w2 w3) (h4 : Below w3.heap.size w3 w4) (h5 : Below w4.heap.size w4 w5) (h6 : Below w5.heap.size w5 w6) :
  Below w0.heap.size w0 w6 ∧ Below w1.heap.size w1 w6 ∧ Below w2.heap.size w2 w6 ∧ Below w3.heap.size w3 w6 ∧ Below w4.heap.size w4 w6 :=
 ⟨ext_trans h1 (ext_trans h2 (ext_trans h3 (ext_trans h4 (ext_trans h5 h6)))), ext_trans h2 (ext_trans h3 (ext_trans h4 (ext_trans h5 h6))), ext_trans h3 (ext_trans h4 (ext_trans h5 h6)), ext_trans h4 (ext_trans h5 h6), ext_trans h5 h6⟩
set_option maxRecDepth 100000 in
set_option maxHeartbeats 3200000 in
theorem lawOwn_any (w : World) (V vl : Value) (T : Th) (l : List Int) (hT : RdTh w V T) (hl : RdI w vl l) :
  Calls Tryz.prog 3 #[V, vl] w (Ret fun v w' => v = .bool true ∧ Below w.heap.size w w') := by
 have HT := hid hT
 have Hl := hid hl
 obtain ⟨vF, vR, vB, rfl, hF, hR, hB⟩ := hT
 obtain ⟨W1, HW1⟩ : ∃ W1, Hid (W1 = w.alloc (.cells #[.int .i64 T.lits, vF, vR, vB] 25)) := ⟨_, hid rfl⟩
 have hb1 : Below w.heap.size w W1 := by rw [HW1.out]; exact ext_alloc _ _
 have Hbox : Hid (∀ W, Below W1.heap.size W1 W → W.cell? ⟨w.heap.size, 0, none⟩ = some (.int .i64 T.lits) ∧ W.cell? ⟨w.heap.size, 1, none⟩ = some vF ∧ W.cell? ⟨w.heap.size, 2, none⟩ = some vR ∧ W.cell? ⟨w.heap.size, 3, none⟩ = some vB) := hid fun W h => by rw [HW1.out] at h; exact box4 h
 have Hrd : Hid (∀ W, Below W1.heap.size W1 W → RdTh W (.agg #[.int .i64 T.lits, vF, vR, vB]) T ∧ RdI W vl l) := hid fun W h => ⟨HT.out.ext (ext_trans hb1 h), Hl.out.ext (scR_mono _) (ext_trans hb1 h)⟩
 have Hw := hid works_any
 have hsz1 : W1.heap.size = w.heap.size + 1 := by rw [HW1.out]; simp
 have Hb1 := hid hb1
 clear hF hR hB hl hb1
 refine post_gen fun Q HQ => ?_
 go_enter Tryz.func3, Tryz.ntmps3
 go_wp2_with fail
 rw [← HW1.out]
 refine (Hw.out W1).mono ?_
 rintro e w2 ⟨_, rfl, rfl, hb2⟩
 have hs2 := hb2.size
 have Hb2 := hid hb2
 have Hst := hid (heap_alloc_new w2 (.cells (bkC (.slice none 0 0) (.slice none 0 0) (.slice none 0 0)) 52))
 clear hb2
 go_wp2_with fail
 go_loopw [6] (fun v6 wr => ∃ i m : Nat, i ≤ 2 ∧ v6 = .int .i64 (i : Int) ∧ m ≤ 6 * i ∧ (∃ vI vM vP, BS wr w2.heap.size m wr.heap.size wr.heap.size wr.heap.size vI vM vP) ∧ Below w2.heap.size w2 wr) (fun v6 _ => 2 - (intOf v6).toNat)
 case atStart => exact ⟨0, 0, by omega, rfl, by omega, ⟨_, _, _, Hst.out, KV.nil _ _ _ _ _ _, KV.nil _ _ _ _ _ _, KV.nil _ _ _ _ _ _⟩, ext_alloc _ _⟩
 case round =>
  clear Hst
  obtain ⟨i, m, hi, rfl, hm, ⟨vI, vM, vP, hbs⟩, hbl⟩ := hrel
  obtain ⟨wo, rfl⟩ : ∃ wo : World, wo = wr := ⟨_, rfl⟩
  have Hbs := hid hbs
  have hw := ext_trans Hb2.out hbl
  have hlb := lt_of_block hbs.box
  have Hbl := hid hbl
  clear hbs hbl
  by_cases hi2 : i < 2
  ·obtain ⟨a0, a1, a2, a3⟩ := Hbox.out wo hw
   have hc := hid (ansRun wo _ vl T l (Hrd.out wo hw).1 (Hrd.out wo hw).2)
   go_wp2_with fail
   refine hc.out.mono ?_
   rintro e y1 ⟨_, rfl, va, ca, rfl, A1, n1, c1, x1, rfl, hn1, ho1, hy1⟩
   have hw1 := ext_trans hw hy1
   clear hc a0 a1 a2 a3
   obtain ⟨a0, a1, a2, a3⟩ := Hbox.out y1 hw1
   have hc := hid (ansCount y1 _ vl T l (Hrd.out y1 hw1).1 (Hrd.out y1 hw1).2)
   have Ho1 := hid ho1
   clear ho1
   have hz1 := hw1.size
   go_wp2_with fail
   refine hc.out.mono ?_
   rintro e y2 ⟨_, rfl, vb, q9, u9, cb, rfl, A2, n2, c2, x2, rfl, hn2, ho2, hy2⟩
   obtain ⟨y2', H2'⟩ : ∃ y2', Hid (y2' = y2.alloc (.cells #[.int .i64 q9, .int .i64 u9] 58)) := ⟨_, hid rfl⟩
   have hy2' : Below y2.heap.size y2 y2' := by rw [H2'.out]; exact ext_alloc _ _
   have hw2 := ext_trans hw1 hy2
   have hw2' := ext_trans hw2 hy2'
   clear hc a0 a1 a2 a3
   have hz2 := hw2.size
   obtain ⟨a0, a1, a2, a3⟩ := Hbox.out y2' hw2'
   rw [H2'.out] at a0 a1 a2 a3
   have hc := hid (ansOrder y2' _ vl T l (Hrd.out y2' hw2').1 (Hrd.out y2' hw2').2)
   have Ho2 := hid ho2
   clear ho2
   go_wp2_with fail
   rw [← H2'.out]
   refine hc.out.mono ?_
   rintro e y3 ⟨_, rfl, vc, cc, rfl, A3, n3, c3, x3, rfl, hn3, ho3, hy3⟩
   have hw3 := ext_trans hw2' hy3
   clear hc a0 a1 a2 a3
   obtain ⟨a0, a1, a2, a3⟩ := Hbox.out y3 hw3
   have hc := hid (ansSet y3 _ vl T l (Hrd.out y3 hw3).1 (Hrd.out y3 hw3).2 3)
   have Ho3 := hid ho3
   clear ho3
   go_wp2_with fail
   refine hc.out.mono ?_
   rintro e y4 ⟨_, rfl, vd, cd, rfl, A4, n4, c4, x4, rfl, hn4, ho4, hy4⟩
   have hw4 := ext_trans hw3 hy4
   clear hc a0 a1 a2 a3
   obtain ⟨a0, a1, a2, a3⟩ := Hbox.out y4 hw4
   have hc := hid (ansUnd y4 _ vl T l (Hrd.out y4 hw4).1 (Hrd.out y4 hw4).2)
   have Ho4 := hid ho4
   clear ho4
   go_wp2_with fail
   refine hc.out.mono ?_
   rintro e y5 ⟨_, rfl, vf, cf, rfl, A5, n5, c5, x5, rfl, hn5, ho5, hy5⟩
   have hw5 := ext_trans hw4 hy5
   clear hc a0 a1 a2 a3
   obtain ⟨a0, a1, a2, a3⟩ := Hbox.out y5 hw5
   have hc := hid (ansDif y5 _ vl T l (Hrd.out y5 hw5).1 (Hrd.out y5 hw5).2)
   have Ho5 := hid ho5
   clear ho5
   go_wp2_with fail
   refine hc.out.mono ?_
   rintro e y6 ⟨_, rfl, vg, cg, rfl, A6, n6, c6, x6, rfl, hn6, ho6, hy6⟩
   clear hc a0 a1 a2 a3
   have Ho6 := hid ho6
   clear ho6
   obtain ⟨k0, k1, k2, k3, k4⟩ := six_kept hy1 (ext_trans hy2 hy2') hy3 hy4 hy5 hy6
   have e1 := hy1.size
   have e2 := hy2.size
   have e2' := hy2'.size
   have e3 := hy3.size
   have e4 := hy4.size
   have e5 := hy5.size
   have e6 := hy6.size
   have Hm6 := hid (k0.mono (show w2.heap.size ≤ wo.heap.size by omega))
   have hbs6 := Hbs.out.ext k0
   have hp1 := hid (putM_any y6 w2.heap.size m _ _ _ y1.heap.size vI vM vP A1 n1 c1 x1 hbs6 (fun _ => (Kp.of k1).own (.inr (.inl rfl)) Ho1.out) hn1 e1 (fun g hg => (Ho1.out.lt g hg).2) hlb (by omega))
   have Kb := hid (Kp.of (ext_trans hy2' (ext_trans hy3 (ext_trans hy4 (ext_trans hy5 hy6)))))
   have Kc := hid (Kp.of k3)
   have Kd := hid (Kp.of k4)
   have Kf := hid (Kp.of hy6)
   clear k0 k1 k2 k3 k4 hy1 hy2 hy2' hy3 hy4 hy5 hy6 hbs6 hw1 hw2 hw2' hw3 hw4 hw5 hw
   go_wp2_with fail
   refine hp1.out.mono ?_
   rintro e z1 ⟨_, rfl, rfl, ⟨vI1, vM1, vP1, hs1⟩, hk1, hq1⟩
   have hp2 := hid (putM_any z1 w2.heap.size (m + 1) _ _ _ y2.heap.size vI1 vM1 vP1 A2 n2 c2 x2 hs1 (fun _ => (Kb.out.trans hk1).own (.inr (.inl rfl)) Ho2.out) hn2 e2 (fun g hg => (Ho2.out.lt g hg).2) (by omega) (by omega))
   clear hp1 hs1
   go_wp2_with fail
   refine hp2.out.mono ?_
   rintro e z2 ⟨_, rfl, rfl, ⟨vI2, vM2, vP2, hs2⟩, hk2, hq2⟩
   have hk02 := hk1.trans hk2
   have hp3 := hid (putP_any z2 w2.heap.size (m + 1 + 1) _ _ _ y3.heap.size vI2 vM2 vP2 A3 n3 c3 x3 hs2 (fun _ => own_low ((Kc.out.trans hk02).own (.inr (.inr rfl)) Ho3.out) (by omega)) hn3 (by omega) (fun g hg => (Ho3.out.lt g hg).2) (by omega) (by omega))
   clear hp2 hs2
   go_wp2_with fail
   refine hp3.out.mono ?_
   rintro e z3 ⟨_, rfl, rfl, ⟨vI3, vM3, vP3, hs3⟩, hk3, hq3⟩
   have hk03 := hk02.trans hk3
   have hp4 := hid (putI_any z3 w2.heap.size (m + 1 + 1 + 1) _ _ _ y4.heap.size vI3 vM3 vP3 A4 n4 c4 x4 hs3 (fun _ => own_low ((Kd.out.trans hk03).own (.inl rfl) Ho4.out) (by omega)) hn4 (by omega) (fun g hg => (Ho4.out.lt g hg).2) (by omega) (by omega))
   clear hp3 hs3
   go_wp2_with fail
   refine hp4.out.mono ?_
   rintro e z4 ⟨_, rfl, rfl, ⟨vI4, vM4, vP4, hs4⟩, hk4, hq4⟩
   have hk04 := hk03.trans hk4
   have hp5 := hid (putI_any z4 w2.heap.size (m + 1 + 1 + 1 + 1) _ _ _ y5.heap.size vI4 vM4 vP4 A5 n5 c5 x5 hs4 (fun _ => (Kf.out.trans hk04).own (.inl rfl) Ho5.out) hn5 (by omega) (fun g hg => (Ho5.out.lt g hg).2) (by omega) (by omega))
   clear hp4 hs4
   go_wp2_with fail
   refine hp5.out.mono ?_
   rintro e z5 ⟨_, rfl, rfl, ⟨vI5, vM5, vP5, hs5⟩, hk5, hq5⟩
   have hk05 := hk04.trans hk5
   have hp6 := hid (putI_any z5 w2.heap.size (m + 1 + 1 + 1 + 1 + 1) _ _ _ y6.heap.size vI5 vM5 vP5 A6 n6 c6 x6 hs5 (fun _ => hk05.own (.inl rfl) Ho6.out) hn6 (by omega) (fun g hg => (Ho6.out.lt g hg).2) (by omega) (by omega))
   clear hp5 hs5
   go_wp2_with fail
   refine hp6.out.mono ?_
   rintro e z6 ⟨_, rfl, rfl, ⟨vI6, vM6, vP6, hs6⟩, hk6, hq6⟩
   have hk06 := hk05.trans hk6
   have Hfin := hid (Hbl.out.trans (Hm6.out.trans (hq1.trans (hq2.trans (hq3.trans (hq4.trans (hq5.trans hq6)))))))
   have Hs6 := hid hs6
   have hz6 := hk06.1
   clear hp6 hs6 hq1 hq2 hq3 hq4 hq5 hq6
   go_wp2_with fail
   go_roundw
   case rel => exact ⟨i + 1, m + 6, by omega, by go_num, by omega, ⟨_, _, _, Hs6.out.mono (by omega) (by omega) (by omega) (by omega)⟩, Hfin.out⟩
   case measure => simp [intOf]; omega
  ·obtain rfl : i = 2 := by omega
   have hp := hid (apart_any wo w2.heap.size m _ _ _ vI vM vP Hbs.out (by omega))
   go_wp2_with fail
   refine hp.out.mono ?_
   rintro e w9 ⟨_, rfl, rfl, hb9⟩
   have Hfin := hid (ext_trans Hb1.out (ext_trans Hb2.out (Hbl.out.trans hb9)))
   go_wp2_with fail
   go_ret
   exact Fin HQ ⟨rfl, Hfin.out⟩
end Go.Proofs.Lx

namespace Go.Proofs.Lx
open Go Go.RowKit Go.ChangeShapes Go.WideShapes Go.ChangeAt Go.Joins Go.Deep
set_option linter.unusedSimpArgs false
set_option linter.unusedVariables false

instance : Inhabited { y : Nat // y < 256 } := ⟨⟨0, by decide⟩⟩
section
variable {H : Type} {enc : TypeId × Value → H} {P : Program} {w : World} {base : Nat} {held : Bool}
/-- Each part is within the form's reach. -/
def Fits (P : Program) (t : TypeId) (d : DataW H) : Prop := ∀ n ∈ d.weights P t, n ≤ reachBytes
theorem weightsAll_mem {e : TypeId} {d : DataW H} : ∀ {ds : List (DataW H)}, d ∈ ds → ∀ n ∈ d.weights P e, n ∈ DataW.weightsAll P e ds
 | [], h => by simp at h
 | x :: ds, h => fun n hn => by
  rw [DataW.weightsAll, List.mem_append]
  rcases List.mem_cons.1 h with rfl | h
  ·exact .inl hn
  ·exact .inr (weightsAll_mem h n hn)
theorem Fits.elems {t e : TypeId} {es sp : List (DataW H)} (ht : P.underlying t = some (.slice e)) (h : Fits P t (.slice es sp)) :
  (es.length + sp.length) * P.bytesOf e ≤ reachBytes ∧ ∀ d ∈ es, Fits P e d := by
 have hw : (DataW.slice es sp).weights P t = (es.length + sp.length) * P.bytesOf e :: (DataW.weightsAll P e es ++ DataW.weightsAll P e sp) := by simp [DataW.weights, ht]
 unfold Fits at h
 rw [hw] at h
 exact ⟨h _ List.mem_cons_self, fun d hd n hn => h n (List.mem_cons_of_mem _ (List.mem_append_left _ (weightsAll_mem hd n hn)))⟩
theorem each_mem : ∀ {ts : List TypeId} {ds : List (DataW H)} {j : Nat} {t : TypeId} {d : DataW H}, ts[j]? = some t → ds[j]? = some d → ∀ n ∈ d.weights P t, n ∈ DataW.weightsEach P ts ds
 | [], _, _, _, _, h, _ => by simp at h
 | _ :: _, [], _, _, _, _, h => by simp at h
 | t0 :: ts, d0 :: ds, j, t, d, ht, hd => fun n hn => by
  rw [DataW.weightsEach, List.mem_append]
  match j, ht, hd with
  | 0, ht, hd =>
   simp at ht hd; subst ht; subst hd
   exact .inl hn
  | j + 1, ht, hd => exact .inr (each_mem (j := j) (by simpa using ht) (by simpa using hd) n hn)
theorem Fits.part {t u : TypeId} {fs : Array Field} {ps : List (DataW H)} {d : DataW H} (ht : P.underlying t = some (.struct fs)) (h : Fits P t (.agg ps)) (j : Nat) (hj : (fs.toList.map (·.type))[j]? = some u) (hd : ps[j]? = some d) : Fits P u d := by
 have hw : (DataW.agg ps).weights P t = DataW.weightsEach P (fs.toList.map (·.type)) ps := by simp [DataW.weights, ht]
 unfold Fits at h
 rw [hw] at h
 exact fun n hn => h n (each_mem hj hd n hn)
theorem Fits.arg {ts : List TypeId} {ds : List (DataW H)} (h : (DataW.weightsEach P ts ds).all (· ≤ reachBytes) = true) (j : Nat) {t : TypeId} {d : DataW H} (ht : ts[j]? = some t) (hd : ds[j]? = some d) : Fits P t d := fun n hn => by
 have := List.all_eq_true.1 h n (each_mem ht hd n hn)
 simpa using this

/-- A slice that reads, as a list. -/
theorem rd_trod {α : Type} [Inhabited α] {sz : Nat} {R : World → α → List Value → Prop} {t e : TypeId} {v : Value} {fuel : Nat} {x : DataW H × List MemPlace} (ht : P.underlying t = some (.slice e)) (hc : P.cellsOf e = sz) (hby : 1 ≤ P.bytesOf e)
  (elem : ∀ n cs (y : DataW H × List MemPlace), cs.length = sz → DataW.trod enc P w base (fun _ => true) held n e cs = some y → Fits P e y.1 → ∃ a : α, R w a cs)
  (h : DataW.trod enc P w base (fun _ => true) held fuel t [v] = some x) (hf : Fits P t x.1) : ∃ ys : List α, Rd sz R w v ys := by
 rcases open_slice ht h with ⟨hcs, hx⟩ | ⟨a, len, cap, m, n, D, Pl, hcs, hb, hl, hm, hmm, rfl, hel⟩
 ·simp only [List.cons.injEq, and_true] at hcs
  subst hcs
  exact ⟨[], Rd.nil⟩
 ·simp only [List.cons.injEq, and_true] at hcs
  subst hcs
  simp only [if_true] at hmm
  subst hmm
  obtain ⟨h1, h2⟩ := hf.elems ht
  have hlen : len ≤ 140737488355328 := by
   simp only [List.length_map, List.length_range, reachBytes] at h1
   have : len * 1 ≤ (len + (m - len)) * P.bytesOf e := Nat.mul_le_mul (by omega) hby
   omega
  obtain ⟨f, hfam⟩ := choose_lt (α := α) (n := len) (p := fun i y => ∃ cs', cs'.length = sz ∧ R w y cs' ∧ ∀ j, j < sz → w.cell? ((a.add (i * sz)).add j) = cs'[j]?) (fun i hi => by
   obtain ⟨cs', c1, c2⟩ := hel i (by omega)
   obtain ⟨_, c3, c4⟩ := World.cells?_some c1
   rw [hc] at c3 c4
   obtain ⟨y, hy⟩ := elem _ _ _ c3 c2 (h2 _ (List.mem_map.2 ⟨i, List.mem_range.2 hi, rfl⟩))
   exact ⟨y, cs', c3, hy, c4⟩)
  refine ⟨(List.range len).map f, some a, m, by simp, by simp; omega, by simp; omega, fun i hi => ?_⟩
  simp only [List.length_map, List.length_range] at hi
  obtain ⟨cs', c1, c2, c3⟩ := hfam i hi
  refine ⟨a, cs', rfl, by simpa using c2, c1, fun j u hu => ?_⟩
  have hj : j < sz := by rw [← c1]; exact (List.getElem?_eq_some_iff.1 hu).1
  rw [← add_add, c3 j hj, hu]
theorem rd_ints {t e : TypeId} {k : IntKind} {v : Value} {fuel : Nat} {x : DataW H × List MemPlace} (ht : P.underlying t = some (.slice e)) (he : P.underlying e = some (.int k)) (hc : P.cellsOf e = 1) (hby : 1 ≤ P.bytesOf e)
  (h : DataW.trod enc P w base (fun _ => true) held fuel t [v] = some x) (hf : Fits P t x.1) : ∃ ys : List Int, Rd 1 (scR (Value.int k)) w v ys := by
 refine rd_trod ht hc hby (fun n cs y _ hy _ => ?_) h hf
 obtain ⟨z, rfl, _⟩ := DataW.trod_int he hy
 exact ⟨z, rfl⟩
theorem rd_bytes {t e : TypeId} {v : Value} {fuel : Nat} {x : DataW H × List MemPlace} (ht : P.underlying t = some (.slice e)) (he : P.underlying e = some (.int .u8)) (hc : P.cellsOf e = 1) (hby : 1 ≤ P.bytesOf e)
  (h : DataW.trod enc P w base (fun _ => true) held fuel t [v] = some x) (hf : Fits P t x.1) : ∃ ys : List Nat, Rd 1 (scR fun x : Nat => Value.int .u8 (x : Int)) w v ys ∧ ∀ y ∈ ys, y < 256 := by
 obtain ⟨ys, hys⟩ := rd_trod (α := { y : Nat // y < 256 }) (R := scR fun x : { y : Nat // y < 256 } => Value.int .u8 (x.val : Int)) ht hc hby (fun n cs y _ hy _ => by
  obtain ⟨z, rfl, _, hw⟩ := DataW.trod_int he hy
  have hz : 0 ≤ z ∧ z ≤ 255 := by simpa [Lit.wf, IntKind.min, IntKind.max, IntKind.signed, IntKind.bits] using hw
  refine ⟨⟨z.toNat, by omega⟩, ?_⟩
  show [Value.int .u8 z] = [Value.int .u8 ((z.toNat : Nat) : Int)]
  rw [show ((z.toNat : Nat) : Int) = z by omega]) h hf
 refine ⟨ys.map (·.val), ?_, by simp; intro a ha h; exact ha⟩
 obtain ⟨A, c, rfl, h1, h2, h3⟩ := hys
 refine ⟨A, c, by simp, by simpa using h1, by simpa using h2, fun i hi => ?_⟩
 obtain ⟨ad, cs, e1, e2, e3, e4⟩ := h3 i (by simpa using hi)
 exact ⟨ad, cs, e1, by simpa [scR] using e2, e3, e4⟩
theorem rd_rows {t e q : TypeId} {k : IntKind} {v : Value} {fuel : Nat} {x : DataW H × List MemPlace} (ht : P.underlying t = some (.slice e)) (he : P.underlying e = some (.slice q)) (hq : P.underlying q = some (.int k)) (hc : P.cellsOf e = 1) (hcq : P.cellsOf q = 1) (hby : 1 ≤ P.bytesOf e) (hbq : 1 ≤ P.bytesOf q)
  (h : DataW.trod enc P w base (fun _ => true) held fuel t [v] = some x) (hf : Fits P t x.1) : ∃ ys : List (List Int), Rd 1 (rowR 1 (scR (Value.int k))) w v ys := by
 refine rd_trod ht hc hby (fun n cs y hl hy hfy => ?_) h hf
 match cs, hl with
 | [u], _ =>
  obtain ⟨ys, hys⟩ := rd_ints he hq hcq hbq hy hfy
  exact ⟨ys, u, rfl, hys⟩
theorem rd_rules {t e ti : TypeId} {f0 f1 f2 : Field} {v : Value} {fuel : Nat} {x : DataW H × List MemPlace} (ht : P.underlying t = some (.slice e)) (he : P.underlying e = some (.struct #[f0, f1, f2])) (hc : P.cellsOf e = 3) (hby : 1 ≤ P.bytesOf e)
  (o0 : f0.offset = 0) (o1 : f1.offset = 1) (o2 : f2.offset = 2) (u0 : P.underlying f0.type = some (.int .i64)) (u1 : P.underlying f1.type = some (.int .i64)) (u2 : P.underlying f2.type = some (.slice ti)) (ui : P.underlying ti = some (.int .i64))
  (c0 : P.cellsOf f0.type = 1) (c1 : P.cellsOf f1.type = 1) (c2 : P.cellsOf f2.type = 1) (ci : P.cellsOf ti = 1) (bi : 1 ≤ P.bytesOf ti)
  (h : DataW.trod enc P w base (fun _ => true) held fuel t [v] = some x) (hf : Fits P t x.1) : ∃ ys : List Rule, Rd 3 ruleR w v ys := by
 refine rd_trod ht hc hby (fun n cs y hl hy hfy => ?_) h hf
 match cs, hl with
 | [a, b, c], _ =>
  obtain ⟨y0, y1, y2, n', hy', _, h0, h1, h2⟩ := trod_struct3 he hy
  subst hy'
  rw [o0, c0] at h0; rw [o1, c1] at h1; rw [o2, c2] at h2
  simp at h0 h1 h2
  obtain ⟨z0, e0, _⟩ := DataW.trod_int u0 h0
  obtain ⟨z1, e1, _⟩ := DataW.trod_int u1 h1
  simp at e0 e1
  obtain ⟨ys, hys⟩ := rd_ints u2 ui ci bi h2 (hfy.part he 2 rfl rfl)
  exact ⟨⟨z0, z1, ys⟩, c, by rw [e0, e1], hys⟩
end
end Go.Proofs.Lx

namespace Go.Proofs.Lx
open Go Go.RowKit Go.ChangeShapes Go.WideShapes Go.ChangeAt Go.Joins Go.Deep
set_option linter.unusedSimpArgs false
set_option linter.unusedVariables false

theorem ownTry : ownKnob Tryz.prog.godebug = none := by kernel_rfl
theorem laidTry : laidOutB Tryz.prog = true := by kernel_rfl
theorem cellsTheory : Tryz.prog.cellsOf 25 = 4 := by kernel_rfl
theorem cellsRule : Tryz.prog.cellsOf 75 = 3 := by kernel_rfl
theorem cellsInt : Tryz.prog.cellsOf 3 = 1 := by kernel_rfl
theorem cellsInts : Tryz.prog.cellsOf 26 = 1 := by kernel_rfl
theorem cellsKind : Tryz.prog.cellsOf 73 = 1 := by kernel_rfl
theorem cellsMark : Tryz.prog.cellsOf 77 = 1 := by kernel_rfl
theorem bytesInt : 1 ≤ Tryz.prog.bytesOf 3 := of_decide_eq_true (by kernel_rfl)
theorem bytesInts : 1 ≤ Tryz.prog.bytesOf 26 := of_decide_eq_true (by kernel_rfl)
theorem bytesRule : 1 ≤ Tryz.prog.bytesOf 75 := of_decide_eq_true (by kernel_rfl)
theorem bytesMark : 1 ≤ Tryz.prog.bytesOf 77 := of_decide_eq_true (by kernel_rfl)
theorem oneTheory : ∀ fs, Tryz.prog.underlying 25 = some (.struct fs) → oneCellFields Tryz.prog fs = true := by
 intro fs h
 rw [Tryz.underlying25] at h
 cases h; kernel_rfl
section
variable {H : Type} {enc : TypeId × Value → H} {w : World} {base : Nat}
set_option maxRecDepth 100000 in
theorem rd_ints_arg {v : Value} {d : DataW H} {p : List MemPlace} (hv : Value.okWide Tryz.prog w .any base 26 v) (h : DataW.Trod enc Tryz.prog w 0 (fun _ => true) true 26 v d p) (hf : Fits Tryz.prog 26 d) : ∃ l, RdI w v l := by
 obtain ⟨a0, len, cap, rfl⟩ := okWide_slice Tryz.underlying26 hv
 obtain ⟨fuel, h⟩ := h
 exact rd_ints Tryz.underlying26 Tryz.underlying3 cellsInt bytesInt h hf
set_option maxRecDepth 100000 in
theorem rd_marks_arg {v : Value} {d : DataW H} {p : List MemPlace} (hv : Value.okWide Tryz.prog w .any base 53 v) (h : DataW.Trod enc Tryz.prog w 0 (fun _ => true) true 53 v d p) (hf : Fits Tryz.prog 53 d) :
  ∃ l : List Nat, Rd 1 (scR fun x : Nat => Value.int .u8 (x : Int)) w v l ∧ ∀ x ∈ l, x < 256 := by
 obtain ⟨a0, len, cap, rfl⟩ := okWide_slice Tryz.underlying53 hv
 obtain ⟨fuel, h⟩ := h
 exact rd_bytes Tryz.underlying53 Tryz.underlying77 cellsMark bytesMark h hf
set_option maxRecDepth 100000 in
theorem rd_theory {v : Value} {d : DataW H} {p : List MemPlace} (hv : Value.okWide Tryz.prog w .any base 25 v) (h : DataW.Trod enc Tryz.prog w 0 (fun _ => true) true 25 v d p) (hf : Fits Tryz.prog 25 d) : ∃ T, RdTh w v T := by
 obtain ⟨v0, v1, v2, v3, y0, y1, y2, y3, n, rfl, rfl, _, h0, h1, h2, h3⟩ := open_agg4 Tryz.underlying25 (oneTheory _ Tryz.underlying25) cellsTheory hv h
 obtain ⟨z0, e0, _⟩ := DataW.trod_int Tryz.underlying3 h0
 simp only [List.cons.injEq, and_true] at e0
 subst e0
 obtain ⟨fo, hfo⟩ := rd_rows Tryz.underlying22 Tryz.underlying26 Tryz.underlying3 cellsInts cellsInt bytesInts bytesInt h1 (hf.part Tryz.underlying25 1 rfl rfl)
 obtain ⟨rs, hrs⟩ := rd_rules Tryz.underlying23 Tryz.underlying75 cellsRule bytesRule rfl rfl rfl Tryz.underlying73 Tryz.underlying3 Tryz.underlying26 Tryz.underlying3 cellsKind cellsInt cellsInts cellsInt bytesInt h2 (hf.part Tryz.underlying25 2 rfl rfl)
 obtain ⟨bs, hbs⟩ := rd_rows Tryz.underlying22 Tryz.underlying26 Tryz.underlying3 cellsInts cellsInt bytesInts bytesInt h3 (hf.part Tryz.underlying25 3 rfl rfl)
 exact ⟨⟨z0, fo, rs, bs⟩, v1, v2, v3, rfl, hfo, hrs, hbs⟩
end
end Go.Proofs.Lx
