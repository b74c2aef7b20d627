/- Parts of the proof: Fb, Fc. lay: the region in which its slices are made, whatever the order. No condition. -/
import Derived.Test.YtalhpldbhogadaaGreatO17
import Derived.Test.YtalhpldbhogadaaGreatO1
namespace Go.Proofs.Lx
open Go Go.RowKit Go.Proofs.Tj
set_option linter.unusedVariables false
set_option linter.unusedSimpArgs false

def lenJ (n m j : Nat) : Nat := if srcJ j = 6 then m else n
def valJ (g : Nat → Nat) (n m : Nat) (V : Value) (i : Nat) : Value :=
 if i = 0 then V else if i % 2 = 1 then .int .i64 (lenJ n m ((i - 1) / 2) : Int) else sl (g (i / 2 - 1)) (lenJ n m (i / 2 - 1))
theorem valJ_move (g : Nat → Nat) (n m : Nat) (V : Value) (j : Nat) : valJ g n m V (1 + 2 * j) = .int .i64 (lenJ n m j : Int) := by
 unfold valJ; rw [if_neg (by omega), if_pos (by omega), show (1 + 2 * j - 1) / 2 = j by omega]
theorem valJ_make (g : Nat → Nat) (n m : Nat) (V : Value) (j : Nat) : valJ g n m V (2 + 2 * j) = sl (g j) (lenJ n m j) := by
 unfold valJ; rw [if_neg (by omega), if_neg (by omega), show (2 + 2 * j) / 2 - 1 = j by omega]
def cellsJ (n m j : Nat) : Obj := .cells (List.replicate (lenJ n m j) (zJ j)).toArray (etJ j) (0, 0)
theorem made_rep (z : Value) (n : Nat) : madeCells #[z] n = (List.replicate n z).toArray := by rw [← Array.toList_inj, toList_madeCells_one]
theorem make_at (n m : Nat) (hn : n ≤ 4096) (hm : m ≤ 4096) : ∀ j, j < 15 → ∀ W : World, (Instr.makeSlice (tyJ j) (.int .i64 (lenJ n m j : Int)) (.int .i64 (lenJ n m j : Int))).run Tryz.prog W = .ok (sl W.heap.size (lenJ n m j)) (W.alloc (cellsJ n m j)) := by
 have kM := fun (k : Nat) (hk : k ≤ 4096) => mkM (k : Int) (by omega) (by omega)
 have kI := fun (k : Nat) (hk : k ≤ 4096) => mkI (k : Int) (by omega) (by omega)
 have kB := fun (k : Nat) (hk : k ≤ 4096) => mkB (k : Int) (by omega) (by omega)
 have kL := fun (k : Nat) (hk : k ≤ 4096) => mkL (k : Int) (by omega) (by omega)
 simp only [made_rep, Int.toNat_natCast] at kM kI kB kL
 exact lt15 ⟨kM n hn, kL n hn, kI m hm, kI m hm, kB m hm, kB m hm, kI n hn, kI n hn, kB n hn, kI n hn, kB n hn, kI n hn, kB n hn, kL m hm, kL m hm⟩

structure MI (t0 : Array Value) (w0 : World) (n m : Nat) (V : Value) (listed : Array Bool) (a : Act) (w : World) (g : Nat → Nat) : Prop where
 sz : listed.size = 34
 df : a.defers = []
 ts : a.tmps.size = t0.size
 tv1 : ∀ i, i < 31 → listed.getD i false = true → a.tmps[32 + i]? = some (valJ g n m V i)
 tv2 : ∀ s, (s < 32 ∨ 63 ≤ s) → a.tmps[s]? = t0[s]?
 bl : Below w0.heap.size w0 w
 bk : ∀ j, j < 15 → listed.getD (2 + 2 * j) false = true → w0.heap.size ≤ g j ∧ w.heap[g j]? = some (cellsJ n m j)
 ne : ∀ i j, i < 15 → j < 15 → i ≠ j → listed.getD (2 + 2 * i) false = true → listed.getD (2 + 2 * j) false = true → g i ≠ g j
 cl : ∀ j, j < 15 → listed.getD (2 + 2 * j) false = true → listed.getD (1 + 2 * j) false = true
 t31 : listed.getD 31 true = false
 t32 : listed.getD 32 true = false
 t33 : listed.getD 33 true = false
def MInv (t0 : Array Value) (w0 : World) (n m : Nat) (V : Value) (listed : Array Bool) (a : Act) (w : World) : Prop := ∃ g, MI t0 w0 n m V listed a w g

theorem eval_tmp (a : Act) (s : Nat) {v : Value} (h : a.tmps[s]? = some v) : a.eval (.tmp s) = v := by
 show a.tmps.getD s undef = v
 rw [Array.getD_eq_getD_getElem?, h]; rfl
theorem put_at (a : Act) (d : Nat) (v : Value) (s : Nat) : (a.put (some d) v).tmps[s]? = if d = s then (if s < a.tmps.size then some v else none) else a.tmps[s]? := by
 show (a.tmps.setIfInBounds d v)[s]? = _
 rw [Array.getElem?_setIfInBounds]
 by_cases e : d = s
 ·subst e; simp
 ·rw [if_neg e, if_neg e]
theorem getD_set_or {listed : Array Bool} {i j : Nat} (h : (listed.setIfInBounds i true).getD j false = true) : j = i ∨ listed.getD j false = true := by
 by_cases e : i = j
 ·exact .inl e.symm
 ·rw [getD_set_ne false e] at h; exact .inr h
section
variable {t0 : Array Value} {w0 : World} {n m : Nat} {V : Value} {listed : Array Bool} {a : Act} {w : World} {g : Nat → Nat}
/-- A step that makes no block. -/
theorem MI.plain (h : MI t0 w0 n m V listed a w g) (ht : t0.size = 369) {i : Nat} (hi : i < 31) (hev : i = 0 ∨ i % 2 = 1) : MI t0 w0 n m V (listed.setIfInBounds i true) (a.put (some (32 + i)) (valJ g n m V i)) w g := by
 refine ⟨by simpa using h.sz, h.df, by show (a.tmps.setIfInBounds _ _).size = _; simpa using h.ts, fun k hk hl => ?_, fun s hs => ?_, h.bl, fun j hj hl => ?_, fun i' j hi' hj hne h1 h2 => ?_, fun j hj hl => ?_, ?_, ?_, ?_⟩
 ·rw [put_at]
  by_cases e : i = k
  ·subst e; rw [if_pos rfl, if_pos (by rw [h.ts]; omega)]
  ·rw [if_neg (by omega)]
   rcases getD_set_or hl with e2 | e2
   ·exact absurd e2.symm e
   ·exact h.tv1 k hk e2
 ·rw [put_at, if_neg (by omega)]; exact h.tv2 s hs
 ·rcases getD_set_or hl with e2 | e2
  ·omega
  ·exact h.bk j hj e2
 ·rcases getD_set_or h1 with e2 | e2
  ·omega
  ·rcases getD_set_or h2 with e3 | e3
   ·omega
   ·exact h.ne i' j hi' hj hne e2 e3
 ·rcases getD_set_or hl with e2 | e2
  ·omega
  ·exact getD_set_true (h.cl j hj e2)
 ·rw [getD_set_ne true (by omega)]; exact h.t31
 ·rw [getD_set_ne true (by omega)]; exact h.t32
 ·rw [getD_set_ne true (by omega)]; exact h.t33
/-- A step that makes block j. -/
theorem MI.make (h : MI t0 w0 n m V listed a w g) (ht : t0.size = 369) {j : Nat} (hj : j < 15) (hu : listed.getD (2 + 2 * j) true = false) (hd : listed.getD (1 + 2 * j) false = true) :
  MI t0 w0 n m V (listed.setIfInBounds (2 + 2 * j) true) (a.put (some (34 + 2 * j)) (sl w.heap.size (lenJ n m j))) (w.alloc (cellsJ n m j)) (Tj.upd g j w.heap.size) := by
 have hu' : listed.getD (2 + 2 * j) false = false := getD_both hu
 have hold : ∀ k, k < 15 → k ≠ j → Tj.upd g j w.heap.size k = g k := fun k _ hk => Tj.upd_ne hk
 refine ⟨by simpa using h.sz, h.df, by show (a.tmps.setIfInBounds _ _).size = _; simpa using h.ts, fun k hk hl => ?_, fun s hs => ?_, h.bl.alloc h.bl.size _, fun k hk hl => ?_, fun i' k hi' hk hne h1 h2 => ?_, fun k hk hl => ?_, ?_, ?_, ?_⟩
 ·rw [put_at]
  by_cases e : 2 + 2 * j = k
  ·subst e; rw [if_pos (by omega), if_pos (by rw [h.ts]; omega), valJ_make, Tj.upd_same]
  ·rw [if_neg (by omega)]
   rcases getD_set_or hl with e2 | e2
   ·exact absurd e2.symm e
   ·rw [h.tv1 k hk e2]
    congr 1
    unfold valJ
    by_cases k0 : k = 0
    ·rw [if_pos k0, if_pos k0]
    ·rw [if_neg k0, if_neg k0]
     by_cases k1 : k % 2 = 1
     ·rw [if_pos k1, if_pos k1]
     ·rw [if_neg k1, if_neg k1, Tj.upd_ne (by omega)]
 ·rw [put_at, if_neg (by omega)]; exact h.tv2 s hs
 ·rcases getD_set_or hl with e2 | e2
  ·obtain rfl : k = j := by omega
   rw [Tj.upd_same]
   exact ⟨h.bl.size, heap_alloc_new w _⟩
  ·have hkj : k ≠ j := fun e => by rw [e, hu'] at e2; cases e2
   rw [Tj.upd_ne hkj]
   obtain ⟨h3, h4⟩ := h.bk k hk e2
   exact ⟨h3, (Below.heap_alloc w _ _ (lt_of_obj h4)).trans h4⟩
 ·rcases getD_set_or h1 with e2 | e2
  ·obtain rfl : i' = j := by omega
   rcases getD_set_or h2 with e3 | e3
   ·omega
   ·rw [Tj.upd_same, Tj.upd_ne (Ne.symm hne)]
    have := lt_of_obj (h.bk k hk e3).2
    omega
  ·have hij : i' ≠ j := fun e => by rw [e, hu'] at e2; cases e2
   rw [Tj.upd_ne hij]
   rcases getD_set_or h2 with e3 | e3
   ·obtain rfl : k = j := by omega
    rw [Tj.upd_same]
    have := lt_of_obj (h.bk i' hi' e2).2
    omega
   ·have hkj : k ≠ j := fun e => by rw [e, hu'] at e3; cases e3
    rw [Tj.upd_ne hkj]
    exact h.ne i' k hi' hk hne e2 e3
 ·rcases getD_set_or hl with e2 | e2
  ·obtain rfl : k = j := by omega
   exact getD_set_true hd
  ·exact getD_set_true (h.cl k hk e2)
 ·rw [getD_set_ne true (by omega)]; exact h.t31
 ·rw [getD_set_ne true (by omega)]; exact h.t32
 ·rw [getD_set_ne true (by omega)]; exact h.t33
end
def finalT (t0 : Array Value) (g : Nat → Nat) (n m : Nat) (V : Value) : Array Value := (List.range 31).foldl (fun t i => t.setIfInBounds (32 + i) (valJ g n m V i)) t0
theorem foldset_size (t0 : Array Value) (f : Nat → Value) : ∀ k, ((List.range k).foldl (fun t i => t.setIfInBounds (32 + i) (f i)) t0).size = t0.size
 | 0 => rfl
 | k + 1 => by rw [List.range_succ, List.foldl_append]; simp [foldset_size t0 f k]
theorem foldset_at (t0 : Array Value) (f : Nat → Value) (hs : 63 ≤ t0.size) : ∀ k, k ≤ 31 → ∀ s, ((List.range k).foldl (fun t i => t.setIfInBounds (32 + i) (f i)) t0)[s]? = if 32 ≤ s ∧ s < 32 + k then some (f (s - 32)) else t0[s]?
 | 0, _, s => by rw [if_neg (by omega)]; rfl
 | k + 1, hk, s => by
  rw [List.range_succ, List.foldl_append]
  simp only [List.foldl_cons, List.foldl_nil]
  rw [Array.getElem?_setIfInBounds, foldset_size, foldset_at t0 f hs k (by omega)]
  by_cases e : 32 + k = s
  ·subst e; rw [if_pos rfl, if_pos (by omega), if_pos (by omega), show 32 + k - 32 = k by omega]
  ·rw [if_neg e]
   by_cases h : 32 ≤ s ∧ s < 32 + k
   ·rw [if_pos h, if_pos (by omega)]
   ·rw [if_neg h, if_neg (by omega)]

/-- The region, by what stands behind the makes. -/
theorem lay_R2 (t0 : Array Value) (w : World) (n m : Nat) (V : Value) (hn : n ≤ 4096) (hm : m ≤ 4096) (ht : t0.size = 369) (a2 : Addr) (h2 : t0[2]? = some (.pointer (some a2))) (h5 : t0[5]? = some (.int .i64 (n : Int))) (h6 : t0[6]? = some (.int .i64 (m : Int)))
  (hload : ∀ W, Below w.heap.size w W → (Instr.loadAt 25 (.pointer (some a2))).run Tryz.prog W = .ok V W) (K : Exit → Act → World → Prop)
  (hK : ∀ (g : Nat → Nat) (w' : World), Below w.heap.size w w' → (∀ j, j < 15 → w.heap.size ≤ g j ∧ w'.heap[g j]? = some (cellsJ n m j)) → (∀ i j, i < 15 → j < 15 → i ≠ j → g i ≠ g j) → wpList Tryz.prog layOps K (layOps.toList.drop 31) { tmps := finalT t0 g n m V, defers := [] } w') :
  (Code.region 2 layOps true).wp Tryz.prog K { tmps := t0, defers := [] } w := by
 refine wp_region_any (by kernel_rfl) ?_
 have hstart : unl (Array.replicate layOps.size false) 31 = 31 := by rw [layOps_size]; decide
 rw [layOps_size] at hstart ⊢
 refine wpAny_phase (Inv := MInv t0 w.drew n m V) 31 3 ?_ ?_ 31 _ _ _ ⟨fun _ => 0, ?_⟩ hstart
 ·rintro listed a wr ⟨g, h⟩ hno
  have hdep : ∀ {i k : Nat}, Region.waitsFor .any layOps i k = true → i ∈ Region.ready .any layOps listed → listed.getD k false = true := fun hw hr => by
   obtain ⟨_, o, ho, hall⟩ := mem_ready.1 hr
   obtain ⟨o', ho', e, he, hb, rfl⟩ := Region.waitsFor_spec hw
   obtain rfl : o = o' := Option.some.inj (ho.symm.trans ho')
   exact hall e he hb
  have hmake : ∀ j, j < 15 → Region.waitsFor .any layOps (2 + 2 * j) (1 + 2 * j) = true := lt15 (by refine ⟨?_, ?_, ?_, ?_, ?_, ?_, ?_, ?_, ?_, ?_, ?_, ?_, ?_, ?_, ?_⟩ <;> kernel_rfl)
  constructor
  ·-- something may come up
   intro h0
   apply hno
   have hmv : ∀ i, i < 31 → (i = 0 ∨ i % 2 = 1) → listed.getD i true = true := by
    intro i hi hev
    cases hl : listed.getD i true with
    | true => rfl
    | false =>
     exfalso
     have : i ∈ Region.ready .any layOps listed := by
      rw [mem_ready]
      refine ⟨hl, ?_⟩
      rcases hev with rfl | hev
      ·obtain ⟨o, ho, _, _, _, ha⟩ := load_at
       exact ⟨o, ho, fun e he => by rw [ha] at he; simp at he⟩
      ·obtain ⟨o, ho, _, _, _, ha⟩ := moves_all ((i - 1) / 2) (by omega)
       rw [show 1 + 2 * ((i - 1) / 2) = i by omega] at ho
       exact ⟨o, ho, fun e he => by rw [ha] at he; simp at he⟩
     rw [h0] at this; cases this
   intro i hi
   by_cases hev : i = 0 ∨ i % 2 = 1
   ·exact hmv i hi hev
   ·obtain ⟨j, rfl⟩ : ∃ j, i = 2 + 2 * j := ⟨i / 2 - 1, by omega⟩
    cases hl : listed.getD (2 + 2 * j) true with
    | true => rfl
    | false =>
     exfalso
     have h1 := hmv (1 + 2 * j) (by omega) (.inr (by omega))
     have h1' : listed.getD (1 + 2 * j) false = true := by
      rw [Array.getD_eq_getD_getElem?] at h1 ⊢
      have hlt : 1 + 2 * j < listed.size := by rw [h.sz]; omega
      simpa [hlt] using h1
     have : 2 + 2 * j ∈ Region.ready .any layOps listed := by
      rw [mem_ready]
      refine ⟨hl, ?_⟩
      obtain ⟨o, ho, _, _, _, ha⟩ := makes_all j (by omega)
      refine ⟨o, ho, fun e he _ => ?_⟩
      rw [ha] at he
      simp at he
      rw [he]; exact h1'
     rw [h0] at this; cases this
  ·intro i hr
   have hun := (mem_ready.1 hr).1
   obtain ⟨_, o0, ho0, _⟩ := mem_ready.1 hr
   have hlt : i < 34 := by have := (Array.getElem?_eq_some_iff.1 ho0).1; rwa [layOps_size] at this
   have hall31 : i = 31 → False := fun e => by
    subst e
    apply hno
    intro k hk
    have tt : ∀ {q : Nat}, q < 34 → listed.getD q false = true → listed.getD q true = true := fun {q} hq hl => by
     have hlt : q < listed.size := by rw [h.sz]; exact hq
     rw [Array.getD_eq_getD_getElem?] at hl ⊢
     simpa [hlt] using hl
    by_cases e0 : k = 0
    ·subst e0; exact tt (by omega) (hdep build_waits.1 hr)
    ·by_cases e1 : k % 2 = 1
     ·have h3 := h.cl ((k - 1) / 2) (by omega) (hdep (build_waits.2 ((k - 1) / 2) (by omega)) hr)
      rw [show 1 + 2 * ((k - 1) / 2) = k by omega] at h3
      exact tt (by omega) h3
     ·have h3 := hdep (build_waits.2 (k / 2 - 1) (by omega)) hr
      rw [show 2 + 2 * (k / 2 - 1) = k by omega] at h3
      exact tt (by omega) h3
   have hi31 : i < 31 := by
    rcases Nat.lt_or_ge i 31 with h3 | h3
    ·exact h3
    ·exfalso
     have : i = 31 ∨ i = 32 ∨ i = 33 := by omega
     rcases this with e | rfl | rfl
     ·exact hall31 e
     ·have := hdep box_waits hr; rw [getD_both h.t31] at this; cases this
     ·have := hdep asg_waits hr; rw [getD_both h.t32] at this; cases this
   refine ⟨hi31, ?_⟩
   by_cases e0 : i = 0
   ·subst e0
    obtain ⟨o, ho, hd, hop, hg, _⟩ := load_at
    have hev : a.eval (.tmp 2) = .pointer (some a2) := eval_tmp a 2 ((h.tv2 2 (by omega)).trans h2)
    refine wpOp_value ho hg (v := V) (w' := wr) ?_ ?_
    ·unfold execOp
     rw [hop]
     simp only [hev, Sem.run_bind]
     rw [hload wr (((Below.refl _ w).drew).trans h.bl)]
     rfl
    ·rw [hd]; exact ⟨g, h.plain ht (i := 0) (by omega) (.inl rfl)⟩
   ·by_cases e1 : i % 2 = 1
    ·obtain ⟨j, rfl⟩ : ∃ j, i = 1 + 2 * j := ⟨(i - 1) / 2, by omega⟩
     obtain ⟨o, ho, hd, hop, hg, _⟩ := moves_all j (by omega)
     have hev : a.eval (.tmp (srcJ j)) = .int .i64 (lenJ n m j : Int) := by
      unfold lenJ srcJ
      split
      ·exact eval_tmp a 6 ((h.tv2 6 (by omega)).trans h6)
      ·exact eval_tmp a 5 ((h.tv2 5 (by omega)).trans h5)
     refine wpOp_value ho hg (v := .int .i64 (lenJ n m j : Int)) (w' := wr) ?_ ?_
     ·unfold execOp
      rw [hop]
      simp only [hev]
      rfl
     ·rw [hd]
      have := h.plain ht (i := 1 + 2 * j) (by omega) (.inr (by omega))
      rw [valJ_move, show 32 + (1 + 2 * j) = 33 + 2 * j by omega] at this
      exact ⟨g, this⟩
    ·obtain ⟨j, rfl⟩ : ∃ j, i = 2 + 2 * j := ⟨i / 2 - 1, by omega⟩
     obtain ⟨o, ho, hd, hop, hg, _⟩ := makes_all j (by omega)
     have hl1 := hdep (hmake j (by omega)) hr
     have hev : a.eval (.tmp (33 + 2 * j)) = .int .i64 (lenJ n m j : Int) := by
      have := h.tv1 (1 + 2 * j) (by omega) hl1
      rw [valJ_move, show 32 + (1 + 2 * j) = 33 + 2 * j by omega] at this
      exact eval_tmp a _ this
     refine wpOp_value ho hg (v := sl wr.heap.size (lenJ n m j)) (w' := wr.alloc (cellsJ n m j)) ?_ ?_
     ·unfold execOp
      rw [hop]
      simp only [hev, Sem.run_bind]
      rw [make_at n m hn hm j (by omega) wr]
      rfl
     ·rw [hd]; exact ⟨_, h.make ht (by omega) hun hl1⟩
 ·rintro listed a wr ⟨g, h⟩ hall
  have tt : ∀ {q : Nat}, q < 31 → listed.getD q false = true := fun {q} hq => by
   have hlt : q < listed.size := by rw [h.sz]; omega
   have := hall q hq
   rw [Array.getD_eq_getD_getElem?] at this ⊢
   simpa [hlt] using this
  have hlst : listed = (List.replicate 31 true ++ [false, false, false]).toArray := by
   apply Array.ext'
   apply List.ext_getElem?
   intro i
   rw [Array.getElem?_toList]
   rcases Nat.lt_or_ge i 34 with hi | hi
   ·have hlt : i < listed.size := by rw [h.sz]; exact hi
    have hget : ∀ d, listed.getD i d = listed[i] := fun d => by rw [Array.getD_eq_getD_getElem?]; simp [hlt]
    rw [Array.getElem?_eq_getElem hlt]
    rcases Nat.lt_or_ge i 31 with h3 | h3
    ·have := hall i h3
     rw [hget] at this
     rw [this, List.getElem?_append_left (by rw [List.length_replicate]; exact h3), List.getElem?_replicate, if_pos h3]
    ·have : i = 31 ∨ i = 32 ∨ i = 33 := by omega
     rcases this with rfl | rfl | rfl
     ·have := h.t31; rw [hget] at this; rw [this]; rfl
     ·have := h.t32; rw [hget] at this; rw [this]; rfl
     ·have := h.t33; rw [hget] at this; rw [this]; rfl
   ·rw [Array.getElem?_eq_none (by rw [h.sz]; exact hi)]
    rw [List.getElem?_eq_none (by simpa using hi)]
  have hfr : a = { tmps := finalT t0 g n m V, defers := [] } := by
   cases a with
   | mk tmps defers =>
    have hd : defers = [] := h.df
    have htm : tmps = finalT t0 g n m V := by
     apply Array.ext'
     apply List.ext_getElem?
     intro s
     rw [Array.getElem?_toList, Array.getElem?_toList]
     unfold finalT
     rw [foldset_at t0 _ (by omega) 31 (Nat.le_refl _)]
     by_cases hs : 32 ≤ s ∧ s < 32 + 31
     ·rw [if_pos hs]
      have := h.tv1 (s - 32) (by omega) (tt (by omega))
      rw [show 32 + (s - 32) = s by omega] at this
      exact this
     ·rw [if_neg hs]; exact h.tv2 s (by omega)
    rw [hd, htm]
  subst hlst
  rw [hfr]
  have hb : Below w.heap.size w wr := ((Below.refl _ w).drew).trans h.bl
  refine wpAny_of_seq (layOps.toList.drop 31) 31 _ _ _ (fun j => by rw [List.getElem?_drop, Array.getElem?_toList]) (by kernel_rfl) (hK g wr hb (fun j hj => ?_) (fun i j hi hj hne => h.ne i j hi hj hne (tt (by omega)) (tt (by omega))))
  exact h.bk j hj (tt (by omega))
 ·refine ⟨by simp, rfl, rfl, fun i hi hl => ?_, fun s hs => rfl, Below.refl _ _, fun j hj hl => ?_, fun i j hi hj hne h1 => ?_, fun j hj hl => ?_, by simp, by simp, by simp⟩
  ·rw [getD_replicate_false] at hl; cases hl
  ·rw [getD_replicate_false] at hl; cases hl
  ·rw [getD_replicate_false] at h1; cases h1
  ·rw [getD_replicate_false] at hl; cases hl
end Go.Proofs.Lx

namespace Go.Proofs.Lx
open Go Go.RowKit Go.Proofs.Tj
set_option linter.unusedVariables false
set_option linter.unusedSimpArgs false

theorem tab_const {α : Type} (n : Nat) (z : α) : tab n (fun _ => z) = List.replicate n z := by
 apply List.ext_getElem
 ·simp [tab]
 ·intro i h1 h2; simp [tab]
def idxK : Key → Nat
 | .marks => 0 | .inn => 1 | .needD => 2 | .need => 3 | .deadD => 4 | .dead => 5 | .strict => 6 | .backs => 7 | .backed => 8 | .opn => 9 | .clash => 10 | .attacks => 11 | .standing => 12 | .ofs => 13 | .beats => 14 | _ => 15
def keyI : Nat → Key
 | 0 => .marks | 1 => .inn | 2 => .needD | 3 => .need | 4 => .deadD | 5 => .dead | 6 => .strict | 7 => .backs | 8 => .backed | 9 => .opn | 10 => .clash | 11 => .attacks | 12 => .standing | 13 => .ofs | 14 => .beats | _ => .x1
/-- The first state. -/
def dyn0 : Dyn := { marks := fun _ => 0, told := [], queued := 0, upd := 0, needD := fun _ => 0, need := fun _ => 0, deadD := fun _ => false, dead := fun _ => false, strict := fun _ => 0, backs := fun _ => 0, backed := fun _ => false, opn := fun _ => 0, clash := fun _ => false, attacks := fun _ => 0, standing := fun _ => false, settled := fun _ => false, left := fun _ => 0 }
def stc0 (T : Th) : Stc := { n := T.foes.length, m := T.rules.length, P := 0, kind := fun r => (T.rules.getD r default).kind, head := fun r => (T.rules.getD r default).head.toNat, bodyLen := fun r => (T.rules.getD r default).body.length, foes := fun q => (T.foes.getD q []).map Int.toNat, inn := fun _ => [], pq := fun _ => 0, ps := fun _ => 0, ofs := fun _ => [], beats := fun _ => [], first := 0 }
def gh0 (T : Th) (b : Nat) (gj : Nat → Nat) (vF vR vB : Value) : Gh := { b := b, g := fun k => gj (idxK k), vF := vF, vR := vR, vB := vB, vP := .slice none 0 0, vin := List.replicate T.foes.length (.slice none 0 0), vof := List.replicate T.rules.length (.slice none 0 0), vbe := List.replicate T.rules.length (.slice none 0 0), x1 := .no, x2 := .no }
theorem own_rep {w : World} {base e g k : Nat} {z : Value} (h : w.heap[g]? = some (.cells (List.replicate k z).toArray e (0, 0))) (hb : base ≤ g) (hk : k ≤ maxLen) : w.ownsRow base e 1 (sl g k) k (tab k (fun _ => z)) := by
 rw [tab_const]
 have := own_made (base := base) h hb (by simpa using hk)
 simpa using this
theorem rows_rep {w : World} {base g k eS eI : Nat} (h : w.heap[g]? = some (.cells (List.replicate k (Value.slice none 0 0)).toArray eS (0, 0))) (hb : base ≤ g) : RowsC w base g eS eI (List.replicate k (.slice none 0 0)) (tab k fun _ => []) := by
 refine ⟨h, hb, by simp [tab], fun q h1 h2 => ?_, fun q r h1 h2 hne => .inl (by simp [Value.ownBlock]), fun q h1 => by simp [Value.ownBlock]⟩
 have : (tab k fun _ => ([] : List Nat))[q]'h2 = [] := by simp [tab]
 rw [this]
 simpa using World.ownsRow_nil w base eI 1
theorem engStart {W0 w : World} {T : Th} {vF vR vB : Value} {gj : Nat → Nat} (hwf : SofT (stc0 T) T) (rF : RdLL W0 vF T.foes) (rR : RdRs W0 vR T.rules) (rB : RdLL W0 vB T.beats) (hb : Below W0.heap.size W0 w)
  (hblk : ∀ j, j < 15 → W0.heap.size ≤ gj j ∧ w.heap[gj j]? = some (cellsJ T.foes.length T.rules.length j)) (hne : ∀ i j, i < 15 → j < 15 → i ≠ j → gj i ≠ gj j) :
  EngV (w.alloc (.cells (hdrE (gh0 T w.heap.size gj vF vR vB) (stc0 T) dyn0 (.slice none 0 0)) 84)) W0 (gh0 T w.heap.size gj vF vR vB) (stc0 T) T dyn0 (.slice none 0 0) := by
 have hn : T.foes.length ≤ maxLen := Nat.le_trans hwf.n4 (by unfold maxLen; omega)
 have hm : T.rules.length ≤ maxLen := Nat.le_trans hwf.m4 (by unfold maxLen; omega)
 have hfp : ∀ (k : Key) (g : Nat), (contE (gh0 T w.heap.size gj vF vR vB) (stc0 T) dyn0 (.slice none 0 0) k).fp g → idxK k < 15 ∧ keyI (idxK k) = k ∧ g = gj (idxK k) := by
  intro k g hg
  cases k
  case told => exact absurd hg (by simp [contE, Cont.fp, Value.ownBlock])
  case pairs => exact absurd hg (by simp [contE, Cont.fp, Value.ownBlock, gh0])
  case x1 => exact absurd hg (by simp [contE, Cont.fp, gh0])
  case x2 => exact absurd hg (by simp [contE, Cont.fp, gh0])
  case inn =>
   refine ⟨by decide, rfl, ?_⟩
   rcases hg with e | ⟨q, h1, e⟩
   ·exact e
   ·simp [gh0, Value.ownBlock] at e
  case ofs =>
   refine ⟨by decide, rfl, ?_⟩
   rcases hg with e | ⟨q, h1, e⟩
   ·exact e
   ·simp [gh0, Value.ownBlock] at e
  case beats =>
   refine ⟨by decide, rfl, ?_⟩
   rcases hg with e | ⟨q, h1, e⟩
   ·exact e
   ·simp [gh0, Value.ownBlock] at e
  all_goals exact ⟨by decide, rfl, (Option.some.inj hg).symm⟩
 have hh : ∀ j, j < 15 → (w.alloc (.cells (hdrE (gh0 T w.heap.size gj vF vR vB) (stc0 T) dyn0 (.slice none 0 0)) 84)).heap[gj j]? = some (cellsJ T.foes.length T.rules.length j) := fun j hj =>
  (Below.heap_alloc w _ _ (lt_of_obj (hblk j hj).2)).trans (hblk j hj).2
 refine ⟨⟨hb.alloc hb.size _, hb.size, heap_alloc_new w _, fun k => ?_, fun k g hg => ?_, fun k j g hkj hk hj => ?_⟩, hwf, rF, rR, rB⟩
 ·cases k
  case told => exact World.ownsRow_nil _ _ _ _
  case pairs => exact World.ownsRow_nil _ _ _ _
  case x1 => trivial
  case x2 => trivial
  case marks => exact own_rep (hh 0 (by omega)) (hblk 0 (by omega)).1 hn
  case inn => exact rows_rep (hh 1 (by omega)) (hblk 1 (by omega)).1
  case needD => exact own_rep (hh 2 (by omega)) (hblk 2 (by omega)).1 hm
  case need => exact own_rep (hh 3 (by omega)) (hblk 3 (by omega)).1 hm
  case deadD => exact own_rep (hh 4 (by omega)) (hblk 4 (by omega)).1 hm
  case dead => exact own_rep (hh 5 (by omega)) (hblk 5 (by omega)).1 hm
  case strict => exact own_rep (hh 6 (by omega)) (hblk 6 (by omega)).1 hn
  case backs => exact own_rep (hh 7 (by omega)) (hblk 7 (by omega)).1 hn
  case backed => exact own_rep (hh 8 (by omega)) (hblk 8 (by omega)).1 hn
  case opn => exact own_rep (hh 9 (by omega)) (hblk 9 (by omega)).1 hn
  case clash => exact own_rep (hh 10 (by omega)) (hblk 10 (by omega)).1 hn
  case attacks => exact own_rep (hh 11 (by omega)) (hblk 11 (by omega)).1 hn
  case standing => exact own_rep (hh 12 (by omega)) (hblk 12 (by omega)).1 hn
  case ofs => exact rows_rep (hh 13 (by omega)) (hblk 13 (by omega)).1
  case beats => exact rows_rep (hh 14 (by omega)) (hblk 14 (by omega)).1
 ·obtain ⟨h1, _, h3⟩ := hfp k g hg
  have := lt_of_obj (hblk _ h1).2
  show g ≠ w.heap.size
  omega
 ·obtain ⟨h1, h2, h3⟩ := hfp k g hk
  obtain ⟨k1, k2, k3⟩ := hfp j g hj
  refine hne _ _ h1 k1 (fun e => hkj ?_) (h3.symm.trans k3)
  rw [← h2, ← k2, e]

section
variable {κ : Type} {w w' W0 : World} {b : Nat} {hh : Array Value} {C C' : κ → Cont} {base g eS eI : Nat} {vs : List Value} {xss : List (List Nat)}
/-- Row q has grown by one. -/
theorem RowsC.append (h : RowsC w base g eS eI vs xss) {q : Nat} (hq : q < vs.length) (hq' : q < xss.length) {v' : Value} {x : Nat} (hgr : w.grownBy w' vs[q].ownBlock)
  (ho : w'.ownsRow base eI 1 v' (xss[q].length + 1) (natsV xss[q] ++ [.int .i64 (x : Int)])) (hat : v'.ownBlock = vs[q].ownBlock ∨ ∃ b, v'.ownBlock = some b ∧ w.heap.size ≤ b) :
  RowsC (w'.setCell ⟨g, q, none⟩ v') base g eS eI (vs.set q v') (xss.set q (xss[q] ++ [x])) := by
 have hblk : w'.heap[g]? = some (.cells vs.toArray eS (0, 0)) := (hgr.block g (lt_of_block h.blk) (fun e => h.gne q hq e.symm)).trans h.blk
 have hvg : v'.ownBlock ≠ some g := by
  rcases hat with e | ⟨b, e, hb⟩
  ·rw [e]; exact h.gne q hq
  ·rw [e]; intro e2; injection e2 with e2; have := lt_of_block h.blk; omega
 refine ⟨?_, h.lo, by simp [h.len], ?_, ?_, ?_⟩
 ·rw [heap_setCell_same w' g q _ eS _ hblk]; simp
 ·intro r h1 h2
  simp only [List.length_set] at h1 h2
  by_cases e : q = r
  ·subst e
   simp only [List.getElem_set_self, List.length_append, List.length_cons, List.length_nil, natsV, List.map_append, List.map_cons, List.map_nil]
   exact own_loc ho fun k e => heap_setCell_other w' ⟨g, q, none⟩ k _ (fun e2 => hvg (by rw [e]; exact congrArg some e2))
  ·rw [List.getElem_set_ne e, List.getElem_set_ne e]
   have h3 := (h.own r h1 h2).kept hgr (h.ne r q h1 hq (Ne.symm e))
   exact own_loc h3 fun k e => heap_setCell_other w' ⟨g, q, none⟩ k _ (fun e2 => h.gne r h1 (by rw [e]; exact congrArg some e2))
 ·intro r t h1 h2 hrt
  simp only [List.length_set] at h1 h2
  rw [List.getElem_set, List.getElem_set]
  by_cases e : q = r
  ·rw [if_pos e, if_neg (fun e2 => hrt (e.symm.trans e2))]
   subst e
   rcases hat with hat | ⟨b, hat, hb⟩
   ·rw [hat]; exact h.ne q t hq h2 hrt
   ·right
    rw [hat]
    intro e3
    have := ((h.own t h2 (by rw [← h.len]; exact h2)).lt b e3.symm).2
    omega
  ·rw [if_neg e]
   by_cases e2 : q = t
   ·rw [if_pos e2]
    subst e2
    rcases hat with hat | ⟨b, hat, hb⟩
    ·rw [hat]; exact h.ne r q h1 hq hrt
    ·cases ho2 : vs[r].ownBlock with
     | none => exact .inl rfl
     | some k =>
      right
      rw [hat]
      intro e3
      injection e3 with e3
      have := ((h.own r h1 (by rw [← h.len]; exact h1)).lt k ho2).2
      omega
   ·rw [if_neg e2]; exact h.ne r t h1 h2 hrt
 ·intro r h1
  simp only [List.length_set] at h1
  rw [List.getElem_set]
  by_cases e : q = r
  ·rw [if_pos e]; exact hvg
  ·rw [if_neg e]; exact h.gne r h1
theorem Sepr.growRow (h : Sepr w W0 b hh C) (k : κ) (hk : C k = .rows g eS eI vs xss) {q : Nat} (hq : q < vs.length) (hq' : q < xss.length) {v' : Value} {x : Nat} (hgr : w.grownBy w' vs[q].ownBlock)
  (ho : w'.ownsRow W0.heap.size eI 1 v' (xss[q].length + 1) (natsV xss[q] ++ [.int .i64 (x : Int)])) (hat : v'.ownBlock = vs[q].ownBlock ∨ ∃ b, v'.ownBlock = some b ∧ w.heap.size ≤ b)
  (hk' : C' k = .rows g eS eI (vs.set q v') (xss.set q (xss[q] ++ [x]))) (hC : ∀ j, j ≠ k → C' j = C j) : Sepr (w'.setCell ⟨g, q, none⟩ v') W0 b hh C' := by
 have hok := h.ok k
 rw [hk] at hok
 have hok : RowsC w W0.heap.size g eS eI vs xss := hok
 refine h.step k hC ?_ ?_ ?_
 ·rw [hk]
  exact ((Agr.of_grown hgr).mono fun k e => .inr ⟨q, hq, e⟩).trans ((Agr.of_set w' g q v').mono fun k e => .inl e)
 ·rw [hk']; exact hok.append hq hq' hgr ho hat
 ·intro k2 hf
  rw [hk'] at hf
  rw [hk]
  rcases hf with e | ⟨r, hr, e⟩
  ·exact .inl (.inl e)
  ·simp only [List.length_set] at hr
   rw [List.getElem_set] at e
   by_cases e1 : q = r
   ·rw [if_pos e1] at e
    rcases hat with hat | ⟨b, hat, hb⟩
    ·exact .inl (.inr ⟨q, hq, by rw [← hat]; exact e⟩)
    ·rw [hat] at e; injection e with e; exact .inr (by omega)
   ·rw [if_neg e1] at e
    exact .inl (.inr ⟨r, hr, e⟩)
end
end Go.Proofs.Lx
