/- Words for NaiveLoops: the ring's rules as they are built. -/
import Derived.Test.YtalhpldbhogadaaKe
import Derived.Test.YtalhpldbhogadaaPe
import Derived.Deep.RegionLaw
import Derived.Maps.AppendAt
import Derived.Deep.DeepCutAuto
namespace Go.Proofs.Lx
open Go Go.RowKit
set_option linter.unusedSimpArgs false
set_option linter.unusedVariables false

theorem infoR : (Try.prog.info? 37).map (fun i => (i.zero, i.size, i.bytes)) = some (some (.agg #[.int .i64 0, .int .i64 0, .slice none 0 0]), 3, 40) := by kernel_rfl
theorem step_append3 {P : Program} {ops : Array Oper} {o : Oper} {a : Act} {w : World} {K : Act → World → Prop} {Q : Exit → Act → World → Prop} {E : Prop}
    (hgd : o.guard = none) (s x : Operand) (t : TypeId)
    (ho : o.op = .call { callee := .builtin .append, args := #[s, x], argTypes := #[t, t] })
    (base : Nat) (e : TypeId) (z : Value) (bytes : Nat) (ht : P.underlying t = some (.slice e)) (hinfo : (P.info? e).map (fun i => (i.zero, i.size, i.bytes)) = some (some z, 3, bytes)) (hz : z.cells.size = 3)
    (v : Value) (n : Nat) (xs : List Value) (hs : a.eval s = v) (hown : w.ownsRow base e 3 v n xs)
    (ad : Addr) (y0 y1 y2 : Value) (hx : a.eval x = .slice (some ad) 1 1) (hnew : ∀ j u, [y0, y1, y2][j]? = some u → w.cell? (ad.add j) = some u) (h1 : ∀ u ∈ [y0, y1, y2], u.oneCell' = true)
    (h63 : n + 1 ≤ maxLen) (hbytes : (n + 1) * bytes ≤ 140737488355328) (hbase : base ≤ w.heap.size)
    (h : ∀ v' w', w'.ownsRow base e 3 v' (n + 1) (xs ++ [y0, y1, y2]) → w.grownBy w' v.ownBlock → (v'.ownBlock = v.ownBlock ∨ v'.ownBlock = some w.heap.size) → K (a.put o.dst v') w') :
    if Region.wanted o (yielded ops a.tmps) = true then Oper.wp P o a w K Q else E := by
  rw [if_pos (by simp [Region.wanted, hgd])]
  obtain ⟨i, hi, hzz⟩ := Option.map_eq_some_iff.1 hinfo
  simp only [Prod.mk.injEq] at hzz
  obtain ⟨v', w', hr, h2, h3, h4, h5⟩ := run_append_own_at (P := P) w base t o.type e i z 3 bytes ht hi hzz.1 hzz.2.1 hzz.2.2 hz (by omega) v n xs hown ad 1 1 [y0, y1, y2] rfl hnew h1 h63 hbytes hbase
  unfold Oper.wp execOp
  simp only [ho, resolve, invoke, builtin, Sem.run_bind, Sem.run_pure, Result.andThen_ok, List.map_toArray, List.map_cons, List.map_nil, hs, hx, hr]
  exact h v' w' h2 h3 h5

theorem own_form3 {w : World} {base e size n : Nat} {v : Value} {xs : List Value} (h : w.ownsRow base e size v (n + 1) xs) : ∃ g c, v = .slice (some ⟨g, 0, none⟩) (n + 1) c := by
  rcases h.2 with ⟨_, h⟩ | ⟨g, c, _, rfl, _⟩
  · omega
  · exact ⟨g, c, rfl⟩
/-- The ring's rules as they are built: their cells; each body in a block of its own. -/
structure RG (w0 wr : World) (n b gF gB : Nat) (v : Value) (k : Nat) (cs : List Value) : Prop where
  box : wr.heap[b]? = some (.cells #[.int .i64 (n : Int), .slice (some ⟨gF, 0, none⟩) n n, v, .slice (some ⟨gB, 0, none⟩) n n] 25 (0, 0))
  bF : wr.heap[gF]? = some (.cells (madeCells #[Value.slice none 0 0] n) 26 (0, 0))
  bB : wr.heap[gB]? = some (.cells (madeCells #[Value.slice none 0 0] n) 26 (0, 0))
  own : wr.ownsRow (w0.heap.size + 3) 37 3 v k cs
  ne : b ≠ gF ∧ b ≠ gB ∧ w0.heap.size ≤ b ∧ w0.heap.size ≤ gF ∧ w0.heap.size ≤ gB ∧ b < w0.heap.size + 3 ∧ gF < w0.heap.size + 3 ∧ gB < w0.heap.size + 3
  el : ∀ i, i < k → ∃ g, cs[i * 3]? = some (.int .i64 2) ∧ cs[i * 3 + 1]? = some (.int .i64 (((i : Int) + 1) % (n : Int))) ∧ cs[i * 3 + 2]? = some (.slice (some ⟨g, 0, none⟩) 1 1) ∧ wr.heap[g]? = some (.cells #[.int .i64 (i : Int)] 3 (0, 0)) ∧ w0.heap.size + 3 ≤ g ∧ v.ownBlock ≠ some g
  old : Below w0.heap.size w0 wr
  sz : w0.heap.size + 3 ≤ wr.heap.size
theorem RG.start0 (w : World) (n : Nat) : RG w ((((w.alloc (.cells (madeCells #[Value.slice none 0 0] n) 26)).alloc (.cells (madeCells #[Value.slice none 0 0] n) 26)).alloc (.cells #[.int .i64 (n : Int), .slice (some ⟨w.heap.size, 0, none⟩) n n, .slice none 0 0, .slice (some ⟨w.heap.size + 1, 0, none⟩) n n] 25)).drew) n (w.heap.size + 1 + 1) (w.heap.size) (w.heap.size + 1) (.slice none 0 0) 0 [] := by
  obtain ⟨h0, h1, h2, h3⟩ := alloc3 w (.cells (madeCells #[Value.slice none 0 0] n) 26) (.cells (madeCells #[Value.slice none 0 0] n) 26) (.cells #[.int .i64 (n : Int), .slice (some ⟨w.heap.size, 0, none⟩) n n, .slice none 0 0, .slice (some ⟨w.heap.size + 1, 0, none⟩) n n] 25)
  exact ⟨h3, h1, h2, World.ownsRow_nil _ _ _ _, by omega, fun i hi => absurd hi (by omega), Below.drew (Below.alloc (Below.alloc (ext_alloc w _) (by simp) _) (by simp only [World.size_alloc]; omega) _), by rw [h0]; exact Nat.le_refl _⟩
theorem RG.start1 (w : World) (n : Nat) : RG w ((((w.alloc (.cells (madeCells #[Value.slice none 0 0] n) 26)).alloc (.cells #[.int .i64 (n : Int), .slice (some ⟨w.heap.size, 0, none⟩) n n, .slice none 0 0, .slice (some ⟨w.heap.size + 1 + 1, 0, none⟩) n n] 25)).alloc (.cells (madeCells #[Value.slice none 0 0] n) 26)).drew) n (w.heap.size + 1) (w.heap.size) (w.heap.size + 1 + 1) (.slice none 0 0) 0 [] := by
  obtain ⟨h0, h1, h2, h3⟩ := alloc3 w (.cells (madeCells #[Value.slice none 0 0] n) 26) (.cells #[.int .i64 (n : Int), .slice (some ⟨w.heap.size, 0, none⟩) n n, .slice none 0 0, .slice (some ⟨w.heap.size + 1 + 1, 0, none⟩) n n] 25) (.cells (madeCells #[Value.slice none 0 0] n) 26)
  exact ⟨h2, h1, h3, World.ownsRow_nil _ _ _ _, by omega, fun i hi => absurd hi (by omega), Below.drew (Below.alloc (Below.alloc (ext_alloc w _) (by simp) _) (by simp only [World.size_alloc]; omega) _), by rw [h0]; exact Nat.le_refl _⟩
theorem RG.start2 (w : World) (n : Nat) : RG w ((((w.alloc (.cells (madeCells #[Value.slice none 0 0] n) 26)).alloc (.cells (madeCells #[Value.slice none 0 0] n) 26)).alloc (.cells #[.int .i64 (n : Int), .slice (some ⟨w.heap.size + 1, 0, none⟩) n n, .slice none 0 0, .slice (some ⟨w.heap.size, 0, none⟩) n n] 25)).drew) n (w.heap.size + 1 + 1) (w.heap.size + 1) (w.heap.size) (.slice none 0 0) 0 [] := by
  obtain ⟨h0, h1, h2, h3⟩ := alloc3 w (.cells (madeCells #[Value.slice none 0 0] n) 26) (.cells (madeCells #[Value.slice none 0 0] n) 26) (.cells #[.int .i64 (n : Int), .slice (some ⟨w.heap.size + 1, 0, none⟩) n n, .slice none 0 0, .slice (some ⟨w.heap.size, 0, none⟩) n n] 25)
  exact ⟨h3, h2, h1, World.ownsRow_nil _ _ _ _, by omega, fun i hi => absurd hi (by omega), Below.drew (Below.alloc (Below.alloc (ext_alloc w _) (by simp) _) (by simp only [World.size_alloc]; omega) _), by rw [h0]; exact Nat.le_refl _⟩
theorem RG.start3 (w : World) (n : Nat) : RG w ((((w.alloc (.cells (madeCells #[Value.slice none 0 0] n) 26)).alloc (.cells #[.int .i64 (n : Int), .slice (some ⟨w.heap.size + 1 + 1, 0, none⟩) n n, .slice none 0 0, .slice (some ⟨w.heap.size, 0, none⟩) n n] 25)).alloc (.cells (madeCells #[Value.slice none 0 0] n) 26)).drew) n (w.heap.size + 1) (w.heap.size + 1 + 1) (w.heap.size) (.slice none 0 0) 0 [] := by
  obtain ⟨h0, h1, h2, h3⟩ := alloc3 w (.cells (madeCells #[Value.slice none 0 0] n) 26) (.cells #[.int .i64 (n : Int), .slice (some ⟨w.heap.size + 1 + 1, 0, none⟩) n n, .slice none 0 0, .slice (some ⟨w.heap.size, 0, none⟩) n n] 25) (.cells (madeCells #[Value.slice none 0 0] n) 26)
  exact ⟨h2, h3, h1, World.ownsRow_nil _ _ _ _, by omega, fun i hi => absurd hi (by omega), Below.drew (Below.alloc (Below.alloc (ext_alloc w _) (by simp) _) (by simp only [World.size_alloc]; omega) _), by rw [h0]; exact Nat.le_refl _⟩
theorem RG.start4 (w : World) (n : Nat) : RG w ((((w.alloc (.cells #[.int .i64 (n : Int), .slice (some ⟨w.heap.size + 1, 0, none⟩) n n, .slice none 0 0, .slice (some ⟨w.heap.size + 1 + 1, 0, none⟩) n n] 25)).alloc (.cells (madeCells #[Value.slice none 0 0] n) 26)).alloc (.cells (madeCells #[Value.slice none 0 0] n) 26)).drew) n (w.heap.size) (w.heap.size + 1) (w.heap.size + 1 + 1) (.slice none 0 0) 0 [] := by
  obtain ⟨h0, h1, h2, h3⟩ := alloc3 w (.cells #[.int .i64 (n : Int), .slice (some ⟨w.heap.size + 1, 0, none⟩) n n, .slice none 0 0, .slice (some ⟨w.heap.size + 1 + 1, 0, none⟩) n n] 25) (.cells (madeCells #[Value.slice none 0 0] n) 26) (.cells (madeCells #[Value.slice none 0 0] n) 26)
  exact ⟨h1, h2, h3, World.ownsRow_nil _ _ _ _, by omega, fun i hi => absurd hi (by omega), Below.drew (Below.alloc (Below.alloc (ext_alloc w _) (by simp) _) (by simp only [World.size_alloc]; omega) _), by rw [h0]; exact Nat.le_refl _⟩
theorem RG.start5 (w : World) (n : Nat) : RG w ((((w.alloc (.cells #[.int .i64 (n : Int), .slice (some ⟨w.heap.size + 1 + 1, 0, none⟩) n n, .slice none 0 0, .slice (some ⟨w.heap.size + 1, 0, none⟩) n n] 25)).alloc (.cells (madeCells #[Value.slice none 0 0] n) 26)).alloc (.cells (madeCells #[Value.slice none 0 0] n) 26)).drew) n (w.heap.size) (w.heap.size + 1 + 1) (w.heap.size + 1) (.slice none 0 0) 0 [] := by
  obtain ⟨h0, h1, h2, h3⟩ := alloc3 w (.cells #[.int .i64 (n : Int), .slice (some ⟨w.heap.size + 1 + 1, 0, none⟩) n n, .slice none 0 0, .slice (some ⟨w.heap.size + 1, 0, none⟩) n n] 25) (.cells (madeCells #[Value.slice none 0 0] n) 26) (.cells (madeCells #[Value.slice none 0 0] n) 26)
  exact ⟨h1, h3, h2, World.ownsRow_nil _ _ _ _, by omega, fun i hi => absurd hi (by omega), Below.drew (Below.alloc (Below.alloc (ext_alloc w _) (by simp) _) (by simp only [World.size_alloc]; omega) _), by rw [h0]; exact Nat.le_refl _⟩

section
variable {w0 wr w' : World} {n b gF gB k : Nat} {v v' : Value} {cs : List Value}
theorem RG.own2 (h : RG w0 wr n b gF gB v k cs) (A C : Obj) : (((wr.alloc A).alloc C).drew).ownsRow (w0.heap.size + 3) 37 3 v k cs := (h.own.alloc A).alloc C
theorem RG.blocks2 (h : RG w0 wr n b gF gB v k cs) {A C : Obj} (hg : (((wr.alloc A).alloc C).drew).grownBy w' v.ownBlock) (g : Nat) (hgl : g < wr.heap.size) (hne : g < w0.heap.size + 3) : w'.heap[g]? = wr.heap[g]? := by
  rw [hg.block g (by show g < ((wr.alloc A).alloc C).heap.size; simp; omega) (fun e => by have := (h.own.lt g e.symm).1; omega)]
  show ((wr.alloc A).alloc C).heap[g]? = _
  rw [Below.heap_alloc _ _ _ (by simp; omega), Below.heap_alloc _ _ _ hgl]
theorem RG.append (h : RG w0 wr n b gF gB v k cs) (hk : k < n) {o : Nat}
    (hown : w'.ownsRow (w0.heap.size + 3) 37 3 v' (k + 1) (cs ++ [.int .i64 2, .int .i64 (((k : Int) + 1) % (n : Int)), .slice (some ⟨wr.heap.size, 0, none⟩) 1 1]))
    (hg : (((wr.alloc (.cells #[.int .i64 (k : Int)] 3)).alloc (.cells #[.int .i64 2, .int .i64 (((k : Int) + 1) % (n : Int)), .slice (some ⟨wr.heap.size, 0, none⟩) 1 1] 37)).drew).grownBy w' v.ownBlock)
    (hat : v'.ownBlock = v.ownBlock ∨ v'.ownBlock = some o) (ho : o = wr.heap.size + 2) :
    RG w0 (w'.setCell ⟨b, 2, none⟩ v') n b gF gB v' (k + 1) (cs ++ [.int .i64 2, .int .i64 (((k : Int) + 1) % (n : Int)), .slice (some ⟨wr.heap.size, 0, none⟩) 1 1]) := by
  have hne := h.ne
  have hlb := lt_of_block h.box
  have hlF := lt_of_block h.bF
  have hlB := lt_of_block h.bB
  have hlen : cs.length = k * 3 := h.own.1
  have hvl : ∀ g, v.ownBlock = some g → w0.heap.size + 3 ≤ g ∧ g < wr.heap.size := fun g e => h.own.lt g e
  have kb := (h.blocks2 hg b hlb (by omega)).trans h.box
  have hs0 := h.old.size
  have hs3 := h.sz
  have hsz : wr.heap.size + 2 ≤ w'.heap.size := by have := hg.size; simpa [World.drew] using this
  refine ⟨?_, ?_, ?_, ?_, hne, fun i hi => ?_, ?_, by simp only [World.size_setCell]; omega⟩
  · rw [heap_setCell_same w' b 2 _ _ _ kb]; rfl
  · rw [heap_setCell_other w' _ gF _ (by dsimp only; omega)]
    exact (h.blocks2 hg gF hlF (by omega)).trans h.bF
  · rw [heap_setCell_other w' _ gB _ (by dsimp only; omega)]
    exact (h.blocks2 hg gB hlB (by omega)).trans h.bB
  · exact hown.kept (row := some b) ⟨rfl, rfl, rfl, by simp, fun g _ hgb => heap_setCell_other w' _ g _ (fun e => hgb (by rw [e]))⟩ (.inr (fun e => by have := (hown.lt b e).1; omega))
  · by_cases e : i = k
    · subst e
      refine ⟨wr.heap.size, ?_, ?_, ?_, ?_, by omega, fun e => ?_⟩
      · rw [List.getElem?_append_right (by omega), hlen]; simp
      · rw [List.getElem?_append_right (by omega), hlen, show i * 3 + 1 - i * 3 = 1 by omega]; rfl
      · rw [List.getElem?_append_right (by omega), hlen, show i * 3 + 2 - i * 3 = 2 by omega]; rfl
      · rw [heap_setCell_other w' _ _ _ (by dsimp only; omega)]
        rw [hg.block wr.heap.size (by show _ < ((wr.alloc _).alloc _).heap.size; simp; omega) (fun e => by have := (hvl _ e.symm).2; omega)]
        show ((wr.alloc _).alloc _).heap[wr.heap.size]? = _
        rw [Below.heap_alloc _ _ _ (by simp), heap_alloc_new]
      · rcases hat with h9 | h9
        · rw [h9] at e; have := (hvl _ e).2; omega
        · rw [h9] at e; cases e; omega
    · obtain ⟨g, h1, h2, h3, h4, h5, h6⟩ := h.el i (by omega)
      have hgl := lt_of_block h4
      refine ⟨g, ?_, ?_, ?_, ?_, h5, fun e9 => ?_⟩
      · rw [List.getElem?_append_left (by omega)]; exact h1
      · rw [List.getElem?_append_left (by omega)]; exact h2
      · rw [List.getElem?_append_left (by omega)]; exact h3
      · rw [heap_setCell_other w' _ _ _ (by dsimp only; omega)]
        rw [hg.block g (by show _ < ((wr.alloc _).alloc _).heap.size; simp; omega) (fun e9 => h6 e9.symm)]
        show ((wr.alloc _).alloc _).heap[g]? = _
        rw [Below.heap_alloc _ _ _ (by simp; omega), Below.heap_alloc _ _ _ hgl]; exact h4
      · rcases hat with h9 | h9
        · rw [h9] at e9; exact h6 e9
        · rw [h9] at e9; cases e9; omega
  · refine Below.setCell ⟨hg.os.trans h.old.os, hg.tape.trans h.old.tape, hg.output.trans h.old.output, by omega, fun g hgl => (h.blocks2 hg g (by omega) (by omega)).trans (h.old.block g hgl)⟩ (by dsimp only; omega) _
theorem rd_lit1c {α : Type} {R : World → α → List Value → Prop} {W : World} {g n c : Nat} {e : TypeId} {cur : Array Value} {xs : List α} (hh : W.heap[g]? = some (.cells cur e (0, 0))) (hn : n = xs.length) (hc : n ≤ c) (hb : xs.length ≤ 140737488355328)
    (hr : ∀ i (h : i < xs.length), ∃ v, cur[i]? = some v ∧ R W xs[i] [v]) : Rd 1 R W (.slice (some ⟨g, 0, none⟩) n c) xs := by
  subst hn
  refine ⟨_, _, rfl, hc, hb, fun i hi => ?_⟩
  obtain ⟨v, h1, h2⟩ := hr i hi
  refine ⟨_, [v], rfl, h2, rfl, fun j u hu => ?_⟩
  match j, hu with
  | 0, hu =>
    simp at hu; subst hu
    rw [show i * 1 + 0 = i by omega, add_plain, cell_of_row W g i cur e _ hh]
    exact h1
theorem rd_nils {W : World} {g n m : Nat} (hh : W.heap[g]? = some (.cells (madeCells #[Value.slice none 0 0] n) 26 (0, 0))) (hm : m ≤ n) (hn : n ≤ 50) : RdLL W (.slice (some ⟨g, 0, none⟩) m n) (List.replicate m []) := by
  refine rd_lit1c hh (by simp) hm (by simp; omega) fun i hi => ?_
  have hi' : i < m := by simpa using hi
  refine ⟨.slice none 0 0, ?_, _, rfl, ?_⟩
  · rw [← Array.getElem?_toList, toList_madeCells_one, List.getElem?_replicate, if_pos (by omega)]
  · rw [List.getElem_replicate]; exact Rd.nil
theorem RG.theory {gv cv m : Nat} (h : RG w0 wr n b gF gB (.slice (some ⟨gv, 0, none⟩) k cv) k cs) (hk : m ≤ k) (hkn : k ≤ n) (hn : n ≤ 50) {W : World} (hW : ∀ g, g ≠ b → g < wr.heap.size → W.heap[g]? = wr.heap[g]?) (hcv : k ≤ cv) :
    RdTh W (.agg #[.int .i64 (n : Int), .slice (some ⟨gF, 0, none⟩) n n, .slice (some ⟨gv, 0, none⟩) m cv, .slice (some ⟨gB, 0, none⟩) m n]) (ringTh n m) := by
  have hne := h.ne
  refine ⟨_, _, _, rfl, rd_nils ((hW gF (fun e => hne.1 e.symm) (lt_of_block h.bF)).trans h.bF) (Nat.le_refl _) hn, ?_, rd_nils ((hW gB (fun e => hne.2.1 e.symm) (lt_of_block h.bB)).trans h.bB) (by omega) hn⟩
  refine ⟨some ⟨gv, 0, none⟩, cv, by simp [ringTh], by simp [ringTh]; omega, by simp [ringTh]; omega, fun i hi => ?_⟩
  have hi' : i < m := by simpa [ringTh] using hi
  obtain ⟨g, h1, h2, h3, h4, h5, h6⟩ := h.el i (by omega)
  have hgv := h.own.lt gv rfl
  have cell : ∀ j u, cs[j]? = some u → W.cell? ((⟨gv, 0, none⟩ : Addr).add j) = some u := fun j u hu => by
    have h9 := h.own.cells (g := gv) rfl j u hu
    rw [add_plain] at h9 ⊢
    rw [← h9]
    exact World.cell?_of_block (hW gv (by omega) hgv.2)
  refine ⟨_, [.int .i64 2, .int .i64 (((i : Int) + 1) % (n : Int)), .slice (some ⟨g, 0, none⟩) 1 1], rfl, ?_, rfl, fun j u hu => ?_⟩
  · refine ⟨.slice (some ⟨g, 0, none⟩) 1 1, ?_, ?_⟩
    · simp only [ringTh, List.getElem_map, List.getElem_range, ringRule]
      rw [Int.natCast_emod, Int.natCast_add]; rfl
    · simp only [ringTh, List.getElem_map, List.getElem_range, ringRule]
      exact rd_int1 ((hW g (by omega) (lt_of_block h4)).trans h4)
  · match j, hu with
    | 0, hu => simp at hu; subst hu; exact cell _ _ h1
    | 1, hu => simp at hu; subst hu; exact cell _ _ h2
    | 2, hu => simp at hu; subst hu; exact cell _ _ h3
end
end Go.Proofs.Lx
