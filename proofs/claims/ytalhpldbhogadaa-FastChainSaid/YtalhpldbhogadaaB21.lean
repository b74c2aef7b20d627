/- Parts of the proof: Fd. lay's words: rows and pairs that grow, blocks beside the engine. Printed by gen_fd.py. No condition. -/
import Derived.Test.YtalhpldbhogadaaB20
import Derived.Test.YtalhpldbhogadaaB12
namespace Go.Proofs.Lx
open Go Go.RowKit Go.Proofs.Tj
set_option linter.unusedVariables false
set_option linter.unusedSimpArgs false
section
variable {w w' W0 : World} {G : Gh} {S : Stc} {T : Th} {D : Dyn} {vT : Value}
theorem Agr.of_alloc0 (w : World) (o : Obj) (F : Nat → Prop) : Agr F w (w.alloc o) := Agr.of_below (ext_alloc w o) F
/-- A new block beside the engine (the elder one is let go). -/
theorem EngV.newX2 (h : EngV w W0 G S T D vT) (o : Obj) : EngV (w.alloc o) W0 { G with x2 := .blks [(w.heap.size, o)] } S T D vT := by
  refine ⟨h.sp.step (C' := contE { G with x2 := .blks [(w.heap.size, o)] } S D vT) .x2 (fun j hj => by cases j <;> first | rfl | exact absurd rfl hj) (Agr.of_alloc0 w o _) ?_ ?_, h.st, h.rF, h.rR, h.rB⟩
  · intro k o' hm
    simp only [List.mem_cons, Prod.mk.injEq, List.not_mem_nil, or_false] at hm
    obtain ⟨rfl, rfl⟩ := hm
    exact ⟨h.sp.old.size, heap_alloc_new w _⟩
  · rintro g ⟨o', hm⟩
    simp only [List.mem_cons, Prod.mk.injEq, List.not_mem_nil, or_false] at hm
    obtain ⟨rfl, rfl⟩ := hm
    exact .inr (Nat.le_refl _)
theorem EngV.atX2 (h : EngV w W0 G S T D vT) {k : Nat} {o : Obj} (hx : G.x2 = .blks [(k, o)]) : w.heap[k]? = some o := by
  have hok : (contE G S D vT .x2).ok W0.heap.size w := h.sp.ok .x2
  have hok : Cont.ok W0.heap.size w (.blks [(k, o)]) := hx ▸ hok
  exact (hok k o (by simp)).2
theorem EngV.dropX2 (h : EngV w W0 G S T D vT) : EngV w W0 { G with x2 := .no } S T D vT :=
  ⟨h.sp.step (C' := contE { G with x2 := .no } S D vT) .x2 (fun j hj => by cases j <;> first | rfl | exact absurd rfl hj) (Agr.of_below (ext_refl w) _) trivial (fun g hg => hg.elim), h.st, h.rF, h.rR, h.rB⟩
theorem EngV.dropX1 (h : EngV w W0 G S T D vT) : EngV w W0 { G with x1 := .no } S T D vT :=
  ⟨h.sp.step (C' := contE { G with x1 := .no } S D vT) .x1 (fun j hj => by cases j <;> first | rfl | exact absurd rfl hj) (Agr.of_below (ext_refl w) _) trivial (fun g hg => hg.elim), h.st, h.rF, h.rR, h.rB⟩
/-- An array of bools beside the engine: made, read, written. -/
theorem EngV.madeX1 (h : EngV w W0 G S T D vT) (k : Nat) (hk : k ≤ maxLen) : EngV (w.alloc (.cells (List.replicate k (Value.bool false)).toArray 4)) W0 { G with x1 := .arr (sl w.heap.size k) 4 1 k (tab k fun _ => Value.bool false) } S T D vT := by
  refine ⟨h.sp.step (C' := contE { G with x1 := .arr (sl w.heap.size k) 4 1 k (tab k fun _ => Value.bool false) } S D vT) .x1 (fun j hj => by cases j <;> first | rfl | exact absurd rfl hj) (Agr.of_alloc0 w _ _) ?_ ?_, h.st, h.rF, h.rR, h.rB⟩
  · exact own_rep (heap_alloc_new w _) h.sp.old.size hk
  · intro g hg
    refine .inr ?_
    injection (show some w.heap.size = some g from hg) with e
    omega
theorem EngV.readX1 (h : EngV w W0 G S T D vT) {gx k : Nat} {F : Nat → Bool} (hx : G.x1 = .arr (sl gx k) 4 1 k (tab k fun q => Value.bool (F q))) {q : Nat} (hq : q < k) : w.cell? ⟨gx, q, none⟩ = some (.bool (F q)) ∧ w.frozen? ⟨gx, q, none⟩ = false :=
  ⟨h.sp.readArr .x1 hx (tab_get hq), h.sp.freeArr .x1 hx q⟩
theorem EngV.writeX1 (h : EngV w W0 G S T D vT) {gx k : Nat} {F : Nat → Bool} (hx : G.x1 = .arr (sl gx k) 4 1 k (tab k fun q => Value.bool (F q))) (q : Nat) (x : Bool) :
    EngV (w.setCell ⟨gx, q, none⟩ (.bool x)) W0 { G with x1 := .arr (sl gx k) 4 1 k (tab k fun j => Value.bool (Tj.upd F q x j)) } S T D vT :=
  ⟨h.sp.setArr (C' := contE { G with x1 := .arr (sl gx k) 4 1 k (tab k fun j => Value.bool (Tj.upd F q x j)) } S D vT) .x1 hx q _ (by show Cont.arr _ _ _ _ _ = Cont.arr _ _ _ _ _; rw [tab_set]; congr 2; funext j; show _ = Tj.upd _ _ _ _; unfold Tj.upd; by_cases e : j = q <;> simp [e]) (fun j hj => by cases j <;> first | rfl | exact absurd rfl hj), h.st, h.rF, h.rR, h.rB⟩


theorem EngV.growInn (h : EngV w W0 G S T D vT) {q : Nat} (hq : q < S.n) {v v' : Value} {x : Nat} (hv : G.vin[q]? = some v) (hgr : w.grownBy w' v.ownBlock)
    (ho : w'.ownsRow W0.heap.size 3 1 v' ((S.inn q).length + 1) (natsV (S.inn q) ++ [.int .i64 (x : Int)])) (hat : v'.ownBlock = v.ownBlock ∨ ∃ b, v'.ownBlock = some b ∧ w.heap.size ≤ b) :
    EngV (w'.setCell ⟨G.g .inn, q, none⟩ v') W0 { G with vin := G.vin.set q v' } { S with inn := Tj.upd S.inn q (S.inn q ++ [x]) } T D vT := by
  have hlt : q < G.vin.length := (List.getElem?_eq_some_iff.1 hv).1
  obtain rfl : G.vin[q] = v := (List.getElem?_eq_some_iff.1 hv).2
  have hq' : q < (tab S.n S.inn).length := by rw [tab_length]; exact hq
  refine ⟨h.sp.growRow (C' := contE { G with vin := G.vin.set q v' } { S with inn := Tj.upd S.inn q (S.inn q ++ [x]) } D vT) .inn rfl hlt hq' hgr (by rw [tab_at hq]; exact ho) hat ?_ (fun j hj => by cases j <;> first | rfl | exact absurd rfl hj), ⟨h.st.n, h.st.lits, h.st.m, h.st.bl, h.st.kd, h.st.hd, h.st.bd, h.st.fo, h.st.n4, h.st.m4, h.st.hdn, h.st.fon, h.st.b16⟩, h.rF, h.rR, h.rB⟩
  show Cont.rows _ _ _ _ (tab S.n (Tj.upd S.inn q (S.inn q ++ [x]))) = Cont.rows _ _ _ _ ((tab S.n S.inn).set q ((tab S.n S.inn)[q] ++ [x]))
  rw [tab_set, tab_at hq]
theorem EngV.afterInn (h : EngV w W0 G S T D vT) {q : Nat} {v : Value} (hv : G.vin[q]? = some v) (hgr : w.grownBy w' v.ownBlock) : (∀ j, w'.cell? ⟨G.b, j, none⟩ = w.cell? ⟨G.b, j, none⟩) ∧ (∀ j, w'.cell? ⟨G.g .inn, j, none⟩ = w.cell? ⟨G.g .inn, j, none⟩) ∧ (∀ j, w'.frozen? ⟨G.g .inn, j, none⟩ = false) ∧
    (∀ k o, G.x2 = .blks [(k, o)] → w'.heap[k]? = some o) := by
  have hlt : q < G.vin.length := (List.getElem?_eq_some_iff.1 hv).1
  obtain rfl : G.vin[q] = v := (List.getElem?_eq_some_iff.1 hv).2
  have hok : RowsC w W0.heap.size (G.g .inn) _ _ G.vin (tab S.n S.inn) := h.sp.ok .inn
  have hfp : ∀ k, G.vin[q].ownBlock = some k → (contE G S D vT .inn).fp k := fun k e => .inr ⟨q, hlt, e⟩
  have h1 : w'.heap[G.b]? = w.heap[G.b]? := hgr.block _ (lt_of_block h.sp.hdr) (fun e => h.sp.far .inn G.b (hfp _ e.symm) rfl)
  have h2 : w'.heap[G.g .inn]? = w.heap[G.g .inn]? := hgr.block _ (lt_of_block hok.blk) (fun e => hok.gne q hlt e.symm)
  refine ⟨fun j => World.cell?_of_block h1, fun j => World.cell?_of_block h2, fun j => (World.frozen?_of_block h2).trans (frozen_of_row w _ j _ _ hok.blk), fun k o hx => ?_⟩
  have h3 := h.atX2 hx
  refine (hgr.block k (lt_of_obj h3) (fun e => h.sp.ne .inn .x2 k (fun e => by cases e) (hfp k e.symm) ?_)).trans h3
  show (G.x2).fp k
  rw [hx]; exact ⟨o, by simp⟩
theorem EngV.freeInn (h : EngV w W0 G S T D vT) (q : Nat) : w.frozen? ⟨G.g .inn, q, none⟩ = false := by
  have hok : RowsC w W0.heap.size (G.g .inn) _ _ G.vin (tab S.n S.inn) := h.sp.ok .inn
  exact frozen_of_row w _ q _ _ hok.blk
theorem EngV.bInn (h : EngV w W0 G S T D vT) : G.g .inn ≠ G.b := h.sp.far .inn _ (.inl rfl)

theorem EngV.growOfs (h : EngV w W0 G S T D vT) {q : Nat} (hq : q < S.m) {v v' : Value} {x : Nat} (hv : G.vof[q]? = some v) (hgr : w.grownBy w' v.ownBlock)
    (ho : w'.ownsRow W0.heap.size 3 1 v' ((S.ofs q).length + 1) (natsV (S.ofs q) ++ [.int .i64 (x : Int)])) (hat : v'.ownBlock = v.ownBlock ∨ ∃ b, v'.ownBlock = some b ∧ w.heap.size ≤ b) :
    EngV (w'.setCell ⟨G.g .ofs, q, none⟩ v') W0 { G with vof := G.vof.set q v' } { S with ofs := Tj.upd S.ofs q (S.ofs q ++ [x]) } T D vT := by
  have hlt : q < G.vof.length := (List.getElem?_eq_some_iff.1 hv).1
  obtain rfl : G.vof[q] = v := (List.getElem?_eq_some_iff.1 hv).2
  have hq' : q < (tab S.m S.ofs).length := by rw [tab_length]; exact hq
  refine ⟨h.sp.growRow (C' := contE { G with vof := G.vof.set q v' } { S with ofs := Tj.upd S.ofs q (S.ofs q ++ [x]) } D vT) .ofs rfl hlt hq' hgr (by rw [tab_at hq]; exact ho) hat ?_ (fun j hj => by cases j <;> first | rfl | exact absurd rfl hj), ⟨h.st.n, h.st.lits, h.st.m, h.st.bl, h.st.kd, h.st.hd, h.st.bd, h.st.fo, h.st.n4, h.st.m4, h.st.hdn, h.st.fon, h.st.b16⟩, h.rF, h.rR, h.rB⟩
  show Cont.rows _ _ _ _ (tab S.m (Tj.upd S.ofs q (S.ofs q ++ [x]))) = Cont.rows _ _ _ _ ((tab S.m S.ofs).set q ((tab S.m S.ofs)[q] ++ [x]))
  rw [tab_set, tab_at hq]
theorem EngV.afterOfs (h : EngV w W0 G S T D vT) {q : Nat} {v : Value} (hv : G.vof[q]? = some v) (hgr : w.grownBy w' v.ownBlock) : (∀ j, w'.cell? ⟨G.b, j, none⟩ = w.cell? ⟨G.b, j, none⟩) ∧ (∀ j, w'.cell? ⟨G.g .ofs, j, none⟩ = w.cell? ⟨G.g .ofs, j, none⟩) ∧ (∀ j, w'.frozen? ⟨G.g .ofs, j, none⟩ = false) ∧
    (∀ k o, G.x2 = .blks [(k, o)] → w'.heap[k]? = some o) := by
  have hlt : q < G.vof.length := (List.getElem?_eq_some_iff.1 hv).1
  obtain rfl : G.vof[q] = v := (List.getElem?_eq_some_iff.1 hv).2
  have hok : RowsC w W0.heap.size (G.g .ofs) _ _ G.vof (tab S.m S.ofs) := h.sp.ok .ofs
  have hfp : ∀ k, G.vof[q].ownBlock = some k → (contE G S D vT .ofs).fp k := fun k e => .inr ⟨q, hlt, e⟩
  have h1 : w'.heap[G.b]? = w.heap[G.b]? := hgr.block _ (lt_of_block h.sp.hdr) (fun e => h.sp.far .ofs G.b (hfp _ e.symm) rfl)
  have h2 : w'.heap[G.g .ofs]? = w.heap[G.g .ofs]? := hgr.block _ (lt_of_block hok.blk) (fun e => hok.gne q hlt e.symm)
  refine ⟨fun j => World.cell?_of_block h1, fun j => World.cell?_of_block h2, fun j => (World.frozen?_of_block h2).trans (frozen_of_row w _ j _ _ hok.blk), fun k o hx => ?_⟩
  have h3 := h.atX2 hx
  refine (hgr.block k (lt_of_obj h3) (fun e => h.sp.ne .ofs .x2 k (fun e => by cases e) (hfp k e.symm) ?_)).trans h3
  show (G.x2).fp k
  rw [hx]; exact ⟨o, by simp⟩
theorem EngV.freeOfs (h : EngV w W0 G S T D vT) (q : Nat) : w.frozen? ⟨G.g .ofs, q, none⟩ = false := by
  have hok : RowsC w W0.heap.size (G.g .ofs) _ _ G.vof (tab S.m S.ofs) := h.sp.ok .ofs
  exact frozen_of_row w _ q _ _ hok.blk
theorem EngV.bOfs (h : EngV w W0 G S T D vT) : G.g .ofs ≠ G.b := h.sp.far .ofs _ (.inl rfl)

theorem EngV.growBeats (h : EngV w W0 G S T D vT) {q : Nat} (hq : q < S.m) {v v' : Value} {x : Nat} (hv : G.vbe[q]? = some v) (hgr : w.grownBy w' v.ownBlock)
    (ho : w'.ownsRow W0.heap.size 3 1 v' ((S.beats q).length + 1) (natsV (S.beats q) ++ [.int .i64 (x : Int)])) (hat : v'.ownBlock = v.ownBlock ∨ ∃ b, v'.ownBlock = some b ∧ w.heap.size ≤ b) :
    EngV (w'.setCell ⟨G.g .beats, q, none⟩ v') W0 { G with vbe := G.vbe.set q v' } { S with beats := Tj.upd S.beats q (S.beats q ++ [x]) } T D vT := by
  have hlt : q < G.vbe.length := (List.getElem?_eq_some_iff.1 hv).1
  obtain rfl : G.vbe[q] = v := (List.getElem?_eq_some_iff.1 hv).2
  have hq' : q < (tab S.m S.beats).length := by rw [tab_length]; exact hq
  refine ⟨h.sp.growRow (C' := contE { G with vbe := G.vbe.set q v' } { S with beats := Tj.upd S.beats q (S.beats q ++ [x]) } D vT) .beats rfl hlt hq' hgr (by rw [tab_at hq]; exact ho) hat ?_ (fun j hj => by cases j <;> first | rfl | exact absurd rfl hj), ⟨h.st.n, h.st.lits, h.st.m, h.st.bl, h.st.kd, h.st.hd, h.st.bd, h.st.fo, h.st.n4, h.st.m4, h.st.hdn, h.st.fon, h.st.b16⟩, h.rF, h.rR, h.rB⟩
  show Cont.rows _ _ _ _ (tab S.m (Tj.upd S.beats q (S.beats q ++ [x]))) = Cont.rows _ _ _ _ ((tab S.m S.beats).set q ((tab S.m S.beats)[q] ++ [x]))
  rw [tab_set, tab_at hq]
theorem EngV.afterBeats (h : EngV w W0 G S T D vT) {q : Nat} {v : Value} (hv : G.vbe[q]? = some v) (hgr : w.grownBy w' v.ownBlock) : (∀ j, w'.cell? ⟨G.b, j, none⟩ = w.cell? ⟨G.b, j, none⟩) ∧ (∀ j, w'.cell? ⟨G.g .beats, j, none⟩ = w.cell? ⟨G.g .beats, j, none⟩) ∧ (∀ j, w'.frozen? ⟨G.g .beats, j, none⟩ = false) ∧
    (∀ k o, G.x2 = .blks [(k, o)] → w'.heap[k]? = some o) := by
  have hlt : q < G.vbe.length := (List.getElem?_eq_some_iff.1 hv).1
  obtain rfl : G.vbe[q] = v := (List.getElem?_eq_some_iff.1 hv).2
  have hok : RowsC w W0.heap.size (G.g .beats) _ _ G.vbe (tab S.m S.beats) := h.sp.ok .beats
  have hfp : ∀ k, G.vbe[q].ownBlock = some k → (contE G S D vT .beats).fp k := fun k e => .inr ⟨q, hlt, e⟩
  have h1 : w'.heap[G.b]? = w.heap[G.b]? := hgr.block _ (lt_of_block h.sp.hdr) (fun e => h.sp.far .beats G.b (hfp _ e.symm) rfl)
  have h2 : w'.heap[G.g .beats]? = w.heap[G.g .beats]? := hgr.block _ (lt_of_block hok.blk) (fun e => hok.gne q hlt e.symm)
  refine ⟨fun j => World.cell?_of_block h1, fun j => World.cell?_of_block h2, fun j => (World.frozen?_of_block h2).trans (frozen_of_row w _ j _ _ hok.blk), fun k o hx => ?_⟩
  have h3 := h.atX2 hx
  refine (hgr.block k (lt_of_obj h3) (fun e => h.sp.ne .beats .x2 k (fun e => by cases e) (hfp k e.symm) ?_)).trans h3
  show (G.x2).fp k
  rw [hx]; exact ⟨o, by simp⟩
theorem EngV.freeBeats (h : EngV w W0 G S T D vT) (q : Nat) : w.frozen? ⟨G.g .beats, q, none⟩ = false := by
  have hok : RowsC w W0.heap.size (G.g .beats) _ _ G.vbe (tab S.m S.beats) := h.sp.ok .beats
  exact frozen_of_row w _ q _ _ hok.blk
theorem EngV.bBeats (h : EngV w W0 G S T D vT) : G.g .beats ≠ G.b := h.sp.far .beats _ (.inl rfl)

/-- A pair more. -/
theorem EngV.growPairs (h : EngV w W0 G S T D vT) {v' : Value} {q s : Nat} (hgr : w.grownBy w' G.vP.ownBlock) (hs : D.settled S.P = false) (hl : D.left S.P = 0)
    (ho : w'.ownsRow W0.heap.size 146 4 v' (S.P + 1) (tab (4 * S.P) (pairC S D) ++ [.int .i64 (q : Int), .int .i64 (s : Int), .bool false, .int .i64 0]))
    (hat : ∀ g, v'.ownBlock = some g → G.vP.ownBlock = some g ∨ w.heap.size ≤ g) :
    EngV (w'.setCell ⟨G.b, 21, none⟩ v') W0 { G with vP := v' } { S with P := S.P + 1, pq := Tj.upd S.pq S.P q, ps := Tj.upd S.ps S.P s } T D vT := by
  refine ⟨(h.sp.growArr (C' := contE { G with vP := v' } { S with P := S.P + 1, pq := Tj.upd S.pq S.P q, ps := Tj.upd S.ps S.P s } D vT) .pairs rfl hgr ho hat ?_ (fun j hj => by cases j <;> first | rfl | exact absurd rfl hj)).put 21 v', ⟨h.st.n, h.st.lits, h.st.m, h.st.bl, h.st.kd, h.st.hd, h.st.bd, h.st.fo, h.st.n4, h.st.m4, h.st.hdn, h.st.fon, h.st.b16⟩, h.rF, h.rR, h.rB⟩
  show Cont.arr v' _ 4 (S.P + 1) (tab (4 * (S.P + 1)) (pairC { S with P := S.P + 1, pq := Tj.upd S.pq S.P q, ps := Tj.upd S.ps S.P s } D)) = _
  congr 1
  apply List.ext_getElem
  · simp [tab]; omega
  · intro i h1 h2
    rw [tab_length] at h1
    rw [tab_at h1]
    rcases Nat.lt_or_ge i (4 * S.P) with hi | hi
    · rw [List.getElem_append_left (by rw [tab_length]; exact hi), tab_at hi]
      unfold pairC
      have hne : i / 4 ≠ S.P := by omega
      dsimp only
      rw [Tj.upd_ne hne, Tj.upd_ne hne]
    · rw [List.getElem_append_right (by rw [tab_length]; exact hi)]
      have hd : i / 4 = S.P := by omega
      have : i = 4 * S.P ∨ i = 4 * S.P + 1 ∨ i = 4 * S.P + 2 ∨ i = 4 * S.P + 3 := by omega
      unfold pairC
      dsimp only
      simp only [tab_length]
      rcases this with rfl | rfl | rfl | rfl
      · rw [if_pos (by omega), hd, Tj.upd_same]; simp
      · rw [if_neg (by omega), if_pos (by omega), hd, Tj.upd_same]; simp [show 4 * S.P + 1 - 4 * S.P = 1 by omega]
      · rw [if_neg (by omega), if_neg (by omega), if_pos (by omega), hd, hs]; simp [show 4 * S.P + 2 - 4 * S.P = 2 by omega]
      · rw [if_neg (by omega), if_neg (by omega), if_neg (by omega), hd, hl]; simp [show 4 * S.P + 3 - 4 * S.P = 3 by omega]
theorem EngV.pairsOwn (h : EngV w W0 G S T D vT) : w.ownsRow W0.heap.size 146 4 G.vP S.P (tab (4 * S.P) (pairC S D)) := h.sp.ok .pairs
theorem EngV.afterPairs (h : EngV w W0 G S T D vT) (hg : w.grownBy w' G.vP.ownBlock) : w'.cell? ⟨G.b, 21, none⟩ = some G.vP ∧ w'.frozen? ⟨G.b, 21, none⟩ = false := by
  have hb : w'.heap[G.b]? = w.heap[G.b]? := hg.block _ (lt_of_block h.sp.hdr) (fun e => h.sp.far .pairs G.b e.symm rfl)
  exact ⟨(World.cell?_of_block hb).trans h.hPairs, (World.frozen?_of_block hb).trans (h.free 21)⟩
theorem EngV.wFirst (h : EngV w W0 G S T D vT) (x : Nat) : EngV (w.setCell ⟨G.b, 6, none⟩ (.int .i64 (x : Int))) W0 G { S with first := x } T D vT :=
  ⟨h.sp.put 6 _, ⟨h.st.n, h.st.lits, h.st.m, h.st.bl, h.st.kd, h.st.hd, h.st.bd, h.st.fo, h.st.n4, h.st.m4, h.st.hdn, h.st.fon, h.st.b16⟩, h.rF, h.rR, h.rB⟩
end
end Go.Proofs.Lx
