/- Parts of the proof: Fd, Fe, Ff. lay's words: rows and pairs that grow, blocks beside the engine. Printed by gen_fd.py. No condition. -/
import Derived.Test.YtalhpldbhogadaaGreatO18
import Derived.Test.YtalhpldbhogadaaGreatO12
import Derived.Test.YtalhpldbhogadaaGreatO8
import Derived.Deep.DeepCutAuto
import Derived.Deep.RegionHeld3
import Derived.Test.YtalhpldbhogadaaGreatO13
namespace Go.Proofs.Lx
open Go Go.RowKit Go.Proofs.Tj
set_option linter.unusedVariables false
set_option linter.unusedSimpArgs false
section
variable {w w' W0 : World} {G : Gh} {S : Stc} {T : Th} {D : Dyn} {vT : Value}
theorem Agr.of_alloc0 (w : World) (o : Obj) (F : Nat → Prop) : Agr F w (w.alloc o) := Agr.of_below (ext_alloc w o) F
/-- A new block beside the engine (the elder one is let go). -/
theorem EngV.newX2 (h : EngV w W0 G S T D vT) (o : Obj) : EngV (w.alloc o) W0 { G with x2 := .blks [(w.heap.size, o)] } S T D vT := by
 refine ⟨h.sp.step (C' := contE { G with x2 := .blks [(w.heap.size, o)] } S D vT) .x2 (fun j hj => by cases j <;> first | rfl | exact absurd rfl hj) (Agr.of_alloc0 w o _) ?_ ?_, h.st, h.rF, h.rR, h.rB⟩
 ·intro k o' hm
  simp only [List.mem_cons, Prod.mk.injEq, List.not_mem_nil, or_false] at hm
  obtain ⟨rfl, rfl⟩ := hm
  exact ⟨h.sp.old.size, heap_alloc_new w _⟩
 ·rintro g ⟨o', hm⟩
  simp only [List.mem_cons, Prod.mk.injEq, List.not_mem_nil, or_false] at hm
  obtain ⟨rfl, rfl⟩ := hm
  exact .inr (Nat.le_refl _)
theorem EngV.atX2 (h : EngV w W0 G S T D vT) {k : Nat} {o : Obj} (hx : G.x2 = .blks [(k, o)]) : w.heap[k]? = some o := by
 have hok : (contE G S D vT .x2).ok W0.heap.size w := h.sp.ok .x2
 have hok : Cont.ok W0.heap.size w (.blks [(k, o)]) := hx ▸ hok
 exact (hok k o (by simp)).2
theorem EngV.dropX2 (h : EngV w W0 G S T D vT) : EngV w W0 { G with x2 := .no } S T D vT :=
 ⟨h.sp.step (C' := contE { G with x2 := .no } S D vT) .x2 (fun j hj => by cases j <;> first | rfl | exact absurd rfl hj) (Agr.of_below (ext_refl w) _) trivial (fun g hg => hg.elim), h.st, h.rF, h.rR, h.rB⟩
theorem EngV.dropX1 (h : EngV w W0 G S T D vT) : EngV w W0 { G with x1 := .no } S T D vT :=
 ⟨h.sp.step (C' := contE { G with x1 := .no } S D vT) .x1 (fun j hj => by cases j <;> first | rfl | exact absurd rfl hj) (Agr.of_below (ext_refl w) _) trivial (fun g hg => hg.elim), h.st, h.rF, h.rR, h.rB⟩
/-- An array of bools beside the engine: made, read, written. -/
theorem EngV.madeX1 (h : EngV w W0 G S T D vT) (k : Nat) (hk : k ≤ maxLen) : EngV (w.alloc (.cells (List.replicate k (Value.bool false)).toArray 4)) W0 { G with x1 := .arr (sl w.heap.size k) 4 1 k (tab k fun _ => Value.bool false) } S T D vT := by
 refine ⟨h.sp.step (C' := contE { G with x1 := .arr (sl w.heap.size k) 4 1 k (tab k fun _ => Value.bool false) } S D vT) .x1 (fun j hj => by cases j <;> first | rfl | exact absurd rfl hj) (Agr.of_alloc0 w _ _) ?_ ?_, h.st, h.rF, h.rR, h.rB⟩
 ·exact own_rep (heap_alloc_new w _) h.sp.old.size hk
 ·intro g hg
  refine .inr ?_
  injection (show some w.heap.size = some g from hg) with e
  omega
theorem EngV.readX1 (h : EngV w W0 G S T D vT) {gx k : Nat} {F : Nat → Bool} (hx : G.x1 = .arr (sl gx k) 4 1 k (tab k fun q => Value.bool (F q))) {q : Nat} (hq : q < k) : w.cell? ⟨gx, q, none⟩ = some (.bool (F q)) ∧ w.frozen? ⟨gx, q, none⟩ = false :=
 ⟨h.sp.readArr .x1 hx (tab_get hq), h.sp.freeArr .x1 hx q⟩
theorem EngV.writeX1 (h : EngV w W0 G S T D vT) {gx k : Nat} {F : Nat → Bool} (hx : G.x1 = .arr (sl gx k) 4 1 k (tab k fun q => Value.bool (F q))) (q : Nat) (x : Bool) :
  EngV (w.setCell ⟨gx, q, none⟩ (.bool x)) W0 { G with x1 := .arr (sl gx k) 4 1 k (tab k fun j => Value.bool (Tj.upd F q x j)) } S T D vT :=
 ⟨h.sp.setArr (C' := contE { G with x1 := .arr (sl gx k) 4 1 k (tab k fun j => Value.bool (Tj.upd F q x j)) } S D vT) .x1 hx q _ (by show Cont.arr _ _ _ _ _ = Cont.arr _ _ _ _ _; rw [tab_set]; congr 2; funext j; show _ = Tj.upd _ _ _ _; unfold Tj.upd; by_cases e : j = q <;> simp [e]) (fun j hj => by cases j <;> first | rfl | exact absurd rfl hj), h.st, h.rF, h.rR, h.rB⟩


theorem EngV.growInn (h : EngV w W0 G S T D vT) {q : Nat} (hq : q < S.n) {v v' : Value} {x : Nat} (hv : G.vin[q]? = some v) (hgr : w.grownBy w' v.ownBlock)
  (ho : w'.ownsRow W0.heap.size 3 1 v' ((S.inn q).length + 1) (natsV (S.inn q) ++ [.int .i64 (x : Int)])) (hat : v'.ownBlock = v.ownBlock ∨ ∃ b, v'.ownBlock = some b ∧ w.heap.size ≤ b) :
  EngV (w'.setCell ⟨G.g .inn, q, none⟩ v') W0 { G with vin := G.vin.set q v' } { S with inn := Tj.upd S.inn q (S.inn q ++ [x]) } T D vT := by
 have hlt : q < G.vin.length := (List.getElem?_eq_some_iff.1 hv).1
 obtain rfl : G.vin[q] = v := (List.getElem?_eq_some_iff.1 hv).2
 have hq' : q < (tab S.n S.inn).length := by rw [tab_length]; exact hq
 refine ⟨h.sp.growRow (C' := contE { G with vin := G.vin.set q v' } { S with inn := Tj.upd S.inn q (S.inn q ++ [x]) } D vT) .inn rfl hlt hq' hgr (by rw [tab_at hq]; exact ho) hat ?_ (fun j hj => by cases j <;> first | rfl | exact absurd rfl hj), ⟨h.st.n, h.st.lits, h.st.m, h.st.bl, h.st.kd, h.st.hd, h.st.bd, h.st.fo, h.st.n4, h.st.m4, h.st.hdn, h.st.fon, h.st.b16⟩, h.rF, h.rR, h.rB⟩
 show Cont.rows _ _ _ _ (tab S.n (Tj.upd S.inn q (S.inn q ++ [x]))) = Cont.rows _ _ _ _ ((tab S.n S.inn).set q ((tab S.n S.inn)[q] ++ [x]))
 rw [tab_set, tab_at hq]
theorem EngV.afterInn (h : EngV w W0 G S T D vT) {q : Nat} {v : Value} (hv : G.vin[q]? = some v) (hgr : w.grownBy w' v.ownBlock) : (∀ j, w'.cell? ⟨G.b, j, none⟩ = w.cell? ⟨G.b, j, none⟩) ∧ (∀ j, w'.cell? ⟨G.g .inn, j, none⟩ = w.cell? ⟨G.g .inn, j, none⟩) ∧ (∀ j, w'.frozen? ⟨G.g .inn, j, none⟩ = false) ∧
  (∀ k o, G.x2 = .blks [(k, o)] → w'.heap[k]? = some o) := by
 have hlt : q < G.vin.length := (List.getElem?_eq_some_iff.1 hv).1
 obtain rfl : G.vin[q] = v := (List.getElem?_eq_some_iff.1 hv).2
 have hok : RowsC w W0.heap.size (G.g .inn) _ _ G.vin (tab S.n S.inn) := h.sp.ok .inn
 have hfp : ∀ k, G.vin[q].ownBlock = some k → (contE G S D vT .inn).fp k := fun k e => .inr ⟨q, hlt, e⟩
 have h1 : w'.heap[G.b]? = w.heap[G.b]? := hgr.block _ (lt_of_block h.sp.hdr) (fun e => h.sp.far .inn G.b (hfp _ e.symm) rfl)
 have h2 : w'.heap[G.g .inn]? = w.heap[G.g .inn]? := hgr.block _ (lt_of_block hok.blk) (fun e => hok.gne q hlt e.symm)
 refine ⟨fun j => World.cell?_of_block h1, fun j => World.cell?_of_block h2, fun j => (World.frozen?_of_block h2).trans (frozen_of_row w _ j _ _ hok.blk), fun k o hx => ?_⟩
 have h3 := h.atX2 hx
 refine (hgr.block k (lt_of_obj h3) (fun e => h.sp.ne .inn .x2 k (fun e => by cases e) (hfp k e.symm) ?_)).trans h3
 show (G.x2).fp k
 rw [hx]; exact ⟨o, by simp⟩
theorem EngV.freeInn (h : EngV w W0 G S T D vT) (q : Nat) : w.frozen? ⟨G.g .inn, q, none⟩ = false := by
 have hok : RowsC w W0.heap.size (G.g .inn) _ _ G.vin (tab S.n S.inn) := h.sp.ok .inn
 exact frozen_of_row w _ q _ _ hok.blk
theorem EngV.bInn (h : EngV w W0 G S T D vT) : G.g .inn ≠ G.b := h.sp.far .inn _ (.inl rfl)

theorem EngV.growOfs (h : EngV w W0 G S T D vT) {q : Nat} (hq : q < S.m) {v v' : Value} {x : Nat} (hv : G.vof[q]? = some v) (hgr : w.grownBy w' v.ownBlock)
  (ho : w'.ownsRow W0.heap.size 3 1 v' ((S.ofs q).length + 1) (natsV (S.ofs q) ++ [.int .i64 (x : Int)])) (hat : v'.ownBlock = v.ownBlock ∨ ∃ b, v'.ownBlock = some b ∧ w.heap.size ≤ b) :
  EngV (w'.setCell ⟨G.g .ofs, q, none⟩ v') W0 { G with vof := G.vof.set q v' } { S with ofs := Tj.upd S.ofs q (S.ofs q ++ [x]) } T D vT := by
 have hlt : q < G.vof.length := (List.getElem?_eq_some_iff.1 hv).1
 obtain rfl : G.vof[q] = v := (List.getElem?_eq_some_iff.1 hv).2
 have hq' : q < (tab S.m S.ofs).length := by rw [tab_length]; exact hq
 refine ⟨h.sp.growRow (C' := contE { G with vof := G.vof.set q v' } { S with ofs := Tj.upd S.ofs q (S.ofs q ++ [x]) } D vT) .ofs rfl hlt hq' hgr (by rw [tab_at hq]; exact ho) hat ?_ (fun j hj => by cases j <;> first | rfl | exact absurd rfl hj), ⟨h.st.n, h.st.lits, h.st.m, h.st.bl, h.st.kd, h.st.hd, h.st.bd, h.st.fo, h.st.n4, h.st.m4, h.st.hdn, h.st.fon, h.st.b16⟩, h.rF, h.rR, h.rB⟩
 show Cont.rows _ _ _ _ (tab S.m (Tj.upd S.ofs q (S.ofs q ++ [x]))) = Cont.rows _ _ _ _ ((tab S.m S.ofs).set q ((tab S.m S.ofs)[q] ++ [x]))
 rw [tab_set, tab_at hq]
theorem EngV.afterOfs (h : EngV w W0 G S T D vT) {q : Nat} {v : Value} (hv : G.vof[q]? = some v) (hgr : w.grownBy w' v.ownBlock) : (∀ j, w'.cell? ⟨G.b, j, none⟩ = w.cell? ⟨G.b, j, none⟩) ∧ (∀ j, w'.cell? ⟨G.g .ofs, j, none⟩ = w.cell? ⟨G.g .ofs, j, none⟩) ∧ (∀ j, w'.frozen? ⟨G.g .ofs, j, none⟩ = false) ∧
  (∀ k o, G.x2 = .blks [(k, o)] → w'.heap[k]? = some o) := by
 have hlt : q < G.vof.length := (List.getElem?_eq_some_iff.1 hv).1
 obtain rfl : G.vof[q] = v := (List.getElem?_eq_some_iff.1 hv).2
 have hok : RowsC w W0.heap.size (G.g .ofs) _ _ G.vof (tab S.m S.ofs) := h.sp.ok .ofs
 have hfp : ∀ k, G.vof[q].ownBlock = some k → (contE G S D vT .ofs).fp k := fun k e => .inr ⟨q, hlt, e⟩
 have h1 : w'.heap[G.b]? = w.heap[G.b]? := hgr.block _ (lt_of_block h.sp.hdr) (fun e => h.sp.far .ofs G.b (hfp _ e.symm) rfl)
 have h2 : w'.heap[G.g .ofs]? = w.heap[G.g .ofs]? := hgr.block _ (lt_of_block hok.blk) (fun e => hok.gne q hlt e.symm)
 refine ⟨fun j => World.cell?_of_block h1, fun j => World.cell?_of_block h2, fun j => (World.frozen?_of_block h2).trans (frozen_of_row w _ j _ _ hok.blk), fun k o hx => ?_⟩
 have h3 := h.atX2 hx
 refine (hgr.block k (lt_of_obj h3) (fun e => h.sp.ne .ofs .x2 k (fun e => by cases e) (hfp k e.symm) ?_)).trans h3
 show (G.x2).fp k
 rw [hx]; exact ⟨o, by simp⟩
theorem EngV.freeOfs (h : EngV w W0 G S T D vT) (q : Nat) : w.frozen? ⟨G.g .ofs, q, none⟩ = false := by
 have hok : RowsC w W0.heap.size (G.g .ofs) _ _ G.vof (tab S.m S.ofs) := h.sp.ok .ofs
 exact frozen_of_row w _ q _ _ hok.blk
theorem EngV.bOfs (h : EngV w W0 G S T D vT) : G.g .ofs ≠ G.b := h.sp.far .ofs _ (.inl rfl)

theorem EngV.growBeats (h : EngV w W0 G S T D vT) {q : Nat} (hq : q < S.m) {v v' : Value} {x : Nat} (hv : G.vbe[q]? = some v) (hgr : w.grownBy w' v.ownBlock)
  (ho : w'.ownsRow W0.heap.size 3 1 v' ((S.beats q).length + 1) (natsV (S.beats q) ++ [.int .i64 (x : Int)])) (hat : v'.ownBlock = v.ownBlock ∨ ∃ b, v'.ownBlock = some b ∧ w.heap.size ≤ b) :
  EngV (w'.setCell ⟨G.g .beats, q, none⟩ v') W0 { G with vbe := G.vbe.set q v' } { S with beats := Tj.upd S.beats q (S.beats q ++ [x]) } T D vT := by
 have hlt : q < G.vbe.length := (List.getElem?_eq_some_iff.1 hv).1
 obtain rfl : G.vbe[q] = v := (List.getElem?_eq_some_iff.1 hv).2
 have hq' : q < (tab S.m S.beats).length := by rw [tab_length]; exact hq
 refine ⟨h.sp.growRow (C' := contE { G with vbe := G.vbe.set q v' } { S with beats := Tj.upd S.beats q (S.beats q ++ [x]) } D vT) .beats rfl hlt hq' hgr (by rw [tab_at hq]; exact ho) hat ?_ (fun j hj => by cases j <;> first | rfl | exact absurd rfl hj), ⟨h.st.n, h.st.lits, h.st.m, h.st.bl, h.st.kd, h.st.hd, h.st.bd, h.st.fo, h.st.n4, h.st.m4, h.st.hdn, h.st.fon, h.st.b16⟩, h.rF, h.rR, h.rB⟩
 show Cont.rows _ _ _ _ (tab S.m (Tj.upd S.beats q (S.beats q ++ [x]))) = Cont.rows _ _ _ _ ((tab S.m S.beats).set q ((tab S.m S.beats)[q] ++ [x]))
 rw [tab_set, tab_at hq]
theorem EngV.afterBeats (h : EngV w W0 G S T D vT) {q : Nat} {v : Value} (hv : G.vbe[q]? = some v) (hgr : w.grownBy w' v.ownBlock) : (∀ j, w'.cell? ⟨G.b, j, none⟩ = w.cell? ⟨G.b, j, none⟩) ∧ (∀ j, w'.cell? ⟨G.g .beats, j, none⟩ = w.cell? ⟨G.g .beats, j, none⟩) ∧ (∀ j, w'.frozen? ⟨G.g .beats, j, none⟩ = false) ∧
  (∀ k o, G.x2 = .blks [(k, o)] → w'.heap[k]? = some o) := by
 have hlt : q < G.vbe.length := (List.getElem?_eq_some_iff.1 hv).1
 obtain rfl : G.vbe[q] = v := (List.getElem?_eq_some_iff.1 hv).2
 have hok : RowsC w W0.heap.size (G.g .beats) _ _ G.vbe (tab S.m S.beats) := h.sp.ok .beats
 have hfp : ∀ k, G.vbe[q].ownBlock = some k → (contE G S D vT .beats).fp k := fun k e => .inr ⟨q, hlt, e⟩
 have h1 : w'.heap[G.b]? = w.heap[G.b]? := hgr.block _ (lt_of_block h.sp.hdr) (fun e => h.sp.far .beats G.b (hfp _ e.symm) rfl)
 have h2 : w'.heap[G.g .beats]? = w.heap[G.g .beats]? := hgr.block _ (lt_of_block hok.blk) (fun e => hok.gne q hlt e.symm)
 refine ⟨fun j => World.cell?_of_block h1, fun j => World.cell?_of_block h2, fun j => (World.frozen?_of_block h2).trans (frozen_of_row w _ j _ _ hok.blk), fun k o hx => ?_⟩
 have h3 := h.atX2 hx
 refine (hgr.block k (lt_of_obj h3) (fun e => h.sp.ne .beats .x2 k (fun e => by cases e) (hfp k e.symm) ?_)).trans h3
 show (G.x2).fp k
 rw [hx]; exact ⟨o, by simp⟩
theorem EngV.freeBeats (h : EngV w W0 G S T D vT) (q : Nat) : w.frozen? ⟨G.g .beats, q, none⟩ = false := by
 have hok : RowsC w W0.heap.size (G.g .beats) _ _ G.vbe (tab S.m S.beats) := h.sp.ok .beats
 exact frozen_of_row w _ q _ _ hok.blk
theorem EngV.bBeats (h : EngV w W0 G S T D vT) : G.g .beats ≠ G.b := h.sp.far .beats _ (.inl rfl)

/-- A pair more. -/
theorem EngV.growPairs (h : EngV w W0 G S T D vT) {v' : Value} {q s : Nat} (hgr : w.grownBy w' G.vP.ownBlock) (hs : D.settled S.P = false) (hl : D.left S.P = 0)
  (ho : w'.ownsRow W0.heap.size 191 4 v' (S.P + 1) (tab (4 * S.P) (pairC S D) ++ [.int .i64 (q : Int), .int .i64 (s : Int), .bool false, .int .i64 0]))
  (hat : ∀ g, v'.ownBlock = some g → G.vP.ownBlock = some g ∨ w.heap.size ≤ g) :
  EngV (w'.setCell ⟨G.b, 21, none⟩ v') W0 { G with vP := v' } { S with P := S.P + 1, pq := Tj.upd S.pq S.P q, ps := Tj.upd S.ps S.P s } T D vT := by
 refine ⟨(h.sp.growArr (C' := contE { G with vP := v' } { S with P := S.P + 1, pq := Tj.upd S.pq S.P q, ps := Tj.upd S.ps S.P s } D vT) .pairs rfl hgr ho hat ?_ (fun j hj => by cases j <;> first | rfl | exact absurd rfl hj)).put 21 v', ⟨h.st.n, h.st.lits, h.st.m, h.st.bl, h.st.kd, h.st.hd, h.st.bd, h.st.fo, h.st.n4, h.st.m4, h.st.hdn, h.st.fon, h.st.b16⟩, h.rF, h.rR, h.rB⟩
 show Cont.arr v' _ 4 (S.P + 1) (tab (4 * (S.P + 1)) (pairC { S with P := S.P + 1, pq := Tj.upd S.pq S.P q, ps := Tj.upd S.ps S.P s } D)) = _
 congr 1
 apply List.ext_getElem
 ·simp [tab]; omega
 ·intro i h1 h2
  rw [tab_length] at h1
  rw [tab_at h1]
  rcases Nat.lt_or_ge i (4 * S.P) with hi | hi
  ·rw [List.getElem_append_left (by rw [tab_length]; exact hi), tab_at hi]
   unfold pairC
   have hne : i / 4 ≠ S.P := by omega
   dsimp only
   rw [Tj.upd_ne hne, Tj.upd_ne hne]
  ·rw [List.getElem_append_right (by rw [tab_length]; exact hi)]
   have hd : i / 4 = S.P := by omega
   have : i = 4 * S.P ∨ i = 4 * S.P + 1 ∨ i = 4 * S.P + 2 ∨ i = 4 * S.P + 3 := by omega
   unfold pairC
   dsimp only
   simp only [tab_length]
   rcases this with rfl | rfl | rfl | rfl
   ·rw [if_pos (by omega), hd, Tj.upd_same]; simp
   ·rw [if_neg (by omega), if_pos (by omega), hd, Tj.upd_same]; simp [show 4 * S.P + 1 - 4 * S.P = 1 by omega]
   ·rw [if_neg (by omega), if_neg (by omega), if_pos (by omega), hd, hs]; simp [show 4 * S.P + 2 - 4 * S.P = 2 by omega]
   ·rw [if_neg (by omega), if_neg (by omega), if_neg (by omega), hd, hl]; simp [show 4 * S.P + 3 - 4 * S.P = 3 by omega]
theorem EngV.pairsOwn (h : EngV w W0 G S T D vT) : w.ownsRow W0.heap.size 191 4 G.vP S.P (tab (4 * S.P) (pairC S D)) := h.sp.ok .pairs
theorem EngV.afterPairs (h : EngV w W0 G S T D vT) (hg : w.grownBy w' G.vP.ownBlock) : w'.cell? ⟨G.b, 21, none⟩ = some G.vP ∧ w'.frozen? ⟨G.b, 21, none⟩ = false := by
 have hb : w'.heap[G.b]? = w.heap[G.b]? := hg.block _ (lt_of_block h.sp.hdr) (fun e => h.sp.far .pairs G.b e.symm rfl)
 exact ⟨(World.cell?_of_block hb).trans h.hPairs, (World.frozen?_of_block hb).trans (h.free 21)⟩
theorem EngV.wFirst (h : EngV w W0 G S T D vT) (x : Nat) : EngV (w.setCell ⟨G.b, 6, none⟩ (.int .i64 (x : Int))) W0 G { S with first := x } T D vT :=
 ⟨h.sp.put 6 _, ⟨h.st.n, h.st.lits, h.st.m, h.st.bl, h.st.kd, h.st.hd, h.st.bd, h.st.fo, h.st.n4, h.st.m4, h.st.hdn, h.st.fon, h.st.b16⟩, h.rF, h.rR, h.rB⟩
end
end Go.Proofs.Lx

namespace Go.Proofs.Lx
open Go Go.RowKit Go.Proofs.Tj
set_option linter.unusedSimpArgs false
set_option linter.unusedVariables false

def blkC : Code → Code
 | .block _ b => b
 | c => c
def loopC : Code → Code
 | .loop b => b
 | c => c
/-- the loop over a rule's body, then what it does. -/
noncomputable def laySeg3 : Code := fstC (sndC (sndC (sndC ((Tryz.f49.body).getD .skip))))
noncomputable def layR10C : Code := sndC (blkC (fstC (sndC (sndC (loopC (blkC (sndC (fstC (sndC (sndC (blkC (fstC (sndC (sndC (loopC (blkC (sndC laySeg3)))))))))))))))))

set_option maxRecDepth 1000000 in
set_option maxHeartbeats 60000000 in
theorem layR10 (wx W0 : World) (G : Gh) (S : Stc) (T : Th) (D : Dyn) (vT : Value) (h : EngV wx W0 G S T D vT) (q r : Nat) (hq : q < S.n) (hlen : (S.inn q).length ≤ 1000000) (Q' : Exit → Act → World → Prop)
  (u0 u1 u2 u3 u4 u5 u6 u9 u10 u12 u13 u14 u15 u16 u17 u18 u19 u20 u21 u22 u23 u24 u25 u26 u27 u28 u29 u30 u31 u32 u33 u34 u35 u36 u37 u38 u39 u40 u41 u42 u43 u44 u45 u46 u47 u48 u49 u50 u51 u52 u53 u54 u55 u56 u57 u58 u59 u60 u61 u62 u63 u64 u65 u66 u67 u68 u69 u70 u71 u72 u73 u74 u75 u76 u77 u78 u79 u80 u81 u82 u83 u84 u85 u86 u87 u88 u89 u90 u91 u92 u93 u94 u95 u96 u97 u114 u115 u116 u117 u118 u119 u120 u121 u122 u123 u124 u125 u126 u127 u128 u129 u130 u131 u132 u133 u134 u135 u136 u137 u138 u139 u140 u141 u142 u143 u144 u145 u146 u147 u148 u149 u150 u151 u152 u153 u154 u155 u156 u157 u158 u159 u160 u161 u162 u163 u164 u165 u166 u167 u168 u169 u170 u171 u172 u173 u174 u175 u176 u177 u178 u179 u180 u181 u182 u183 u184 u185 u186 u187 u188 u189 u190 u191 u192 u193 u194 u195 u196 u197 u198 u199 u200 u201 u202 u203 u204 u205 u206 u207 u208 u209 u210 u211 u212 u213 u214 u215 u216 u217 u218 u219 u220 u221 u222 u223 u224 u225 u226 u227 u228 u229 u230 u231 u232 u233 u234 u235 u236 u237 u238 u239 u240 u241 u242 u243 u244 u245 u246 u247 u248 u249 u250 u251 u252 u253 u254 u255 u256 u257 u258 u259 u260 u261 u262 u263 u264 u265 u266 u267 u268 u269 u270 u271 u272 u273 u274 u275 u276 u277 u278 u279 u280 u281 u282 u283 u284 u285 u286 u287 u288 u289 u290 u291 u292 u293 u294 u295 u296 u297 u298 u299 u300 u301 u302 u303 u304 u305 u306 u307 u308 u309 u310 u311 u312 u313 u314 u315 u316 u317 u318 u319 u320 u321 u322 u323 u324 u325 u326 u327 u328 u329 u330 u331 u332 u333 u334 u335 u336 u337 u338 u339 u340 u341 u342 u343 u344 u345 u346 u347 u348 u349 u350 u351 u352 u353 u354 u355 u356 u357 u358 u359 u360 u361 u362 u363 u364 u365 u366 u367 u368 u98 u99 u100 u101 u102 u103 u104 u105 u106 u107 u108 u109 u110 u111 u112 u113 : Value)
  (hK : ∀ (x98 x99 x100 x101 x102 x103 x104 x105 x106 x107 x108 x109 x110 x111 x112 x113 : Value) (wy : World) (v' : Value), EngV wy W0 { G with vin := G.vin.set q v' } { S with inn := Tj.upd S.inn q (S.inn q ++ [r]) } T D vT → Q' .normal ⟨#[u0, u1, u2, u3, u4, u5, u6, .pointer (some ⟨G.b, 0, none⟩), .int .i64 (r : Int), u9, u10, .int .i64 (q : Int), u12, u13, u14, u15, u16, u17, u18, u19, u20, u21, u22, u23, u24, u25, u26, u27, u28, u29, u30, u31, u32, u33, u34, u35, u36, u37, u38, u39, u40, u41, u42, u43, u44, u45, u46, u47, u48, u49, u50, u51, u52, u53, u54, u55, u56, u57, u58, u59, u60, u61, u62, u63, u64, u65, u66, u67, u68, u69, u70, u71, u72, u73, u74, u75, u76, u77, u78, u79, u80, u81, u82, u83, u84, u85, u86, u87, u88, u89, u90, u91, u92, u93, u94, u95, u96, u97, x98, x99, x100, x101, x102, x103, x104, x105, x106, x107, x108, x109, x110, x111, x112, x113, u114, u115, u116, u117, u118, u119, u120, u121, u122, u123, u124, u125, u126, u127, u128, u129, u130, u131, u132, u133, u134, u135, u136, u137, u138, u139, u140, u141, u142, u143, u144, u145, u146, u147, u148, u149, u150, u151, u152, u153, u154, u155, u156, u157, u158, u159, u160, u161, u162, u163, u164, u165, u166, u167, u168, u169, u170, u171, u172, u173, u174, u175, u176, u177, u178, u179, u180, u181, u182, u183, u184, u185, u186, u187, u188, u189, u190, u191, u192, u193, u194, u195, u196, u197, u198, u199, u200, u201, u202, u203, u204, u205, u206, u207, u208, u209, u210, u211, u212, u213, u214, u215, u216, u217, u218, u219, u220, u221, u222, u223, u224, u225, u226, u227, u228, u229, u230, u231, u232, u233, u234, u235, u236, u237, u238, u239, u240, u241, u242, u243, u244, u245, u246, u247, u248, u249, u250, u251, u252, u253, u254, u255, u256, u257, u258, u259, u260, u261, u262, u263, u264, u265, u266, u267, u268, u269, u270, u271, u272, u273, u274, u275, u276, u277, u278, u279, u280, u281, u282, u283, u284, u285, u286, u287, u288, u289, u290, u291, u292, u293, u294, u295, u296, u297, u298, u299, u300, u301, u302, u303, u304, u305, u306, u307, u308, u309, u310, u311, u312, u313, u314, u315, u316, u317, u318, u319, u320, u321, u322, u323, u324, u325, u326, u327, u328, u329, u330, u331, u332, u333, u334, u335, u336, u337, u338, u339, u340, u341, u342, u343, u344, u345, u346, u347, u348, u349, u350, u351, u352, u353, u354, u355, u356, u357, u358, u359, u360, u361, u362, u363, u364, u365, u366, u367, u368], []⟩ wy) :
  Code.wp Tryz.prog layR10C Q' ⟨#[u0, u1, u2, u3, u4, u5, u6, .pointer (some ⟨G.b, 0, none⟩), .int .i64 (r : Int), u9, u10, .int .i64 (q : Int), u12, u13, u14, u15, u16, u17, u18, u19, u20, u21, u22, u23, u24, u25, u26, u27, u28, u29, u30, u31, u32, u33, u34, u35, u36, u37, u38, u39, u40, u41, u42, u43, u44, u45, u46, u47, u48, u49, u50, u51, u52, u53, u54, u55, u56, u57, u58, u59, u60, u61, u62, u63, u64, u65, u66, u67, u68, u69, u70, u71, u72, u73, u74, u75, u76, u77, u78, u79, u80, u81, u82, u83, u84, u85, u86, u87, u88, u89, u90, u91, u92, u93, u94, u95, u96, u97, u98, u99, u100, u101, u102, u103, u104, u105, u106, u107, u108, u109, u110, u111, u112, u113, u114, u115, u116, u117, u118, u119, u120, u121, u122, u123, u124, u125, u126, u127, u128, u129, u130, u131, u132, u133, u134, u135, u136, u137, u138, u139, u140, u141, u142, u143, u144, u145, u146, u147, u148, u149, u150, u151, u152, u153, u154, u155, u156, u157, u158, u159, u160, u161, u162, u163, u164, u165, u166, u167, u168, u169, u170, u171, u172, u173, u174, u175, u176, u177, u178, u179, u180, u181, u182, u183, u184, u185, u186, u187, u188, u189, u190, u191, u192, u193, u194, u195, u196, u197, u198, u199, u200, u201, u202, u203, u204, u205, u206, u207, u208, u209, u210, u211, u212, u213, u214, u215, u216, u217, u218, u219, u220, u221, u222, u223, u224, u225, u226, u227, u228, u229, u230, u231, u232, u233, u234, u235, u236, u237, u238, u239, u240, u241, u242, u243, u244, u245, u246, u247, u248, u249, u250, u251, u252, u253, u254, u255, u256, u257, u258, u259, u260, u261, u262, u263, u264, u265, u266, u267, u268, u269, u270, u271, u272, u273, u274, u275, u276, u277, u278, u279, u280, u281, u282, u283, u284, u285, u286, u287, u288, u289, u290, u291, u292, u293, u294, u295, u296, u297, u298, u299, u300, u301, u302, u303, u304, u305, u306, u307, u308, u309, u310, u311, u312, u313, u314, u315, u316, u317, u318, u319, u320, u321, u322, u323, u324, u325, u326, u327, u328, u329, u330, u331, u332, u333, u334, u335, u336, u337, u338, u339, u340, u341, u342, u343, u344, u345, u346, u347, u348, u349, u350, u351, u352, u353, u354, u355, u356, u357, u358, u359, u360, u361, u362, u363, u364, u365, u366, u367, u368], []⟩ wx := by
 have HK := hid hK
 clear hK
 conv => arg 2; whnf
 have hn4 := h.st.n4
 have hm4 := h.st.m4
 obtain ⟨v, hv, hcq, hst⟩ := h.rowInn hq
 have eh := h.hInn
 have hfq := h.freeInn q
 have hbs := h.sp.old.size
 have hi0 : (0 : Int) ≤ (q : Int) := by omega
 have hi1 : (q : Int) < (S.n : Int) := by omega
 have hne : G.g .inn ≠ G.b := h.bInn
 have hRlt : G.g .inn < wx.heap.size := (Cont.ok_lt (h.sp.ok .inn) (show (contE G S D vT .inn).fp (G.g .inn) from .inl rfl)).2
 have hblt : G.b < wx.heap.size := lt_of_block h.sp.hdr
 have Hkeep : Hid (∀ cs : Array Value, (fun w' : World => w'.cell? ⟨G.b, 9, none⟩ = some (sl (G.g .inn) S.n)) ((wx.alloc (.cells cs 3)).drew)) := hid fun cs => by
  have h2 := (h.ext (ext_alloc wx (.cells cs 3))).drew
  exact h2.hInn
 have Haft : Hid (∀ (cs : Array Value) (w' : World), ((wx.alloc (.cells cs 3)).drew).grownBy w' v.ownBlock → (fun w' : World => w'.cell? ⟨G.b, 9, none⟩ = some (sl (G.g .inn) S.n)) w' ∧ w'.cell? ⟨G.g .inn, q, none⟩ = some v ∧ w'.frozen? ⟨G.g .inn, q, none⟩ = false) := hid fun cs w' hg => by
  have h2 := (h.ext (ext_alloc wx (.cells cs 3))).drew
  obtain ⟨a1, a2, a3, _⟩ := h2.afterInn hv hg
  exact ⟨(a1 9).trans h2.hInn, (a2 q).trans ((cell_ext (ext_alloc wx (.cells cs 3)).drew hcq)), a3 q⟩
 have Hst : Hid (∀ (w' : World) (u : Value), (fun w' : World => w'.cell? ⟨G.b, 9, none⟩ = some (sl (G.g .inn) S.n)) w' → (fun w' : World => w'.cell? ⟨G.b, 9, none⟩ = some (sl (G.g .inn) S.n)) (w'.setCell ⟨G.g .inn, q, none⟩ u)) := hid fun w' u hs => by
  show _ = _; rw [World.cell?_setCell_far _ _ _ _ hne]; exact hs
 have H := hid h
 have hS0 : (fun w' : World => w'.cell? ⟨G.b, 9, none⟩ = some (sl (G.g .inn) S.n)) wx.drew := eh
 have HS0 := hid hS0
 have Hv := hid hv
 clear h hS0 hv hne
 refine wp_region_noPanic ?_
 refine wp_region_held_drew (S := (fun w' : World => w'.cell? ⟨G.b, 9, none⟩ = some (sl (G.g .inn) S.n))) (by kernel_rfl) ?_ (fun hHeld => ?_)
 ·exact HS0.out
 refine wpAnyH_take (i := 0) (v := ?v1) rfl (by kernel_rfl) (by kernel_rfl) (by kernel_rfl) (fun _ _ _ h => h) (Or.inl ⟨by rfl, ?hy1⟩) (by assumption) ?rest1
 case hy1 => (intro w hSw; (try dsimp only at hSw); go_simp) <;> try with_reducible rfl
 simp only [Act.put, List.setIfInBounds_toArray, List.set_cons_zero, List.set_cons_succ]
 refine wpAnyH_take (i := 1) (v := ?v2) rfl (by kernel_rfl) (by kernel_rfl) (by kernel_rfl) (fun _ _ _ h => h) (Or.inl ⟨by rfl, ?hy2⟩) (by assumption) ?rest2
 case hy2 => (intro w hSw; (try dsimp only at hSw); go_simp) <;> try with_reducible rfl
 simp only [Act.put, List.setIfInBounds_toArray, List.set_cons_zero, List.set_cons_succ]
 refine wpAnyH_take (i := 2) (v := ?v3) rfl (by kernel_rfl) (by kernel_rfl) (by kernel_rfl) (fun _ _ _ h => h) (Or.inl ⟨by rfl, ?hy3⟩) (by assumption) ?rest3
 case hy3 => (intro w hSw; (try dsimp only at hSw); go_simp) <;> try with_reducible rfl
 simp only [Act.put, List.setIfInBounds_toArray, List.set_cons_zero, List.set_cons_succ]
 refine wpAnyH_take (i := 3) (v := ?v4) rfl (by kernel_rfl) (by kernel_rfl) (by kernel_rfl) (fun _ _ _ h => h) (Or.inl ⟨by rfl, ?hy4⟩) (by assumption) ?rest4
 case hy4 => (intro w hSw; (try dsimp only at hSw); go_simp) <;> try with_reducible rfl
 simp only [Act.put, List.setIfInBounds_toArray, List.set_cons_zero, List.set_cons_succ]
 refine wpAnyH_take (i := 4) (v := ?v5) rfl (by kernel_rfl) (by kernel_rfl) (by kernel_rfl) (fun _ _ _ h => h) (Or.inl ⟨by rfl, ?hy5⟩) (by assumption) ?rest5
 case hy5 => (intro w hSw; (try dsimp only at hSw); go_simp) <;> try with_reducible rfl
 simp only [Act.put, List.setIfInBounds_toArray, List.set_cons_zero, List.set_cons_succ]
 refine wpAnyH_take (i := 5) (v := ?v6) rfl (by kernel_rfl) (by kernel_rfl) (by kernel_rfl) (fun _ _ _ h => h) (Or.inl ⟨by rfl, ?hy6⟩) (by assumption) ?rest6
 case hy6 => (intro w hSw; (try dsimp only at hSw); go_simp) <;> try with_reducible rfl
 simp only [Act.put, List.setIfInBounds_toArray, List.set_cons_zero, List.set_cons_succ]
 refine wpAnyH_take (i := 6) (v := ?v7) rfl (by kernel_rfl) (by kernel_rfl) (by kernel_rfl) (fun _ _ _ h => h) (Or.inl ⟨by rfl, ?hy7⟩) (by assumption) ?rest7
 case hy7 => (intro w hSw; (try dsimp only at hSw); go_simp) <;> try with_reducible rfl
 simp only [Act.put, List.setIfInBounds_toArray, List.set_cons_zero, List.set_cons_succ]
 refine wpAnyH_take (i := 7) (v := ?v8) rfl (by kernel_rfl) (by kernel_rfl) (by kernel_rfl) (fun _ _ _ h => h) (Or.inl ⟨by rfl, ?hy8⟩) (by assumption) ?rest8
 case hy8 => (intro w hSw; (try dsimp only at hSw); go_simp) <;> try with_reducible rfl
 simp only [Act.put, List.setIfInBounds_toArray, List.set_cons_zero, List.set_cons_succ]
 refine wpAnyH_take (i := 8) (v := ?v9) rfl (by kernel_rfl) (by kernel_rfl) (by kernel_rfl) (fun _ _ _ h => h) (Or.inl ⟨by rfl, ?hy9⟩) (by assumption) ?rest9
 case hy9 => (intro w hSw; (try dsimp only at hSw); go_simp) <;> try with_reducible rfl
 simp only [Act.put, List.setIfInBounds_toArray, List.set_cons_zero, List.set_cons_succ]
 refine wpAnyH_take (i := 9) (v := ?v10) rfl (by kernel_rfl) (by kernel_rfl) (by kernel_rfl) (fun _ _ _ h => h) (Or.inl ⟨by rfl, ?hy10⟩) (by assumption) ?rest10
 case hy10 => (intro w hSw; (try dsimp only at hSw); go_simp) <;> try with_reducible rfl
 simp only [Act.put, List.setIfInBounds_toArray, List.set_cons_zero, List.set_cons_succ]
 refine wpAnyH_take (i := 10) (v := ?v11) rfl (by kernel_rfl) (by kernel_rfl) (by kernel_rfl) (fun _ _ _ h => h) (Or.inl ⟨by rfl, ?hy11⟩) (by assumption) ?rest11
 case hy11 => (intro w hSw; (try dsimp only at hSw); go_simp) <;> try with_reducible rfl
 simp only [Act.put, List.setIfInBounds_toArray, List.set_cons_zero, List.set_cons_succ]
 refine wpAnyH_take (i := 12) (v := ?v12) rfl (by kernel_rfl) (by kernel_rfl) (by kernel_rfl) (fun _ _ _ h => h) (Or.inl ⟨by rfl, ?hy12⟩) (by assumption) ?rest12
 case hy12 => (intro w hSw; (try dsimp only at hSw); go_simp) <;> try with_reducible rfl
 simp only [Act.put, List.setIfInBounds_toArray, List.set_cons_zero, List.set_cons_succ]
 refine wpAnyH_ready (rs := [11, 13]) (by kernel_rfl) (by simp) ?_
 refine AllReadyH.cons rfl (fun K9 hK9 => ?_) (AllReadyH.cons rfl (fun K9 hK9 => ?_) AllReadyH.nil)
 ·go_simp
  refine hK9.out _ _ ?_ (fun hHeld => ?_)
  ·exact HS0.out
  clear hK9 K9
  try simp only [Act.put, List.setIfInBounds_toArray, List.set_cons_zero, List.set_cons_succ]
  refine wpAnyH_ready (rs := [13]) (by kernel_rfl) (by simp) ?_
  refine AllReadyH.cons rfl (fun K9 hK9 => ?_) AllReadyH.nil
  go_simp
  refine hK9.out _ _ ?_ (fun hHeld => ?_)
  ·exact Hkeep.out _
  clear hK9 K9
  try simp only [Act.put, List.setIfInBounds_toArray, List.set_cons_zero, List.set_cons_succ]
  refine wpAnyH_ready (rs := [14]) (by kernel_rfl) (by simp) ?_
  refine AllReadyH.cons rfl (fun K9 hK9 => ?_) AllReadyH.nil
  (refine step_append_own_at rfl (.tmp 109) (.tmp 111) 26 rfl W0.heap.size 3 (.int .i64 0) 8 Tryz.underlying26 infoI rfl v _ _ rfl (hst.alloc _) _ (.int .i64 (r : Int)) rfl (by simp [go_sem]) rfl (by unfold maxLen; omega) (by omega) (by simp; omega) ?_; intro v' w' hown hgrow hat; obtain ⟨gn, cn, rfl⟩ := own_form hown; obtain ⟨hq5, hqR, hqF⟩ := Haft.out _ w' hgrow)
  refine hK9.out _ _ ?_ (fun hHeld => ?_)
  ·exact hq5
  clear hK9 K9
  try simp only [Act.put, List.setIfInBounds_toArray, List.set_cons_zero, List.set_cons_succ]
  refine wpAnyH_take (i := 15) (v := ?v13) rfl (by kernel_rfl) (by kernel_rfl) (by kernel_rfl) (fun _ _ _ h => h) (Or.inl ⟨by rfl, ?hy13⟩) (by assumption) ?rest13
  case hy13 => (intro w hSw; (try dsimp only at hSw); go_simp) <;> try with_reducible rfl
  simp only [Act.put, List.setIfInBounds_toArray, List.set_cons_zero, List.set_cons_succ]
  refine wpAnyH_ready (rs := [16]) (by kernel_rfl) (by simp) ?_
  refine AllReadyH.cons rfl (fun K9 hK9 => ?_) AllReadyH.nil
  go_simp
  refine hK9.out _ _ ?_ (fun hHeld => ?_)
  ·exact Hst.out _ _ hq5
  clear hK9 K9
  try simp only [Act.put, List.setIfInBounds_toArray, List.set_cons_zero, List.set_cons_succ]
  refine wpAnyH_done (by kernel_rfl) (NoPanic.normal ?_) _
  clear hq5 hqR hqF eh hcq hfq
  exact HK.out _ _ _ _ _ _ _ _ _ _ _ _ _ _ _ _ _ _ ((((H.out.ext (ext_alloc wx (.cells #[.int .i64 (r : Int)] 3))).drew)).growInn hq Hv.out hgrow hown (hat.imp id fun e => ⟨_, e, Nat.le_refl _⟩))
 ·go_simp
  refine hK9.out _ _ ?_ (fun hHeld => ?_)
  ·exact Hkeep.out _
  clear hK9 K9
  try simp only [Act.put, List.setIfInBounds_toArray, List.set_cons_zero, List.set_cons_succ]
  refine wpAnyH_ready (rs := [11]) (by kernel_rfl) (by simp) ?_
  refine AllReadyH.cons rfl (fun K9 hK9 => ?_) AllReadyH.nil
  go_simp
  refine hK9.out _ _ ?_ (fun hHeld => ?_)
  ·exact Hkeep.out _
  clear hK9 K9
  try simp only [Act.put, List.setIfInBounds_toArray, List.set_cons_zero, List.set_cons_succ]
  refine wpAnyH_ready (rs := [14]) (by kernel_rfl) (by simp) ?_
  refine AllReadyH.cons rfl (fun K9 hK9 => ?_) AllReadyH.nil
  (refine step_append_own_at rfl (.tmp 109) (.tmp 111) 26 rfl W0.heap.size 3 (.int .i64 0) 8 Tryz.underlying26 infoI rfl v _ _ rfl (hst.alloc _) _ (.int .i64 (r : Int)) rfl (by simp [go_sem]) rfl (by unfold maxLen; omega) (by omega) (by simp; omega) ?_; intro v' w' hown hgrow hat; obtain ⟨gn, cn, rfl⟩ := own_form hown; obtain ⟨hq5, hqR, hqF⟩ := Haft.out _ w' hgrow)
  refine hK9.out _ _ ?_ (fun hHeld => ?_)
  ·exact hq5
  clear hK9 K9
  try simp only [Act.put, List.setIfInBounds_toArray, List.set_cons_zero, List.set_cons_succ]
  refine wpAnyH_take (i := 15) (v := ?v14) rfl (by kernel_rfl) (by kernel_rfl) (by kernel_rfl) (fun _ _ _ h => h) (Or.inl ⟨by rfl, ?hy14⟩) (by assumption) ?rest14
  case hy14 => (intro w hSw; (try dsimp only at hSw); go_simp) <;> try with_reducible rfl
  simp only [Act.put, List.setIfInBounds_toArray, List.set_cons_zero, List.set_cons_succ]
  refine wpAnyH_ready (rs := [16]) (by kernel_rfl) (by simp) ?_
  refine AllReadyH.cons rfl (fun K9 hK9 => ?_) AllReadyH.nil
  go_simp
  refine hK9.out _ _ ?_ (fun hHeld => ?_)
  ·exact Hst.out _ _ hq5
  clear hK9 K9
  try simp only [Act.put, List.setIfInBounds_toArray, List.set_cons_zero, List.set_cons_succ]
  refine wpAnyH_done (by kernel_rfl) (NoPanic.normal ?_) _
  clear hq5 hqR hqF eh hcq hfq
  exact HK.out _ _ _ _ _ _ _ _ _ _ _ _ _ _ _ _ _ _ ((((H.out.ext (ext_alloc wx (.cells #[.int .i64 (r : Int)] 3))).drew)).growInn hq Hv.out hgrow hown (hat.imp id fun e => ⟨_, e, Nat.le_refl _⟩))
end Go.Proofs.Lx

namespace Go.Proofs.Lx
open Go Go.RowKit Go.Proofs.Tj
set_option linter.unusedVariables false
set_option linter.unusedSimpArgs false

def bdyT (T : Th) (r : Nat) : List Nat := (T.rules.getD r default).body.map Int.toNat
def innAdd (r : Nat) (I : Nat → List Nat) (b : Nat) : Nat → List Nat := Tj.upd I b (I b ++ [r])
def innL (T : Th) : Nat → Nat → List Nat
 | 0 => fun _ => []
 | r + 1 => (bdyT T r).foldl (innAdd r) (innL T r)
def setNeeds (D : Dyn) (r : Nat) (x : Int) : Dyn := { D with needD := Tj.upd D.needD r x, need := Tj.upd D.need r x }
def incStrict (D : Dyn) (q : Nat) : Dyn := { D with strict := Tj.upd D.strict q (addW (D.strict q) 1) }
def incBacks (D : Dyn) (q : Nat) : Dyn := { D with backs := Tj.upd D.backs q (addW (D.backs q) 1) }
def layA (S : Stc) (D : Dyn) (r : Nat) : Dyn := if strR S r = true then incStrict D (S.head r) else D
def layB (S : Stc) (D : Dyn) (r : Nat) : Dyn := if supR S r = true then incBacks D (S.head r) else D
def layRD (S : Stc) (D : Dyn) (r : Nat) : Dyn := layB S (layA S (setNeeds D r (S.bodyLen r : Int)) r) r
def layD1 (T : Th) (k : Nat) : Dyn := (List.range k).foldl (layRD (stc0 T)) dyn0
def layS1 (T : Th) (k : Nat) : Stc := { stc0 T with inn := innL T k }
theorem layD1_succ (T : Th) (k : Nat) : layD1 T (k + 1) = layRD (stc0 T) (layD1 T k) k := by unfold layD1; rw [List.range_succ, List.foldl_append]; rfl
theorem fold_innAdd (r : Nat) : ∀ (l : List Nat) (I : Nat → List Nat) (b : Nat), (l.foldl (innAdd r) I b).length ≤ (I b).length + l.length
 | [], I, b => by simp
 | x :: l, I, b => by
  have := fold_innAdd r l (innAdd r I x) b
  rw [List.foldl_cons]
  have h2 : (innAdd r I x b).length ≤ (I b).length + 1 := by
   unfold innAdd Tj.upd
   by_cases e : b = x
   ·rw [if_pos e]; simp [e]
   ·rw [if_neg e]; omega
  simp only [List.length_cons]; omega
/-- What lay is asked of a theory. -/
structure LayOk (T : Th) : Prop where
 st : SofT (stc0 T) T
 bod : ∀ r (h : r < T.rules.length), ∀ x ∈ T.rules[r].body, 0 ≤ x ∧ x < (T.foes.length : Int)
section
variable {T : Th}
theorem bdy_eq (h : LayOk T) {r : Nat} (hr : r < T.rules.length) : T.rules[r].body = (bdyT T r).map fun (x : Nat) => (x : Int) := by
 have e : T.rules.getD r default = T.rules[r] := by simp [hr]
 unfold bdyT
 rw [e, List.map_map]
 apply List.ext_getElem
 ·simp
 ·intro i h1 h2
  have := (h.bod r hr _ (List.getElem_mem h1)).1
  simp only [List.getElem_map, Function.comp]; omega
theorem bdy_len (T : Th) (r : Nat) : (bdyT T r).length = (stc0 T).bodyLen r := by simp [bdyT, stc0]
theorem bdy_lt (h : LayOk T) {r : Nat} (hr : r < T.rules.length) : ∀ x ∈ bdyT T r, x < T.foes.length := by
 intro x hx
 have e : T.rules.getD r default = T.rules[r] := by simp [hr]
 unfold bdyT at hx
 rw [e] at hx
 obtain ⟨y, hy, rfl⟩ := List.mem_map.1 hx
 have := h.bod r hr y hy; omega
theorem innL_len (h : LayOk T) : ∀ k, k ≤ T.rules.length → ∀ b, (innL T k b).length ≤ 16 * k
 | 0, _, b => by simp [innL]
 | k + 1, hk, b => by
  have h1 := innL_len h k (by omega) b
  have h2 := fold_innAdd k (bdyT T k) (innL T k) b
  have h3 := h.st.b16 k (by show k < T.rules.length; omega)
  rw [← bdy_len] at h3
  show ((bdyT T k).foldl (innAdd k) (innL T k) b).length ≤ _
  omega
end
/-- The engine, while lay works on it. -/
def LayAt (w W0 : World) (b : Nat) (g : Key → Nat) (X1 : Cont) (vF vR : Value) (S : Stc) (T : Th) (D : Dyn) : Prop := ∃ vB vP vin vof vbe x2 vT, EngV w W0 ⟨b, g, vF, vR, vB, vP, vin, vof, vbe, X1, x2⟩ S T D vT
/-- A rule's cells and its body's. -/
theorem EngV.ruleB {w W0 : World} {G : Gh} {S : Stc} {T : Th} {D : Dyn} {vT : Value} (h : EngV w W0 G S T D vT) (hl : LayOk T) {r : Nat} (hr : r < T.rules.length) : ∃ (g : Addr) (B : Option Addr) (c1 c2 : Nat), G.vR = .slice (some g) T.rules.length c1 ∧
  (∀ w', Below W0.heap.size W0 w' → w'.cell? (g.add (r * 3)) = some (.int .i64 ((stc0 T).kind r)) ∧ w'.cell? ⟨(g.add (r * 3)).block, (g.add (r * 3)).off + 1, none⟩ = some (.int .i64 ((stc0 T).head r : Int)) ∧ w'.cell? ⟨(g.add (r * 3)).block, (g.add (r * 3)).off + 2, none⟩ = some (.slice B (bdyT T r).length c2)) ∧
  (∀ k (hk : k < (bdyT T r).length), ∃ ad, B = some ad ∧ ∀ w', Below W0.heap.size W0 w' → w'.cell? (ad.add k) = some (.int .i64 ((bdyT T r)[k] : Int))) := by
 obtain ⟨A, c1, e1, _, _, hr1⟩ := h.rR
 obtain ⟨ad, B, c, eA, k0, k1, k2, _, _, k3⟩ := hr1.atRule hr
 subst eA
 rw [hl.st.kd r hr] at k0; rw [hl.st.hd r hr] at k1
 rw [bdy_eq hl hr] at k2 k3
 simp only [List.length_map] at k2
 exact ⟨ad, B, c1, c, e1, fun w' hb => ⟨cell_ext hb k0, cell_ext hb k1, cell_ext hb k2⟩, fun k hk => by
  obtain ⟨ad, e, c⟩ := natsRcI k3 hk
  exact ⟨ad, e, fun w' hb => cell_ext hb c⟩⟩
/-- What is kept of lay's frame. -/
structure LF (t : Array Value) (vl : Value) (bt n m b : Nat) : Prop where
 sz : t.size = 369
 t1 : t[1]? = some vl
 t2 : t[2]? = some (.pointer (some ⟨bt, 0, none⟩))
 t5 : t[5]? = some (.int .i64 (n : Int))
 t6 : t[6]? = some (.int .i64 (m : Int))
 t7 : t[7]? = some (.pointer (some ⟨b, 0, none⟩))
end Go.Proofs.Lx
