/- Parts of the proof: Ec, Ed. The fast engine's state in memory: its parts, its reads, its writes. Printed by gen_ec.py. No condition. -/
import Derived.Test.YtalhpldbhogadaaGreatO10
import Derived.Test.YtalhpldbhogadaaGreatO9
namespace Go.Proofs.Lx
open Go Go.RowKit Go.Proofs.Tj
set_option linter.unusedVariables false
set_option linter.unusedSimpArgs false

theorem tab_get {α : Type} {n : Nat} {f : Nat → α} {i : Nat} (h : i < n) : (tab n f)[i]? = some (f i) := by simp [tab, h]
abbrev sl (g n : Nat) : Value := .slice (some ⟨g, 0, none⟩) n n
inductive Key
 | marks | told | inn | needD | need | deadD | dead | strict | backs | backed | opn | clash | attacks | standing | pairs | ofs | beats | x1 | x2
/-- Where the parts lie. -/
structure Gh where
 b : Nat
 g : Key → Nat
 vF : Value
 vR : Value
 vB : Value
 vP : Value
 vin : List Value
 vof : List Value
 vbe : List Value
 x1 : Cont
 x2 : Cont
def toldV (l : List (Nat × Nat)) : List Value := l.flatMap fun x => [Value.int .i64 (x.1 : Int), Value.int .i64 (x.2 : Int)]
theorem toldV_length (l : List (Nat × Nat)) : (toldV l).length = l.length * 2 := by
 unfold toldV
 induction l with
 | nil => rfl
 | cons a l ih => rw [List.flatMap_cons, List.length_append, ih]; simp; omega
theorem toldV_snoc (l : List (Nat × Nat)) (q t : Nat) : toldV (l ++ [(q, t)]) = toldV l ++ [Value.int .i64 (q : Int), Value.int .i64 (t : Int)] := by simp [toldV]
theorem toldV_at : ∀ (l : List (Nat × Nat)) (i : Nat) (q t : Nat), l[i]? = some (q, t) → (toldV l)[2 * i]? = some (Value.int .i64 (q : Int)) ∧ (toldV l)[2 * i + 1]? = some (Value.int .i64 (t : Int))
 | [], i, q, t, h => by simp at h
 | a :: l, 0, q, t, h => by
  simp at h; subst h
  simp [toldV]
 | a :: l, i + 1, q, t, h => by
  have := toldV_at l i q t (by simpa using h)
  rw [show toldV (a :: l) = [Value.int .i64 (a.1 : Int), Value.int .i64 (a.2 : Int)] ++ toldV l from rfl]
  rw [List.getElem?_append_right (by simp; omega), List.getElem?_append_right (by simp; omega)]
  simp only [List.length_cons, List.length_nil]
  rw [show 2 * (i + 1) - (0 + 1 + 1) = 2 * i by omega, show 2 * (i + 1) + 1 - (0 + 1 + 1) = 2 * i + 1 by omega]
  exact this
def pairC (S : Stc) (D : Dyn) (i : Nat) : Value :=
 if i % 4 = 0 then .int .i64 (S.pq (i / 4) : Int) else if i % 4 = 1 then .int .i64 (S.ps (i / 4) : Int) else if i % 4 = 2 then .bool (D.settled (i / 4)) else .int .i64 (D.left (i / 4))

def hdrE (G : Gh) (S : Stc) (D : Dyn) (vT : Value) : Array Value := #[Value.int .i64 (S.n : Int), G.vF, G.vR, G.vB, sl (G.g .marks) S.n, vT, Value.int .i64 (S.first : Int), Value.int .i64 D.queued, Value.int .i64 D.upd, sl (G.g .inn) S.n, sl (G.g .needD) S.m, sl (G.g .need) S.m, sl (G.g .deadD) S.m, sl (G.g .dead) S.m, sl (G.g .strict) S.n, sl (G.g .backs) S.n, sl (G.g .backed) S.n, sl (G.g .opn) S.n, sl (G.g .clash) S.n, sl (G.g .attacks) S.n, sl (G.g .standing) S.n, G.vP, sl (G.g .ofs) S.m, sl (G.g .beats) S.m]
def contE (G : Gh) (S : Stc) (D : Dyn) (vT : Value) : Key → Cont
 | .marks => .arr (sl (G.g .marks) S.n) 77 1 S.n (tab S.n fun q => Value.int .u8 (D.marks q : Int))
 | .needD => .arr (sl (G.g .needD) S.m) 3 1 S.m (tab S.m fun q => Value.int .i64 (D.needD q))
 | .need => .arr (sl (G.g .need) S.m) 3 1 S.m (tab S.m fun q => Value.int .i64 (D.need q))
 | .deadD => .arr (sl (G.g .deadD) S.m) 4 1 S.m (tab S.m fun q => Value.bool (D.deadD q))
 | .dead => .arr (sl (G.g .dead) S.m) 4 1 S.m (tab S.m fun q => Value.bool (D.dead q))
 | .strict => .arr (sl (G.g .strict) S.n) 3 1 S.n (tab S.n fun q => Value.int .i64 (D.strict q))
 | .backs => .arr (sl (G.g .backs) S.n) 3 1 S.n (tab S.n fun q => Value.int .i64 (D.backs q))
 | .backed => .arr (sl (G.g .backed) S.n) 4 1 S.n (tab S.n fun q => Value.bool (D.backed q))
 | .opn => .arr (sl (G.g .opn) S.n) 3 1 S.n (tab S.n fun q => Value.int .i64 (D.opn q))
 | .clash => .arr (sl (G.g .clash) S.n) 4 1 S.n (tab S.n fun q => Value.bool (D.clash q))
 | .attacks => .arr (sl (G.g .attacks) S.n) 3 1 S.n (tab S.n fun q => Value.int .i64 (D.attacks q))
 | .standing => .arr (sl (G.g .standing) S.n) 4 1 S.n (tab S.n fun q => Value.bool (D.standing q))
 | .told => .arr vT 98 2 D.told.length (toldV D.told)
 | .pairs => .arr G.vP 191 4 S.P (tab (4 * S.P) (pairC S D))
 | .inn => .rows (G.g .inn) 26 3 G.vin (tab S.n S.inn)
 | .ofs => .rows (G.g .ofs) 26 3 G.vof (tab S.m S.ofs)
 | .beats => .rows (G.g .beats) 26 3 G.vbe (tab S.m S.beats)
 | .x1 => G.x1
 | .x2 => G.x2

theorem pairC_settled (S : Stc) (D : Dyn) (p : Nat) (x : Bool) : Tj.upd (pairC S D) (p * 4 + 2) (.bool x) = pairC S { D with settled := Tj.upd D.settled p x } := by
 funext j
 show (if j = p * 4 + 2 then Value.bool x else pairC S D j) = pairC S _ j
 unfold pairC
 dsimp only
 by_cases e1 : j = p * 4 + 2
 ·have a : j % 4 = 2 := by omega
  have b : j / 4 = p := by omega
  rw [if_pos e1, a, b, Tj.upd_same]; rfl
 ·rw [if_neg e1]
  by_cases e4 : j % 4 = 2
  ·have b : j / 4 ≠ p := by omega
   rw [Tj.upd_ne b]
  ·simp only [if_neg e4]
theorem pairC_left (S : Stc) (D : Dyn) (p : Nat) (x : Int) : Tj.upd (pairC S D) (p * 4 + 3) (.int .i64 x) = pairC S { D with left := Tj.upd D.left p x } := by
 funext j
 show (if j = p * 4 + 3 then Value.int .i64 x else pairC S D j) = pairC S _ j
 unfold pairC
 dsimp only
 by_cases e1 : j = p * 4 + 3
 ·have a : j % 4 = 3 := by omega
  have b : j / 4 = p := by omega
  rw [if_pos e1, a, b, Tj.upd_same]; rfl
 ·rw [if_neg e1]
  by_cases e4 : j % 4 = 3
  ·have b : j / 4 ≠ p := by omega
   rw [Tj.upd_ne b]
  ·by_cases a0 : j % 4 = 0
   ·rw [if_pos a0, if_pos a0]
   ·rw [if_neg a0, if_neg a0]
    by_cases a1 : j % 4 = 1
    ·rw [if_pos a1, if_pos a1]
    ·rw [if_neg a1, if_neg a1]
     have a2 : j % 4 = 2 := by omega
     rw [if_pos a2, if_pos a2]
/-- The engine's fixed part is the theory's. -/
structure SofT (S : Stc) (T : Th) : Prop where
 n : T.foes.length = S.n
 lits : T.lits = (S.n : Int)
 m : T.rules.length = S.m
 bl : T.beats.length = S.m
 kd : ∀ r (h : r < T.rules.length), T.rules[r].kind = S.kind r
 hd : ∀ r (h : r < T.rules.length), T.rules[r].head = (S.head r : Int)
 bd : ∀ r (h : r < T.rules.length), T.rules[r].body.length = S.bodyLen r
 fo : ∀ q (h : q < T.foes.length), T.foes[q] = (S.foes q).map fun (x : Nat) => (x : Int)
 n4 : S.n ≤ 4096
 m4 : S.m ≤ 4096
 hdn : ∀ r, r < S.m → S.head r < S.n
 fon : ∀ q, q < S.n → ∀ f ∈ S.foes q, f < S.n
 b16 : ∀ r, r < S.m → S.bodyLen r ≤ 16
/-- Its rows name what is there. -/
structure SOk (S : Stc) : Prop where
 inn : ∀ q, q < S.n → ∀ r ∈ S.inn q, r < S.m
 ofs : ∀ r, r < S.m → ∀ p ∈ S.ofs r, p < S.P
 beats : ∀ r, r < S.m → ∀ p ∈ S.beats r, p < S.P
 pq : ∀ p, p < S.P → S.pq p < S.n
 ps : ∀ p, p < S.P → S.ps p < S.m
structure EngV (w W0 : World) (G : Gh) (S : Stc) (T : Th) (D : Dyn) (vT : Value) : Prop where
 sp : Sepr w W0 G.b (hdrE G S D vT) (contE G S D vT)
 st : SofT S T
 rF : RdLL W0 G.vF T.foes
 rR : RdRs W0 G.vR T.rules
 rB : RdLL W0 G.vB T.beats
def Eng (w W0 : World) (G : Gh) (S : Stc) (T : Th) (D : Dyn) : Prop := ∃ vT, EngV w W0 G S T D vT
section
variable {w w' W0 : World} {G : Gh} {S : Stc} {T : Th} {D : Dyn} {vT : Value}
theorem EngV.ext (h : EngV w W0 G S T D vT) (hb : Below w.heap.size w w') : EngV w' W0 G S T D vT := ⟨h.sp.ext hb, h.st, h.rF, h.rR, h.rB⟩
theorem EngV.drew (h : EngV w W0 G S T D vT) : EngV w.drew W0 G S T D vT := h.ext (Below.refl _ _).drew
theorem EngV.drewN (h : EngV w W0 G S T D vT) (k : Nat) : EngV (w.drewN k) W0 G S T D vT := h.ext (ext_drewN w k)
theorem EngV.free (h : EngV w W0 G S T D vT) (i : Nat) : w.frozen? ⟨G.b, i, none⟩ = false := h.sp.free i
theorem Eng.ext (h : Eng w W0 G S T D) (hb : Below w.heap.size w w') : Eng w' W0 G S T D := let ⟨v, k⟩ := h; ⟨v, k.ext hb⟩
theorem EngV.congr {D' : Dyn} (h : EngV w W0 G S T D vT) (e : D = D') : EngV w W0 G S T D' vT := e ▸ h

theorem EngV.hn (h : EngV w W0 G S T D vT) : w.cell? ⟨G.b, 0, none⟩ = some (Value.int .i64 (S.n : Int)) := h.sp.cell 0
theorem EngV.hF (h : EngV w W0 G S T D vT) : w.cell? ⟨G.b, 1, none⟩ = some (G.vF) := h.sp.cell 1
theorem EngV.hR (h : EngV w W0 G S T D vT) : w.cell? ⟨G.b, 2, none⟩ = some (G.vR) := h.sp.cell 2
theorem EngV.hB (h : EngV w W0 G S T D vT) : w.cell? ⟨G.b, 3, none⟩ = some (G.vB) := h.sp.cell 3
theorem EngV.hMarks (h : EngV w W0 G S T D vT) : w.cell? ⟨G.b, 4, none⟩ = some (sl (G.g .marks) S.n) := h.sp.cell 4
theorem EngV.hTold (h : EngV w W0 G S T D vT) : w.cell? ⟨G.b, 5, none⟩ = some (vT) := h.sp.cell 5
theorem EngV.hFirst (h : EngV w W0 G S T D vT) : w.cell? ⟨G.b, 6, none⟩ = some (Value.int .i64 (S.first : Int)) := h.sp.cell 6
theorem EngV.hQueued (h : EngV w W0 G S T D vT) : w.cell? ⟨G.b, 7, none⟩ = some (Value.int .i64 D.queued) := h.sp.cell 7
theorem EngV.hUpd (h : EngV w W0 G S T D vT) : w.cell? ⟨G.b, 8, none⟩ = some (Value.int .i64 D.upd) := h.sp.cell 8
theorem EngV.hInn (h : EngV w W0 G S T D vT) : w.cell? ⟨G.b, 9, none⟩ = some (sl (G.g .inn) S.n) := h.sp.cell 9
theorem EngV.hNeedD (h : EngV w W0 G S T D vT) : w.cell? ⟨G.b, 10, none⟩ = some (sl (G.g .needD) S.m) := h.sp.cell 10
theorem EngV.hNeed (h : EngV w W0 G S T D vT) : w.cell? ⟨G.b, 11, none⟩ = some (sl (G.g .need) S.m) := h.sp.cell 11
theorem EngV.hDeadD (h : EngV w W0 G S T D vT) : w.cell? ⟨G.b, 12, none⟩ = some (sl (G.g .deadD) S.m) := h.sp.cell 12
theorem EngV.hDead (h : EngV w W0 G S T D vT) : w.cell? ⟨G.b, 13, none⟩ = some (sl (G.g .dead) S.m) := h.sp.cell 13
theorem EngV.hStrict (h : EngV w W0 G S T D vT) : w.cell? ⟨G.b, 14, none⟩ = some (sl (G.g .strict) S.n) := h.sp.cell 14
theorem EngV.hBacks (h : EngV w W0 G S T D vT) : w.cell? ⟨G.b, 15, none⟩ = some (sl (G.g .backs) S.n) := h.sp.cell 15
theorem EngV.hBacked (h : EngV w W0 G S T D vT) : w.cell? ⟨G.b, 16, none⟩ = some (sl (G.g .backed) S.n) := h.sp.cell 16
theorem EngV.hOpn (h : EngV w W0 G S T D vT) : w.cell? ⟨G.b, 17, none⟩ = some (sl (G.g .opn) S.n) := h.sp.cell 17
theorem EngV.hClash (h : EngV w W0 G S T D vT) : w.cell? ⟨G.b, 18, none⟩ = some (sl (G.g .clash) S.n) := h.sp.cell 18
theorem EngV.hAttacks (h : EngV w W0 G S T D vT) : w.cell? ⟨G.b, 19, none⟩ = some (sl (G.g .attacks) S.n) := h.sp.cell 19
theorem EngV.hStanding (h : EngV w W0 G S T D vT) : w.cell? ⟨G.b, 20, none⟩ = some (sl (G.g .standing) S.n) := h.sp.cell 20
theorem EngV.hPairs (h : EngV w W0 G S T D vT) : w.cell? ⟨G.b, 21, none⟩ = some (G.vP) := h.sp.cell 21
theorem EngV.hOfs (h : EngV w W0 G S T D vT) : w.cell? ⟨G.b, 22, none⟩ = some (sl (G.g .ofs) S.m) := h.sp.cell 22
theorem EngV.hBeats (h : EngV w W0 G S T D vT) : w.cell? ⟨G.b, 23, none⟩ = some (sl (G.g .beats) S.m) := h.sp.cell 23
theorem EngV.rMarks (h : EngV w W0 G S T D vT) {q : Nat} (hq : q < S.n) : w.cell? ⟨G.g .marks, q, none⟩ = some (Value.int .u8 (D.marks q : Int)) := h.sp.readArr .marks rfl (tab_get hq)
theorem EngV.fMarks (h : EngV w W0 G S T D vT) (q : Nat) : w.frozen? ⟨G.g .marks, q, none⟩ = false := h.sp.freeArr .marks rfl q
theorem EngV.bMarks (h : EngV w W0 G S T D vT) : G.g .marks ≠ G.b := h.sp.arrNe .marks rfl
theorem EngV.wMarks (h : EngV w W0 G S T D vT) (q : Nat) (x : Nat) : EngV (w.setCell ⟨G.g .marks, q, none⟩ (.int .u8 (x : Int))) W0 G S T { D with marks := Tj.upd D.marks q x } vT :=
 ⟨h.sp.setArr .marks rfl q _ (by show Cont.arr _ _ _ _ _ = Cont.arr _ _ _ _ _; rw [tab_set]; congr 2; funext j; show _ = Tj.upd _ _ _ _; unfold Tj.upd; by_cases e : j = q <;> simp [e]) (fun j hj => by cases j <;> first | rfl | exact absurd rfl hj), h.st, h.rF, h.rR, h.rB⟩
theorem EngV.rNeedD (h : EngV w W0 G S T D vT) {q : Nat} (hq : q < S.m) : w.cell? ⟨G.g .needD, q, none⟩ = some (Value.int .i64 (D.needD q)) := h.sp.readArr .needD rfl (tab_get hq)
theorem EngV.fNeedD (h : EngV w W0 G S T D vT) (q : Nat) : w.frozen? ⟨G.g .needD, q, none⟩ = false := h.sp.freeArr .needD rfl q
theorem EngV.bNeedD (h : EngV w W0 G S T D vT) : G.g .needD ≠ G.b := h.sp.arrNe .needD rfl
theorem EngV.wNeedD (h : EngV w W0 G S T D vT) (q : Nat) (x : Int) : EngV (w.setCell ⟨G.g .needD, q, none⟩ (.int .i64 x)) W0 G S T { D with needD := Tj.upd D.needD q x } vT :=
 ⟨h.sp.setArr .needD rfl q _ (by show Cont.arr _ _ _ _ _ = Cont.arr _ _ _ _ _; rw [tab_set]; congr 2; funext j; show _ = Tj.upd _ _ _ _; unfold Tj.upd; by_cases e : j = q <;> simp [e]) (fun j hj => by cases j <;> first | rfl | exact absurd rfl hj), h.st, h.rF, h.rR, h.rB⟩
theorem EngV.rNeed (h : EngV w W0 G S T D vT) {q : Nat} (hq : q < S.m) : w.cell? ⟨G.g .need, q, none⟩ = some (Value.int .i64 (D.need q)) := h.sp.readArr .need rfl (tab_get hq)
theorem EngV.fNeed (h : EngV w W0 G S T D vT) (q : Nat) : w.frozen? ⟨G.g .need, q, none⟩ = false := h.sp.freeArr .need rfl q
theorem EngV.bNeed (h : EngV w W0 G S T D vT) : G.g .need ≠ G.b := h.sp.arrNe .need rfl
theorem EngV.wNeed (h : EngV w W0 G S T D vT) (q : Nat) (x : Int) : EngV (w.setCell ⟨G.g .need, q, none⟩ (.int .i64 x)) W0 G S T { D with need := Tj.upd D.need q x } vT :=
 ⟨h.sp.setArr .need rfl q _ (by show Cont.arr _ _ _ _ _ = Cont.arr _ _ _ _ _; rw [tab_set]; congr 2; funext j; show _ = Tj.upd _ _ _ _; unfold Tj.upd; by_cases e : j = q <;> simp [e]) (fun j hj => by cases j <;> first | rfl | exact absurd rfl hj), h.st, h.rF, h.rR, h.rB⟩
theorem EngV.rDeadD (h : EngV w W0 G S T D vT) {q : Nat} (hq : q < S.m) : w.cell? ⟨G.g .deadD, q, none⟩ = some (Value.bool (D.deadD q)) := h.sp.readArr .deadD rfl (tab_get hq)
theorem EngV.fDeadD (h : EngV w W0 G S T D vT) (q : Nat) : w.frozen? ⟨G.g .deadD, q, none⟩ = false := h.sp.freeArr .deadD rfl q
theorem EngV.bDeadD (h : EngV w W0 G S T D vT) : G.g .deadD ≠ G.b := h.sp.arrNe .deadD rfl
theorem EngV.wDeadD (h : EngV w W0 G S T D vT) (q : Nat) (x : Bool) : EngV (w.setCell ⟨G.g .deadD, q, none⟩ (.bool x)) W0 G S T { D with deadD := Tj.upd D.deadD q x } vT :=
 ⟨h.sp.setArr .deadD rfl q _ (by show Cont.arr _ _ _ _ _ = Cont.arr _ _ _ _ _; rw [tab_set]; congr 2; funext j; show _ = Tj.upd _ _ _ _; unfold Tj.upd; by_cases e : j = q <;> simp [e]) (fun j hj => by cases j <;> first | rfl | exact absurd rfl hj), h.st, h.rF, h.rR, h.rB⟩
theorem EngV.rDead (h : EngV w W0 G S T D vT) {q : Nat} (hq : q < S.m) : w.cell? ⟨G.g .dead, q, none⟩ = some (Value.bool (D.dead q)) := h.sp.readArr .dead rfl (tab_get hq)
theorem EngV.fDead (h : EngV w W0 G S T D vT) (q : Nat) : w.frozen? ⟨G.g .dead, q, none⟩ = false := h.sp.freeArr .dead rfl q
theorem EngV.bDead (h : EngV w W0 G S T D vT) : G.g .dead ≠ G.b := h.sp.arrNe .dead rfl
theorem EngV.wDead (h : EngV w W0 G S T D vT) (q : Nat) (x : Bool) : EngV (w.setCell ⟨G.g .dead, q, none⟩ (.bool x)) W0 G S T { D with dead := Tj.upd D.dead q x } vT :=
 ⟨h.sp.setArr .dead rfl q _ (by show Cont.arr _ _ _ _ _ = Cont.arr _ _ _ _ _; rw [tab_set]; congr 2; funext j; show _ = Tj.upd _ _ _ _; unfold Tj.upd; by_cases e : j = q <;> simp [e]) (fun j hj => by cases j <;> first | rfl | exact absurd rfl hj), h.st, h.rF, h.rR, h.rB⟩
theorem EngV.rStrict (h : EngV w W0 G S T D vT) {q : Nat} (hq : q < S.n) : w.cell? ⟨G.g .strict, q, none⟩ = some (Value.int .i64 (D.strict q)) := h.sp.readArr .strict rfl (tab_get hq)
theorem EngV.fStrict (h : EngV w W0 G S T D vT) (q : Nat) : w.frozen? ⟨G.g .strict, q, none⟩ = false := h.sp.freeArr .strict rfl q
theorem EngV.bStrict (h : EngV w W0 G S T D vT) : G.g .strict ≠ G.b := h.sp.arrNe .strict rfl
theorem EngV.wStrict (h : EngV w W0 G S T D vT) (q : Nat) (x : Int) : EngV (w.setCell ⟨G.g .strict, q, none⟩ (.int .i64 x)) W0 G S T { D with strict := Tj.upd D.strict q x } vT :=
 ⟨h.sp.setArr .strict rfl q _ (by show Cont.arr _ _ _ _ _ = Cont.arr _ _ _ _ _; rw [tab_set]; congr 2; funext j; show _ = Tj.upd _ _ _ _; unfold Tj.upd; by_cases e : j = q <;> simp [e]) (fun j hj => by cases j <;> first | rfl | exact absurd rfl hj), h.st, h.rF, h.rR, h.rB⟩
theorem EngV.rBacks (h : EngV w W0 G S T D vT) {q : Nat} (hq : q < S.n) : w.cell? ⟨G.g .backs, q, none⟩ = some (Value.int .i64 (D.backs q)) := h.sp.readArr .backs rfl (tab_get hq)
theorem EngV.fBacks (h : EngV w W0 G S T D vT) (q : Nat) : w.frozen? ⟨G.g .backs, q, none⟩ = false := h.sp.freeArr .backs rfl q
theorem EngV.bBacks (h : EngV w W0 G S T D vT) : G.g .backs ≠ G.b := h.sp.arrNe .backs rfl
theorem EngV.wBacks (h : EngV w W0 G S T D vT) (q : Nat) (x : Int) : EngV (w.setCell ⟨G.g .backs, q, none⟩ (.int .i64 x)) W0 G S T { D with backs := Tj.upd D.backs q x } vT :=
 ⟨h.sp.setArr .backs rfl q _ (by show Cont.arr _ _ _ _ _ = Cont.arr _ _ _ _ _; rw [tab_set]; congr 2; funext j; show _ = Tj.upd _ _ _ _; unfold Tj.upd; by_cases e : j = q <;> simp [e]) (fun j hj => by cases j <;> first | rfl | exact absurd rfl hj), h.st, h.rF, h.rR, h.rB⟩
theorem EngV.rBacked (h : EngV w W0 G S T D vT) {q : Nat} (hq : q < S.n) : w.cell? ⟨G.g .backed, q, none⟩ = some (Value.bool (D.backed q)) := h.sp.readArr .backed rfl (tab_get hq)
theorem EngV.fBacked (h : EngV w W0 G S T D vT) (q : Nat) : w.frozen? ⟨G.g .backed, q, none⟩ = false := h.sp.freeArr .backed rfl q
theorem EngV.bBacked (h : EngV w W0 G S T D vT) : G.g .backed ≠ G.b := h.sp.arrNe .backed rfl
theorem EngV.wBacked (h : EngV w W0 G S T D vT) (q : Nat) (x : Bool) : EngV (w.setCell ⟨G.g .backed, q, none⟩ (.bool x)) W0 G S T { D with backed := Tj.upd D.backed q x } vT :=
 ⟨h.sp.setArr .backed rfl q _ (by show Cont.arr _ _ _ _ _ = Cont.arr _ _ _ _ _; rw [tab_set]; congr 2; funext j; show _ = Tj.upd _ _ _ _; unfold Tj.upd; by_cases e : j = q <;> simp [e]) (fun j hj => by cases j <;> first | rfl | exact absurd rfl hj), h.st, h.rF, h.rR, h.rB⟩
theorem EngV.rOpn (h : EngV w W0 G S T D vT) {q : Nat} (hq : q < S.n) : w.cell? ⟨G.g .opn, q, none⟩ = some (Value.int .i64 (D.opn q)) := h.sp.readArr .opn rfl (tab_get hq)
theorem EngV.fOpn (h : EngV w W0 G S T D vT) (q : Nat) : w.frozen? ⟨G.g .opn, q, none⟩ = false := h.sp.freeArr .opn rfl q
theorem EngV.bOpn (h : EngV w W0 G S T D vT) : G.g .opn ≠ G.b := h.sp.arrNe .opn rfl
theorem EngV.wOpn (h : EngV w W0 G S T D vT) (q : Nat) (x : Int) : EngV (w.setCell ⟨G.g .opn, q, none⟩ (.int .i64 x)) W0 G S T { D with opn := Tj.upd D.opn q x } vT :=
 ⟨h.sp.setArr .opn rfl q _ (by show Cont.arr _ _ _ _ _ = Cont.arr _ _ _ _ _; rw [tab_set]; congr 2; funext j; show _ = Tj.upd _ _ _ _; unfold Tj.upd; by_cases e : j = q <;> simp [e]) (fun j hj => by cases j <;> first | rfl | exact absurd rfl hj), h.st, h.rF, h.rR, h.rB⟩
theorem EngV.rClash (h : EngV w W0 G S T D vT) {q : Nat} (hq : q < S.n) : w.cell? ⟨G.g .clash, q, none⟩ = some (Value.bool (D.clash q)) := h.sp.readArr .clash rfl (tab_get hq)
theorem EngV.fClash (h : EngV w W0 G S T D vT) (q : Nat) : w.frozen? ⟨G.g .clash, q, none⟩ = false := h.sp.freeArr .clash rfl q
theorem EngV.bClash (h : EngV w W0 G S T D vT) : G.g .clash ≠ G.b := h.sp.arrNe .clash rfl
theorem EngV.wClash (h : EngV w W0 G S T D vT) (q : Nat) (x : Bool) : EngV (w.setCell ⟨G.g .clash, q, none⟩ (.bool x)) W0 G S T { D with clash := Tj.upd D.clash q x } vT :=
 ⟨h.sp.setArr .clash rfl q _ (by show Cont.arr _ _ _ _ _ = Cont.arr _ _ _ _ _; rw [tab_set]; congr 2; funext j; show _ = Tj.upd _ _ _ _; unfold Tj.upd; by_cases e : j = q <;> simp [e]) (fun j hj => by cases j <;> first | rfl | exact absurd rfl hj), h.st, h.rF, h.rR, h.rB⟩
theorem EngV.rAttacks (h : EngV w W0 G S T D vT) {q : Nat} (hq : q < S.n) : w.cell? ⟨G.g .attacks, q, none⟩ = some (Value.int .i64 (D.attacks q)) := h.sp.readArr .attacks rfl (tab_get hq)
theorem EngV.fAttacks (h : EngV w W0 G S T D vT) (q : Nat) : w.frozen? ⟨G.g .attacks, q, none⟩ = false := h.sp.freeArr .attacks rfl q
theorem EngV.bAttacks (h : EngV w W0 G S T D vT) : G.g .attacks ≠ G.b := h.sp.arrNe .attacks rfl
theorem EngV.wAttacks (h : EngV w W0 G S T D vT) (q : Nat) (x : Int) : EngV (w.setCell ⟨G.g .attacks, q, none⟩ (.int .i64 x)) W0 G S T { D with attacks := Tj.upd D.attacks q x } vT :=
 ⟨h.sp.setArr .attacks rfl q _ (by show Cont.arr _ _ _ _ _ = Cont.arr _ _ _ _ _; rw [tab_set]; congr 2; funext j; show _ = Tj.upd _ _ _ _; unfold Tj.upd; by_cases e : j = q <;> simp [e]) (fun j hj => by cases j <;> first | rfl | exact absurd rfl hj), h.st, h.rF, h.rR, h.rB⟩
theorem EngV.rStanding (h : EngV w W0 G S T D vT) {q : Nat} (hq : q < S.n) : w.cell? ⟨G.g .standing, q, none⟩ = some (Value.bool (D.standing q)) := h.sp.readArr .standing rfl (tab_get hq)
theorem EngV.fStanding (h : EngV w W0 G S T D vT) (q : Nat) : w.frozen? ⟨G.g .standing, q, none⟩ = false := h.sp.freeArr .standing rfl q
theorem EngV.bStanding (h : EngV w W0 G S T D vT) : G.g .standing ≠ G.b := h.sp.arrNe .standing rfl
theorem EngV.wStanding (h : EngV w W0 G S T D vT) (q : Nat) (x : Bool) : EngV (w.setCell ⟨G.g .standing, q, none⟩ (.bool x)) W0 G S T { D with standing := Tj.upd D.standing q x } vT :=
 ⟨h.sp.setArr .standing rfl q _ (by show Cont.arr _ _ _ _ _ = Cont.arr _ _ _ _ _; rw [tab_set]; congr 2; funext j; show _ = Tj.upd _ _ _ _; unfold Tj.upd; by_cases e : j = q <;> simp [e]) (fun j hj => by cases j <;> first | rfl | exact absurd rfl hj), h.st, h.rF, h.rR, h.rB⟩

theorem EngV.wUpd (h : EngV w W0 G S T D vT) (x : Int) : EngV (w.setCell ⟨G.b, 8, none⟩ (.int .i64 x)) W0 G S T { D with upd := x } vT := ⟨h.sp.put 8 _, h.st, h.rF, h.rR, h.rB⟩
theorem EngV.wQueued (h : EngV w W0 G S T D vT) (x : Int) : EngV (w.setCell ⟨G.b, 7, none⟩ (.int .i64 x)) W0 G S T { D with queued := x } vT := ⟨h.sp.put 7 _, h.st, h.rF, h.rR, h.rB⟩
/-- The told list has grown; its header is written. -/
theorem EngV.wTold (h : EngV w W0 G S T D vT) {v' : Value} {l : List (Nat × Nat)} (hg : w.grownBy w' vT.ownBlock) (hown : w'.ownsRow W0.heap.size 98 2 v' l.length (toldV l))
  (hat : ∀ g, v'.ownBlock = some g → vT.ownBlock = some g ∨ w.heap.size ≤ g) : EngV (w'.setCell ⟨G.b, 5, none⟩ v') W0 G S T { D with told := l } v' :=
 ⟨(h.sp.growArr (C' := contE G S { D with told := l } v') .told rfl hg hown hat rfl (fun j hj => by cases j <;> first | rfl | exact absurd rfl hj)).put 5 v', h.st, h.rF, h.rR, h.rB⟩
theorem EngV.toldOwn (h : EngV w W0 G S T D vT) : w.ownsRow W0.heap.size 98 2 vT D.told.length (toldV D.told) := h.sp.ok .told
theorem EngV.afterTold (h : EngV w W0 G S T D vT) (hg : w.grownBy w' vT.ownBlock) : w'.cell? ⟨G.b, 5, none⟩ = some vT ∧ w'.frozen? ⟨G.b, 5, none⟩ = false := by
 have hb : w'.heap[G.b]? = w.heap[G.b]? := hg.block _ (lt_of_block h.sp.hdr) (fun e => h.sp.far .told G.b e.symm rfl)
 exact ⟨(World.cell?_of_block hb).trans h.hTold, (World.frozen?_of_block hb).trans (h.free 5)⟩
/-- The pairs. -/
theorem EngV.pForm (h : EngV w W0 G S T D vT) {p : Nat} (hp : p < S.P) : ∃ g c, G.vP = .slice (some ⟨g, 0, none⟩) S.P c := by
 have := h.sp.ok .pairs
 rcases (show w.ownsRow W0.heap.size _ 4 G.vP S.P _ from this).2 with ⟨_, h0⟩ | ⟨g, cap, cur, hv, _⟩
 ·omega
 ·exact ⟨g, cap, hv⟩
theorem EngV.pairsAt (h : EngV w W0 G S T D vT) {g c : Nat} (e : G.vP = .slice (some ⟨g, 0, none⟩) S.P c) : contE G S D vT .pairs = .arr (.slice (some ⟨g, 0, none⟩) S.P c) 191 4 S.P (tab (4 * S.P) (pairC S D)) := by
 show Cont.arr G.vP _ _ _ _ = _; rw [e]
theorem EngV.rPair (h : EngV w W0 G S T D vT) {g c : Nat} (e : G.vP = .slice (some ⟨g, 0, none⟩) S.P c) {p : Nat} (hp : p < S.P) :
  w.cell? ⟨g, p * 4, none⟩ = some (.int .i64 (S.pq p : Int)) ∧ w.cell? ⟨g, p * 4 + 1, none⟩ = some (.int .i64 (S.ps p : Int)) ∧ w.cell? ⟨g, p * 4 + 2, none⟩ = some (.bool (D.settled p)) ∧ w.cell? ⟨g, p * 4 + 3, none⟩ = some (.int .i64 (D.left p)) := by
 have k := fun i (hi : i < 4 * S.P) => h.sp.readArr .pairs (h.pairsAt e) (tab_get (f := pairC S D) hi)
 have k0 := k (p * 4) (by omega); have k1 := k (p * 4 + 1) (by omega); have k2 := k (p * 4 + 2) (by omega); have k3 := k (p * 4 + 3) (by omega)
 unfold pairC at k0 k1 k2 k3
 rw [if_pos (by omega), show p * 4 / 4 = p by omega] at k0
 rw [if_neg (by omega), if_pos (by omega), show (p * 4 + 1) / 4 = p by omega] at k1
 rw [if_neg (by omega), if_neg (by omega), if_pos (by omega), show (p * 4 + 2) / 4 = p by omega] at k2
 rw [if_neg (by omega), if_neg (by omega), if_neg (by omega), show (p * 4 + 3) / 4 = p by omega] at k3
 exact ⟨k0, k1, k2, k3⟩
theorem EngV.fPair (h : EngV w W0 G S T D vT) {g c : Nat} (e : G.vP = .slice (some ⟨g, 0, none⟩) S.P c) (i : Nat) : w.frozen? ⟨g, i, none⟩ = false := h.sp.freeArr .pairs (h.pairsAt e) i
theorem EngV.bPair (h : EngV w W0 G S T D vT) {g c : Nat} (e : G.vP = .slice (some ⟨g, 0, none⟩) S.P c) : g ≠ G.b := h.sp.arrNe .pairs (h.pairsAt e)
theorem EngV.wSettled (h : EngV w W0 G S T D vT) {g c : Nat} (e : G.vP = .slice (some ⟨g, 0, none⟩) S.P c) (p : Nat) (x : Bool) : EngV (w.setCell ⟨g, p * 4 + 2, none⟩ (.bool x)) W0 G S T { D with settled := Tj.upd D.settled p x } vT := by
 refine ⟨h.sp.setArr .pairs (h.pairsAt e) (p * 4 + 2) _ ?_ (fun j hj => by cases j <;> first | rfl | exact absurd rfl hj), h.st, h.rF, h.rR, h.rB⟩
 show Cont.arr G.vP _ _ _ _ = _
 rw [e, tab_set]
 rw [pairC_settled]
theorem EngV.wLeft (h : EngV w W0 G S T D vT) {g c : Nat} (e : G.vP = .slice (some ⟨g, 0, none⟩) S.P c) (p : Nat) (x : Int) : EngV (w.setCell ⟨g, p * 4 + 3, none⟩ (.int .i64 x)) W0 G S T { D with left := Tj.upd D.left p x } vT := by
 refine ⟨h.sp.setArr .pairs (h.pairsAt e) (p * 4 + 3) _ ?_ (fun j hj => by cases j <;> first | rfl | exact absurd rfl hj), h.st, h.rF, h.rR, h.rB⟩
 show Cont.arr G.vP _ _ _ _ = _
 rw [e, tab_set]
 rw [pairC_left]
/-- The theory's parts. -/
theorem EngV.rule (h : EngV w W0 G S T D vT) {r : Nat} (hr : r < S.m) : ∃ (g : Addr) (B : Option Addr) (c1 c2 : Nat), G.vR = .slice (some g) S.m c1 ∧ ∀ w', Below W0.heap.size W0 w' → w'.cell? (g.add (r * 3)) = some (.int .i64 (S.kind r)) ∧ w'.cell? ⟨(g.add (r * 3)).block, (g.add (r * 3)).off + 1, none⟩ = some (.int .i64 (S.head r : Int)) ∧
  w'.cell? ⟨(g.add (r * 3)).block, (g.add (r * 3)).off + 2, none⟩ = some (.slice B (S.bodyLen r) c2) := by
 obtain ⟨A, c1, e1, _, _, hr1⟩ := h.rR
 have hlt : r < T.rules.length := by rw [h.st.m]; exact hr
 obtain ⟨ad, B, c, eA, k0, k1, k2, _⟩ := hr1.atRule hlt
 subst eA
 rw [h.st.kd r hlt] at k0; rw [h.st.hd r hlt] at k1; rw [h.st.bd r hlt] at k2
 exact ⟨ad, B, c1, c, by rw [e1, h.st.m], fun w' hb => ⟨cell_ext hb k0, cell_ext hb k1, cell_ext hb k2⟩⟩
theorem natsRcI {w : World} {A : Option Addr} {l : List Nat} (h : RcI w A (l.map fun (x : Nat) => (x : Int))) {k : Nat} (hk : k < l.length) : ∃ ad, A = some ad ∧ w.cell? (ad.add k) = some (.int .i64 (l[k] : Int)) := by
 obtain ⟨ad, e, c⟩ := h.at1 (k := k) (by simpa using hk)
 exact ⟨ad, e, by simpa using c⟩
theorem EngV.foes (h : EngV w W0 G S T D vT) {q : Nat} (hq : q < S.n) : ∃ (g : Addr) (B : Option Addr) (c1 c2 : Nat), G.vF = .slice (some g) S.n c1 ∧ (∀ w', Below W0.heap.size W0 w' → w'.cell? (g.add q) = some (.slice B (S.foes q).length c2)) ∧ (S.foes q).length ≤ 140737488355328 ∧
  (∀ k (hk : k < (S.foes q).length), ∃ ad, B = some ad ∧ ∀ w', Below W0.heap.size W0 w' → w'.cell? (ad.add k) = some (.int .i64 ((S.foes q)[k] : Int))) := by
 have hlt : q < T.foes.length := by rw [h.st.n]; exact hq
 obtain ⟨A, c1, e1, _, _, hr1⟩ := h.rF
 obtain ⟨ad, B, c, eA, k0, k1, k2, k3⟩ := hr1.atRow hlt
 subst eA
 rw [h.st.fo q hlt] at k0 k2 k3
 simp only [List.length_map] at k0 k2
 exact ⟨ad, B, c1, c, by rw [e1, h.st.n], fun w' hb => cell_ext hb k0, k2, fun k hk => by
  obtain ⟨ad, e, c⟩ := natsRcI k3 hk
  exact ⟨ad, e, fun w' hb => cell_ext hb c⟩⟩

theorem EngV.rowInn (h : EngV w W0 G S T D vT) {q : Nat} (hq : q < S.n) : ∃ v, G.vin[q]? = some v ∧ w.cell? ⟨G.g .inn, q, none⟩ = some v ∧ w.ownsRow W0.heap.size 3 1 v (S.inn q).length (natsV (S.inn q)) := by
 obtain ⟨v, h1, h2, h3⟩ := h.sp.row .inn rfl (q := q) (by rw [tab_length]; exact hq)
 rw [tab_at hq] at h3
 exact ⟨v, h1, h2, h3⟩
theorem EngV.rowOfs (h : EngV w W0 G S T D vT) {q : Nat} (hq : q < S.m) : ∃ v, G.vof[q]? = some v ∧ w.cell? ⟨G.g .ofs, q, none⟩ = some v ∧ w.ownsRow W0.heap.size 3 1 v (S.ofs q).length (natsV (S.ofs q)) := by
 obtain ⟨v, h1, h2, h3⟩ := h.sp.row .ofs rfl (q := q) (by rw [tab_length]; exact hq)
 rw [tab_at hq] at h3
 exact ⟨v, h1, h2, h3⟩
theorem EngV.rowBeats (h : EngV w W0 G S T D vT) {q : Nat} (hq : q < S.m) : ∃ v, G.vbe[q]? = some v ∧ w.cell? ⟨G.g .beats, q, none⟩ = some v ∧ w.ownsRow W0.heap.size 3 1 v (S.beats q).length (natsV (S.beats q)) := by
 obtain ⟨v, h1, h2, h3⟩ := h.sp.row .beats rfl (q := q) (by rw [tab_length]; exact hq)
 rw [tab_at hq] at h3
 exact ⟨v, h1, h2, h3⟩
theorem natsRow {w : World} {base : Nat} {v : Value} {l : List Nat} (h : w.ownsRow base 3 1 v l.length (natsV l)) : ∃ A c, v = .slice A l.length c ∧ l.length ≤ maxLen := by
 rcases h.2 with ⟨h1, h0⟩ | ⟨g, cap, cur, hv, _, _, h1, h2, _⟩
 ·exact ⟨none, 0, by rw [h1, h0], by rw [h0]; exact Nat.zero_le _⟩
 ·exact ⟨_, cap, hv, Nat.le_trans h1 h2⟩
theorem natsAt {w : World} {base c : Nat} {A : Option Addr} {l : List Nat} (h : w.ownsRow base 3 1 (.slice A l.length c) l.length (natsV l)) {k : Nat} (hk : k < l.length) : ∃ g, A = some ⟨g, 0, none⟩ ∧ w.cell? ⟨g, k, none⟩ = some (.int .i64 (l[k] : Int)) := by
 rcases h.2 with ⟨h1, h0⟩ | ⟨g, cap, cur, hv, _⟩
 ·omega
 ·cases hv
  exact ⟨g, rfl, own_read h (by simp [natsV, hk])⟩
end
end Go.Proofs.Lx

namespace Go.Proofs.Lx
open Go Go.RowKit Go.Proofs.Tj
set_option linter.unusedVariables false
set_option linter.unusedSimpArgs false

theorem shr_all : ∀ (x : _root_.Fin 16) (k : _root_.Fin 4), (bits .and .u8 ((x.val : Int) / 2 ^ k.val) 1 == 1) = x.val.testBit k.val := by decide +kernel
theorem shr_bit (x : Nat) (hx : x < 16) (k : Nat) (hk : k < 4) : (bits .and .u8 ((x : Int) / 2 ^ k) 1 == 1) = x.testBit k := shr_all ⟨x, hx⟩ ⟨k, hk⟩

theorem ehas_any (w W0 : World) (G : Gh) (S : Stc) (T : Th) (D : Dyn) (h : Eng w W0 G S T D) (q tag : Nat) (hq : q < S.n) (h1 : 1 ≤ tag) (h4 : tag ≤ 4) (hx : D.marks q < 16) :
  Calls Tryz.prog 20 #[.pointer (some ⟨G.b, 0, none⟩), .int .i64 (q : Int), .int .i64 (tag : Int)] w (Ret fun v w' => v = .bool (hasT D q tag) ∧ w = w') := by
 obtain ⟨vT, h⟩ := h
 have e4 := h.hMarks
 have c := h.rMarks hq
 have hn := h.st.n4
 unfold hasT at *
 generalize D.marks q = x at *
 have hv := shr_bit x hx (tag - 1) (by omega)
 clear h
 refine post_gen fun Q HQ => ?_
 go_enter Tryz.func20, Tryz.ntmps20
 go_wp2
 go_ret
 exact Fin HQ ⟨rfl, rfl⟩
theorem esup_any (w W0 : World) (G : Gh) (S : Stc) (T : Th) (D : Dyn) (h : Eng w W0 G S T D) (r : Nat) (hr : r < S.m) :
  Calls Tryz.prog 87 #[.pointer (some ⟨G.b, 0, none⟩), .int .i64 (r : Int)] w (Ret fun v w' => v = .bool (supR S r) ∧ w = w') := by
 obtain ⟨vT, h⟩ := h
 have e2 := h.hR
 obtain ⟨g, B, c1, c2, eR, kk⟩ := h.rule hr
 obtain ⟨k0, k1, k2⟩ := kk w h.sp.old
 have hn := h.st.m4
 rw [eR] at e2
 unfold supR
 clear h eR kk
 refine post_gen fun Q HQ => ?_
 go_enter Tryz.func87, Tryz.ntmps87
 go_wp2
 go_ret
 exact Fin HQ ⟨rfl, rfl⟩
/-- What a step answers: nothing, and the state. -/
def Stp (W0 : World) (G : Gh) (S : Stc) (T : Th) (D' : Dyn) (v : Value) (w' : World) : Prop := v = .tuple #[] ∧ Eng w' W0 G S T D'
def StpB (W0 : World) (G : Gh) (S : Stc) (T : Th) (D' : Dyn) (c : Bool) (v : Value) (w' : World) : Prop := v = .bool c ∧ Eng w' W0 G S T D'


set_option maxHeartbeats 800000 in
theorem elowerN_any (w W0 : World) (G : Gh) (S : Stc) (T : Th) (D : Dyn) (h : Eng w W0 G S T D) (r : Nat) (hr : r < S.m) :
  Calls Tryz.prog 90 #[.pointer (some ⟨G.b, 0, none⟩), sl (G.g .need) S.m, .int .i64 (r : Int)] w (Ret (StpB W0 G S T (lowerN S D r) ((lowerN S D r).need r == 0))) := by
 obtain ⟨vT, h⟩ := h
 have c := h.rNeed hr
 have f := h.fNeed r
 have hn := h.st.m4
 have hb16 := h.st.b16 r hr
 obtain ⟨g, B, c1, c2, eR, kk⟩ := h.rule hr
 obtain ⟨x, hx⟩ : ∃ x, D.need r = x := ⟨_, rfl⟩
 rw [hx] at c
 have hw : EngV (w.setCell ⟨G.g .need, r, none⟩ (.int .i64 (wrap64 (x - 1)))) W0 G S T (decNeed D r) vT := by
  have := h.wNeed r (wrap64 (x - 1))
  unfold decNeed subW; rw [hx]; exact this
 have e2 := hw.hR
 rw [eR] at e2
 obtain ⟨k0, k1, k2⟩ := kk _ hw.sp.old
 have e8 := hw.hUpd
 have f8 := hw.free 8
 have c1 := hw.rNeed hr
 have hd1 : (decNeed D r).need r = wrap64 (x - 1) := by show Tj.upd _ _ _ _ = _; rw [Tj.upd_same, hx]; rfl
 rw [hd1] at c1
 have hw2 := hid (hw.wUpd (wrap64 ((decNeed D r).upd + 1)))
 have c2 := (hw.wUpd (wrap64 ((decNeed D r).upd + 1))).rNeed hr
 rw [show ({ decNeed D r with upd := wrap64 ((decNeed D r).upd + 1) } : Dyn).need r = wrap64 (x - 1) from hd1] at c2
 have Hw := hid hw
 have Hd := hid hd1
 unfold StpB
 clear h kk eR hw hd1 k0 k1 hx
 refine post_gen fun Q HQ => ?_
 by_cases hb : 1 < S.bodyLen r
 ·have hl : lowerN S D r = { decNeed D r with upd := wrap64 ((decNeed D r).upd + 1) } := by unfold lowerN tickB; rw [if_pos hb]; rfl
  have hl2 : (lowerN S D r).need r = wrap64 (x - 1) := by rw [hl]; exact Hd.out
  rw [hl2, hl] at HQ
  have hb2 : decide (1 < S.bodyLen r) = true := decide_eq_true hb
  clear hl hl2
  generalize (decNeed D r).upd = y at *
  go_enter Tryz.func90, Tryz.ntmps90
  go_wp2
  go_ret
  exact Fin HQ ⟨rfl, vT, hw2.out⟩
 ·have hl : lowerN S D r = decNeed D r := by unfold lowerN tickB; rw [if_neg hb]
  have hl2 : (lowerN S D r).need r = wrap64 (x - 1) := by rw [hl]; exact Hd.out
  rw [hl2, hl] at HQ
  have hb2 : decide (1 < S.bodyLen r) = false := decide_eq_false hb
  clear hl hl2 c2
  generalize (decNeed D r).upd = y at *
  go_enter Tryz.func90, Tryz.ntmps90
  go_wp2
  go_ret
  exact Fin HQ ⟨rfl, vT, Hw.out⟩

set_option maxHeartbeats 800000 in
theorem elowerS_any (w W0 : World) (G : Gh) (S : Stc) (T : Th) (D : Dyn) (h : Eng w W0 G S T D) (r : Nat) (hr : r < S.m) :
  Calls Tryz.prog 90 #[.pointer (some ⟨G.b, 0, none⟩), sl (G.g .needD) S.m, .int .i64 (r : Int)] w (Ret (StpB W0 G S T (lowerS S D r) ((lowerS S D r).needD r == 0))) := by
 obtain ⟨vT, h⟩ := h
 have c := h.rNeedD hr
 have f := h.fNeedD r
 have hn := h.st.m4
 have hb16 := h.st.b16 r hr
 obtain ⟨g, B, c1, c2, eR, kk⟩ := h.rule hr
 obtain ⟨x, hx⟩ : ∃ x, D.needD r = x := ⟨_, rfl⟩
 rw [hx] at c
 have hw : EngV (w.setCell ⟨G.g .needD, r, none⟩ (.int .i64 (wrap64 (x - 1)))) W0 G S T (decNeedD D r) vT := by
  have := h.wNeedD r (wrap64 (x - 1))
  unfold decNeedD subW; rw [hx]; exact this
 have e2 := hw.hR
 rw [eR] at e2
 obtain ⟨k0, k1, k2⟩ := kk _ hw.sp.old
 have e8 := hw.hUpd
 have f8 := hw.free 8
 have c1 := hw.rNeedD hr
 have hd1 : (decNeedD D r).needD r = wrap64 (x - 1) := by show Tj.upd _ _ _ _ = _; rw [Tj.upd_same, hx]; rfl
 rw [hd1] at c1
 have hw2 := hid (hw.wUpd (wrap64 ((decNeedD D r).upd + 1)))
 have c2 := (hw.wUpd (wrap64 ((decNeedD D r).upd + 1))).rNeedD hr
 rw [show ({ decNeedD D r with upd := wrap64 ((decNeedD D r).upd + 1) } : Dyn).needD r = wrap64 (x - 1) from hd1] at c2
 have Hw := hid hw
 have Hd := hid hd1
 unfold StpB
 clear h kk eR hw hd1 k0 k1 hx
 refine post_gen fun Q HQ => ?_
 by_cases hb : 1 < S.bodyLen r
 ·have hl : lowerS S D r = { decNeedD D r with upd := wrap64 ((decNeedD D r).upd + 1) } := by unfold lowerS tickB; rw [if_pos hb]; rfl
  have hl2 : (lowerS S D r).needD r = wrap64 (x - 1) := by rw [hl]; exact Hd.out
  rw [hl2, hl] at HQ
  have hb2 : decide (1 < S.bodyLen r) = true := decide_eq_true hb
  clear hl hl2
  generalize (decNeedD D r).upd = y at *
  go_enter Tryz.func90, Tryz.ntmps90
  go_wp2
  go_ret
  exact Fin HQ ⟨rfl, vT, hw2.out⟩
 ·have hl : lowerS S D r = decNeedD D r := by unfold lowerS tickB; rw [if_neg hb]
  have hl2 : (lowerS S D r).needD r = wrap64 (x - 1) := by rw [hl]; exact Hd.out
  rw [hl2, hl] at HQ
  have hb2 : decide (1 < S.bodyLen r) = false := decide_eq_false hb
  clear hl hl2 c2
  generalize (decNeedD D r).upd = y at *
  go_enter Tryz.func90, Tryz.ntmps90
  go_wp2
  go_ret
  exact Fin HQ ⟨rfl, vT, Hw.out⟩

set_option maxHeartbeats 800000 in
theorem ekillN_yes (w W0 : World) (G : Gh) (S : Stc) (T : Th) (D : Dyn) (h : Eng w W0 G S T D) (r : Nat) (hr : r < S.m) (hd : D.dead r = false) :
  Calls Tryz.prog 91 #[.pointer (some ⟨G.b, 0, none⟩), sl (G.g .dead) S.m, .int .i64 (r : Int)] w (Ret (StpB W0 G S T (killN S D r) true)) := by
 obtain ⟨vT, h⟩ := h
 have c := h.rDead hr
 rw [hd] at c
 have f := h.fDead r
 have hn := h.st.m4
 have hb16 := h.st.b16 r hr
 obtain ⟨g, B, c1, c2, eR, kk⟩ := h.rule hr
 have hw : EngV (w.setCell ⟨G.g .dead, r, none⟩ (.bool true)) W0 G S T (setDead D r) vT := h.wDead r true
 have e2 := hw.hR
 rw [eR] at e2
 obtain ⟨k0, k1, k2⟩ := kk _ hw.sp.old
 have e8 := hw.hUpd
 have f8 := hw.free 8
 have hw2 := hid (hw.wUpd (wrap64 ((setDead D r).upd + 1)))
 have Hw := hid hw
 unfold StpB
 clear h kk eR hw k0 k1 hd
 refine post_gen fun Q HQ => ?_
 by_cases hb : 1 < S.bodyLen r
 ·have hl : killN S D r = { setDead D r with upd := wrap64 ((setDead D r).upd + 1) } := by unfold killN tickB; rw [if_pos hb]; rfl
  rw [hl] at HQ
  have hb2 : decide (1 < S.bodyLen r) = true := decide_eq_true hb
  clear hl
  generalize (setDead D r).upd = y at *
  go_enter Tryz.func91, Tryz.ntmps91
  go_wp2
  go_ret
  exact Fin HQ ⟨rfl, vT, hw2.out⟩
 ·have hl : killN S D r = setDead D r := by unfold killN tickB; rw [if_neg hb]
  rw [hl] at HQ
  have hb2 : decide (1 < S.bodyLen r) = false := decide_eq_false hb
  clear hl
  generalize (setDead D r).upd = y at *
  go_enter Tryz.func91, Tryz.ntmps91
  go_wp2
  go_ret
  exact Fin HQ ⟨rfl, vT, Hw.out⟩
theorem ekillN_no (w W0 : World) (G : Gh) (S : Stc) (T : Th) (D : Dyn) (h : Eng w W0 G S T D) (r : Nat) (hr : r < S.m) (hd : D.dead r = true) :
  Calls Tryz.prog 91 #[.pointer (some ⟨G.b, 0, none⟩), sl (G.g .dead) S.m, .int .i64 (r : Int)] w (Ret fun v w' => v = .bool false ∧ w = w') := by
 obtain ⟨vT, h⟩ := h
 have c := h.rDead hr
 rw [hd] at c
 have hn := h.st.m4
 clear h hd
 refine post_gen fun Q HQ => ?_
 go_enter Tryz.func91, Tryz.ntmps91
 go_wp2
 go_ret
 exact Fin HQ ⟨rfl, rfl⟩

set_option maxHeartbeats 800000 in
theorem ekillS_yes (w W0 : World) (G : Gh) (S : Stc) (T : Th) (D : Dyn) (h : Eng w W0 G S T D) (r : Nat) (hr : r < S.m) (hd : D.deadD r = false) :
  Calls Tryz.prog 91 #[.pointer (some ⟨G.b, 0, none⟩), sl (G.g .deadD) S.m, .int .i64 (r : Int)] w (Ret (StpB W0 G S T (killS S D r) true)) := by
 obtain ⟨vT, h⟩ := h
 have c := h.rDeadD hr
 rw [hd] at c
 have f := h.fDeadD r
 have hn := h.st.m4
 have hb16 := h.st.b16 r hr
 obtain ⟨g, B, c1, c2, eR, kk⟩ := h.rule hr
 have hw : EngV (w.setCell ⟨G.g .deadD, r, none⟩ (.bool true)) W0 G S T (setDeadD D r) vT := h.wDeadD r true
 have e2 := hw.hR
 rw [eR] at e2
 obtain ⟨k0, k1, k2⟩ := kk _ hw.sp.old
 have e8 := hw.hUpd
 have f8 := hw.free 8
 have hw2 := hid (hw.wUpd (wrap64 ((setDeadD D r).upd + 1)))
 have Hw := hid hw
 unfold StpB
 clear h kk eR hw k0 k1 hd
 refine post_gen fun Q HQ => ?_
 by_cases hb : 1 < S.bodyLen r
 ·have hl : killS S D r = { setDeadD D r with upd := wrap64 ((setDeadD D r).upd + 1) } := by unfold killS tickB; rw [if_pos hb]; rfl
  rw [hl] at HQ
  have hb2 : decide (1 < S.bodyLen r) = true := decide_eq_true hb
  clear hl
  generalize (setDeadD D r).upd = y at *
  go_enter Tryz.func91, Tryz.ntmps91
  go_wp2
  go_ret
  exact Fin HQ ⟨rfl, vT, hw2.out⟩
 ·have hl : killS S D r = setDeadD D r := by unfold killS tickB; rw [if_neg hb]
  rw [hl] at HQ
  have hb2 : decide (1 < S.bodyLen r) = false := decide_eq_false hb
  clear hl
  generalize (setDeadD D r).upd = y at *
  go_enter Tryz.func91, Tryz.ntmps91
  go_wp2
  go_ret
  exact Fin HQ ⟨rfl, vT, Hw.out⟩
theorem ekillS_no (w W0 : World) (G : Gh) (S : Stc) (T : Th) (D : Dyn) (h : Eng w W0 G S T D) (r : Nat) (hr : r < S.m) (hd : D.deadD r = true) :
  Calls Tryz.prog 91 #[.pointer (some ⟨G.b, 0, none⟩), sl (G.g .deadD) S.m, .int .i64 (r : Int)] w (Ret fun v w' => v = .bool false ∧ w = w') := by
 obtain ⟨vT, h⟩ := h
 have c := h.rDeadD hr
 rw [hd] at c
 have hn := h.st.m4
 clear h hd
 refine post_gen fun Q HQ => ?_
 go_enter Tryz.func91, Tryz.ntmps91
 go_wp2
 go_ret
 exact Fin HQ ⟨rfl, rfl⟩
end Go.Proofs.Lx
