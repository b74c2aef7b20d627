/- Rows of ints that a call makes: a slice of slices, each grown by append. -/
import Derived.Test.YtalhpldbhogadaaLb
import Derived.Maps.AppendAt
import Derived.Deep.RegionLaw
namespace Go.Proofs.Lx
open Go Go.RowKit
set_option linter.unusedVariables false

abbrev intsV (xs : List Int) : List Value := xs.map (Value.int .i64)
theorem step_append_own_at {P : Program} {ops : Array Oper} {o : Oper} {a : Act} {w : World} {K : Act → World → Prop} {Q : Exit → Act → World → Prop} {E : Prop}
    (hgd : o.guard = none) (s x : Operand) (t : TypeId)
    (ho : o.op = .call { callee := .builtin .append, args := #[s, x], argTypes := #[t, t] })
    (base : Nat) (e : TypeId) (z : Value) (bytes : Nat) (ht : P.underlying t = some (.slice e)) (hinfo : (P.info? e).map (fun i => (i.zero, i.size, i.bytes)) = some (some z, 1, bytes)) (hz : z.cells.size = 1)
    (v : Value) (n : Nat) (xs : List Value) (hs : a.eval s = v) (hown : w.ownsRow base e 1 v n xs)
    (ad : Addr) (y : Value) (hx : a.eval x = .slice (some ad) 1 1) (hnew : w.cell? ad = some y) (h1 : y.oneCell' = true)
    (h63 : n + 1 ≤ maxLen) (hbytes : (n + 1) * bytes ≤ 140737488355328) (hbase : base ≤ w.heap.size)
    (h : ∀ v' w', w'.ownsRow base e 1 v' (n + 1) (xs ++ [y]) → w.grownBy w' v.ownBlock → (v'.ownBlock = v.ownBlock ∨ v'.ownBlock = some w.heap.size) → K (a.put o.dst v') w') :
    if Region.wanted o (yielded ops a.tmps) = true then Oper.wp P o a w K Q else E := by
  rw [if_pos (by simp [Region.wanted, hgd])]
  obtain ⟨i, hi, hz0, hz1, hz2⟩ := info_parts hinfo
  obtain ⟨v', w', hr, h2, h3, h4, h5⟩ := run_append_own_at (P := P) w base t o.type e i z 1 bytes ht hi hz0 hz1 hz2 hz (by omega) v n xs hown ad 1 1 [y] rfl (by
    intro j u hj
    match j, hj with
    | 0, hj => simp at hj; subst hj; rw [add_zero]; exact hnew) (by intro u hu; simp at hu; subst hu; exact h1) h63 hbytes hbase
  unfold Oper.wp execOp
  simp only [ho, resolve, invoke, builtin, Sem.run_bind, Sem.run_pure, Result.andThen_ok, List.map_toArray, List.map_cons, List.map_nil, hs, hx, hr]
  exact h v' w' h2 h3 h5

structure Rows (w : World) (g base eS eI : Nat) (vs : List Value) (xss : List (List Int)) : Prop where
  blk : w.heap[g]? = some (.cells vs.toArray eS (0, 0))
  len : vs.length = xss.length
  own : ∀ q (h : q < vs.length) (h' : q < xss.length), w.ownsRow base eI 1 vs[q] xss[q].length (intsV xss[q])
  ne : ∀ q r (h : q < vs.length) (h' : r < vs.length), q ≠ r → vs[q].ownBlock = none ∨ vs[q].ownBlock ≠ vs[r].ownBlock
  hg : g < base
section
variable {w w' : World} {g base eS eI : Nat} {vs : List Value} {xss : List (List Int)}
theorem Rows.cell (h : Rows w g base eS eI vs xss) {q : Nat} (hq : q < vs.length) : w.cell? ⟨g, q, none⟩ = some vs[q] := by
  rw [cell_of_row w g q _ eS _ h.blk]; simp [hq]
theorem Rows.free (h : Rows w g base eS eI vs xss) (q : Nat) : w.frozen? ⟨g, q, none⟩ = false := frozen_of_row w g q _ eS h.blk
theorem Rows.lt (h : Rows w g base eS eI vs xss) : g < w.heap.size := lt_of_block h.blk
theorem Rows.ext (h : Rows w g base eS eI vs xss) (hb : Below w.heap.size w w') : Rows w' g base eS eI vs xss :=
  ⟨(hb.block g h.lt).trans h.blk, h.len, fun q h1 h2 => (h.own q h1 h2).kept (row := none) ⟨hb.os, hb.tape, hb.output, hb.size, fun k hk _ => hb.block k hk⟩ (by cases vs[q].ownBlock <;> simp), h.ne, h.hg⟩
theorem Rows.other (h : Rows w g base eS eI vs xss) {a : Addr} (ha : a.block < base) (hne : g ≠ a.block) (u : Value) : Rows (w.setCell a u) g base eS eI vs xss :=
  ⟨(heap_setCell_other w a g u hne).trans h.blk, h.len, fun q h1 h2 => ownsRow_setCell_other (h.own q h1 h2) (fun e => by have := (h.own q h1 h2).lt _ e; omega) u, h.ne, h.hg⟩
theorem Rows.made (w : World) (g base eS eI n : Nat) (hg : g < base) (hb : w.heap[g]? = some (.cells (List.replicate n (Value.slice none 0 0)).toArray eS (0, 0))) : Rows w g base eS eI (List.replicate n (.slice none 0 0)) (List.replicate n []) :=
  ⟨hb, by simp, fun q h1 h2 => by simpa using World.ownsRow_nil w base eI 1, fun q r h1 h2 hne => .inl (by simp [Value.ownBlock]), hg⟩
/-- Row q has grown by one. -/
theorem Rows.append (h : Rows w g base eS eI vs xss) (hbase : base ≤ w.heap.size) {q : Nat} (hq : q < vs.length) (hq' : q < xss.length) {v' : Value} {x : Int} (hgr : w.grownBy w' vs[q].ownBlock)
    (ho : w'.ownsRow base eI 1 v' (xss[q].length + 1) (intsV xss[q] ++ [.int .i64 x])) (hat : v'.ownBlock = vs[q].ownBlock ∨ ∃ b, v'.ownBlock = some b ∧ w.heap.size ≤ b) :
    Rows (w'.setCell ⟨g, q, none⟩ v') g base eS eI (vs.set q v') (xss.set q (xss[q] ++ [x])) := by
  have hgne : ∀ k, vs[q].ownBlock = some k → base ≤ k ∧ k < w.heap.size := (h.own q hq hq').lt
  have hblk : w'.heap[g]? = some (.cells vs.toArray eS (0, 0)) := (hgr.block g h.lt (fun e => by have := hgne g e.symm; have := h.hg; omega)).trans h.blk
  refine ⟨?_, by simp [h.len], ?_, ?_, h.hg⟩
  · rw [heap_setCell_same w' g q _ eS _ hblk]; simp
  · intro r h1 h2
    simp only [List.length_set] at h1 h2
    by_cases e : q = r
    · subst e
      simp only [List.getElem_set_self, List.length_append, List.length_cons, List.length_nil, intsV, List.map_append, List.map_cons, List.map_nil]
      exact ownsRow_setCell_other ho (fun e => by have h9 : base ≤ g := (ho.lt _ e).1; have := h.hg; omega) _
    · rw [List.getElem_set_ne e, List.getElem_set_ne e]
      have h3 := (h.own r h1 h2).kept hgr (h.ne r q h1 hq (Ne.symm e))
      exact ownsRow_setCell_other h3 (fun e => by have h9 : base ≤ g := (h3.lt _ e).1; have := h.hg; omega) _
  · intro r t h1 h2 hrt
    simp only [List.length_set] at h1 h2
    rw [List.getElem_set, List.getElem_set]
    by_cases e : q = r
    · rw [if_pos e, if_neg (fun e2 => hrt (e.symm.trans e2))]
      subst e
      rcases hat with hat | ⟨b, hat, hb⟩
      · rw [hat]; exact h.ne q t hq h2 hrt
      · right
        rw [hat]
        intro e3
        have := (h.own t h2 (by rw [← h.len]; exact h2)).lt b e3.symm
        omega
    · rw [if_neg e]
      by_cases e2 : q = t
      · rw [if_pos e2]
        subst e2
        rcases hat with hat | ⟨b, hat, hb⟩
        · rw [hat]; exact h.ne r q h1 hq hrt
        · cases ho2 : vs[r].ownBlock with
          | none => exact .inl rfl
          | some k =>
            right
            rw [hat]
            intro e3
            injection e3 with e3
            have := (h.own r h1 (by rw [← h.len]; exact h1)).lt k ho2
            omega
      · rw [if_neg e2]; exact h.ne r t h1 h2 hrt
theorem own_rdI {v : Value} {xs : List Int} (h : w.ownsRow base eI 1 v xs.length (intsV xs)) (hl : xs.length ≤ 140737488355328) : RdI w v xs := by
  rcases h.2 with ⟨rfl, h0⟩ | ⟨gg, cap, cur, rfl, _, _, hc, _⟩
  · exact ⟨none, 0, by rw [h0], by omega, hl, fun i hi => absurd hi (by omega)⟩
  · refine ⟨_, cap, rfl, hc, hl, fun i hi => ⟨_, _, rfl, rfl, rfl, fun j u hu => ?_⟩⟩
    match j, hu with
    | 0, hu =>
      simp at hu; subst hu
      rw [add_plain, Nat.add_zero, Nat.mul_one, h.cellAt i (by omega)]
      simp [hi]
theorem Rows.reads (h : Rows w g base eS eI vs xss) (hl : xss.length ≤ 140737488355328) (hx : ∀ q (h : q < xss.length), xss[q].length ≤ 140737488355328) (c : Nat) (hc : xss.length ≤ c) : RdLL w (.slice (some ⟨g, 0, none⟩) xss.length c) xss := by
  refine ⟨_, c, rfl, hc, hl, fun i hi => ⟨_, _, rfl, ⟨vs[i]'(by rw [h.len]; exact hi), rfl, own_rdI (h.own i _ hi) (hx i hi)⟩, rfl, fun j u hu => ?_⟩⟩
  match j, hu with
  | 0, hu =>
    simp at hu; subst hu
    rw [add_plain, Nat.add_zero, Nat.mul_one]
    exact h.cell _
end
end Go.Proofs.Lx
