/- Parts of the proof: Nc, Rb, Nd, Nf. naive's conditions plusPartial, minusPartial. -/
import Derived.Test.YtalhpldbhogadaaB8
import Derived.Deep.RegionWith
import Derived.Test.YtalhpldbhogadaaB2
import Derived.Maps.AppendAt
import Derived.Deep.RegionLaw
import Derived.Test.YtalhpldbhogadaaB7
import Derived.WalkSpells
namespace Go.Proofs.Lx
open Go Go.RowKit
set_option linter.unusedSimpArgs false
set_option linter.unusedVariables false


set_option maxHeartbeats 1600000 in
theorem plusPartial_any (w : World) (b : Nat) (T : Th) (F : List Bool) (RL : List (List Int)) (M : List Nat) (h : NW w b T F RL M) (hv : NVal T F RL M) (q : Int) (h0 : 0 ≤ q) (hq : q < T.foes.length) :
    Calls Try.prog 90 #[.pointer (some ⟨b, 0, none⟩), .int .i64 q] w (Ret fun v w' => v = .bool (plusPB T RL M q) ∧ Below w.heap.size w w') := by
  have hbel := ext_trans (ext_alloc w (.cells #[.pointer (some ⟨b, 0, none⟩)] 90)) (ext_alloc _ (.cells #[.int .i64 q] 3))
  obtain ⟨W2, HW2⟩ : ∃ W2, Hid (W2 = (w.alloc (.cells #[.pointer (some ⟨b, 0, none⟩)] 90)).alloc (.cells #[.int .i64 q] 3)) := ⟨_, hid rfl⟩
  rw [← HW2.out] at hbel
  have hw0 : W2.cell? ⟨w.heap.size, 0, none⟩ = some (.pointer (some ⟨b, 0, none⟩)) := by rw [HW2.out, World.cell?_alloc_past _ _ _ (by simp), World.cell?_alloc_at _ _ _ _ rfl]; rfl
  have hq0 : W2.cell? ⟨w.heap.size + 1, 0, none⟩ = some (.int .i64 q) := by rw [HW2.out, World.cell?_alloc_at _ _ _ _ (by simp)]; rfl
  have h2 := h.ext hbel
  have hrow : ∀ p : Int, 0 ≤ p → p < T.foes.length → ∀ x ∈ row RL p, 0 ≤ x ∧ x < T.rules.length := by
    intro p hp0 hp
    rw [row_at hp0 (by have := hv.nR; omega)]
    exact hv.rl p.toNat (by have := hv.nR; omega)
  have hql : q.toNat < T.foes.length := by omega
  have hfrow : row T.foes q = T.foes[q.toNat] := row_at h0 (by omega)
  have hfo : ∀ x ∈ row T.foes q, 0 ≤ x ∧ x < T.foes.length := by rw [hfrow]; exact hv.fo q.toNat hql
  have H1 := hid (whas_any W2 b T F RL M h2 hv q h0 hq 1 0 (by decide) (by decide))
  have H2 := hid (fun (w2 : World) (hb2 : Below W2.heap.size W2 w2) => anyRule_any w2 b T F RL M (h2.ext hb2) hv q h0 hq _ #[.pointer (some ⟨w.heap.size, 0, none⟩)] (ppR T M) enters_pp1 (fun x hx w3 ho => pp1_any w3 b w.heap.size T F RL M (h2.ext (ext_trans hb2 ho)) hv x (hrow q h0 hq x hx).1 (hrow q h0 hq x hx).2 (cell_ext (ext_trans hb2 ho) hw0)))
  obtain ⟨vF, vR, vB, vFa, vRu, vM, hh, ⟨A, c, rfl, hc, hb, hr⟩, _, _, _, _, _⟩ := h2.ex
  obtain ⟨ad, v, rfl, hcell, hvv⟩ := hr.atRowV hql
  have c1 := cell_of_row W2 b 1 _ _ _ hh
  simp only [List.getElem?_toArray, List.getElem?_cons_zero, List.getElem?_cons_succ] at c1
  have H3 := hid (fun (w2 : World) (hb2 : Below W2.heap.size W2 w2) => containsFunc w2 v (row T.foes q) 123 #[.pointer (some ⟨w.heap.size, 0, none⟩)] (fun f => !hasM M 1 f) enters_pp2 (by rw [hfrow]; exact hvv.ext (scR_mono _) hb2) (fun x hx w3 ho => pp2_any w3 b w.heap.size T F RL M (h2.ext (ext_trans hb2 ho)) hv x (hfo x hx).1 (hfo x hx).2 (cell_ext (ext_trans hb2 ho) hw0)))
  have H4 := hid (fun (w2 : World) (hb2 : Below W2.heap.size W2 w2) => anyAttack_any w2 b T F RL M (h2.ext hb2) hv q h0 hq _ #[.pointer (some ⟨w.heap.size, 0, none⟩), .pointer (some ⟨w.heap.size + 1, 0, none⟩)] (ppS T RL M q) enters_pp3 (fun f hf x hx w3 ho => pp3_any w3 b w.heap.size T F RL M (h2.ext (ext_trans hb2 ho)) hv (w.heap.size + 1) x q (hrow f (hfo f hf).1 (hfo f hf).2 x hx).1 (hrow f (hfo f hf).1 (hfo f hf).2 x hx).2 h0 hq (cell_ext (ext_trans hb2 ho) hw0) (cell_ext (ext_trans hb2 ho) hq0)))
  obtain ⟨B, cB, rfl, _⟩ := hvv
  have Hs : Hid (plusPB T RL M q = (hasM M 0 q || ((row RL q).any (ppR T M) && (!(row T.foes q).any (fun f => !hasM M 1 f) && !(row T.foes q).any fun f => (row RL f).any (ppS T RL M q))))) := rfl
  have C := hid (And.intro hw0 (And.intro hq0 (And.intro c1 hcell)))
  clear h h2 hv hrow hfo hh hr hfrow hw0 hq0 c1 hcell
  generalize hasM M 0 q = x1 at *
  generalize (row RL q).any (ppR T M) = x2 at *
  generalize (row T.foes q).any (fun f => !hasM M 1 f) = x3 at *
  generalize ((row T.foes q).any fun f => (row RL f).any (ppS T RL M q)) = x4 at *
  generalize T.foes[q.toNat] = l at *
  refine post_gen fun Q HQ => ?_
  go_enter Try.func90, Try.ntmps90
  go_wp2_with fail
  rw [← HW2.out]
  refine H1.out.mono ?_
  rintro e w2 ⟨_, rfl, rfl, hb2⟩
  clear H1
  cases x1 with
  | true =>
    go_wp2_with fail
    go_ret
    exact Fin HQ ⟨by rw [Hs.out]; rfl, ext_trans hbel hb2⟩
  | false =>
    have e1 := cell_ext hb2 C.out.1
    have e2 := cell_ext hb2 C.out.2.1
    go_wp2_with fail
    refine (H2.out w2 hb2).mono ?_
    rintro e w3 ⟨_, rfl, rfl, hb3⟩
    have hb3' := ext_trans hb2 hb3
    clear H2 e1 e2
    cases x2 with
    | false =>
      go_wp2_with fail
      go_ret
      exact Fin HQ ⟨by rw [Hs.out]; rfl, ext_trans hbel hb3'⟩
    | true =>
      have e1 := cell_ext hb3' C.out.1
      have e2 := cell_ext hb3' C.out.2.1
      have e3 := cell_ext hb3' C.out.2.2.1
      have e4 := cell_ext hb3' C.out.2.2.2
      go_wp2_with fail
      go_region_with (go_at_call 122; refine (H3.out _ hb3'.drew).mono ?_; rintro e w4 ⟨_, rfl, rfl, hb4⟩)
      all_goals
        have hb4' : Below W2.heap.size W2 w4 := ext_trans hb3'.drew hb4
        have e1 := cell_ext hb4' C.out.1
        have e2 := cell_ext hb4' C.out.2.1
        cases x3 with
        | true =>
          go_wp2_with fail
          go_ret
          exact Fin HQ ⟨by rw [Hs.out]; rfl, ext_trans hbel hb4'⟩
        | false =>
          go_wp2_with fail
          refine (H4.out w4 hb4').mono ?_
          rintro e w5 ⟨_, rfl, rfl, hb5⟩
          go_wp2_with fail
          go_ret
          exact Fin HQ ⟨by rw [Hs.out]; simp, ext_trans hbel (ext_trans hb4' hb5)⟩

set_option maxHeartbeats 1600000 in
theorem minusPartial_any (w : World) (b : Nat) (T : Th) (F : List Bool) (RL : List (List Int)) (M : List Nat) (h : NW w b T F RL M) (hv : NVal T F RL M) (q : Int) (h0 : 0 ≤ q) (hq : q < T.foes.length) :
    Calls Try.prog 91 #[.pointer (some ⟨b, 0, none⟩), .int .i64 q] w (Ret fun v w' => v = .bool (minusPB T RL M q) ∧ Below w.heap.size w w') := by
  have hbel := ext_trans (ext_alloc w (.cells #[.pointer (some ⟨b, 0, none⟩)] 90)) (ext_alloc _ (.cells #[.int .i64 q] 3))
  obtain ⟨W2, HW2⟩ : ∃ W2, Hid (W2 = (w.alloc (.cells #[.pointer (some ⟨b, 0, none⟩)] 90)).alloc (.cells #[.int .i64 q] 3)) := ⟨_, hid rfl⟩
  rw [← HW2.out] at hbel
  have hw0 : W2.cell? ⟨w.heap.size, 0, none⟩ = some (.pointer (some ⟨b, 0, none⟩)) := by rw [HW2.out, World.cell?_alloc_past _ _ _ (by simp), World.cell?_alloc_at _ _ _ _ rfl]; rfl
  have hq0 : W2.cell? ⟨w.heap.size + 1, 0, none⟩ = some (.int .i64 q) := by rw [HW2.out, World.cell?_alloc_at _ _ _ _ (by simp)]; rfl
  have h2 := h.ext hbel
  have hrow : ∀ p : Int, 0 ≤ p → p < T.foes.length → ∀ x ∈ row RL p, 0 ≤ x ∧ x < T.rules.length := by
    intro p hp0 hp
    rw [row_at hp0 (by have := hv.nR; omega)]
    exact hv.rl p.toNat (by have := hv.nR; omega)
  have hql : q.toNat < T.foes.length := by omega
  have hfrow : row T.foes q = T.foes[q.toNat] := row_at h0 (by omega)
  have hfo : ∀ x ∈ row T.foes q, 0 ≤ x ∧ x < T.foes.length := by rw [hfrow]; exact hv.fo q.toNat hql
  have H1 := hid (whas_any W2 b T F RL M h2 hv q h0 hq 2 1 (by decide) (by decide))
  have H2 := hid (fun (w2 : World) (hb2 : Below W2.heap.size W2 w2) => anyRule_any w2 b T F RL M (h2.ext hb2) hv q h0 hq _ #[.pointer (some ⟨w.heap.size, 0, none⟩)] (mpR T M) enters_mp1 (fun x hx w3 ho => mp1_any w3 b w.heap.size T F RL M (h2.ext (ext_trans hb2 ho)) hv x (hrow q h0 hq x hx).1 (hrow q h0 hq x hx).2 (cell_ext (ext_trans hb2 ho) hw0)))
  obtain ⟨vF, vR, vB, vFa, vRu, vM, hh, ⟨A, c, rfl, hc, hb, hr⟩, _, _, _, _, _⟩ := h2.ex
  obtain ⟨ad, v, rfl, hcell, hvv⟩ := hr.atRowV hql
  have c1 := cell_of_row W2 b 1 _ _ _ hh
  simp only [List.getElem?_toArray, List.getElem?_cons_zero, List.getElem?_cons_succ] at c1
  have H3 := hid (fun (w2 : World) (hb2 : Below W2.heap.size W2 w2) => containsFunc w2 v (row T.foes q) 129 #[.pointer (some ⟨w.heap.size, 0, none⟩)] (fun f => hasM M 0 f) enters_mp2 (by rw [hfrow]; exact hvv.ext (scR_mono _) hb2) (fun x hx w3 ho => mp2_any w3 b w.heap.size T F RL M (h2.ext (ext_trans hb2 ho)) hv x (hfo x hx).1 (hfo x hx).2 (cell_ext (ext_trans hb2 ho) hw0)))
  have H4 := hid (fun (w2 : World) (hb2 : Below W2.heap.size W2 w2) => anyAttack_any w2 b T F RL M (h2.ext hb2) hv q h0 hq _ #[.pointer (some ⟨w.heap.size, 0, none⟩), .pointer (some ⟨w.heap.size + 1, 0, none⟩)] (mpS T RL M q) enters_mp3 (fun f hf x hx w3 ho => mp3_any w3 b w.heap.size T F RL M (h2.ext (ext_trans hb2 ho)) hv (w.heap.size + 1) x q (hrow f (hfo f hf).1 (hfo f hf).2 x hx).1 (hrow f (hfo f hf).1 (hfo f hf).2 x hx).2 h0 hq (cell_ext (ext_trans hb2 ho) hw0) (cell_ext (ext_trans hb2 ho) hq0)))
  obtain ⟨B, cB, rfl, _⟩ := hvv
  have Hs : Hid (minusPB T RL M q = (hasM M 1 q && (!(row RL q).any (mpR T M) || ((row T.foes q).any (fun f => hasM M 0 f) || (row T.foes q).any fun f => (row RL f).any (mpS T RL M q))))) := rfl
  have C := hid (And.intro hw0 (And.intro hq0 (And.intro c1 hcell)))
  clear h h2 hv hrow hfo hh hr hfrow hw0 hq0 c1 hcell
  generalize hasM M 1 q = x1 at *
  generalize (row RL q).any (mpR T M) = x2 at *
  generalize (row T.foes q).any (fun f => hasM M 0 f) = x3 at *
  generalize ((row T.foes q).any fun f => (row RL f).any (mpS T RL M q)) = x4 at *
  generalize T.foes[q.toNat] = l at *
  refine post_gen fun Q HQ => ?_
  go_enter Try.func91, Try.ntmps91
  go_wp2_with fail
  rw [← HW2.out]
  refine H1.out.mono ?_
  rintro e w2 ⟨_, rfl, rfl, hb2⟩
  clear H1
  cases x1 with
  | false =>
    go_wp2_with fail
    go_ret
    exact Fin HQ ⟨by rw [Hs.out]; rfl, ext_trans hbel hb2⟩
  | true =>
    have e1 := cell_ext hb2 C.out.1
    have e2 := cell_ext hb2 C.out.2.1
    go_wp2_with fail
    refine (H2.out w2 hb2).mono ?_
    rintro e w3 ⟨_, rfl, rfl, hb3⟩
    have hb3' := ext_trans hb2 hb3
    clear H2 e1 e2
    cases x2 with
    | false =>
      go_wp2_with fail
      go_ret
      exact Fin HQ ⟨by rw [Hs.out]; rfl, ext_trans hbel hb3'⟩
    | true =>
      have e1 := cell_ext hb3' C.out.1
      have e2 := cell_ext hb3' C.out.2.1
      have e3 := cell_ext hb3' C.out.2.2.1
      have e4 := cell_ext hb3' C.out.2.2.2
      go_wp2_with fail
      go_region_with (go_at_call 122; refine (H3.out _ hb3'.drew).mono ?_; rintro e w4 ⟨_, rfl, rfl, hb4⟩)
      all_goals
        have hb4' : Below W2.heap.size W2 w4 := ext_trans hb3'.drew hb4
        have e1 := cell_ext hb4' C.out.1
        have e2 := cell_ext hb4' C.out.2.1
        cases x3 with
        | true =>
          go_wp2_with fail
          go_ret
          exact Fin HQ ⟨by rw [Hs.out]; rfl, ext_trans hbel hb4'⟩
        | false =>
          go_wp2_with fail
          refine (H4.out w4 hb4').mono ?_
          rintro e w5 ⟨_, rfl, rfl, hb5⟩
          go_wp2_with fail
          go_ret
          exact Fin HQ ⟨by rw [Hs.out]; simp, ext_trans hbel (ext_trans hb4' hb5)⟩
end Go.Proofs.Lx

namespace Go.Proofs.Lx
open Go Go.RowKit
set_option linter.unusedVariables false

abbrev intsV (xs : List Int) : List Value := xs.map (Value.int .i64)
theorem step_append_own_at {P : Program} {ops : Array Oper} {o : Oper} {a : Act} {w : World} {K : Act → World → Prop} {Q : Exit → Act → World → Prop} {E : Prop}
    (hgd : o.guard = none) (s x : Operand) (t : TypeId)
    (ho : o.op = .call { callee := .builtin .append, args := #[s, x], argTypes := #[t, t] })
    (base : Nat) (e : TypeId) (z : Value) (bytes : Nat) (ht : P.underlying t = some (.slice e)) (hinfo : (P.info? e).map (fun i => (i.zero, i.size, i.bytes)) = some (some z, 1, bytes)) (hz : z.cells.size = 1)
    (v : Value) (n : Nat) (xs : List Value) (hs : a.eval s = v) (hown : w.ownsRow base e 1 v n xs)
    (ad : Addr) (y : Value) (hx : a.eval x = .slice (some ad) 1 1) (hnew : w.cell? ad = some y) (h1 : y.oneCell' = true)
    (h63 : n + 1 ≤ maxLen) (hbytes : (n + 1) * bytes ≤ 140737488355328) (hbase : base ≤ w.heap.size)
    (h : ∀ v' w', w'.ownsRow base e 1 v' (n + 1) (xs ++ [y]) → w.grownBy w' v.ownBlock → (v'.ownBlock = v.ownBlock ∨ v'.ownBlock = some w.heap.size) → K (a.put o.dst v') w') :
    if Region.wanted o (yielded ops a.tmps) = true then Oper.wp P o a w K Q else E := by
  rw [if_pos (by simp [Region.wanted, hgd])]
  obtain ⟨i, hi, hz0, hz1, hz2⟩ := info_parts hinfo
  obtain ⟨v', w', hr, h2, h3, h4, h5⟩ := run_append_own_at (P := P) w base t o.type e i z 1 bytes ht hi hz0 hz1 hz2 hz (by omega) v n xs hown ad 1 1 [y] rfl (by
    intro j u hj
    match j, hj with
    | 0, hj => simp at hj; subst hj; rw [add_zero]; exact hnew) (by intro u hu; simp at hu; subst hu; exact h1) h63 hbytes hbase
  unfold Oper.wp execOp
  simp only [ho, resolve, invoke, builtin, Sem.run_bind, Sem.run_pure, Result.andThen_ok, List.map_toArray, List.map_cons, List.map_nil, hs, hx, hr]
  exact h v' w' h2 h3 h5

structure Rows (w : World) (g base eS eI : Nat) (vs : List Value) (xss : List (List Int)) : Prop where
  blk : w.heap[g]? = some (.cells vs.toArray eS (0, 0))
  len : vs.length = xss.length
  own : ∀ q (h : q < vs.length) (h' : q < xss.length), w.ownsRow base eI 1 vs[q] xss[q].length (intsV xss[q])
  ne : ∀ q r (h : q < vs.length) (h' : r < vs.length), q ≠ r → vs[q].ownBlock = none ∨ vs[q].ownBlock ≠ vs[r].ownBlock
  hg : g < base
section
variable {w w' : World} {g base eS eI : Nat} {vs : List Value} {xss : List (List Int)}
theorem Rows.cell (h : Rows w g base eS eI vs xss) {q : Nat} (hq : q < vs.length) : w.cell? ⟨g, q, none⟩ = some vs[q] := by
  rw [cell_of_row w g q _ eS _ h.blk]; simp [hq]
theorem Rows.free (h : Rows w g base eS eI vs xss) (q : Nat) : w.frozen? ⟨g, q, none⟩ = false := frozen_of_row w g q _ eS h.blk
theorem Rows.lt (h : Rows w g base eS eI vs xss) : g < w.heap.size := lt_of_block h.blk
theorem Rows.ext (h : Rows w g base eS eI vs xss) (hb : Below w.heap.size w w') : Rows w' g base eS eI vs xss :=
  ⟨(hb.block g h.lt).trans h.blk, h.len, fun q h1 h2 => (h.own q h1 h2).kept (row := none) ⟨hb.os, hb.tape, hb.output, hb.size, fun k hk _ => hb.block k hk⟩ (by cases vs[q].ownBlock <;> simp), h.ne, h.hg⟩
theorem Rows.other (h : Rows w g base eS eI vs xss) {a : Addr} (ha : a.block < base) (hne : g ≠ a.block) (u : Value) : Rows (w.setCell a u) g base eS eI vs xss :=
  ⟨(heap_setCell_other w a g u hne).trans h.blk, h.len, fun q h1 h2 => ownsRow_setCell_other (h.own q h1 h2) (fun e => by have := (h.own q h1 h2).lt _ e; omega) u, h.ne, h.hg⟩
theorem Rows.made (w : World) (g base eS eI n : Nat) (hg : g < base) (hb : w.heap[g]? = some (.cells (List.replicate n (Value.slice none 0 0)).toArray eS (0, 0))) : Rows w g base eS eI (List.replicate n (.slice none 0 0)) (List.replicate n []) :=
  ⟨hb, by simp, fun q h1 h2 => by simpa using World.ownsRow_nil w base eI 1, fun q r h1 h2 hne => .inl (by simp [Value.ownBlock]), hg⟩
/-- Row q has grown by one. -/
theorem Rows.append (h : Rows w g base eS eI vs xss) (hbase : base ≤ w.heap.size) {q : Nat} (hq : q < vs.length) (hq' : q < xss.length) {v' : Value} {x : Int} (hgr : w.grownBy w' vs[q].ownBlock)
    (ho : w'.ownsRow base eI 1 v' (xss[q].length + 1) (intsV xss[q] ++ [.int .i64 x])) (hat : v'.ownBlock = vs[q].ownBlock ∨ ∃ b, v'.ownBlock = some b ∧ w.heap.size ≤ b) :
    Rows (w'.setCell ⟨g, q, none⟩ v') g base eS eI (vs.set q v') (xss.set q (xss[q] ++ [x])) := by
  have hgne : ∀ k, vs[q].ownBlock = some k → base ≤ k ∧ k < w.heap.size := (h.own q hq hq').lt
  have hblk : w'.heap[g]? = some (.cells vs.toArray eS (0, 0)) := (hgr.block g h.lt (fun e => by have := hgne g e.symm; have := h.hg; omega)).trans h.blk
  refine ⟨?_, by simp [h.len], ?_, ?_, h.hg⟩
  · rw [heap_setCell_same w' g q _ eS _ hblk]; simp
  · intro r h1 h2
    simp only [List.length_set] at h1 h2
    by_cases e : q = r
    · subst e
      simp only [List.getElem_set_self, List.length_append, List.length_cons, List.length_nil, intsV, List.map_append, List.map_cons, List.map_nil]
      exact ownsRow_setCell_other ho (fun e => by have h9 : base ≤ g := (ho.lt _ e).1; have := h.hg; omega) _
    · rw [List.getElem_set_ne e, List.getElem_set_ne e]
      have h3 := (h.own r h1 h2).kept hgr (h.ne r q h1 hq (Ne.symm e))
      exact ownsRow_setCell_other h3 (fun e => by have h9 : base ≤ g := (h3.lt _ e).1; have := h.hg; omega) _
  · intro r t h1 h2 hrt
    simp only [List.length_set] at h1 h2
    rw [List.getElem_set, List.getElem_set]
    by_cases e : q = r
    · rw [if_pos e, if_neg (fun e2 => hrt (e.symm.trans e2))]
      subst e
      rcases hat with hat | ⟨b, hat, hb⟩
      · rw [hat]; exact h.ne q t hq h2 hrt
      · right
        rw [hat]
        intro e3
        have := (h.own t h2 (by rw [← h.len]; exact h2)).lt b e3.symm
        omega
    · rw [if_neg e]
      by_cases e2 : q = t
      · rw [if_pos e2]
        subst e2
        rcases hat with hat | ⟨b, hat, hb⟩
        · rw [hat]; exact h.ne r q h1 hq hrt
        · cases ho2 : vs[r].ownBlock with
          | none => exact .inl rfl
          | some k =>
            right
            rw [hat]
            intro e3
            injection e3 with e3
            have := (h.own r h1 (by rw [← h.len]; exact h1)).lt k ho2
            omega
      · rw [if_neg e2]; exact h.ne r t h1 h2 hrt
theorem own_rdI {v : Value} {xs : List Int} (h : w.ownsRow base eI 1 v xs.length (intsV xs)) (hl : xs.length ≤ 140737488355328) : RdI w v xs := by
  rcases h.2 with ⟨rfl, h0⟩ | ⟨gg, cap, cur, rfl, _, _, hc, _⟩
  · exact ⟨none, 0, by rw [h0], by omega, hl, fun i hi => absurd hi (by omega)⟩
  · refine ⟨_, cap, rfl, hc, hl, fun i hi => ⟨_, _, rfl, rfl, rfl, fun j u hu => ?_⟩⟩
    match j, hu with
    | 0, hu =>
      simp at hu; subst hu
      rw [add_plain, Nat.add_zero, Nat.mul_one, h.cellAt i (by omega)]
      simp [hi]
theorem Rows.reads (h : Rows w g base eS eI vs xss) (hl : xss.length ≤ 140737488355328) (hx : ∀ q (h : q < xss.length), xss[q].length ≤ 140737488355328) (c : Nat) (hc : xss.length ≤ c) : RdLL w (.slice (some ⟨g, 0, none⟩) xss.length c) xss := by
  refine ⟨_, c, rfl, hc, hl, fun i hi => ⟨_, _, rfl, ⟨vs[i]'(by rw [h.len]; exact hi), rfl, own_rdI (h.own i _ hi) (hx i hi)⟩, rfl, fun j u hu => ?_⟩⟩
  match j, hu with
  | 0, hu =>
    simp at hu; subst hu
    rw [add_plain, Nat.add_zero, Nat.mul_one]
    exact h.cell _
end
end Go.Proofs.Lx

namespace Go.Proofs.Lx
open Go Go.RowKit
set_option linter.unusedSimpArgs false
set_option linter.unusedVariables false

abbrev marksV (M : List Nat) : List Value := M.map fun (x : Nat) => Value.int .u8 (x : Int)
theorem own_rdS {α : Type} {enc : α → Value} {w : World} {base eI : Nat} {v : Value} {xs : List α} (h : w.ownsRow base eI 1 v xs.length (xs.map enc)) (hl : xs.length ≤ 140737488355328) : Rd 1 (scR enc) w v xs := by
  rcases h.2 with ⟨rfl, h0⟩ | ⟨gg, cap, cur, rfl, _, _, hc, _⟩
  · exact ⟨none, 0, by rw [h0], by omega, hl, fun i hi => absurd hi (by omega)⟩
  · refine ⟨_, cap, rfl, hc, hl, fun i hi => ⟨_, _, rfl, rfl, rfl, fun j u hu => ?_⟩⟩
    match j, hu with
    | 0, hu =>
      simp at hu; subst hu
      rw [add_plain, Nat.add_zero, Nat.mul_one, h.cellAt i (by omega)]
      simp [hi]

theorem cloneM_any (w : World) (v : Value) (M : List Nat) (hv : RdMk w v M) :
    Calls Try.prog 86 #[v] w (Ret fun r w' => w'.ownsRow w.heap.size 33 1 r M.length (marksV M) ∧ Below w.heap.size w w') := by
  obtain ⟨A, c, rfl, hc, hb, hr⟩ := hv
  have hne := @Lib.run_eql_slice_nil Try.prog
  obtain ⟨i0, hi, hz0, hz1, hz2⟩ := info_parts infoM
  refine post_gen fun Q HQ => ?_
  cases A with
  | none =>
    have hM : M.length = 0 := by
      rcases Nat.eq_zero_or_pos M.length with h | h
      · exact h
      · obtain ⟨ad, _, h1, _⟩ := hr 0 h; cases h1
    have HM := hid (List.eq_nil_of_length_eq_zero hM)
    have hM0 : M.length ≤ 0 := by omega
    clear hM hr
    generalize hL : M.length = L at *
    have HL := hid hL
    clear hL
    go_enter Try.func86, Try.ntmps86
    go_wp2
    go_ret
    exact Fin HQ ⟨by rw [HM.out]; rw [HM.out] at HL; obtain rfl : 0 = L := HL.out; exact World.ownsRow_nil _ _ _ _, ext_refl _⟩
  | some ad =>
    have hn : ∀ (W : World), Below w.heap.size w W → ∀ j u, (marksV M)[j]? = some u → W.cell? (ad.add j) = some u := by
      intro W hW j u hj
      obtain ⟨hjl, rfl⟩ := List.getElem?_eq_some_iff.1 hj
      simp only [marksV, List.length_map] at hjl
      obtain ⟨ad', e, h1⟩ := hr.at1 hjl
      cases e
      have := cell_ext hW h1
      simpa [marksV] using this
    have Hn := hid hn
    clear hn hr
    go_enter Try.func86, Try.ntmps86
    go_wp2_with (at_builtin; refine wpList_append_own _ rfl _ _ 28 rfl w.heap.size 33 i0 (.int .u8 0) 1 1 Try.underlying28 hi hz0 hz1 hz2 rfl (by decide) _ 0 [] rfl (World.ownsRow_made w #[] 0 (Nat.le_refl _) (by unfold maxLen; omega) rfl) ad M.length c (marksV M) rfl (by simp) (Hn.out _ (ext_alloc _ _)) ?c1 ?c2 ?c3 ?c4 ?_)
    case c1 => intro u hu; obtain ⟨x, _, rfl⟩ := List.mem_map.1 hu; rfl
    case c2 => unfold maxLen; omega
    case c3 => omega
    case c4 => simp
    intro v' w1 hown hgrow _
    go_wp2
    go_ret
    refine Fin HQ ⟨by simpa using hown, ?_⟩
    exact ((ext_alloc w _).grown hgrow (by simp) (fun k hk => by simp [Value.ownBlock] at hk; omega))
end Go.Proofs.Lx

namespace Go.Proofs.Lx
open Go Go.RowKit
set_option linter.unusedSimpArgs false
set_option linter.unusedVariables false

theorem own_set {w : World} {base e n g cap : Nat} {xs : List Value} (h : w.ownsRow base e 1 (.slice (some ⟨g, 0, none⟩) n cap) n xs) (i : Nat) (u : Value) :
    (w.setCell ⟨g, i, none⟩ u).ownsRow base e 1 (.slice (some ⟨g, 0, none⟩) n cap) n (xs.set i u) := by
  obtain ⟨h0, h1⟩ := h
  refine ⟨by simpa using h0, ?_⟩
  rcases h1 with ⟨h1, _⟩ | ⟨gg, cp, cur, h1, h2, h3, h4, h5, h6, h7⟩
  · cases h1
  · cases h1
    right
    refine ⟨g, cap, cur.setIfInBounds i u, rfl, h2, ?_, h4, h5, by simpa using h6, ?_⟩
    · rw [heap_setCell_same w g i _ e _ h3]
    · rw [← h7]; simp [List.take_set]
theorem own_free {w : World} {base e n g cap : Nat} {xs : List Value} (h : w.ownsRow base e 1 (.slice (some ⟨g, 0, none⟩) n cap) n xs) (i : Nat) : w.frozen? ⟨g, i, none⟩ = false := by
  rcases h.2 with ⟨h1, _⟩ | ⟨gg, cp, cur, h1, h2, h3, h4, h5, h6, h7⟩
  · cases h1
  · cases h1; exact frozen_of_row w g i cur e h3
theorem own_at {w : World} {base e n : Nat} {v : Value} {xs : List Value} (h : w.ownsRow base e 1 v n xs) {i : Nat} (hi : i < n) (hx : i < xs.length) : ∃ g cap, v = .slice (some ⟨g, 0, none⟩) n cap ∧ base ≤ g ∧ w.cell? ⟨g, i, none⟩ = some xs[i] := by
  rcases h.2 with ⟨h1, h2⟩ | ⟨gg, cp, cur, h1, h2, h3, h4, h5, h6, h7⟩
  · omega
  · subst h1
    exact ⟨gg, cp, rfl, h2, by rw [h.cellAt i (by omega)]; simp [hx]⟩

theorem conds_plain (w : World) : Calls Try.prog 60 #[] w (Ret fun v w' => v = .agg #[.func (.func 88) #[] #[], .func (.func 89) #[] #[], .func (.func 90) #[] #[], .func (.func 91) #[] #[]] ∧ Below w.heap.size w w') := by
  refine post_gen fun Q HQ => ?_
  go_enter Try.func60, Try.ntmps60
  have hsf : ∀ (a : Addr) (g : Fn) (W : World), Sem.run Try.prog (store a (.func g #[] #[]) .plain) W = stored Try.prog W a (.func g #[] #[]) .plain := fun a g W => run_store Try.prog W a _ _ rfl
  go_wp2
  go_returns
  exact Fin HQ ⟨rfl, ext_alloc _ _⟩


theorem eqM_any (w : World) (v1 v2 : Value) (X Y : List Nat) (h1 : RdMk w v1 X) (h2 : RdMk w v2 Y) :
    Calls Try.prog 85 #[v1, v2] w (Ret fun v w' => v = .bool (decide (X = Y)) ∧ Below w.heap.size w w') := by
  obtain ⟨A, c, rfl, hc, hb, hr⟩ := h1
  obtain ⟨B, d, rfl, hd, hb2, hr2⟩ := h2
  refine post_gen fun Q HQ => ?_
  go_enter Try.func85, Try.ntmps85
  by_cases hl : X.length = Y.length
  case neg =>
    have hb : ((X.length : Int) != (Y.length : Int)) = true := by simp [bne]; omega
    go_wp2
    go_ret
    exact Fin HQ ⟨by rw [decide_eq_false (fun e => hl (by rw [e]))]; rfl, ext_refl _⟩
  have hb3 : ((X.length : Int) != (Y.length : Int)) = false := by simp [bne]; omega
  go_wp2
  go_loopw [13] (fun v13 wr => ∃ k : Nat, k ≤ X.length ∧ v13 = .int .i64 k ∧ Hid (∀ i, i < k → X[i]? = Y[i]?) ∧ Below w.heap.size w wr) (fun v13 _ => X.length - (intOf v13).toNat)
  case atStart => exact ⟨0, Nat.zero_le _, rfl, fun i hi => absurd hi (by omega), ext_refl _⟩
  case round =>
    obtain ⟨k, hk, rfl, hno, hbl⟩ := hrel
    by_cases hlt : k < X.length
    · obtain ⟨ad, rfl, c1⟩ := (hr.ext (scR_mono _) hbl).at1 hlt
      obtain ⟨ad2, rfl, c2⟩ := (hr2.ext (scR_mono _) hbl).at1 (show k < Y.length by omega)
      by_cases he : X[k] = Y[k]
      · have hb4 : ((X[k] : Int) != (Y[k] : Int)) = false := by rw [he]; simp
        go_wp2
        go_quiet (fail)
        go_wp2
        go_roundw
        case rel =>
          refine ⟨k + 1, by omega, by (try simp), ?_, below_drewN hbl _⟩
          intro i hi
          by_cases e : i = k
          · subst e; rw [List.getElem?_eq_getElem hlt, List.getElem?_eq_getElem (by omega), he]
          · exact hno.out i (by omega)
        case measure => simp [intOf]; omega
      · have hb4 : ((X[k] : Int) != (Y[k] : Int)) = true := by simp [bne]; omega
        go_wp2
        go_quiet (fail)
        go_wp2
        go_ret
        have hne : decide (X = Y) = false := decide_eq_false (fun e => he (by subst e; rfl))
        exact Fin HQ ⟨by rw [hne]; rfl, below_drewN hbl _⟩
    · obtain rfl : k = X.length := by omega
      go_wp2
      go_ret
      have heq : X = Y := by
        apply List.ext_getElem?
        intro i
        by_cases hi : i < X.length
        · exact hno.out i hi
        · rw [List.getElem?_eq_none (by omega), List.getElem?_eq_none (by omega)]
      exact Fin HQ ⟨by rw [decide_eq_true heq]; rfl, hbl⟩
end Go.Proofs.Lx
