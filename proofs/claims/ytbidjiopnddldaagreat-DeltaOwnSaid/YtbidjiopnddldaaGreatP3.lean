/- Parts of the proof: Tb, Va, Vr. Plain: the steps of the walk that finds strongly connected parts (continued). No program here. -/
import Derived.Test.YtbidjiopnddldaaGreatP2
import Derived.RegionTactic
import Derived.Deep.RegionLaw
import Derived.Deep.DeepCutAuto
namespace Go.Proofs.Tj
section
variable {n : Nat} {adj : Nat → List Nat} {gs : List Nat} {v : Nat} {s c : TS} {j : Nat}

theorem LI.v_stk (h : LI n adj gs v s j c) : v ∈ c.stk := h.inv.gs_stk v List.mem_cons_self
theorem LI.idx_ne (h : LI n adj gs v s j c) : c.idx v ≠ 0 := by rw [h.iv]; omega
/-- What stands lower on the stack has been there from the beginning. -/
theorem LI.lower (h : LI n adj gs v s j c) {y : Nat} (hy : y ∈ c.stk) (hlt : c.idx y < c.idx v) : y ∈ s.stk := by
 obtain ⟨xs, hs, hx, _⟩ := h.stk
 have hp := h.inv.sorted
 rw [hs] at hy hp
 rcases List.mem_append.1 hy with h1 | h1
 ·exact h1
 ·rcases List.mem_cons.1 h1 with h2 | h2
  ·subst h2; omega
  ·rw [List.pairwise_append] at hp
   have := List.rel_of_pairwise_cons hp.2.1 h2
   omega

theorem LI.stepC (h : LI n adj gs v s j c) (hj : j < (adj v).length) (hv : c.idx (adj v)[j] ≠ 0) (ho : c.on (adj v)[j] = false) : LI n adj gs v s (j + 1) c := by
 refine { h with succ := fun i hi hij => ?_ }
 by_cases e : i = j
 ·subst e
  refine ⟨hv, fun hm => ?_⟩
  obtain ⟨xs, hs, _⟩ := h.stk
  have : (adj v)[i] ∈ c.stk := by rw [hs]; exact List.mem_append_left _ hm
  rw [← h.inv.on_iff, ho] at this; cases this
 ·exact h.succ i hi (by omega)

theorem LI.stepB (h : LI n adj gs v s j c) (hj : j < (adj v).length) (hv : c.idx (adj v)[j] ≠ 0) (ho : c.on (adj v)[j] = true) :
  LI n adj gs v s (j + 1) (setLow c v (min (c.low v) (c.idx (adj v)[j]))) := by
 have hws : (adj v)[j] ∈ c.stk := (h.inv.on_iff _).1 ho
 have hl : (setLow c v (min (c.low v) (c.idx (adj v)[j]))).low v = min (c.low v) (c.idx (adj v)[j]) := upd_same _ _ _
 obtain ⟨xs, hs, hx, hxe⟩ := h.stk
 refine ⟨h.inv.setLow _ _, h.reach, h.sv, h.iv, h.sle, fun x hx => ?_, h.grow, ⟨xs, hs, hx, fun x hx y hy he => ?_⟩, h.svis, h.sgs, ?_, ?_, fun i hi hij => ?_⟩
 ·have : x ≠ v := fun e => hx (e ▸ h.sv)
  exact ⟨(h.old x hx).1, (upd_ne this).trans (h.old x hx).2⟩
 ·rw [hl]; exact Nat.le_trans (Nat.min_le_left _ _) (hxe x hx y hy he)
 ·rw [hl]; exact Nat.le_trans (Nat.min_le_left _ _) h.low_le
 ·rw [hl]
  show min (c.low v) (c.idx (adj v)[j]) = c.idx v ∨ _
  rcases min_cases (c.low v) (c.idx (adj v)[j]) with ⟨e, _⟩ | ⟨e, hlt⟩
  ·rw [e]; exact h.low
  ·rw [e]
   have h1 := h.low_le
   have hsw := h.lower hws (by omega)
   exact .inr ⟨(adj v)[j], hsw, ((h.old _ (h.svis _ hsw)).1).symm, .edge (List.getElem_mem hj)⟩
 ·rw [hl]
  show c.idx _ ≠ 0 ∧ _
  by_cases e : i = j
  ·subst e
   exact ⟨hv, fun hm => by rw [← (h.old _ (h.svis _ hm)).1]; exact Nat.min_le_right _ _⟩
  ·have := h.succ i hi (by omega)
   exact ⟨this.1, fun hm => Nat.le_trans (Nat.min_le_left _ _) (this.2 hm)⟩

theorem LI.stepA (h : LI n adj gs v s j c) (hj : j < (adj v).length) {c1 : TS} (hw : c.idx (adj v)[j] = 0) (hp : Post n adj (v :: gs) (adj v)[j] c c1) :
  LI n adj gs v s (j + 1) (setLow c1 v (min (c1.low v) (c1.low (adj v)[j]))) := by
 have hvn := h.idx_ne
 have hvo := hp.old v hvn
 have hl : (setLow c1 v (min (c1.low v) (c1.low (adj v)[j]))).low v = min (c1.low v) (c1.low (adj v)[j]) := upd_same _ _ _
 have hold : ∀ x, s.idx x ≠ 0 → c1.idx x = s.idx x ∧ c1.low x = s.low x := fun x hx => by
  obtain ⟨e1, e2⟩ := h.old x hx
  obtain ⟨e3, e4⟩ := hp.old x (by rw [e1]; exact hx)
  exact ⟨e3.trans e1, e4.trans e2⟩
 obtain ⟨xs, hs, hx, hxe⟩ := h.stk
 obtain ⟨ys, hs1, hy, hcase, hye⟩ := hp.ext
 have hsc : ∀ y ∈ s.stk, y ∈ c.stk := fun y hy => by rw [hs]; exact List.mem_append_left _ hy
 have hzero : ∀ x, c.idx x = 0 → s.idx x = 0 := fun x hx => by
  by_cases e : s.idx x = 0
  ·exact e
  ·rw [(h.old x e).1] at hx; exact hx
 refine ⟨hp.inv.setLow _ _, h.reach, h.sv, hvo.1.trans h.iv, h.sle, fun x hx => ?_, Nat.lt_trans h.grow hp.grow, ⟨xs ++ ys, ?_, ?_, ?_⟩, h.svis, h.sgs, ?_, ?_, fun i hi hij => ?_⟩
 ·have : x ≠ v := fun e => hx (e ▸ h.sv)
  exact ⟨(hold x hx).1, (upd_ne this).trans (hold x hx).2⟩
 ·show c1.stk = _
  rw [hs1, hs]; simp
 ·intro x hm
  rcases List.mem_append.1 hm with hm | hm
  ·exact hx x hm
  ·exact hzero x (hy x hm)
 ·intro x hm y hys he
  rw [hl]
  rcases List.mem_append.1 hm with hm | hm
  ·exact Nat.le_trans (Nat.min_le_left _ _) (by rw [hvo.2]; exact hxe x hm y hys he)
  ·refine Nat.le_trans (Nat.min_le_right _ _) ?_
   rw [← (h.old y (h.svis y hys)).1]
   exact hye x hm y (hsc y hys) he
 ·rw [hl]
  show _ ≤ c1.idx v
  rw [hvo.1]
  exact Nat.le_trans (Nat.min_le_left _ _) (by rw [hvo.2]; exact h.low_le)
 ·rw [hl]
  show min (c1.low v) (c1.low (adj v)[j]) = c1.idx v ∨ _
  rw [hvo.1, hvo.2]
  rcases min_cases (c.low v) (c1.low (adj v)[j]) with ⟨e, _⟩ | ⟨e, hlt⟩
  ·rw [e]; exact h.low
  ·rw [e]
   have h1 := h.low_le
   rcases hcase with ⟨_, h2⟩ | ⟨_, y, hyc, hye, hyr⟩
   ·exfalso
    have h3 := hp.iv
    have h4 := h.inv.idx_le v
    omega
   ·have hys := h.lower hyc (by omega)
    exact .inr ⟨y, hys, by rw [← (h.old y (h.svis y hys)).1]; exact hye, (Leads.edge (List.getElem_mem hj)).trans hyr⟩
 ·rw [hl]
  show c1.idx _ ≠ 0 ∧ _
  by_cases e : i = j
  ·subst e
   refine ⟨hp.vis, fun hm => ?_⟩
   exact absurd (hzero _ hw) (h.svis _ hm)
  ·have := h.succ i hi (by omega)
   refine ⟨by rw [(hp.old _ this.1).1]; exact this.1, fun hm => Nat.le_trans (Nat.min_le_left _ _) (by rw [hvo.2]; exact this.2 hm)⟩

theorem LI.keep (h : LI n adj gs v s (adj v).length c) (hne : c.low v ≠ c.idx v) : Post n adj gs v s c := by
 have hlt : c.low v < c.idx v := by have := h.low_le; omega
 obtain ⟨y0, hy0, hy0l, hy0r⟩ := h.low.resolve_left hne
 obtain ⟨xs, hs, hx, hxe⟩ := h.stk
 have hsc : ∀ y ∈ s.stk, y ∈ c.stk := fun y hy => by rw [hs]; exact List.mem_append_left _ hy
 have hi := h.inv
 have hy0i : c.idx y0 = s.idx y0 := (h.old y0 (h.svis y0 hy0)).1
 -- a gray one below v
 obtain ⟨g0, hg0, hg0l, hg0r⟩ := hi.r2 y0 (hsc y0 hy0)
 have hg0v : g0 ≠ v := fun e => by subst e; omega
 have hg0g : g0 ∈ gs := (List.mem_cons.1 hg0).resolve_left hg0v
 refine ⟨⟨hi.idx_le, hi.idx_inj, hi.vis_lt, hi.cnt_eq, hi.sorted, hi.stk_vis, hi.on_iff, fun g hg => hi.gs_stk g (List.mem_cons_of_mem _ hg), hi.r1, ?_, hi.b1, hi.b2, hi.b3, ?_, hi.kn_le⟩, h.iv, h.old, h.grow, ⟨v :: xs, hs, ?_, .inr ⟨hlt, y0, hy0, hy0l, hy0r⟩, ?_⟩⟩
 ·intro y hy
  obtain ⟨g, hg, hgl, hgr⟩ := hi.r2 y hy
  rcases List.mem_cons.1 hg with e | hg
  ·subst e
   exact ⟨g0, hg0g, by omega, (hgr.trans hy0r).trans hg0r⟩
  ·exact ⟨g, hg, hgl, hgr⟩
 ·intro x hx hxg y hy
  by_cases e : x = v
  ·subst e
   obtain ⟨i, hi2, rfl⟩ := List.getElem_of_mem hy
   exact (h.succ i hi2 hi2).1
  ·exact hi.bl x hx (fun hm => (List.mem_cons.1 hm).elim e hxg) y hy
 ·intro x hm
  rcases List.mem_cons.1 hm with e | hm
  ·rw [e]; exact h.sv
  ·exact hx x hm
 ·intro x hm y hy he
  rcases List.mem_cons.1 hm with e | hm
  ·subst e
   obtain ⟨i, hi2, rfl⟩ := List.getElem_of_mem he
   exact (h.succ i hi2 hi2).2 hy
  ·exact hxe x hm y hy he

/-- The walk with zs off the stack, in a part of their own. -/
def offs (c : TS) (ys zs : List Nat) : TS := { c with on := fun x => if x ∈ zs then false else c.on x, of := fun x => if x ∈ zs then c.kn else c.of x, stk := ys }
def popped (c : TS) (ys zs : List Nat) : TS := { offs c ys zs with kn := c.kn + 1 }

theorem LI.pop (h : LI n adj gs v s (adj v).length c) (he : c.low v = c.idx v) {xs : List Nat} (hs : c.stk = s.stk ++ v :: xs) : Post n adj gs v s (popped c s.stk (v :: xs)) := by
 obtain ⟨xs', hs', hx, hxe⟩ := h.stk
 have exs : xs' = xs := by
  have := hs'.symm.trans hs
  have := List.append_cancel_left this
  injection this
 subst exs
 have hsc : ∀ y ∈ s.stk, y ∈ c.stk := fun y hy => by rw [hs]; exact List.mem_append_left _ hy
 have hC : ∀ y, y ∈ v :: xs' → y ∈ c.stk := fun y hy => by rw [hs]; exact List.mem_append_right _ hy
 have hi := h.inv
 have hCs : ∀ y, y ∈ v :: xs' → s.idx y = 0 := fun y hy => (List.mem_cons.1 hy).elim (fun e => e ▸ h.sv) (hx y)
 have hdis : ∀ y, y ∈ v :: xs' → y ∉ s.stk := fun y hy hm => h.svis y hm (hCs y hy)
 have hvle : ∀ y, y ∈ v :: xs' → c.idx v ≤ c.idx y := fun y hy => by
  have hp := hi.sorted
  rw [hs, List.pairwise_append] at hp
  rcases List.mem_cons.1 hy with e | hm
  ·rw [e]; exact Nat.le_refl _
  ·exact Nat.le_of_lt (List.rel_of_pairwise_cons hp.2.1 hm)
 have hslt : ∀ y ∈ s.stk, c.idx y < c.idx v := fun y hy => by
  have hp := hi.sorted
  rw [hs, List.pairwise_append] at hp
  exact hp.2.2 y hy v List.mem_cons_self
 -- all of the part reach v, and v them
 have hto : ∀ y, y ∈ v :: xs' → Leads adj v y := fun y hy => hi.r1 v (h.v_stk) y (hC y hy) (hvle y hy)
 have hfrom : ∀ y, y ∈ v :: xs' → Leads adj y v := fun y hy => by
  obtain ⟨g, hg, _, hgr⟩ := hi.r2 y (hC y hy)
  rcases List.mem_cons.1 hg with e | hg
  ·exact e ▸ hgr
  ·exact hgr.trans (h.reach g hg)
 -- nothing leads from it to the elder ones on the stack
 have hout : ∀ x, x ∈ v :: xs' → ∀ y ∈ adj x, c.idx y ≠ 0 ∧ y ∉ s.stk := fun x hm y hy => by
  have hvis : c.idx y ≠ 0 := by
   by_cases e : x = v
   ·subst e
    obtain ⟨i, hi2, rfl⟩ := List.getElem_of_mem hy
    exact (h.succ i hi2 hi2).1
   ·refine hi.bl x (hi.stk_vis x (hC x hm)) (fun hg => ?_) y hy
    rcases List.mem_cons.1 hg with e' | hg
    ·exact e e'
    ·exact hdis x hm (h.sgs x hg)
  refine ⟨hvis, fun hys => ?_⟩
  have h1 := hslt y hys
  have h2 := (h.old y (h.svis y hys)).1
  by_cases e : x = v
  ·subst e
   obtain ⟨i, hi2, rfl⟩ := List.getElem_of_mem hy
   have := (h.succ i hi2 hi2).2 hys
   omega
  ·have := hxe x ((List.mem_cons.1 hm).resolve_left e) y hys hy
   omega
 -- what was off the stack before leads to nothing on it
 have hclosed : ∀ x y, Leads adj x y → c.idx x ≠ 0 → x ∉ c.stk → c.idx y ≠ 0 ∧ y ∉ c.stk := fun x y hr h1 h2 => by
  induction hr with
  | refl => exact ⟨h1, h2⟩
  | step _ hz ih => exact hi.b1 _ ih.1 ih.2 _ hz
 have hstk : ∀ x, x ∉ s.stk → x ∈ v :: xs' ∨ x ∉ c.stk := fun x hx => by
  by_cases e : x ∈ v :: xs'
  ·exact .inl e
  ·exact .inr (by rw [hs]; exact fun hm => (List.mem_append.1 hm).elim hx e)
 have hof : ∀ x, (popped c s.stk (v :: xs')).of x = if x ∈ v :: xs' then c.kn else c.of x := fun x => rfl
 refine ⟨⟨hi.idx_le, hi.idx_inj, hi.vis_lt, hi.cnt_eq, ?_, fun x hx => hi.stk_vis x (hsc x hx), ?_, h.sgs, fun x hx y hy => hi.r1 x (hsc x hx) y (hsc y hy), ?_, ?_, ?_, ?_, ?_, ?_⟩, h.iv, h.old, h.grow, ⟨[], by simp [popped, offs], by simp, .inl ⟨rfl, he⟩, by simp⟩⟩
 ·have hp := hi.sorted
  rw [hs, List.pairwise_append] at hp
  exact hp.1
 ·intro x
  show (if x ∈ v :: xs' then false else c.on x) = true ↔ x ∈ s.stk
  by_cases e : x ∈ v :: xs'
  ·rw [if_pos e]; simp only [Bool.false_eq_true, false_iff]; exact hdis x e
  ·rw [if_neg e, hi.on_iff, hs, List.mem_append]; simp only [e, or_false]
 ·intro y hy
  obtain ⟨g, hg, hgl, hgr⟩ := hi.r2 y (hsc y hy)
  rcases List.mem_cons.1 hg with e | hg
  ·subst e; have := hslt y hy; change c.idx g ≤ c.idx y at hgl; omega
  ·exact ⟨g, hg, hgl, hgr⟩
 ·intro x hx hxs y hy
  rcases hstk x hxs with hm | hm
  ·exact hout x hm y hy
  ·obtain ⟨h1, h2⟩ := hi.b1 x hx hm y hy
   exact ⟨h1, fun hm => h2 (hsc y hm)⟩
 ·intro x y hx hxs hy hys
  rw [hof, hof]
  rcases hstk x hxs with hmx | hmx <;> rcases hstk y hys with hmy | hmy
  ·rw [if_pos hmx, if_pos hmy]
   simp only [true_iff]
   exact ⟨(hfrom x hmx).trans (hto y hmy), (hfrom y hmy).trans (hto x hmx)⟩
  ·rw [if_pos hmx, if_neg (fun e => hmy (hC y e))]
   have := hi.b3 y hy hmy
   constructor
   ·intro e; omega
   ·rintro ⟨_, h2⟩
    exact absurd (hC x hmx) (hclosed y x h2 hy hmy).2
  ·rw [if_neg (fun e => hmx (hC x e)), if_pos hmy]
   have := hi.b3 x hx hmx
   constructor
   ·intro e; omega
   ·rintro ⟨h1, _⟩
    exact absurd (hC y hmy) (hclosed x y h1 hx hmx).2
  ·rw [if_neg (fun e => hmx (hC x e)), if_neg (fun e => hmy (hC y e))]
   exact hi.b2 x y hx hmx hy hmy
 ·intro x hx hxs
  rw [hof]
  show _ < c.kn + 1
  rcases hstk x hxs with hm | hm
  ·rw [if_pos hm]; omega
  ·rw [if_neg (fun e => hm (hC x e))]
   have := hi.b3 x hx hm
   omega
 ·intro x hx hxg y hy
  by_cases e : x ∈ v :: xs'
  ·exact (hout x e y hy).1
  ·refine hi.bl x hx (fun hg => ?_) y hy
   rcases List.mem_cons.1 hg with e' | hg
   ·exact e (e' ▸ List.mem_cons_self)
   ·exact hxg hg
 ·have := hi.kn_le
  rw [hs] at this
  show c.kn + 1 + s.stk.length ≤ c.cnt
  simp at this; omega

/-- At the beginning. -/
def blank : TS := ⟨fun _ => 0, fun _ => 0, fun _ => false, fun _ => 0, [], 0, 0⟩
theorem inv_blank (n : Nat) (adj : Nat → List Nat) : Inv n adj [] blank := by
 refine ⟨?_, ?_, ?_, ?_, ?_, ?_, ?_, ?_, ?_, ?_, ?_, ?_, ?_, ?_, ?_⟩ <;> simp [blank, visN]
theorem inv_empty {n : Nat} {adj : Nat → List Nat} {s : TS} (h : Inv n adj [] s) : s.stk = [] := by
 cases hs : s.stk with
 | nil => rfl
 | cons x l =>
  obtain ⟨g, hg, _⟩ := h.r2 x (by rw [hs]; exact List.mem_cons_self)
  cases hg
end
end Go.Proofs.Tj

namespace Go.Proofs.Lx
open Go Go.RowKit Go.Proofs.Tj
set_option linter.unusedSimpArgs false
set_option linter.unusedVariables false

def tab {α : Type} (n : Nat) (f : Nat → α) : List α := (List.range n).map f
theorem tab_length {α : Type} (n : Nat) (f : Nat → α) : (tab n f).length = n := by simp [tab]
theorem tab_at {α : Type} {n : Nat} {f : Nat → α} {i : Nat} (h : i < n) : (tab n f)[i]'(by rw [tab_length]; exact h) = f i := by simp [tab]
theorem tab_set {α : Type} (n : Nat) (f : Nat → α) (i : Nat) (x : α) : (tab n f).set i x = tab n (upd f i x) := by
  apply List.ext_getElem
  · simp [tab]
  · intro j h1 h2
    rw [tab_length] at h2
    rw [List.getElem_set, tab_at h2]
    by_cases e : i = j
    · subst e; rw [if_pos rfl, tab_at h2, upd_same]
    · rw [if_neg e, tab_at h2, upd_ne (Ne.symm e)]

/-- append to a row of the call's own, as one step of a region that draws. -/
theorem step_append_own {P : Program} {ops : Array Oper} {o : Oper} {a : Act} {w : World} {K : Act → World → Prop} {Q : Exit → Act → World → Prop} {E : Prop}
    (hgd : o.guard = none) (s x : Operand) (t : TypeId)
    (ho : o.op = .call { callee := .builtin .append, args := #[s, x], argTypes := #[t, t] })
    (base : Nat) (e : TypeId) (z : Value) (bytes : Nat) (ht : P.underlying t = some (.slice e)) (hinfo : (P.info? e).map (fun i => (i.zero, i.size, i.bytes)) = some (some z, 1, bytes)) (hz : z.cells.size = 1)
    (v : Value) (n : Nat) (xs : List Value) (hs : a.eval s = v) (hown : w.ownsRow base e 1 v n xs)
    (ad : Addr) (y : Value) (hx : a.eval x = .slice (some ad) 1 1) (hnew : w.cell? ad = some y) (h1 : y.oneCell' = true)
    (h63 : n + 1 ≤ maxLen) (hbytes : (n + 1) * bytes ≤ 140737488355328) (hbase : base ≤ w.heap.size)
    (h : ∀ v' w', w'.ownsRow base e 1 v' (n + 1) (xs ++ [y]) → w.grownBy w' v.ownBlock → K (a.put o.dst v') w') :
    if Region.wanted o (yielded ops a.tmps) = true then Oper.wp P o a w K Q else E := by
  rw [if_pos (by simp [Region.wanted, hgd])]
  obtain ⟨i, hi, hz0, hz1, hz2⟩ := info_parts hinfo
  refine wp_append_own w s x t ho base e i z 1 bytes ht hi hz0 hz1 hz2 hz (by omega) v n xs hs hown ad 1 1 [y] hx rfl ?_ ?_ h63 hbytes hbase ?_
  · intro j u hj
    match j, hj with
    | 0, hj => simp at hj; subst hj; rw [add_zero]; exact hnew
  · intro u hu; simp at hu; subst hu; exact h1
  · intro v' w' h2 h3 _; exact h v' w' h2 h3

structure KN (W0 : World) (n : Nat) (fv : Value) (b gI gL gO gF base : Nat) (s : TS) (sv : Value) (w : World) : Prop where
  blk : w.heap[b]? = some (.cells #[fv, .slice (some ⟨gI, 0, none⟩) n n, .slice (some ⟨gL, 0, none⟩) n n, .slice (some ⟨gO, 0, none⟩) n n, sv, .slice (some ⟨gF, 0, none⟩) n n, .int .i64 s.cnt, .int .i64 s.kn] 146 (0, 0))
  aI : Arr (fun x : Nat => Value.int .i64 (x : Int)) 3 w gI (tab n s.idx)
  aL : Arr (fun x : Nat => Value.int .i64 (x : Int)) 3 w gL (tab n s.low)
  aO : Arr Value.bool 4 w gO (tab n s.on)
  aF : Arr (fun x : Nat => Value.int .i64 (x : Int)) 3 w gF (tab n s.of)
  stk : w.ownsRow base 3 1 sv s.stk.length (s.stk.map fun (x : Nat) => Value.int .i64 (x : Int))
  old : Below W0.heap.size W0 w
  hb : W0.heap.size ≤ b ∧ b < base
  hI : W0.heap.size ≤ gI ∧ gI < base
  hL : W0.heap.size ≤ gL ∧ gL < base
  hO : W0.heap.size ≤ gO ∧ gO < base
  hF : W0.heap.size ≤ gF ∧ gF < base
  hbase : base ≤ w.heap.size
  d1 : gI ≠ gL ∧ gI ≠ gO ∧ gI ≠ gF ∧ gI ≠ b
  d2 : gL ≠ gO ∧ gL ≠ gF ∧ gL ≠ b
  d3 : gO ≠ gF ∧ gO ≠ b ∧ gF ≠ b
/-- The parts' numbers, in memory. -/
theorem KN.cell {W0 : World} {n : Nat} {fv : Value} {b gI gL gO gF base : Nat} {s : TS} {sv : Value} {w : World} (h : KN W0 n fv b gI gL gO gF base s sv w) (i : Nat) :
    w.cell? ⟨b, i, none⟩ = (#[fv, .slice (some ⟨gI, 0, none⟩) n n, .slice (some ⟨gL, 0, none⟩) n n, .slice (some ⟨gO, 0, none⟩) n n, sv, .slice (some ⟨gF, 0, none⟩) n n, .int .i64 s.cnt, .int .i64 s.kn] : Array Value)[i]? := cell_of_row w b i _ _ _ h.blk
theorem KN.free {W0 : World} {n : Nat} {fv : Value} {b gI gL gO gF base : Nat} {s : TS} {sv : Value} {w : World} (h : KN W0 n fv b gI gL gO gF base s sv w) (i : Nat) :
    w.frozen? ⟨b, i, none⟩ = false := frozen_of_row w b i _ _ h.blk

section
variable {W0 : World} {n : Nat} {fv : Value} {b gI gL gO gF base : Nat} {s : TS} {sv : Value} {w : World}
theorem KN.own_ne (h : KN W0 n fv b gI gL gO gF base s sv w) {g : Nat} (hg : g < base) : sv.ownBlock ≠ some g := fun e => by
  have := own_base' h.stk g e
  omega
where own_base' {w : World} {base : Nat} {e : TypeId} {size n : Nat} {v : Value} {xs : List Value} (h : w.ownsRow base e size v n xs) (k : Nat) (hk : v.ownBlock = some k) : base ≤ k := (h.lt k hk).1
theorem KN.drew (h : KN W0 n fv b gI gL gO gF base s sv w) : KN W0 n fv b gI gL gO gF base s sv w.drew :=
  ⟨h.blk, h.aI, h.aL, h.aO, h.aF, h.stk, h.old.drew, h.hb, h.hI, h.hL, h.hO, h.hF, h.hbase, h.d1, h.d2, h.d3⟩
theorem KN.drewN (h : KN W0 n fv b gI gL gO gF base s sv w) (m : Nat) : KN W0 n fv b gI gL gO gF base s sv (w.drewN m) := by
  induction m with
  | zero => exact h
  | succ m ih => rw [← World.drew_drewN]; exact ih.drew
theorem KN.ext (h : KN W0 n fv b gI gL gO gF base s sv w) {w' : World} (hb : Below w.heap.size w w') : KN W0 n fv b gI gL gO gF base s sv w' :=
  ⟨(hb.block b (lt_of_block h.blk)).trans h.blk, h.aI.ext hb, h.aL.ext hb, h.aO.ext hb, h.aF.ext hb,
    h.stk.kept (row := none) ⟨hb.os, hb.tape, hb.output, hb.size, fun k hk _ => hb.block k hk⟩ (by cases sv.ownBlock <;> simp), h.old.trans (hb.mono h.old.size), h.hb, h.hI, h.hL, h.hO, h.hF, Nat.le_trans h.hbase hb.size, h.d1, h.d2, h.d3⟩
theorem KN.alloc (h : KN W0 n fv b gI gL gO gF base s sv w) (o : Obj) : KN W0 n fv b gI gL gO gF base s sv (w.alloc o) := h.ext (ext_alloc w o)
theorem KN.put_cnt (h : KN W0 n fv b gI gL gO gF base s sv w) (c : Nat) : KN W0 n fv b gI gL gO gF base { s with cnt := c } sv (w.setCell ⟨b, 6, none⟩ (.int .i64 (c : Int))) := by
  obtain ⟨d11, d12, d13, d14⟩ := h.d1
  obtain ⟨d21, d22, d23⟩ := h.d2
  obtain ⟨d31, d32, d33⟩ := h.d3
  refine ⟨?_, h.aI.other d14 _, h.aL.other d23 _, h.aO.other d32 _, h.aF.other d33 _, ownsRow_setCell_other h.stk (h.own_ne h.hb.2) _, h.old.setCell h.hb.1 _, h.hb, h.hI, h.hL, h.hO, h.hF, by simp only [World.size_setCell]; exact h.hbase, h.d1, h.d2, h.d3⟩
  rw [heap_setCell_same w b 6 _ _ _ h.blk]; simp
theorem KN.put_kn (h : KN W0 n fv b gI gL gO gF base s sv w) (c : Nat) : KN W0 n fv b gI gL gO gF base { s with kn := c } sv (w.setCell ⟨b, 7, none⟩ (.int .i64 (c : Int))) := by
  obtain ⟨d11, d12, d13, d14⟩ := h.d1
  obtain ⟨d21, d22, d23⟩ := h.d2
  obtain ⟨d31, d32, d33⟩ := h.d3
  refine ⟨?_, h.aI.other d14 _, h.aL.other d23 _, h.aO.other d32 _, h.aF.other d33 _, ownsRow_setCell_other h.stk (h.own_ne h.hb.2) _, h.old.setCell h.hb.1 _, h.hb, h.hI, h.hL, h.hO, h.hF, by simp only [World.size_setCell]; exact h.hbase, h.d1, h.d2, h.d3⟩
  rw [heap_setCell_same w b 7 _ _ _ h.blk]; simp
theorem KN.put_stk (h : KN W0 n fv b gI gL gO gF base s sv w) (l : List Nat) (sv' : Value) (ho : w.ownsRow base 3 1 sv' l.length (l.map fun (x : Nat) => Value.int .i64 (x : Int))) :
    KN W0 n fv b gI gL gO gF base { s with stk := l } sv' (w.setCell ⟨b, 4, none⟩ sv') := by
  obtain ⟨d11, d12, d13, d14⟩ := h.d1
  obtain ⟨d21, d22, d23⟩ := h.d2
  obtain ⟨d31, d32, d33⟩ := h.d3
  refine ⟨?_, h.aI.other d14 _, h.aL.other d23 _, h.aO.other d32 _, h.aF.other d33 _, ownsRow_setCell_other ho (fun e => ?_) _, h.old.setCell h.hb.1 _, h.hb, h.hI, h.hL, h.hO, h.hF, by simp only [World.size_setCell]; exact h.hbase, h.d1, h.d2, h.d3⟩
  · rw [heap_setCell_same w b 4 _ _ _ h.blk]; simp
  · have := (ho.lt b e).1; have := h.hb.2; omega
theorem KN.put_idx (h : KN W0 n fv b gI gL gO gF base s sv w) (v x : Nat) : KN W0 n fv b gI gL gO gF base { s with idx := upd s.idx v x } sv (w.setCell ⟨gI, v, none⟩ (.int .i64 (x : Int))) := by
  obtain ⟨d11, d12, d13, d14⟩ := h.d1
  obtain ⟨d21, d22, d23⟩ := h.d2
  obtain ⟨d31, d32, d33⟩ := h.d3
  refine ⟨(heap_setCell_other w _ b _ (Ne.symm d14)).trans h.blk, ?_, h.aL.other (Ne.symm d11) _, h.aO.other (Ne.symm d12) _, h.aF.other (Ne.symm d13) _, ownsRow_setCell_other h.stk (h.own_ne h.hI.2) _, h.old.setCell h.hI.1 _, h.hb, h.hI, h.hL, h.hO, h.hF, by simp only [World.size_setCell]; exact h.hbase, h.d1, h.d2, h.d3⟩
  rw [← tab_set]; exact h.aI.set v x
theorem KN.put_low (h : KN W0 n fv b gI gL gO gF base s sv w) (v x : Nat) : KN W0 n fv b gI gL gO gF base { s with low := upd s.low v x } sv (w.setCell ⟨gL, v, none⟩ (.int .i64 (x : Int))) := by
  obtain ⟨d11, d12, d13, d14⟩ := h.d1
  obtain ⟨d21, d22, d23⟩ := h.d2
  obtain ⟨d31, d32, d33⟩ := h.d3
  refine ⟨(heap_setCell_other w _ b _ (Ne.symm d23)).trans h.blk, h.aI.other d11 _, ?_, h.aO.other (Ne.symm d21) _, h.aF.other (Ne.symm d22) _, ownsRow_setCell_other h.stk (h.own_ne h.hL.2) _, h.old.setCell h.hL.1 _, h.hb, h.hI, h.hL, h.hO, h.hF, by simp only [World.size_setCell]; exact h.hbase, h.d1, h.d2, h.d3⟩
  rw [← tab_set]; exact h.aL.set v x
theorem KN.put_on (h : KN W0 n fv b gI gL gO gF base s sv w) (v : Nat) (x : Bool) : KN W0 n fv b gI gL gO gF base { s with on := upd s.on v x } sv (w.setCell ⟨gO, v, none⟩ (.bool x)) := by
  obtain ⟨d11, d12, d13, d14⟩ := h.d1
  obtain ⟨d21, d22, d23⟩ := h.d2
  obtain ⟨d31, d32, d33⟩ := h.d3
  refine ⟨(heap_setCell_other w _ b _ (Ne.symm d32)).trans h.blk, h.aI.other d12 _, h.aL.other d21 _, ?_, h.aF.other (Ne.symm d31) _, ownsRow_setCell_other h.stk (h.own_ne h.hO.2) _, h.old.setCell h.hO.1 _, h.hb, h.hI, h.hL, h.hO, h.hF, by simp only [World.size_setCell]; exact h.hbase, h.d1, h.d2, h.d3⟩
  rw [← tab_set]; exact h.aO.set v x
theorem KN.put_of (h : KN W0 n fv b gI gL gO gF base s sv w) (v x : Nat) : KN W0 n fv b gI gL gO gF base { s with of := upd s.of v x } sv (w.setCell ⟨gF, v, none⟩ (.int .i64 (x : Int))) := by
  obtain ⟨d11, d12, d13, d14⟩ := h.d1
  obtain ⟨d21, d22, d23⟩ := h.d2
  obtain ⟨d31, d32, d33⟩ := h.d3
  refine ⟨(heap_setCell_other w _ b _ (Ne.symm d33)).trans h.blk, h.aI.other d13 _, h.aL.other d22 _, h.aO.other d31 _, ?_, ownsRow_setCell_other h.stk (h.own_ne h.hF.2) _, h.old.setCell h.hF.1 _, h.hb, h.hI, h.hL, h.hO, h.hF, by simp only [World.size_setCell]; exact h.hbase, h.d1, h.d2, h.d3⟩
  rw [← tab_set]; exact h.aF.set v x
theorem KN.grown_blk (h : KN W0 n fv b gI gL gO gF base s sv w) {w' : World} (hg : w.grownBy w' sv.ownBlock) {g : Nat} (hgb : g < base) : w'.heap[g]? = w.heap[g]? :=
  hg.block g (Nat.lt_of_lt_of_le hgb h.hbase) (fun e => h.own_ne hgb e.symm)
theorem KN.after4 (h : KN W0 n fv b gI gL gO gF base s sv w) {w' : World} (hg : w.grownBy w' sv.ownBlock) : w'.cell? ⟨b, 4, none⟩ = some sv ∧ w'.frozen? ⟨b, 4, none⟩ = false :=
  ⟨(World.cell?_of_block (h.grown_blk hg h.hb.2)).trans (h.cell 4), (World.frozen?_of_block (h.grown_blk hg h.hb.2)).trans (h.free 4)⟩
theorem KN.afterAt (h : KN W0 n fv b gI gL gO gF base s sv w) {w' : World} (hg : w.grownBy w' sv.ownBlock) (i : Nat) : w'.cell? ⟨b, i, none⟩ = (#[fv, .slice (some ⟨gI, 0, none⟩) n n, .slice (some ⟨gL, 0, none⟩) n n, .slice (some ⟨gO, 0, none⟩) n n, sv, .slice (some ⟨gF, 0, none⟩) n n, .int .i64 s.cnt, .int .i64 s.kn] : Array Value)[i]? :=
  (World.cell?_of_block (h.grown_blk hg h.hb.2)).trans (h.cell i)
theorem KN.afterO (h : KN W0 n fv b gI gL gO gF base s sv w) {w' : World} (hg : w.grownBy w' sv.ownBlock) {v : Nat} (hv : v < n) (hcO : w.cell? ⟨gO, v, none⟩ = some (.bool (s.on v))) : w'.cell? ⟨gO, v, none⟩ = some (.bool (s.on v)) ∧ w'.frozen? ⟨gO, v, none⟩ = false :=
  ⟨(World.cell?_of_block (h.grown_blk hg h.hO.2)).trans hcO, (World.frozen?_of_block (h.grown_blk hg h.hO.2)).trans (h.aO.free v)⟩
theorem own_form {w : World} {base : Nat} {e : TypeId} {v : Value} {n : Nat} {xs : List Value} (h : w.ownsRow base e 1 v (n + 1) xs) : ∃ g c, v = .slice (some ⟨g, 0, none⟩) (n + 1) c := by
  rcases h.2 with ⟨_, h0⟩ | ⟨g, cap, cur, hv, _⟩
  · omega
  · exact ⟨g, cap, hv⟩
theorem KN.append (h : KN W0 n fv b gI gL gO gF base s sv w) {w' : World} (hg : w.grownBy w' sv.ownBlock) (l : List Nat) (sv' : Value) (ho : w'.ownsRow base 3 1 sv' l.length (l.map fun (x : Nat) => Value.int .i64 (x : Int))) :
    KN W0 n fv b gI gL gO gF base { s with stk := l } sv' (w'.setCell ⟨b, 4, none⟩ sv') := by
  obtain ⟨d11, d12, d13, d14⟩ := h.d1
  obtain ⟨d21, d22, d23⟩ := h.d2
  obtain ⟨d31, d32, d33⟩ := h.d3
  have hbk := fun g (hgb : g < base) => h.grown_blk hg hgb
  refine ⟨?_, Arr.other ((hbk gI h.hI.2).trans h.aI) d14 _, Arr.other ((hbk gL h.hL.2).trans h.aL) d23 _, Arr.other ((hbk gO h.hO.2).trans h.aO) d32 _, Arr.other ((hbk gF h.hF.2).trans h.aF) d33 _, ownsRow_setCell_other ho (fun e => ?_) _,
    ((h.old.trans ⟨hg.os, hg.tape, hg.output, hg.size, fun k hk => hbk k (by have := h.hb; omega)⟩)).setCell h.hb.1 _, h.hb, h.hI, h.hL, h.hO, h.hF, by simp only [World.size_setCell]; exact Nat.le_trans h.hbase hg.size, h.d1, h.d2, h.d3⟩
  · rw [heap_setCell_same w' b 4 _ _ _ ((hbk b h.hb.2).trans h.blk)]; simp
  · have := (ho.lt b e).1; have := h.hb.2; omega
theorem KN.cI (h : KN W0 n fv b gI gL gO gF base s sv w) {v : Nat} (hv : v < n) : w.cell? ⟨gI, v, none⟩ = some (.int .i64 (s.idx v : Int)) := by
  rw [h.aI.cell (by rw [tab_length]; exact hv), tab_at hv]
theorem KN.cL (h : KN W0 n fv b gI gL gO gF base s sv w) {v : Nat} (hv : v < n) : w.cell? ⟨gL, v, none⟩ = some (.int .i64 (s.low v : Int)) := by
  rw [h.aL.cell (by rw [tab_length]; exact hv), tab_at hv]
theorem KN.cO (h : KN W0 n fv b gI gL gO gF base s sv w) {v : Nat} (hv : v < n) : w.cell? ⟨gO, v, none⟩ = some (.bool (s.on v)) := by
  rw [h.aO.cell (by rw [tab_length]; exact hv), tab_at hv]
theorem KN.cF (h : KN W0 n fv b gI gL gO gF base s sv w) {v : Nat} (hv : v < n) : w.cell? ⟨gF, v, none⟩ = some (.int .i64 (s.of v : Int)) := by
  rw [h.aF.cell (by rw [tab_length]; exact hv), tab_at hv]
end

theorem own_last {w : World} {base : Nat} {e : TypeId} {v : Value} {xs : List Value} {y : Value} {k : Nat} (h : w.ownsRow base e 1 v (k + 1) (xs ++ [y])) : ∃ g cap, v = .slice (some ⟨g, 0, none⟩) (k + 1) cap ∧ base ≤ g ∧ k + 1 ≤ cap ∧ cap ≤ maxLen ∧ w.cell? ⟨g, k, none⟩ = some y ∧ w.ownsRow base e 1 (.slice (some ⟨g, 0, none⟩) k cap) k xs := by
  obtain ⟨hl, h2⟩ := h
  rcases h2 with ⟨_, h0⟩ | ⟨g, cap, cur, rfl, hb, hg, hc, hm, hs, ht⟩
  · omega
  · have hxs : xs.length = k := by simp at hl; omega
    refine ⟨g, cap, rfl, hb, hc, hm, ?_, ⟨by omega, .inr ⟨g, cap, cur, rfl, hb, hg, by omega, hm, hs, ?_⟩⟩⟩
    · have hq := (show w.ownsRow base e 1 (.slice (some ⟨g, 0, none⟩) (k + 1) cap) (k + 1) (xs ++ [y]) from ⟨hl, .inr ⟨g, cap, cur, rfl, hb, hg, hc, hm, hs, ht⟩⟩).cellAt k (by omega)
      rw [hq, List.getElem?_append_right (by omega)]; simp [hxs]
    · have h3 : (cur.toList.take ((k + 1) * 1)).take (k * 1) = (xs ++ [y]).take (k * 1) := by rw [ht]
      rw [List.take_take, Nat.min_eq_left (by omega)] at h3
      rw [h3, List.take_append_of_le_length (by omega), List.take_of_length_le (by omega)]
theorem KN.congr {W0 : World} {n : Nat} {fv : Value} {b gI gL gO gF base : Nat} {s s' : TS} {sv : Value} {w : World} (h : KN W0 n fv b gI gL gO gF base s sv w) (e : s = s') : KN W0 n fv b gI gL gO gF base s' sv w := e ▸ h
theorem offs_step (c : TS) (ys : List Nat) (zs : List Nat) (u : Nat) : { offs c ys zs with on := upd (offs c ys zs).on u false, of := upd (offs c ys zs).of u c.kn } = offs c ys (u :: zs) := by
  have h1 : upd (offs c ys zs).on u false = (offs c ys (u :: zs)).on := by
    funext x
    show (if x = u then false else if x ∈ zs then false else c.on x) = if x ∈ u :: zs then false else c.on x
    by_cases e : x = u <;> simp [e]
  have h2 : upd (offs c ys zs).of u c.kn = (offs c ys (u :: zs)).of := by
    funext x
    show (if x = u then c.kn else if x ∈ zs then c.kn else c.of x) = if x ∈ u :: zs then c.kn else c.of x
    by_cases e : x = u <;> simp [e]
  rw [h1, h2]; rfl
end Go.Proofs.Lx

namespace Go.Proofs.Lx
open Go Go.RowKit Go.Proofs.Tj
set_option linter.unusedSimpArgs false
set_option linter.unusedVariables false

def sndS : Code → Code
 | .seq _ b => b
 | c => c
def fstS : Code → Code
 | .seq a _ => a
 | c => c
noncomputable def visitR2 : Code := fstS (sndS (sndS ((Tryz.f130.body).getD .skip)))

set_option maxRecDepth 1000000 in
set_option maxHeartbeats 60000000 in
theorem visit_R2 (W0 w2 : World) (n : Nat) (fv : Value) (b gI gL gO gF base : Nat) (s : TS) (sv : Value) (v : Nat) (hv : v < n) (hn : n ≤ 4096) (hsl : s.stk.length ≤ 4096)
  (h2 : KN W0 n fv b gI gL gO gF base { s with idx := upd s.idx v (s.cnt + 1), low := upd s.low v (s.cnt + 1), cnt := s.cnt + 1 } sv w2) (K : Act → World → Prop) (Q : Value → World → Prop)
  (u2 u3 u4 u5 u6 u7 u8 u9 u10 u11 u12 u13 u14 u15 u16 u17 u18 u19 u20 u21 u22 u23 u24 u25 u26 u27 u28 u29 u30 u31 u32 u33 u34 u35 u36 u37 u38 u39 u40 u41 u42 u43 u44 u45 u46 u47 u48 u49 u50 u51 u52 u53 u54 u55 u56 u57 u58 u59 u60 u61 u62 u63 u64 u65 u66 u67 u68 u69 u70 u71 u72 u73 u74 u75 u76 u77 u78 u79 u80 u81 u82 u83 u84 u85 u86 u87 u88 u89 u90 u91 u92 u93 u94 u95 u96 u97 u98 u99 u100 u101 u102 u103 u104 u105 u106 u107 u108 u109 u110 u111 u112 u113 u114 u115 u116 u117 u118 u119 u120 u121 u122 u123 u124 u125 u126 u127 u128 u129 u130 u131 u132 u133 u134 u135 u136 u137 u138 u139 u140 u141 u142 u143 u144 u145 u146 u147 u148 u149 u150 u151 u152 u153 u154 u155 u156 u157 u158 u159 u160 u161 u162 u163 u164 u165 u166 u167 u168 u169 u170 u171 u172 u173 u174 u175 u176 u177 u178 u179 u180 u181 u182 u183 u184 u185 u186 u187 u188 : Value)
  (hK : ∀ (x34 x35 x36 x37 x38 x39 x40 x41 x42 x43 x44 x45 x46 x47 x48 x49 : Value) (wx : World) (sv' : Value), KN W0 n fv b gI gL gO gF base (enter s v) sv' wx → K ⟨#[.pointer (some ⟨b, 0, none⟩), .int .i64 (v : Int), u2, u3, u4, u5, u6, u7, u8, u9, u10, u11, u12, u13, u14, u15, u16, u17, u18, u19, u20, u21, u22, u23, u24, u25, u26, u27, u28, u29, u30, u31, u32, u33, x34, x35, x36, x37, x38, x39, x40, x41, x42, x43, x44, x45, x46, x47, x48, x49, u50, u51, u52, u53, u54, u55, u56, u57, u58, u59, u60, u61, u62, u63, u64, u65, u66, u67, u68, u69, u70, u71, u72, u73, u74, u75, u76, u77, u78, u79, u80, u81, u82, u83, u84, u85, u86, u87, u88, u89, u90, u91, u92, u93, u94, u95, u96, u97, u98, u99, u100, u101, u102, u103, u104, u105, u106, u107, u108, u109, u110, u111, u112, u113, u114, u115, u116, u117, u118, u119, u120, u121, u122, u123, u124, u125, u126, u127, u128, u129, u130, u131, u132, u133, u134, u135, u136, u137, u138, u139, u140, u141, u142, u143, u144, u145, u146, u147, u148, u149, u150, u151, u152, u153, u154, u155, u156, u157, u158, u159, u160, u161, u162, u163, u164, u165, u166, u167, u168, u169, u170, u171, u172, u173, u174, u175, u176, u177, u178, u179, u180, u181, u182, u183, u184, u185, u186, u187, u188], []⟩ wx) :
  Code.wp Tryz.prog visitR2 (Exit.then K (bodyPost Tryz.prog Tryz.f130 (Ret Q))) ⟨#[.pointer (some ⟨b, 0, none⟩), .int .i64 (v : Int), u2, u3, u4, u5, u6, u7, u8, u9, u10, u11, u12, u13, u14, u15, u16, u17, u18, u19, u20, u21, u22, u23, u24, u25, u26, u27, u28, u29, u30, u31, u32, u33, u34, u35, u36, u37, u38, u39, u40, u41, u42, u43, u44, u45, u46, u47, u48, u49, u50, u51, u52, u53, u54, u55, u56, u57, u58, u59, u60, u61, u62, u63, u64, u65, u66, u67, u68, u69, u70, u71, u72, u73, u74, u75, u76, u77, u78, u79, u80, u81, u82, u83, u84, u85, u86, u87, u88, u89, u90, u91, u92, u93, u94, u95, u96, u97, u98, u99, u100, u101, u102, u103, u104, u105, u106, u107, u108, u109, u110, u111, u112, u113, u114, u115, u116, u117, u118, u119, u120, u121, u122, u123, u124, u125, u126, u127, u128, u129, u130, u131, u132, u133, u134, u135, u136, u137, u138, u139, u140, u141, u142, u143, u144, u145, u146, u147, u148, u149, u150, u151, u152, u153, u154, u155, u156, u157, u158, u159, u160, u161, u162, u163, u164, u165, u166, u167, u168, u169, u170, u171, u172, u173, u174, u175, u176, u177, u178, u179, u180, u181, u182, u183, u184, u185, u186, u187, u188], []⟩ w2 := by
 have HK := hid hK
 clear hK
 conv => arg 2; whnf
 have e3 := h2.cell 3; have e4 := h2.cell 4
 simp only [List.getElem?_toArray, List.getElem?_cons_zero, List.getElem?_cons_succ] at e3 e4
 have hbs := h2.hbase
 have hst := h2.stk
 have hlen : s.stk.length ≤ 4096 := hsl
 have hOb := h2.d3.2.1
 have hg0 : gO < w2.heap.size := Nat.lt_of_lt_of_le h2.hO.2 h2.hbase
 have hb0 : b < w2.heap.size := Nat.lt_of_lt_of_le h2.hb.2 h2.hbase
 go_region_law (refine step_append_own rfl (.tmp 43) (.tmp 45) 36 rfl base 3 (.int .i64 0) 8 Tryz.underlying36 infoI rfl sv s.stk.length _ rfl (hst.alloc _) _ (.int .i64 v) rfl (by simp [go_sem]) rfl (by unfold maxLen; omega) (by omega) (by simp; omega) ?_; intro v' w' hown hgrow; obtain ⟨gn, cn, rfl⟩ := own_form hown; obtain ⟨q4, q4f⟩ := ((h2.alloc _).drew).after4 hgrow; obtain ⟨qO, qOf⟩ := ((h2.alloc _).drew).afterO hgrow hv (((h2.alloc _).drew).cO hv); have q3 := ((h2.alloc _).drew).afterAt hgrow 3; simp only [List.getElem?_toArray, List.getElem?_cons_zero, List.getElem?_cons_succ] at q3)
 all_goals
  clear q3 q4 q4f qO qOf e3 e4 hst
  go_wp2_with fail
  exact HK.out _ _ _ _ _ _ _ _ _ _ _ _ _ _ _ _ _ _ ((((h2.alloc (.cells #[.int .i64 (v : Int)] 3)).drew).append hgrow (s.stk ++ [v]) (.slice (some ⟨gn, 0, none⟩) (s.stk.length + 1) cn) (by simpa using hown)).put_on v true)
end Go.Proofs.Lx
