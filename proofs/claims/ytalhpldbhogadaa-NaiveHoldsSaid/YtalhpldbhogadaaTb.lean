/- Plain: the steps of the walk that finds strongly connected parts (continued). No program here. -/
import Derived.Test.YtalhpldbhogadaaTa
namespace Go.Proofs.Tj
section
variable {n : Nat} {adj : Nat → List Nat} {gs : List Nat} {v : Nat} {s c : TS} {j : Nat}

theorem LI.v_stk (h : LI n adj gs v s j c) : v ∈ c.stk := h.inv.gs_stk v List.mem_cons_self
theorem LI.idx_ne (h : LI n adj gs v s j c) : c.idx v ≠ 0 := by rw [h.iv]; omega
/-- What stands lower on the stack has been there from the beginning. -/
theorem LI.lower (h : LI n adj gs v s j c) {y : Nat} (hy : y ∈ c.stk) (hlt : c.idx y < c.idx v) : y ∈ s.stk := by
  obtain ⟨xs, hs, hx, _⟩ := h.stk
  have hp := h.inv.sorted
  rw [hs] at hy hp
  rcases List.mem_append.1 hy with h1 | h1
  · exact h1
  · rcases List.mem_cons.1 h1 with h2 | h2
    · subst h2; omega
    · rw [List.pairwise_append] at hp
      have := List.rel_of_pairwise_cons hp.2.1 h2
      omega

theorem LI.stepC (h : LI n adj gs v s j c) (hj : j < (adj v).length) (hv : c.idx (adj v)[j] ≠ 0) (ho : c.on (adj v)[j] = false) : LI n adj gs v s (j + 1) c := by
  refine { h with succ := fun i hi hij => ?_ }
  by_cases e : i = j
  · subst e
    refine ⟨hv, fun hm => ?_⟩
    obtain ⟨xs, hs, _⟩ := h.stk
    have : (adj v)[i] ∈ c.stk := by rw [hs]; exact List.mem_append_left _ hm
    rw [← h.inv.on_iff, ho] at this; cases this
  · exact h.succ i hi (by omega)

theorem LI.stepB (h : LI n adj gs v s j c) (hj : j < (adj v).length) (hv : c.idx (adj v)[j] ≠ 0) (ho : c.on (adj v)[j] = true) :
    LI n adj gs v s (j + 1) (setLow c v (min (c.low v) (c.idx (adj v)[j]))) := by
  have hws : (adj v)[j] ∈ c.stk := (h.inv.on_iff _).1 ho
  have hl : (setLow c v (min (c.low v) (c.idx (adj v)[j]))).low v = min (c.low v) (c.idx (adj v)[j]) := upd_same _ _ _
  obtain ⟨xs, hs, hx, hxe⟩ := h.stk
  refine ⟨h.inv.setLow _ _, h.reach, h.sv, h.iv, h.sle, fun x hx => ?_, h.grow, ⟨xs, hs, hx, fun x hx y hy he => ?_⟩, h.svis, h.sgs, ?_, ?_, fun i hi hij => ?_⟩
  · have : x ≠ v := fun e => hx (e ▸ h.sv)
    exact ⟨(h.old x hx).1, (upd_ne this).trans (h.old x hx).2⟩
  · rw [hl]; exact Nat.le_trans (Nat.min_le_left _ _) (hxe x hx y hy he)
  · rw [hl]; exact Nat.le_trans (Nat.min_le_left _ _) h.low_le
  · rw [hl]
    show min (c.low v) (c.idx (adj v)[j]) = c.idx v ∨ _
    rcases min_cases (c.low v) (c.idx (adj v)[j]) with ⟨e, _⟩ | ⟨e, hlt⟩
    · rw [e]; exact h.low
    · rw [e]
      have h1 := h.low_le
      have hsw := h.lower hws (by omega)
      exact .inr ⟨(adj v)[j], hsw, ((h.old _ (h.svis _ hsw)).1).symm, .edge (List.getElem_mem hj)⟩
  · rw [hl]
    show c.idx _ ≠ 0 ∧ _
    by_cases e : i = j
    · subst e
      exact ⟨hv, fun hm => by rw [← (h.old _ (h.svis _ hm)).1]; exact Nat.min_le_right _ _⟩
    · have := h.succ i hi (by omega)
      exact ⟨this.1, fun hm => Nat.le_trans (Nat.min_le_left _ _) (this.2 hm)⟩

theorem LI.stepA (h : LI n adj gs v s j c) (hj : j < (adj v).length) {c1 : TS} (hw : c.idx (adj v)[j] = 0) (hp : Post n adj (v :: gs) (adj v)[j] c c1) :
    LI n adj gs v s (j + 1) (setLow c1 v (min (c1.low v) (c1.low (adj v)[j]))) := by
  have hvn := h.idx_ne
  have hvo := hp.old v hvn
  have hl : (setLow c1 v (min (c1.low v) (c1.low (adj v)[j]))).low v = min (c1.low v) (c1.low (adj v)[j]) := upd_same _ _ _
  have hold : ∀ x, s.idx x ≠ 0 → c1.idx x = s.idx x ∧ c1.low x = s.low x := fun x hx => by
    obtain ⟨e1, e2⟩ := h.old x hx
    obtain ⟨e3, e4⟩ := hp.old x (by rw [e1]; exact hx)
    exact ⟨e3.trans e1, e4.trans e2⟩
  obtain ⟨xs, hs, hx, hxe⟩ := h.stk
  obtain ⟨ys, hs1, hy, hcase, hye⟩ := hp.ext
  have hsc : ∀ y ∈ s.stk, y ∈ c.stk := fun y hy => by rw [hs]; exact List.mem_append_left _ hy
  have hzero : ∀ x, c.idx x = 0 → s.idx x = 0 := fun x hx => by
    by_cases e : s.idx x = 0
    · exact e
    · rw [(h.old x e).1] at hx; exact hx
  refine ⟨hp.inv.setLow _ _, h.reach, h.sv, hvo.1.trans h.iv, h.sle, fun x hx => ?_, Nat.lt_trans h.grow hp.grow, ⟨xs ++ ys, ?_, ?_, ?_⟩, h.svis, h.sgs, ?_, ?_, fun i hi hij => ?_⟩
  · have : x ≠ v := fun e => hx (e ▸ h.sv)
    exact ⟨(hold x hx).1, (upd_ne this).trans (hold x hx).2⟩
  · show c1.stk = _
    rw [hs1, hs]; simp
  · intro x hm
    rcases List.mem_append.1 hm with hm | hm
    · exact hx x hm
    · exact hzero x (hy x hm)
  · intro x hm y hys he
    rw [hl]
    rcases List.mem_append.1 hm with hm | hm
    · exact Nat.le_trans (Nat.min_le_left _ _) (by rw [hvo.2]; exact hxe x hm y hys he)
    · refine Nat.le_trans (Nat.min_le_right _ _) ?_
      rw [← (h.old y (h.svis y hys)).1]
      exact hye x hm y (hsc y hys) he
  · rw [hl]
    show _ ≤ c1.idx v
    rw [hvo.1]
    exact Nat.le_trans (Nat.min_le_left _ _) (by rw [hvo.2]; exact h.low_le)
  · rw [hl]
    show min (c1.low v) (c1.low (adj v)[j]) = c1.idx v ∨ _
    rw [hvo.1, hvo.2]
    rcases min_cases (c.low v) (c1.low (adj v)[j]) with ⟨e, _⟩ | ⟨e, hlt⟩
    · rw [e]; exact h.low
    · rw [e]
      have h1 := h.low_le
      rcases hcase with ⟨_, h2⟩ | ⟨_, y, hyc, hye, hyr⟩
      · exfalso
        have h3 := hp.iv
        have h4 := h.inv.idx_le v
        omega
      · have hys := h.lower hyc (by omega)
        exact .inr ⟨y, hys, by rw [← (h.old y (h.svis y hys)).1]; exact hye, (Leads.edge (List.getElem_mem hj)).trans hyr⟩
  · rw [hl]
    show c1.idx _ ≠ 0 ∧ _
    by_cases e : i = j
    · subst e
      refine ⟨hp.vis, fun hm => ?_⟩
      exact absurd (hzero _ hw) (h.svis _ hm)
    · have := h.succ i hi (by omega)
      refine ⟨by rw [(hp.old _ this.1).1]; exact this.1, fun hm => Nat.le_trans (Nat.min_le_left _ _) (by rw [hvo.2]; exact this.2 hm)⟩

theorem LI.keep (h : LI n adj gs v s (adj v).length c) (hne : c.low v ≠ c.idx v) : Post n adj gs v s c := by
  have hlt : c.low v < c.idx v := by have := h.low_le; omega
  obtain ⟨y0, hy0, hy0l, hy0r⟩ := h.low.resolve_left hne
  obtain ⟨xs, hs, hx, hxe⟩ := h.stk
  have hsc : ∀ y ∈ s.stk, y ∈ c.stk := fun y hy => by rw [hs]; exact List.mem_append_left _ hy
  have hi := h.inv
  have hy0i : c.idx y0 = s.idx y0 := (h.old y0 (h.svis y0 hy0)).1
  -- a gray one below v
  obtain ⟨g0, hg0, hg0l, hg0r⟩ := hi.r2 y0 (hsc y0 hy0)
  have hg0v : g0 ≠ v := fun e => by subst e; omega
  have hg0g : g0 ∈ gs := (List.mem_cons.1 hg0).resolve_left hg0v
  refine ⟨⟨hi.idx_le, hi.idx_inj, hi.vis_lt, hi.cnt_eq, hi.sorted, hi.stk_vis, hi.on_iff, fun g hg => hi.gs_stk g (List.mem_cons_of_mem _ hg), hi.r1, ?_, hi.b1, hi.b2, hi.b3, ?_, hi.kn_le⟩, h.iv, h.old, h.grow, ⟨v :: xs, hs, ?_, .inr ⟨hlt, y0, hy0, hy0l, hy0r⟩, ?_⟩⟩
  · intro y hy
    obtain ⟨g, hg, hgl, hgr⟩ := hi.r2 y hy
    rcases List.mem_cons.1 hg with e | hg
    · subst e
      exact ⟨g0, hg0g, by omega, (hgr.trans hy0r).trans hg0r⟩
    · exact ⟨g, hg, hgl, hgr⟩
  · intro x hx hxg y hy
    by_cases e : x = v
    · subst e
      obtain ⟨i, hi2, rfl⟩ := List.getElem_of_mem hy
      exact (h.succ i hi2 hi2).1
    · exact hi.bl x hx (fun hm => (List.mem_cons.1 hm).elim e hxg) y hy
  · intro x hm
    rcases List.mem_cons.1 hm with e | hm
    · rw [e]; exact h.sv
    · exact hx x hm
  · intro x hm y hy he
    rcases List.mem_cons.1 hm with e | hm
    · subst e
      obtain ⟨i, hi2, rfl⟩ := List.getElem_of_mem he
      exact (h.succ i hi2 hi2).2 hy
    · exact hxe x hm y hy he

/-- The walk with zs off the stack, in a part of their own. -/
def offs (c : TS) (ys zs : List Nat) : TS := { c with on := fun x => if x ∈ zs then false else c.on x, of := fun x => if x ∈ zs then c.kn else c.of x, stk := ys }
def popped (c : TS) (ys zs : List Nat) : TS := { offs c ys zs with kn := c.kn + 1 }

theorem LI.pop (h : LI n adj gs v s (adj v).length c) (he : c.low v = c.idx v) {xs : List Nat} (hs : c.stk = s.stk ++ v :: xs) : Post n adj gs v s (popped c s.stk (v :: xs)) := by
  obtain ⟨xs', hs', hx, hxe⟩ := h.stk
  have exs : xs' = xs := by
    have := hs'.symm.trans hs
    have := List.append_cancel_left this
    injection this
  subst exs
  have hsc : ∀ y ∈ s.stk, y ∈ c.stk := fun y hy => by rw [hs]; exact List.mem_append_left _ hy
  have hC : ∀ y, y ∈ v :: xs' → y ∈ c.stk := fun y hy => by rw [hs]; exact List.mem_append_right _ hy
  have hi := h.inv
  have hCs : ∀ y, y ∈ v :: xs' → s.idx y = 0 := fun y hy => (List.mem_cons.1 hy).elim (fun e => e ▸ h.sv) (hx y)
  have hdis : ∀ y, y ∈ v :: xs' → y ∉ s.stk := fun y hy hm => h.svis y hm (hCs y hy)
  have hvle : ∀ y, y ∈ v :: xs' → c.idx v ≤ c.idx y := fun y hy => by
    have hp := hi.sorted
    rw [hs, List.pairwise_append] at hp
    rcases List.mem_cons.1 hy with e | hm
    · rw [e]; exact Nat.le_refl _
    · exact Nat.le_of_lt (List.rel_of_pairwise_cons hp.2.1 hm)
  have hslt : ∀ y ∈ s.stk, c.idx y < c.idx v := fun y hy => by
    have hp := hi.sorted
    rw [hs, List.pairwise_append] at hp
    exact hp.2.2 y hy v List.mem_cons_self
  -- all of the part reach v, and v them
  have hto : ∀ y, y ∈ v :: xs' → Leads adj v y := fun y hy => hi.r1 v (h.v_stk) y (hC y hy) (hvle y hy)
  have hfrom : ∀ y, y ∈ v :: xs' → Leads adj y v := fun y hy => by
    obtain ⟨g, hg, _, hgr⟩ := hi.r2 y (hC y hy)
    rcases List.mem_cons.1 hg with e | hg
    · exact e ▸ hgr
    · exact hgr.trans (h.reach g hg)
  -- nothing leads from it to the elder ones on the stack
  have hout : ∀ x, x ∈ v :: xs' → ∀ y ∈ adj x, c.idx y ≠ 0 ∧ y ∉ s.stk := fun x hm y hy => by
    have hvis : c.idx y ≠ 0 := by
      by_cases e : x = v
      · subst e
        obtain ⟨i, hi2, rfl⟩ := List.getElem_of_mem hy
        exact (h.succ i hi2 hi2).1
      · refine hi.bl x (hi.stk_vis x (hC x hm)) (fun hg => ?_) y hy
        rcases List.mem_cons.1 hg with e' | hg
        · exact e e'
        · exact hdis x hm (h.sgs x hg)
    refine ⟨hvis, fun hys => ?_⟩
    have h1 := hslt y hys
    have h2 := (h.old y (h.svis y hys)).1
    by_cases e : x = v
    · subst e
      obtain ⟨i, hi2, rfl⟩ := List.getElem_of_mem hy
      have := (h.succ i hi2 hi2).2 hys
      omega
    · have := hxe x ((List.mem_cons.1 hm).resolve_left e) y hys hy
      omega
  -- what was off the stack before leads to nothing on it
  have hclosed : ∀ x y, Leads adj x y → c.idx x ≠ 0 → x ∉ c.stk → c.idx y ≠ 0 ∧ y ∉ c.stk := fun x y hr h1 h2 => by
    induction hr with
    | refl => exact ⟨h1, h2⟩
    | step _ hz ih => exact hi.b1 _ ih.1 ih.2 _ hz
  have hstk : ∀ x, x ∉ s.stk → x ∈ v :: xs' ∨ x ∉ c.stk := fun x hx => by
    by_cases e : x ∈ v :: xs'
    · exact .inl e
    · exact .inr (by rw [hs]; exact fun hm => (List.mem_append.1 hm).elim hx e)
  have hof : ∀ x, (popped c s.stk (v :: xs')).of x = if x ∈ v :: xs' then c.kn else c.of x := fun x => rfl
  refine ⟨⟨hi.idx_le, hi.idx_inj, hi.vis_lt, hi.cnt_eq, ?_, fun x hx => hi.stk_vis x (hsc x hx), ?_, h.sgs, fun x hx y hy => hi.r1 x (hsc x hx) y (hsc y hy), ?_, ?_, ?_, ?_, ?_, ?_⟩, h.iv, h.old, h.grow, ⟨[], by simp [popped, offs], by simp, .inl ⟨rfl, he⟩, by simp⟩⟩
  · have hp := hi.sorted
    rw [hs, List.pairwise_append] at hp
    exact hp.1
  · intro x
    show (if x ∈ v :: xs' then false else c.on x) = true ↔ x ∈ s.stk
    by_cases e : x ∈ v :: xs'
    · rw [if_pos e]; simp only [Bool.false_eq_true, false_iff]; exact hdis x e
    · rw [if_neg e, hi.on_iff, hs, List.mem_append]; simp only [e, or_false]
  · intro y hy
    obtain ⟨g, hg, hgl, hgr⟩ := hi.r2 y (hsc y hy)
    rcases List.mem_cons.1 hg with e | hg
    · subst e; have := hslt y hy; change c.idx g ≤ c.idx y at hgl; omega
    · exact ⟨g, hg, hgl, hgr⟩
  · intro x hx hxs y hy
    rcases hstk x hxs with hm | hm
    · exact hout x hm y hy
    · obtain ⟨h1, h2⟩ := hi.b1 x hx hm y hy
      exact ⟨h1, fun hm => h2 (hsc y hm)⟩
  · intro x y hx hxs hy hys
    rw [hof, hof]
    rcases hstk x hxs with hmx | hmx <;> rcases hstk y hys with hmy | hmy
    · rw [if_pos hmx, if_pos hmy]
      simp only [true_iff]
      exact ⟨(hfrom x hmx).trans (hto y hmy), (hfrom y hmy).trans (hto x hmx)⟩
    · rw [if_pos hmx, if_neg (fun e => hmy (hC y e))]
      have := hi.b3 y hy hmy
      constructor
      · intro e; omega
      · rintro ⟨_, h2⟩
        exact absurd (hC x hmx) (hclosed y x h2 hy hmy).2
    · rw [if_neg (fun e => hmx (hC x e)), if_pos hmy]
      have := hi.b3 x hx hmx
      constructor
      · intro e; omega
      · rintro ⟨h1, _⟩
        exact absurd (hC y hmy) (hclosed x y h1 hx hmx).2
    · rw [if_neg (fun e => hmx (hC x e)), if_neg (fun e => hmy (hC y e))]
      exact hi.b2 x y hx hmx hy hmy
  · intro x hx hxs
    rw [hof]
    show _ < c.kn + 1
    rcases hstk x hxs with hm | hm
    · rw [if_pos hm]; omega
    · rw [if_neg (fun e => hm (hC x e))]
      have := hi.b3 x hx hm
      omega
  · intro x hx hxg y hy
    by_cases e : x ∈ v :: xs'
    · exact (hout x e y hy).1
    · refine hi.bl x hx (fun hg => ?_) y hy
      rcases List.mem_cons.1 hg with e' | hg
      · exact e (e' ▸ List.mem_cons_self)
      · exact hxg hg
  · have := hi.kn_le
    rw [hs] at this
    show c.kn + 1 + s.stk.length ≤ c.cnt
    simp at this; omega

/-- At the beginning. -/
def blank : TS := ⟨fun _ => 0, fun _ => 0, fun _ => false, fun _ => 0, [], 0, 0⟩
theorem inv_blank (n : Nat) (adj : Nat → List Nat) : Inv n adj [] blank := by
  refine ⟨?_, ?_, ?_, ?_, ?_, ?_, ?_, ?_, ?_, ?_, ?_, ?_, ?_, ?_, ?_⟩ <;> simp [blank, visN]
theorem inv_empty {n : Nat} {adj : Nat → List Nat} {s : TS} (h : Inv n adj [] s) : s.stk = [] := by
  cases hs : s.stk with
  | nil => rfl
  | cons x l =>
    obtain ⟨g, hg, _⟩ := h.r2 x (by rw [hs]; exact List.mem_cons_self)
    cases hg
end
end Go.Proofs.Tj
