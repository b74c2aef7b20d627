/- Plain: an order of places by counts of what waits; a cycle by a walk. No program here. -/
namespace Go.Proofs.Tj
set_option linter.unusedVariables false

/-- x beats k: k stands in x's row and is a place. -/
def EdgeB (B : List (List Int)) (x k : Nat) : Prop := x < B.length ∧ k < B.length ∧ (k : Int) ∈ B.getD x []
def Pot (B : List (List Int)) : Prop := ∃ f : Nat → Nat, ∀ x k, EdgeB B x k → f x < f k

theorem count_range_le (l : List Nat) (R : List Nat) (hl : l.Nodup) : l.countP (fun q => decide (q ∈ R)) ≤ R.length := by
  induction R with
  | nil => simp
  | cons r R ih =>
    have h1 : l.countP (fun q => decide (q ∈ r :: R)) ≤ l.count r + l.countP (fun q => decide (q ∈ R)) := by
      clear ih hl
      induction l with
      | nil => simp
      | cons y l ihl =>
        rw [List.countP_cons, List.countP_cons, List.count_cons]
        by_cases e : y = r
        · subst e
          simp only [List.mem_cons, true_or, decide_true, if_true, beq_self_eq_true, decide_eq_true_eq]
          simp only [List.mem_cons] at ihl
          split <;> omega
        · simp only [List.mem_cons] at ihl
          have e3 : (y == r) = false := by simp [e]
          by_cases e2 : y ∈ R <;> simp [e, e2, e3] <;> simp at ihl <;> omega
    have h2 : l.count r ≤ 1 := List.nodup_iff_count.1 hl r
    simp only [List.length_cons]; omega
theorem missing {n : Nat} {R : List Nat} (h : R.length < n) : ∃ q, q < n ∧ q ∉ R := by
  by_cases hx : ∃ q, q < n ∧ q ∉ R
  · exact hx
  · exfalso
    have h1 := count_range_le (List.range n) R List.nodup_range
    have h2 : (List.range n).countP (fun q => decide (q ∈ R)) = (List.range n).length := by
      rw [List.countP_eq_length]
      intro q hq
      have := List.mem_range.1 hq
      by_cases e : q ∈ R
      · simpa using e
      · exact absurd ⟨q, this, e⟩ hx
    rw [h2, List.length_range] at h1; omega
/-- What Order has taken. -/
structure Took (B : List (List Int)) (R : List Nat) : Prop where
  lt : ∀ q ∈ R, q < B.length
  nd : R.Nodup
  shut : ∀ q ∈ R, ∀ y, y ∉ R → ¬ EdgeB B y q
  ord : ∀ a b (ha : a < R.length) (hb : b < R.length), EdgeB B R[a] R[b] → a < b
theorem Took.start (B : List (List Int)) : Took B [] := ⟨by simp, by simp, by simp, fun a b ha => by simp at ha⟩
theorem Took.next {B : List (List Int)} {R : List Nat} (h : Took B R) {x : Nat} (hx : x < B.length) (hn : x ∉ R) (hz : ∀ y, y ∉ R → ¬ EdgeB B y x) : Took B (R ++ [x]) := by
  refine ⟨?_, ?_, ?_, ?_⟩
  · intro q hq
    rcases List.mem_append.1 hq with hq | hq
    · exact h.lt q hq
    · rw [List.mem_singleton.1 hq]; exact hx
  · rw [List.nodup_append]
    refine ⟨h.nd, by simp, fun a ha b hb e => ?_⟩
    rw [List.mem_singleton.1 hb] at e
    exact hn (e ▸ ha)
  · intro q hq y hy
    have hy1 : y ∉ R := fun e => hy (List.mem_append_left _ e)
    rcases List.mem_append.1 hq with hq | hq
    · exact h.shut q hq y hy1
    · rw [List.mem_singleton.1 hq]; exact hz y hy1
  · intro a b ha hb he
    rw [List.length_append, List.length_singleton] at ha hb
    by_cases h1 : a < R.length
    · by_cases h2 : b < R.length
      · rw [List.getElem_append_left h1, List.getElem_append_left h2] at he
        exact h.ord a b h1 h2 he
      · omega
    · exfalso
      rw [List.getElem_append_right (by omega)] at he
      simp only [List.getElem_singleton] at he
      by_cases h2 : b < R.length
      · rw [List.getElem_append_left h2] at he
        exact h.shut _ (List.getElem_mem h2) x hn he
      · rw [List.getElem_append_right (by omega)] at he
        simp only [List.getElem_singleton] at he
        exact hz x hn he
theorem Took.pot {B : List (List Int)} {R : List Nat} (h : Took B R) (hl : R.length = B.length) : Pot B := by
  have all : ∀ q, q < B.length → q ∈ R := by
    intro q hq
    by_cases e : q ∈ R
    · exact e
    · exfalso
      have h1 := count_range_le R (R ++ [q]) h.nd
      have hnd : (R ++ [q]).Nodup := by
        rw [List.nodup_append]
        exact ⟨h.nd, by simp, fun a ha b hb e2 => e (by rw [List.mem_singleton.1 hb] at e2; exact e2 ▸ ha)⟩
      have h2 := count_range_le (R ++ [q]) (List.range B.length) hnd
      have h3 : (R ++ [q]).countP (fun x => decide (x ∈ List.range B.length)) = (R ++ [q]).length := by
        rw [List.countP_eq_length]
        intro x hx
        rw [decide_eq_true_eq, List.mem_range]
        rcases List.mem_append.1 hx with hx | hx
        · exact h.lt x hx
        · rw [List.mem_singleton.1 hx]; exact hq
      rw [h3, List.length_append, List.length_singleton, List.length_range] at h2; omega
  refine ⟨fun q => R.idxOf q, fun x k he => ?_⟩
  have hx := all x he.1
  have hk := all k he.2.1
  refine h.ord _ _ (List.idxOf_lt_length_of_mem hx) (List.idxOf_lt_length_of_mem hk) ?_
  rw [List.getElem_idxOf, List.getElem_idxOf]; exact he
theorem stuck {B : List (List Int)} {R : List Nat} (hl : R.length < B.length) (hs : ∀ q, q < B.length → q ∉ R → ∃ y, y ∉ R ∧ EdgeB B y q) : ¬ Pot B := by
  rintro ⟨f, hf⟩
  have key : ∀ N q, q < B.length → q ∉ R → f q ≤ N → False := by
    intro N
    induction N with
    | zero =>
      intro q hq hr hN
      obtain ⟨y, _, he⟩ := hs q hq hr
      have := hf _ _ he; omega
    | succ N ih =>
      intro q hq hr hN
      obtain ⟨y, hy, he⟩ := hs q hq hr
      have := hf _ _ he
      exact ih y he.1 hy (by omega)
  obtain ⟨q, hq, hr⟩ := missing hl
  exact key _ q hq hr (Nat.le_refl _)

/-! ### The walk -/
/-- st: 0 fresh, 1 open, 2 done; nx: which edge is looked at; way: the open ones; fin: the done ones, as they were done. -/
structure Way (B : List (List Int)) (st nx : Nat → Nat) (way fin : List Nat) : Prop where
  opn : ∀ x, x < B.length → (st x = 1 ↔ x ∈ way)
  dne : ∀ x, x < B.length → (st x = 2 ↔ x ∈ fin)
  le2 : ∀ x, x < B.length → st x ≤ 2
  wlt : ∀ x ∈ way, x < B.length
  flt : ∀ x ∈ fin, x < B.length
  nd : way.Nodup
  path : ∀ a (h : a + 1 < way.length), EdgeB B (way[a]'(by omega)) way[a + 1]
  nxl : ∀ x, x < B.length → nx x ≤ (B.getD x []).length
  seen : ∀ a (h : a < way.length) j (hj : j < nx way[a]) (k : Nat), k < B.length → (B.getD way[a] []).getD j (-1) = (k : Int) → st k = 2 ∨ ∃ b, ∃ hb : b < way.length, a < b ∧ way[b] = k
  fin' : ∀ i (h : i < fin.length) (k : Nat), EdgeB B fin[i] k → ∃ j, ∃ hj : j < fin.length, j < i ∧ fin[j] = k
  fre : ∀ x, x < B.length → st x = 0 → nx x = 0
section
variable {B : List (List Int)} {st nx : Nat → Nat} {way fin : List Nat}
theorem Way.start (B : List (List Int)) : Way B (fun _ => 0) (fun _ => 0) [] [] :=
  ⟨by simp, by simp, by simp, by simp, by simp, by simp, fun a h => by simp at h, fun _ _ => Nat.zero_le _, fun a h => by simp at h, fun i h => by simp at h, fun _ _ _ => rfl⟩
/-- A fresh one is put behind the way. -/
theorem Way.push (h : Way B st nx way fin) {k : Nat} (hk : k < B.length) (hf : st k = 0) (he : ∀ x, way.getLast? = some x → EdgeB B x k) : Way B (fun q => if q = k then 1 else st q) nx (way ++ [k]) fin := by
  have hkw : k ∉ way := fun e => by have := (h.opn k hk).2 e; omega
  have hkf : k ∉ fin := fun e => by have := (h.dne k hk).2 e; omega
  refine ⟨fun x hx => ?_, fun x hx => ?_, fun x hx => ?_, ?_, h.flt, ?_, ?_, h.nxl, ?_, h.fin', fun x hx => ?_⟩
  · by_cases e : x = k
    · subst e; simp
    · simp [e, h.opn x hx]
  · by_cases e : x = k
    · subst e; simp [hkf]
    · simp [e, h.dne x hx]
  · have := h.le2 x hx; split <;> omega
  · intro x hx
    rcases List.mem_append.1 hx with hx | hx
    · exact h.wlt x hx
    · rw [List.mem_singleton.1 hx]; exact hk
  · rw [List.nodup_append]
    exact ⟨h.nd, by simp, fun a ha b hb e => hkw (by rw [List.mem_singleton.1 hb] at e; exact e ▸ ha)⟩
  · intro a ha
    rw [List.length_append, List.length_singleton] at ha
    by_cases h1 : a + 1 < way.length
    · rw [List.getElem_append_left (by omega), List.getElem_append_left h1]; exact h.path a h1
    · rw [List.getElem_append_left (by omega), List.getElem_append_right (by omega)]
      simp only [List.getElem_singleton]
      refine he _ ?_
      rw [List.getLast?_eq_getElem?, List.getElem?_eq_getElem (by omega)]
      congr 1; congr 1; omega
  · intro a ha j hj k' hk' e
    rw [List.length_append, List.length_singleton] at ha
    by_cases h1 : a < way.length
    · rw [List.getElem_append_left h1] at hj e
      rcases h.seen a h1 j hj k' hk' e with h2 | ⟨b, hb, h2, h3⟩
      · left
        have : k' ≠ k := fun e => by subst e; omega
        simp [this, h2]
      · exact .inr ⟨b, by rw [List.length_append]; omega, h2, by rw [List.getElem_append_left hb]; exact h3⟩
    · exfalso
      rw [List.getElem_append_right (by omega)] at hj
      simp only [List.getElem_singleton] at hj
      rw [h.fre k hk hf] at hj; omega
  · try dsimp only
    split
    · intro hh; omega
    · exact h.fre x hx
/-- An edge to what is no place, or done, is passed. -/
theorem Way.pass (h : Way B st nx way fin) {x : Nat} (hw : way.getLast? = some x) (hn : nx x < (B.getD x []).length)
    (hp : ∀ k : Nat, k < B.length → (B.getD x []).getD (nx x) (-1) = (k : Int) → st k = 2) : Way B st (fun q => if q = x then nx x + 1 else nx q) way fin := by
  have hxw : x ∈ way := List.mem_of_getLast? hw
  refine ⟨h.opn, h.dne, h.le2, h.wlt, h.flt, h.nd, h.path, fun q hq => ?_, fun a ha j hj k hk e => ?_, h.fin', fun q hq h0 => ?_⟩
  · try dsimp only
    split
    · rename_i e; subst e; omega
    · exact h.nxl q hq
  · try dsimp only at hj
    by_cases e1 : way[a] = x
    · rw [if_pos e1] at hj
      by_cases e2 : j = nx x
      · subst e2; rw [e1] at e; exact .inl (hp k hk e)
      · exact h.seen a ha j (by rw [e1]; omega) k hk e
    · rw [if_neg e1] at hj
      exact h.seen a ha j hj k hk e
  · have : q ≠ x := fun e => by subst e; have := (h.opn q hq).2 hxw; omega
    simp [this, h.fre q hq h0]
/-- An edge to a fresh one is taken. -/
theorem Way.take (h : Way B st nx way fin) {x k : Nat} (hw : way.getLast? = some x) (hn : nx x < (B.getD x []).length) (hk : k < B.length) (he : (B.getD x []).getD (nx x) (-1) = (k : Int)) (hf : st k = 0) :
    Way B (fun q => if q = k then 1 else st q) (fun q => if q = x then nx x + 1 else nx q) (way ++ [k]) fin := by
  have hxw : x ∈ way := List.mem_of_getLast? hw
  have hxl := h.wlt x hxw
  have hxk : x ≠ k := fun e => by subst e; have := (h.opn x hxl).2 hxw; omega
  have hmem : EdgeB B x k := ⟨hxl, hk, by
    rw [List.getD_eq_getElem?_getD, List.getElem?_eq_getElem hn] at he
    simp only [Option.getD_some] at he
    rw [← he]; exact List.getElem_mem hn⟩
  have hp := h.push hk hf (fun y hy => by rw [hw] at hy; cases hy; exact hmem)
  have hlast : way.length - 1 < way.length := by have := List.length_pos_of_mem hxw; omega
  have hlx : way[way.length - 1] = x := by
    rw [List.getLast?_eq_getElem?, List.getElem?_eq_getElem hlast] at hw
    simpa using hw
  refine ⟨hp.opn, hp.dne, hp.le2, hp.wlt, hp.flt, hp.nd, hp.path, fun q hq => ?_, fun a ha j hj k' hk' e => ?_, hp.fin', fun q hq h0 => ?_⟩
  · try dsimp only
    split
    · rename_i e; subst e; omega
    · exact h.nxl q hq
  · try dsimp only at hj
    by_cases e1 : (way ++ [k])[a] = x
    · rw [if_pos e1] at hj
      by_cases e2 : j = nx x
      · subst e2
        rw [e1, he] at e
        obtain rfl : k = k' := by omega
        have ha2 : a < way.length := by
          rw [List.length_append, List.length_singleton] at ha
          by_cases h1 : a < way.length
          · exact h1
          · exfalso
            rw [List.getElem_append_right (by omega)] at e1
            simp only [List.getElem_singleton] at e1
            exact hxk e1.symm
        exact .inr ⟨way.length, by simp, ha2, by simp⟩
      · exact hp.seen a ha j (by rw [e1]; omega) k' hk' e
    · rw [if_neg e1] at hj
      exact hp.seen a ha j hj k' hk' e
  · have hq0 : q ≠ x := fun e => by
      subst e
      have h1 := (h.opn q hq).2 hxw
      rw [if_neg hxk] at h0; omega
    simp only [if_neg hq0]
    exact hp.fre q hq h0
/-- An open one is done. -/
theorem Way.pop (h : Way B st nx way fin) {x : Nat} (hw : way.getLast? = some x) (hn : (B.getD x []).length ≤ nx x) : Way B (fun q => if q = x then 2 else st q) nx way.dropLast (fin ++ [x]) := by
  have hxw : x ∈ way := List.mem_of_getLast? hw
  have hxl := h.wlt x hxw
  have hx1 := (h.opn x hxl).2 hxw
  have hxf : x ∉ fin := fun e => by have := (h.dne x hxl).2 e; omega
  have hlast : way.length - 1 < way.length := by have := List.length_pos_of_mem hxw; omega
  have hlx : way[way.length - 1] = x := by
    rw [List.getLast?_eq_getElem?, List.getElem?_eq_getElem hlast] at hw
    simpa using hw
  have hwd : way = way.dropLast ++ [x] := by
    have := List.dropLast_concat_getLast (l := way) (by intro e; rw [e] at hxw; simp at hxw)
    rw [List.getLast_eq_getElem, hlx] at this
    exact this.symm
  have hnd := h.nd
  rw [hwd, List.nodup_append] at hnd
  have hxd : x ∉ way.dropLast := fun e => hnd.2.2 x e x (by simp) rfl
  have hmem : ∀ q, q ≠ x → (q ∈ way ↔ q ∈ way.dropLast) := by
    intro q hq
    constructor
    · intro hh
      rw [hwd] at hh
      rcases List.mem_append.1 hh with hh | hh
      · exact hh
      · exact absurd (List.mem_singleton.1 hh) hq
    · exact fun hh => List.dropLast_subset _ hh
  refine ⟨fun q hq => ?_, fun q hq => ?_, fun q hq => ?_, fun q hq => h.wlt q (List.dropLast_subset _ hq), ?_, hnd.1, ?_, h.nxl, ?_, ?_, fun q hq => ?_⟩
  · by_cases e : q = x
    · subst e; simp [hxd]
    · simp [e, h.opn q hq, hmem q e]
  · by_cases e : q = x
    · subst e; simp
    · simp [e, h.dne q hq]
  · have := h.le2 q hq; split <;> omega
  · intro q hq
    rcases List.mem_append.1 hq with hq | hq
    · exact h.flt q hq
    · rw [List.mem_singleton.1 hq]; exact hxl
  · intro a ha
    rw [List.length_dropLast] at ha
    rw [List.getElem_dropLast, List.getElem_dropLast]
    exact h.path a (by omega)
  · intro a ha j hj k hk e
    rw [List.length_dropLast] at ha
    rw [List.getElem_dropLast] at hj e
    rcases h.seen a (by omega) j hj k hk e with h1 | ⟨b, hb, h1, h2⟩
    · left
      split
      · rfl
      · exact h1
    · by_cases e3 : k = x
      · left; simp [e3]
      · right
        have hb2 : b < way.length - 1 := by
          by_cases e4 : b = way.length - 1
          · subst e4; exact absurd (h2.symm.trans hlx) e3
          · omega
        exact ⟨b, by rw [List.length_dropLast]; exact hb2, h1, by rw [List.getElem_dropLast]; exact h2⟩
  · intro i hi k he
    rw [List.length_append, List.length_singleton] at hi
    by_cases h1 : i < fin.length
    · rw [List.getElem_append_left h1] at he
      obtain ⟨j, hj, h2, h3⟩ := h.fin' i h1 k he
      exact ⟨j, by rw [List.length_append]; omega, h2, by rw [List.getElem_append_left hj]; exact h3⟩
    · rw [List.getElem_append_right (by omega)] at he
      simp only [List.getElem_singleton] at he
      obtain ⟨j, hj, hje⟩ := List.getElem_of_mem he.2.2
      have h2 : st k = 2 := by
        rcases h.seen (way.length - 1) hlast j (by rw [hlx]; omega) k he.2.1 (by rw [hlx, List.getD_eq_getElem?_getD, List.getElem?_eq_getElem hj]; simpa using hje) with h2 | ⟨b, hb, h2, _⟩
        · exact h2
        · omega
      obtain ⟨m, hm, e⟩ := List.getElem_of_mem ((h.dne k he.2.1).1 h2)
      exact ⟨m, by rw [List.length_append]; omega, by omega, by rw [List.getElem_append_left hm]; exact e⟩
  · try dsimp only
    split
    · intro hh; omega
    · exact h.fre q hq
theorem Way.up (h : Way B st nx way fin) {f : Nat → Nat} (hf : ∀ x k, EdgeB B x k → f x < f k) : ∀ d a (ha : a + d < way.length), f (way[a]'(by omega)) ≤ f way[a + d]
  | 0, a, ha => Nat.le_refl _
  | d + 1, a, ha => Nat.le_of_lt (Nat.lt_of_le_of_lt (h.up hf d a (by omega)) (hf _ _ (h.path (a + d) ha)))
/-- An edge back to an open one: there is a cycle. -/
theorem Way.ring (h : Way B st nx way fin) {x k : Nat} (hw : way.getLast? = some x) (he : EdgeB B x k) (hk : st k = 1) : ¬ Pot B := by
  rintro ⟨f, hf⟩
  have hxw : x ∈ way := List.mem_of_getLast? hw
  have hlast : way.length - 1 < way.length := by have := List.length_pos_of_mem hxw; omega
  have hlx : way[way.length - 1] = x := by
    rw [List.getLast?_eq_getElem?, List.getElem?_eq_getElem hlast] at hw
    simpa using hw
  obtain ⟨a, ha, e⟩ := List.getElem_of_mem ((h.opn k he.2.1).1 hk)
  have h1 := h.up hf (way.length - 1 - a) a (by omega)
  have h2 : way[a + (way.length - 1 - a)]'(by omega) = x := by
    have e3 : a + (way.length - 1 - a) = way.length - 1 := by omega
    simp only [e3]; exact hlx
  rw [h2, e] at h1
  have := hf _ _ he; omega
/-- All are done: there is none. -/
theorem Way.free (h : Way B st nx way fin) (hd : ∀ x, x < B.length → st x = 2) : Pot B := by
  refine ⟨fun q => fin.length - fin.idxOf q, fun x k he => ?_⟩
  have hx := (h.dne x he.1).1 (hd x he.1)
  have hi := List.idxOf_lt_length_of_mem hx
  obtain ⟨j, hj, h1, h2⟩ := h.fin' (fin.idxOf x) hi k (by rw [List.getElem_idxOf]; exact he)
  have h3 : fin.idxOf k ≤ j := by
    rw [← h2]
    exact idxOf_le j hj
  try dsimp only
  omega
where
  idxOf_le (j : Nat) (hj : j < fin.length) : fin.idxOf fin[j] ≤ j := by
    by_cases e : fin.idxOf fin[j] ≤ j
    · exact e
    · exfalso
      have : ∀ (l : List Nat) (j : Nat) (hj : j < l.length), l.idxOf l[j] ≤ j := by
        intro l
        induction l with
        | nil => intro j hj; simp at hj
        | cons y l ih =>
          intro j hj
          match j with
          | 0 => simp
          | j + 1 =>
            have hj' : j < l.length := by simpa using hj
            rw [List.getElem_cons_succ, List.idxOf_cons]
            cases hb : (y == l[j]) with
            | true => simp
            | false =>
              have := ih j hj'
              simp only [cond_false]; omega
      exact e (this fin j hj)
end
end Go.Proofs.Tj
