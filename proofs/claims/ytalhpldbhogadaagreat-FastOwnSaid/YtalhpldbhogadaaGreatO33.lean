/- Parts of the proof: Uq, Ur, Pd. The fast engine's plain law: what is laid is as the law needs it. No program in sight. No condition. -/
import Derived.Test.YtalhpldbhogadaaGreatO32
import Derived.Test.YtalhpldbhogadaaGreatO29
namespace Go.Proofs.Lx
open Go Go.RowKit Go.Proofs.Tj
set_option linter.unusedVariables false
set_option linter.unusedSectionVars false
theorem sum_one (g : Nat → Nat) (a : Nat) : ∀ n, ((List.range n).map fun h => if h = a then g h else 0).sum = if a < n then g a else 0
 | 0 => by simp
 | n + 1 => by
  rw [List.range_succ, List.map_append, List.sum_append, sum_one g a n]
  simp only [List.map_cons, List.map_nil, List.sum_cons, List.sum_nil]
  by_cases e : n = a
  ·subst e; rw [if_neg (by omega), if_pos rfl, if_pos (by omega)]; omega
  ·rw [if_neg e]
   by_cases h : a < n
   ·rw [if_pos h, if_pos (by omega)]; omega
   ·rw [if_neg h, if_neg (by omega)]; rfl
theorem sum_add (f g : Nat → Nat) : ∀ n, ((List.range n).map fun h => f h + g h).sum = ((List.range n).map f).sum + ((List.range n).map g).sum
 | 0 => by simp
 | n + 1 => by
  rw [List.range_succ, List.map_append, List.map_append, List.map_append, List.sum_append, List.sum_append, List.sum_append, sum_add f g n]
  simp only [List.map_cons, List.map_nil, List.sum_cons, List.sum_nil]
  omega
theorem heads_sum (g : Nat → Nat) (n : Nat) : ∀ rs : List Rule, (∀ r ∈ rs, 0 ≤ r.head ∧ r.head < n) → (rs.map fun r => g r.head.toNat).sum = ((List.range n).map fun (h : Nat) => hcnt rs (h : Int) * g h).sum
 | [], _ => by
  have : ∀ n, ((List.range n).map fun (h : Nat) => hcnt [] (h : Int) * g h).sum = 0 := fun n => by
   induction n with
   | zero => rfl
   | succ n ih => rw [List.range_succ, List.map_append, List.sum_append, ih]; simp [hcnt]
  rw [this]; rfl
 | r :: rs, h => by
  have ih := heads_sum g n rs fun x hx => h x (List.mem_cons_of_mem _ hx)
  obtain ⟨h0, h1⟩ := h r List.mem_cons_self
  have e : (fun h : Nat => hcnt (r :: rs) (h : Int) * g h) = fun (h : Nat) => hcnt rs (h : Int) * g h + if h = r.head.toNat then g h else 0 := by
   funext x
   unfold hcnt
   rw [List.countP_cons]
   by_cases e : x = r.head.toNat
   ·have e2 : r.head = (x : Int) := by omega
    rw [if_pos e, if_pos (by simpa using e2), Nat.add_mul, Nat.one_mul]
   ·have e2 : ¬ r.head = (x : Int) := by omega
    rw [if_neg e, if_neg (by simpa using e2)]; rfl
  rw [e, sum_add, ← ih, sum_one, if_pos (by omega), List.map_cons, List.sum_cons]; omega
theorem filter_le (p : Nat → Bool) (c : Int → Nat) : ∀ l : List Int, (∀ x ∈ l, p x.toNat = true → 1 ≤ c x) → ((l.map Int.toNat).filter p).length ≤ (l.map c).sum
 | [], _ => by simp
 | x :: l, h => by
  have ih := filter_le p c l fun y hy => h y (List.mem_cons_of_mem _ hy)
  rw [List.map_cons, List.map_cons, List.sum_cons]
  by_cases hp : p x.toNat = true
  ·rw [List.filter_cons_of_pos hp, List.length_cons]
   have := h x List.mem_cons_self hp; omega
  ·rw [List.filter_cons_of_neg hp]; omega
theorem sum_le_map {α : Type} {f g : α → Nat} : ∀ l : List α, (∀ x ∈ l, f x ≤ g x) → (l.map f).sum ≤ (l.map g).sum
 | [], _ => by simp
 | x :: l, h => by
  have ih := sum_le_map l fun y hy => h y (List.mem_cons_of_mem _ hy)
  have := h x List.mem_cons_self
  rw [List.map_cons, List.map_cons, List.sum_cons, List.sum_cons]; omega
theorem sum_mul {α : Type} (a : Nat) (f : α → Nat) : ∀ l : List α, (l.map fun x => a * f x).sum = a * (l.map f).sum
 | [] => by simp
 | x :: l => by rw [List.map_cons, List.map_cons, List.sum_cons, List.sum_cons, sum_mul a f l, Nat.mul_add]
section
variable {T : Th} {fl : List Nat}
theorem mem_foes {q f : Nat} (hwf : WfTh T) (hq : q < T.foes.length) : f ∈ (stc0 T).foes q ↔ (f : Int) ∈ T.foes[q] := by
 show f ∈ (T.foes.getD q []).map Int.toNat ↔ _
 rw [show T.foes.getD q [] = T.foes[q] by simp [hq], List.mem_map]
 constructor
 ·rintro ⟨x, hx, rfl⟩
  have := (ris_nat (foesOk_spec hwf.fo q hq).2.1).2.2.2 x hx
  rw [show ((x.toNat : Nat) : Int) = x by omega]; exact hx
 ·intro h; exact ⟨_, h, by simp⟩
theorem foe_back (hwf : WfTh T) {q f : Nat} (hq : q < T.foes.length) (hf : f ∈ (stc0 T).foes q) : f < T.foes.length ∧ q ∈ (stc0 T).foes f := by
 obtain ⟨j, hj, e, _, h⟩ := foe_in hwf hq ((mem_foes hwf hq).1 hf)
 obtain rfl : f = j := by omega
 refine ⟨hj, (mem_foes hwf hj).2 ?_⟩
 rw [row_nat _ _ hj] at h; exact h
theorem rule_get {r : Nat} (hr : r < T.rules.length) : T.rules.getD r default = T.rules[r] := by simp [hr]
theorem rule_head (hwf : WfTh T) {r : Nat} (hr : r < T.rules.length) : 0 ≤ (T.rules.getD r default).head ∧ (T.rules.getD r default).head < T.foes.length := by
 have := ruleOk_head (hwf.ru _ (List.getElem_mem hr))
 rw [rule_get hr]; have := hwf.fl; omega
theorem pr_count (hwf : WfTh T) {D : Dyn} (hb : ∀ q, D.backs q = (cSup (stc0 T) T.rules.length q : Int)) : (prL (stc0 T) D T.rules.length).length ≤ pairCount T := by
 have h1 : (prL (stc0 T) D T.rules.length).length = ((List.range T.rules.length).map fun s => (((stc0 T).foes ((stc0 T).head s)).filter fun q => decide (D.backs q ≠ 0)).length).sum := by
  unfold prL
  rw [List.length_flatMap]
  congr 1
  refine List.map_congr_left fun s _ => ?_
  rw [List.length_map]
 have h2 : ((List.range T.rules.length).map fun s => (((stc0 T).foes ((stc0 T).head s)).filter fun q => decide (D.backs q ≠ 0)).length).sum ≤ ((List.range T.rules.length).map fun s => ((T.foes.getD ((stc0 T).head s) []).map fun f => hcnt T.rules f).sum).sum := by
  refine sum_le_map _ fun s hs => filter_le _ _ _ fun x hx hp => ?_
  have hs := List.mem_range.1 hs
  rw [decide_eq_true_eq, hb] at hp
  have hpos : 0 < cSup (stc0 T) T.rules.length x.toNat := by omega
  obtain ⟨r, hr, hrr⟩ := List.countP_pos_iff.1 hpos
  have hr := List.mem_range.1 hr
  simp only [Bool.and_eq_true, decide_eq_true_eq] at hrr
  have hx0 : 0 ≤ x := by
   have hh := rule_head hwf hs
   have hq : (stc0 T).head s < T.foes.length := by show (T.rules.getD s default).head.toNat < _; omega
   rw [show T.foes.getD ((stc0 T).head s) [] = T.foes[(stc0 T).head s] by simp [hq]] at hx
   exact ((ris_nat (foesOk_spec hwf.fo _ hq).2.1).2.2.2 x hx).1
  have hh := rule_head hwf hr
  have e : (T.rules.getD r default).head.toNat = x.toNat := hrr.2
  refine List.countP_pos_iff.2 ⟨T.rules[r], List.getElem_mem hr, ?_⟩
  rw [rule_get hr] at hh e
  simp only [beq_iff_eq]; omega
 have h3 : ((List.range T.rules.length).map fun s => ((T.foes.getD ((stc0 T).head s) []).map fun f => hcnt T.rules f).sum) = T.rules.map fun r => ((T.foes.getD r.head.toNat []).map fun f => hcnt T.rules f).sum := by
  apply List.ext_getElem
  ·simp
  ·intro i a b
   simp only [List.length_map, List.length_range] at a
   simp only [List.getElem_map, List.getElem_range]
   show ((T.foes.getD (T.rules.getD i default).head.toNat []).map _).sum = _
   rw [rule_get a]
 rw [h1]
 refine Nat.le_trans h2 ?_
 rw [h3, heads_sum (fun h => ((T.foes.getD h []).map fun f => hcnt T.rules f).sum) T.foes.length T.rules fun r hr => by have := ruleOk_head (hwf.ru r hr); have := hwf.fl; omega]
 unfold pairCount pSum
 refine sum_le_map _ fun q _ => ?_
 unfold pRow
 rw [List.take_length, sum_mul]; exact Nat.le_refl _
theorem mem_btT (hwf : WfTh T) {t s : Nat} (ht : t < T.rules.length) (hs : s ∈ btT T t) : s < T.rules.length ∧ (stc0 T).head t ∈ (stc0 T).foes ((stc0 T).head s) ∧ (s : Int) ∈ T.beats.getD t [] := by
 have hb := beatsAll_true.1 hwf.ba t (by rw [hwf.bl]; exact ht)
 unfold beatsOk at hb
 rw [Bool.and_eq_true, List.all_eq_true] at hb
 obtain ⟨x, hx, rfl⟩ := List.mem_map.1 hs
 obtain ⟨h0, h1⟩ := (ris_nat hb.1).2.2.2 x hx
 have hm := memB_true.1 (hb.2 x hx)
 have hxr : x.toNat < T.rules.length := by omega
 have ex : ((x.toNat : Nat) : Int) = x := by omega
 rw [ex]
 refine ⟨hxr, ?_, hx⟩
 have hh := rule_head hwf ht
 have hhx := rule_head hwf hxr
 have e1 : headOf T (t : Int) = (((stc0 T).head t : Nat) : Int) := by
  show (T.rules.getD t default).head = (((T.rules.getD t default).head.toNat : Nat) : Int); omega
 have e2 : headOf T x = (((stc0 T).head x.toNat : Nat) : Int) := by
  show (T.rules.getD x.toNat default).head = (((T.rules.getD x.toNat default).head.toNat : Nat) : Int); omega
 have q1 : (stc0 T).head t < T.foes.length := by show (T.rules.getD t default).head.toNat < _; omega
 rw [e1, e2, row_nat _ _ q1] at hm
 exact (foe_back hwf q1 ((mem_foes hwf q1).2 hm)).2
theorem btT_nodup (hwf : WfTh T) {t : Nat} (ht : t < T.rules.length) : (btT T t).Nodup := by
 have hb := beatsAll_true.1 hwf.ba t (by rw [hwf.bl]; exact ht)
 unfold beatsOk at hb
 rw [Bool.and_eq_true] at hb
 exact (ris_nat hb.1).1
theorem nodup_len {N : Nat} : ∀ {l : List Nat}, l.Nodup → (∀ x ∈ l, x < N) → l.length ≤ N := by
 induction N with
 | zero => intro l _ h; cases l with
  | nil => simp
  | cons x l => exact absurd (h x List.mem_cons_self) (by omega)
 | succ N ih =>
  intro l hn h
  have h1 := ih (l := l.erase N) (hn.erase N) fun x hx => by
   have h2 := (hn.mem_erase_iff).1 hx
   have := h x h2.2; omega
  by_cases hN : N ∈ l
  ·have := List.length_erase_of_mem hN; omega
  ·rw [List.erase_of_not_mem hN] at h1; omega
theorem btT_len (hwf : WfTh T) (t : Nat) : (btT T t).length ≤ 4096 := by
 by_cases ht : t < T.rules.length
 ·have := nodup_len (btT_nodup hwf ht) fun x hx => (mem_btT hwf ht hx).1
  have := hwf.rl; omega
 ·have : btT T t = [] := by unfold btT; rw [show T.beats.getD t [] = [] by have := hwf.bl; simp [show T.beats.length ≤ t by omega]]; rfl
  rw [this]; simp
/-- The pairs, in closed form. -/
structure PF (T : Th) (fl : List Nat) (L : List (Nat × Nat)) (X : PX) : Prop where
 f : PForm (px0 (lS1 T) (lD5 T fl)) X L
 nd : L.Nodup
 mem : ∀ x, x ∈ L ↔ x.1 < T.rules.length ∧ x.2 ∈ (stc0 T).foes ((stc0 T).head x.1) ∧ (lD5 T fl).backs x.2 ≠ 0
 len : L.length ≤ 65536
theorem pf_of (hwf : WfTh T) (h5 : L5 (lS1 T) (bdyT T) (btT T) (factF fl) (lD5 T fl)) : PF T fl (prL (lS1 T) (lD5 T fl) T.rules.length) (pairX (lS1 T) (lD5 T fl)) := by
 refine ⟨?_, ?_, fun x => prL_mem, ?_⟩
 ·have := PForm.fold (prL (lS1 T) (lD5 T fl) T.rules.length) [] (PForm.start (px0 (lS1 T) (lD5 T fl)) rfl fun s => rfl)
  rw [List.nil_append, ← prAll_list] at this
  exact this
 ·refine prL_nodup fun s hs => ?_
  have hh := rule_head hwf hs
  have q1 : (stc0 T).head s < T.foes.length := by show (T.rules.getD s default).head.toNat < _; omega
  show ((T.foes.getD ((stc0 T).head s) []).map Int.toNat).Nodup
  rw [show T.foes.getD ((stc0 T).head s) [] = T.foes[(stc0 T).head s] by simp [q1]]
  exact (ris_nat (foesOk_spec hwf.fo _ q1).2.1).1
 ·exact Nat.le_trans (pr_count hwf h5.bk) hwf.pc
section
variable {L : List (Nat × Nat)} {X : PX} (hwf : WfTh T) (h5 : L5 (lS1 T) (bdyT T) (btT T) (factF fl) (lD5 T fl)) (pf : PF T fl L X)
include hwf h5 pf
theorem PF.A_ok {t s : Nat} (ht : t < T.rules.length) (hsu : supR (stc0 T) t = true) (hs : s < T.rules.length) (hf : (stc0 T).head t ∈ (stc0 T).foes ((stc0 T).head s)) : X.A ((stc0 T).head t) s < L.length ∧ X.ps (X.A ((stc0 T).head t) s) = s ∧ X.pq (X.A ((stc0 T).head t) s) = (stc0 T).head t := by
 have hb : (lD5 T fl).backs ((stc0 T).head t) ≠ 0 := by
  rw [h5.bk]
  have : 0 < cSup (lS1 T) (lS1 T).m ((stc0 T).head t) := List.countP_pos_iff.2 ⟨t, List.mem_range.2 ht, by
   rw [Bool.and_eq_true, decide_eq_true_eq]; exact ⟨hsu, rfl⟩⟩
  omega
 obtain ⟨p, hp, e⟩ := List.getElem_of_mem ((pf.mem (s, (stc0 T).head t)).2 ⟨hs, hf, hb⟩)
 have hA := pf.f.A pf.nd p hp
 rw [e] at hA
 have h1 := pf.f.at1 p hp
 rw [e] at h1
 have hA : X.A ((stc0 T).head t) s = p := hA
 rw [hA]; exact ⟨hp, h1.1, h1.2⟩
theorem PF.row {t : Nat} (ht : t < T.rules.length) : (∀ p, p ∈ rowB (lS1 T) T X.A t ↔ supR (stc0 T) t = true ∧ p < L.length ∧ X.pq p = (stc0 T).head t ∧ X.ps p ∈ btT T t) ∧ (rowB (lS1 T) T X.A t).Nodup := by
 unfold rowB
 by_cases hs : supR (lS1 T) t = true
 ·rw [if_pos hs]
  refine ⟨fun p => ?_, ?_⟩
  ·rw [List.mem_map]
   constructor
   ·rintro ⟨s, h, rfl⟩
    obtain ⟨h1, h2, _⟩ := mem_btT hwf ht h
    obtain ⟨a, b, c⟩ := pf.A_ok hwf h5 ht hs h1 h2
    have hb : X.ps (X.A ((lS1 T).head t) s) = s := b
    exact ⟨hs, a, c, by rw [hb]; exact h⟩
   ·rintro ⟨_, h1, h2, h3⟩
    refine ⟨X.ps p, h3, ?_⟩
    have hA := pf.f.A pf.nd p h1
    rw [← (pf.f.at1 p h1).1, ← (pf.f.at1 p h1).2, h2] at hA
    exact hA
  ·rw [List.nodup_iff_pairwise_ne, List.pairwise_map]
   have hn := btT_nodup hwf ht
   rw [List.nodup_iff_pairwise_ne] at hn
   refine (List.Pairwise.and_mem.1 hn).imp ?_
   rintro a b ⟨ha, hb, hab⟩ e
   obtain ⟨a1, a2, _⟩ := mem_btT hwf ht ha
   obtain ⟨b1, b2, _⟩ := mem_btT hwf ht hb
   have ea := (pf.A_ok hwf h5 ht hs a1 a2).2.1
   have eb := (pf.A_ok hwf h5 ht hs b1 b2).2.1
   have e : X.A ((stc0 T).head t) a = X.A ((stc0 T).head t) b := e
   rw [e, eb] at ea
   exact hab ea.symm
 ·rw [if_neg hs]
  exact ⟨fun p => ⟨fun h => (by cases h), fun h => absurd h.1 hs⟩, List.nodup_nil⟩
end
end
end Go.Proofs.Lx

namespace Go.Proofs.Lx
open Go Go.RowKit Go.Proofs.Tj
set_option linter.unusedVariables false
section
variable {T : Th} {fl : List Nat}
theorem layY (hwf : WfTh T) : (∀ t, (lS2 T fl).beats t = if t < T.rules.length then rowB (lS1 T) T (pairX (lS1 T) (lD5 T fl)).A t else []) ∧ ((∀ p, (lD5 T fl).left p = 0) → ∀ p, ∃ n : Nat, (lD6 T fl).left p = (n : Int) ∧ n = ((List.range T.rules.length).map fun t => (rowB (lS1 T) T (pairX (lS1 T) (lD5 T fl)).A t).count p).sum) := by
 have hlen : ∀ t, (rowB (lS1 T) T (pairX (lS1 T) (lD5 T fl)).A t).length ≤ 4096 := fun t => by
  unfold rowB; split
  ·rw [List.length_map]; exact btT_len hwf t
  ·simp
 have hm := hwf.rl
 refine ⟨fun t => ?_, fun h0 p => ?_⟩
 ·have h : ∀ Y : PY, (∀ t, Y.beats t = []) → ∀ k, k ≤ 4096 → (btAll (lS1 T) T (pairX (lS1 T) (lD5 T fl)).A Y k).beats t = if t < k then rowB (lS1 T) T (pairX (lS1 T) (lD5 T fl)).A t else [] := by
   intro Y hb k
   induction k with
   | zero => intro _; rw [if_neg (by omega)]; exact hb t
   | succ k ih =>
    intro hk
    rw [btAll_succ, bts_row, addB_beats]
    have hbk : ∀ k', k' ≤ k → ∀ x, k' ≤ x → (btAll (lS1 T) T (pairX (lS1 T) (lD5 T fl)).A Y k').beats x = [] := by
     intro k'
     induction k' with
     | zero => intro _ x _; exact hb x
     | succ k' ih' =>
      intro hk' x hx
      rw [btAll_succ, bts_row, addB_beats, if_neg (by omega)]
      exact ih' (by omega) x (by omega)
    by_cases e : t = k
    ·subst e; rw [if_pos rfl, hbk t (Nat.le_refl _) t (Nat.le_refl _), List.nil_append, if_pos (by omega)]
    ·rw [if_neg e, ih (by omega)]
     by_cases e2 : t < k
     ·rw [if_pos e2, if_pos (by omega)]
     ·rw [if_neg e2, if_neg (by omega)]
  exact h (py0 (lS1 T) (lD5 T fl)) (fun t => rfl) T.rules.length (by omega)
 ·obtain ⟨n, _, h1, h2⟩ := (btAll_form (lS1 T) T (pairX (lS1 T) (lD5 T fl)).A (py0 (lS1 T) (lD5 T fl)) (fun t => rfl) h0 hlen T.rules.length (by omega)).2 p
  exact ⟨n, h1, h2⟩
section
variable (hwf : WfTh T) (hfl : ∀ x ∈ fl, x < T.foes.length)
include hwf hfl
theorem layIn_of : LayIn T fl := by
 have h5 := l5_of hwf hfl
 have pf := pf_of hwf h5
 have hl := lay_ok hwf
 obtain ⟨hY, _⟩ := layY (fl := fl) hwf
 refine ⟨hl, hfl, ⟨rfl, fun _ => rfl, fun _ => rfl, h5.z3, ?_, fun t ht x hx => ?_, btT_len hwf, fun t ht hs s hsb => ?_⟩, ⟨fun q hq r hr => ?_, fun r hr p hp => ?_, fun r hr p hp => ?_, fun p hp => ?_, fun p hp => ?_⟩, ?_⟩
 ·rw [pf.f.P]; exact pf.len
 ·have hb := beatsAll_true.1 hwf.ba t ht
  unfold beatsOk at hb
  rw [Bool.and_eq_true, show T.beats.getD t [] = T.beats[t] by simp [ht]] at hb
  exact ((ris_nat hb.1).2.2.2 x hx).1
 ·have ht : t < T.rules.length := ht
  obtain ⟨a, b, _⟩ := mem_btT hwf ht hsb
  refine ⟨a, ?_⟩
  rw [pf.f.P]; exact (pf.A_ok hwf h5 ht hs a b).1
 ·exact (((innL_mem hwf q T.rules.length (Nat.le_refl _)).1 r).1 hr).1
 ·have := ((pf.f.ofs r p).1 hp).1
  show p < (pairX (lS1 T) (lD5 T fl)).P
  rw [pf.f.P]; exact this
 ·have hr : r < T.rules.length := hr
  rw [hY r, if_pos hr] at hp
  have := (((pf.row hwf h5 hr).1 p).1 hp).2.1
  show p < (pairX (lS1 T) (lD5 T fl)).P
  rw [pf.f.P]; exact this
 ·have hp : p < (pairX (lS1 T) (lD5 T fl)).P := hp
  rw [pf.f.P] at hp
  have h1 := pf.f.at1 p hp
  have h2 := (pf.mem _).1 (List.getElem_mem hp)
  show (pairX (lS1 T) (lD5 T fl)).pq p < T.foes.length
  rw [h1.2]
  have hh := rule_head hwf h2.1
  exact (foe_back hwf (by show (T.rules.getD _ default).head.toNat < _; omega) h2.2.1).1
 ·have hp : p < (pairX (lS1 T) (lD5 T fl)).P := hp
  rw [pf.f.P] at hp
  have h1 := pf.f.at1 p hp
  have h2 := (pf.mem _).1 (List.getElem_mem hp)
  show (pairX (lS1 T) (lD5 T fl)).ps p < T.rules.length
  rw [h1.1]; exact h2.1
 ·show (pairX (lS1 T) (lD5 T fl)).P ≤ 65536
  rw [pf.f.P]; exact pf.len
theorem ctx_of : Ctx (lS3 T fl) (bdyT T) (btT T) := by
 have h5 := l5_of hwf hfl
 have pf := pf_of hwf h5
 have hl := lay_ok hwf
 have hin := layIn_of hwf hfl
 obtain ⟨hY, _⟩ := layY (fl := fl) hwf
 have hP : (lS3 T fl).P = (prL (lS1 T) (lD5 T fl) T.rules.length).length := pf.f.P
 have hhd : ∀ r, r < T.rules.length → (stc0 T).head r < T.foes.length := fun r hr => by have hh := rule_head hwf hr; show (T.rules.getD r default).head.toNat < _; omega
 have hfnd : ∀ q, q < T.foes.length → ((stc0 T).foes q).Nodup := fun q hq => by
  show ((T.foes.getD q []).map Int.toNat).Nodup
  rw [show T.foes.getD q [] = T.foes[q] by simp [hq]]
  exact (ris_nat (foesOk_spec hwf.fo _ hq).2.1).1
 refine ⟨hhd, fun r hr => bdy_nodup hwf hr, fun r hr => ?_, fun r hr => (bdy_len T r).symm, fun r hr => bdy_lt hl hr, fun q hq => (innL_mem hwf q T.rules.length (Nat.le_refl _)).1, fun q hq => (innL_mem hwf q T.rules.length (Nat.le_refl _)).2, fun q hq f hf => (foe_back hwf hq hf).1, fun q hq f hf => (foe_back hwf hq hf).2, hfnd, fun q hq => foe_len hwf q, fun s hs p => ?_, fun s hs => pf.f.ofn s, fun t ht p => ?_, fun t ht => ?_, hin.so.pq, hin.so.ps, fun p hp => ?_, fun t ht hs s hs2 hf => ?_, hl.st.n4, hwf.rl, hin.sP⟩
 ·rw [bdy_len]; exact hl.st.b16 r hr
 ·rw [hP]; exact pf.f.ofs s p
 ·have ht : t < T.rules.length := ht
  have e : (lS3 T fl).beats t = (lS2 T fl).beats t := rfl
  rw [hP, e, hY t, if_pos ht]; exact (pf.row hwf h5 ht).1 p
 ·have ht : t < T.rules.length := ht
  have e : (lS3 T fl).beats t = (lS2 T fl).beats t := rfl
  rw [e, hY t, if_pos ht]; exact (pf.row hwf h5 ht).2
 ·rw [hP] at hp
  have h1 := pf.f.at1 p hp
  have h2 := (pf.mem _).1 (List.getElem_mem hp)
  show (pairX (lS1 T) (lD5 T fl)).pq p ∈ (stc0 T).foes ((stc0 T).head ((pairX (lS1 T) (lD5 T fl)).ps p))
  rw [h1.1, h1.2]; exact h2.2.1
 ·have ht : t < T.rules.length := ht
  have hs2 : s < T.rules.length := hs2
  obtain ⟨a, b, c⟩ := pf.A_ok hwf h5 ht hs hs2 hf
  exact ⟨_, by rw [hP]; exact a, c, b⟩
/-- Nothing has been worked off. -/
def g00 (D : Dyn) : Gs := ⟨fun _ _ => false, fun _ _ => false, fun _ f => hasT D f 2, fun _ _ => false, fun _ => false⟩
theorem si_lay : SI (lS3 T fl) (bdyT T) (btT T) (factF fl) (lD6 T fl) (g00 (lD5 T fl)) := by
 have h5 := l5_of hwf hfl
 have pf := pf_of hwf h5
 have hl := lay_ok hwf
 obtain ⟨hY, hL⟩ := layY (fl := fl) hwf
 have hP : (lS3 T fl).P = (prL (lS1 T) (lD5 T fl) T.rules.length).length := pf.f.P
 have h0 : ∀ l : List Nat, l.countP (fun b => !(false : Bool)) = l.length := fun l => by rw [List.countP_eq_length]; intro a _; rfl
 have hd : ∀ r, (lD6 T fl).deadD r = false := fun r => (h5.z1 r).1
 have hd2 : ∀ r, (lD6 T fl).dead r = false := fun r => (h5.z1 r).2
 have hse : ∀ p, (lD6 T fl).settled p = false := fun p => (h5.z3 p).1
 refine ⟨h5.ti.other rfl rfl, h5.ord, fun r hr hs => ?_, fun r b h => (by cases h), fun r hr => ?_, fun r b h => (by cases h), fun r hr h => ?_, fun r hr h => ?_, fun q hq => ?_, fun q hq => ?_, fun r hr h => (by cases h), fun q hq h => ?_, fun q hq => h5.op q hq, fun q f h => h, fun q hq h => ?_, fun p hp h => ?_, fun q hq => ?_, fun p hp => ?_, fun t p ht h => (by cases h), fun q hq h => ?_⟩
 ·show (lD5 T fl).needD r = (((bdyT T r).countP fun b => !(false : Bool) : Nat) : Int)
  rw [h0]; exact (h5.nd r hr).1
 ·show (lD5 T fl).need r = (((bdyT T r).countP fun b => !(false : Bool) : Nat) : Int)
  rw [h0]; exact (h5.nd r hr).2
 ·rw [hd] at h; cases h
 ·rw [hd2] at h; cases h
 ·show (lD5 T fl).strict q = _
  rw [h5.st q hq]
  have e1 : cSd (lS3 T fl) (lD6 T fl) q = 0 := by
   unfold cSd; rw [List.countP_eq_zero]; intro r _; rw [hd]; simp
  have e2 : cSt (lS3 T fl) (lD6 T fl) q = cStr (lS1 T) (lS1 T).m q := by
   refine countP_same fun r _ => ?_
   rw [hd, Bool.not_false, Bool.and_true]; rfl
  rw [e1, e2]; split <;> simp
 ·show (lD5 T fl).backs q = _
  rw [h5.bk q]
  congr 1
  refine (countP_same fun r _ => ?_).symm
  show (_ && !(false : Bool)) = _
  rw [Bool.not_false, Bool.and_true]; rfl
 ·have h : (lD5 T fl).backed q = true := h
  rw [(h5.z2 q).1] at h; cases h
 ·have h : (lD5 T fl).clash q = true := h
  rw [h5.cl q hq, List.any_eq_true] at h
  exact h
 ·rw [hse] at h; cases h
 ·show (pairX (lS1 T) (lD5 T fl)).att q = _
  rw [pf.f.att pf.len q (h5.z2 q).2.2]
  congr 1
  unfold cAt
  rw [hP]
  refine (countP_same fun p _ => ?_).symm
  rw [hse, Bool.not_false, Bool.and_true]; rfl
 ·obtain ⟨n, e1, e2⟩ := hL (fun p => (h5.z3 p).2) p
  rw [e1, e2, sum_count _ _ _ fun t ht => (pf.row hwf h5 ht).2]
  congr 1
  refine (countP_same fun t ht => ?_).symm
  have ht : t < T.rules.length := List.mem_range.1 ht
  show (decide (p ∈ (lS2 T fl).beats t) && !(false : Bool)) = _
  rw [Bool.not_false, Bool.and_true, hY t, if_pos ht]
 ·have h : (lD5 T fl).standing q = true := h
  rw [(h5.z2 q).2.1] at h; cases h
end
end
/-- What stands at once. -/
def More (D E : Dyn) : Prop := E = { D with backed := E.backed, attacks := E.attacks, standing := E.standing, settled := E.settled } ∧ (∀ q, D.backed q = true → E.backed q = true) ∧ (∀ p, D.settled p = true → E.settled p = true) ∧ ∀ q, D.standing q = true → E.standing q = true
theorem More.refl (D : Dyn) : More D D := ⟨rfl, fun _ h => h, fun _ h => h, fun _ h => h⟩
theorem More.trans {D E F : Dyn} (h : More D E) (k : More E F) : More D F := by
 obtain ⟨h1, h2, h3, h4⟩ := h
 obtain ⟨k1, k2, k3, k4⟩ := k
 exact ⟨by rw [k1, h1], fun q a => k2 q (h2 q a), fun q a => k3 q (h3 q a), fun q a => k4 q (h4 q a)⟩
theorem upd_up {d : Nat → Bool} {a : Nat} {q : Nat} (h : d q = true) : Tj.upd d a true q = true := by
 by_cases e : q = a
 ·rw [e, Tj.upd_same]
 ·rw [Tj.upd_ne e]; exact h
theorem more_backed (D : Dyn) (q : Nat) : More D (setBacked D q) := ⟨rfl, fun _ h => upd_up h, fun _ h => h, fun _ h => h⟩
theorem more_standing (D : Dyn) (q : Nat) : More D (setStanding D q) := ⟨rfl, fun _ h => h, fun _ h => h, fun _ h => upd_up h⟩
theorem more_settle (D : Dyn) (p q : Nat) : More D (decAttacks (setSettled D p) q) := ⟨rfl, fun _ h => h, fun _ h => upd_up h, fun _ h => h⟩
section
variable {S : Stc} {B bt : Nat → List Nat} {fact : Nat → Bool} {g : Gs}
theorem setls (c : Ctx S B bt) {r : Nat} (hr : r < S.m) (hs : supR S r = true) (hB : B r = []) : ∀ (l : List Nat) {D : Dyn}, SI S B bt fact D g → (∀ p ∈ l, p ∈ S.beats r) → SI S B bt fact (l.foldl (setl S) D) g ∧ More D (l.foldl (setl S) D) ∧ ∀ p ∈ l, (l.foldl (setl S) D).settled p = true
 | [], D, h, _ => ⟨h, More.refl D, fun p hp => by cases hp⟩
 | p :: l, D, h, hp => by
  rw [List.foldl_cons]
  have hb := (c.bts r hr p).1 (hp p List.mem_cons_self)
  have h1 : SI S B bt fact (setl S D p) g ∧ More D (setl S D p) ∧ (setl S D p).settled p = true := by
   unfold setl; split
   ·next hc => exact ⟨h, More.refl D, hc⟩
   ·next hc =>
    refine ⟨h.settle0 c hb.2.1 (by simpa using hc) (.inr ⟨r, hr, hb.2.2.1.symm, hs, hb.2.2.2, fun b hb => by rw [hB] at hb; cases hb⟩), more_settle D p _, ?_⟩
    show Tj.upd D.settled p true p = true
    rw [Tj.upd_same]
  obtain ⟨k1, k2, k3⟩ := setls c hr hs hB l h1.1 fun x hx => hp x (List.mem_cons_of_mem _ hx)
  refine ⟨k1, h1.2.1.trans k2, fun x hx => ?_⟩
  rcases List.mem_cons.1 hx with rfl | hx
  ·exact k2.2.2.1 _ h1.2.2
  ·exact k3 x hx
theorem stns (c : Ctx S B bt) {r : Nat} (hr : r < S.m) : ∀ (l : List Nat) {D : Dyn}, SI S B bt fact D g → D.need r = 0 → (∀ p ∈ l, p ∈ S.ofs r) → SI S B bt fact (l.foldl (stn S) D) g ∧ More D (l.foldl (stn S) D) ∧ ∀ p ∈ l, D.left p = 0 → (l.foldl (stn S) D).standing (S.pq p) = true
 | [], D, h, _, _ => ⟨h, More.refl D, fun p hp => by cases hp⟩
 | p :: l, D, h, hn, hp => by
  rw [List.foldl_cons]
  have hb := (c.ofs r hr p).1 (hp p List.mem_cons_self)
  have h1 : SI S B bt fact (stn S D p) g ∧ More D (stn S D p) ∧ (D.left p = 0 → (stn S D p).standing (S.pq p) = true) := by
   unfold stn; split
   ·next hc =>
    refine ⟨h.setStanding (h.stands c hb.1 (by rw [hb.2]; exact hn) hc), more_standing D _, fun _ => ?_⟩
    show Tj.upd D.standing (S.pq p) true (S.pq p) = true
    rw [Tj.upd_same]
   ·next hc => exact ⟨h, More.refl D, fun k => absurd k hc⟩
  have e1 : (stn S D p).need = D.need := by rw [h1.2.1.1]
  have e2 : (stn S D p).left = D.left := by rw [h1.2.1.1]
  obtain ⟨k1, k2, k3⟩ := stns c hr l h1.1 (by rw [e1]; exact hn) fun x hx => hp x (List.mem_cons_of_mem _ hx)
  refine ⟨k1, h1.2.1.trans k2, fun x hx hl => ?_⟩
  rcases List.mem_cons.1 hx with rfl | hx
  ·exact k2.2.2.2 _ (h1.2.2 hl)
  ·exact k3 x hx (by rw [e2]; exact hl)
structure R0 (S : Stc) (B bt : Nat → List Nat) (fact : Nat → Bool) (g : Gs) (D0 D : Dyn) (k : Nat) : Prop where
 si : SI S B bt fact D g
 more : More D0 D
 y1 : ∀ r, r < k → supR S r = true → B r = [] → D.backed (S.head r) = true ∧ ∀ p ∈ S.beats r, D.settled p = true
 y2 : ∀ r, r < k → B r = [] → ∀ p ∈ S.ofs r, D.left p = 0 → D.standing (S.pq p) = true
theorem rule0s (c : Ctx S B bt) {D0 : Dyn} (h0 : SI S B bt fact D0 g) (hn : ∀ r, r < S.m → D0.need r = ((B r).length : Int)) : ∀ k, k ≤ S.m → R0 S B bt fact g D0 ((List.range k).foldl (rule0 S) D0) k
 | 0, _ => ⟨h0, More.refl _, fun r h => absurd h (by omega), fun r h => absurd h (by omega)⟩
 | k + 1, hk => by
  have ih := rule0s c h0 hn k (by omega)
  rw [List.range_succ, List.foldl_append, List.foldl_cons, List.foldl_nil]
  generalize (List.range k).foldl (rule0 S) D0 = D at *
  have hkm : k < S.m := by omega
  by_cases hb : S.bodyLen k = 0
  ·have hB : B k = [] := by rw [← List.length_eq_zero_iff, ← c.blen k hkm]; exact hb
   have e : rule0 S D k = (S.ofs k).foldl (stn S) (fire0 S D k) := by unfold rule0; rw [if_pos hb]
   rw [e]
   have h1 : SI S B bt fact (fire0 S D k) g ∧ More D (fire0 S D k) ∧ (supR S k = true → (fire0 S D k).backed (S.head k) = true ∧ ∀ p ∈ S.beats k, (fire0 S D k).settled p = true) := by
    unfold fire0; split
    ·next hs =>
     have h2 : SI S B bt fact (setBacked D (S.head k)) g := ih.si.setBacked hkm hs fun b hb => by rw [hB] at hb; cases hb
     obtain ⟨k1, k2, k3⟩ := setls c hkm hs hB (S.beats k) h2 fun p hp => hp
     refine ⟨k1, (more_backed D _).trans k2, fun _ => ⟨k2.2.1 _ ?_, k3⟩⟩
     show Tj.upd D.backed (S.head k) true (S.head k) = true
     rw [Tj.upd_same]
    ·next hs => exact ⟨ih.si, More.refl D, fun k => absurd k hs⟩
   have hnk : (fire0 S D k).need k = 0 := by
    rw [h1.2.1.1, ih.more.1]
    show D0.need k = 0
    rw [hn k hkm, hB]; rfl
   obtain ⟨k1, k2, k3⟩ := stns c hkm (S.ofs k) h1.1 hnk fun p hp => hp
   have eL : (fire0 S D k).left = D.left := by rw [h1.2.1.1]
   have eL2 : ((S.ofs k).foldl (stn S) (fire0 S D k)).left = D.left := by rw [k2.1, eL]
   refine ⟨k1, (ih.more.trans h1.2.1).trans k2, fun r hr hs hBr => ?_, fun r hr hBr p hp hl => ?_⟩
   ·by_cases er : r = k
    ·subst er; exact ⟨k2.2.1 _ (h1.2.2 hs).1, fun p hp => k2.2.2.1 _ ((h1.2.2 hs).2 p hp)⟩
    ·obtain ⟨a, b⟩ := ih.y1 r (by omega) hs hBr
     exact ⟨k2.2.1 _ (h1.2.1.2.1 _ a), fun p hp => k2.2.2.1 _ (h1.2.1.2.2.1 _ (b p hp))⟩
   ·rw [eL2] at hl
    by_cases er : r = k
    ·subst er; exact k3 p hp (by rw [eL]; exact hl)
    ·exact k2.2.2.2 _ (h1.2.1.2.2.2 _ (ih.y2 r (by omega) hBr p hp hl))
  ·have hB : B k ≠ [] := fun h => hb (by rw [c.blen k hkm, h]; rfl)
   have e : rule0 S D k = D := by unfold rule0; rw [if_neg hb]
   rw [e]
   refine ⟨ih.si, ih.more, fun r hr hs hBr => ?_, fun r hr hBr p hp hl => ?_⟩
   ·exact ih.y1 r (by rcases Nat.lt_or_ge r k with h | h; exact h; exact absurd hBr (by rw [show r = k by omega]; exact hB)) hs hBr
   ·exact ih.y2 r (by rcases Nat.lt_or_ge r k with h | h; exact h; exact absurd hBr (by rw [show r = k by omega]; exact hB)) hBr p hp hl
end
section
variable {T : Th} {fl : List Nat} (hwf : WfTh T) (hfl : ∀ x ∈ fl, x < T.foes.length)
include hwf hfl
theorem r0_lay : R0 (lS3 T fl) (bdyT T) (btT T) (factF fl) (g00 (lD5 T fl)) (lD6 T fl) (lD7 T fl) T.rules.length :=
 rule0s (ctx_of hwf hfl) (si_lay hwf hfl) (fun r hr => ((l5_of hwf hfl).nd r hr).2) T.rules.length (Nat.le_refl _)
def exLook (k : Nat) : Exc := { noE with e7 := fun x => k ≤ x, e8 := fun x => k ≤ x }
omit hwf hfl in
theorem looks_bi {S : Stc} {B bt : Nat → List Nat} {fact : Nat → Bool} {D : Dyn} {g : Gs} {pc : Prc} {K : Nat → Nat → Prop} (c : Ctx S B bt) (h : BI S B bt fact D g pc (exLook 0) K) : ∀ k, k ≤ S.n → BI S B bt fact (looksD D k) g pc (exLook k) K
 | 0, _ => h
 | k + 1, hk => by
  have ih := looks_bi c h k (by omega)
  have e : looksD D (k + 1) = lookD (looksD D k) k := by unfold looksD; rw [List.range_succ, List.foldl_append]; rfl
  rw [e]
  refine (ih.look c (show k < S.n by omega)).weak ⟨fun _ k => k, fun _ k => k, fun _ k => k, fun _ k => k, fun _ _ k => k, fun _ k => k, fun x k => ?_, fun x k => ?_, fun _ _ k => k, fun _ k => k⟩
  ·have := k.1; have := k.2; show _ + 1 ≤ x; have : (exLook _).e7 x := k.1; have : _ ≤ x := this; omega
  ·have : (exLook _).e8 x := k.1; have : _ ≤ x := this; have := k.2; show _ + 1 ≤ x; omega
theorem bi_lay : BI (lS3 T fl) (bdyT T) (btT T) (factF fl) (lD8 T fl) (g00 (lD5 T fl)) (Pc (lD7 T fl).told []) (exLook 0) (Kl []) := by
 have h5 := l5_of hwf hfl
 have c := ctx_of hwf hfl
 have r := r0_lay hwf hfl
 have hs := r.more.1
 have tm : (lD7 T fl).marks = (lD5 T fl).marks := by rw [hs]; rfl
 have fneed : (lD7 T fl).need = (lD5 T fl).need := by rw [hs]; rfl
 have fneedD : (lD7 T fl).needD = (lD5 T fl).needD := by rw [hs]; rfl
 have fdead : ∀ x, (lD7 T fl).dead x = false := fun x => by rw [hs]; exact (h5.z1 x).2
 have fst : (lD7 T fl).strict = (lD5 T fl).strict := by rw [hs]; rfl
 have fcl : (lD7 T fl).clash = (lD5 T fl).clash := by rw [hs]; rfl
 have hmem : ∀ q t, 1 ≤ t → t ≤ 4 → ((q, t) ∈ (lD7 T fl).told ↔ hasT (lD5 T fl) q t = true) := fun q t h1 h4 => by
  rw [← hasT_like tm]; exact r.si.ti.has q t h1 h4
 have up : ∀ q t, HT (lD5 T fl) q t → HT (lD7 T fl) q t := fun q t h => by show hasT _ q t = true; rw [hasT_like tm]; exact h
 have hemp : ∀ x, x < T.rules.length → (lD7 T fl).need x = 0 → bdyT T x = [] := fun x hx h => by
  rw [fneed, (h5.nd x hx).2] at h
  exact List.length_eq_zero_iff.1 (by omega)
 have hbi : BI (lS3 T fl) (bdyT T) (btT T) (factF fl) (lD7 T fl) (g00 (lD5 T fl)) (Pc (lD7 T fl).told []) (exLook 0) (Kl []) := by
  refine ⟨r.si, ⟨fun a ha hst b hb => ?_, fun a ha b hb => ?_, fun a ha hst b hb h => ?_, fun a ha b hb h => ?_, fun f hf q hq h => ?_, fun f hf hb q hq h => ?_, fun t ht p hp _ => ?_, fun a ha hsu _ => ?_, fun f hf hb q hq h => ?_, fun a ha hst _ h0 => ?_, fun q hq _ h0 => ?_, fun a ha hsu _ h0 => ?_, fun p hp _ hd => ?_, fun t ht p hp _ h0 => ?_, fun p hp _ h0 hl => ?_, fun q hq hn _ => ?_, fun q hq hn _ _ => ?_⟩, fun q t k => ?_, fun q t k => k.2, fun q k => (by cases k), fun q k => (by cases k)⟩
  ·exact ⟨fun k => (by cases k), fun k => (by cases k)⟩
  ·exact ⟨fun k => (by cases k), fun k => (by cases k)⟩
  ·cases h
  ·cases h
  ·exact .inl ((hmem q 2 (by omega) (by omega)).2 h)
  ·rcases h with h | h
   ·exact (hmem q 2 (by omega) (by omega)).1 h
   ·cases h
  ·rw [fdead]; exact ⟨fun k => (by cases k), fun k => (by cases k)⟩
  ·rw [fdead]; exact ⟨fun k => (by cases k), fun k => (by cases k)⟩
  ·rcases h with h | h
   ·rw [fcl, h5.cl f hf, List.any_eq_true]
    exact ⟨q, hq, (hmem q 1 (by omega) (by omega)).1 h⟩
   ·cases h
  ·rw [fneedD, (h5.nd a ha).1] at h0
   exact up _ _ (h5.ru a ha hst (List.length_eq_zero_iff.1 (by omega)))
  ·rw [fst, h5.st q hq] at h0
   by_cases hF : factF fl q = true
   ·rw [if_pos hF] at h0; omega
   ·rw [if_neg hF] at h0
    exact up _ _ (h5.no q hq (by simpa using hF) (by omega))
  ·exact (r.y1 a ha hsu (hemp a ha h0)).1
  ·rw [fdead] at hd; cases hd
  ·exact (r.y1 t ht ((c.bts t ht p).1 hp).1 (hemp t ht h0)).2 p hp
  ·have hps := c.psm p hp
   exact r.y2 _ hps (hemp _ hps h0) p ((c.ofs _ hps p).2 ⟨hp, rfl⟩) hl
  ·exact absurd (Nat.zero_le q) hn
  ·exact absurd (Nat.zero_le q) hn
  ·have := k.1; cases this
 exact hbi.upd 0
theorem bi_first : BI (lS3 T fl) (bdyT T) (btT T) (factF fl) (looksD (lD8 T fl) T.foes.length) (g00 (lD5 T fl)) (Pc ((looksD (lD8 T fl) T.foes.length).told.take (lS3 T fl).first) []) noE (Kl []) ∧ (lS3 T fl).first ≤ (looksD (lD8 T fl) T.foes.length).told.length ∧ ∀ q, factF fl q = true → HT (looksD (lD8 T fl) T.foes.length) q 1 := by
 have c := ctx_of hwf hfl
 have h := looks_bi c (bi_lay hwf hfl) T.foes.length (Nat.le_refl _)
 have hs : Steps (lS3 T fl).n (lD8 T fl) (looksD (lD8 T fl) T.foes.length) := steps_looks (lD8 T fl) T.foes.length (Nat.le_refl _)
 obtain ⟨l, el⟩ := hs.told
 have el : (looksD (lD8 T fl) T.foes.length).told = (lD7 T fl).told ++ l := el
 have et : (looksD (lD8 T fl) T.foes.length).told.take (lS3 T fl).first = (lD7 T fl).told := by rw [el]; exact List.take_left' rfl
 refine ⟨?_, ?_, fun q hq => hs.mono (by omega) ?_⟩
 ·rw [et]
  exact { h with ci := { h.ci with x7 := fun q hq _ hc => h.ci.x7 q hq (fun k => by have : T.foes.length ≤ q := k; have hq : q < T.foes.length := hq; omega) hc, x8 := fun q hq _ hl hc => h.ci.x8 q hq (fun k => by have : T.foes.length ≤ q := k; have hq : q < T.foes.length := hq; omega) hl hc } }
 ·rw [el, List.length_append]; show (lD7 T fl).told.length ≤ _; omega
 ·have h5 := l5_of hwf hfl
  have tm : (lD7 T fl).marks = (lD5 T fl).marks := by rw [(r0_lay hwf hfl).more.1]; rfl
  show hasT (lD7 T fl) q 1 = true
  rw [hasT_like tm]; exact h5.fa q hq
end
end Go.Proofs.Lx

namespace Go.Proofs.Lx
open Go Go.RowKit
set_option linter.unusedSimpArgs false
set_option linter.unusedVariables false

theorem itM_sub {T : Th} {l : List Int} {X : List Nat} (hlen : X.length = T.foes.length) (hX : stepM T l X = X) : ∀ k, Sub (itM (stepM T l) k (startM T)) X
 | 0 => fun k q h => by rw [itM, hasM_start] at h; cases h
 | k + 1 => by
  have h := round_mono (T := T) (F := factsB T.foes.length l) (RL := rulesRows T.rules T.foes.length T.rules.length) (by rw [it_length, hlen]) (itM_sub hlen hX k)
  intro j q hq
  have := h j q hq
  have e : roundM T (factsB T.foes.length l) (rulesRows T.rules T.foes.length T.rules.length) X = X := hX
  rwa [e] at this
theorem solve_least {T : Th} {l : List Int} {X : List Nat} (hlen : X.length = T.foes.length) (hX : stepM T l X = X) : Sub (solveM T l) X := itM_sub hlen hX _
/-- One list's marks are the other's, place by place. -/
def Inb (X Y : List Nat) : Prop := X.length = Y.length ∧ ∀ i (h1 : i < X.length) (h2 : i < Y.length), X[i] &&& Y[i] = X[i]
theorem sub_inb {X Y : List Nat} (hl : X.length = Y.length) (h : Sub X Y) : Inb X Y := by
 refine ⟨hl, fun i h1 h2 => Nat.eq_of_testBit_eq fun j => ?_⟩
 rw [Nat.testBit_and]
 have e1 : hasM X j (i : Int) = X[i].testBit j := by unfold hasM; simp [h1]
 have e2 : hasM Y j (i : Int) = Y[i].testBit j := by unfold hasM; simp [h2]
 cases hb : X[i].testBit j with
 | false => rfl
 | true =>
  have := h j (i : Int) (by rw [e1]; exact hb)
  rw [e2] at this
  rw [this]; rfl
/-- How many of the four. -/
def cntB (x : Nat) : Nat := (if x.testBit 0 then 1 else 0) + (if x.testBit 1 then 1 else 0) + (if x.testBit 2 then 1 else 0) + (if x.testBit 3 then 1 else 0)
theorem cntB_or (C : Nat → Bool) (x : Nat) : cntB x ≤ cntB (orM C x 4) ∧ (cntB x = cntB (orM C x 4) → orM C x 4 = x) := by
 have hb := orM_bit C x 4
 have key : ∀ j, j < 4 → (if x.testBit j then 1 else 0) ≤ (if (orM C x 4).testBit j then 1 else 0) ∧ ((if x.testBit j then 1 else 0) = (if (orM C x 4).testBit j then 1 else 0) → (orM C x 4).testBit j = x.testBit j) := by
  intro j hj
  rw [hb j]
  cases x.testBit j <;> cases C j <;> simp [hj]
 have k0 := key 0 (by omega); have k1 := key 1 (by omega); have k2 := key 2 (by omega); have k3 := key 3 (by omega)
 unfold cntB
 refine ⟨by omega, fun e => Nat.eq_of_testBit_eq fun j => ?_⟩
 by_cases hj : j < 4
 ·rcases (by omega : j = 0 ∨ j = 1 ∨ j = 2 ∨ j = 3) with rfl | rfl | rfl | rfl
  ·exact k0.2 (by omega)
  ·exact k1.2 (by omega)
  ·exact k2.2 (by omega)
  ·exact k3.2 (by omega)
 ·rw [hb j]; simp [hj]
def cnt4 (X : List Nat) : Nat := (X.map cntB).sum
theorem cnt4_le : ∀ X : List Nat, cnt4 X ≤ 4 * X.length
 | [] => by simp [cnt4]
 | x :: X => by
  have := cnt4_le X
  have h : cntB x ≤ 4 := by unfold cntB; split <;> split <;> split <;> split <;> omega
  simp only [cnt4, List.map_cons, List.sum_cons, List.length_cons] at this ⊢; omega
theorem cnt4_lt : ∀ (X Y : List Nat), X.length = Y.length → (∀ i (h : i < X.length) (h' : i < Y.length), cntB X[i] ≤ cntB Y[i] ∧ (cntB X[i] = cntB Y[i] → Y[i] = X[i])) → cnt4 X ≤ cnt4 Y ∧ (cnt4 X = cnt4 Y → Y = X)
 | [], [], _, _ => ⟨Nat.le_refl _, fun _ => rfl⟩
 | x :: X, y :: Y, hl, h => by
  have h0 := h 0 (by simp) (by simp)
  have ih := cnt4_lt X Y (by simpa using hl) (fun i h1 h2 => by have := h (i + 1) (by simp; omega) (by simp; omega); simpa using this)
  simp only [List.getElem_cons_zero] at h0
  simp only [cnt4, List.map_cons, List.sum_cons] at ih ⊢
  refine ⟨by omega, fun e => ?_⟩
  rw [ih.2 (by omega), h0.2 (by omega)]
theorem cnt4_step (T : Th) (l : List Int) (X : List Nat) : cnt4 X ≤ cnt4 (stepM T l X) ∧ (cnt4 X = cnt4 (stepM T l X) → stepM T l X = X) := by
 refine cnt4_lt X _ (roundM_length _ _ _ _).symm fun i h h' => ?_
 have e : X[i] = X.getD i 0 := by simp [h]
 have e2 : (stepM T l X)[i] = orM (fun k => cnd T (factsB T.foes.length l) (rulesRows T.rules T.foes.length T.rules.length) X k (i : Int)) X[i] 4 := by
  rw [e]; simp [stepM, roundM, rnd]
 rw [e2]
 exact cntB_or _ _
theorem step_length (T : Th) (l : List Int) (X : List Nat) : (stepM T l X).length = X.length := roundM_length _ _ _ _
theorem step_lt (T : Th) (l : List Int) (X : List Nat) (h : ∀ x ∈ X, x < 256) : ∀ x ∈ stepM T l X, x < 256 := roundM_lt _ _ _ _ h
theorem step_sub (T : Th) (l : List Int) (X : List Nat) : Sub X (stepM T l X) := sub_round
theorem step_mono {T : Th} {l : List Int} {X Y : List Nat} (hl : X.length = Y.length) (h : Sub X Y) : Sub (stepM T l X) (stepM T l Y) := round_mono hl h
theorem andNot_zero (x y : Nat) (hx : x < 256) (hy : y < 256) (h : x &&& y = x) : bits .andNot .u8 (x : Int) (y : Int) = 0 := by
 have hz : (BitVec.ofNat 8 x &&& ~~~ BitVec.ofNat 8 y) = 0#8 := by
  apply BitVec.eq_of_getLsbD_eq
  intro i hi
  have h1 : (x &&& y).testBit i = x.testBit i := by rw [h]
  rw [Nat.testBit_and] at h1
  rw [BitVec.getLsbD_and, BitVec.getLsbD_not, BitVec.getLsbD_ofNat, BitVec.getLsbD_ofNat]
  cases hb : x.testBit i with
  | false => simp
  | true =>
   rw [hb] at h1
   have h2 : y.testBit i = true := by simpa using h1
   rw [h2]; simp [hi]
 have e : bits .andNot .u8 (x : Int) (y : Int) = IntKind.u8.wrap ((BitVec.ofNat 8 x &&& ~~~ BitVec.ofNat 8 y).toNat : Int) := by
  simp only [bits, BitVec.ofInt_natCast]; rfl
 rw [e, hz]; decide
/-- All the marks of two lists. -/
def orL (X Y : List Nat) (k : Nat) : List Nat := (List.range X.length).map fun q => if q < k then X.getD q 0 ||| Y.getD q 0 else X.getD q 0
theorem orL_length (X Y : List Nat) (k : Nat) : (orL X Y k).length = X.length := by simp [orL]
theorem orL_zero (X Y : List Nat) : orL X Y 0 = X := by
 apply List.ext_getElem
 ·simp [orL]
 ·intro i h1 h2; simp [orL, h2]
theorem orL_step (X Y : List Nat) (k : Nat) (hX : k < X.length) (hY : k < Y.length) : orL X Y (k + 1) = (orL X Y k).set k (X[k] ||| Y[k]) := by
 apply List.ext_getElem
 ·simp [orL]
 ·intro i h1 h2
  rw [orL_length] at h1
  rw [List.getElem_set]
  simp only [orL, List.getElem_map, List.getElem_range]
  by_cases e : k = i
  ·subst e
   rw [if_pos rfl, if_pos (by omega)]; simp [hX, hY]
  ·rw [if_neg e]
   by_cases e2 : i < k
   ·rw [if_pos (by omega), if_pos e2]
   ·rw [if_neg (by omega), if_neg e2]
theorem orL_at (X Y : List Nat) (k : Nat) (hX : k < (orL X Y k).length) (hX' : k < X.length) : (orL X Y k)[k] = X[k] := by simp [orL, hX']
theorem orL_lt {X Y : List Nat} (h1 : ∀ x ∈ X, x < 256) (h2 : ∀ x ∈ Y, x < 256) (k : Nat) : ∀ x ∈ orL X Y k, x < 256 := by
 intro x hx
 obtain ⟨q, hq, rfl⟩ := List.mem_map.1 hx
 have hq := List.mem_range.1 hq
 have hg : ∀ Z : List Nat, (∀ x ∈ Z, x < 256) → Z.getD q 0 < 256 := by
  intro Z hZ
  by_cases h : q < Z.length
  ·have : Z.getD q 0 = Z[q] := by simp [h]
   rw [this]; exact hZ _ (List.getElem_mem h)
  ·rw [List.getD_eq_getElem?_getD, List.getElem?_eq_none (by omega)]; simp
 split
 ·exact Nat.or_lt_two_pow (n := 8) (hg X h1) (hg Y h2)
 ·exact hg X h1
theorem orL_sub (X Y : List Nat) (k : Nat) : Sub X (orL X Y k) := by
 intro j q h
 by_cases hq : q.toNat < X.length
 ·have e : hasM (orL X Y k) j q = ((orL X Y k)[q.toNat]'(by rw [orL_length]; exact hq)).testBit j := by unfold hasM; rw [List.getD_eq_getElem?_getD, List.getElem?_eq_getElem (by rw [orL_length]; exact hq), Option.getD_some]
  rw [e]
  have e1 : hasM X j q = (X.getD q.toNat 0).testBit j := rfl
  rw [e1] at h
  simp only [orL, List.getElem_map, List.getElem_range]
  split
  ·rw [Nat.testBit_or, h]; rfl
  ·exact h
 ·rw [hasM_far (by omega)] at h; cases h
end Go.Proofs.Lx
