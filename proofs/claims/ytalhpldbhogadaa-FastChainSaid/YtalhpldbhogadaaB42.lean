/- Parts of the proof: Pb, Uj, Uk, Ul, Um, Un. Plain law: two foes that are both +d are both +D. -/
import Derived.Test.YtalhpldbhogadaaB38
import Derived.Test.YtalhpldbhogadaaB19
import Derived.Test.YtalhpldbhogadaaB41
namespace Go.Proofs.Lx
open Go Go.RowKit Go.Proofs.Tj
set_option linter.unusedSimpArgs false
set_option linter.unusedVariables false

theorem countP_lt {α : Type} {p q : α → Bool} : ∀ {l : List α} {x : α}, (∀ y ∈ l, p y = true → q y = true) → x ∈ l → q x = true → p x = false → l.countP p < l.countP q
  | [], x, _, hx, _, _ => by simp at hx
  | y :: l, x, h, hx, h1, h2 => by
    rw [List.countP_cons, List.countP_cons]
    have hle : l.countP p ≤ l.countP q := List.countP_mono_left fun z hz => h z (List.mem_cons_of_mem _ hz)
    by_cases e : x = y
    · subst e
      rw [h1, h2]; simp; omega
    · have hx' : x ∈ l := by simpa [e] using hx
      have ih := countP_lt (fun z hz => h z (List.mem_cons_of_mem _ hz)) hx' h1 h2
      have hy := h y List.mem_cons_self
      cases hp : p y with
      | false => simp; split <;> omega
      | true => rw [hy hp]; simp; omega

section
variable {T : Th} {l : List Int}
theorem row_nat (xs : List (List Int)) (q : Nat) (hq : q < xs.length) : row xs (q : Int) = xs[q] := by simp [row, hq]
theorem mem_heads {q : Nat} {r : Int} (hq : q < T.foes.length) : r ∈ row (rulesRows T.rules T.foes.length T.rules.length) (q : Int) ↔ ∃ i : Nat, i < T.rules.length ∧ r = i ∧ (T.rules.getD i default).head = q := by
  rw [row_nat _ _ (by rw [rulesRows_length]; exact hq), rulesRows_at _ _ _ hq]
  exact mem_rulesUpto
theorem foe_in (hwf : WfTh T) {i : Nat} (hi : i < T.foes.length) {f : Int} (hf : f ∈ T.foes[i]) : ∃ j : Nat, j < T.foes.length ∧ f = j ∧ j ≠ i ∧ (i : Int) ∈ row T.foes (j : Int) := by
  obtain ⟨h1, h2, h3, h4⟩ := foesOk_spec hwf.fo i hi
  obtain ⟨a, ha, e⟩ := List.getElem_of_mem hf
  have hb := (risB_spec h2).1 a ha
  rw [e] at hb
  have hfl := hwf.fl
  refine ⟨f.toNat, by omega, by omega, ?_, ?_⟩
  · intro e2
    apply memB_false.1 h3
    have : (i : Int) = f := by omega
    rw [this]; exact hf
  · have := memB_true.1 (h4 f hf)
    rw [show ((f.toNat : Nat) : Int) = f by omega]
    exact this
open Classical in
theorem no_chain (hwf : WfTh T) (C : Nat → Prop) (hC : ∀ s, C s → s < T.rules.length ∧ ∃ r, C r ∧ r ≠ s ∧ s ∈ adjN (beatsAt T) r) : ∀ N s, ((List.range T.rules.length).countP fun y => decide (Leads (adjN (beatsAt T)) y s)) ≤ N → ¬ C s := by
  intro N
  induction N with
  | zero =>
    intro s hs hc
    obtain ⟨hlt, _⟩ := hC s hc
    have : 0 < (List.range T.rules.length).countP fun y => decide (Leads (adjN (beatsAt T)) y s) := List.countP_pos_iff.2 ⟨s, List.mem_range.2 hlt, by simp [Leads.refl]⟩
    omega
  | succ N ih =>
    intro s hs hc
    obtain ⟨hlt, r, hr, hne, he⟩ := hC s hc
    have hrl := (hC r hr).1
    refine ih r ?_ hr
    have : ((List.range T.rules.length).countP fun y => decide (Leads (adjN (beatsAt T)) y r)) < ((List.range T.rules.length).countP fun y => decide (Leads (adjN (beatsAt T)) y s)) := by
      refine countP_lt (x := s) (fun y _ hy => ?_) (List.mem_range.2 hlt) (by simp [Leads.refl]) ?_
      · rw [decide_eq_true_eq] at hy ⊢
        exact .step hy he
      · rw [decide_eq_false_iff_not]
        intro hsr
        exact hne (hwf.nk r s hrl hlt (Leads.edge he) hsr)
    omega
theorem consist (hwf : WfTh T) {i j : Nat} (hi : i < T.foes.length) (hj : (j : Int) ∈ T.foes[i])
    (h2i : hasM (solveM T l) 2 (i : Int) = true) (h2j : hasM (solveM T l) 2 (j : Int) = true) : hasM (solveM T l) 0 (i : Int) = true ∧ hasM (solveM T l) 0 (j : Int) = true := by
  obtain ⟨j', hjn, e, hne, hij⟩ := foe_in hwf hi hj
  obtain rfl : j = j' := by omega
  have hm := solve_made T l
  have hji : (j : Int) ∈ row T.foes (i : Int) := by rw [row_nat _ _ hi]; exact hj
  have Pi := hm.sup 2 _ (by omega) h2i
  have Pj := hm.sup 2 _ (by omega) h2j
  rw [Int.toNat_natCast, plusP_iff] at Pi Pj
  rcases Pi with Pi | ⟨⟨ri, hri, hsi, hwi⟩, hfi, hai⟩
  · refine ⟨Pi, ?_⟩
    rcases Pj with Pj | ⟨_, hfj, _⟩
    · exact Pj
    · exact absurd ⟨Pi, hfj _ hij⟩ (hm.coh _).1
  · rcases Pj with Pj | ⟨⟨rj, hrj, hsj, hwj⟩, hfj, haj⟩
    · exact absurd ⟨Pj, hfi _ hji⟩ (hm.coh _).1
    · exfalso
      obtain ⟨a, ha, rfl, hah⟩ := (mem_heads hi).1 hri
      refine no_chain hwf (fun s => s < T.rules.length ∧ ((T.rules.getD s default).head = i ∨ (T.rules.getD s default).head = j) ∧ supB T (s : Int) = true ∧ wholeB T (solveM T l) 2 (s : Int) = true) ?_ _ a (Nat.le_refl _) ⟨ha, .inl hah, hsi, hwi⟩
      rintro s ⟨hs, hh, hss, hsw⟩
      refine ⟨hs, ?_⟩
      have edge : ∀ r : Nat, beatsB T (r : Int) (s : Int) = true → s ∈ adjN (beatsAt T) r := by
        intro r hb
        have h1 : (s : Int) ∈ T.beats.getD r [] := memB_true.1 hb
        exact List.mem_map.2 ⟨_, h1, by simp⟩
      rcases hh with hh | hh
      · have hsr := (mem_heads hi).2 ⟨s, hs, rfl, hh⟩
        rcases haj _ hij _ hsr with h | ⟨r, hr, h1, h2, h3⟩
        · exact ((whole_some hm.coh).2 hsw h).elim
        · obtain ⟨b, hb, rfl, hbh⟩ := (mem_heads hjn).1 hr
          exact ⟨b, ⟨hb, .inr hbh, h1, h3⟩, fun e => by subst e; omega, edge _ h2⟩
      · have hsr := (mem_heads hjn).2 ⟨s, hs, rfl, hh⟩
        rcases hai _ hji _ hsr with h | ⟨r, hr, h1, h2, h3⟩
        · exact ((whole_some hm.coh).2 hsw h).elim
        · obtain ⟨b, hb, rfl, hbh⟩ := (mem_heads hi).1 hr
          exact ⟨b, ⟨hb, .inl hbh, h1, h3⟩, fun e => by subst e; omega, edge _ h2⟩
end
end Go.Proofs.Lx

namespace Go.Proofs.Lx
open Go Go.RowKit Go.Proofs.Tj
set_option linter.unusedVariables false
theorem ris_nat {l : List Int} {N : Int} (h : risB l N = true) : (l.map Int.toNat).Nodup ∧ (∀ x ∈ l.map Int.toNat, (x : Int) < N) ∧ l = (l.map Int.toNat).map (fun (x : Nat) => (x : Int)) ∧ ∀ x ∈ l, 0 ≤ x ∧ x < N := by
  obtain ⟨h1, h2⟩ := risB_spec h
  have hb : ∀ x ∈ l, 0 ≤ x ∧ x < N := fun x hx => by
    obtain ⟨i, hi, e⟩ := List.getElem_of_mem hx
    rw [← e]; exact h1 i hi
  refine ⟨?_, fun x hx => ?_, ?_, hb⟩
  · rw [List.nodup_iff_pairwise_ne, List.pairwise_map]
    refine (List.Pairwise.and_mem.1 h2).imp ?_
    rintro a b ⟨ha, hb2, hab⟩
    have := (hb a ha).1; have := (hb b hb2).1
    omega
  · obtain ⟨y, hy, rfl⟩ := List.mem_map.1 hx
    have := hb y hy; omega
  · rw [List.map_map]
    apply List.ext_getElem
    · simp
    · intro i h1 h2
      have := (hb _ (List.getElem_mem h1)).1
      simp only [List.getElem_map, Function.comp]; omega
theorem lay_ok {T : Th} (hwf : WfTh T) : LayOk T := by
  have hfl := hwf.fl
  have hl1 := hwf.l1
  have hrl := hwf.rl
  have hget : ∀ r (h : r < T.rules.length), T.rules.getD r default = T.rules[r] := fun r h => by simp [h]
  have hgetF : ∀ q (h : q < T.foes.length), T.foes.getD q [] = T.foes[q] := fun q h => by simp [h]
  have hru : ∀ r (h : r < T.rules.length), 1 ≤ T.rules[r].kind ∧ T.rules[r].kind ≤ 3 ∧ 0 ≤ T.rules[r].head ∧ T.rules[r].head < T.lits ∧ T.rules[r].body.length ≤ 16 ∧ risB T.rules[r].body T.lits = true := fun r h => by
    have := hwf.ru _ (List.getElem_mem h)
    simp only [ruleOk, Bool.and_eq_true, decide_eq_true_eq] at this
    obtain ⟨⟨⟨⟨⟨a, b⟩, c⟩, d⟩, e⟩, f⟩ := this
    exact ⟨a, b, c, d, e, f⟩
  refine ⟨⟨rfl, hfl.symm, rfl, hwf.bl, ?_, ?_, ?_, ?_, ?_, hrl, ?_, ?_, ?_⟩, ?_⟩
  · intro r h; show _ = (T.rules.getD r default).kind; rw [hget r h]
  · intro r h
    show _ = (((T.rules.getD r default).head.toNat : Nat) : Int)
    rw [hget r h]; have := (hru r h).2.2.1; omega
  · intro r h; show _ = (T.rules.getD r default).body.length; rw [hget r h]
  · intro q h
    show _ = ((T.foes.getD q []).map Int.toNat).map _
    rw [hgetF q h]
    exact (ris_nat (foesOk_spec hwf.fo q h).2.1).2.2.1
  · show T.foes.length ≤ 4096; omega
  · intro r h
    have h : r < T.rules.length := h
    show (T.rules.getD r default).head.toNat < T.foes.length
    rw [hget r h]; have := (hru r h).2.2.2.1; have := (hru r h).2.2.1; omega
  · intro q h f hf
    have h : q < T.foes.length := h
    have hf : f ∈ (T.foes.getD q []).map Int.toNat := hf
    rw [hgetF q h] at hf
    have := (ris_nat (foesOk_spec hwf.fo q h).2.1).2.1 f hf
    show f < T.foes.length; omega
  · intro r h
    have h : r < T.rules.length := h
    show (T.rules.getD r default).body.length ≤ 16
    rw [hget r h]; exact (hru r h).2.2.2.2.1
  · intro r h x hx
    have := (ris_nat (hru r h).2.2.2.2.2).2.2.2 x hx
    omega
end Go.Proofs.Lx

namespace Go.Proofs.Lx
open Go Go.RowKit Go.Proofs.Tj
set_option linter.unusedVariables false
theorem innAdd_fold (r b : Nat) : ∀ (l : List Nat) (I : Nat → List Nat), (l.foldl (innAdd r) I) b = I b ++ List.replicate (l.count b) r
  | [], I => by simp
  | x :: l, I => by
    rw [List.foldl_cons, innAdd_fold r b l]
    show Tj.upd I x (I x ++ [r]) b ++ _ = _
    by_cases e : b = x
    · subst e
      rw [Tj.upd_same, List.count_cons_self, List.replicate_succ, List.append_assoc]; rfl
    · rw [Tj.upd_ne e, List.count_cons_of_ne (fun k => e k.symm)]
section
variable {T : Th}
theorem bdy_nodup (hwf : WfTh T) {r : Nat} (hr : r < T.rules.length) : (bdyT T r).Nodup := by
  have e : T.rules.getD r default = T.rules[r] := by simp [hr]
  unfold bdyT; rw [e]
  have := hwf.ru _ (List.getElem_mem hr)
  simp only [ruleOk, Bool.and_eq_true] at this
  exact (ris_nat this.2).1
theorem innL_step (T : Th) (k b : Nat) : innL T (k + 1) b = innL T k b ++ List.replicate ((bdyT T k).count b) k := innAdd_fold k b _ _
theorem innL_mem (hwf : WfTh T) (b : Nat) : ∀ k, k ≤ T.rules.length → (∀ r, r ∈ innL T k b ↔ r < k ∧ b ∈ bdyT T r) ∧ (innL T k b).Nodup
  | 0, _ => ⟨fun r => by simp [innL], by simp [innL]⟩
  | k + 1, hk => by
    obtain ⟨h1, h2⟩ := innL_mem hwf b k (by omega)
    have hn := bdy_nodup hwf (show k < T.rules.length by omega)
    rw [innL_step]
    by_cases hb : b ∈ bdyT T k
    · rw [show (bdyT T k).count b = 1 by have h5 := List.nodup_iff_count.1 hn b; have h6 := List.count_pos_iff.2 hb; omega]
      refine ⟨fun r => ?_, ?_⟩
      · rw [List.mem_append, h1 r]
        simp only [List.replicate_one, List.mem_singleton]
        constructor
        · rintro (⟨a, c⟩ | rfl)
          · exact ⟨by omega, c⟩
          · exact ⟨by omega, hb⟩
        · rintro ⟨a, c⟩
          by_cases e : r = k
          · exact .inr e
          · exact .inl ⟨by omega, c⟩
      · rw [List.nodup_append]
        refine ⟨h2, by simp, fun x hx y hy e => ?_⟩
        simp only [List.replicate_one, List.mem_singleton] at hy
        have := ((h1 x).1 hx).1
        omega
    · rw [List.count_eq_zero.2 hb]
      refine ⟨fun r => ?_, by simpa using h2⟩
      simp only [List.replicate_zero, List.append_nil]
      rw [h1 r]
      constructor
      · rintro ⟨a, c⟩; exact ⟨by omega, c⟩
      · rintro ⟨a, c⟩
        refine ⟨?_, c⟩
        rcases Nat.lt_or_ge r k with e | e
        · exact e
        · have : r = k := by omega
          rw [this] at c; exact absurd c hb
end
end Go.Proofs.Lx

namespace Go.Proofs.Lx
open Go Go.RowKit Go.Proofs.Tj
set_option linter.unusedVariables false
def addL (X : PX) (x : Nat × Nat) : PX := addP x.2 x.1 X
/-- The pairs (rule, literal), in the order in which they are laid. -/
def prL (S : Stc) (D : Dyn) (k : Nat) : List (Nat × Nat) := (List.range k).flatMap fun s => ((S.foes (S.head s)).filter fun q => decide (D.backs q ≠ 0)).map fun q => (s, q)
theorem pr_row (D : Dyn) (s : Nat) : ∀ (l : List Nat) (X : PX), l.foldl (pr1 D s) X = ((l.filter fun q => decide (D.backs q ≠ 0)).map fun q => (s, q)).foldl addL X
  | [], X => rfl
  | q :: l, X => by
    rw [List.foldl_cons, pr_row D s l]
    by_cases h : D.backs q = 0
    · rw [List.filter_cons_of_neg (by simpa using h)]
      unfold pr1; rw [if_pos h]
    · rw [List.filter_cons_of_pos (by simpa using h), List.map_cons, List.foldl_cons]
      unfold pr1; rw [if_neg h]; rfl
theorem prAll_list (S : Stc) (D : Dyn) (X : PX) : ∀ k, prAll S D X k = (prL S D k).foldl addL X
  | 0 => rfl
  | k + 1 => by
    rw [range_foldl_px, prAll_list S D X k]
    unfold prL prs
    rw [List.range_succ, List.flatMap_append, List.foldl_append, pr_row]
    simp
theorem prL_mem {S : Stc} {D : Dyn} {k : Nat} {x : Nat × Nat} : x ∈ prL S D k ↔ x.1 < k ∧ x.2 ∈ S.foes (S.head x.1) ∧ D.backs x.2 ≠ 0 := by
  obtain ⟨s, q⟩ := x
  unfold prL
  simp only [List.mem_flatMap, List.mem_range, List.mem_map, List.mem_filter, decide_eq_true_eq, Prod.mk.injEq]
  constructor
  · rintro ⟨s', h1, q', ⟨h2, h3⟩, rfl, rfl⟩; exact ⟨h1, h2, h3⟩
  · rintro ⟨h1, h2, h3⟩; exact ⟨s, h1, q, ⟨h2, h3⟩, rfl, rfl⟩
theorem prL_succ (S : Stc) (D : Dyn) (k : Nat) : prL S D (k + 1) = prL S D k ++ ((S.foes (S.head k)).filter fun q => decide (D.backs q ≠ 0)).map fun q => (k, q) := by
  unfold prL; rw [List.range_succ, List.flatMap_append]; simp
theorem prL_nodup {S : Stc} {D : Dyn} : ∀ {k : Nat}, (∀ s, s < k → (S.foes (S.head s)).Nodup) → (prL S D k).Nodup
  | 0, _ => by simp [prL]
  | k + 1, h => by
    rw [prL_succ, List.nodup_append]
    refine ⟨prL_nodup fun s hs => h s (by omega), ?_, fun x hx y hy e => ?_⟩
    · rw [List.nodup_iff_pairwise_ne, List.pairwise_map]
      have hn := h k (by omega)
      rw [List.nodup_iff_pairwise_ne] at hn
      refine (hn.filter _).imp ?_
      intro a b hab e
      exact hab (Prod.mk.inj e).2
    · have h1 := (prL_mem.1 hx).1
      simp only [List.mem_map] at hy
      obtain ⟨q, _, rfl⟩ := hy
      rw [e] at h1; omega
/-- The closed form of what is laid. -/
structure PForm (X0 X : PX) (L : List (Nat × Nat)) : Prop where
  P : X.P = L.length
  at1 : ∀ p (h : p < L.length), X.ps p = L[p].1 ∧ X.pq p = L[p].2
  ofs : ∀ s p, p ∈ X.ofs s ↔ p < L.length ∧ X.ps p = s
  ofn : ∀ s, (X.ofs s).Nodup
  A : L.Nodup → ∀ p (h : p < L.length), X.A L[p].2 L[p].1 = p
  att : L.length ≤ 65536 → ∀ q, X0.att q = 0 → X.att q = ((List.range L.length).countP (fun p => decide (X.pq p = q)) : Nat)
theorem PForm.snoc {X0 X : PX} {L : List (Nat × Nat)} (h : PForm X0 X L) (x : Nat × Nat) : PForm X0 (addL X x) (L ++ [x]) := by
  obtain ⟨s, q⟩ := x
  have hpq : ∀ p, p < L.length → (addL X (s, q)).pq p = X.pq p := fun p hp => Tj.upd_ne (by rw [h.P]; omega)
  have hps : ∀ p, p < L.length → (addL X (s, q)).ps p = X.ps p := fun p hp => Tj.upd_ne (by rw [h.P]; omega)
  have hpq1 : (addL X (s, q)).pq L.length = q := by show Tj.upd X.pq X.P q _ = q; rw [h.P, Tj.upd_same]
  have hps1 : (addL X (s, q)).ps L.length = s := by show Tj.upd X.ps X.P s _ = s; rw [h.P, Tj.upd_same]
  refine ⟨?_, fun p hp => ?_, fun s' p => ?_, fun s' => ?_, fun hn p hp => ?_, fun hl q' h0 => ?_⟩
  · show X.P + 1 = _; rw [h.P]; simp
  · rw [List.length_append, List.length_singleton] at hp
    by_cases e : p = L.length
    · subst e; rw [hps1, hpq1]; simp
    · rw [hps p (by omega), hpq p (by omega), List.getElem_append_left (by omega)]; exact h.at1 p (by omega)
  · show p ∈ Tj.upd X.ofs s (X.ofs s ++ [X.P]) s' ↔ _
    rw [List.length_append, List.length_singleton, h.P]
    by_cases e : s' = s
    · subst e
      rw [Tj.upd_same, List.mem_append, h.ofs, List.mem_singleton]
      constructor
      · rintro (⟨a, b⟩ | rfl)
        · exact ⟨by omega, by rw [hps p a]; exact b⟩
        · exact ⟨by omega, hps1⟩
      · rintro ⟨a, b⟩
        by_cases e2 : p = L.length
        · exact .inr e2
        · exact .inl ⟨by omega, by rw [hps p (by omega)] at b; exact b⟩
    · rw [Tj.upd_ne e, h.ofs]
      constructor
      · rintro ⟨a, b⟩; exact ⟨by omega, by rw [hps p a]; exact b⟩
      · rintro ⟨a, b⟩
        by_cases e2 : p = L.length
        · subst e2; rw [hps1] at b; exact absurd b.symm e
        · exact ⟨by omega, by rw [hps p (by omega)] at b; exact b⟩
  · show (Tj.upd X.ofs s (X.ofs s ++ [X.P]) s').Nodup
    by_cases e : s' = s
    · subst e
      rw [Tj.upd_same, List.nodup_append]
      refine ⟨h.ofn _, by simp, fun a ha b hb => ?_⟩
      rw [List.mem_singleton] at hb
      have := ((h.ofs _ a).1 ha).1
      rw [hb, h.P]; omega
    · rw [Tj.upd_ne e]; exact h.ofn s'
  · rw [List.length_append, List.length_singleton] at hp
    rw [List.nodup_append] at hn
    show upd2 X.A q s X.P _ _ = p
    by_cases e : p = L.length
    · subst e
      have : (L ++ [(s, q)])[L.length] = (s, q) := by simp
      rw [this]
      unfold upd2; rw [Tj.upd_same, Tj.upd_same, h.P]
    · have hlt : p < L.length := by omega
      rw [List.getElem_append_left hlt]
      have hne : L[p] ≠ (s, q) := fun e2 => hn.2.2 L[p] (List.getElem_mem hlt) (s, q) (by simp) e2
      have ih := h.A hn.1 p hlt
      unfold upd2
      by_cases e1 : L[p].2 = q
      · by_cases e3 : L[p].1 = s
        · exact absurd (Prod.ext e3 e1) hne
        · rw [e1, Tj.upd_same, Tj.upd_ne e3, ← e1]; exact ih
      · rw [Tj.upd_ne e1]; exact ih
  · rw [List.length_append, List.length_singleton] at hl
    rw [List.length_append, List.length_singleton, List.range_succ, List.countP_append]
    have ih := h.att (by omega) q' h0
    have hc : (List.range L.length).countP (fun p => decide ((addL X (s, q)).pq p = q')) = (List.range L.length).countP (fun p => decide (X.pq p = q')) := countP_same fun p hp => by rw [hpq p (List.mem_range.1 hp)]
    rw [hc]
    have hle := countP_le_len (fun p => decide (X.pq p = q')) (List.range L.length)
    rw [List.length_range] at hle
    show Tj.upd X.att q (addW (X.att q) 1) q' = _
    by_cases e : q' = q
    · subst e
      rw [Tj.upd_same, ih, List.countP_cons_of_pos (by rw [hpq1]; simp)]
      unfold addW wrap64
      simp only [List.countP_nil]
      omega
    · rw [Tj.upd_ne e, ih, List.countP_cons_of_neg (by rw [hpq1]; simpa using fun k => e k.symm)]
      simp
theorem PForm.start (X0 : PX) (hP : X0.P = 0) (ho : ∀ s, X0.ofs s = []) : PForm X0 X0 [] :=
  ⟨hP, fun p h => absurd h (by simp), fun s p => by rw [ho]; simp, fun s => by rw [ho]; simp, fun _ p h => absurd h (by simp), fun _ q h => by rw [h]; simp⟩
theorem PForm.fold {X0 : PX} : ∀ (l L : List (Nat × Nat)) {X : PX}, PForm X0 X L → PForm X0 (l.foldl addL X) (L ++ l)
  | [], L, X, h => by simpa using h
  | x :: l, L, X, h => by
    have := PForm.fold l (L ++ [x]) (h.snoc x)
    rw [List.append_assoc] at this
    exact this
end Go.Proofs.Lx

namespace Go.Proofs.Lx
open Go Go.RowKit Go.Proofs.Tj
set_option linter.unusedVariables false
def rowB (S : Stc) (T : Th) (A : Nat → Nat → Nat) (t : Nat) : List Nat := if supR S t = true then (btT T t).map fun s => A (S.head t) s else []
def addB (t : Nat) (Y : PY) (p : Nat) : PY := { beats := Tj.upd Y.beats t (Y.beats t ++ [p]), left := Tj.upd Y.left p (addW (Y.left p) 1) }
theorem bts_row (S : Stc) (T : Th) (A : Nat → Nat → Nat) (Y : PY) (t : Nat) : bts S T A Y t = (rowB S T A t).foldl (addB t) Y := by
  unfold bts rowB; split
  · rw [List.foldl_map]; rfl
  · rfl
theorem addB_beats (t r : Nat) : ∀ (l : List Nat) (Y : PY), (l.foldl (addB t) Y).beats r = if r = t then Y.beats t ++ l else Y.beats r
  | [], Y => by by_cases e : r = t <;> simp [e]
  | p :: l, Y => by
    rw [List.foldl_cons, addB_beats t r l]
    show (if r = t then Tj.upd Y.beats t (Y.beats t ++ [p]) t ++ l else Tj.upd Y.beats t (Y.beats t ++ [p]) r) = _
    by_cases e : r = t
    · rw [if_pos e, if_pos e, Tj.upd_same, List.append_assoc]; rfl
    · rw [if_neg e, if_neg e, Tj.upd_ne e]
theorem addB_left (t p : Nat) : ∀ (l : List Nat) (Y : PY) (n : Nat), Y.left p = (n : Int) → n + l.length ≤ 1000000000 → (l.foldl (addB t) Y).left p = ((n + l.count p : Nat) : Int)
  | [], Y, n, h, _ => by simpa using h
  | x :: l, Y, n, h, hn => by
    rw [List.length_cons] at hn
    rw [List.foldl_cons]
    by_cases e : x = p
    · subst e
      rw [addB_left t x l _ (n + 1) (by
        show Tj.upd Y.left x (addW (Y.left x) 1) x = _
        rw [Tj.upd_same, h]; unfold addW wrap64; omega) (by omega), List.count_cons_self]
      congr 1; omega
    · rw [addB_left t p l _ n (by
        show Tj.upd Y.left x (addW (Y.left x) 1) p = _
        rw [Tj.upd_ne (fun k => e k.symm)]; exact h) (by omega), List.count_cons_of_ne e]
/-- The closed form, rows each once. -/
theorem btAll_form (S : Stc) (T : Th) (A : Nat → Nat → Nat) (Y : PY) (hb : ∀ t, Y.beats t = []) (hl : ∀ p, Y.left p = 0) (hlen : ∀ t, (rowB S T A t).length ≤ 4096) : ∀ k, k ≤ 4096 →
    (∀ t, (btAll S T A Y k).beats t = if t < k then rowB S T A t else []) ∧ ∀ p, ∃ n : Nat, n ≤ k * 4096 ∧ (btAll S T A Y k).left p = (n : Int) ∧ n = ((List.range k).map fun t => (rowB S T A t).count p).sum
  | 0, _ => ⟨fun t => by rw [if_neg (by omega)]; exact hb t, fun p => ⟨0, by omega, hl p, by simp⟩⟩
  | k + 1, hk => by
    obtain ⟨h1, h2⟩ := btAll_form S T A Y hb hl hlen k (by omega)
    rw [btAll_succ, bts_row]
    refine ⟨fun t => ?_, fun p => ?_⟩
    · rw [addB_beats]
      by_cases e : t = k
      · subst e; rw [if_pos rfl, h1 t, if_neg (by omega), List.nil_append, if_pos (by omega)]
      · rw [if_neg e, h1 t]
        by_cases e2 : t < k
        · rw [if_pos e2, if_pos (by omega)]
        · rw [if_neg e2, if_neg (by omega)]
    · obtain ⟨n, hn, he, hs⟩ := h2 p
      have hl2 := hlen k
      have hc : (rowB S T A k).count p ≤ (rowB S T A k).length := List.count_le_length
      refine ⟨n + (rowB S T A k).count p, by omega, addB_left k p _ _ n he (by omega), ?_⟩
      rw [List.range_succ, List.map_append, List.sum_append, ← hs]; simp
theorem sum_count (f : Nat → List Nat) (p : Nat) : ∀ k, (∀ t, t < k → (f t).Nodup) → ((List.range k).map fun t => (f t).count p).sum = (List.range k).countP fun t => decide (p ∈ f t)
  | 0, _ => by simp
  | k + 1, h => by
    rw [List.range_succ, List.map_append, List.sum_append, List.countP_append, sum_count f p k fun t ht => h t (by omega)]
    congr 1
    have hn := h k (by omega)
    by_cases hp : p ∈ f k
    · have h5 := List.nodup_iff_count.1 hn p
      have h6 := List.count_pos_iff.2 hp
      simp [hp]; omega
    · simp [hp, List.count_eq_zero.2 hp]
end Go.Proofs.Lx

namespace Go.Proofs.Lx
open Go Go.RowKit Go.Proofs.Tj
set_option linter.unusedVariables false
def cStr (S : Stc) (k q : Nat) : Nat := (List.range k).countP fun r => strR S r && decide (S.head r = q)
def cSup (S : Stc) (k q : Nat) : Nat := (List.range k).countP fun r => supR S r && decide (S.head r = q)
theorem cStr_succ (S : Stc) (k q : Nat) : cStr S (k + 1) q = cStr S k q + if strR S k = true ∧ S.head k = q then 1 else 0 := by
  unfold cStr
  rw [List.range_succ, List.countP_append]
  congr 1
  by_cases h : strR S k = true ∧ S.head k = q
  · rw [if_pos h]; simp [h.1, h.2]
  · rw [if_neg h]
    rw [List.countP_eq_zero]
    intro r hr
    rw [List.mem_singleton] at hr
    subst hr
    simpa using fun a b => h ⟨a, b⟩
theorem cSup_succ (S : Stc) (k q : Nat) : cSup S (k + 1) q = cSup S k q + if supR S k = true ∧ S.head k = q then 1 else 0 := by
  unfold cSup
  rw [List.range_succ, List.countP_append]
  congr 1
  by_cases h : supR S k = true ∧ S.head k = q
  · rw [if_pos h]; simp [h.1, h.2]
  · rw [if_neg h]
    rw [List.countP_eq_zero]
    intro r hr
    rw [List.mem_singleton] at hr
    subst hr
    simpa using fun a b => h ⟨a, b⟩
theorem addW_small {x : Int} (h0 : -100000 ≤ x) (h1 : x ≤ 100000) : addW x 1 = x + 1 := by unfold addW wrap64; omega
theorem layD1_form (T : Th) : ∀ k, k ≤ 4096 → (∀ q, (layD1 T k).strict q = (cStr (stc0 T) k q : Int)) ∧ (∀ q, (layD1 T k).backs q = (cSup (stc0 T) k q : Int)) ∧ ∀ r, r < k → (layD1 T k).needD r = ((stc0 T).bodyLen r : Int) ∧ (layD1 T k).need r = ((stc0 T).bodyLen r : Int)
  | 0, _ => ⟨fun q => by simp [layD1, cStr, dyn0], fun q => by simp [layD1, cSup, dyn0], fun r h => absurd h (by omega)⟩
  | k + 1, hk => by
    obtain ⟨h1, h2, h3⟩ := layD1_form T k (by omega)
    rw [layD1_succ]
    generalize hS : stc0 T = S at *
    generalize layD1 T k = D at *
    have c1 : ∀ q, cStr S k q ≤ k := fun q => by have := countP_le_len (fun r => strR S r && decide (S.head r = q)) (List.range k); rwa [List.length_range] at this
    have c2 : ∀ q, cSup S k q ≤ k := fun q => by have := countP_le_len (fun r => supR S r && decide (S.head r = q)) (List.range k); rwa [List.length_range] at this
    have e1 : (layRD S D k).strict = (layA S (setNeeds D k (S.bodyLen k : Int)) k).strict := by unfold layRD layB; split <;> rfl
    have e2 : (layA S (setNeeds D k (S.bodyLen k : Int)) k).backs = D.backs := by unfold layA; split <;> rfl
    have e3 : (layRD S D k).needD = (setNeeds D k (S.bodyLen k : Int)).needD := by unfold layRD layB layA; split <;> split <;> rfl
    have e4 : (layRD S D k).need = (setNeeds D k (S.bodyLen k : Int)).need := by unfold layRD layB layA; split <;> split <;> rfl
    refine ⟨fun q => ?_, fun q => ?_, fun r hr => ?_⟩
    · rw [e1, cStr_succ]
      unfold layA
      by_cases hs : strR S k = true
      · rw [if_pos hs]
        show Tj.upd D.strict (S.head k) (addW (D.strict (S.head k)) 1) q = _
        have := c1 (S.head k)
        by_cases e : q = S.head k
        · subst e; rw [Tj.upd_same, h1, addW_small (by omega) (by omega), if_pos ⟨hs, rfl⟩]; omega
        · rw [Tj.upd_ne e, h1, if_neg (fun k => e k.2.symm)]; omega
      · rw [if_neg hs, if_neg (fun k => hs k.1)]
        show D.strict q = _; rw [h1]; omega
    · rw [cSup_succ]
      unfold layRD layB
      by_cases hs : supR S k = true
      · rw [if_pos hs]
        show Tj.upd (layA S (setNeeds D k (S.bodyLen k : Int)) k).backs (S.head k) (addW ((layA S (setNeeds D k (S.bodyLen k : Int)) k).backs (S.head k)) 1) q = _
        rw [e2]
        have := c2 (S.head k)
        by_cases e : q = S.head k
        · subst e; rw [Tj.upd_same, h2, addW_small (by omega) (by omega), if_pos ⟨hs, rfl⟩]; omega
        · rw [Tj.upd_ne e, h2, if_neg (fun k => e k.2.symm)]; omega
      · rw [if_neg hs, if_neg (fun k => hs k.1), e2, h2]; omega
    · rw [e3, e4]
      show Tj.upd D.needD k _ r = _ ∧ Tj.upd D.need k _ r = _
      by_cases e : r = k
      · subst e; rw [Tj.upd_same, Tj.upd_same]; exact ⟨rfl, rfl⟩
      · rw [Tj.upd_ne e, Tj.upd_ne e]; exact h3 r (by omega)
end Go.Proofs.Lx
