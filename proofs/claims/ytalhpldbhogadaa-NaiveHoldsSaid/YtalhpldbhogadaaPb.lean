/- Plain law: two foes that are both +d are both +D. -/
import Derived.Test.YtalhpldbhogadaaPa
namespace Go.Proofs.Lx
open Go Go.RowKit Go.Proofs.Tj
set_option linter.unusedSimpArgs false
set_option linter.unusedVariables false

theorem countP_lt {α : Type} {p q : α → Bool} : ∀ {l : List α} {x : α}, (∀ y ∈ l, p y = true → q y = true) → x ∈ l → q x = true → p x = false → l.countP p < l.countP q
  | [], x, _, hx, _, _ => by simp at hx
  | y :: l, x, h, hx, h1, h2 => by
    rw [List.countP_cons, List.countP_cons]
    have hle : l.countP p ≤ l.countP q := List.countP_mono_left fun z hz => h z (List.mem_cons_of_mem _ hz)
    by_cases e : x = y
    · subst e
      rw [h1, h2]; simp; omega
    · have hx' : x ∈ l := by simpa [e] using hx
      have ih := countP_lt (fun z hz => h z (List.mem_cons_of_mem _ hz)) hx' h1 h2
      have hy := h y List.mem_cons_self
      cases hp : p y with
      | false => simp; split <;> omega
      | true => rw [hy hp]; simp; omega

section
variable {T : Th} {l : List Int}
theorem row_nat (xs : List (List Int)) (q : Nat) (hq : q < xs.length) : row xs (q : Int) = xs[q] := by simp [row, hq]
theorem mem_heads {q : Nat} {r : Int} (hq : q < T.foes.length) : r ∈ row (rulesRows T.rules T.foes.length T.rules.length) (q : Int) ↔ ∃ i : Nat, i < T.rules.length ∧ r = i ∧ (T.rules.getD i default).head = q := by
  rw [row_nat _ _ (by rw [rulesRows_length]; exact hq), rulesRows_at _ _ _ hq]
  exact mem_rulesUpto
theorem foe_in (hwf : WfTh T) {i : Nat} (hi : i < T.foes.length) {f : Int} (hf : f ∈ T.foes[i]) : ∃ j : Nat, j < T.foes.length ∧ f = j ∧ j ≠ i ∧ (i : Int) ∈ row T.foes (j : Int) := by
  obtain ⟨h1, h2, h3, h4⟩ := foesOk_spec hwf.fo i hi
  obtain ⟨a, ha, e⟩ := List.getElem_of_mem hf
  have hb := (risB_spec h2).1 a ha
  rw [e] at hb
  have hfl := hwf.fl
  refine ⟨f.toNat, by omega, by omega, ?_, ?_⟩
  · intro e2
    apply memB_false.1 h3
    have : (i : Int) = f := by omega
    rw [this]; exact hf
  · have := memB_true.1 (h4 f hf)
    rw [show ((f.toNat : Nat) : Int) = f by omega]
    exact this
open Classical in
theorem no_chain (hwf : WfTh T) (C : Nat → Prop) (hC : ∀ s, C s → s < T.rules.length ∧ ∃ r, C r ∧ r ≠ s ∧ s ∈ adjN (beatsAt T) r) : ∀ N s, ((List.range T.rules.length).countP fun y => decide (Leads (adjN (beatsAt T)) y s)) ≤ N → ¬ C s := by
  intro N
  induction N with
  | zero =>
    intro s hs hc
    obtain ⟨hlt, _⟩ := hC s hc
    have : 0 < (List.range T.rules.length).countP fun y => decide (Leads (adjN (beatsAt T)) y s) := List.countP_pos_iff.2 ⟨s, List.mem_range.2 hlt, by simp [Leads.refl]⟩
    omega
  | succ N ih =>
    intro s hs hc
    obtain ⟨hlt, r, hr, hne, he⟩ := hC s hc
    have hrl := (hC r hr).1
    refine ih r ?_ hr
    have : ((List.range T.rules.length).countP fun y => decide (Leads (adjN (beatsAt T)) y r)) < ((List.range T.rules.length).countP fun y => decide (Leads (adjN (beatsAt T)) y s)) := by
      refine countP_lt (x := s) (fun y _ hy => ?_) (List.mem_range.2 hlt) (by simp [Leads.refl]) ?_
      · rw [decide_eq_true_eq] at hy ⊢
        exact .step hy he
      · rw [decide_eq_false_iff_not]
        intro hsr
        exact hne (hwf.nk r s hrl hlt (Leads.edge he) hsr)
    omega
theorem consist (hwf : WfTh T) {i j : Nat} (hi : i < T.foes.length) (hj : (j : Int) ∈ T.foes[i])
    (h2i : hasM (solveM T l) 2 (i : Int) = true) (h2j : hasM (solveM T l) 2 (j : Int) = true) : hasM (solveM T l) 0 (i : Int) = true ∧ hasM (solveM T l) 0 (j : Int) = true := by
  obtain ⟨j', hjn, e, hne, hij⟩ := foe_in hwf hi hj
  obtain rfl : j = j' := by omega
  have hm := solve_made T l
  have hji : (j : Int) ∈ row T.foes (i : Int) := by rw [row_nat _ _ hi]; exact hj
  have Pi := hm.sup 2 _ (by omega) h2i
  have Pj := hm.sup 2 _ (by omega) h2j
  rw [Int.toNat_natCast, plusP_iff] at Pi Pj
  rcases Pi with Pi | ⟨⟨ri, hri, hsi, hwi⟩, hfi, hai⟩
  · refine ⟨Pi, ?_⟩
    rcases Pj with Pj | ⟨_, hfj, _⟩
    · exact Pj
    · exact absurd ⟨Pi, hfj _ hij⟩ (hm.coh _).1
  · rcases Pj with Pj | ⟨⟨rj, hrj, hsj, hwj⟩, hfj, haj⟩
    · exact absurd ⟨Pj, hfi _ hji⟩ (hm.coh _).1
    · exfalso
      obtain ⟨a, ha, rfl, hah⟩ := (mem_heads hi).1 hri
      refine no_chain hwf (fun s => s < T.rules.length ∧ ((T.rules.getD s default).head = i ∨ (T.rules.getD s default).head = j) ∧ supB T (s : Int) = true ∧ wholeB T (solveM T l) 2 (s : Int) = true) ?_ _ a (Nat.le_refl _) ⟨ha, .inl hah, hsi, hwi⟩
      rintro s ⟨hs, hh, hss, hsw⟩
      refine ⟨hs, ?_⟩
      have edge : ∀ r : Nat, beatsB T (r : Int) (s : Int) = true → s ∈ adjN (beatsAt T) r := by
        intro r hb
        have h1 : (s : Int) ∈ T.beats.getD r [] := memB_true.1 hb
        exact List.mem_map.2 ⟨_, h1, by simp⟩
      rcases hh with hh | hh
      · have hsr := (mem_heads hi).2 ⟨s, hs, rfl, hh⟩
        rcases haj _ hij _ hsr with h | ⟨r, hr, h1, h2, h3⟩
        · exact ((whole_some hm.coh).2 hsw h).elim
        · obtain ⟨b, hb, rfl, hbh⟩ := (mem_heads hjn).1 hr
          exact ⟨b, ⟨hb, .inr hbh, h1, h3⟩, fun e => by subst e; omega, edge _ h2⟩
      · have hsr := (mem_heads hjn).2 ⟨s, hs, rfl, hh⟩
        rcases hai _ hji _ hsr with h | ⟨r, hr, h1, h2, h3⟩
        · exact ((whole_some hm.coh).2 hsw h).elim
        · obtain ⟨b, hb, rfl, hbh⟩ := (mem_heads hi).1 hr
          exact ⟨b, ⟨hb, .inl hbh, h1, h3⟩, fun e => by subst e; omega, edge _ h2⟩
end
end Go.Proofs.Lx
