/- Contract of slices.Clone over []int; words for Cycle's walk. -/
import Derived.Test.YtmfnhpcddkkaaaaOd
import Derived.WalkSmall
import Derived.WalkSpells
namespace Go.Proofs.Lx
open Go Go.RowKit Go.Proofs.Tj
set_option linter.unusedSimpArgs false
set_option linter.unusedVariables false

theorem own_rdS {α : Type} {enc : α → Value} {w : World} {base eI : Nat} {v : Value} {xs : List α} (h : w.ownsRow base eI 1 v xs.length (xs.map enc)) (hl : xs.length ≤ 140737488355328) : Rd 1 (scR enc) w v xs := by
  rcases h.2 with ⟨rfl, h0⟩ | ⟨gg, cap, cur, rfl, _, _, hc, _⟩
  · exact ⟨none, 0, by rw [h0], by omega, hl, fun i hi => absurd hi (by omega)⟩
  · refine ⟨_, cap, rfl, hc, hl, fun i hi => ⟨_, _, rfl, rfl, rfl, fun j u hu => ?_⟩⟩
    match j, hu with
    | 0, hu =>
      simp at hu; subst hu
      have := h.cells (g := gg) rfl i (enc xs[i]) (by simp [hi])
      rw [Nat.add_zero, Nat.mul_one]; exact this
theorem own_at {w : World} {base e n : Nat} {v : Value} {xs : List Value} (h : w.ownsRow base e 1 v n xs) {i : Nat} (hi : i < n) (hx : i < xs.length) : ∃ g cap, v = .slice (some ⟨g, 0, none⟩) n cap ∧ base ≤ g ∧ w.cell? ⟨g, i, none⟩ = some xs[i] := by
  rcases h.2 with ⟨h1, h2⟩ | ⟨gg, cp, cur, h1, h2, h3, h4, h5, h6, h7⟩
  · omega
  · subst h1
    exact ⟨gg, cp, rfl, h2, by have := h.cells (g := gg) rfl i xs[i] (by simp [hx]); rwa [add_plain] at this⟩
abbrev ints (R : List Nat) : List Int := R.map fun (q : Nat) => (q : Int)
theorem own_ints {w : World} {base : Nat} {v : Value} {R : List Nat} (h : w.ownsRow base 3 1 v R.length (intN R)) (hl : R.length ≤ 140737488355328) : RdI w v (ints R) := by
  refine own_rdS (base := base) (eI := 3) ?_ (by simpa [ints] using hl)
  rw [List.map_map, List.length_map]
  exact h
theorem rd_drop {α : Type} {enc : α → Value} {w : World} {ad : Addr} {n c : Nat} {xs : List α} (h : Rd 1 (scR enc) w (.slice (some ad) n c) xs) {i : Nat} (hi : i ≤ n) : Rd 1 (scR enc) w (.slice (some (ad.add i)) (n - i) (c - i)) (xs.drop i) := by
  obtain ⟨A, c', e, h1, h2, h3⟩ := h
  cases e
  refine ⟨_, _, by rw [List.length_drop], by rw [List.length_drop]; omega, by rw [List.length_drop]; omega, fun j hj => ?_⟩
  rw [List.length_drop] at hj
  obtain ⟨ad', cs, e, hr, hl, hc⟩ := h3 (i + j) (by omega)
  cases e
  refine ⟨_, cs, rfl, by rw [List.getElem_drop]; exact hr, hl, fun k u hu => ?_⟩
  have := hc k u hu
  rw [add_add]
  rw [show i + (j * 1 + k) = (i + j) * 1 + k by omega]; exact this

set_option maxHeartbeats 800000 in
theorem cloneI_any (w : World) (v : Value) (M : List Int) (hv : RdI w v M) (hl : M.length ≤ 1048576) :
    Calls Try.prog 13 #[v] w (Ret fun r w' => w'.ownsRow w.heap.size 3 1 r M.length (M.map (Value.int .i64)) ∧ Below w.heap.size w w') := by
  obtain ⟨A, c, rfl, hc, hb, hr⟩ := hv
  have hne := @Lib.run_eql_slice_nil Try.prog
  obtain ⟨i0, hi, hz0, hz1, hz2⟩ := info_parts infoI
  refine post_gen fun Q HQ => ?_
  cases A with
  | none =>
    have hM : M.length = 0 := by
      rcases Nat.eq_zero_or_pos M.length with h | h
      · exact h
      · obtain ⟨ad, _, h1, _⟩ := hr 0 h; cases h1
    have HM := hid (List.eq_nil_of_length_eq_zero hM)
    have hM0 : M.length ≤ 0 := by omega
    clear hM hr
    clear hl
    generalize hL : M.length = L at *
    have HL := hid hL
    clear hL
    go_enter Try.func13, Try.ntmps13
    go_wp2
    go_ret
    exact Fin HQ ⟨by rw [HM.out]; rw [HM.out] at HL; obtain rfl : 0 = L := HL.out; exact World.ownsRow_nil _ _ _ _, ext_refl _⟩
  | some ad =>
    have hn : ∀ (W : World), Below w.heap.size w W → ∀ j u, (M.map (Value.int .i64))[j]? = some u → W.cell? (ad.add j) = some u := by
      intro W hW j u hj
      obtain ⟨hjl, rfl⟩ := List.getElem?_eq_some_iff.1 hj
      simp only [List.length_map] at hjl
      obtain ⟨ad', e, h1⟩ := hr.at1 hjl
      cases e
      have := cell_ext hW h1
      simpa using this
    have Hn := hid hn
    clear hn hr
    go_enter Try.func13, Try.ntmps13
    go_wp2_with (at_builtin; refine wpList_append_own _ rfl _ _ 24 rfl w.heap.size 3 i0 (.int .i64 0) 1 8 Try.underlying24 hi hz0 hz1 hz2 rfl (by decide) _ 0 [] rfl (World.ownsRow_made w #[] 0 (Nat.le_refl _) (by unfold maxLen; omega) rfl) ad M.length c (M.map (Value.int .i64)) rfl (by simp) (Hn.out _ (ext_alloc _ _)) ?c1 ?c2 ?c3 ?c4 ?_)
    case c1 => intro u hu; obtain ⟨x, _, rfl⟩ := List.mem_map.1 hu; rfl
    case c2 => unfold maxLen; omega
    case c3 => omega
    case c4 => simp
    intro v' w1 hown hgrow _
    go_wp2
    go_ret
    refine Fin HQ ⟨by simpa using hown, ?_⟩
    exact ((ext_alloc w _).grown hgrow (by simp) (fun k hk => by simp [Value.ownBlock] at hk; omega))

theorem nodup_len {l : List Nat} {n : Nat} (hnd : l.Nodup) (hlt : ∀ x ∈ l, x < n) : l.length ≤ n := by
  have h1 := count_range_le l (List.range n) hnd
  have h2 : l.countP (fun q => decide (q ∈ List.range n)) = l.length := by
    rw [List.countP_eq_length]
    intro x hx
    rw [decide_eq_true_eq, List.mem_range]
    exact hlt x hx
  rw [h2, List.length_range] at h1
  exact h1
/-- A ring of places. -/
def Ring (B : List (List Int)) (L : List Nat) : Prop := L ≠ [] ∧ L.Nodup ∧ ∀ x ∈ L, x < B.length ∧ ∃ k ∈ L, EdgeB B x k
theorem way_ring {B : List (List Int)} {st nx : Nat → Nat} {way fin : List Nat} (h : Tj.Way B st nx way fin) {x k i : Nat} (hw : way.getLast? = some x) (he : EdgeB B x k) (hi : i < way.length) (hk : way[i] = k) : Ring B (way.drop i) := by
  have hlast : way.length - 1 < way.length := by omega
  have hlx : way[way.length - 1] = x := by
    rw [List.getLast?_eq_getElem?, List.getElem?_eq_getElem hlast] at hw
    simpa using hw
  refine ⟨by rw [Ne, List.drop_eq_nil_iff]; omega, h.nd.sublist (List.drop_sublist _ _), fun y hy => ⟨h.wlt y (List.mem_of_mem_drop hy), ?_⟩⟩
  obtain ⟨a, ha, rfl⟩ := List.getElem_of_mem hy
  rw [List.length_drop] at ha
  rw [List.getElem_drop]
  by_cases hl : i + a + 1 < way.length
  · refine ⟨way[i + a + 1], ?_, h.path (i + a) hl⟩
    have : way[i + a + 1] = (way.drop i)[a + 1]'(by rw [List.length_drop]; omega) := by rw [List.getElem_drop]; rfl
    rw [this]; exact List.getElem_mem _
  · refine ⟨k, ?_, ?_⟩
    · have : k = (way.drop i)[0]'(by rw [List.length_drop]; omega) := by rw [List.getElem_drop]; exact hk.symm
      rw [this]; exact List.getElem_mem _
    · have e : i + a = way.length - 1 := by omega
      have : way[i + a]'(by omega) = x := by simp only [e]; exact hlx
      rw [this]; exact he
/-- How many rounds are to come. -/
def fresh (n : Nat) (st : Nat → Nat) : Nat := sumTo n fun q => if st q = 0 then 1 else 0
theorem fresh_take {n : Nat} {st : Nat → Nat} {k : Nat} (hk : k < n) (hf : st k = 0) (v : Nat) (hv : v ≠ 0) : fresh n (fun q => if q = k then v else st q) + 1 = fresh n st := by
  unfold fresh
  rw [sumTo_one (f := fun q => if st q = 0 then 1 else 0) hk, hf, sumTo_one (f := fun q => if (if q = k then v else st q) = 0 then 1 else 0) hk]
  simp only [if_true, hv, if_false]
  rw [sumTo_congr (f := fun y => if y = k then 0 else if (if y = k then v else st y) = 0 then 1 else 0) (g := fun y => if y = k then 0 else if st y = 0 then 1 else 0) (fun y _ => by by_cases e : y = k <;> simp [e])]
theorem fresh_le {n : Nat} {st : Nat → Nat} {k v : Nat} (hk : st k ≠ 0) (hv : v ≠ 0) : fresh n (fun q => if q = k then v else st q) = fresh n st := by
  unfold fresh
  refine sumTo_congr fun y _ => ?_
  by_cases e : y = k
  · subst e; simp [hv, hk]
  · simp [e]
theorem fresh_bound (n : Nat) (st : Nat → Nat) : fresh n st ≤ n := by
  unfold fresh
  induction n with
  | zero => exact Nat.le_refl _
  | succ n ih => rw [sumTo]; split <;> omega
end Go.Proofs.Lx
