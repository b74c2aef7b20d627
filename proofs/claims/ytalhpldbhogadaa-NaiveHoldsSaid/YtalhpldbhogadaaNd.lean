/- Contracts of slices.Clone, slices.Equal over marks. -/
import Derived.Test.YtalhpldbhogadaaNa
import Derived.Test.YtalhpldbhogadaaRb
import Derived.WalkSpells
namespace Go.Proofs.Lx
open Go Go.RowKit
set_option linter.unusedSimpArgs false
set_option linter.unusedVariables false

abbrev marksV (M : List Nat) : List Value := M.map fun (x : Nat) => Value.int .u8 (x : Int)
theorem own_rdS {α : Type} {enc : α → Value} {w : World} {base eI : Nat} {v : Value} {xs : List α} (h : w.ownsRow base eI 1 v xs.length (xs.map enc)) (hl : xs.length ≤ 140737488355328) : Rd 1 (scR enc) w v xs := by
  rcases h.2 with ⟨rfl, h0⟩ | ⟨gg, cap, cur, rfl, _, _, hc, _⟩
  · exact ⟨none, 0, by rw [h0], by omega, hl, fun i hi => absurd hi (by omega)⟩
  · refine ⟨_, cap, rfl, hc, hl, fun i hi => ⟨_, _, rfl, rfl, rfl, fun j u hu => ?_⟩⟩
    match j, hu with
    | 0, hu =>
      simp at hu; subst hu
      rw [add_plain, Nat.add_zero, Nat.mul_one, h.cellAt i (by omega)]
      simp [hi]

theorem cloneM_any (w : World) (v : Value) (M : List Nat) (hv : RdMk w v M) :
    Calls Try.prog 86 #[v] w (Ret fun r w' => w'.ownsRow w.heap.size 33 1 r M.length (marksV M) ∧ Below w.heap.size w w') := by
  obtain ⟨A, c, rfl, hc, hb, hr⟩ := hv
  have hne := @Lib.run_eql_slice_nil Try.prog
  obtain ⟨i0, hi, hz0, hz1, hz2⟩ := info_parts infoM
  refine post_gen fun Q HQ => ?_
  cases A with
  | none =>
    have hM : M.length = 0 := by
      rcases Nat.eq_zero_or_pos M.length with h | h
      · exact h
      · obtain ⟨ad, _, h1, _⟩ := hr 0 h; cases h1
    have HM := hid (List.eq_nil_of_length_eq_zero hM)
    have hM0 : M.length ≤ 0 := by omega
    clear hM hr
    generalize hL : M.length = L at *
    have HL := hid hL
    clear hL
    go_enter Try.func86, Try.ntmps86
    go_wp2
    go_ret
    exact Fin HQ ⟨by rw [HM.out]; rw [HM.out] at HL; obtain rfl : 0 = L := HL.out; exact World.ownsRow_nil _ _ _ _, ext_refl _⟩
  | some ad =>
    have hn : ∀ (W : World), Below w.heap.size w W → ∀ j u, (marksV M)[j]? = some u → W.cell? (ad.add j) = some u := by
      intro W hW j u hj
      obtain ⟨hjl, rfl⟩ := List.getElem?_eq_some_iff.1 hj
      simp only [marksV, List.length_map] at hjl
      obtain ⟨ad', e, h1⟩ := hr.at1 hjl
      cases e
      have := cell_ext hW h1
      simpa [marksV] using this
    have Hn := hid hn
    clear hn hr
    go_enter Try.func86, Try.ntmps86
    go_wp2_with (at_builtin; refine wpList_append_own _ rfl _ _ 28 rfl w.heap.size 33 i0 (.int .u8 0) 1 1 Try.underlying28 hi hz0 hz1 hz2 rfl (by decide) _ 0 [] rfl (World.ownsRow_made w #[] 0 (Nat.le_refl _) (by unfold maxLen; omega) rfl) ad M.length c (marksV M) rfl (by simp) (Hn.out _ (ext_alloc _ _)) ?c1 ?c2 ?c3 ?c4 ?_)
    case c1 => intro u hu; obtain ⟨x, _, rfl⟩ := List.mem_map.1 hu; rfl
    case c2 => unfold maxLen; omega
    case c3 => omega
    case c4 => simp
    intro v' w1 hown hgrow _
    go_wp2
    go_ret
    refine Fin HQ ⟨by simpa using hown, ?_⟩
    exact ((ext_alloc w _).grown hgrow (by simp) (fun k hk => by simp [Value.ownBlock] at hk; omega))
end Go.Proofs.Lx
