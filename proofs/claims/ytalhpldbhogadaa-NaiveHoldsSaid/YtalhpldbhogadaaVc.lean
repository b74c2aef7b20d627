/- Contract of theory.knot. -/
import Derived.Test.YtalhpldbhogadaaVb
namespace Go.Proofs.Lx
open Go Go.RowKit Go.Proofs.Tj
set_option linter.unusedSimpArgs false
set_option linter.unusedVariables false

theorem visit_any (W0 : World) (n : Nat) (gf : Nat) (caps : Array Value) (adjI : Nat → List Int) (b gI gL gO gF base : Nat) (hn : n ≤ 4096) (hgf : Enters Try.prog gf) (hnext : Nexts W0 n gf caps adjI) (hadj : AdjOk n adjI) :
    ∀ m, Visits W0 n gf caps adjI b gI gL gO gF base m := by
  intro m
  induction m using Nat.strongRecOn with
  | _ m ih => exact visit_step W0 n gf caps adjI b gI gL gO gF base m hn hgf hnext hadj ih

theorem tab_zero {α : Type} (n : Nat) (z : α) : tab n (fun _ => z) = List.replicate n z := by
  apply List.ext_getElem <;> simp [tab]
theorem madeI_at {w : World} {n g : Nat} (hg : g = w.heap.size) : Arr (fun x : Nat => Value.int .i64 (x : Int)) 3 (w.alloc (.cells (madeCells #[.int .i64 0] n) 3)) g (tab n fun _ => 0) := by
  subst hg; rw [tab_zero]; exact made_arr (fun x : Nat => Value.int .i64 (x : Int)) 0 3 w n
theorem madeB_at {w : World} {n g : Nat} (hg : g = w.heap.size) : Arr Value.bool 4 (w.alloc (.cells (madeCells #[.bool false] n) 4)) g (tab n fun _ => false) := by
  subst hg; rw [tab_zero]; exact made_arr Value.bool false 4 w n
/-- Four new blocks, one of bools. -/
theorem kn_start {W0 : World} {n : Nat} {fv : Value} {X0 X1 X2 X3 : Obj} (iI iL iO iF : Nat) (h4 : iI < 4 ∧ iL < 4 ∧ iO < 4 ∧ iF < 4) (hd : iI ≠ iL ∧ iI ≠ iO ∧ iI ≠ iF ∧ iL ≠ iO ∧ iL ≠ iF ∧ iO ≠ iF)
    (hX : ∀ k, k < 4 → ([X0, X1, X2, X3] : List Obj)[k]? = some (if k = iO then .cells (madeCells #[.bool false] n) 4 else .cells (madeCells #[.int .i64 0] n) 3)) :
    KN W0 n fv (W0.heap.size + 4) (W0.heap.size + iI) (W0.heap.size + iL) (W0.heap.size + iO) (W0.heap.size + iF) (W0.heap.size + 5) Tj.blank (.slice none 0 0)
      (((((W0.alloc X0).alloc X1).alloc X2).alloc X3).alloc (.cells #[fv, .slice (some ⟨W0.heap.size + iI, 0, none⟩) n n, .slice (some ⟨W0.heap.size + iL, 0, none⟩) n n, .slice (some ⟨W0.heap.size + iO, 0, none⟩) n n, .slice none 0 0, .slice (some ⟨W0.heap.size + iF, 0, none⟩) n n, .int .i64 0, .int .i64 0] 153)).drew := by
  have hb : ∀ k, k < 4 → ((((W0.alloc X0).alloc X1).alloc X2).alloc X3).heap[W0.heap.size + k]? = some (if k = iO then .cells (madeCells #[.bool false] n) 4 else .cells (madeCells #[.int .i64 0] n) 3) := by
    intro k hk
    rw [← hX k hk]
    show ((((W0.heap.push X0).push X1).push X2).push X3)[W0.heap.size + k]? = _
    simp only [Array.getElem?_push, Array.size_push]
    rcases (show k = 0 ∨ k = 1 ∨ k = 2 ∨ k = 3 by omega) with rfl | rfl | rfl | rfl
    · rw [if_neg (by omega), if_neg (by omega), if_neg (by omega), if_pos (by omega)]; rfl
    · rw [if_neg (by omega), if_neg (by omega), if_pos (by omega)]; rfl
    · rw [if_neg (by omega), if_pos (by omega)]; rfl
    · rw [if_pos (by omega)]; rfl
  have hI : ∀ k, k < 4 → k ≠ iO → Arr (fun x : Nat => Value.int .i64 (x : Int)) 3 ((((W0.alloc X0).alloc X1).alloc X2).alloc X3) (W0.heap.size + k) (tab n fun _ => 0) := by
    intro k hk hne
    have h1 := madeI_at (w := W0) (n := n) rfl
    unfold Arr at h1 ⊢
    rw [heap_alloc_new] at h1
    rw [hb k hk, if_neg hne]; exact h1
  have hB : Arr Value.bool 4 ((((W0.alloc X0).alloc X1).alloc X2).alloc X3) (W0.heap.size + iO) (tab n fun _ => false) := by
    have h1 := madeB_at (w := W0) (n := n) rfl
    unfold Arr at h1 ⊢
    rw [heap_alloc_new] at h1
    rw [hb iO h4.2.2.1, if_pos rfl]; exact h1
  have hs : ((((W0.alloc X0).alloc X1).alloc X2).alloc X3).heap.size = W0.heap.size + 4 := by simp
  have ho : Below W0.heap.size W0 ((((W0.alloc X0).alloc X1).alloc X2).alloc X3) := (((ext_alloc W0 X0).alloc (by simp) X1).alloc (by simp; omega) X2).alloc (by simp; omega) X3
  have a1 := hI iI h4.1 hd.2.1
  have a2 := hI iL h4.2.1 hd.2.2.2.1
  have a4 := hI iF h4.2.2.2 (Ne.symm hd.2.2.2.2.2)
  generalize ((((W0.alloc X0).alloc X1).alloc X2).alloc X3) = w4 at *
  obtain ⟨d1, d2, d3, d4, d5, d6⟩ := hd
  obtain ⟨l1, l2, l3, l4⟩ := h4
  refine ⟨?_, (a1.alloc _).drew, (a2.alloc _).drew, (hB.alloc _).drew, (a4.alloc _).drew, World.ownsRow_nil _ _ _ _, (ho.alloc (by omega) _).drew, by omega, by omega, by omega, by omega, by omega, ?_, ⟨by omega, by omega, by omega, by omega⟩, ⟨by omega, by omega, by omega⟩, ⟨by omega, by omega, by omega⟩⟩
  · show (w4.alloc _).heap[W0.heap.size + 4]? = _
    rw [← hs]; exact heap_alloc_new w4 _
  · show _ ≤ (w4.alloc _).heap.size
    simp; omega

set_option maxRecDepth 100000 in
set_option maxHeartbeats 30000000 in
theorem knot_any (W0 : World) (n : Nat) (gf : Nat) (caps : Array Value) (adjI : Nat → List Int) (hn : n ≤ 4096) (hgf : Enters Try.prog gf) (hnext : Nexts W0 n gf caps adjI) (hadj : AdjOk n adjI) :
    Calls Try.prog 155 #[.int .i64 (n : Int), .func (.func gf) #[] caps] W0 (Ret fun v0 w' => ∃ b gI gL gO gF base s sv, v0 = .pointer (some ⟨b, 0, none⟩) ∧ KN W0 n (.func (.func gf) #[] caps) b gI gL gO gF base s sv w' ∧ Inv n (adjN adjI) [] s ∧ ∀ x, x < n → s.idx x ≠ 0) := by
  have hmI := mkI (n : Int) (by omega) (by omega)
  have hmB := mkB (n : Int) (by omega) (by omega)
  rw [Int.toNat_natCast] at hmI hmB
  have Hv := hid (fun b gI gL gO gF base m => visit_any W0 n gf caps adjI b gI gL gO gF base hn hgf hnext hadj m)
  clear hnext hadj hgf
  refine post_gen fun Q HQ => ?_
  go_enter Try.func155, Try.ntmps155
  go_wp2
  go_cut [5] (fun v5 wx => ∃ b gI gL gO gF base, v5 = .pointer (some ⟨b, 0, none⟩) ∧ KN W0 n (.func (.func gf) #[] caps) b gI gL gO gF base Tj.blank (.slice none 0 0) wx)
  case first =>
    go_region
    all_goals
      go_wp2_with fail
      go_meet
      first
        | exact ⟨_, _, _, _, _, _, rfl, kn_start 0 1 2 3 (by decide) (by decide) (by intro k hk; rcases (show k = 0 ∨ k = 1 ∨ k = 2 ∨ k = 3 by omega) with rfl | rfl | rfl | rfl <;> rfl)⟩
        | exact ⟨_, _, _, _, _, _, rfl, kn_start 0 1 3 2 (by decide) (by decide) (by intro k hk; rcases (show k = 0 ∨ k = 1 ∨ k = 2 ∨ k = 3 by omega) with rfl | rfl | rfl | rfl <;> rfl)⟩
        | exact ⟨_, _, _, _, _, _, rfl, kn_start 0 2 1 3 (by decide) (by decide) (by intro k hk; rcases (show k = 0 ∨ k = 1 ∨ k = 2 ∨ k = 3 by omega) with rfl | rfl | rfl | rfl <;> rfl)⟩
        | exact ⟨_, _, _, _, _, _, rfl, kn_start 0 2 3 1 (by decide) (by decide) (by intro k hk; rcases (show k = 0 ∨ k = 1 ∨ k = 2 ∨ k = 3 by omega) with rfl | rfl | rfl | rfl <;> rfl)⟩
        | exact ⟨_, _, _, _, _, _, rfl, kn_start 0 3 1 2 (by decide) (by decide) (by intro k hk; rcases (show k = 0 ∨ k = 1 ∨ k = 2 ∨ k = 3 by omega) with rfl | rfl | rfl | rfl <;> rfl)⟩
        | exact ⟨_, _, _, _, _, _, rfl, kn_start 0 3 2 1 (by decide) (by decide) (by intro k hk; rcases (show k = 0 ∨ k = 1 ∨ k = 2 ∨ k = 3 by omega) with rfl | rfl | rfl | rfl <;> rfl)⟩
        | exact ⟨_, _, _, _, _, _, rfl, kn_start 1 0 2 3 (by decide) (by decide) (by intro k hk; rcases (show k = 0 ∨ k = 1 ∨ k = 2 ∨ k = 3 by omega) with rfl | rfl | rfl | rfl <;> rfl)⟩
        | exact ⟨_, _, _, _, _, _, rfl, kn_start 1 0 3 2 (by decide) (by decide) (by intro k hk; rcases (show k = 0 ∨ k = 1 ∨ k = 2 ∨ k = 3 by omega) with rfl | rfl | rfl | rfl <;> rfl)⟩
        | exact ⟨_, _, _, _, _, _, rfl, kn_start 1 2 0 3 (by decide) (by decide) (by intro k hk; rcases (show k = 0 ∨ k = 1 ∨ k = 2 ∨ k = 3 by omega) with rfl | rfl | rfl | rfl <;> rfl)⟩
        | exact ⟨_, _, _, _, _, _, rfl, kn_start 1 2 3 0 (by decide) (by decide) (by intro k hk; rcases (show k = 0 ∨ k = 1 ∨ k = 2 ∨ k = 3 by omega) with rfl | rfl | rfl | rfl <;> rfl)⟩
        | exact ⟨_, _, _, _, _, _, rfl, kn_start 1 3 0 2 (by decide) (by decide) (by intro k hk; rcases (show k = 0 ∨ k = 1 ∨ k = 2 ∨ k = 3 by omega) with rfl | rfl | rfl | rfl <;> rfl)⟩
        | exact ⟨_, _, _, _, _, _, rfl, kn_start 1 3 2 0 (by decide) (by decide) (by intro k hk; rcases (show k = 0 ∨ k = 1 ∨ k = 2 ∨ k = 3 by omega) with rfl | rfl | rfl | rfl <;> rfl)⟩
        | exact ⟨_, _, _, _, _, _, rfl, kn_start 2 0 1 3 (by decide) (by decide) (by intro k hk; rcases (show k = 0 ∨ k = 1 ∨ k = 2 ∨ k = 3 by omega) with rfl | rfl | rfl | rfl <;> rfl)⟩
        | exact ⟨_, _, _, _, _, _, rfl, kn_start 2 0 3 1 (by decide) (by decide) (by intro k hk; rcases (show k = 0 ∨ k = 1 ∨ k = 2 ∨ k = 3 by omega) with rfl | rfl | rfl | rfl <;> rfl)⟩
        | exact ⟨_, _, _, _, _, _, rfl, kn_start 2 1 0 3 (by decide) (by decide) (by intro k hk; rcases (show k = 0 ∨ k = 1 ∨ k = 2 ∨ k = 3 by omega) with rfl | rfl | rfl | rfl <;> rfl)⟩
        | exact ⟨_, _, _, _, _, _, rfl, kn_start 2 1 3 0 (by decide) (by decide) (by intro k hk; rcases (show k = 0 ∨ k = 1 ∨ k = 2 ∨ k = 3 by omega) with rfl | rfl | rfl | rfl <;> rfl)⟩
        | exact ⟨_, _, _, _, _, _, rfl, kn_start 2 3 0 1 (by decide) (by decide) (by intro k hk; rcases (show k = 0 ∨ k = 1 ∨ k = 2 ∨ k = 3 by omega) with rfl | rfl | rfl | rfl <;> rfl)⟩
        | exact ⟨_, _, _, _, _, _, rfl, kn_start 2 3 1 0 (by decide) (by decide) (by intro k hk; rcases (show k = 0 ∨ k = 1 ∨ k = 2 ∨ k = 3 by omega) with rfl | rfl | rfl | rfl <;> rfl)⟩
        | exact ⟨_, _, _, _, _, _, rfl, kn_start 3 0 1 2 (by decide) (by decide) (by intro k hk; rcases (show k = 0 ∨ k = 1 ∨ k = 2 ∨ k = 3 by omega) with rfl | rfl | rfl | rfl <;> rfl)⟩
        | exact ⟨_, _, _, _, _, _, rfl, kn_start 3 0 2 1 (by decide) (by decide) (by intro k hk; rcases (show k = 0 ∨ k = 1 ∨ k = 2 ∨ k = 3 by omega) with rfl | rfl | rfl | rfl <;> rfl)⟩
        | exact ⟨_, _, _, _, _, _, rfl, kn_start 3 1 0 2 (by decide) (by decide) (by intro k hk; rcases (show k = 0 ∨ k = 1 ∨ k = 2 ∨ k = 3 by omega) with rfl | rfl | rfl | rfl <;> rfl)⟩
        | exact ⟨_, _, _, _, _, _, rfl, kn_start 3 1 2 0 (by decide) (by decide) (by intro k hk; rcases (show k = 0 ∨ k = 1 ∨ k = 2 ∨ k = 3 by omega) with rfl | rfl | rfl | rfl <;> rfl)⟩
        | exact ⟨_, _, _, _, _, _, rfl, kn_start 3 2 0 1 (by decide) (by decide) (by intro k hk; rcases (show k = 0 ∨ k = 1 ∨ k = 2 ∨ k = 3 by omega) with rfl | rfl | rfl | rfl <;> rfl)⟩
        | exact ⟨_, _, _, _, _, _, rfl, kn_start 3 2 1 0 (by decide) (by decide) (by intro k hk; rcases (show k = 0 ∨ k = 1 ∨ k = 2 ∨ k = 3 by omega) with rfl | rfl | rfl | rfl <;> rfl)⟩
  case rest =>
    obtain ⟨b, gI, gL, gO, gF, base, rfl, hk⟩ := hcut
    go_wp2
    go_loopw [19] (fun v19 wr => ∃ (k : Nat) (c : TS) (svc : Value), k ≤ n ∧ v19 = .int .i64 k ∧ KN W0 n (.func (.func gf) #[] caps) b gI gL gO gF base c svc wr ∧ Hid (Inv n (adjN adjI) [] c ∧ ∀ x, x < k → c.idx x ≠ 0)) (fun v19 _ => n - (intOf v19).toNat)
    case atStart => exact ⟨0, _, _, Nat.zero_le _, rfl, hk, inv_blank _ _, fun x hx => absurd hx (by omega)⟩
    case round =>
      clear hk
      obtain ⟨k, c, svc, hkn, rfl, hk, hinv⟩ := hrel
      by_cases hlt : k < n
      · have e1 := hk.cell 1
        simp only [List.getElem?_toArray, List.getElem?_cons_zero, List.getElem?_cons_succ] at e1
        have cI := hk.cI hlt
        have hci : c.idx k ≤ n := Nat.le_trans (hinv.out.1.idx_le k) (enter_inv_cnt hinv.out.1)
        by_cases h0 : c.idx k = 0
        · have hb0 : ((c.idx k : Int) == 0) = true := by simp [h0]
          have H0 := hid h0
          clear h0
          have hcall := Hv.out b gI gL gO gF base n wr c svc k [] hk hinv.out.1 (fun g hg => by cases hg) H0.out hlt (by omega)
          go_wp2_with fail
          refine hcall.mono ?_
          rintro e w5 ⟨_, rfl, rfl, c1, sv1, hk1, hpost⟩
          have Hpost := hid hpost
          clear hpost hcall hk e1 cI hb0
          go_wp2
          go_roundw
          case rel =>
            refine ⟨k + 1, c1, sv1, by omega, by go_num, hk1, Hpost.out.inv, fun x hx => ?_⟩
            by_cases e : x = k
            · subst e; exact Hpost.out.vis
            · have h1 := hinv.out.2 x (by omega)
              rw [(Hpost.out.old x h1).1]; exact h1
          case measure => simp [intOf]; omega
        · have hb0 : ((c.idx k : Int) == 0) = false := by simp [h0]
          have H0 := hid h0
          clear h0
          go_wp2
          go_roundw
          case rel =>
            refine ⟨k + 1, c, svc, by omega, by go_num, hk, hinv.out.1, fun x hx => ?_⟩
            by_cases e : x = k
            · subst e; exact H0.out
            · exact hinv.out.2 x (by omega)
          case measure => simp [intOf]; omega
      · go_wp2
        go_ret
        exact Fin HQ ⟨b, gI, gL, gO, gF, base, c, svc, rfl, hk, hinv.out.1, fun x hx => hinv.out.2 x (by omega)⟩
end Go.Proofs.Lx
