/- Parts of the proof: Vc, Vd. Contract of theory.knot. -/
import Derived.Test.YtalhpldbhogadaaB5
namespace Go.Proofs.Lx
open Go Go.RowKit Go.Proofs.Tj
set_option linter.unusedSimpArgs false
set_option linter.unusedVariables false

theorem visit_any (W0 : World) (n : Nat) (gf : Nat) (caps : Array Value) (adjI : Nat → List Int) (b gI gL gO gF base : Nat) (hn : n ≤ 4096) (hgf : Enters Try.prog gf) (hnext : Nexts W0 n gf caps adjI) (hadj : AdjOk n adjI) :
    ∀ m, Visits W0 n gf caps adjI b gI gL gO gF base m := by
  intro m
  induction m using Nat.strongRecOn with
  | _ m ih => exact visit_step W0 n gf caps adjI b gI gL gO gF base m hn hgf hnext hadj ih

theorem tab_zero {α : Type} (n : Nat) (z : α) : tab n (fun _ => z) = List.replicate n z := by
  apply List.ext_getElem <;> simp [tab]
theorem madeI_at {w : World} {n g : Nat} (hg : g = w.heap.size) : Arr (fun x : Nat => Value.int .i64 (x : Int)) 3 (w.alloc (.cells (madeCells #[.int .i64 0] n) 3)) g (tab n fun _ => 0) := by
  subst hg; rw [tab_zero]; exact made_arr (fun x : Nat => Value.int .i64 (x : Int)) 0 3 w n
theorem madeB_at {w : World} {n g : Nat} (hg : g = w.heap.size) : Arr Value.bool 4 (w.alloc (.cells (madeCells #[.bool false] n) 4)) g (tab n fun _ => false) := by
  subst hg; rw [tab_zero]; exact made_arr Value.bool false 4 w n
/-- Four new blocks, one of bools. -/
theorem kn_start {W0 : World} {n : Nat} {fv : Value} {X0 X1 X2 X3 : Obj} (iI iL iO iF : Nat) (h4 : iI < 4 ∧ iL < 4 ∧ iO < 4 ∧ iF < 4) (hd : iI ≠ iL ∧ iI ≠ iO ∧ iI ≠ iF ∧ iL ≠ iO ∧ iL ≠ iF ∧ iO ≠ iF)
    (hX : ∀ k, k < 4 → ([X0, X1, X2, X3] : List Obj)[k]? = some (if k = iO then .cells (madeCells #[.bool false] n) 4 else .cells (madeCells #[.int .i64 0] n) 3)) :
    KN W0 n fv (W0.heap.size + 4) (W0.heap.size + iI) (W0.heap.size + iL) (W0.heap.size + iO) (W0.heap.size + iF) (W0.heap.size + 5) Tj.blank (.slice none 0 0)
      (((((W0.alloc X0).alloc X1).alloc X2).alloc X3).alloc (.cells #[fv, .slice (some ⟨W0.heap.size + iI, 0, none⟩) n n, .slice (some ⟨W0.heap.size + iL, 0, none⟩) n n, .slice (some ⟨W0.heap.size + iO, 0, none⟩) n n, .slice none 0 0, .slice (some ⟨W0.heap.size + iF, 0, none⟩) n n, .int .i64 0, .int .i64 0] 153)).drew := by
  have hb : ∀ k, k < 4 → ((((W0.alloc X0).alloc X1).alloc X2).alloc X3).heap[W0.heap.size + k]? = some (if k = iO then .cells (madeCells #[.bool false] n) 4 else .cells (madeCells #[.int .i64 0] n) 3) := by
    intro k hk
    rw [← hX k hk]
    show ((((W0.heap.push X0).push X1).push X2).push X3)[W0.heap.size + k]? = _
    simp only [Array.getElem?_push, Array.size_push]
    rcases (show k = 0 ∨ k = 1 ∨ k = 2 ∨ k = 3 by omega) with rfl | rfl | rfl | rfl
    · rw [if_neg (by omega), if_neg (by omega), if_neg (by omega), if_pos (by omega)]; rfl
    · rw [if_neg (by omega), if_neg (by omega), if_pos (by omega)]; rfl
    · rw [if_neg (by omega), if_pos (by omega)]; rfl
    · rw [if_pos (by omega)]; rfl
  have hI : ∀ k, k < 4 → k ≠ iO → Arr (fun x : Nat => Value.int .i64 (x : Int)) 3 ((((W0.alloc X0).alloc X1).alloc X2).alloc X3) (W0.heap.size + k) (tab n fun _ => 0) := by
    intro k hk hne
    have h1 := madeI_at (w := W0) (n := n) rfl
    unfold Arr at h1 ⊢
    rw [heap_alloc_new] at h1
    rw [hb k hk, if_neg hne]; exact h1
  have hB : Arr Value.bool 4 ((((W0.alloc X0).alloc X1).alloc X2).alloc X3) (W0.heap.size + iO) (tab n fun _ => false) := by
    have h1 := madeB_at (w := W0) (n := n) rfl
    unfold Arr at h1 ⊢
    rw [heap_alloc_new] at h1
    rw [hb iO h4.2.2.1, if_pos rfl]; exact h1
  have hs : ((((W0.alloc X0).alloc X1).alloc X2).alloc X3).heap.size = W0.heap.size + 4 := by simp
  have ho : Below W0.heap.size W0 ((((W0.alloc X0).alloc X1).alloc X2).alloc X3) := (((ext_alloc W0 X0).alloc (by simp) X1).alloc (by simp; omega) X2).alloc (by simp; omega) X3
  have a1 := hI iI h4.1 hd.2.1
  have a2 := hI iL h4.2.1 hd.2.2.2.1
  have a4 := hI iF h4.2.2.2 (Ne.symm hd.2.2.2.2.2)
  generalize ((((W0.alloc X0).alloc X1).alloc X2).alloc X3) = w4 at *
  obtain ⟨d1, d2, d3, d4, d5, d6⟩ := hd
  obtain ⟨l1, l2, l3, l4⟩ := h4
  refine ⟨?_, (a1.alloc _).drew, (a2.alloc _).drew, (hB.alloc _).drew, (a4.alloc _).drew, World.ownsRow_nil _ _ _ _, (ho.alloc (by omega) _).drew, by omega, by omega, by omega, by omega, by omega, ?_, ⟨by omega, by omega, by omega, by omega⟩, ⟨by omega, by omega, by omega⟩, ⟨by omega, by omega, by omega⟩⟩
  · show (w4.alloc _).heap[W0.heap.size + 4]? = _
    rw [← hs]; exact heap_alloc_new w4 _
  · show _ ≤ (w4.alloc _).heap.size
    simp; omega

set_option maxRecDepth 100000 in
set_option maxHeartbeats 30000000 in
theorem knot_any (W0 : World) (n : Nat) (gf : Nat) (caps : Array Value) (adjI : Nat → List Int) (hn : n ≤ 4096) (hgf : Enters Try.prog gf) (hnext : Nexts W0 n gf caps adjI) (hadj : AdjOk n adjI) :
    Calls Try.prog 155 #[.int .i64 (n : Int), .func (.func gf) #[] caps] W0 (Ret fun v0 w' => ∃ b gI gL gO gF base s sv, v0 = .pointer (some ⟨b, 0, none⟩) ∧ KN W0 n (.func (.func gf) #[] caps) b gI gL gO gF base s sv w' ∧ Inv n (adjN adjI) [] s ∧ ∀ x, x < n → s.idx x ≠ 0) := by
  have hmI := mkI (n : Int) (by omega) (by omega)
  have hmB := mkB (n : Int) (by omega) (by omega)
  rw [Int.toNat_natCast] at hmI hmB
  have Hv := hid (fun b gI gL gO gF base m => visit_any W0 n gf caps adjI b gI gL gO gF base hn hgf hnext hadj m)
  clear hnext hadj hgf
  refine post_gen fun Q HQ => ?_
  go_enter Try.func155, Try.ntmps155
  go_wp2
  go_cut [5] (fun v5 wx => ∃ b gI gL gO gF base, v5 = .pointer (some ⟨b, 0, none⟩) ∧ KN W0 n (.func (.func gf) #[] caps) b gI gL gO gF base Tj.blank (.slice none 0 0) wx)
  case first =>
    go_region
    all_goals
      go_wp2_with fail
      go_meet
      first
        | exact ⟨_, _, _, _, _, _, rfl, kn_start 0 1 2 3 (by decide) (by decide) (by intro k hk; rcases (show k = 0 ∨ k = 1 ∨ k = 2 ∨ k = 3 by omega) with rfl | rfl | rfl | rfl <;> rfl)⟩
        | exact ⟨_, _, _, _, _, _, rfl, kn_start 0 1 3 2 (by decide) (by decide) (by intro k hk; rcases (show k = 0 ∨ k = 1 ∨ k = 2 ∨ k = 3 by omega) with rfl | rfl | rfl | rfl <;> rfl)⟩
        | exact ⟨_, _, _, _, _, _, rfl, kn_start 0 2 1 3 (by decide) (by decide) (by intro k hk; rcases (show k = 0 ∨ k = 1 ∨ k = 2 ∨ k = 3 by omega) with rfl | rfl | rfl | rfl <;> rfl)⟩
        | exact ⟨_, _, _, _, _, _, rfl, kn_start 0 2 3 1 (by decide) (by decide) (by intro k hk; rcases (show k = 0 ∨ k = 1 ∨ k = 2 ∨ k = 3 by omega) with rfl | rfl | rfl | rfl <;> rfl)⟩
        | exact ⟨_, _, _, _, _, _, rfl, kn_start 0 3 1 2 (by decide) (by decide) (by intro k hk; rcases (show k = 0 ∨ k = 1 ∨ k = 2 ∨ k = 3 by omega) with rfl | rfl | rfl | rfl <;> rfl)⟩
        | exact ⟨_, _, _, _, _, _, rfl, kn_start 0 3 2 1 (by decide) (by decide) (by intro k hk; rcases (show k = 0 ∨ k = 1 ∨ k = 2 ∨ k = 3 by omega) with rfl | rfl | rfl | rfl <;> rfl)⟩
        | exact ⟨_, _, _, _, _, _, rfl, kn_start 1 0 2 3 (by decide) (by decide) (by intro k hk; rcases (show k = 0 ∨ k = 1 ∨ k = 2 ∨ k = 3 by omega) with rfl | rfl | rfl | rfl <;> rfl)⟩
        | exact ⟨_, _, _, _, _, _, rfl, kn_start 1 0 3 2 (by decide) (by decide) (by intro k hk; rcases (show k = 0 ∨ k = 1 ∨ k = 2 ∨ k = 3 by omega) with rfl | rfl | rfl | rfl <;> rfl)⟩
        | exact ⟨_, _, _, _, _, _, rfl, kn_start 1 2 0 3 (by decide) (by decide) (by intro k hk; rcases (show k = 0 ∨ k = 1 ∨ k = 2 ∨ k = 3 by omega) with rfl | rfl | rfl | rfl <;> rfl)⟩
        | exact ⟨_, _, _, _, _, _, rfl, kn_start 1 2 3 0 (by decide) (by decide) (by intro k hk; rcases (show k = 0 ∨ k = 1 ∨ k = 2 ∨ k = 3 by omega) with rfl | rfl | rfl | rfl <;> rfl)⟩
        | exact ⟨_, _, _, _, _, _, rfl, kn_start 1 3 0 2 (by decide) (by decide) (by intro k hk; rcases (show k = 0 ∨ k = 1 ∨ k = 2 ∨ k = 3 by omega) with rfl | rfl | rfl | rfl <;> rfl)⟩
        | exact ⟨_, _, _, _, _, _, rfl, kn_start 1 3 2 0 (by decide) (by decide) (by intro k hk; rcases (show k = 0 ∨ k = 1 ∨ k = 2 ∨ k = 3 by omega) with rfl | rfl | rfl | rfl <;> rfl)⟩
        | exact ⟨_, _, _, _, _, _, rfl, kn_start 2 0 1 3 (by decide) (by decide) (by intro k hk; rcases (show k = 0 ∨ k = 1 ∨ k = 2 ∨ k = 3 by omega) with rfl | rfl | rfl | rfl <;> rfl)⟩
        | exact ⟨_, _, _, _, _, _, rfl, kn_start 2 0 3 1 (by decide) (by decide) (by intro k hk; rcases (show k = 0 ∨ k = 1 ∨ k = 2 ∨ k = 3 by omega) with rfl | rfl | rfl | rfl <;> rfl)⟩
        | exact ⟨_, _, _, _, _, _, rfl, kn_start 2 1 0 3 (by decide) (by decide) (by intro k hk; rcases (show k = 0 ∨ k = 1 ∨ k = 2 ∨ k = 3 by omega) with rfl | rfl | rfl | rfl <;> rfl)⟩
        | exact ⟨_, _, _, _, _, _, rfl, kn_start 2 1 3 0 (by decide) (by decide) (by intro k hk; rcases (show k = 0 ∨ k = 1 ∨ k = 2 ∨ k = 3 by omega) with rfl | rfl | rfl | rfl <;> rfl)⟩
        | exact ⟨_, _, _, _, _, _, rfl, kn_start 2 3 0 1 (by decide) (by decide) (by intro k hk; rcases (show k = 0 ∨ k = 1 ∨ k = 2 ∨ k = 3 by omega) with rfl | rfl | rfl | rfl <;> rfl)⟩
        | exact ⟨_, _, _, _, _, _, rfl, kn_start 2 3 1 0 (by decide) (by decide) (by intro k hk; rcases (show k = 0 ∨ k = 1 ∨ k = 2 ∨ k = 3 by omega) with rfl | rfl | rfl | rfl <;> rfl)⟩
        | exact ⟨_, _, _, _, _, _, rfl, kn_start 3 0 1 2 (by decide) (by decide) (by intro k hk; rcases (show k = 0 ∨ k = 1 ∨ k = 2 ∨ k = 3 by omega) with rfl | rfl | rfl | rfl <;> rfl)⟩
        | exact ⟨_, _, _, _, _, _, rfl, kn_start 3 0 2 1 (by decide) (by decide) (by intro k hk; rcases (show k = 0 ∨ k = 1 ∨ k = 2 ∨ k = 3 by omega) with rfl | rfl | rfl | rfl <;> rfl)⟩
        | exact ⟨_, _, _, _, _, _, rfl, kn_start 3 1 0 2 (by decide) (by decide) (by intro k hk; rcases (show k = 0 ∨ k = 1 ∨ k = 2 ∨ k = 3 by omega) with rfl | rfl | rfl | rfl <;> rfl)⟩
        | exact ⟨_, _, _, _, _, _, rfl, kn_start 3 1 2 0 (by decide) (by decide) (by intro k hk; rcases (show k = 0 ∨ k = 1 ∨ k = 2 ∨ k = 3 by omega) with rfl | rfl | rfl | rfl <;> rfl)⟩
        | exact ⟨_, _, _, _, _, _, rfl, kn_start 3 2 0 1 (by decide) (by decide) (by intro k hk; rcases (show k = 0 ∨ k = 1 ∨ k = 2 ∨ k = 3 by omega) with rfl | rfl | rfl | rfl <;> rfl)⟩
        | exact ⟨_, _, _, _, _, _, rfl, kn_start 3 2 1 0 (by decide) (by decide) (by intro k hk; rcases (show k = 0 ∨ k = 1 ∨ k = 2 ∨ k = 3 by omega) with rfl | rfl | rfl | rfl <;> rfl)⟩
  case rest =>
    obtain ⟨b, gI, gL, gO, gF, base, rfl, hk⟩ := hcut
    go_wp2
    go_loopw [19] (fun v19 wr => ∃ (k : Nat) (c : TS) (svc : Value), k ≤ n ∧ v19 = .int .i64 k ∧ KN W0 n (.func (.func gf) #[] caps) b gI gL gO gF base c svc wr ∧ Hid (Inv n (adjN adjI) [] c ∧ ∀ x, x < k → c.idx x ≠ 0)) (fun v19 _ => n - (intOf v19).toNat)
    case atStart => exact ⟨0, _, _, Nat.zero_le _, rfl, hk, inv_blank _ _, fun x hx => absurd hx (by omega)⟩
    case round =>
      clear hk
      obtain ⟨k, c, svc, hkn, rfl, hk, hinv⟩ := hrel
      by_cases hlt : k < n
      · have e1 := hk.cell 1
        simp only [List.getElem?_toArray, List.getElem?_cons_zero, List.getElem?_cons_succ] at e1
        have cI := hk.cI hlt
        have hci : c.idx k ≤ n := Nat.le_trans (hinv.out.1.idx_le k) (enter_inv_cnt hinv.out.1)
        by_cases h0 : c.idx k = 0
        · have hb0 : ((c.idx k : Int) == 0) = true := by simp [h0]
          have H0 := hid h0
          clear h0
          have hcall := Hv.out b gI gL gO gF base n wr c svc k [] hk hinv.out.1 (fun g hg => by cases hg) H0.out hlt (by omega)
          go_wp2_with fail
          refine hcall.mono ?_
          rintro e w5 ⟨_, rfl, rfl, c1, sv1, hk1, hpost⟩
          have Hpost := hid hpost
          clear hpost hcall hk e1 cI hb0
          go_wp2
          go_roundw
          case rel =>
            refine ⟨k + 1, c1, sv1, by omega, by go_num, hk1, Hpost.out.inv, fun x hx => ?_⟩
            by_cases e : x = k
            · subst e; exact Hpost.out.vis
            · have h1 := hinv.out.2 x (by omega)
              rw [(Hpost.out.old x h1).1]; exact h1
          case measure => simp [intOf]; omega
        · have hb0 : ((c.idx k : Int) == 0) = false := by simp [h0]
          have H0 := hid h0
          clear h0
          go_wp2
          go_roundw
          case rel =>
            refine ⟨k + 1, c, svc, by omega, by go_num, hk, hinv.out.1, fun x hx => ?_⟩
            by_cases e : x = k
            · subst e; exact H0.out
            · exact hinv.out.2 x (by omega)
          case measure => simp [intOf]; omega
      · go_wp2
        go_ret
        exact Fin HQ ⟨b, gI, gL, gO, gF, base, c, svc, rfl, hk, hinv.out.1, fun x hx => hinv.out.2 x (by omega)⟩
end Go.Proofs.Lx

namespace Go.Proofs.Lx
open Go Go.RowKit Go.Proofs.Tj
set_option linter.unusedSimpArgs false
set_option linter.unusedVariables false

theorem enters_circle1 : Enters Try.prog 156 := enters_of Try.func156 (by kernel_rfl) (by kernel_rfl)
theorem enters_circle2 : Enters Try.prog 158 := enters_of Try.func158 (by kernel_rfl) (by kernel_rfl)

def beatsAt (T : Th) (x : Nat) : List Int := T.beats.getD x []
/-- No two rules lead to each other. -/
def NoKnot (T : Th) : Prop := ∀ x y, x < T.rules.length → y < T.rules.length → Leads (adjN (beatsAt T)) x y → Leads (adjN (beatsAt T)) y x → x = y

theorem circle1_any (W1 w : World) (bx : Nat) (T : Th) (vB : Value) (x : Nat) (hx : x < T.beats.length) (hc : w.cell? ⟨bx, 3, none⟩ = some vB) (hB : RdLL W1 vB T.beats) (ho : Below W1.heap.size W1 w) :
    Calls Try.prog 156 #[.int .i64 (x : Int), .pointer (some ⟨bx, 0, none⟩)] w (Ret fun r w2 => RdI W1 r (beatsAt T x) ∧ Below w.heap.size w w2) := by
  obtain ⟨A, c, rfl, hc1, hb1, hr⟩ := hB
  obtain ⟨ad, v, rfl, hcell0, hv⟩ := hr.atRowV hx
  have hcell := cell_ext ho hcell0
  have Hg : Hid (beatsAt T x = T.beats[x]) := by simp [Hid, beatsAt, hx]
  have Hv := hid hv
  obtain ⟨B, cB, rfl, _⟩ := hv
  clear hcell0 hr
  refine post_gen fun Q HQ => ?_
  go_enter Try.func156, Try.ntmps156
  go_wp2
  go_ret
  exact Fin HQ ⟨by rw [Hg.out]; exact Hv.out, ext_refl _⟩

theorem arr_rdI {w : World} {g n : Nat} {f : Nat → Nat} (h : Arr (fun x : Nat => Value.int .i64 (x : Int)) 3 w g (tab n f)) (hn : n ≤ 140737488355328) : RdI w (.slice (some ⟨g, 0, none⟩) n n) ((tab n f).map fun (x : Nat) => (x : Int)) := by
  have h2 : Arr (Value.int .i64) 3 w g ((tab n f).map fun (x : Nat) => (x : Int)) := by
    unfold Arr at h ⊢
    rw [h, List.map_map]; rfl
  have hl : ((tab n f).map fun (x : Nat) => (x : Int)).length = n := by simp [tab]
  have := h2.reads (by omega) n (by omega)
  rw [hl] at this; exact this

theorem circle2_any (w : World) (gC gS kn : Nat) (f : Nat → Nat) (x : Nat) (hx : x < kn) (hc : w.cell? ⟨gC, 0, none⟩ = some (.slice (some ⟨gS, 0, none⟩) kn kn)) (hs : Arr (fun x : Nat => Value.int .i64 (x : Int)) 3 w gS (tab kn f)) :
    Calls Try.prog 158 #[.int .i64 (x : Int), .pointer (some ⟨gC, 0, none⟩)] w (Ret fun r w2 => r = .bool (decide (1 < f x)) ∧ Below w.heap.size w w2) := by
  have hcell := hs.cell (i := x) (by rw [tab_length]; exact hx)
  rw [tab_at hx] at hcell
  refine post_gen fun Q HQ => ?_
  go_enter Try.func158, Try.ntmps158
  go_wp2
  go_ret
  exact Fin HQ ⟨by simp; omega, ext_refl _⟩

def cntOf (of : Nat → Nat) (k c : Nat) : Nat := (List.range k).countP fun i => of i == c
theorem cntOf_succ (of : Nat → Nat) (k : Nat) : cntOf of (k + 1) = upd (cntOf of k) (of k) (cntOf of k (of k) + 1) := by
  funext c
  simp only [cntOf, List.range_succ, List.countP_append, List.countP_cons, List.countP_nil, upd]
  by_cases e : c = of k
  · subst e; simp
  · have : ¬ (of k = c) := fun h => e h.symm
    simp [e, this]
theorem cntOf_le (of : Nat → Nat) (k c : Nat) : cntOf of k c ≤ k := by
  have := List.countP_le_length (p := fun i => of i == c) (l := List.range k)
  simpa [cntOf] using this
theorem cntOf_two {of : Nat → Nat} {n c : Nat} : 1 < cntOf of n c ↔ ∃ i j, i < n ∧ j < n ∧ i ≠ j ∧ of i = c ∧ of j = c := by
  induction n with
  | zero => simp [cntOf]
  | succ n ih =>
    have hs : cntOf of (n + 1) c = cntOf of n c + if of n = c then 1 else 0 := by
      simp [cntOf, List.range_succ, List.countP_append, List.countP_cons]
    rw [hs]
    by_cases e : of n = c
    · rw [if_pos e]
      constructor
      · intro h
        have h1 : 0 < cntOf of n c := by omega
        rw [cntOf, List.countP_pos_iff] at h1
        obtain ⟨i, hi, he⟩ := h1
        rw [List.mem_range] at hi
        exact ⟨i, n, by omega, by omega, by omega, by simpa using he, e⟩
      · rintro ⟨i, j, hi, hj, hij, h1, h2⟩
        have : 0 < cntOf of n c := by
          rw [cntOf, List.countP_pos_iff]
          by_cases hin : i < n
          · exact ⟨i, List.mem_range.2 hin, by simpa using h1⟩
          · exact ⟨j, List.mem_range.2 (by omega), by simpa using h2⟩
        omega
    · rw [if_neg e, Nat.add_zero, ih]
      constructor
      · rintro ⟨i, j, hi, hj, h⟩; exact ⟨i, j, by omega, by omega, h⟩
      · rintro ⟨i, j, hi, hj, hij, h1, h2⟩
        refine ⟨i, j, ?_, ?_, hij, h1, h2⟩
        · by_cases e1 : i = n
          · subst e1; exact absurd h1 e
          · omega
        · by_cases e1 : j = n
          · subst e1; exact absurd h2 e
          · omega

set_option maxHeartbeats 3200000 in
theorem circle_any (w : World) (V : Value) (T : Th) (hT : RdTh w V T) (h4 : T.rules.length ≤ 4096) (hbl : T.beats.length = T.rules.length) (hba : beatsAll T = true) :
   Calls Try.prog 111 #[V] w (Ret fun v w' => (∃ r : Int, v = .int .i64 r ∧ (r < 0 ↔ NoKnot T)) ∧ Below w.heap.size w w') := by
  obtain ⟨vF, vR, vB, rfl, h1, ⟨AR, cR, rfl, hcR, hbR, hrR⟩, h3⟩ := hT
  have hbel := ext_alloc w (.cells #[.int .i64 T.lits, vF, .slice AR T.rules.length cR, vB] 25)
  obtain ⟨W1, HW1⟩ : ∃ W1, Hid (W1 = w.alloc (.cells #[.int .i64 T.lits, vF, .slice AR T.rules.length cR, vB] 25)) := ⟨_, rfl⟩
  have b2 : W1.cell? ⟨w.heap.size, 2, none⟩ = some (.slice AR T.rules.length cR) := by rw [HW1.out]; exact box_cell (Below.refl _ _) 2
  have b3 : W1.cell? ⟨w.heap.size, 3, none⟩ = some vB := by rw [HW1.out]; exact box_cell (Below.refl _ _) 3
  rw [← HW1.out] at hbel
  have hB1 := h3.ext llR_mono hbel
  have hadj : AdjOk T.rules.length (beatsAt T) := by
    intro x hx y hy
    have hok := beatsAll_true.1 hba x (by omega)
    simp only [beatsOk, Bool.and_eq_true] at hok
    obtain ⟨i, hi, rfl⟩ := List.getElem_of_mem hy
    exact (risB_spec hok.1).1 i hi
  have hnext : Nexts W1 T.rules.length 156 #[.pointer (some ⟨w.heap.size, 0, none⟩)] (beatsAt T) := fun x hx w1 ho =>
    circle1_any W1 w1 w.heap.size T vB x (by omega) (cell_ext ho b3) hB1 ho
  have Hk := hid (knot_any W1 T.rules.length _ _ _ h4 enters_circle1 hnext hadj)
  clear hnext hadj hba h1 h3 hrR hB1
  have Hbl := hid hbl
  clear hbl
  refine post_gen fun Q HQ => ?_
  go_enter Try.func111, Try.ntmps111
  go_wp2_with fail
  rw [← HW1.out]
  refine Hk.out.mono ?_
  rintro e w2 ⟨_, rfl, b, gI, gL, gO, gF, base, st, sv, rfl, hk, hinv, hall⟩
  have hkn : st.kn ≤ T.rules.length := by have := hinv.kn_le; have := enter_inv_cnt hinv; omega
  have Hinv := hid (And.intro hinv hall)
  have hofl : ∀ x, x < T.rules.length → st.of x < st.kn := fun x hx => hinv.b3 x (hall x hx) (by rw [inv_empty hinv]; simp)
  have Hofl := hid hofl
  clear hofl hinv hall b2 b3 Hk
  have e5 := hk.cell 5; have e7 := hk.cell 7
  simp only [List.getElem?_toArray, List.getElem?_cons_zero, List.getElem?_cons_succ] at e5 e7
  have hmk := mkI (st.kn : Int) (by omega) (by omega)
  rw [Int.toNat_natCast] at hmk
  have hb2 : b < w2.heap.size := lt_of_block hk.blk
  go_wp2
  clear hmk
  have Hk := hid hk
  clear hk e7
  go_loopw [22] (fun v22 wr => ∃ k : Nat, k ≤ T.rules.length ∧ v22 = .int .i64 k ∧ Arr (fun x : Nat => Value.int .i64 (x : Int)) 3 wr w2.heap.size (tab st.kn (cntOf st.of k)) ∧ Hid (wr.heap[w2.heap.size + 1]? = some (.cells #[.slice (some ⟨w2.heap.size, 0, none⟩) st.kn st.kn] 26 (0, 0))) ∧ Below w2.heap.size w2 wr) (fun v22 _ => T.rules.length - (intOf v22).toNat)
  case atStart =>
    refine ⟨0, Nat.zero_le _, rfl, ?_, ?_, ?_⟩
    · have h0 : cntOf st.of 0 = fun _ => 0 := by funext c; simp [cntOf]
      rw [h0]; exact (madeI_at rfl).alloc _
    · show ((w2.alloc _).alloc _).heap[w2.heap.size + 1]? = _
      exact heap_alloc2_new w2 _ _
    · exact (ext_trans (ext_alloc w2 _) (ext_alloc _ _))
  case round =>
    obtain ⟨k, hkk, rfl, harr, hone, hbl⟩ := hrel
    have cC := cell_of_one hone.out
    have hC := lt_of_block hone.out
    by_cases hlt : k < T.rules.length
    · have cF := cell_ext hbl (Hk.out.cF hlt)
      have hof := Hofl.out k hlt
      have cS := harr.cell (i := st.of k) (by rw [tab_length]; exact hof)
      rw [tab_at hof] at cS
      have fS := harr.free (st.of k)
      have hle := cntOf_le st.of k (st.of k)
      have Hs : Hid (tab st.kn (cntOf st.of (k + 1)) = (tab st.kn (cntOf st.of k)).set (st.of k) (cntOf st.of k (st.of k) + 1)) := by rw [Hid, tab_set, cntOf_succ]
      generalize cntOf st.of k (st.of k) = q at *
      go_wp2
      go_roundw
      case rel =>
        refine ⟨k + 1, by omega, by go_num, ?_, ?_, ?_⟩
        · rw [Hs.out]
          exact harr.set (st.of k) (q + 1)
        · exact (heap_setCell_other _ _ _ _ (show w2.heap.size + 1 ≠ w2.heap.size by omega)).trans hone.out
        · exact hbl.setCell (Nat.le_refl _) _
      case measure => simp [intOf]; omega
    · obtain rfl : k = T.rules.length := by omega
      have e5' := cell_ext hbl e5
      have hb3 : b < wr.heap.size := Nat.lt_of_lt_of_le hb2 hbl.size
      have hF : RdI wr (.slice (some ⟨gF, 0, none⟩) T.rules.length T.rules.length) ((tab T.rules.length st.of).map fun (x : Nat) => (x : Int)) := arr_rdI (Hk.out.aF.ext hbl) (by omega)
      have Hcall := hid (indexFunc wr _ _ _ #[.pointer (some ⟨w2.heap.size + 1, 0, none⟩)] (fun x => decide (1 < cntOf st.of T.rules.length x.toNat)) enters_circle2 hF (by
        intro x hx w1 ho
        obtain ⟨i, hi, rfl⟩ := List.mem_map.1 hx
        obtain ⟨j, hj, rfl⟩ := List.getElem_of_mem hi
        rw [tab_length] at hj
        rw [tab_at hj]
        exact circle2_any w1 _ _ st.kn _ (st.of j) (Hofl.out j hj) (cell_ext ho cC) (harr.ext ho)))
      go_wp2_with fail
      refine Hcall.out.mono ?_
      rintro e w4 ⟨_, rfl, rfl, hb4⟩
      clear Hcall
      generalize hr : idxOf (fun x => decide (1 < cntOf st.of T.rules.length x.toNat)) ((tab T.rules.length st.of).map fun (x : Nat) => (x : Int)) = r at *
      have Hr := hid hr
      clear hr
      go_wp2
      go_ret
      refine Fin HQ ⟨⟨r, rfl, ?_⟩, ?_⟩
      · have h1 := idxOf_nonneg (fun x => decide (1 < cntOf st.of T.rules.length x.toNat)) ((tab T.rules.length st.of).map fun (x : Nat) => (x : Int))
        rw [Hr.out] at h1
        obtain ⟨hinv, hall⟩ := Hinv.out
        have hst := inv_empty hinv
        have hb := fun x y (hx : x < T.rules.length) (hy : y < T.rules.length) => hinv.b2 x y (hall x hx) (by rw [hst]; simp) (hall y hy) (by rw [hst]; simp)
        have key : r < 0 ↔ ∀ i, i < T.rules.length → ¬ 1 < cntOf st.of T.rules.length (st.of i) := by
          rw [show (r < 0) ↔ ¬ (0 ≤ r) from by omega, ← decide_eq_true_eq (p := 0 ≤ r), h1, Bool.not_eq_true, List.any_eq_false]
          simp only [List.mem_map, tab, List.mem_range, decide_eq_true_eq]
          constructor
          · intro h i hi
            exact h _ ⟨_, ⟨i, hi, rfl⟩, rfl⟩
          · rintro h x ⟨_, ⟨i, hi, rfl⟩, rfl⟩
            exact h i hi
        rw [key]
        constructor
        · intro h x y hx hy h1 h2
          by_cases e : x = y
          · exact e
          · exact absurd (cntOf_two.2 ⟨x, y, hx, hy, e, rfl, ((hb x y hx hy).2 ⟨h1, h2⟩).symm⟩) (h x hx)
        · intro h i hi h2
          obtain ⟨x, y, hx, hy, hne, e1, e2⟩ := cntOf_two.1 h2
          obtain ⟨l1, l2⟩ := (hb x y hx hy).1 (e1.trans e2.symm)
          exact hne (h x y hx hy l1 l2)
      · exact ext_trans hbel (ext_trans Hk.out.old (ext_trans hbl hb4))
end Go.Proofs.Lx
