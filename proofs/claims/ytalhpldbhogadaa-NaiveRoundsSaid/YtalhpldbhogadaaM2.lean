/- Parts of the proof: Vc, Vd, Ve, Na, Rb, Nd, Nb, Nc, Nf, Qb, Pl, Nw, Pm, Rs. Contract of theory.knot. -/
import Derived.Test.YtalhpldbhogadaaM1
import Derived.Maps.AppendAt
import Derived.Deep.RegionLaw
import Derived.WalkSpells
import Derived.Deep.RegionWith
import Derived.Deep.DeepCutAuto
import Derived.WalkMore
namespace Go.Proofs.Lx
open Go Go.RowKit Go.Proofs.Tj
set_option linter.unusedSimpArgs false
set_option linter.unusedVariables false

theorem visit_any (W0 : World) (n : Nat) (gf : Nat) (caps : Array Value) (adjI : Nat → List Int) (b gI gL gO gF base : Nat) (hn : n ≤ 4096) (hgf : Enters Try.prog gf) (hnext : Nexts W0 n gf caps adjI) (hadj : AdjOk n adjI) :
    ∀ m, Visits W0 n gf caps adjI b gI gL gO gF base m := by
  intro m
  induction m using Nat.strongRecOn with
  | _ m ih => exact visit_step W0 n gf caps adjI b gI gL gO gF base m hn hgf hnext hadj ih

theorem tab_zero {α : Type} (n : Nat) (z : α) : tab n (fun _ => z) = List.replicate n z := by
  apply List.ext_getElem <;> simp [tab]
theorem madeI_at {w : World} {n g : Nat} (hg : g = w.heap.size) : Arr (fun x : Nat => Value.int .i64 (x : Int)) 3 (w.alloc (.cells (madeCells #[.int .i64 0] n) 3)) g (tab n fun _ => 0) := by
  subst hg; rw [tab_zero]; exact made_arr (fun x : Nat => Value.int .i64 (x : Int)) 0 3 w n
theorem madeB_at {w : World} {n g : Nat} (hg : g = w.heap.size) : Arr Value.bool 4 (w.alloc (.cells (madeCells #[.bool false] n) 4)) g (tab n fun _ => false) := by
  subst hg; rw [tab_zero]; exact made_arr Value.bool false 4 w n
/-- Four new blocks, one of bools. -/
theorem kn_start {W0 : World} {n : Nat} {fv : Value} {X0 X1 X2 X3 : Obj} (iI iL iO iF : Nat) (h4 : iI < 4 ∧ iL < 4 ∧ iO < 4 ∧ iF < 4) (hd : iI ≠ iL ∧ iI ≠ iO ∧ iI ≠ iF ∧ iL ≠ iO ∧ iL ≠ iF ∧ iO ≠ iF)
    (hX : ∀ k, k < 4 → ([X0, X1, X2, X3] : List Obj)[k]? = some (if k = iO then .cells (madeCells #[.bool false] n) 4 else .cells (madeCells #[.int .i64 0] n) 3)) :
    KN W0 n fv (W0.heap.size + 4) (W0.heap.size + iI) (W0.heap.size + iL) (W0.heap.size + iO) (W0.heap.size + iF) (W0.heap.size + 5) Tj.blank (.slice none 0 0)
      (((((W0.alloc X0).alloc X1).alloc X2).alloc X3).alloc (.cells #[fv, .slice (some ⟨W0.heap.size + iI, 0, none⟩) n n, .slice (some ⟨W0.heap.size + iL, 0, none⟩) n n, .slice (some ⟨W0.heap.size + iO, 0, none⟩) n n, .slice none 0 0, .slice (some ⟨W0.heap.size + iF, 0, none⟩) n n, .int .i64 0, .int .i64 0] 153)).drew := by
  have hb : ∀ k, k < 4 → ((((W0.alloc X0).alloc X1).alloc X2).alloc X3).heap[W0.heap.size + k]? = some (if k = iO then .cells (madeCells #[.bool false] n) 4 else .cells (madeCells #[.int .i64 0] n) 3) := by
    intro k hk
    rw [← hX k hk]
    show ((((W0.heap.push X0).push X1).push X2).push X3)[W0.heap.size + k]? = _
    simp only [Array.getElem?_push, Array.size_push]
    rcases (show k = 0 ∨ k = 1 ∨ k = 2 ∨ k = 3 by omega) with rfl | rfl | rfl | rfl
    · rw [if_neg (by omega), if_neg (by omega), if_neg (by omega), if_pos (by omega)]; rfl
    · rw [if_neg (by omega), if_neg (by omega), if_pos (by omega)]; rfl
    · rw [if_neg (by omega), if_pos (by omega)]; rfl
    · rw [if_pos (by omega)]; rfl
  have hI : ∀ k, k < 4 → k ≠ iO → Arr (fun x : Nat => Value.int .i64 (x : Int)) 3 ((((W0.alloc X0).alloc X1).alloc X2).alloc X3) (W0.heap.size + k) (tab n fun _ => 0) := by
    intro k hk hne
    have h1 := madeI_at (w := W0) (n := n) rfl
    unfold Arr at h1 ⊢
    rw [heap_alloc_new] at h1
    rw [hb k hk, if_neg hne]; exact h1
  have hB : Arr Value.bool 4 ((((W0.alloc X0).alloc X1).alloc X2).alloc X3) (W0.heap.size + iO) (tab n fun _ => false) := by
    have h1 := madeB_at (w := W0) (n := n) rfl
    unfold Arr at h1 ⊢
    rw [heap_alloc_new] at h1
    rw [hb iO h4.2.2.1, if_pos rfl]; exact h1
  have hs : ((((W0.alloc X0).alloc X1).alloc X2).alloc X3).heap.size = W0.heap.size + 4 := by simp
  have ho : Below W0.heap.size W0 ((((W0.alloc X0).alloc X1).alloc X2).alloc X3) := (((ext_alloc W0 X0).alloc (by simp) X1).alloc (by simp; omega) X2).alloc (by simp; omega) X3
  have a1 := hI iI h4.1 hd.2.1
  have a2 := hI iL h4.2.1 hd.2.2.2.1
  have a4 := hI iF h4.2.2.2 (Ne.symm hd.2.2.2.2.2)
  generalize ((((W0.alloc X0).alloc X1).alloc X2).alloc X3) = w4 at *
  obtain ⟨d1, d2, d3, d4, d5, d6⟩ := hd
  obtain ⟨l1, l2, l3, l4⟩ := h4
  refine ⟨?_, (a1.alloc _).drew, (a2.alloc _).drew, (hB.alloc _).drew, (a4.alloc _).drew, World.ownsRow_nil _ _ _ _, (ho.alloc (by omega) _).drew, by omega, by omega, by omega, by omega, by omega, ?_, ⟨by omega, by omega, by omega, by omega⟩, ⟨by omega, by omega, by omega⟩, ⟨by omega, by omega, by omega⟩⟩
  · show (w4.alloc _).heap[W0.heap.size + 4]? = _
    rw [← hs]; exact heap_alloc_new w4 _
  · show _ ≤ (w4.alloc _).heap.size
    simp; omega

set_option maxRecDepth 100000 in
set_option maxHeartbeats 30000000 in
theorem knot_any (W0 : World) (n : Nat) (gf : Nat) (caps : Array Value) (adjI : Nat → List Int) (hn : n ≤ 4096) (hgf : Enters Try.prog gf) (hnext : Nexts W0 n gf caps adjI) (hadj : AdjOk n adjI) :
    Calls Try.prog 155 #[.int .i64 (n : Int), .func (.func gf) #[] caps] W0 (Ret fun v0 w' => ∃ b gI gL gO gF base s sv, v0 = .pointer (some ⟨b, 0, none⟩) ∧ KN W0 n (.func (.func gf) #[] caps) b gI gL gO gF base s sv w' ∧ Inv n (adjN adjI) [] s ∧ ∀ x, x < n → s.idx x ≠ 0) := by
  have hmI := mkI (n : Int) (by omega) (by omega)
  have hmB := mkB (n : Int) (by omega) (by omega)
  rw [Int.toNat_natCast] at hmI hmB
  have Hv := hid (fun b gI gL gO gF base m => visit_any W0 n gf caps adjI b gI gL gO gF base hn hgf hnext hadj m)
  clear hnext hadj hgf
  refine post_gen fun Q HQ => ?_
  go_enter Try.func155, Try.ntmps155
  go_wp2
  go_cut [5] (fun v5 wx => ∃ b gI gL gO gF base, v5 = .pointer (some ⟨b, 0, none⟩) ∧ KN W0 n (.func (.func gf) #[] caps) b gI gL gO gF base Tj.blank (.slice none 0 0) wx)
  case first =>
    go_region
    all_goals
      go_wp2_with fail
      go_meet
      first
        | exact ⟨_, _, _, _, _, _, rfl, kn_start 0 1 2 3 (by decide) (by decide) (by intro k hk; rcases (show k = 0 ∨ k = 1 ∨ k = 2 ∨ k = 3 by omega) with rfl | rfl | rfl | rfl <;> rfl)⟩
        | exact ⟨_, _, _, _, _, _, rfl, kn_start 0 1 3 2 (by decide) (by decide) (by intro k hk; rcases (show k = 0 ∨ k = 1 ∨ k = 2 ∨ k = 3 by omega) with rfl | rfl | rfl | rfl <;> rfl)⟩
        | exact ⟨_, _, _, _, _, _, rfl, kn_start 0 2 1 3 (by decide) (by decide) (by intro k hk; rcases (show k = 0 ∨ k = 1 ∨ k = 2 ∨ k = 3 by omega) with rfl | rfl | rfl | rfl <;> rfl)⟩
        | exact ⟨_, _, _, _, _, _, rfl, kn_start 0 2 3 1 (by decide) (by decide) (by intro k hk; rcases (show k = 0 ∨ k = 1 ∨ k = 2 ∨ k = 3 by omega) with rfl | rfl | rfl | rfl <;> rfl)⟩
        | exact ⟨_, _, _, _, _, _, rfl, kn_start 0 3 1 2 (by decide) (by decide) (by intro k hk; rcases (show k = 0 ∨ k = 1 ∨ k = 2 ∨ k = 3 by omega) with rfl | rfl | rfl | rfl <;> rfl)⟩
        | exact ⟨_, _, _, _, _, _, rfl, kn_start 0 3 2 1 (by decide) (by decide) (by intro k hk; rcases (show k = 0 ∨ k = 1 ∨ k = 2 ∨ k = 3 by omega) with rfl | rfl | rfl | rfl <;> rfl)⟩
        | exact ⟨_, _, _, _, _, _, rfl, kn_start 1 0 2 3 (by decide) (by decide) (by intro k hk; rcases (show k = 0 ∨ k = 1 ∨ k = 2 ∨ k = 3 by omega) with rfl | rfl | rfl | rfl <;> rfl)⟩
        | exact ⟨_, _, _, _, _, _, rfl, kn_start 1 0 3 2 (by decide) (by decide) (by intro k hk; rcases (show k = 0 ∨ k = 1 ∨ k = 2 ∨ k = 3 by omega) with rfl | rfl | rfl | rfl <;> rfl)⟩
        | exact ⟨_, _, _, _, _, _, rfl, kn_start 1 2 0 3 (by decide) (by decide) (by intro k hk; rcases (show k = 0 ∨ k = 1 ∨ k = 2 ∨ k = 3 by omega) with rfl | rfl | rfl | rfl <;> rfl)⟩
        | exact ⟨_, _, _, _, _, _, rfl, kn_start 1 2 3 0 (by decide) (by decide) (by intro k hk; rcases (show k = 0 ∨ k = 1 ∨ k = 2 ∨ k = 3 by omega) with rfl | rfl | rfl | rfl <;> rfl)⟩
        | exact ⟨_, _, _, _, _, _, rfl, kn_start 1 3 0 2 (by decide) (by decide) (by intro k hk; rcases (show k = 0 ∨ k = 1 ∨ k = 2 ∨ k = 3 by omega) with rfl | rfl | rfl | rfl <;> rfl)⟩
        | exact ⟨_, _, _, _, _, _, rfl, kn_start 1 3 2 0 (by decide) (by decide) (by intro k hk; rcases (show k = 0 ∨ k = 1 ∨ k = 2 ∨ k = 3 by omega) with rfl | rfl | rfl | rfl <;> rfl)⟩
        | exact ⟨_, _, _, _, _, _, rfl, kn_start 2 0 1 3 (by decide) (by decide) (by intro k hk; rcases (show k = 0 ∨ k = 1 ∨ k = 2 ∨ k = 3 by omega) with rfl | rfl | rfl | rfl <;> rfl)⟩
        | exact ⟨_, _, _, _, _, _, rfl, kn_start 2 0 3 1 (by decide) (by decide) (by intro k hk; rcases (show k = 0 ∨ k = 1 ∨ k = 2 ∨ k = 3 by omega) with rfl | rfl | rfl | rfl <;> rfl)⟩
        | exact ⟨_, _, _, _, _, _, rfl, kn_start 2 1 0 3 (by decide) (by decide) (by intro k hk; rcases (show k = 0 ∨ k = 1 ∨ k = 2 ∨ k = 3 by omega) with rfl | rfl | rfl | rfl <;> rfl)⟩
        | exact ⟨_, _, _, _, _, _, rfl, kn_start 2 1 3 0 (by decide) (by decide) (by intro k hk; rcases (show k = 0 ∨ k = 1 ∨ k = 2 ∨ k = 3 by omega) with rfl | rfl | rfl | rfl <;> rfl)⟩
        | exact ⟨_, _, _, _, _, _, rfl, kn_start 2 3 0 1 (by decide) (by decide) (by intro k hk; rcases (show k = 0 ∨ k = 1 ∨ k = 2 ∨ k = 3 by omega) with rfl | rfl | rfl | rfl <;> rfl)⟩
        | exact ⟨_, _, _, _, _, _, rfl, kn_start 2 3 1 0 (by decide) (by decide) (by intro k hk; rcases (show k = 0 ∨ k = 1 ∨ k = 2 ∨ k = 3 by omega) with rfl | rfl | rfl | rfl <;> rfl)⟩
        | exact ⟨_, _, _, _, _, _, rfl, kn_start 3 0 1 2 (by decide) (by decide) (by intro k hk; rcases (show k = 0 ∨ k = 1 ∨ k = 2 ∨ k = 3 by omega) with rfl | rfl | rfl | rfl <;> rfl)⟩
        | exact ⟨_, _, _, _, _, _, rfl, kn_start 3 0 2 1 (by decide) (by decide) (by intro k hk; rcases (show k = 0 ∨ k = 1 ∨ k = 2 ∨ k = 3 by omega) with rfl | rfl | rfl | rfl <;> rfl)⟩
        | exact ⟨_, _, _, _, _, _, rfl, kn_start 3 1 0 2 (by decide) (by decide) (by intro k hk; rcases (show k = 0 ∨ k = 1 ∨ k = 2 ∨ k = 3 by omega) with rfl | rfl | rfl | rfl <;> rfl)⟩
        | exact ⟨_, _, _, _, _, _, rfl, kn_start 3 1 2 0 (by decide) (by decide) (by intro k hk; rcases (show k = 0 ∨ k = 1 ∨ k = 2 ∨ k = 3 by omega) with rfl | rfl | rfl | rfl <;> rfl)⟩
        | exact ⟨_, _, _, _, _, _, rfl, kn_start 3 2 0 1 (by decide) (by decide) (by intro k hk; rcases (show k = 0 ∨ k = 1 ∨ k = 2 ∨ k = 3 by omega) with rfl | rfl | rfl | rfl <;> rfl)⟩
        | exact ⟨_, _, _, _, _, _, rfl, kn_start 3 2 1 0 (by decide) (by decide) (by intro k hk; rcases (show k = 0 ∨ k = 1 ∨ k = 2 ∨ k = 3 by omega) with rfl | rfl | rfl | rfl <;> rfl)⟩
  case rest =>
    obtain ⟨b, gI, gL, gO, gF, base, rfl, hk⟩ := hcut
    go_wp2
    go_loopw [19] (fun v19 wr => ∃ (k : Nat) (c : TS) (svc : Value), k ≤ n ∧ v19 = .int .i64 k ∧ KN W0 n (.func (.func gf) #[] caps) b gI gL gO gF base c svc wr ∧ Hid (Inv n (adjN adjI) [] c ∧ ∀ x, x < k → c.idx x ≠ 0)) (fun v19 _ => n - (intOf v19).toNat)
    case atStart => exact ⟨0, _, _, Nat.zero_le _, rfl, hk, inv_blank _ _, fun x hx => absurd hx (by omega)⟩
    case round =>
      clear hk
      obtain ⟨k, c, svc, hkn, rfl, hk, hinv⟩ := hrel
      by_cases hlt : k < n
      · have e1 := hk.cell 1
        simp only [List.getElem?_toArray, List.getElem?_cons_zero, List.getElem?_cons_succ] at e1
        have cI := hk.cI hlt
        have hci : c.idx k ≤ n := Nat.le_trans (hinv.out.1.idx_le k) (enter_inv_cnt hinv.out.1)
        by_cases h0 : c.idx k = 0
        · have hb0 : ((c.idx k : Int) == 0) = true := by simp [h0]
          have H0 := hid h0
          clear h0
          have hcall := Hv.out b gI gL gO gF base n wr c svc k [] hk hinv.out.1 (fun g hg => by cases hg) H0.out hlt (by omega)
          go_wp2_with fail
          refine hcall.mono ?_
          rintro e w5 ⟨_, rfl, rfl, c1, sv1, hk1, hpost⟩
          have Hpost := hid hpost
          clear hpost hcall hk e1 cI hb0
          go_wp2
          go_roundw
          case rel =>
            refine ⟨k + 1, c1, sv1, by omega, by go_num, hk1, Hpost.out.inv, fun x hx => ?_⟩
            by_cases e : x = k
            · subst e; exact Hpost.out.vis
            · have h1 := hinv.out.2 x (by omega)
              rw [(Hpost.out.old x h1).1]; exact h1
          case measure => simp [intOf]; omega
        · have hb0 : ((c.idx k : Int) == 0) = false := by simp [h0]
          have H0 := hid h0
          clear h0
          go_wp2
          go_roundw
          case rel =>
            refine ⟨k + 1, c, svc, by omega, by go_num, hk, hinv.out.1, fun x hx => ?_⟩
            by_cases e : x = k
            · subst e; exact H0.out
            · exact hinv.out.2 x (by omega)
          case measure => simp [intOf]; omega
      · go_wp2
        go_ret
        exact Fin HQ ⟨b, gI, gL, gO, gF, base, c, svc, rfl, hk, hinv.out.1, fun x hx => hinv.out.2 x (by omega)⟩
end Go.Proofs.Lx

namespace Go.Proofs.Lx
open Go Go.RowKit Go.Proofs.Tj
set_option linter.unusedSimpArgs false
set_option linter.unusedVariables false

theorem enters_circle1 : Enters Try.prog 156 := enters_of Try.func156 (by kernel_rfl) (by kernel_rfl)
theorem enters_circle2 : Enters Try.prog 158 := enters_of Try.func158 (by kernel_rfl) (by kernel_rfl)

def beatsAt (T : Th) (x : Nat) : List Int := T.beats.getD x []
/-- No two rules lead to each other. -/
def NoKnot (T : Th) : Prop := ∀ x y, x < T.rules.length → y < T.rules.length → Leads (adjN (beatsAt T)) x y → Leads (adjN (beatsAt T)) y x → x = y

theorem circle1_any (W1 w : World) (bx : Nat) (T : Th) (vB : Value) (x : Nat) (hx : x < T.beats.length) (hc : w.cell? ⟨bx, 3, none⟩ = some vB) (hB : RdLL W1 vB T.beats) (ho : Below W1.heap.size W1 w) :
    Calls Try.prog 156 #[.int .i64 (x : Int), .pointer (some ⟨bx, 0, none⟩)] w (Ret fun r w2 => RdI W1 r (beatsAt T x) ∧ Below w.heap.size w w2) := by
  obtain ⟨A, c, rfl, hc1, hb1, hr⟩ := hB
  obtain ⟨ad, v, rfl, hcell0, hv⟩ := hr.atRowV hx
  have hcell := cell_ext ho hcell0
  have Hg : Hid (beatsAt T x = T.beats[x]) := by simp [Hid, beatsAt, hx]
  have Hv := hid hv
  obtain ⟨B, cB, rfl, _⟩ := hv
  clear hcell0 hr
  refine post_gen fun Q HQ => ?_
  go_enter Try.func156, Try.ntmps156
  go_wp2
  go_ret
  exact Fin HQ ⟨by rw [Hg.out]; exact Hv.out, ext_refl _⟩

theorem arr_rdI {w : World} {g n : Nat} {f : Nat → Nat} (h : Arr (fun x : Nat => Value.int .i64 (x : Int)) 3 w g (tab n f)) (hn : n ≤ 140737488355328) : RdI w (.slice (some ⟨g, 0, none⟩) n n) ((tab n f).map fun (x : Nat) => (x : Int)) := by
  have h2 : Arr (Value.int .i64) 3 w g ((tab n f).map fun (x : Nat) => (x : Int)) := by
    unfold Arr at h ⊢
    rw [h, List.map_map]; rfl
  have hl : ((tab n f).map fun (x : Nat) => (x : Int)).length = n := by simp [tab]
  have := h2.reads (by omega) n (by omega)
  rw [hl] at this; exact this

theorem circle2_any (w : World) (gC gS kn : Nat) (f : Nat → Nat) (x : Nat) (hx : x < kn) (hc : w.cell? ⟨gC, 0, none⟩ = some (.slice (some ⟨gS, 0, none⟩) kn kn)) (hs : Arr (fun x : Nat => Value.int .i64 (x : Int)) 3 w gS (tab kn f)) :
    Calls Try.prog 158 #[.int .i64 (x : Int), .pointer (some ⟨gC, 0, none⟩)] w (Ret fun r w2 => r = .bool (decide (1 < f x)) ∧ Below w.heap.size w w2) := by
  have hcell := hs.cell (i := x) (by rw [tab_length]; exact hx)
  rw [tab_at hx] at hcell
  refine post_gen fun Q HQ => ?_
  go_enter Try.func158, Try.ntmps158
  go_wp2
  go_ret
  exact Fin HQ ⟨by simp; omega, ext_refl _⟩

def cntOf (of : Nat → Nat) (k c : Nat) : Nat := (List.range k).countP fun i => of i == c
theorem cntOf_succ (of : Nat → Nat) (k : Nat) : cntOf of (k + 1) = upd (cntOf of k) (of k) (cntOf of k (of k) + 1) := by
  funext c
  simp only [cntOf, List.range_succ, List.countP_append, List.countP_cons, List.countP_nil, upd]
  by_cases e : c = of k
  · subst e; simp
  · have : ¬ (of k = c) := fun h => e h.symm
    simp [e, this]
theorem cntOf_le (of : Nat → Nat) (k c : Nat) : cntOf of k c ≤ k := by
  have := List.countP_le_length (p := fun i => of i == c) (l := List.range k)
  simpa [cntOf] using this
theorem cntOf_two {of : Nat → Nat} {n c : Nat} : 1 < cntOf of n c ↔ ∃ i j, i < n ∧ j < n ∧ i ≠ j ∧ of i = c ∧ of j = c := by
  induction n with
  | zero => simp [cntOf]
  | succ n ih =>
    have hs : cntOf of (n + 1) c = cntOf of n c + if of n = c then 1 else 0 := by
      simp [cntOf, List.range_succ, List.countP_append, List.countP_cons]
    rw [hs]
    by_cases e : of n = c
    · rw [if_pos e]
      constructor
      · intro h
        have h1 : 0 < cntOf of n c := by omega
        rw [cntOf, List.countP_pos_iff] at h1
        obtain ⟨i, hi, he⟩ := h1
        rw [List.mem_range] at hi
        exact ⟨i, n, by omega, by omega, by omega, by simpa using he, e⟩
      · rintro ⟨i, j, hi, hj, hij, h1, h2⟩
        have : 0 < cntOf of n c := by
          rw [cntOf, List.countP_pos_iff]
          by_cases hin : i < n
          · exact ⟨i, List.mem_range.2 hin, by simpa using h1⟩
          · exact ⟨j, List.mem_range.2 (by omega), by simpa using h2⟩
        omega
    · rw [if_neg e, Nat.add_zero, ih]
      constructor
      · rintro ⟨i, j, hi, hj, h⟩; exact ⟨i, j, by omega, by omega, h⟩
      · rintro ⟨i, j, hi, hj, hij, h1, h2⟩
        refine ⟨i, j, ?_, ?_, hij, h1, h2⟩
        · by_cases e1 : i = n
          · subst e1; exact absurd h1 e
          · omega
        · by_cases e1 : j = n
          · subst e1; exact absurd h2 e
          · omega

set_option maxHeartbeats 3200000 in
theorem circle_any (w : World) (V : Value) (T : Th) (hT : RdTh w V T) (h4 : T.rules.length ≤ 4096) (hbl : T.beats.length = T.rules.length) (hba : beatsAll T = true) :
   Calls Try.prog 111 #[V] w (Ret fun v w' => (∃ r : Int, v = .int .i64 r ∧ (r < 0 ↔ NoKnot T)) ∧ Below w.heap.size w w') := by
  obtain ⟨vF, vR, vB, rfl, h1, ⟨AR, cR, rfl, hcR, hbR, hrR⟩, h3⟩ := hT
  have hbel := ext_alloc w (.cells #[.int .i64 T.lits, vF, .slice AR T.rules.length cR, vB] 25)
  obtain ⟨W1, HW1⟩ : ∃ W1, Hid (W1 = w.alloc (.cells #[.int .i64 T.lits, vF, .slice AR T.rules.length cR, vB] 25)) := ⟨_, rfl⟩
  have b2 : W1.cell? ⟨w.heap.size, 2, none⟩ = some (.slice AR T.rules.length cR) := by rw [HW1.out]; exact box_cell (Below.refl _ _) 2
  have b3 : W1.cell? ⟨w.heap.size, 3, none⟩ = some vB := by rw [HW1.out]; exact box_cell (Below.refl _ _) 3
  rw [← HW1.out] at hbel
  have hB1 := h3.ext llR_mono hbel
  have hadj : AdjOk T.rules.length (beatsAt T) := by
    intro x hx y hy
    have hok := beatsAll_true.1 hba x (by omega)
    simp only [beatsOk, Bool.and_eq_true] at hok
    obtain ⟨i, hi, rfl⟩ := List.getElem_of_mem hy
    exact (risB_spec hok.1).1 i hi
  have hnext : Nexts W1 T.rules.length 156 #[.pointer (some ⟨w.heap.size, 0, none⟩)] (beatsAt T) := fun x hx w1 ho =>
    circle1_any W1 w1 w.heap.size T vB x (by omega) (cell_ext ho b3) hB1 ho
  have Hk := hid (knot_any W1 T.rules.length _ _ _ h4 enters_circle1 hnext hadj)
  clear hnext hadj hba h1 h3 hrR hB1
  have Hbl := hid hbl
  clear hbl
  refine post_gen fun Q HQ => ?_
  go_enter Try.func111, Try.ntmps111
  go_wp2_with fail
  rw [← HW1.out]
  refine Hk.out.mono ?_
  rintro e w2 ⟨_, rfl, b, gI, gL, gO, gF, base, st, sv, rfl, hk, hinv, hall⟩
  have hkn : st.kn ≤ T.rules.length := by have := hinv.kn_le; have := enter_inv_cnt hinv; omega
  have Hinv := hid (And.intro hinv hall)
  have hofl : ∀ x, x < T.rules.length → st.of x < st.kn := fun x hx => hinv.b3 x (hall x hx) (by rw [inv_empty hinv]; simp)
  have Hofl := hid hofl
  clear hofl hinv hall b2 b3 Hk
  have e5 := hk.cell 5; have e7 := hk.cell 7
  simp only [List.getElem?_toArray, List.getElem?_cons_zero, List.getElem?_cons_succ] at e5 e7
  have hmk := mkI (st.kn : Int) (by omega) (by omega)
  rw [Int.toNat_natCast] at hmk
  have hb2 : b < w2.heap.size := lt_of_block hk.blk
  go_wp2
  clear hmk
  have Hk := hid hk
  clear hk e7
  go_loopw [22] (fun v22 wr => ∃ k : Nat, k ≤ T.rules.length ∧ v22 = .int .i64 k ∧ Arr (fun x : Nat => Value.int .i64 (x : Int)) 3 wr w2.heap.size (tab st.kn (cntOf st.of k)) ∧ Hid (wr.heap[w2.heap.size + 1]? = some (.cells #[.slice (some ⟨w2.heap.size, 0, none⟩) st.kn st.kn] 26 (0, 0))) ∧ Below w2.heap.size w2 wr) (fun v22 _ => T.rules.length - (intOf v22).toNat)
  case atStart =>
    refine ⟨0, Nat.zero_le _, rfl, ?_, ?_, ?_⟩
    · have h0 : cntOf st.of 0 = fun _ => 0 := by funext c; simp [cntOf]
      rw [h0]; exact (madeI_at rfl).alloc _
    · show ((w2.alloc _).alloc _).heap[w2.heap.size + 1]? = _
      exact heap_alloc2_new w2 _ _
    · exact (ext_trans (ext_alloc w2 _) (ext_alloc _ _))
  case round =>
    obtain ⟨k, hkk, rfl, harr, hone, hbl⟩ := hrel
    have cC := cell_of_one hone.out
    have hC := lt_of_block hone.out
    by_cases hlt : k < T.rules.length
    · have cF := cell_ext hbl (Hk.out.cF hlt)
      have hof := Hofl.out k hlt
      have cS := harr.cell (i := st.of k) (by rw [tab_length]; exact hof)
      rw [tab_at hof] at cS
      have fS := harr.free (st.of k)
      have hle := cntOf_le st.of k (st.of k)
      have Hs : Hid (tab st.kn (cntOf st.of (k + 1)) = (tab st.kn (cntOf st.of k)).set (st.of k) (cntOf st.of k (st.of k) + 1)) := by rw [Hid, tab_set, cntOf_succ]
      generalize cntOf st.of k (st.of k) = q at *
      go_wp2
      go_roundw
      case rel =>
        refine ⟨k + 1, by omega, by go_num, ?_, ?_, ?_⟩
        · rw [Hs.out]
          exact harr.set (st.of k) (q + 1)
        · exact (heap_setCell_other _ _ _ _ (show w2.heap.size + 1 ≠ w2.heap.size by omega)).trans hone.out
        · exact hbl.setCell (Nat.le_refl _) _
      case measure => simp [intOf]; omega
    · obtain rfl : k = T.rules.length := by omega
      have e5' := cell_ext hbl e5
      have hb3 : b < wr.heap.size := Nat.lt_of_lt_of_le hb2 hbl.size
      have hF : RdI wr (.slice (some ⟨gF, 0, none⟩) T.rules.length T.rules.length) ((tab T.rules.length st.of).map fun (x : Nat) => (x : Int)) := arr_rdI (Hk.out.aF.ext hbl) (by omega)
      have Hcall := hid (indexFunc wr _ _ _ #[.pointer (some ⟨w2.heap.size + 1, 0, none⟩)] (fun x => decide (1 < cntOf st.of T.rules.length x.toNat)) enters_circle2 hF (by
        intro x hx w1 ho
        obtain ⟨i, hi, rfl⟩ := List.mem_map.1 hx
        obtain ⟨j, hj, rfl⟩ := List.getElem_of_mem hi
        rw [tab_length] at hj
        rw [tab_at hj]
        exact circle2_any w1 _ _ st.kn _ (st.of j) (Hofl.out j hj) (cell_ext ho cC) (harr.ext ho)))
      go_wp2_with fail
      refine Hcall.out.mono ?_
      rintro e w4 ⟨_, rfl, rfl, hb4⟩
      clear Hcall
      generalize hr : idxOf (fun x => decide (1 < cntOf st.of T.rules.length x.toNat)) ((tab T.rules.length st.of).map fun (x : Nat) => (x : Int)) = r at *
      have Hr := hid hr
      clear hr
      go_wp2
      go_ret
      refine Fin HQ ⟨⟨r, rfl, ?_⟩, ?_⟩
      · have h1 := idxOf_nonneg (fun x => decide (1 < cntOf st.of T.rules.length x.toNat)) ((tab T.rules.length st.of).map fun (x : Nat) => (x : Int))
        rw [Hr.out] at h1
        obtain ⟨hinv, hall⟩ := Hinv.out
        have hst := inv_empty hinv
        have hb := fun x y (hx : x < T.rules.length) (hy : y < T.rules.length) => hinv.b2 x y (hall x hx) (by rw [hst]; simp) (hall y hy) (by rw [hst]; simp)
        have key : r < 0 ↔ ∀ i, i < T.rules.length → ¬ 1 < cntOf st.of T.rules.length (st.of i) := by
          rw [show (r < 0) ↔ ¬ (0 ≤ r) from by omega, ← decide_eq_true_eq (p := 0 ≤ r), h1, Bool.not_eq_true, List.any_eq_false]
          simp only [List.mem_map, tab, List.mem_range, decide_eq_true_eq]
          constructor
          · intro h i hi
            exact h _ ⟨_, ⟨i, hi, rfl⟩, rfl⟩
          · rintro h x ⟨_, ⟨i, hi, rfl⟩, rfl⟩
            exact h i hi
        rw [key]
        constructor
        · intro h x y hx hy h1 h2
          by_cases e : x = y
          · exact e
          · exact absurd (cntOf_two.2 ⟨x, y, hx, hy, e, rfl, ((hb x y hx hy).2 ⟨h1, h2⟩).symm⟩) (h x hx)
        · intro h i hi h2
          obtain ⟨x, y, hx, hy, hne, e1, e2⟩ := cntOf_two.1 h2
          obtain ⟨l1, l2⟩ := (hb x y hx hy).1 (e1.trans e2.symm)
          exact hne (h x y hx hy l1 l2)
      · exact ext_trans hbel (ext_trans Hk.out.old (ext_trans hbl hb4))
end Go.Proofs.Lx

namespace Go.Proofs.Lx
open Go Go.RowKit
set_option linter.unusedSimpArgs false
set_option linter.unusedVariables false

/-- A theory that may be. -/
structure WfTh (T : Th) : Prop where
  l0 : 0 ≤ T.lits
  l1 : T.lits ≤ 4096
  fl : (T.foes.length : Int) = T.lits
  fo : foesAll T = true
  rl : T.rules.length ≤ 4096
  ru : ∀ r ∈ T.rules, ruleOk T.lits r = true
  pc : pairCount T ≤ 65536
  bl : T.beats.length = T.rules.length
  ba : beatsAll T = true
  nk : NoKnot T

open Classical in
/-- The error's number that Check answers. -/
noncomputable def checkErr (T : Th) : Int :=
  if T.lits < 0 ∨ 4096 < T.lits then 112 else if (T.foes.length : Int) ≠ T.lits then 121 else if foesAll T = false then 121 else if 4096 < T.rules.length then 111
  else if T.rules.all (ruleOk T.lits) = false then 122 else if 65536 < pairCount T then 113 else if T.beats.length ≠ T.rules.length then 123 else if beatsAll T = false then 123
  else if NoKnot T then 0 else 131
theorem checkErr_ok (T : Th) : checkErr T = 0 ↔ WfTh T := by
  unfold checkErr
  constructor
  · intro h
    by_cases h1 : T.lits < 0 ∨ 4096 < T.lits
    · rw [if_pos h1] at h; cases h
    rw [if_neg h1] at h
    by_cases h2 : (T.foes.length : Int) ≠ T.lits
    · rw [if_pos h2] at h; cases h
    rw [if_neg h2] at h
    by_cases h3 : foesAll T = false
    · rw [if_pos h3] at h; cases h
    rw [if_neg h3] at h
    by_cases h4 : 4096 < T.rules.length
    · rw [if_pos h4] at h; cases h
    rw [if_neg h4] at h
    by_cases h5 : T.rules.all (ruleOk T.lits) = false
    · rw [if_pos h5] at h; cases h
    rw [if_neg h5] at h
    by_cases h6 : 65536 < pairCount T
    · rw [if_pos h6] at h; cases h
    rw [if_neg h6] at h
    by_cases h7 : T.beats.length ≠ T.rules.length
    · rw [if_pos h7] at h; cases h
    rw [if_neg h7] at h
    by_cases h8 : beatsAll T = false
    · rw [if_pos h8] at h; cases h
    rw [if_neg h8] at h
    by_cases h9 : NoKnot T
    · exact ⟨by omega, by omega, by omega, by simpa using h3, by omega, List.all_eq_true.1 (by simpa using h5), by omega, by omega, by simpa using h8, h9⟩
    · rw [if_neg h9] at h; cases h
  · intro h
    rw [if_neg (by have := h.l0; have := h.l1; omega), if_neg (by have := h.fl; omega), if_neg (by rw [h.fo]; simp), if_neg (by have := h.rl; omega), if_neg (by rw [List.all_eq_true.2 h.ru]; simp),
      if_neg (by have := h.pc; omega), if_neg (by have := h.bl; omega), if_neg (by rw [h.ba]; simp), if_pos h.nk]

set_option maxRecDepth 1000000 in
set_option maxHeartbeats 6400000 in
theorem check_any (w : World) (V : Value) (T : Th) (hT : RdTh w V T) :
   Calls Try.prog 75 #[V] w (Ret fun v w' => (∃ i : Int, v = .tuple #[.int .i64 (checkErr T), .int .i64 i]) ∧ Below w.heap.size w w') := by
  have HT := hT
  obtain ⟨vF, vR, vB, rfl, ⟨A, c, rfl, hc, hb, hr⟩, ⟨AR, cR, rfl, hcR, hbR, hrR⟩, ⟨AB, cB, rfl, hcB, hbB, hrB⟩⟩ := hT
  have hbel := ext_alloc w (.cells #[.int .i64 T.lits, .slice A T.foes.length c, .slice AR T.rules.length cR, .slice AB T.beats.length cB] 25)
  obtain ⟨W1, HW1⟩ : ∃ W1, Hid (W1 = w.alloc (.cells #[.int .i64 T.lits, .slice A T.foes.length c, .slice AR T.rules.length cR, .slice AB T.beats.length cB] 25)) := ⟨_, rfl⟩
  have b0 : W1.cell? ⟨w.heap.size, 0, none⟩ = some (.int .i64 T.lits) := by rw [HW1.out]; exact box_cell (Below.refl _ _) 0
  have b1 : W1.cell? ⟨w.heap.size, 1, none⟩ = some (.slice A T.foes.length c) := by rw [HW1.out]; exact box_cell (Below.refl _ _) 1
  have b2 : W1.cell? ⟨w.heap.size, 2, none⟩ = some (.slice AR T.rules.length cR) := by rw [HW1.out]; exact box_cell (Below.refl _ _) 2
  have b3 : W1.cell? ⟨w.heap.size, 3, none⟩ = some (.slice AB T.beats.length cB) := by rw [HW1.out]; exact box_cell (Below.refl _ _) 3
  rw [← HW1.out] at hbel
  have hrR1 := hrR.ext ruleR_mono hbel
  have HT1 := hid (HT.ext hbel)
  have B := hid (And.intro b0 (And.intro b1 (And.intro b2 b3)))
  clear hr hrR hrB HT b0 b1 b2 b3
  refine post_gen fun Q HQ => ?_
  go_enter Try.func75, Try.ntmps75
  have hE : ∀ (x : Int) (w' : World), checkErr T = x → Below W1.heap.size W1 w' → ∀ i : Int, (∃ i' : Int, Value.tuple #[.int .i64 x, .int .i64 i] = .tuple #[.int .i64 (checkErr T), .int .i64 i']) ∧ Below w.heap.size w w' := fun x w' hx hb i => ⟨⟨i, by rw [hx]⟩, ext_trans hbel hb⟩
  have HE := hid hE
  clear hE
  by_cases h1 : T.lits < 0 ∨ 4096 < T.lits
  · have H1 := hid h1
    go_wp2_with fail
    all_goals try rw [← HW1.out]
    all_goals first
      | (go_ret2; exact Fin HQ (HE.out 112 _ (by unfold checkErr; rw [if_pos H1.out]) (ext_refl _) _))
      | (exfalso; omega)
  by_cases h2 : (T.foes.length : Int) = T.lits
  case neg =>
    have hb2 : ((T.foes.length : Int) != T.lits) = true := by simp [h2]
    have H2 := hid h2
    clear h2
    go_wp2_with fail
    try rw [← HW1.out]
    go_ret2
    exact Fin HQ (HE.out 121 _ (by unfold checkErr; rw [if_neg h1, if_pos H2.out]) (ext_refl _) _)
  have hb2 : ((T.foes.length : Int) != T.lits) = false := by simp [h2]
  have H2 := hid h2
  clear h2
  go_wp2_with fail
  rw [← HW1.out]
  refine (foes_any W1 _ T HT1.out H2.out).mono ?_
  rintro e w2 ⟨_, rfl, ⟨r, rfl, hr⟩, hbb2⟩
  have HR := hid hr
  have hbo := hbb2
  clear hr hb2
  have b2' := cell_ext hbb2 B.out.2.2.1
  cases h3 : foesAll T with
  | false =>
    have hr0 : 0 ≤ r := by have := HR.out; rw [h3] at this; simp at this; omega
    have H3 := hid h3
    clear h3
    go_wp2_with fail
    go_ret2
    exact Fin HQ (HE.out 121 _ (by unfold checkErr; rw [if_neg h1, if_neg (by simp [H2.out]), if_pos H3.out]) hbb2 _)
  | true =>
    have hr0 : r < 0 := HR.out.2 h3
    have H3 := hid h3
    clear h3
    by_cases h4 : 4096 < T.rules.length
    · go_wp2_with fail
      go_ret2
      exact Fin HQ (HE.out 111 _ (by unfold checkErr; rw [if_neg h1, if_neg (by simp [H2.out]), if_neg (by simp [H3.out]), if_pos h4]) hbb2 _)
    go_wp2
    clear hbb2 b2'
    go_loopw [35] (fun v35 wr => ∃ k : Nat, k ≤ T.rules.length ∧ v35 = .int .i64 k ∧ Hid (∀ i (h : i < T.rules.length), i < k → ruleOk T.lits T.rules[i] = true) ∧ Below W1.heap.size W1 wr) (fun v35 _ => T.rules.length - (intOf v35).toNat)
    case atStart => exact ⟨0, Nat.zero_le _, rfl, fun i h hk => absurd hk (by omega), hbo⟩
    case round =>
      clear hbo
      obtain ⟨k, hk, rfl, hno, hbl⟩ := hrel
      have c0 := cell_ext hbl B.out.1; have c1 := cell_ext hbl B.out.2.1; have c2 := cell_ext hbl B.out.2.2.1; have c3 := cell_ext hbl B.out.2.2.2
      have hbx : w.heap.size < wr.heap.size := World.block_lt_of_cell? _ _ c0
      obtain ⟨wo, rfl⟩ : ∃ wo : World, wo = wr := ⟨_, rfl⟩
      by_cases hlt : k < T.rules.length
      · obtain ⟨ad, C, cC, rfl, p0, p1, p2, q0, q1, q2⟩ := (hrR1.ext ruleR_mono hbl).atRule hlt
        have hRul : RdRule wo (.agg #[.int .i64 T.rules[k].kind, .int .i64 T.rules[k].head, .slice C T.rules[k].body.length cC]) T.rules[k] := ⟨_, rfl, C, cC, rfl, q0, q1, q2⟩
        obtain ⟨wx, HWX⟩ : ∃ wx, Hid (wx = wo.alloc (.cells #[.int .i64 T.rules[k].kind, .int .i64 T.rules[k].head, .slice C T.rules[k].body.length cC] 37)) := ⟨_, hid rfl⟩
        have hbx2 : Below wo.heap.size wo wx := by rw [HWX.out]; exact ext_alloc _ _
        have hRulX : RdRule wx (.agg #[.int .i64 T.rules[k].kind, .int .i64 T.rules[k].head, .slice C T.rules[k].body.length cC]) T.rules[k] := ⟨_, rfl, C, cC, rfl, q0, q1, q2.ext (scR_mono _) hbx2⟩
        have Hcall := hid (rule_any wx _ _ T T.rules[k] (HT1.out.ext (ext_trans hbl hbx2)) hRulX)
        clear hRul hRulX q2
        go_wp2_with fail
        rw [← HWX.out]
        refine Hcall.out.mono ?_
        rintro e w5 ⟨_, rfl, rfl, hb5⟩
        have hb6 := ext_trans hbx2 hb5
        clear Hcall hbx2
        cases hok : ruleOk T.lits T.rules[k] with
        | false =>
          have Hok := hid hok
          clear hok
          go_wp2
          go_ret2
          refine Fin HQ (HE.out 122 _ ?_ (ext_trans hbl hb6) _)
          unfold checkErr
          rw [if_neg h1, if_neg (by simp [H2.out]), if_neg (by simp [H3.out]), if_neg h4, if_pos]
          rw [List.all_eq_false]
          exact ⟨_, List.getElem_mem hlt, by rw [Hok.out]; simp⟩
        | true =>
          have Hok := hid hok
          clear hok
          go_wp2
          go_roundw
          case rel =>
            refine ⟨k + 1, by omega, by go_num, fun i h hi => ?_, ext_trans hbl hb6⟩
            by_cases e : i = k
            · subst e; exact Hok.out
            · exact hno.out i h (by omega)
          case measure => simp [intOf]; omega
      · have Hru : Hid (∀ r ∈ T.rules, ruleOk T.lits r = true) := fun r hr => by
          obtain ⟨i, hi, rfl⟩ := List.getElem_of_mem hr
          exact hno.out i hi (by omega)
        have Hru2 : Hid (¬ T.rules.all (ruleOk T.lits) = false) := by rw [Hid, List.all_eq_true.2 Hru.out]; simp
        clear hno
        go_wp2_with fail
        refine (pairs_any wo _ T (HT1.out.ext hbl) H2.out (by omega) H3.out (by omega) Hru.out).mono ?_
        rintro e w5 ⟨_, rfl, rfl, hb5⟩
        have hb5' := ext_trans hbl hb5
        clear c0 c1 c2 c3
        by_cases h6 : 65536 < pairCount T
        · go_wp2_with fail
          go_ret2
          exact Fin HQ (HE.out 113 _ (by unfold checkErr; rw [if_neg h1, if_neg (by simp [H2.out]), if_neg (by simp [H3.out]), if_neg h4, if_neg Hru2.out, if_pos h6]) hb5' _)
        have c0 := cell_ext hb5' B.out.1; have c1 := cell_ext hb5' B.out.2.1; have c2 := cell_ext hb5' B.out.2.2.1; have c3 := cell_ext hb5' B.out.2.2.2
        by_cases h7 : T.beats.length = T.rules.length
        case neg =>
          have hb7 : ((T.beats.length : Int) != (T.rules.length : Int)) = true := by simp; omega
          have H7 := hid h7
          have H6 := hid h6
          clear h7
          go_wp2_with fail
          go_ret2
          exact Fin HQ (HE.out 123 _ (by unfold checkErr; rw [if_neg h1, if_neg (by simp [H2.out]), if_neg (by simp [H3.out]), if_neg h4, if_neg Hru2.out, if_neg H6.out, if_pos H7.out]) hb5' _)
        have hb7 : ((T.beats.length : Int) != (T.rules.length : Int)) = false := by simp; omega
        have H7 := hid h7
        have H6 := hid h6
        clear h7
        go_wp2_with fail
        clear h6
        refine (beats_any w5 _ T (HT1.out.ext hb5') H2.out H3.out Hru.out H7.out (by omega)).mono ?_
        rintro e w6 ⟨_, rfl, ⟨r8, rfl, hr8⟩, hb6⟩
        have HR8 := hid hr8
        have hb6' := ext_trans hb5' hb6
        clear hr8 c0 c1 c2 c3
        have c0 := cell_ext hb6' B.out.1; have c1 := cell_ext hb6' B.out.2.1; have c2 := cell_ext hb6' B.out.2.2.1; have c3 := cell_ext hb6' B.out.2.2.2
        cases h8 : beatsAll T with
        | false =>
          have hr0 : 0 ≤ r8 := by have := HR8.out; rw [h8] at this; simp at this; omega
          have H8 := hid h8
          clear h8
          go_wp2_with fail
          go_ret2
          exact Fin HQ (HE.out 123 _ (by unfold checkErr; rw [if_neg h1, if_neg (by simp [H2.out]), if_neg (by simp [H3.out]), if_neg h4, if_neg Hru2.out, if_neg H6.out, if_neg (by simp [H7.out]), if_pos H8.out]) hb6' _)
        | true =>
          have hr0' : r8 < 0 := HR8.out.2 h8
          have H8 := hid h8
          clear h8
          go_wp2_with fail
          refine (circle_any w6 _ T (HT1.out.ext hb6') (by omega) H7.out H8.out).mono ?_
          rintro e w7 ⟨_, rfl, ⟨r9, rfl, hr9⟩, hb7'⟩
          have HR9 := hid hr9
          clear hr9
          by_cases h9 : 0 ≤ r9
          · go_wp2_with fail
            go_ret2
            exact Fin HQ (HE.out 131 _ (by unfold checkErr; rw [if_neg h1, if_neg (by simp [H2.out]), if_neg (by simp [H3.out]), if_neg h4, if_neg Hru2.out, if_neg H6.out, if_neg (by simp [H7.out]), if_neg (by simp [H8.out]), if_neg (fun h => by have := HR9.out.2 h; omega)]) (ext_trans hb6' hb7') _)
          · go_wp2_with fail
            go_ret2
            exact Fin HQ (HE.out 0 _ (by unfold checkErr; rw [if_neg h1, if_neg (by simp [H2.out]), if_neg (by simp [H3.out]), if_neg h4, if_neg Hru2.out, if_neg H6.out, if_neg (by simp [H7.out]), if_neg (by simp [H8.out]), if_pos (HR9.out.1 (by omega))]) (ext_trans hb6' hb7') _)
end Go.Proofs.Lx

namespace Go.Proofs.Lx
open Go Go.RowKit
set_option linter.unusedSimpArgs false
set_option linter.unusedVariables false

abbrev mkV (x : Nat) : Value := Value.int .u8 (x : Int)
abbrev RdMk := Rd 1 (scR fun x : Nat => Value.int .u8 (x : Int))
structure NW (w : World) (b : Nat) (T : Th) (F : List Bool) (RL : List (List Int)) (M : List Nat) : Prop where
  ex : ∃ vF vR vB vFa vRu vM, w.heap[b]? = some (.cells #[.int .i64 T.lits, vF, vR, vB, vFa, vRu, vM] 123 (0, 0)) ∧ RdLL w vF T.foes ∧ RdRs w vR T.rules ∧ RdLL w vB T.beats ∧ RdB w vFa F ∧ RdLL w vRu RL ∧ RdMk w vM M
theorem NW.ext {w w' : World} {b : Nat} {T : Th} {F : List Bool} {RL : List (List Int)} {M : List Nat} (h : NW w b T F RL M) (hb : Below w.heap.size w w') : NW w' b T F RL M := by
  obtain ⟨vF, vR, vB, vFa, vRu, vM, hh, h1, h2, h3, h4, h5, h6⟩ := h.ex
  exact ⟨vF, vR, vB, vFa, vRu, vM, (hb.block b (lt_of_block hh)).trans hh, h1.ext llR_mono hb, h2.ext ruleR_mono hb, h3.ext llR_mono hb, h4.ext (scR_mono _) hb, h5.ext llR_mono hb, h6.ext (scR_mono _) hb⟩
/-- What fits together. -/
structure NVal (T : Th) (F : List Bool) (RL : List (List Int)) (M : List Nat) : Prop where
  fo : ∀ q (h : q < T.foes.length), ∀ f ∈ T.foes[q], 0 ≤ f ∧ f < T.foes.length
  nF : F.length = T.foes.length
  nR : RL.length = T.foes.length
  nM : M.length = T.foes.length
  rl : ∀ q (h : q < RL.length), ∀ r ∈ RL[q], 0 ≤ r ∧ r < T.rules.length
  body : ∀ r (h : r < T.rules.length), ∀ x ∈ T.rules[r].body, 0 ≤ x ∧ x < T.foes.length
  bl : T.beats.length = T.rules.length
  m8 : ∀ x ∈ M, x < 256

def kindAt (T : Th) (r : Int) : Int := (T.rules.getD r.toNat default).kind
def bodyAt (T : Th) (r : Int) : List Int := (T.rules.getD r.toNat default).body
def hasM (M : List Nat) (k : Nat) (q : Int) : Bool := (M.getD q.toNat 0).testBit k
def strictB (T : Th) (r : Int) : Bool := kindAt T r == 1
def supB (T : Th) (r : Int) : Bool := kindAt T r != 3
def wholeB (T : Th) (M : List Nat) (k : Nat) (r : Int) : Bool := !(bodyAt T r).any fun x => !hasM M k x
def someB (T : Th) (M : List Nat) (k : Nat) (r : Int) : Bool := (bodyAt T r).any fun x => hasM M k x
def beatsB (T : Th) (r s : Int) : Bool := memB (row T.beats r) s

theorem and_mask : ∀ (x : _root_.Fin 256) (k : _root_.Fin 4), (x.val &&& 2 ^ k.val != 0) = x.val.testBit k.val := by decide +kernel
theorem bit_mask (x : Nat) (hx : x < 256) (k : Nat) (hk : k < 4) : (bits .and .u8 (x : Int) ((2 ^ k : Nat) : Int) != 0) = x.testBit k := by
  have h2 : 2 ^ k < 2 ^ 8 := Nat.pow_lt_pow_right (by decide) (by omega)
  rw [(bits_nat .u8 8 (by decide) wraps_u8 x (2 ^ k) hx h2).1, ← and_mask ⟨x, hx⟩ ⟨k, hk⟩, bne, bne]
  congr 1
  rw [Bool.eq_iff_iff]; simp

theorem bit_plain (tag : Int) (k : Nat) (hk : k < 4) (ht : tag = (k : Int) + 1) (w : World) : Calls Try.prog 87 #[.int .i64 tag] w fun e w' => e = .returned (.int .u8 ((2 ^ k : Nat) : Int)) ∧ w' = w := by
  refine Calls.mono (R := Ret fun v w' => v = .int .u8 ((2 ^ k : Nat) : Int) ∧ w' = w) ?_ (fun e w' ⟨v, he, hv, hw⟩ => ⟨by rw [he, hv], hw⟩)
  refine post_gen fun Q HQ => ?_
  rcases (show k = 0 ∨ k = 1 ∨ k = 2 ∨ k = 3 by omega) with rfl | rfl | rfl | rfl
  all_goals
    subst ht
    go_enter Try.func87, Try.ntmps87
    go_wp2
    go_ret
    exact Fin HQ ⟨rfl, rfl⟩

set_option maxHeartbeats 800000 in
theorem whas_any (w : World) (b : Nat) (T : Th) (F : List Bool) (RL : List (List Int)) (M : List Nat) (h : NW w b T F RL M) (hv : NVal T F RL M) (q : Int) (h0 : 0 ≤ q) (hq : q < T.foes.length) (tag : Int) (k : Nat) (hk : k < 4) (ht : tag = (k : Int) + 1) :
    Calls Try.prog 119 #[.pointer (some ⟨b, 0, none⟩), .int .i64 q, .int .i64 tag] w (Ret fun v w' => v = .bool (hasM M k q) ∧ Below w.heap.size w w') := by
  obtain ⟨vF, vR, vB, vFa, vRu, vM, hh, _, _, _, _, _, ⟨A, c, rfl, hc, hb, hr⟩⟩ := h.ex
  have hql : q.toNat < M.length := by have := hv.nM; omega
  have hqi : q < M.length := by have := hv.nM; omega
  obtain ⟨ad, rfl, hcell⟩ := hr.at1 hql
  have c6 := cell_of_row w b 6 _ _ _ hh
  simp only [List.getElem?_toArray, List.getElem?_cons_zero, List.getElem?_cons_succ] at c6
  have Hr : Hid (hasM M k q = M[q.toNat].testBit k) := by simp [Hid, hasM, hql]
  have Hm := hid (bit_mask M[q.toNat] (hv.m8 _ (List.getElem_mem hql)) k hk)
  have Hbit := hid (fun w => bit_plain tag k hk ht w)
  clear hh hr h hv ht
  generalize M[q.toNat] = x at *
  generalize hp : 2 ^ k = y at *
  clear hp
  refine post_gen fun Q HQ => ?_
  go_enter Try.func119, Try.ntmps119
  go_wp2
  go_quiet ((go_at_call 87; exact Calls.quiet_of_same (Hbit.out _)))
  go_wp2
  go_ret
  exact Fin HQ ⟨by rw [Hr.out, ← Hm.out]; rfl, ext_drewN _ _⟩


theorem strict_any (w : World) (b : Nat) (T : Th) (F : List Bool) (RL : List (List Int)) (M : List Nat) (h : NW w b T F RL M) (r : Int) (h0 : 0 ≤ r) (hr0 : r < T.rules.length) :
    Calls Try.prog 115 #[.pointer (some ⟨b, 0, none⟩), .int .i64 r] w (Ret fun v w' => v = .bool (strictB T r) ∧ w' = w) := by
  obtain ⟨vF, vR, vB, vFa, vRu, vM, hh, _, ⟨A, c, rfl, hc, hb, hr⟩, _, _, _, _⟩ := h.ex
  have hrl : r.toNat < T.rules.length := by omega
  obtain ⟨ad, B, cB, rfl, p0, p1, p2, _, _, _⟩ := hr.atRule hrl
  have c2 := cell_of_row w b 2 _ _ _ hh
  simp only [List.getElem?_toArray, List.getElem?_cons_zero, List.getElem?_cons_succ] at c2
  have Hr : Hid (strictB T r = (T.rules[r.toNat].kind == 1)) := by simp [Hid, strictB, kindAt, hrl]
  generalize T.rules[r.toNat].kind = x at *
  refine post_gen fun Q HQ => ?_
  go_enter Try.func115, Try.ntmps115
  go_wp2
  go_ret
  exact Fin HQ ⟨by rw [Hr.out]; rfl, rfl⟩


theorem supports_any (w : World) (b : Nat) (T : Th) (F : List Bool) (RL : List (List Int)) (M : List Nat) (h : NW w b T F RL M) (r : Int) (h0 : 0 ≤ r) (hr0 : r < T.rules.length) :
    Calls Try.prog 121 #[.pointer (some ⟨b, 0, none⟩), .int .i64 r] w (Ret fun v w' => v = .bool (supB T r) ∧ w' = w) := by
  obtain ⟨vF, vR, vB, vFa, vRu, vM, hh, _, ⟨A, c, rfl, hc, hb, hr⟩, _, _, _, _⟩ := h.ex
  have hrl : r.toNat < T.rules.length := by omega
  obtain ⟨ad, B, cB, rfl, p0, p1, p2, _, _, _⟩ := hr.atRule hrl
  have c2 := cell_of_row w b 2 _ _ _ hh
  simp only [List.getElem?_toArray, List.getElem?_cons_zero, List.getElem?_cons_succ] at c2
  have Hr : Hid (supB T r = (T.rules[r.toNat].kind != 3)) := by simp [Hid, supB, kindAt, hrl]
  generalize T.rules[r.toNat].kind = x at *
  refine post_gen fun Q HQ => ?_
  go_enter Try.func121, Try.ntmps121
  go_wp2
  go_ret
  exact Fin HQ ⟨by rw [Hr.out]; rfl, rfl⟩


theorem wbeats_any (w : World) (b : Nat) (T : Th) (F : List Bool) (RL : List (List Int)) (M : List Nat) (h : NW w b T F RL M) (r s : Int) (h0 : 0 ≤ r) (hr0 : r < T.beats.length) :
    Calls Try.prog 127 #[.pointer (some ⟨b, 0, none⟩), .int .i64 r, .int .i64 s] w (Ret fun v w' => v = .bool (beatsB T r s) ∧ w' = w) := by
  obtain ⟨vF, vR, vB, vFa, vRu, vM, hh, _, _, ⟨A, c, rfl, hc, hb, hr⟩, _, _, _⟩ := h.ex
  have hrl : r.toNat < T.beats.length := by omega
  obtain ⟨ad, v, rfl, hcell, hv⟩ := hr.atRowV hrl
  have c3 := cell_of_row w b 3 _ _ _ hh
  simp only [List.getElem?_toArray, List.getElem?_cons_zero, List.getElem?_cons_succ] at c3
  have Hr : Hid (beatsB T r s = memB T.beats[r.toNat] s) := by rw [Hid, beatsB, row_at h0 (by omega)]
  have Hc := hid (contains_any w v _ s hv)
  obtain ⟨B, cB, rfl, _⟩ := hv
  generalize T.beats[r.toNat] = l at *
  refine post_gen fun Q HQ => ?_
  go_enter Try.func127, Try.ntmps127
  go_wp2_with fail
  refine Hc.out.mono ?_
  rintro e w2 ⟨_, rfl, rfl, rfl⟩
  go_wp2
  go_ret
  exact Fin HQ ⟨by rw [Hr.out]; rfl, rfl⟩


theorem whole1_any (w : World) (b bw bt : Nat) (T : Th) (F : List Bool) (RL : List (List Int)) (M : List Nat) (h : NW w b T F RL M) (hv : NVal T F RL M) (q : Int) (h0 : 0 ≤ q) (hq : q < T.foes.length) (tag : Int) (k : Nat) (hk : k < 4) (ht : tag = (k : Int) + 1)
    (hw : w.cell? ⟨bw, 0, none⟩ = some (.pointer (some ⟨b, 0, none⟩))) (htc : w.cell? ⟨bt, 0, none⟩ = some (.int .i64 tag)) :
    Calls Try.prog 159 #[.int .i64 q, .pointer (some ⟨bw, 0, none⟩), .pointer (some ⟨bt, 0, none⟩)] w (Ret fun v w' => v = .bool (!hasM M k q) ∧ Below w.heap.size w w') := by
  have Hc := hid (whas_any w b T F RL M h hv q h0 hq tag k hk ht)
  clear ht
  refine post_gen fun Q HQ => ?_
  go_enter Try.func159, Try.ntmps159
  go_wp2_with fail
  refine Hc.out.mono ?_
  rintro e w2 ⟨_, rfl, rfl, hb2⟩
  go_wp2
  go_ret
  exact Fin HQ ⟨rfl, hb2⟩
theorem enters_whole1 : Enters Try.prog 159 := enters_of Try.func159 (by kernel_rfl) (by kernel_rfl)


theorem whole_any (w : World) (b : Nat) (T : Th) (F : List Bool) (RL : List (List Int)) (M : List Nat) (h : NW w b T F RL M) (hv : NVal T F RL M) (r : Int) (h0 : 0 ≤ r) (hr0 : r < T.rules.length) (tag : Int) (k : Nat) (hk : k < 4) (ht : tag = (k : Int) + 1) :
    Calls Try.prog 116 #[.pointer (some ⟨b, 0, none⟩), .int .i64 r, .int .i64 tag] w (Ret fun v w' => v = .bool (wholeB T M k r) ∧ Below w.heap.size w w') := by
  have hrl : r.toNat < T.rules.length := by omega
  have hbel := ext_trans (ext_alloc w (.cells #[.pointer (some ⟨b, 0, none⟩)] 90)) (ext_alloc _ (.cells #[.int .i64 tag] 44))
  obtain ⟨W2, HW2⟩ : ∃ W2, Hid (W2 = (w.alloc (.cells #[.pointer (some ⟨b, 0, none⟩)] 90)).alloc (.cells #[.int .i64 tag] 44)) := ⟨_, hid rfl⟩
  rw [← HW2.out] at hbel
  have hw0 : W2.cell? ⟨w.heap.size, 0, none⟩ = some (.pointer (some ⟨b, 0, none⟩)) := by rw [HW2.out, World.cell?_alloc_past _ _ _ (by simp), World.cell?_alloc_at _ _ _ _ rfl]; rfl
  have ht0 : W2.cell? ⟨w.heap.size + 1, 0, none⟩ = some (.int .i64 tag) := by rw [HW2.out, World.cell?_alloc_at _ _ _ _ (by simp)]; rfl
  have h2 := h.ext hbel
  have hbody := hv.body r.toNat hrl
  obtain ⟨vF, vR, vB, vFa, vRu, vM, hh, _, ⟨A, c, rfl, hc, hb, hr⟩, _, _, _, _⟩ := h2.ex
  obtain ⟨ad, B, cB, rfl, p0, p1, p2, q0, q1, q2⟩ := hr.atRule hrl
  have c2 := cell_of_row W2 b 2 _ _ _ hh
  simp only [List.getElem?_toArray, List.getElem?_cons_zero, List.getElem?_cons_succ] at c2
  have Hr : Hid (wholeB T M k r = !T.rules[r.toNat].body.any (fun x => !hasM M k x)) := by simp [Hid, wholeB, bodyAt, hrl]
  have Hc := hid (containsFunc W2 (.slice B T.rules[r.toNat].body.length cB) T.rules[r.toNat].body 159 #[.pointer (some ⟨w.heap.size, 0, none⟩), .pointer (some ⟨w.heap.size + 1, 0, none⟩)] (fun x => !hasM M k x) enters_whole1 ⟨B, cB, rfl, q0, q1, q2⟩
    (fun x hx w1 ho => whole1_any w1 b _ _ T F RL M (h2.ext ho) hv x (hbody x hx).1 (hbody x hx).2 tag k hk ht (cell_ext ho hw0) (cell_ext ho ht0)))
  rw [HW2.out] at c2 p2
  clear h h2 hv hbody hh hr ht p0 p1 q2 hw0 ht0
  generalize T.rules[r.toNat].body = l at *
  refine post_gen fun Q HQ => ?_
  go_enter Try.func116, Try.ntmps116
  go_wp2_with fail
  rw [← HW2.out]
  refine Hc.out.mono ?_
  rintro e w2 ⟨_, rfl, rfl, hb2⟩
  go_wp2
  go_ret
  exact Fin HQ ⟨by rw [Hr.out]; rfl, ext_trans hbel hb2⟩


theorem some1_any (w : World) (b bw bt : Nat) (T : Th) (F : List Bool) (RL : List (List Int)) (M : List Nat) (h : NW w b T F RL M) (hv : NVal T F RL M) (q : Int) (h0 : 0 ≤ q) (hq : q < T.foes.length) (tag : Int) (k : Nat) (hk : k < 4) (ht : tag = (k : Int) + 1)
    (hw : w.cell? ⟨bw, 0, none⟩ = some (.pointer (some ⟨b, 0, none⟩))) (htc : w.cell? ⟨bt, 0, none⟩ = some (.int .i64 tag)) :
    Calls Try.prog 160 #[.int .i64 q, .pointer (some ⟨bw, 0, none⟩), .pointer (some ⟨bt, 0, none⟩)] w (Ret fun v w' => v = .bool (hasM M k q) ∧ Below w.heap.size w w') := by
  have Hc := hid (whas_any w b T F RL M h hv q h0 hq tag k hk ht)
  clear ht
  refine post_gen fun Q HQ => ?_
  go_enter Try.func160, Try.ntmps160
  go_wp2_with fail
  refine Hc.out.mono ?_
  rintro e w2 ⟨_, rfl, rfl, hb2⟩
  go_wp2
  go_ret
  exact Fin HQ ⟨rfl, hb2⟩
theorem enters_some1 : Enters Try.prog 160 := enters_of Try.func160 (by kernel_rfl) (by kernel_rfl)


theorem some_any (w : World) (b : Nat) (T : Th) (F : List Bool) (RL : List (List Int)) (M : List Nat) (h : NW w b T F RL M) (hv : NVal T F RL M) (r : Int) (h0 : 0 ≤ r) (hr0 : r < T.rules.length) (tag : Int) (k : Nat) (hk : k < 4) (ht : tag = (k : Int) + 1) :
    Calls Try.prog 118 #[.pointer (some ⟨b, 0, none⟩), .int .i64 r, .int .i64 tag] w (Ret fun v w' => v = .bool (someB T M k r) ∧ Below w.heap.size w w') := by
  have hrl : r.toNat < T.rules.length := by omega
  have hbel := ext_trans (ext_alloc w (.cells #[.pointer (some ⟨b, 0, none⟩)] 90)) (ext_alloc _ (.cells #[.int .i64 tag] 44))
  obtain ⟨W2, HW2⟩ : ∃ W2, Hid (W2 = (w.alloc (.cells #[.pointer (some ⟨b, 0, none⟩)] 90)).alloc (.cells #[.int .i64 tag] 44)) := ⟨_, hid rfl⟩
  rw [← HW2.out] at hbel
  have hw0 : W2.cell? ⟨w.heap.size, 0, none⟩ = some (.pointer (some ⟨b, 0, none⟩)) := by rw [HW2.out, World.cell?_alloc_past _ _ _ (by simp), World.cell?_alloc_at _ _ _ _ rfl]; rfl
  have ht0 : W2.cell? ⟨w.heap.size + 1, 0, none⟩ = some (.int .i64 tag) := by rw [HW2.out, World.cell?_alloc_at _ _ _ _ (by simp)]; rfl
  have h2 := h.ext hbel
  have hbody := hv.body r.toNat hrl
  obtain ⟨vF, vR, vB, vFa, vRu, vM, hh, _, ⟨A, c, rfl, hc, hb, hr⟩, _, _, _, _⟩ := h2.ex
  obtain ⟨ad, B, cB, rfl, p0, p1, p2, q0, q1, q2⟩ := hr.atRule hrl
  have c2 := cell_of_row W2 b 2 _ _ _ hh
  simp only [List.getElem?_toArray, List.getElem?_cons_zero, List.getElem?_cons_succ] at c2
  have Hr : Hid (someB T M k r = T.rules[r.toNat].body.any (fun x => hasM M k x)) := by simp [Hid, someB, bodyAt, hrl]
  have Hc := hid (containsFunc W2 (.slice B T.rules[r.toNat].body.length cB) T.rules[r.toNat].body 160 #[.pointer (some ⟨w.heap.size, 0, none⟩), .pointer (some ⟨w.heap.size + 1, 0, none⟩)] (fun x => hasM M k x) enters_some1 ⟨B, cB, rfl, q0, q1, q2⟩
    (fun x hx w1 ho => some1_any w1 b _ _ T F RL M (h2.ext ho) hv x (hbody x hx).1 (hbody x hx).2 tag k hk ht (cell_ext ho hw0) (cell_ext ho ht0)))
  rw [HW2.out] at c2 p2
  clear h h2 hv hbody hh hr ht p0 p1 q2 hw0 ht0
  generalize T.rules[r.toNat].body = l at *
  refine post_gen fun Q HQ => ?_
  go_enter Try.func118, Try.ntmps118
  go_wp2_with fail
  rw [← HW2.out]
  refine Hc.out.mono ?_
  rintro e w2 ⟨_, rfl, rfl, hb2⟩
  go_wp2
  go_ret
  exact Fin HQ ⟨by rw [Hr.out]; rfl, ext_trans hbel hb2⟩


theorem anyRule_any (w : World) (b : Nat) (T : Th) (F : List Bool) (RL : List (List Int)) (M : List Nat) (h : NW w b T F RL M) (hv : NVal T F RL M) (q : Int) (h0 : 0 ≤ q) (hq : q < T.foes.length)
    (g : Nat) (caps : Array Value) (p : Int → Bool) (hg : Enters Try.prog g) (hf : ∀ x ∈ row RL q, FunB Try.prog w g caps p x) :
    Calls Try.prog 113 #[.pointer (some ⟨b, 0, none⟩), .int .i64 q, .func (.func g) #[] caps] w (Ret fun v w' => v = .bool ((row RL q).any p) ∧ Below w.heap.size w w') := by
  obtain ⟨vF, vR, vB, vFa, vRu, vM, hh, _, _, _, _, ⟨A, c, rfl, hc, hb, hr⟩, _⟩ := h.ex
  have hql : q.toNat < RL.length := by have := hv.nR; omega
  have hqi : q < RL.length := by have := hv.nR; omega
  obtain ⟨ad, v, rfl, hcell, hvv⟩ := hr.atRowV hql
  have c5 := cell_of_row w b 5 _ _ _ hh
  simp only [List.getElem?_toArray, List.getElem?_cons_zero, List.getElem?_cons_succ] at c5
  have hrow : row RL q = RL[q.toNat] := row_at h0 (by omega)
  rw [hrow] at hf ⊢
  have Hc := hid (containsFunc w v _ g caps p hg hvv hf)
  obtain ⟨B, cB, rfl, _⟩ := hvv
  clear hf hrow hv h hh hr
  generalize RL[q.toNat] = l at *
  refine post_gen fun Q HQ => ?_
  go_enter Try.func113, Try.ntmps113
  go_wp2_with fail
  refine Hc.out.mono ?_
  rintro e w2 ⟨_, rfl, rfl, hb2⟩
  go_wp2
  go_ret
  exact Fin HQ ⟨rfl, hb2⟩

theorem anyAttack1_any (w : World) (b bw bi : Nat) (T : Th) (F : List Bool) (RL : List (List Int)) (M : List Nat) (h : NW w b T F RL M) (hv : NVal T F RL M) (f : Int) (h0 : 0 ≤ f) (hq : f < T.foes.length)
    (g : Nat) (caps : Array Value) (p : Int → Bool) (hg : Enters Try.prog g) (hf : ∀ x ∈ row RL f, FunB Try.prog w g caps p x)
    (hw : w.cell? ⟨bw, 0, none⟩ = some (.pointer (some ⟨b, 0, none⟩))) (hi : w.cell? ⟨bi, 0, none⟩ = some (.func (.func g) #[] caps)) :
    Calls Try.prog 161 #[.int .i64 f, .pointer (some ⟨bw, 0, none⟩), .pointer (some ⟨bi, 0, none⟩)] w (Ret fun v w' => v = .bool ((row RL f).any p) ∧ Below w.heap.size w w') := by
  have Hc := hid (anyRule_any w b T F RL M h hv f h0 hq g caps p hg hf)
  clear hf
  refine post_gen fun Q HQ => ?_
  go_enter Try.func161, Try.ntmps161
  go_wp2_with fail
  refine Hc.out.mono ?_
  rintro e w2 ⟨_, rfl, rfl, hb2⟩
  go_wp2
  go_ret
  exact Fin HQ ⟨rfl, hb2⟩
theorem enters_anyAttack1 : Enters Try.prog 161 := enters_of Try.func161 (by kernel_rfl) (by kernel_rfl)

theorem FunB.ext {P : Program} {w w' : World} {g : Nat} {caps : Array Value} {p : Int → Bool} {x : Int} (h : FunB P w g caps p x) (hb : Below w.heap.size w w') : FunB P w' g caps p x := fun w1 ho => h w1 (ext_trans hb ho)

theorem anyAttack_any (w : World) (b : Nat) (T : Th) (F : List Bool) (RL : List (List Int)) (M : List Nat) (h : NW w b T F RL M) (hv : NVal T F RL M) (q : Int) (h0 : 0 ≤ q) (hq : q < T.foes.length)
    (g : Nat) (caps : Array Value) (p : Int → Bool) (hg : Enters Try.prog g) (hf : ∀ f ∈ row T.foes q, ∀ x ∈ row RL f, FunB Try.prog w g caps p x) :
    Calls Try.prog 124 #[.pointer (some ⟨b, 0, none⟩), .int .i64 q, .func (.func g) #[] caps] w (Ret fun v w' => v = .bool ((row T.foes q).any fun f => (row RL f).any p) ∧ Below w.heap.size w w') := by
  have hql : q.toNat < T.foes.length := by omega
  have hrow : row T.foes q = T.foes[q.toNat] := row_at h0 (by omega)
  rw [hrow] at hf ⊢
  have hbel := ext_trans (ext_alloc w (.cells #[.pointer (some ⟨b, 0, none⟩)] 90)) (ext_alloc _ (.cells #[.func (.func g) #[] caps] 38))
  obtain ⟨W2, HW2⟩ : ∃ W2, Hid (W2 = (w.alloc (.cells #[.pointer (some ⟨b, 0, none⟩)] 90)).alloc (.cells #[.func (.func g) #[] caps] 38)) := ⟨_, hid rfl⟩
  rw [← HW2.out] at hbel
  have hw0 : W2.cell? ⟨w.heap.size, 0, none⟩ = some (.pointer (some ⟨b, 0, none⟩)) := by rw [HW2.out, World.cell?_alloc_past _ _ _ (by simp), World.cell?_alloc_at _ _ _ _ rfl]; rfl
  have ht0 : W2.cell? ⟨w.heap.size + 1, 0, none⟩ = some (.func (.func g) #[] caps) := by rw [HW2.out, World.cell?_alloc_at _ _ _ _ (by simp)]; rfl
  have h2 := h.ext hbel
  have hfo := hv.fo q.toNat hql
  obtain ⟨vF, vR, vB, vFa, vRu, vM, hh, ⟨A, c, rfl, hc, hb, hr⟩, _, _, _, _, _⟩ := h2.ex
  obtain ⟨ad, v, rfl, hcell, hvv⟩ := hr.atRowV hql
  have c1 := cell_of_row W2 b 1 _ _ _ hh
  simp only [List.getElem?_toArray, List.getElem?_cons_zero, List.getElem?_cons_succ] at c1
  have Hc := hid (containsFunc W2 v T.foes[q.toNat] 161 #[.pointer (some ⟨w.heap.size, 0, none⟩), .pointer (some ⟨w.heap.size + 1, 0, none⟩)] (fun f => (row RL f).any p) enters_anyAttack1 hvv
    (fun f hx w1 ho => anyAttack1_any w1 b _ _ T F RL M (h2.ext ho) hv f (hfo f hx).1 (hfo f hx).2 g caps p hg (fun x hxx => (hf f hx x hxx).ext (ext_trans hbel ho)) (cell_ext ho hw0) (cell_ext ho ht0)))
  rw [HW2.out] at c1 hcell
  obtain ⟨B, cB, rfl, _⟩ := hvv
  clear h h2 hv hh hr hw0 ht0 hf hfo hrow
  generalize T.foes[q.toNat] = l at *
  refine post_gen fun Q HQ => ?_
  go_enter Try.func124, Try.ntmps124
  go_wp2_with fail
  rw [← HW2.out]
  refine Hc.out.mono ?_
  rintro e w2 ⟨_, rfl, rfl, hb2⟩
  go_wp2
  go_ret
  exact Fin HQ ⟨rfl, ext_trans hbel hb2⟩
end Go.Proofs.Lx

namespace Go.Proofs.Lx
open Go Go.RowKit
set_option linter.unusedVariables false

abbrev intsV (xs : List Int) : List Value := xs.map (Value.int .i64)
theorem step_append_own_at {P : Program} {ops : Array Oper} {o : Oper} {a : Act} {w : World} {K : Act → World → Prop} {Q : Exit → Act → World → Prop} {E : Prop}
    (hgd : o.guard = none) (s x : Operand) (t : TypeId)
    (ho : o.op = .call { callee := .builtin .append, args := #[s, x], argTypes := #[t, t] })
    (base : Nat) (e : TypeId) (z : Value) (bytes : Nat) (ht : P.underlying t = some (.slice e)) (hinfo : (P.info? e).map (fun i => (i.zero, i.size, i.bytes)) = some (some z, 1, bytes)) (hz : z.cells.size = 1)
    (v : Value) (n : Nat) (xs : List Value) (hs : a.eval s = v) (hown : w.ownsRow base e 1 v n xs)
    (ad : Addr) (y : Value) (hx : a.eval x = .slice (some ad) 1 1) (hnew : w.cell? ad = some y) (h1 : y.oneCell' = true)
    (h63 : n + 1 ≤ maxLen) (hbytes : (n + 1) * bytes ≤ 140737488355328) (hbase : base ≤ w.heap.size)
    (h : ∀ v' w', w'.ownsRow base e 1 v' (n + 1) (xs ++ [y]) → w.grownBy w' v.ownBlock → (v'.ownBlock = v.ownBlock ∨ v'.ownBlock = some w.heap.size) → K (a.put o.dst v') w') :
    if Region.wanted o (yielded ops a.tmps) = true then Oper.wp P o a w K Q else E := by
  rw [if_pos (by simp [Region.wanted, hgd])]
  obtain ⟨i, hi, hz0, hz1, hz2⟩ := info_parts hinfo
  obtain ⟨v', w', hr, h2, h3, h4, h5⟩ := run_append_own_at (P := P) w base t o.type e i z 1 bytes ht hi hz0 hz1 hz2 hz (by omega) v n xs hown ad 1 1 [y] rfl (by
    intro j u hj
    match j, hj with
    | 0, hj => simp at hj; subst hj; rw [add_zero]; exact hnew) (by intro u hu; simp at hu; subst hu; exact h1) h63 hbytes hbase
  unfold Oper.wp execOp
  simp only [ho, resolve, invoke, builtin, Sem.run_bind, Sem.run_pure, Result.andThen_ok, List.map_toArray, List.map_cons, List.map_nil, hs, hx, hr]
  exact h v' w' h2 h3 h5

structure Rows (w : World) (g base eS eI : Nat) (vs : List Value) (xss : List (List Int)) : Prop where
  blk : w.heap[g]? = some (.cells vs.toArray eS (0, 0))
  len : vs.length = xss.length
  own : ∀ q (h : q < vs.length) (h' : q < xss.length), w.ownsRow base eI 1 vs[q] xss[q].length (intsV xss[q])
  ne : ∀ q r (h : q < vs.length) (h' : r < vs.length), q ≠ r → vs[q].ownBlock = none ∨ vs[q].ownBlock ≠ vs[r].ownBlock
  hg : g < base
section
variable {w w' : World} {g base eS eI : Nat} {vs : List Value} {xss : List (List Int)}
theorem Rows.cell (h : Rows w g base eS eI vs xss) {q : Nat} (hq : q < vs.length) : w.cell? ⟨g, q, none⟩ = some vs[q] := by
  rw [cell_of_row w g q _ eS _ h.blk]; simp [hq]
theorem Rows.free (h : Rows w g base eS eI vs xss) (q : Nat) : w.frozen? ⟨g, q, none⟩ = false := frozen_of_row w g q _ eS h.blk
theorem Rows.lt (h : Rows w g base eS eI vs xss) : g < w.heap.size := lt_of_block h.blk
theorem Rows.ext (h : Rows w g base eS eI vs xss) (hb : Below w.heap.size w w') : Rows w' g base eS eI vs xss :=
  ⟨(hb.block g h.lt).trans h.blk, h.len, fun q h1 h2 => (h.own q h1 h2).kept (row := none) ⟨hb.os, hb.tape, hb.output, hb.size, fun k hk _ => hb.block k hk⟩ (by cases vs[q].ownBlock <;> simp), h.ne, h.hg⟩
theorem Rows.other (h : Rows w g base eS eI vs xss) {a : Addr} (ha : a.block < base) (hne : g ≠ a.block) (u : Value) : Rows (w.setCell a u) g base eS eI vs xss :=
  ⟨(heap_setCell_other w a g u hne).trans h.blk, h.len, fun q h1 h2 => ownsRow_setCell_other (h.own q h1 h2) (fun e => by have := (h.own q h1 h2).lt _ e; omega) u, h.ne, h.hg⟩
theorem Rows.made (w : World) (g base eS eI n : Nat) (hg : g < base) (hb : w.heap[g]? = some (.cells (List.replicate n (Value.slice none 0 0)).toArray eS (0, 0))) : Rows w g base eS eI (List.replicate n (.slice none 0 0)) (List.replicate n []) :=
  ⟨hb, by simp, fun q h1 h2 => by simpa using World.ownsRow_nil w base eI 1, fun q r h1 h2 hne => .inl (by simp [Value.ownBlock]), hg⟩
/-- Row q has grown by one. -/
theorem Rows.append (h : Rows w g base eS eI vs xss) (hbase : base ≤ w.heap.size) {q : Nat} (hq : q < vs.length) (hq' : q < xss.length) {v' : Value} {x : Int} (hgr : w.grownBy w' vs[q].ownBlock)
    (ho : w'.ownsRow base eI 1 v' (xss[q].length + 1) (intsV xss[q] ++ [.int .i64 x])) (hat : v'.ownBlock = vs[q].ownBlock ∨ ∃ b, v'.ownBlock = some b ∧ w.heap.size ≤ b) :
    Rows (w'.setCell ⟨g, q, none⟩ v') g base eS eI (vs.set q v') (xss.set q (xss[q] ++ [x])) := by
  have hgne : ∀ k, vs[q].ownBlock = some k → base ≤ k ∧ k < w.heap.size := (h.own q hq hq').lt
  have hblk : w'.heap[g]? = some (.cells vs.toArray eS (0, 0)) := (hgr.block g h.lt (fun e => by have := hgne g e.symm; have := h.hg; omega)).trans h.blk
  refine ⟨?_, by simp [h.len], ?_, ?_, h.hg⟩
  · rw [heap_setCell_same w' g q _ eS _ hblk]; simp
  · intro r h1 h2
    simp only [List.length_set] at h1 h2
    by_cases e : q = r
    · subst e
      simp only [List.getElem_set_self, List.length_append, List.length_cons, List.length_nil, intsV, List.map_append, List.map_cons, List.map_nil]
      exact ownsRow_setCell_other ho (fun e => by have h9 : base ≤ g := (ho.lt _ e).1; have := h.hg; omega) _
    · rw [List.getElem_set_ne e, List.getElem_set_ne e]
      have h3 := (h.own r h1 h2).kept hgr (h.ne r q h1 hq (Ne.symm e))
      exact ownsRow_setCell_other h3 (fun e => by have h9 : base ≤ g := (h3.lt _ e).1; have := h.hg; omega) _
  · intro r t h1 h2 hrt
    simp only [List.length_set] at h1 h2
    rw [List.getElem_set, List.getElem_set]
    by_cases e : q = r
    · rw [if_pos e, if_neg (fun e2 => hrt (e.symm.trans e2))]
      subst e
      rcases hat with hat | ⟨b, hat, hb⟩
      · rw [hat]; exact h.ne q t hq h2 hrt
      · right
        rw [hat]
        intro e3
        have := (h.own t h2 (by rw [← h.len]; exact h2)).lt b e3.symm
        omega
    · rw [if_neg e]
      by_cases e2 : q = t
      · rw [if_pos e2]
        subst e2
        rcases hat with hat | ⟨b, hat, hb⟩
        · rw [hat]; exact h.ne r q h1 hq hrt
        · cases ho2 : vs[r].ownBlock with
          | none => exact .inl rfl
          | some k =>
            right
            rw [hat]
            intro e3
            injection e3 with e3
            have := (h.own r h1 (by rw [← h.len]; exact h1)).lt k ho2
            omega
      · rw [if_neg e2]; exact h.ne r t h1 h2 hrt
theorem own_rdI {v : Value} {xs : List Int} (h : w.ownsRow base eI 1 v xs.length (intsV xs)) (hl : xs.length ≤ 140737488355328) : RdI w v xs := by
  rcases h.2 with ⟨rfl, h0⟩ | ⟨gg, cap, cur, rfl, _, _, hc, _⟩
  · exact ⟨none, 0, by rw [h0], by omega, hl, fun i hi => absurd hi (by omega)⟩
  · refine ⟨_, cap, rfl, hc, hl, fun i hi => ⟨_, _, rfl, rfl, rfl, fun j u hu => ?_⟩⟩
    match j, hu with
    | 0, hu =>
      simp at hu; subst hu
      rw [add_plain, Nat.add_zero, Nat.mul_one, h.cellAt i (by omega)]
      simp [hi]
theorem Rows.reads (h : Rows w g base eS eI vs xss) (hl : xss.length ≤ 140737488355328) (hx : ∀ q (h : q < xss.length), xss[q].length ≤ 140737488355328) (c : Nat) (hc : xss.length ≤ c) : RdLL w (.slice (some ⟨g, 0, none⟩) xss.length c) xss := by
  refine ⟨_, c, rfl, hc, hl, fun i hi => ⟨_, _, rfl, ⟨vs[i]'(by rw [h.len]; exact hi), rfl, own_rdI (h.own i _ hi) (hx i hi)⟩, rfl, fun j u hu => ?_⟩⟩
  match j, hu with
  | 0, hu =>
    simp at hu; subst hu
    rw [add_plain, Nat.add_zero, Nat.mul_one]
    exact h.cell _
end
end Go.Proofs.Lx

namespace Go.Proofs.Lx
open Go Go.RowKit
set_option linter.unusedSimpArgs false
set_option linter.unusedVariables false

abbrev marksV (M : List Nat) : List Value := M.map fun (x : Nat) => Value.int .u8 (x : Int)
theorem own_rdS {α : Type} {enc : α → Value} {w : World} {base eI : Nat} {v : Value} {xs : List α} (h : w.ownsRow base eI 1 v xs.length (xs.map enc)) (hl : xs.length ≤ 140737488355328) : Rd 1 (scR enc) w v xs := by
  rcases h.2 with ⟨rfl, h0⟩ | ⟨gg, cap, cur, rfl, _, _, hc, _⟩
  · exact ⟨none, 0, by rw [h0], by omega, hl, fun i hi => absurd hi (by omega)⟩
  · refine ⟨_, cap, rfl, hc, hl, fun i hi => ⟨_, _, rfl, rfl, rfl, fun j u hu => ?_⟩⟩
    match j, hu with
    | 0, hu =>
      simp at hu; subst hu
      rw [add_plain, Nat.add_zero, Nat.mul_one, h.cellAt i (by omega)]
      simp [hi]

theorem cloneM_any (w : World) (v : Value) (M : List Nat) (hv : RdMk w v M) :
    Calls Try.prog 86 #[v] w (Ret fun r w' => w'.ownsRow w.heap.size 33 1 r M.length (marksV M) ∧ Below w.heap.size w w') := by
  obtain ⟨A, c, rfl, hc, hb, hr⟩ := hv
  have hne := @Lib.run_eql_slice_nil Try.prog
  obtain ⟨i0, hi, hz0, hz1, hz2⟩ := info_parts infoM
  refine post_gen fun Q HQ => ?_
  cases A with
  | none =>
    have hM : M.length = 0 := by
      rcases Nat.eq_zero_or_pos M.length with h | h
      · exact h
      · obtain ⟨ad, _, h1, _⟩ := hr 0 h; cases h1
    have HM := hid (List.eq_nil_of_length_eq_zero hM)
    have hM0 : M.length ≤ 0 := by omega
    clear hM hr
    generalize hL : M.length = L at *
    have HL := hid hL
    clear hL
    go_enter Try.func86, Try.ntmps86
    go_wp2
    go_ret
    exact Fin HQ ⟨by rw [HM.out]; rw [HM.out] at HL; obtain rfl : 0 = L := HL.out; exact World.ownsRow_nil _ _ _ _, ext_refl _⟩
  | some ad =>
    have hn : ∀ (W : World), Below w.heap.size w W → ∀ j u, (marksV M)[j]? = some u → W.cell? (ad.add j) = some u := by
      intro W hW j u hj
      obtain ⟨hjl, rfl⟩ := List.getElem?_eq_some_iff.1 hj
      simp only [marksV, List.length_map] at hjl
      obtain ⟨ad', e, h1⟩ := hr.at1 hjl
      cases e
      have := cell_ext hW h1
      simpa [marksV] using this
    have Hn := hid hn
    clear hn hr
    go_enter Try.func86, Try.ntmps86
    go_wp2_with (at_builtin; refine wpList_append_own _ rfl _ _ 28 rfl w.heap.size 33 i0 (.int .u8 0) 1 1 Try.underlying28 hi hz0 hz1 hz2 rfl (by decide) _ 0 [] rfl (World.ownsRow_made w #[] 0 (Nat.le_refl _) (by unfold maxLen; omega) rfl) ad M.length c (marksV M) rfl (by simp) (Hn.out _ (ext_alloc _ _)) ?c1 ?c2 ?c3 ?c4 ?_)
    case c1 => intro u hu; obtain ⟨x, _, rfl⟩ := List.mem_map.1 hu; rfl
    case c2 => unfold maxLen; omega
    case c3 => omega
    case c4 => simp
    intro v' w1 hown hgrow _
    go_wp2
    go_ret
    refine Fin HQ ⟨by simpa using hown, ?_⟩
    exact ((ext_alloc w _).grown hgrow (by simp) (fun k hk => by simp [Value.ownBlock] at hk; omega))
end Go.Proofs.Lx

namespace Go.Proofs.Lx
open Go Go.RowKit
set_option linter.unusedSimpArgs false
set_option linter.unusedVariables false

def pdR (T : Th) (M : List Nat) (r : Int) : Bool := strictB T r && wholeB T M 0 r
def mdR (T : Th) (M : List Nat) (r : Int) : Bool := strictB T r && !someB T M 1 r
def ppR (T : Th) (M : List Nat) (r : Int) : Bool := supB T r && wholeB T M 2 r
def mpR (T : Th) (M : List Nat) (r : Int) : Bool := supB T r && !someB T M 3 r
def ppB (T : Th) (M : List Nat) (s r : Int) : Bool := supB T r && (beatsB T r s && wholeB T M 2 r)
def mpB (T : Th) (M : List Nat) (s r : Int) : Bool := supB T r && (beatsB T r s && !someB T M 3 r)
def ppS (T : Th) (RL : List (List Int)) (M : List Nat) (q s : Int) : Bool := !someB T M 3 s && !(row RL q).any (ppB T M s)
def mpS (T : Th) (RL : List (List Int)) (M : List Nat) (q s : Int) : Bool := wholeB T M 2 s && !(row RL q).any (mpB T M s)
def plusDB (T : Th) (F : List Bool) (RL : List (List Int)) (M : List Nat) (q : Int) : Bool := F.getD q.toNat false || (row RL q).any (pdR T M)
def minusDB (T : Th) (F : List Bool) (RL : List (List Int)) (M : List Nat) (q : Int) : Bool := !F.getD q.toNat false && !(row RL q).any (mdR T M)
def plusPB (T : Th) (RL : List (List Int)) (M : List Nat) (q : Int) : Bool :=
  hasM M 0 q || ((row RL q).any (ppR T M) && (!(row T.foes q).any (fun f => !hasM M 1 f) && !(row T.foes q).any fun f => (row RL f).any (ppS T RL M q)))
def minusPB (T : Th) (RL : List (List Int)) (M : List Nat) (q : Int) : Bool :=
  hasM M 1 q && (!(row RL q).any (mpR T M) || ((row T.foes q).any (fun f => hasM M 0 f) || (row T.foes q).any fun f => (row RL f).any (mpS T RL M q)))


theorem pd1_any (w : World) (b bw : Nat) (T : Th) (F : List Bool) (RL : List (List Int)) (M : List Nat) (h : NW w b T F RL M) (hv : NVal T F RL M) (r : Int) (h0 : 0 ≤ r) (hr0 : r < T.rules.length)
    (hw : w.cell? ⟨bw, 0, none⟩ = some (.pointer (some ⟨b, 0, none⟩))) :
    Calls Try.prog 114 #[.int .i64 r, .pointer (some ⟨bw, 0, none⟩)] w (Ret fun v w' => v = .bool (pdR T M r) ∧ Below w.heap.size w w') := by
  have H1 := hid (strict_any w b T F RL M h r h0 hr0)
  have H2 := hid (whole_any w b T F RL M h hv r h0 hr0 1 0 (by decide) (by decide))
  have Hs : Hid (pdR T M r = (strictB T r && wholeB T M 0 r)) := rfl
  clear h hv
  refine post_gen fun Q HQ => ?_
  cases hs : strictB T r with
  | false =>
    have HS := hid hs
    go_enter Try.func114, Try.ntmps114
    go_wp2_with (go_at_call 115; refine H1.out.mono ?_; rintro e w' ⟨_, rfl, rfl, rfl⟩)
    go_ret
    exact Fin HQ ⟨by rw [Hs.out, HS.out]; rfl, ext_refl _⟩
  | true =>
    have HS := hid hs
    go_enter Try.func114, Try.ntmps114
    go_wp2_with (first | (go_at_call 115; refine H1.out.mono ?_; rintro e w' ⟨_, rfl, rfl, rfl⟩) | (go_at_call 116; refine H2.out.mono ?_; rintro e w2 ⟨_, rfl, rfl, hb2⟩))
    go_ret
    exact Fin HQ ⟨by rw [Hs.out, HS.out]; rfl, by assumption⟩
theorem enters_pd1 : Enters Try.prog 114 := enters_of Try.func114 (by kernel_rfl) (by kernel_rfl)

theorem md1_any (w : World) (b bw : Nat) (T : Th) (F : List Bool) (RL : List (List Int)) (M : List Nat) (h : NW w b T F RL M) (hv : NVal T F RL M) (r : Int) (h0 : 0 ≤ r) (hr0 : r < T.rules.length)
    (hw : w.cell? ⟨bw, 0, none⟩ = some (.pointer (some ⟨b, 0, none⟩))) :
    Calls Try.prog 117 #[.int .i64 r, .pointer (some ⟨bw, 0, none⟩)] w (Ret fun v w' => v = .bool (mdR T M r) ∧ Below w.heap.size w w') := by
  have H1 := hid (strict_any w b T F RL M h r h0 hr0)
  have H2 := hid (some_any w b T F RL M h hv r h0 hr0 2 1 (by decide) (by decide))
  have Hs : Hid (mdR T M r = (strictB T r && !someB T M 1 r)) := rfl
  clear h hv
  refine post_gen fun Q HQ => ?_
  cases hs : strictB T r with
  | false =>
    have HS := hid hs
    go_enter Try.func117, Try.ntmps117
    go_wp2_with (go_at_call 115; refine H1.out.mono ?_; rintro e w' ⟨_, rfl, rfl, rfl⟩)
    go_ret
    exact Fin HQ ⟨by rw [Hs.out, HS.out]; rfl, ext_refl _⟩
  | true =>
    have HS := hid hs
    go_enter Try.func117, Try.ntmps117
    go_wp2_with (first | (go_at_call 115; refine H1.out.mono ?_; rintro e w' ⟨_, rfl, rfl, rfl⟩) | (go_at_call 118; refine H2.out.mono ?_; rintro e w2 ⟨_, rfl, rfl, hb2⟩))
    go_ret
    exact Fin HQ ⟨by rw [Hs.out, HS.out]; rfl, by assumption⟩
theorem enters_md1 : Enters Try.prog 117 := enters_of Try.func117 (by kernel_rfl) (by kernel_rfl)

theorem pp1_any (w : World) (b bw : Nat) (T : Th) (F : List Bool) (RL : List (List Int)) (M : List Nat) (h : NW w b T F RL M) (hv : NVal T F RL M) (r : Int) (h0 : 0 ≤ r) (hr0 : r < T.rules.length)
    (hw : w.cell? ⟨bw, 0, none⟩ = some (.pointer (some ⟨b, 0, none⟩))) :
    Calls Try.prog 120 #[.int .i64 r, .pointer (some ⟨bw, 0, none⟩)] w (Ret fun v w' => v = .bool (ppR T M r) ∧ Below w.heap.size w w') := by
  have H1 := hid (supports_any w b T F RL M h r h0 hr0)
  have H2 := hid (whole_any w b T F RL M h hv r h0 hr0 3 2 (by decide) (by decide))
  have Hs : Hid (ppR T M r = (supB T r && wholeB T M 2 r)) := rfl
  clear h hv
  refine post_gen fun Q HQ => ?_
  cases hs : supB T r with
  | false =>
    have HS := hid hs
    go_enter Try.func120, Try.ntmps120
    go_wp2_with (go_at_call 121; refine H1.out.mono ?_; rintro e w' ⟨_, rfl, rfl, rfl⟩)
    go_ret
    exact Fin HQ ⟨by rw [Hs.out, HS.out]; rfl, ext_refl _⟩
  | true =>
    have HS := hid hs
    go_enter Try.func120, Try.ntmps120
    go_wp2_with (first | (go_at_call 121; refine H1.out.mono ?_; rintro e w' ⟨_, rfl, rfl, rfl⟩) | (go_at_call 116; refine H2.out.mono ?_; rintro e w2 ⟨_, rfl, rfl, hb2⟩))
    go_ret
    exact Fin HQ ⟨by rw [Hs.out, HS.out]; rfl, by assumption⟩
theorem enters_pp1 : Enters Try.prog 120 := enters_of Try.func120 (by kernel_rfl) (by kernel_rfl)

theorem mp1_any (w : World) (b bw : Nat) (T : Th) (F : List Bool) (RL : List (List Int)) (M : List Nat) (h : NW w b T F RL M) (hv : NVal T F RL M) (r : Int) (h0 : 0 ≤ r) (hr0 : r < T.rules.length)
    (hw : w.cell? ⟨bw, 0, none⟩ = some (.pointer (some ⟨b, 0, none⟩))) :
    Calls Try.prog 128 #[.int .i64 r, .pointer (some ⟨bw, 0, none⟩)] w (Ret fun v w' => v = .bool (mpR T M r) ∧ Below w.heap.size w w') := by
  have H1 := hid (supports_any w b T F RL M h r h0 hr0)
  have H2 := hid (some_any w b T F RL M h hv r h0 hr0 4 3 (by decide) (by decide))
  have Hs : Hid (mpR T M r = (supB T r && !someB T M 3 r)) := rfl
  clear h hv
  refine post_gen fun Q HQ => ?_
  cases hs : supB T r with
  | false =>
    have HS := hid hs
    go_enter Try.func128, Try.ntmps128
    go_wp2_with (go_at_call 121; refine H1.out.mono ?_; rintro e w' ⟨_, rfl, rfl, rfl⟩)
    go_ret
    exact Fin HQ ⟨by rw [Hs.out, HS.out]; rfl, ext_refl _⟩
  | true =>
    have HS := hid hs
    go_enter Try.func128, Try.ntmps128
    go_wp2_with (first | (go_at_call 121; refine H1.out.mono ?_; rintro e w' ⟨_, rfl, rfl, rfl⟩) | (go_at_call 118; refine H2.out.mono ?_; rintro e w2 ⟨_, rfl, rfl, hb2⟩))
    go_ret
    exact Fin HQ ⟨by rw [Hs.out, HS.out]; rfl, by assumption⟩
theorem enters_mp1 : Enters Try.prog 128 := enters_of Try.func128 (by kernel_rfl) (by kernel_rfl)

theorem pp2_any (w : World) (b bw : Nat) (T : Th) (F : List Bool) (RL : List (List Int)) (M : List Nat) (h : NW w b T F RL M) (hv : NVal T F RL M) (f : Int) (h0 : 0 ≤ f) (hq : f < T.foes.length)
    (hw : w.cell? ⟨bw, 0, none⟩ = some (.pointer (some ⟨b, 0, none⟩))) :
    Calls Try.prog 123 #[.int .i64 f, .pointer (some ⟨bw, 0, none⟩)] w (Ret fun v w' => v = .bool (!hasM M 1 f) ∧ Below w.heap.size w w') := by
  have H1 := hid (whas_any w b T F RL M h hv f h0 hq 2 1 (by decide) (by decide))
  clear h hv
  refine post_gen fun Q HQ => ?_
  go_enter Try.func123, Try.ntmps123
  go_wp2_with fail
  refine H1.out.mono ?_
  rintro e w2 ⟨_, rfl, rfl, hb2⟩
  go_wp2
  go_ret
  exact Fin HQ ⟨rfl, hb2⟩
theorem enters_pp2 : Enters Try.prog 123 := enters_of Try.func123 (by kernel_rfl) (by kernel_rfl)

theorem mp2_any (w : World) (b bw : Nat) (T : Th) (F : List Bool) (RL : List (List Int)) (M : List Nat) (h : NW w b T F RL M) (hv : NVal T F RL M) (f : Int) (h0 : 0 ≤ f) (hq : f < T.foes.length)
    (hw : w.cell? ⟨bw, 0, none⟩ = some (.pointer (some ⟨b, 0, none⟩))) :
    Calls Try.prog 129 #[.int .i64 f, .pointer (some ⟨bw, 0, none⟩)] w (Ret fun v w' => v = .bool (hasM M 0 f) ∧ Below w.heap.size w w') := by
  have H1 := hid (whas_any w b T F RL M h hv f h0 hq 1 0 (by decide) (by decide))
  clear h hv
  refine post_gen fun Q HQ => ?_
  go_enter Try.func129, Try.ntmps129
  go_wp2_with fail
  refine H1.out.mono ?_
  rintro e w2 ⟨_, rfl, rfl, hb2⟩
  go_wp2
  go_ret
  exact Fin HQ ⟨rfl, hb2⟩
theorem enters_mp2 : Enters Try.prog 129 := enters_of Try.func129 (by kernel_rfl) (by kernel_rfl)

theorem pp31_any (w : World) (b bw : Nat) (T : Th) (F : List Bool) (RL : List (List Int)) (M : List Nat) (h : NW w b T F RL M) (hv : NVal T F RL M) (bs : Nat) (r s : Int) (h0 : 0 ≤ r) (hr0 : r < T.rules.length)
    (hw : w.cell? ⟨bw, 0, none⟩ = some (.pointer (some ⟨b, 0, none⟩))) (hsc : w.cell? ⟨bs, 0, none⟩ = some (.int .i64 s)) :
    Calls Try.prog 126 #[.int .i64 r, .pointer (some ⟨bw, 0, none⟩), .pointer (some ⟨bs, 0, none⟩)] w (Ret fun v w' => v = .bool (ppB T M s r) ∧ Below w.heap.size w w') := by
  have H1 := hid (supports_any w b T F RL M h r h0 hr0)
  have H3 := hid (wbeats_any w b T F RL M h r s h0 (by have := hv.bl; omega))
  have H2 := hid (whole_any w b T F RL M h hv r h0 hr0 3 2 (by decide) (by decide))
  have Hs : Hid (ppB T M s r = (supB T r && (beatsB T r s && wholeB T M 2 r))) := rfl
  clear h hv
  refine post_gen fun Q HQ => ?_
  cases hs : supB T r with
  | false =>
    have HS := hid hs
    go_enter Try.func126, Try.ntmps126
    go_wp2_with (go_at_call 121; refine H1.out.mono ?_; rintro e w' ⟨_, rfl, rfl, rfl⟩)
    go_ret
    exact Fin HQ ⟨by rw [Hs.out, HS.out]; rfl, ext_refl _⟩
  | true =>
    have HS := hid hs
    cases hb : beatsB T r s with
    | false =>
      have HB := hid hb
      go_enter Try.func126, Try.ntmps126
      go_wp2_with (first | (go_at_call 121; refine H1.out.mono ?_; rintro e w' ⟨_, rfl, rfl, rfl⟩) | (go_at_call 127; refine H3.out.mono ?_; rintro e w' ⟨_, rfl, rfl, rfl⟩))
      go_ret
      exact Fin HQ ⟨by rw [Hs.out, HS.out, HB.out]; rfl, ext_refl _⟩
    | true =>
      have HB := hid hb
      go_enter Try.func126, Try.ntmps126
      go_wp2_with (first | (go_at_call 121; refine H1.out.mono ?_; rintro e w' ⟨_, rfl, rfl, rfl⟩) | (go_at_call 127; refine H3.out.mono ?_; rintro e w' ⟨_, rfl, rfl, rfl⟩) | (go_at_call 116; refine H2.out.mono ?_; rintro e w2 ⟨_, rfl, rfl, hb2⟩))
      go_ret
      exact Fin HQ ⟨by rw [Hs.out, HS.out, HB.out]; rfl, by assumption⟩
theorem enters_pp31 : Enters Try.prog 126 := enters_of Try.func126 (by kernel_rfl) (by kernel_rfl)

theorem mp31_any (w : World) (b bw : Nat) (T : Th) (F : List Bool) (RL : List (List Int)) (M : List Nat) (h : NW w b T F RL M) (hv : NVal T F RL M) (bs : Nat) (r s : Int) (h0 : 0 ≤ r) (hr0 : r < T.rules.length)
    (hw : w.cell? ⟨bw, 0, none⟩ = some (.pointer (some ⟨b, 0, none⟩))) (hsc : w.cell? ⟨bs, 0, none⟩ = some (.int .i64 s)) :
    Calls Try.prog 131 #[.int .i64 r, .pointer (some ⟨bw, 0, none⟩), .pointer (some ⟨bs, 0, none⟩)] w (Ret fun v w' => v = .bool (mpB T M s r) ∧ Below w.heap.size w w') := by
  have H1 := hid (supports_any w b T F RL M h r h0 hr0)
  have H3 := hid (wbeats_any w b T F RL M h r s h0 (by have := hv.bl; omega))
  have H2 := hid (some_any w b T F RL M h hv r h0 hr0 4 3 (by decide) (by decide))
  have Hs : Hid (mpB T M s r = (supB T r && (beatsB T r s && !someB T M 3 r))) := rfl
  clear h hv
  refine post_gen fun Q HQ => ?_
  cases hs : supB T r with
  | false =>
    have HS := hid hs
    go_enter Try.func131, Try.ntmps131
    go_wp2_with (go_at_call 121; refine H1.out.mono ?_; rintro e w' ⟨_, rfl, rfl, rfl⟩)
    go_ret
    exact Fin HQ ⟨by rw [Hs.out, HS.out]; rfl, ext_refl _⟩
  | true =>
    have HS := hid hs
    cases hb : beatsB T r s with
    | false =>
      have HB := hid hb
      go_enter Try.func131, Try.ntmps131
      go_wp2_with (first | (go_at_call 121; refine H1.out.mono ?_; rintro e w' ⟨_, rfl, rfl, rfl⟩) | (go_at_call 127; refine H3.out.mono ?_; rintro e w' ⟨_, rfl, rfl, rfl⟩))
      go_ret
      exact Fin HQ ⟨by rw [Hs.out, HS.out, HB.out]; rfl, ext_refl _⟩
    | true =>
      have HB := hid hb
      go_enter Try.func131, Try.ntmps131
      go_wp2_with (first | (go_at_call 121; refine H1.out.mono ?_; rintro e w' ⟨_, rfl, rfl, rfl⟩) | (go_at_call 127; refine H3.out.mono ?_; rintro e w' ⟨_, rfl, rfl, rfl⟩) | (go_at_call 118; refine H2.out.mono ?_; rintro e w2 ⟨_, rfl, rfl, hb2⟩))
      go_ret
      exact Fin HQ ⟨by rw [Hs.out, HS.out, HB.out]; rfl, by assumption⟩
theorem enters_mp31 : Enters Try.prog 131 := enters_of Try.func131 (by kernel_rfl) (by kernel_rfl)

theorem pp3_any (w : World) (b bw : Nat) (T : Th) (F : List Bool) (RL : List (List Int)) (M : List Nat) (h : NW w b T F RL M) (hv : NVal T F RL M) (bq : Nat) (s q : Int) (h0 : 0 ≤ s) (hr0 : s < T.rules.length) (hq0 : 0 ≤ q) (hq : q < T.foes.length)
    (hw : w.cell? ⟨bw, 0, none⟩ = some (.pointer (some ⟨b, 0, none⟩))) (hqc : w.cell? ⟨bq, 0, none⟩ = some (.int .i64 q)) :
    Calls Try.prog 125 #[.int .i64 s, .pointer (some ⟨bw, 0, none⟩), .pointer (some ⟨bq, 0, none⟩)] w (Ret fun v w' => v = .bool (ppS T RL M q s) ∧ Below w.heap.size w w') := by
  have hbel := ext_alloc w (.cells #[.int .i64 s] 3)
  obtain ⟨W1, HW1⟩ : ∃ W1, Hid (W1 = w.alloc (.cells #[.int .i64 s] 3)) := ⟨_, hid rfl⟩
  have hsc : W1.cell? ⟨w.heap.size, 0, none⟩ = some (.int .i64 s) := by rw [HW1.out, World.cell?_alloc_at _ _ _ _ rfl]; rfl
  rw [← HW1.out] at hbel
  have h1 := h.ext hbel
  have hw1 := cell_ext hbel hw
  have hq1 := cell_ext hbel hqc
  have hrow : ∀ x ∈ row RL q, 0 ≤ x ∧ x < T.rules.length := by
    rw [row_at hq0 (by have := hv.nR; omega)]
    exact hv.rl q.toNat (by have := hv.nR; omega)
  have Hc := hid (some_any W1 b T F RL M h1 hv s h0 hr0 4 3 (by decide) (by decide))
  have Ha := hid (fun (w2 : World) (hb2 : Below W1.heap.size W1 w2) => anyRule_any w2 b T F RL M (h1.ext hb2) hv q hq0 hq _ #[.pointer (some ⟨bw, 0, none⟩), .pointer (some ⟨w.heap.size, 0, none⟩)] (ppB T M s) enters_pp31 (fun x hx w3 ho => pp31_any w3 b bw T F RL M (h1.ext (ext_trans hb2 ho)) hv w.heap.size x s (hrow x hx).1 (hrow x hx).2 (cell_ext (ext_trans hb2 ho) hw1) (cell_ext (ext_trans hb2 ho) hsc)))
  have Hs : Hid (ppS T RL M q s = (!someB T M 3 s && !(row RL q).any (ppB T M s))) := rfl
  have hbw := World.block_lt_of_cell? _ _ hw
  have hbq := World.block_lt_of_cell? _ _ hqc
  dsimp only at hbw hbq
  clear h hv h1 hrow
  refine post_gen fun Q HQ => ?_
  cases hs : someB T M 3 s with
  | true =>
    have HS := hid hs
    go_enter Try.func125, Try.ntmps125
    go_wp2_with fail
    rw [← HW1.out]
    refine Hc.out.mono ?_
    rintro e w2 ⟨_, rfl, rfl, hb2⟩
    go_wp2_with fail
    go_ret
    exact Fin HQ ⟨by rw [Hs.out, HS.out]; rfl, ext_trans hbel hb2⟩
  | false =>
    have HS := hid hs
    go_enter Try.func125, Try.ntmps125
    go_wp2_with fail
    rw [← HW1.out]
    refine Hc.out.mono ?_
    rintro e w2 ⟨_, rfl, rfl, hb2⟩
    have hw2 := cell_ext hb2 hw1
    have hq2 := cell_ext hb2 hq1
    go_wp2_with fail
    refine (Ha.out w2 hb2).mono ?_
    rintro e w3 ⟨_, rfl, rfl, hb3⟩
    go_wp2_with fail
    go_ret
    exact Fin HQ ⟨by rw [Hs.out, HS.out]; rfl, ext_trans hbel (ext_trans hb2 hb3)⟩
theorem enters_pp3 : Enters Try.prog 125 := enters_of Try.func125 (by kernel_rfl) (by kernel_rfl)

theorem mp3_any (w : World) (b bw : Nat) (T : Th) (F : List Bool) (RL : List (List Int)) (M : List Nat) (h : NW w b T F RL M) (hv : NVal T F RL M) (bq : Nat) (s q : Int) (h0 : 0 ≤ s) (hr0 : s < T.rules.length) (hq0 : 0 ≤ q) (hq : q < T.foes.length)
    (hw : w.cell? ⟨bw, 0, none⟩ = some (.pointer (some ⟨b, 0, none⟩))) (hqc : w.cell? ⟨bq, 0, none⟩ = some (.int .i64 q)) :
    Calls Try.prog 130 #[.int .i64 s, .pointer (some ⟨bw, 0, none⟩), .pointer (some ⟨bq, 0, none⟩)] w (Ret fun v w' => v = .bool (mpS T RL M q s) ∧ Below w.heap.size w w') := by
  have hbel := ext_alloc w (.cells #[.int .i64 s] 3)
  obtain ⟨W1, HW1⟩ : ∃ W1, Hid (W1 = w.alloc (.cells #[.int .i64 s] 3)) := ⟨_, hid rfl⟩
  have hsc : W1.cell? ⟨w.heap.size, 0, none⟩ = some (.int .i64 s) := by rw [HW1.out, World.cell?_alloc_at _ _ _ _ rfl]; rfl
  rw [← HW1.out] at hbel
  have h1 := h.ext hbel
  have hw1 := cell_ext hbel hw
  have hq1 := cell_ext hbel hqc
  have hrow : ∀ x ∈ row RL q, 0 ≤ x ∧ x < T.rules.length := by
    rw [row_at hq0 (by have := hv.nR; omega)]
    exact hv.rl q.toNat (by have := hv.nR; omega)
  have Hc := hid (whole_any W1 b T F RL M h1 hv s h0 hr0 3 2 (by decide) (by decide))
  have Ha := hid (fun (w2 : World) (hb2 : Below W1.heap.size W1 w2) => anyRule_any w2 b T F RL M (h1.ext hb2) hv q hq0 hq _ #[.pointer (some ⟨bw, 0, none⟩), .pointer (some ⟨w.heap.size, 0, none⟩)] (mpB T M s) enters_mp31 (fun x hx w3 ho => mp31_any w3 b bw T F RL M (h1.ext (ext_trans hb2 ho)) hv w.heap.size x s (hrow x hx).1 (hrow x hx).2 (cell_ext (ext_trans hb2 ho) hw1) (cell_ext (ext_trans hb2 ho) hsc)))
  have Hs : Hid (mpS T RL M q s = (wholeB T M 2 s && !(row RL q).any (mpB T M s))) := rfl
  have hbw := World.block_lt_of_cell? _ _ hw
  have hbq := World.block_lt_of_cell? _ _ hqc
  dsimp only at hbw hbq
  clear h hv h1 hrow
  refine post_gen fun Q HQ => ?_
  cases hs : wholeB T M 2 s with
  | false =>
    have HS := hid hs
    go_enter Try.func130, Try.ntmps130
    go_wp2_with fail
    rw [← HW1.out]
    refine Hc.out.mono ?_
    rintro e w2 ⟨_, rfl, rfl, hb2⟩
    go_wp2_with fail
    go_ret
    exact Fin HQ ⟨by rw [Hs.out, HS.out]; rfl, ext_trans hbel hb2⟩
  | true =>
    have HS := hid hs
    go_enter Try.func130, Try.ntmps130
    go_wp2_with fail
    rw [← HW1.out]
    refine Hc.out.mono ?_
    rintro e w2 ⟨_, rfl, rfl, hb2⟩
    have hw2 := cell_ext hb2 hw1
    have hq2 := cell_ext hb2 hq1
    go_wp2_with fail
    refine (Ha.out w2 hb2).mono ?_
    rintro e w3 ⟨_, rfl, rfl, hb3⟩
    go_wp2_with fail
    go_ret
    exact Fin HQ ⟨by rw [Hs.out, HS.out]; rfl, ext_trans hbel (ext_trans hb2 hb3)⟩
theorem enters_mp3 : Enters Try.prog 130 := enters_of Try.func130 (by kernel_rfl) (by kernel_rfl)

theorem plusDelta_any (w : World) (b : Nat) (T : Th) (F : List Bool) (RL : List (List Int)) (M : List Nat) (h : NW w b T F RL M) (hv : NVal T F RL M) (q : Int) (h0 : 0 ≤ q) (hq : q < T.foes.length) :
    Calls Try.prog 88 #[.pointer (some ⟨b, 0, none⟩), .int .i64 q] w (Ret fun v w' => v = .bool (plusDB T F RL M q) ∧ Below w.heap.size w w') := by
  have hbel := ext_alloc w (.cells #[.pointer (some ⟨b, 0, none⟩)] 90)
  obtain ⟨W1, HW1⟩ : ∃ W1, Hid (W1 = w.alloc (.cells #[.pointer (some ⟨b, 0, none⟩)] 90)) := ⟨_, hid rfl⟩
  have hw1 : W1.cell? ⟨w.heap.size, 0, none⟩ = some (.pointer (some ⟨b, 0, none⟩)) := by rw [HW1.out, World.cell?_alloc_at _ _ _ _ rfl]; rfl
  rw [← HW1.out] at hbel
  have h1 := h.ext hbel
  have hrow : ∀ x ∈ row RL q, 0 ≤ x ∧ x < T.rules.length := by
    rw [row_at h0 (by have := hv.nR; omega)]
    exact hv.rl q.toNat (by have := hv.nR; omega)
  have Ha := hid (anyRule_any W1 b T F RL M h1 hv q h0 hq _ #[.pointer (some ⟨w.heap.size, 0, none⟩)] (pdR T M) enters_pd1 (fun x hx w3 ho => pd1_any w3 b w.heap.size T F RL M (h1.ext ho) hv x (hrow x hx).1 (hrow x hx).2 (cell_ext ho hw1)))
  have hql : q.toNat < F.length := by have := hv.nF; omega
  have hqi : q < F.length := by have := hv.nF; omega
  obtain ⟨vF, vR, vB, vFa, vRu, vM, hh, _, _, _, ⟨A, c, rfl, hc, hb, hr⟩, _, _⟩ := h1.ex
  obtain ⟨ad, rfl, hcell⟩ := hr.at1 hql
  have c4 := cell_of_row W1 b 4 _ _ _ hh
  simp only [List.getElem?_toArray, List.getElem?_cons_zero, List.getElem?_cons_succ] at c4
  have Hs : Hid (plusDB T F RL M q = (F[q.toNat] || (row RL q).any (pdR T M))) := by simp [Hid, plusDB, hql]
  rw [HW1.out] at c4 hcell
  clear h h1 hv hrow hh hr hw1
  generalize F[q.toNat] = y at *
  refine post_gen fun Q HQ => ?_
  cases y with
  | true =>
    go_enter Try.func88, Try.ntmps88
    go_wp2_with fail
    go_ret
    exact Fin HQ ⟨by rw [Hs.out]; rfl, by rw [← HW1.out]; exact hbel⟩
  | false =>
    go_enter Try.func88, Try.ntmps88
    go_wp2_with fail
    rw [← HW1.out]
    refine Ha.out.mono ?_
    rintro e w3 ⟨_, rfl, rfl, hb3⟩
    go_wp2_with fail
    go_ret
    exact Fin HQ ⟨by rw [Hs.out]; rfl, ext_trans hbel hb3⟩

theorem minusDelta_any (w : World) (b : Nat) (T : Th) (F : List Bool) (RL : List (List Int)) (M : List Nat) (h : NW w b T F RL M) (hv : NVal T F RL M) (q : Int) (h0 : 0 ≤ q) (hq : q < T.foes.length) :
    Calls Try.prog 89 #[.pointer (some ⟨b, 0, none⟩), .int .i64 q] w (Ret fun v w' => v = .bool (minusDB T F RL M q) ∧ Below w.heap.size w w') := by
  have hbel := ext_alloc w (.cells #[.pointer (some ⟨b, 0, none⟩)] 90)
  obtain ⟨W1, HW1⟩ : ∃ W1, Hid (W1 = w.alloc (.cells #[.pointer (some ⟨b, 0, none⟩)] 90)) := ⟨_, hid rfl⟩
  have hw1 : W1.cell? ⟨w.heap.size, 0, none⟩ = some (.pointer (some ⟨b, 0, none⟩)) := by rw [HW1.out, World.cell?_alloc_at _ _ _ _ rfl]; rfl
  rw [← HW1.out] at hbel
  have h1 := h.ext hbel
  have hrow : ∀ x ∈ row RL q, 0 ≤ x ∧ x < T.rules.length := by
    rw [row_at h0 (by have := hv.nR; omega)]
    exact hv.rl q.toNat (by have := hv.nR; omega)
  have Ha := hid (anyRule_any W1 b T F RL M h1 hv q h0 hq _ #[.pointer (some ⟨w.heap.size, 0, none⟩)] (mdR T M) enters_md1 (fun x hx w3 ho => md1_any w3 b w.heap.size T F RL M (h1.ext ho) hv x (hrow x hx).1 (hrow x hx).2 (cell_ext ho hw1)))
  have hql : q.toNat < F.length := by have := hv.nF; omega
  have hqi : q < F.length := by have := hv.nF; omega
  obtain ⟨vF, vR, vB, vFa, vRu, vM, hh, _, _, _, ⟨A, c, rfl, hc, hb, hr⟩, _, _⟩ := h1.ex
  obtain ⟨ad, rfl, hcell⟩ := hr.at1 hql
  have c4 := cell_of_row W1 b 4 _ _ _ hh
  simp only [List.getElem?_toArray, List.getElem?_cons_zero, List.getElem?_cons_succ] at c4
  have Hs : Hid (minusDB T F RL M q = (!F[q.toNat] && ! (row RL q).any (mdR T M))) := by simp [Hid, minusDB, hql]
  rw [HW1.out] at c4 hcell
  clear h h1 hv hrow hh hr hw1
  generalize F[q.toNat] = y at *
  refine post_gen fun Q HQ => ?_
  cases y with
  | true =>
    go_enter Try.func89, Try.ntmps89
    go_wp2_with fail
    go_ret
    exact Fin HQ ⟨by rw [Hs.out]; rfl, by rw [← HW1.out]; exact hbel⟩
  | false =>
    go_enter Try.func89, Try.ntmps89
    go_wp2_with fail
    rw [← HW1.out]
    refine Ha.out.mono ?_
    rintro e w3 ⟨_, rfl, rfl, hb3⟩
    go_wp2_with fail
    go_ret
    exact Fin HQ ⟨by rw [Hs.out]; rfl, ext_trans hbel hb3⟩
end Go.Proofs.Lx

namespace Go.Proofs.Lx
open Go Go.RowKit
set_option linter.unusedSimpArgs false
set_option linter.unusedVariables false


set_option maxHeartbeats 1600000 in
theorem plusPartial_any (w : World) (b : Nat) (T : Th) (F : List Bool) (RL : List (List Int)) (M : List Nat) (h : NW w b T F RL M) (hv : NVal T F RL M) (q : Int) (h0 : 0 ≤ q) (hq : q < T.foes.length) :
    Calls Try.prog 90 #[.pointer (some ⟨b, 0, none⟩), .int .i64 q] w (Ret fun v w' => v = .bool (plusPB T RL M q) ∧ Below w.heap.size w w') := by
  have hbel := ext_trans (ext_alloc w (.cells #[.pointer (some ⟨b, 0, none⟩)] 90)) (ext_alloc _ (.cells #[.int .i64 q] 3))
  obtain ⟨W2, HW2⟩ : ∃ W2, Hid (W2 = (w.alloc (.cells #[.pointer (some ⟨b, 0, none⟩)] 90)).alloc (.cells #[.int .i64 q] 3)) := ⟨_, hid rfl⟩
  rw [← HW2.out] at hbel
  have hw0 : W2.cell? ⟨w.heap.size, 0, none⟩ = some (.pointer (some ⟨b, 0, none⟩)) := by rw [HW2.out, World.cell?_alloc_past _ _ _ (by simp), World.cell?_alloc_at _ _ _ _ rfl]; rfl
  have hq0 : W2.cell? ⟨w.heap.size + 1, 0, none⟩ = some (.int .i64 q) := by rw [HW2.out, World.cell?_alloc_at _ _ _ _ (by simp)]; rfl
  have h2 := h.ext hbel
  have hrow : ∀ p : Int, 0 ≤ p → p < T.foes.length → ∀ x ∈ row RL p, 0 ≤ x ∧ x < T.rules.length := by
    intro p hp0 hp
    rw [row_at hp0 (by have := hv.nR; omega)]
    exact hv.rl p.toNat (by have := hv.nR; omega)
  have hql : q.toNat < T.foes.length := by omega
  have hfrow : row T.foes q = T.foes[q.toNat] := row_at h0 (by omega)
  have hfo : ∀ x ∈ row T.foes q, 0 ≤ x ∧ x < T.foes.length := by rw [hfrow]; exact hv.fo q.toNat hql
  have H1 := hid (whas_any W2 b T F RL M h2 hv q h0 hq 1 0 (by decide) (by decide))
  have H2 := hid (fun (w2 : World) (hb2 : Below W2.heap.size W2 w2) => anyRule_any w2 b T F RL M (h2.ext hb2) hv q h0 hq _ #[.pointer (some ⟨w.heap.size, 0, none⟩)] (ppR T M) enters_pp1 (fun x hx w3 ho => pp1_any w3 b w.heap.size T F RL M (h2.ext (ext_trans hb2 ho)) hv x (hrow q h0 hq x hx).1 (hrow q h0 hq x hx).2 (cell_ext (ext_trans hb2 ho) hw0)))
  obtain ⟨vF, vR, vB, vFa, vRu, vM, hh, ⟨A, c, rfl, hc, hb, hr⟩, _, _, _, _, _⟩ := h2.ex
  obtain ⟨ad, v, rfl, hcell, hvv⟩ := hr.atRowV hql
  have c1 := cell_of_row W2 b 1 _ _ _ hh
  simp only [List.getElem?_toArray, List.getElem?_cons_zero, List.getElem?_cons_succ] at c1
  have H3 := hid (fun (w2 : World) (hb2 : Below W2.heap.size W2 w2) => containsFunc w2 v (row T.foes q) 123 #[.pointer (some ⟨w.heap.size, 0, none⟩)] (fun f => !hasM M 1 f) enters_pp2 (by rw [hfrow]; exact hvv.ext (scR_mono _) hb2) (fun x hx w3 ho => pp2_any w3 b w.heap.size T F RL M (h2.ext (ext_trans hb2 ho)) hv x (hfo x hx).1 (hfo x hx).2 (cell_ext (ext_trans hb2 ho) hw0)))
  have H4 := hid (fun (w2 : World) (hb2 : Below W2.heap.size W2 w2) => anyAttack_any w2 b T F RL M (h2.ext hb2) hv q h0 hq _ #[.pointer (some ⟨w.heap.size, 0, none⟩), .pointer (some ⟨w.heap.size + 1, 0, none⟩)] (ppS T RL M q) enters_pp3 (fun f hf x hx w3 ho => pp3_any w3 b w.heap.size T F RL M (h2.ext (ext_trans hb2 ho)) hv (w.heap.size + 1) x q (hrow f (hfo f hf).1 (hfo f hf).2 x hx).1 (hrow f (hfo f hf).1 (hfo f hf).2 x hx).2 h0 hq (cell_ext (ext_trans hb2 ho) hw0) (cell_ext (ext_trans hb2 ho) hq0)))
  obtain ⟨B, cB, rfl, _⟩ := hvv
  have Hs : Hid (plusPB T RL M q = (hasM M 0 q || ((row RL q).any (ppR T M) && (!(row T.foes q).any (fun f => !hasM M 1 f) && !(row T.foes q).any fun f => (row RL f).any (ppS T RL M q))))) := rfl
  have C := hid (And.intro hw0 (And.intro hq0 (And.intro c1 hcell)))
  clear h h2 hv hrow hfo hh hr hfrow hw0 hq0 c1 hcell
  generalize hasM M 0 q = x1 at *
  generalize (row RL q).any (ppR T M) = x2 at *
  generalize (row T.foes q).any (fun f => !hasM M 1 f) = x3 at *
  generalize ((row T.foes q).any fun f => (row RL f).any (ppS T RL M q)) = x4 at *
  generalize T.foes[q.toNat] = l at *
  refine post_gen fun Q HQ => ?_
  go_enter Try.func90, Try.ntmps90
  go_wp2_with fail
  rw [← HW2.out]
  refine H1.out.mono ?_
  rintro e w2 ⟨_, rfl, rfl, hb2⟩
  clear H1
  cases x1 with
  | true =>
    go_wp2_with fail
    go_ret
    exact Fin HQ ⟨by rw [Hs.out]; rfl, ext_trans hbel hb2⟩
  | false =>
    have e1 := cell_ext hb2 C.out.1
    have e2 := cell_ext hb2 C.out.2.1
    go_wp2_with fail
    refine (H2.out w2 hb2).mono ?_
    rintro e w3 ⟨_, rfl, rfl, hb3⟩
    have hb3' := ext_trans hb2 hb3
    clear H2 e1 e2
    cases x2 with
    | false =>
      go_wp2_with fail
      go_ret
      exact Fin HQ ⟨by rw [Hs.out]; rfl, ext_trans hbel hb3'⟩
    | true =>
      have e1 := cell_ext hb3' C.out.1
      have e2 := cell_ext hb3' C.out.2.1
      have e3 := cell_ext hb3' C.out.2.2.1
      have e4 := cell_ext hb3' C.out.2.2.2
      go_wp2_with fail
      go_region_with (go_at_call 122; refine (H3.out _ hb3'.drew).mono ?_; rintro e w4 ⟨_, rfl, rfl, hb4⟩)
      all_goals
        have hb4' : Below W2.heap.size W2 w4 := ext_trans hb3'.drew hb4
        have e1 := cell_ext hb4' C.out.1
        have e2 := cell_ext hb4' C.out.2.1
        cases x3 with
        | true =>
          go_wp2_with fail
          go_ret
          exact Fin HQ ⟨by rw [Hs.out]; rfl, ext_trans hbel hb4'⟩
        | false =>
          go_wp2_with fail
          refine (H4.out w4 hb4').mono ?_
          rintro e w5 ⟨_, rfl, rfl, hb5⟩
          go_wp2_with fail
          go_ret
          exact Fin HQ ⟨by rw [Hs.out]; simp, ext_trans hbel (ext_trans hb4' hb5)⟩

set_option maxHeartbeats 1600000 in
theorem minusPartial_any (w : World) (b : Nat) (T : Th) (F : List Bool) (RL : List (List Int)) (M : List Nat) (h : NW w b T F RL M) (hv : NVal T F RL M) (q : Int) (h0 : 0 ≤ q) (hq : q < T.foes.length) :
    Calls Try.prog 91 #[.pointer (some ⟨b, 0, none⟩), .int .i64 q] w (Ret fun v w' => v = .bool (minusPB T RL M q) ∧ Below w.heap.size w w') := by
  have hbel := ext_trans (ext_alloc w (.cells #[.pointer (some ⟨b, 0, none⟩)] 90)) (ext_alloc _ (.cells #[.int .i64 q] 3))
  obtain ⟨W2, HW2⟩ : ∃ W2, Hid (W2 = (w.alloc (.cells #[.pointer (some ⟨b, 0, none⟩)] 90)).alloc (.cells #[.int .i64 q] 3)) := ⟨_, hid rfl⟩
  rw [← HW2.out] at hbel
  have hw0 : W2.cell? ⟨w.heap.size, 0, none⟩ = some (.pointer (some ⟨b, 0, none⟩)) := by rw [HW2.out, World.cell?_alloc_past _ _ _ (by simp), World.cell?_alloc_at _ _ _ _ rfl]; rfl
  have hq0 : W2.cell? ⟨w.heap.size + 1, 0, none⟩ = some (.int .i64 q) := by rw [HW2.out, World.cell?_alloc_at _ _ _ _ (by simp)]; rfl
  have h2 := h.ext hbel
  have hrow : ∀ p : Int, 0 ≤ p → p < T.foes.length → ∀ x ∈ row RL p, 0 ≤ x ∧ x < T.rules.length := by
    intro p hp0 hp
    rw [row_at hp0 (by have := hv.nR; omega)]
    exact hv.rl p.toNat (by have := hv.nR; omega)
  have hql : q.toNat < T.foes.length := by omega
  have hfrow : row T.foes q = T.foes[q.toNat] := row_at h0 (by omega)
  have hfo : ∀ x ∈ row T.foes q, 0 ≤ x ∧ x < T.foes.length := by rw [hfrow]; exact hv.fo q.toNat hql
  have H1 := hid (whas_any W2 b T F RL M h2 hv q h0 hq 2 1 (by decide) (by decide))
  have H2 := hid (fun (w2 : World) (hb2 : Below W2.heap.size W2 w2) => anyRule_any w2 b T F RL M (h2.ext hb2) hv q h0 hq _ #[.pointer (some ⟨w.heap.size, 0, none⟩)] (mpR T M) enters_mp1 (fun x hx w3 ho => mp1_any w3 b w.heap.size T F RL M (h2.ext (ext_trans hb2 ho)) hv x (hrow q h0 hq x hx).1 (hrow q h0 hq x hx).2 (cell_ext (ext_trans hb2 ho) hw0)))
  obtain ⟨vF, vR, vB, vFa, vRu, vM, hh, ⟨A, c, rfl, hc, hb, hr⟩, _, _, _, _, _⟩ := h2.ex
  obtain ⟨ad, v, rfl, hcell, hvv⟩ := hr.atRowV hql
  have c1 := cell_of_row W2 b 1 _ _ _ hh
  simp only [List.getElem?_toArray, List.getElem?_cons_zero, List.getElem?_cons_succ] at c1
  have H3 := hid (fun (w2 : World) (hb2 : Below W2.heap.size W2 w2) => containsFunc w2 v (row T.foes q) 129 #[.pointer (some ⟨w.heap.size, 0, none⟩)] (fun f => hasM M 0 f) enters_mp2 (by rw [hfrow]; exact hvv.ext (scR_mono _) hb2) (fun x hx w3 ho => mp2_any w3 b w.heap.size T F RL M (h2.ext (ext_trans hb2 ho)) hv x (hfo x hx).1 (hfo x hx).2 (cell_ext (ext_trans hb2 ho) hw0)))
  have H4 := hid (fun (w2 : World) (hb2 : Below W2.heap.size W2 w2) => anyAttack_any w2 b T F RL M (h2.ext hb2) hv q h0 hq _ #[.pointer (some ⟨w.heap.size, 0, none⟩), .pointer (some ⟨w.heap.size + 1, 0, none⟩)] (mpS T RL M q) enters_mp3 (fun f hf x hx w3 ho => mp3_any w3 b w.heap.size T F RL M (h2.ext (ext_trans hb2 ho)) hv (w.heap.size + 1) x q (hrow f (hfo f hf).1 (hfo f hf).2 x hx).1 (hrow f (hfo f hf).1 (hfo f hf).2 x hx).2 h0 hq (cell_ext (ext_trans hb2 ho) hw0) (cell_ext (ext_trans hb2 ho) hq0)))
  obtain ⟨B, cB, rfl, _⟩ := hvv
  have Hs : Hid (minusPB T RL M q = (hasM M 1 q && (!(row RL q).any (mpR T M) || ((row T.foes q).any (fun f => hasM M 0 f) || (row T.foes q).any fun f => (row RL f).any (mpS T RL M q))))) := rfl
  have C := hid (And.intro hw0 (And.intro hq0 (And.intro c1 hcell)))
  clear h h2 hv hrow hfo hh hr hfrow hw0 hq0 c1 hcell
  generalize hasM M 1 q = x1 at *
  generalize (row RL q).any (mpR T M) = x2 at *
  generalize (row T.foes q).any (fun f => hasM M 0 f) = x3 at *
  generalize ((row T.foes q).any fun f => (row RL f).any (mpS T RL M q)) = x4 at *
  generalize T.foes[q.toNat] = l at *
  refine post_gen fun Q HQ => ?_
  go_enter Try.func91, Try.ntmps91
  go_wp2_with fail
  rw [← HW2.out]
  refine H1.out.mono ?_
  rintro e w2 ⟨_, rfl, rfl, hb2⟩
  clear H1
  cases x1 with
  | false =>
    go_wp2_with fail
    go_ret
    exact Fin HQ ⟨by rw [Hs.out]; rfl, ext_trans hbel hb2⟩
  | true =>
    have e1 := cell_ext hb2 C.out.1
    have e2 := cell_ext hb2 C.out.2.1
    go_wp2_with fail
    refine (H2.out w2 hb2).mono ?_
    rintro e w3 ⟨_, rfl, rfl, hb3⟩
    have hb3' := ext_trans hb2 hb3
    clear H2 e1 e2
    cases x2 with
    | false =>
      go_wp2_with fail
      go_ret
      exact Fin HQ ⟨by rw [Hs.out]; rfl, ext_trans hbel hb3'⟩
    | true =>
      have e1 := cell_ext hb3' C.out.1
      have e2 := cell_ext hb3' C.out.2.1
      have e3 := cell_ext hb3' C.out.2.2.1
      have e4 := cell_ext hb3' C.out.2.2.2
      go_wp2_with fail
      go_region_with (go_at_call 122; refine (H3.out _ hb3'.drew).mono ?_; rintro e w4 ⟨_, rfl, rfl, hb4⟩)
      all_goals
        have hb4' : Below W2.heap.size W2 w4 := ext_trans hb3'.drew hb4
        have e1 := cell_ext hb4' C.out.1
        have e2 := cell_ext hb4' C.out.2.1
        cases x3 with
        | true =>
          go_wp2_with fail
          go_ret
          exact Fin HQ ⟨by rw [Hs.out]; rfl, ext_trans hbel hb4'⟩
        | false =>
          go_wp2_with fail
          refine (H4.out w4 hb4').mono ?_
          rintro e w5 ⟨_, rfl, rfl, hb5⟩
          go_wp2_with fail
          go_ret
          exact Fin HQ ⟨by rw [Hs.out]; simp, ext_trans hbel (ext_trans hb4' hb5)⟩
end Go.Proofs.Lx

namespace Go.Proofs.Lx
open Go Go.RowKit
set_option linter.unusedSimpArgs false
set_option linter.unusedVariables false

theorem own_set {w : World} {base e n g cap : Nat} {xs : List Value} (h : w.ownsRow base e 1 (.slice (some ⟨g, 0, none⟩) n cap) n xs) (i : Nat) (u : Value) :
    (w.setCell ⟨g, i, none⟩ u).ownsRow base e 1 (.slice (some ⟨g, 0, none⟩) n cap) n (xs.set i u) := by
  obtain ⟨h0, h1⟩ := h
  refine ⟨by simpa using h0, ?_⟩
  rcases h1 with ⟨h1, _⟩ | ⟨gg, cp, cur, h1, h2, h3, h4, h5, h6, h7⟩
  · cases h1
  · cases h1
    right
    refine ⟨g, cap, cur.setIfInBounds i u, rfl, h2, ?_, h4, h5, by simpa using h6, ?_⟩
    · rw [heap_setCell_same w g i _ e _ h3]
    · rw [← h7]; simp [List.take_set]
theorem own_free {w : World} {base e n g cap : Nat} {xs : List Value} (h : w.ownsRow base e 1 (.slice (some ⟨g, 0, none⟩) n cap) n xs) (i : Nat) : w.frozen? ⟨g, i, none⟩ = false := by
  rcases h.2 with ⟨h1, _⟩ | ⟨gg, cp, cur, h1, h2, h3, h4, h5, h6, h7⟩
  · cases h1
  · cases h1; exact frozen_of_row w g i cur e h3
theorem own_at {w : World} {base e n : Nat} {v : Value} {xs : List Value} (h : w.ownsRow base e 1 v n xs) {i : Nat} (hi : i < n) (hx : i < xs.length) : ∃ g cap, v = .slice (some ⟨g, 0, none⟩) n cap ∧ base ≤ g ∧ w.cell? ⟨g, i, none⟩ = some xs[i] := by
  rcases h.2 with ⟨h1, h2⟩ | ⟨gg, cp, cur, h1, h2, h3, h4, h5, h6, h7⟩
  · omega
  · subst h1
    exact ⟨gg, cp, rfl, h2, by rw [h.cellAt i (by omega)]; simp [hx]⟩

theorem conds_plain (w : World) : Calls Try.prog 60 #[] w (Ret fun v w' => v = .agg #[.func (.func 88) #[] #[], .func (.func 89) #[] #[], .func (.func 90) #[] #[], .func (.func 91) #[] #[]] ∧ Below w.heap.size w w') := by
  refine post_gen fun Q HQ => ?_
  go_enter Try.func60, Try.ntmps60
  have hsf : ∀ (a : Addr) (g : Fn) (W : World), Sem.run Try.prog (store a (.func g #[] #[]) .plain) W = stored Try.prog W a (.func g #[] #[]) .plain := fun a g W => run_store Try.prog W a _ _ rfl
  go_wp2
  go_returns
  exact Fin HQ ⟨rfl, ext_alloc _ _⟩


theorem eqM_any (w : World) (v1 v2 : Value) (X Y : List Nat) (h1 : RdMk w v1 X) (h2 : RdMk w v2 Y) :
    Calls Try.prog 85 #[v1, v2] w (Ret fun v w' => v = .bool (decide (X = Y)) ∧ Below w.heap.size w w') := by
  obtain ⟨A, c, rfl, hc, hb, hr⟩ := h1
  obtain ⟨B, d, rfl, hd, hb2, hr2⟩ := h2
  refine post_gen fun Q HQ => ?_
  go_enter Try.func85, Try.ntmps85
  by_cases hl : X.length = Y.length
  case neg =>
    have hb : ((X.length : Int) != (Y.length : Int)) = true := by simp [bne]; omega
    go_wp2
    go_ret
    exact Fin HQ ⟨by rw [decide_eq_false (fun e => hl (by rw [e]))]; rfl, ext_refl _⟩
  have hb3 : ((X.length : Int) != (Y.length : Int)) = false := by simp [bne]; omega
  go_wp2
  go_loopw [13] (fun v13 wr => ∃ k : Nat, k ≤ X.length ∧ v13 = .int .i64 k ∧ Hid (∀ i, i < k → X[i]? = Y[i]?) ∧ Below w.heap.size w wr) (fun v13 _ => X.length - (intOf v13).toNat)
  case atStart => exact ⟨0, Nat.zero_le _, rfl, fun i hi => absurd hi (by omega), ext_refl _⟩
  case round =>
    obtain ⟨k, hk, rfl, hno, hbl⟩ := hrel
    by_cases hlt : k < X.length
    · obtain ⟨ad, rfl, c1⟩ := (hr.ext (scR_mono _) hbl).at1 hlt
      obtain ⟨ad2, rfl, c2⟩ := (hr2.ext (scR_mono _) hbl).at1 (show k < Y.length by omega)
      by_cases he : X[k] = Y[k]
      · have hb4 : ((X[k] : Int) != (Y[k] : Int)) = false := by rw [he]; simp
        go_wp2
        go_quiet (fail)
        go_wp2
        go_roundw
        case rel =>
          refine ⟨k + 1, by omega, by (try simp), ?_, below_drewN hbl _⟩
          intro i hi
          by_cases e : i = k
          · subst e; rw [List.getElem?_eq_getElem hlt, List.getElem?_eq_getElem (by omega), he]
          · exact hno.out i (by omega)
        case measure => simp [intOf]; omega
      · have hb4 : ((X[k] : Int) != (Y[k] : Int)) = true := by simp [bne]; omega
        go_wp2
        go_quiet (fail)
        go_wp2
        go_ret
        have hne : decide (X = Y) = false := decide_eq_false (fun e => he (by subst e; rfl))
        exact Fin HQ ⟨by rw [hne]; rfl, below_drewN hbl _⟩
    · obtain rfl : k = X.length := by omega
      go_wp2
      go_ret
      have heq : X = Y := by
        apply List.ext_getElem?
        intro i
        by_cases hi : i < X.length
        · exact hno.out i hi
        · rw [List.getElem?_eq_none (by omega), List.getElem?_eq_none (by omega)]
      exact Fin HQ ⟨by rw [decide_eq_true heq]; rfl, hbl⟩
end Go.Proofs.Lx

namespace Go.Proofs.Lx
open Go Go.RowKit
set_option linter.unusedSimpArgs false
set_option linter.unusedVariables false

theorem allocs (os : List Obj) : ∀ w : World, (os.foldl World.alloc w).heap.size = w.heap.size + os.length ∧ (∀ i o, os[i]? = some o → (os.foldl World.alloc w).heap[w.heap.size + i]? = some o) ∧ Below w.heap.size w (os.foldl World.alloc w) := by
  induction os with
  | nil => intro w; exact ⟨rfl, fun i o h => by simp at h, Below.refl _ _⟩
  | cons o os ih =>
    intro w
    obtain ⟨h1, h2, h3⟩ := ih (w.alloc o)
    rw [World.size_alloc] at h1 h2
    have hb : Below w.heap.size w (os.foldl World.alloc (w.alloc o)) := ext_trans (ext_alloc w o) h3
    refine ⟨by rw [List.foldl_cons, h1, List.length_cons]; omega, fun i x hi => ?_, hb⟩
    match i, hi with
    | 0, hi =>
      simp at hi; subst hi
      rw [List.foldl_cons, Nat.add_zero]
      exact (h3.block w.heap.size (by rw [World.size_alloc]; omega)).trans (heap_alloc_new w _)
    | i + 1, hi =>
      rw [List.foldl_cons, show w.heap.size + (i + 1) = w.heap.size + 1 + i by omega]
      exact h2 i x (by simpa using hi)
theorem rd_lit1 {α : Type} {R : World → α → List Value → Prop} {W : World} {g n : Nat} {e : TypeId} {cur : Array Value} {xs : List α} (hh : W.heap[g]? = some (.cells cur e (0, 0))) (hn : n = xs.length) (hb : xs.length ≤ 140737488355328)
    (hr : ∀ i (h : i < xs.length), ∃ v, cur[i]? = some v ∧ R W xs[i] [v]) : Rd 1 R W (.slice (some ⟨g, 0, none⟩) n n) xs := by
  subst hn
  refine ⟨_, _, rfl, Nat.le_refl _, hb, fun i hi => ?_⟩
  obtain ⟨v, h1, h2⟩ := hr i hi
  refine ⟨_, [v], rfl, h2, rfl, fun j u hu => ?_⟩
  match j, hu with
  | 0, hu =>
    simp at hu; subst hu
    rw [show i * 1 + 0 = i by omega, add_plain, cell_of_row W g i cur e _ hh]
    exact h1
theorem rd_lit3 {α : Type} {R : World → α → List Value → Prop} {W : World} {g n : Nat} {e : TypeId} {cur : Array Value} {xs : List α} (hh : W.heap[g]? = some (.cells cur e (0, 0))) (hn : n = xs.length) (hb : xs.length ≤ 140737488355328)
    (hr : ∀ i (h : i < xs.length), ∃ a b c, cur[i * 3]? = some a ∧ cur[i * 3 + 1]? = some b ∧ cur[i * 3 + 2]? = some c ∧ R W xs[i] [a, b, c]) : Rd 3 R W (.slice (some ⟨g, 0, none⟩) n n) xs := by
  subst hn
  refine ⟨_, _, rfl, Nat.le_refl _, hb, fun i hi => ?_⟩
  obtain ⟨a, b, c, h1, h2, h3, h4⟩ := hr i hi
  refine ⟨_, [a, b, c], rfl, h4, rfl, fun j u hu => ?_⟩
  rw [add_plain, cell_of_row W g _ cur e _ hh]
  match j, hu with
  | 0, hu => simp at hu; subst hu; exact h1
  | 1, hu => simp at hu; subst hu; exact h2
  | 2, hu => simp at hu; subst hu; exact h3
theorem rd_int1 {W : World} {g : Nat} {e : TypeId} {x : Int} (hh : W.heap[g]? = some (.cells #[.int .i64 x] e (0, 0))) : RdI W (.slice (some ⟨g, 0, none⟩) 1 1) [x] := by
  refine rd_lit1 hh rfl (by simp) fun i hi => ?_
  simp at hi; subst hi
  exact ⟨_, rfl, rfl⟩
/-- All cells of a slice of the call's own. -/
theorem own_all {w : World} {base e n : Nat} {v : Value} {xs : List Value} (h : w.ownsRow base e 1 v n xs) (hn : 0 < n) : ∃ g cap, v = .slice (some ⟨g, 0, none⟩) n cap ∧ base ≤ g ∧ g < w.heap.size ∧ ∀ i x, xs[i]? = some x → w.cell? ⟨g, i, none⟩ = some x := by
  rcases h.2 with ⟨h1, h2⟩ | ⟨gg, cp, cur, h1, h2, h3, h4, h5, h6, h7⟩
  · omega
  · subst h1
    refine ⟨gg, cp, rfl, h2, (Array.getElem?_eq_some_iff.1 h3).1, fun i x hx => ?_⟩
    have := h.cells (g := gg) rfl i x hx
    rwa [add_plain] at this
end Go.Proofs.Lx

namespace Go.Proofs.Lx
open Go Go.RowKit
set_option linter.unusedSimpArgs false
set_option linter.unusedVariables false

theorem list_eq_of {X Y : List Nat} (hl : X.length = Y.length) (h : ∀ i (h1 : i < X.length) (h2 : i < Y.length), X[i] = Y[i]) : X = Y := List.ext_getElem hl h

set_option maxHeartbeats 800000 in
theorem sameM_any (w : World) (v1 v2 : Value) (X Y : List Nat) (h1 : RdMk w v1 X) (h2 : RdMk w v2 Y) :
    Calls Try.prog 23 #[v1, v2] w (Ret fun v w' => v = .bool (decide (X = Y)) ∧ Below w.heap.size w w') := by
  obtain ⟨A, c, rfl, hc, hb, hr⟩ := h1
  obtain ⟨B, d, rfl, hd, hb2, hr2⟩ := h2
  refine post_gen fun Q HQ => ?_
  go_enter Try.func23, Try.ntmps23
  by_cases hl : X.length = Y.length
  case neg =>
    have hne : ((X.length : Int) != (Y.length : Int)) = true := by simp; omega
    have HL := hid hl
    clear hl
    go_wp2
    go_ret
    exact Fin HQ ⟨by rw [decide_eq_false fun e : X = Y => HL.out (by rw [e])]; rfl, ext_refl _⟩
  have HL := hid hl
  generalize hn : X.length = n at *
  have Hn := hid hn
  clear hn
  rw [← HL.out] at hd hb2
  rw [← HL.out]
  clear hl
  go_wp2
  go_loopw [5] (fun v5 wr => ∃ k : Nat, k ≤ n ∧ v5 = .int .i64 k ∧ Hid (∀ i (h1 : i < X.length) (h2 : i < Y.length), i < k → X[i] = Y[i]) ∧ Below w.heap.size w wr) (fun v5 _ => n - (intOf v5).toNat)
  case atStart => exact ⟨0, Nat.zero_le _, rfl, fun i _ _ h => absurd h (by omega), ext_refl _⟩
  case round =>
    obtain ⟨k, hk, rfl, heq, hbl⟩ := hrel
    by_cases hlt : k < n
    · have hx : k < X.length := by rw [Hn.out]; exact hlt
      have hy : k < Y.length := by rw [← HL.out]; exact hlt
      obtain ⟨ad, rfl, hcX⟩ := (hr.ext (scR_mono _) hbl).at1 hx
      obtain ⟨ad2, rfl, hcY⟩ := (hr2.ext (scR_mono _) hbl).at1 hy
      have Hx := hid (And.intro hx hy)
      have hXk : ∃ x, Hid (X[k] = x) := ⟨_, hid rfl⟩
      obtain ⟨x, HX⟩ := hXk
      have hYk : ∃ y, Hid (Y[k] = y) := ⟨_, hid rfl⟩
      obtain ⟨y, HY⟩ := hYk
      rw [HX.out] at hcX
      rw [HY.out] at hcY
      by_cases hxy : x = y
      · have hne : ((x : Int) != (y : Int)) = false := by simp [hxy]
        have Hxy := hid hxy
        clear hxy
        go_wp2
        go_quiet (fail)
        go_wp2
        go_roundw
        case rel =>
          refine ⟨k + 1, by omega, by go_num, hid fun i h1 h2 hi => ?_, below_drewN hbl _⟩
          by_cases e : i = k
          · subst e; rw [HX.out, HY.out]; exact Hxy.out
          · exact heq.out i h1 h2 (by omega)
        case measure => simp [intOf]; omega
      · have hne : ((x : Int) != (y : Int)) = true := by simp; omega
        have Hxy := hid hxy
        clear hxy
        go_wp2
        go_quiet (fail)
        go_wp2
        go_ret
        refine Fin HQ ⟨?_, below_drewN hbl _⟩
        have hne2 : X ≠ Y := by
          intro e
          subst e
          exact Hxy.out (HX.out.symm.trans HY.out)
        rw [decide_eq_false hne2]; rfl
    · go_wp2
      go_ret
      refine Fin HQ ⟨?_, hbl⟩
      have heq2 : X = Y := list_eq_of (by rw [Hn.out]; exact HL.out) fun i h1 h2 => heq.out i h1 h2 (by rw [Hn.out] at h1; omega)
      rw [decide_eq_true heq2]; rfl

set_option maxHeartbeats 800000 in
theorem copyM_any (w : World) (v : Value) (M : List Nat) (hv : RdMk w v M) :
    Calls Try.prog 24 #[v] w (Ret fun r w' => w'.ownsRow w.heap.size 33 1 r M.length (marksV M) ∧ Below w.heap.size w w') := by
  obtain ⟨A, c, rfl, hc, hb, hr⟩ := hv
  obtain ⟨i0, hi, hz0, hz1, hz2⟩ := info_parts infoM
  refine post_gen fun Q HQ => ?_
  generalize hn : M.length = n at *
  have Hn := hid hn
  clear hn
  go_enter Try.func24, Try.ntmps24
  go_wp2
  go_loopw [3, 4] (fun v3 v4 wr => ∃ k : Nat, k ≤ n ∧ v4 = .int .i64 k ∧ wr.ownsRow w.heap.size 33 1 v3 k (marksV (M.take k)) ∧ Below w.heap.size w wr) (fun _ v4 _ => n - (intOf v4).toNat)
  case atStart => exact ⟨0, Nat.zero_le _, rfl, by simpa [marksV] using World.ownsRow_nil _ _ _ _, ext_refl _⟩
  case round =>
    obtain ⟨k, hk, rfl, hown, hbl⟩ := hrel
    by_cases hlt : k < n
    · have hx : k < M.length := by rw [Hn.out]; exact hlt
      obtain ⟨ad, rfl, hcX⟩ := (hr.ext (scR_mono _) hbl).at1 hx
      have hXk : ∃ x, Hid (M[k] = x) := ⟨_, hid rfl⟩
      obtain ⟨x, HX⟩ := hXk
      rw [HX.out] at hcX
      have Hx := hid hx
      have Hown := hid hown
      have hsz := hbl.size
      obtain ⟨Wn, HWn⟩ : ∃ Wn, Hid (Wn = wr.alloc (.cells #[.int .u8 (x : Int)] 33)) := ⟨_, hid rfl⟩
      clear hown
      go_wp2_with (at_builtin; refine wpList_append_own _ rfl _ _ 28 rfl w.heap.size 33 i0 (.int .u8 0) 1 1 Try.underlying28 hi hz0 hz1 hz2 rfl (by decide) _ k _ rfl (Hown.out.alloc _) ⟨wr.heap.size, 0, none⟩ 1 1 [.int .u8 (x : Int)] rfl rfl (cell_one_new _ _ _) (fun u hu => by simp at hu; subst hu; rfl) (by unfold maxLen; omega) (by omega) (by simp; omega) ?_; intro v' w3 hown' hgrow3 hnil3)
      go_roundw
      case rel =>
        refine ⟨k + 1, by omega, by go_num, ?_, ?_⟩
        · rw [List.take_succ_eq_append_getElem Hx.out, HX.out]
          simpa [marksV] using hown'
        · refine (hbl.alloc hsz _).trans ⟨hgrow3.os, hgrow3.tape, hgrow3.output, ?_, fun g hg => hgrow3.block g (by simp; omega) (fun e => ?_)⟩
          · exact hgrow3.size
          · have := (Hown.out.lt g e.symm).1; omega
      case measure => simp [intOf]; omega
    · have e : k = n := by omega
      subst e
      go_wp2
      go_ret
      refine Fin HQ ⟨?_, hbl⟩
      rw [List.take_of_length_le (by rw [Hn.out]; exact Nat.le_refl _)] at hown
      exact hown
end Go.Proofs.Lx

namespace Go.Proofs.Lx
open Go Go.RowKit
set_option linter.unusedSimpArgs false
set_option linter.unusedVariables false

def rulesUpto (rs : List Rule) (k : Nat) (q : Nat) : List Int := ((List.range k).filter fun i => (rs.getD i default).head == (q : Int)).map fun (i : Nat) => (i : Int)
/-- Of each literal the rules with it as head, the first k rules alone. -/
def rulesRows (rs : List Rule) (n k : Nat) : List (List Int) := (List.range n).map (rulesUpto rs k)
theorem rulesRows_length (rs : List Rule) (n k : Nat) : (rulesRows rs n k).length = n := by simp [rulesRows]
theorem rulesRows_at (rs : List Rule) (n k : Nat) {q : Nat} (hq : q < n) : (rulesRows rs n k)[q]'(by rw [rulesRows_length]; exact hq) = rulesUpto rs k q := by simp [rulesRows]
theorem rulesUpto_length (rs : List Rule) (k q : Nat) : (rulesUpto rs k q).length ≤ k := by
  unfold rulesUpto; rw [List.length_map]
  exact Nat.le_trans (List.length_filter_le _ _) (by simp)
theorem rulesRows_succ (rs : List Rule) (n k : Nat) (hk : k < rs.length) (h0 : 0 ≤ rs[k].head) (h1 : rs[k].head < n) :
    rulesRows rs n (k + 1) = (rulesRows rs n k).set rs[k].head.toNat (rulesUpto rs k rs[k].head.toNat ++ [(k : Int)]) := by
  apply List.ext_getElem
  · simp [rulesRows]
  · intro q hq1 hq2
    rw [rulesRows_length] at hq1
    rw [rulesRows_at _ _ _ hq1, List.getElem_set]
    have hg : rs.getD k default = rs[k] := by simp [hk]
    by_cases e : rs[k].head.toNat = q
    · rw [if_pos e]; subst e
      rw [rulesUpto, List.range_succ, List.filter_append, List.map_append]
      have : ((rs.getD k default).head == ((rs[k].head.toNat : Nat) : Int)) = true := by rw [hg, beq_iff_eq]; omega
      rw [List.filter_cons_of_pos (by exact this)]; rfl
    · rw [if_neg e, rulesRows_at _ _ _ hq1, rulesUpto, List.range_succ, List.filter_append, List.map_append]
      have : ¬ ((rs.getD k default).head == (q : Int)) = true := by rw [hg, beq_iff_eq]; omega
      rw [List.filter_cons_of_neg (by exact this)]; simp [rulesUpto]
theorem rulesRows_zero (rs : List Rule) (n : Nat) : rulesRows rs n 0 = List.replicate n [] := by
  apply List.ext_getElem
  · simp [rulesRows]
  · intro q h1 h2; rw [rulesRows_length] at h1; rw [rulesRows_at _ _ _ h1]; simp [rulesUpto]
theorem mem_rulesUpto {rs : List Rule} {k q : Nat} {r : Int} : r ∈ rulesUpto rs k q ↔ ∃ i : Nat, i < k ∧ r = i ∧ (rs.getD i default).head = q := by
  simp only [rulesUpto, List.mem_map, List.mem_filter, List.mem_range, beq_iff_eq]
  constructor
  · rintro ⟨i, ⟨h1, h2⟩, rfl⟩; exact ⟨i, h1, rfl, h2⟩
  · rintro ⟨i, h1, rfl, h2⟩; exact ⟨i, ⟨h1, h2⟩, rfl⟩

def factsB (n : Nat) (l : List Int) : List Bool := (List.range n).map fun (q : Nat) => memB l q
def factsUpto (n k : Nat) (l : List Int) : List Bool := factsB n (l.take k)
theorem factsB_length (n : Nat) (l : List Int) : (factsB n l).length = n := by simp [factsB]
theorem factsUpto_succ (n k : Nat) (l : List Int) (hk : k < l.length) (h0 : 0 ≤ l[k]) : factsUpto n (k + 1) l = (factsUpto n k l).set l[k].toNat true := by
  apply List.ext_getElem
  · simp [factsUpto, factsB]
  · intro q h1 h2
    have hq : q < n := by simpa [factsUpto, factsB] using h1
    rw [List.getElem_set]
    simp only [factsUpto, factsB, List.getElem_map, List.getElem_range]
    rw [List.take_succ_eq_append_getElem hk]
    by_cases e : l[k].toNat = q
    · rw [if_pos e, memB_true]
      subst e
      have : ((l[k].toNat : Nat) : Int) = l[k] := by omega
      rw [this]; exact List.mem_append_right _ (List.mem_singleton.2 rfl)
    · rw [if_neg e, Bool.eq_iff_iff, memB_true, memB_true]
      simp only [List.mem_append, List.mem_singleton]
      constructor
      · rintro (h | h)
        · exact h
        · omega
      · exact .inl
theorem factsUpto_zero (n : Nat) (l : List Int) : factsUpto n 0 l = List.replicate n false := by
  apply List.ext_getElem <;> simp [factsUpto, factsB, memB]
theorem factsUpto_all (n : Nat) (l : List Int) : factsUpto n l.length l = factsB n l := by simp [factsUpto]

/-- naive's world, whose reads outlast stores into its own block. -/
structure NWS (w : World) (b : Nat) (T : Th) (F : List Bool) (RL : List (List Int)) (M : List Nat) : Prop where
  ex : ∃ vF vR vB vFa vRu vM, w.heap[b]? = some (.cells #[.int .i64 T.lits, vF, vR, vB, vFa, vRu, vM] 123 (0, 0)) ∧ ∀ w', w.grownBy w' (some b) → RdLL w' vF T.foes ∧ RdRs w' vR T.rules ∧ RdLL w' vB T.beats ∧ RdB w' vFa F ∧ RdLL w' vRu RL ∧ RdMk w' vM M
theorem grown_refl (w : World) (r : Option Nat) : w.grownBy w r := ⟨rfl, rfl, rfl, Nat.le_refl _, fun _ _ _ => rfl⟩
theorem grown_below {w w' : World} (h : Below w.heap.size w w') (r : Option Nat) : w.grownBy w' r := ⟨h.os, h.tape, h.output, h.size, fun k hk _ => h.block k hk⟩
theorem grown_set (w : World) (b i : Nat) (v : Value) : w.grownBy (w.setCell ⟨b, i, none⟩ v) (some b) :=
  ⟨rfl, rfl, rfl, by simp, fun k _ hk => heap_setCell_other w ⟨b, i, none⟩ k v (fun e => hk (by rw [e]))⟩
section
variable {w w' : World} {b : Nat} {T : Th} {F : List Bool} {RL : List (List Int)} {M : List Nat}
theorem NWS.nw (h : NWS w b T F RL M) : NW w b T F RL M := by
  obtain ⟨vF, vR, vB, vFa, vRu, vM, hh, hr⟩ := h.ex
  obtain ⟨h1, h2, h3, h4, h5, h6⟩ := hr w (grown_refl _ _)
  exact ⟨vF, vR, vB, vFa, vRu, vM, hh, h1, h2, h3, h4, h5, h6⟩
theorem NWS.ext (h : NWS w b T F RL M) (hb : Below w.heap.size w w') : NWS w' b T F RL M := by
  obtain ⟨vF, vR, vB, vFa, vRu, vM, hh, hr⟩ := h.ex
  exact ⟨vF, vR, vB, vFa, vRu, vM, (hb.block b (lt_of_block hh)).trans hh, fun w2 h2 => hr w2 ((grown_below hb _).trans h2)⟩
theorem NWS.put (h : NWS w b T F RL M) {v' : Value} {M' : List Nat} (hm : ∀ w', w.grownBy w' (some b) → RdMk w' v' M') : NWS (w.setCell ⟨b, 6, none⟩ v') b T F RL M' := by
  obtain ⟨vF, vR, vB, vFa, vRu, vM, hh, hr⟩ := h.ex
  refine ⟨vF, vR, vB, vFa, vRu, v', by rw [heap_setCell_same w b 6 _ _ _ hh]; rfl, fun w2 h2 => ?_⟩
  have h3 := (grown_set w b 6 v').trans h2
  obtain ⟨h1, h2, h4, h5, h6, _⟩ := hr w2 h3
  exact ⟨h1, h2, h4, h5, h6, hm w2 h3⟩
end
structure WS (W1 : World) (vals : Array Value) (b gA gR base : Nat) (F : List Bool) (vs : List Value) (xss : List (List Int)) (w : World) : Prop where
  blk : w.heap[b]? = some (.cells vals 123 (0, 0))
  aA : Arr Value.bool 4 w gA F
  rows : Rows w gR base 26 3 vs xss
  old : Below W1.heap.size W1 w
  h1 : W1.heap.size ≤ b ∧ b < base
  h2 : W1.heap.size ≤ gA ∧ gA < base
  h3 : W1.heap.size ≤ gR ∧ gR < base
  hb : base ≤ w.heap.size
  d : b ≠ gA ∧ b ≠ gR ∧ gA ≠ gR
section
variable {W1 : World} {vals : Array Value} {b gA gR base : Nat} {F : List Bool} {vs : List Value} {xss : List (List Int)} {w w' : World}
theorem WS.ext (h : WS W1 vals b gA gR base F vs xss w) (hb : Below w.heap.size w w') : WS W1 vals b gA gR base F vs xss w' :=
  ⟨(hb.block b (lt_of_block h.blk)).trans h.blk, h.aA.ext hb, h.rows.ext hb, h.old.trans (hb.mono h.old.size), h.h1, h.h2, h.h3, Nat.le_trans h.hb hb.size, h.d⟩
theorem WS.fact (h : WS W1 vals b gA gR base F vs xss w) (q : Nat) : WS W1 vals b gA gR base (F.set q true) vs xss (w.setCell ⟨gA, q, none⟩ (.bool true)) :=
  ⟨(heap_setCell_other w _ b _ h.d.1).trans h.blk, h.aA.set q true, h.rows.other h.h2.2 (Ne.symm h.d.2.2) _, h.old.setCell h.h2.1 _, h.h1, h.h2, h.h3, by simp only [World.size_setCell]; exact h.hb, h.d⟩
theorem WS.append (h : WS W1 vals b gA gR base F vs xss w) {q : Nat} (hq : q < vs.length) (hq' : q < xss.length) {v' : Value} {x : Int} (hgr : w.grownBy w' vs[q].ownBlock)
    (ho : w'.ownsRow base 3 1 v' (xss[q].length + 1) (intsV xss[q] ++ [.int .i64 x])) (hat : v'.ownBlock = vs[q].ownBlock ∨ v'.ownBlock = some w.heap.size) :
    WS W1 vals b gA gR base F (vs.set q v') (xss.set q (xss[q] ++ [x])) (w'.setCell ⟨gR, q, none⟩ v') := by
  have hlt := (h.rows.own q hq hq').lt
  have hbk : ∀ g, g < base → w'.heap[g]? = w.heap[g]? := fun g hg => hgr.block g (Nat.lt_of_lt_of_le hg h.hb) (fun e => by have := hlt g e.symm; omega)
  refine ⟨(heap_setCell_other w' _ b _ h.d.2.1).trans ((hbk b h.h1.2).trans h.blk), Arr.other ((hbk gA h.h2.2).trans h.aA) h.d.2.2 _, h.rows.append h.hb hq hq' hgr ho (hat.imp id fun e => ⟨_, e, Nat.le_refl _⟩), ?_, h.h1, h.h2, h.h3, by simp only [World.size_setCell]; exact Nat.le_trans h.hb hgr.size, h.d⟩
  exact (h.old.trans ⟨hgr.os, hgr.tape, hgr.output, hgr.size, fun k hk => hbk k (by have := h.h1; omega)⟩).setCell h.h3.1 _
theorem WS.cell (h : WS W1 vals b gA gR base F vs xss w) (i : Nat) : w.cell? ⟨b, i, none⟩ = vals[i]? := cell_of_row w b i _ _ _ h.blk
theorem WS.blocks (h : WS W1 vals b gA gR base F vs xss w) {q : Nat} (hq : q < vs.length) (hgr : w.grownBy w' vs[q].ownBlock) (g : Nat) (hg : g < base) : w'.heap[g]? = w.heap[g]? :=
  hgr.block g (Nat.lt_of_lt_of_le hg h.hb) (fun e => by have := (h.rows.own q hq (by rw [← h.rows.len]; exact hq)).lt g e.symm; omega)
theorem WS.blocks2 (h : WS W1 vals b gA gR base F vs xss w) {q : Nat} (hq : q < vs.length) {w2 : World} (hb2 : Below w.heap.size w w2) (hgr : w2.grownBy w' vs[q].ownBlock) (g : Nat) (hg : w.heap.size ≤ g) (hg2 : g < w2.heap.size) : w'.heap[g]? = w2.heap[g]? :=
  hgr.block g hg2 (fun e => by have := (h.rows.own q hq (by rw [← h.rows.len]; exact hq)).lt g e.symm; omega)
theorem alloc3 (w : World) (A B C : Obj) : (((w.alloc A).alloc B).alloc C).drew.heap.size = w.heap.size + 3 ∧ (((w.alloc A).alloc B).alloc C).drew.heap[w.heap.size]? = some A ∧ (((w.alloc A).alloc B).alloc C).drew.heap[w.heap.size + 1]? = some B ∧ (((w.alloc A).alloc B).alloc C).drew.heap[w.heap.size + 2]? = some C := by
  refine ⟨by simp only [World.alloc, World.drew, Array.size_push], ?_, ?_, ?_⟩
  all_goals simp only [World.alloc, World.drew, Array.getElem?_push, Array.size_push]
  · rw [if_neg (by omega), if_neg (by omega), if_pos trivial]
  · rw [if_neg (by omega), if_pos trivial]
  · rw [if_pos trivial]
theorem WS.startA (W1 : World) (vals : Array Value) (n s : Nat) (hs : W1.heap.size = s) :
    WS W1 vals (s + 1 + 1) s (s + 1) (s + 1 + 1 + 1) (List.replicate n false) (List.replicate n (.slice none 0 0)) (List.replicate n [])
      ((((W1.alloc (.cells (madeCells #[Value.bool false] n) 4)).alloc (.cells (madeCells #[Value.slice none 0 0] n) 26)).alloc (.cells vals 123)).drew) := by
  subst hs
  obtain ⟨h0, h1, h2, h3⟩ := alloc3 W1 (.cells (madeCells #[Value.bool false] n) 4) (.cells (madeCells #[Value.slice none 0 0] n) 26) (.cells vals 123)
  refine ⟨h3, ?_, Rows.made _ _ _ _ _ _ (by omega) (h2.trans ?_), ?_, by omega, by omega, by omega, by omega, by omega⟩
  · refine h1.trans ?_
    congr 2
    rw [← Array.toList_inj, toList_madeCells_one, List.map_replicate]
  · congr 2
    rw [← Array.toList_inj, toList_madeCells_one]
  · exact Below.drew (Below.alloc (Below.alloc (ext_alloc W1 _) (by simp) _) (by simp only [World.size_alloc]; omega) _)
theorem WS.startB (W1 : World) (vals : Array Value) (n s : Nat) (hs : W1.heap.size = s) :
    WS W1 vals (s + 1 + 1) (s + 1) s (s + 1 + 1 + 1) (List.replicate n false) (List.replicate n (.slice none 0 0)) (List.replicate n [])
      ((((W1.alloc (.cells (madeCells #[Value.slice none 0 0] n) 26)).alloc (.cells (madeCells #[Value.bool false] n) 4)).alloc (.cells vals 123)).drew) := by
  subst hs
  obtain ⟨h0, h1, h2, h3⟩ := alloc3 W1 (.cells (madeCells #[Value.slice none 0 0] n) 26) (.cells (madeCells #[Value.bool false] n) 4) (.cells vals 123)
  refine ⟨h3, ?_, Rows.made _ _ _ _ _ _ (by omega) (h1.trans ?_), ?_, by omega, by omega, by omega, by omega, by omega⟩
  · refine h2.trans ?_
    congr 2
    rw [← Array.toList_inj, toList_madeCells_one, List.map_replicate]
  · congr 2
    rw [← Array.toList_inj, toList_madeCells_one]
  · exact Below.drew (Below.alloc (Below.alloc (ext_alloc W1 _) (by simp) _) (by simp only [World.size_alloc]; omega) _)
end

end Go.Proofs.Lx

namespace Go.Proofs.Lx
open Go Go.RowKit
set_option linter.unusedSimpArgs false
set_option linter.unusedVariables false

/-- Within the reach, told by bytes. -/
structure Small (T : Th) : Prop where
  f : T.foes.length * 24 ≤ 140737488355328
  fr : ∀ l ∈ T.foes, l.length * 8 ≤ 140737488355328
  r : T.rules.length * 40 ≤ 140737488355328
  rb : ∀ r ∈ T.rules, r.body.length * 8 ≤ 140737488355328
  b : T.beats.length * 24 ≤ 140737488355328
  br : ∀ l ∈ T.beats, l.length * 8 ≤ 140737488355328

theorem own_ext {w w' : World} {base e size n : Nat} {v : Value} {xs : List Value} (h : w.ownsRow base e size v n xs) (hb : Below w.heap.size w w') : w'.ownsRow base e size v n xs :=
  h.kept (row := none) ⟨hb.os, hb.tape, hb.output, hb.size, fun k hk _ => hb.block k hk⟩ (by cases v.ownBlock <;> simp)
theorem grown_any {w w' : World} (hb : Below w.heap.size w w') (row : Option Nat) : w.grownBy w' row := ⟨hb.os, hb.tape, hb.output, hb.size, fun k hk _ => hb.block k hk⟩
/-- Growth of a row of the call's own leaves what lies below. -/
theorem below_grown {B : Nat} {w wr w' : World} {row : Option Nat} (hb : Below B w wr) (hB : B ≤ wr.heap.size) (hg : wr.grownBy w' row) (hr : ∀ g, row = some g → B ≤ g) : Below B w w' :=
  hb.trans ⟨hg.os, hg.tape, hg.output, hg.size, fun g hgl => hg.block g (by omega) (fun e => by have := hr g e.symm; omega)⟩

set_option maxHeartbeats 800000 in
theorem copyI_any (w : World) (v : Value) (l : List Int) (hv : RdI w v l) (h8 : l.length * 8 ≤ 140737488355328) :
    Calls Try.prog 29 #[v] w (Ret fun r w' => w'.ownsRow w.heap.size 3 1 r l.length (intsV l) ∧ Below w.heap.size w w') := by
  obtain ⟨A, c, rfl, hc, hb, hr⟩ := hv
  obtain ⟨i0, hi, hz0, hz1, hz2⟩ := info_parts infoI
  refine post_gen fun Q HQ => ?_
  generalize hn : l.length = n at *
  have Hn := hid hn
  clear hn
  go_enter Try.func29, Try.ntmps29
  go_wp2
  go_loopw [3, 4] (fun v3 v4 wr => ∃ k : Nat, k ≤ n ∧ v4 = .int .i64 k ∧ wr.ownsRow w.heap.size 3 1 v3 k (intsV (l.take k)) ∧ Below w.heap.size w wr) (fun _ v4 _ => n - (intOf v4).toNat)
  case atStart => exact ⟨0, Nat.zero_le _, rfl, by simpa [intsV] using World.ownsRow_nil _ _ _ _, ext_refl _⟩
  case round =>
    obtain ⟨k, hk, rfl, hown, hbl⟩ := hrel
    by_cases hlt : k < n
    · have hx : k < l.length := by rw [Hn.out]; exact hlt
      obtain ⟨ad, rfl, hcX⟩ := (hr.ext (scR_mono _) hbl).at1 hx
      have hXk : ∃ x, Hid (l[k] = x) := ⟨_, hid rfl⟩
      obtain ⟨x, HX⟩ := hXk
      rw [HX.out] at hcX
      have Hx := hid hx
      have Hown := hid hown
      have hsz := hbl.size
      clear hown
      go_wp2_with (at_builtin; refine wpList_append_own _ rfl _ _ 26 rfl w.heap.size 3 i0 (.int .i64 0) 1 8 Try.underlying26 hi hz0 hz1 hz2 rfl (by decide) _ k _ rfl (Hown.out.alloc _) ⟨wr.heap.size, 0, none⟩ 1 1 [.int .i64 x] rfl rfl (cell_one_new _ _ _) (fun u hu => by simp at hu; subst hu; rfl) (by unfold maxLen; omega) (by omega) (by simp; omega) ?_; intro v' w3 hown' hgrow3 hnil3)
      go_roundw
      case rel =>
        refine ⟨k + 1, by omega, by go_num, ?_, ?_⟩
        · rw [List.take_succ_eq_append_getElem Hx.out, HX.out]
          simpa [intsV] using hown'
        · exact below_grown (hbl.alloc hsz _) (by simp; omega) hgrow3 (fun g e => (Hown.out.lt g e).1)
      case measure => simp [intOf]; omega
    · have e : k = n := by omega
      subst e
      go_wp2
      go_ret
      refine Fin HQ ⟨?_, hbl⟩
      rw [List.take_of_length_le (by rw [Hn.out]; exact Nat.le_refl _)] at hown
      exact hown

theorem own_form0 {w : World} {base e size n : Nat} {v : Value} {xs : List Value} (h : w.ownsRow base e size v n xs) : ∃ A c, v = .slice A n c := by
  rcases h.2 with ⟨h1, h2⟩ | ⟨g, cap, cur, h1, _⟩
  · exact ⟨none, 0, by rw [h1, h2]⟩
  · exact ⟨_, _, h1⟩
/-- Rows of the call's own, apart from the list of them. -/
def KeptRows (base : Nat) (wr : World) (v3 : Value) (vs : List Value) (L : List (List Int)) : Prop :=
  vs.length = L.length ∧ ∀ i (h1 : i < vs.length) (h2 : i < L.length), wr.ownsRow base 3 1 vs[i] L[i].length (intsV L[i]) ∧ (vs[i].ownBlock = none ∨ vs[i].ownBlock ≠ v3.ownBlock)
theorem own_lower {w : World} {base base' e size n : Nat} {v : Value} {xs : List Value} (h : w.ownsRow base e size v n xs) (hb : base' ≤ base) : w.ownsRow base' e size v n xs :=
  ⟨h.1, h.2.imp id fun ⟨g, cap, cur, h1, h2, h3⟩ => ⟨g, cap, cur, h1, Nat.le_trans hb h2, h3⟩⟩
theorem KeptRows.push {wr w1 w2 w3 : World} {base : Nat} {v3 v' : Value} {vs : List Value} {L : List (List Int)} {x : Value} {l : List Int} (h : KeptRows base wr v3 vs L) (hbs : base ≤ wr.heap.size) (hv3 : ∀ g, v3.ownBlock = some g → g < wr.heap.size)
    (hx : w1.ownsRow wr.heap.size 3 1 x l.length (intsV l)) (hb1 : Below wr.heap.size wr w1) (hb2 : Below w1.heap.size w1 w2) (hg : w2.grownBy w3 v3.ownBlock) (hat : v'.ownBlock = v3.ownBlock ∨ v'.ownBlock = some w2.heap.size) : KeptRows base w3 v' (vs ++ [x]) (L ++ [l]) := by
  refine ⟨by simp [h.1], fun i h1 h2 => ?_⟩
  have hle1 := hb1.size
  have hle2 := hb2.size
  by_cases e : i < vs.length
  · rw [List.getElem_append_left e]
    have e2 : (L ++ [l])[i] = L[i]'(by rw [← h.1]; exact e) := List.getElem_append_left (by rw [← h.1]; exact e)
    rw [e2]
    obtain ⟨k1, k2⟩ := h.2 i e (by rw [← h.1]; exact e)
    refine ⟨((own_ext (own_ext k1 hb1) hb2).kept hg k2), ?_⟩
    cases ho : vs[i].ownBlock with
    | none => exact .inl rfl
    | some g =>
      right
      rcases hat with h6 | h6
      · rw [h6, ← ho]; exact k2.resolve_left (by rw [ho]; simp)
      · rw [h6]; intro e3
        have e4 := Option.some.inj e3
        have := (k1.lt g ho).2; omega
  · obtain rfl : i = vs.length := by simp at h1; omega
    have e2 : (vs ++ [x])[vs.length]'(by simp) = x := by simp
    have e3 : (L ++ [l])[vs.length]'(by simp [h.1]) = l := by simp [h.1]
    rw [e2, e3]
    refine ⟨own_lower ((own_ext hx hb2).kept hg (by
      cases ho : x.ownBlock with
      | none => exact .inl rfl
      | some k => right; intro e4; have := (hx.lt k ho).1; have := hv3 k e4.symm; omega)) hbs, ?_⟩
    cases ho : x.ownBlock with
    | none => exact .inl rfl
    | some k =>
      right; intro e4
      have h5 := hx.lt k ho
      rcases hat with h6 | h6
      · have := hv3 k (by rw [← h6, ← e4]); omega
      · rw [h6] at e4; cases e4; omega
theorem own_heap {w w' : World} {base e size n : Nat} {v : Value} {xs : List Value} (h : w.ownsRow base e size v n xs) (hk : ∀ g, base ≤ g → g < w.heap.size → w'.heap[g]? = w.heap[g]?) : w'.ownsRow base e size v n xs := by
  refine ⟨h.1, ?_⟩
  rcases h.2 with h1 | ⟨g, cap, cur, h1, h2, h3, h4⟩
  · exact .inl h1
  · exact .inr ⟨g, cap, cur, h1, h2, (hk g h2 (lt_of_block h3)).trans h3, h4⟩
/-- A list of rows, all of the call's own. -/
def OwnLL (base : Nat) (w : World) (v : Value) (L : List (List Int)) : Prop :=
  ∃ vs : List Value, vs.length = L.length ∧ w.ownsRow base 26 1 v L.length vs ∧ ∀ i (h1 : i < vs.length) (h2 : i < L.length), w.ownsRow base 3 1 vs[i] L[i].length (intsV L[i])
theorem OwnLL.keep {base : Nat} {w w' : World} {v : Value} {L : List (List Int)} (h : OwnLL base w v L) (hk : ∀ g, base ≤ g → g < w.heap.size → w'.heap[g]? = w.heap[g]?) : OwnLL base w' v L := by
  obtain ⟨vs, h1, h2, h3⟩ := h
  exact ⟨vs, h1, own_heap h2 hk, fun i a b => own_heap (h3 i a b) hk⟩

theorem own_rows {w : World} {base eS : Nat} {v : Value} {vs : List Value} {L : List (List Int)} (h : w.ownsRow base eS 1 v vs.length vs) (hk : vs.length = L.length) (hl : L.length ≤ 140737488355328)
    (hr : ∀ i (h1 : i < vs.length) (h2 : i < L.length), RdI w vs[i] L[i]) : RdLL w v L := by
  rcases h.2 with ⟨rfl, h0⟩ | ⟨gg, cap, cur, rfl, _, _, hc, _⟩
  · exact ⟨none, 0, by rw [← hk, h0], by omega, hl, fun i hi => absurd hi (by omega)⟩
  · refine ⟨_, cap, by rw [hk], by omega, hl, fun i hi => ⟨_, [vs[i]'(by omega)], rfl, ⟨_, rfl, hr i (by omega) hi⟩, rfl, fun j u hu => ?_⟩⟩
    match j, hu with
    | 0, hu =>
      simp at hu; subst hu
      have := h.cells (g := gg) rfl i (vs[i]'(by omega)) (by simp [show i < vs.length by omega])
      rw [Nat.add_zero, Nat.mul_one]; exact this

theorem OwnLL.rd {base : Nat} {w : World} {v : Value} {L : List (List Int)} (h : OwnLL base w v L) (hl : L.length ≤ 140737488355328) (hr : ∀ l ∈ L, l.length ≤ 140737488355328) : RdLL w v L := by
  obtain ⟨vs, h1, h2, h3⟩ := h
  rw [← h1] at h2
  exact own_rows h2 h1 hl fun i a b => own_rdI (h3 i a b) (hr _ (List.getElem_mem b))

set_option maxRecDepth 100000 in
set_option maxHeartbeats 1600000 in
theorem copyLL_any (w : World) (v : Value) (L : List (List Int)) (hv : RdLL w v L) (h24 : L.length * 24 ≤ 140737488355328) (h8 : ∀ l ∈ L, l.length * 8 ≤ 140737488355328) :
    Calls Try.prog 64 #[v] w (Ret fun r w' => OwnLL w.heap.size w' r L ∧ Below w.heap.size w w') := by
  obtain ⟨A, c, rfl, hc, hb, hr⟩ := hv
  obtain ⟨i0, hi, hz0, hz1, hz2⟩ := info_parts infoL
  refine post_gen fun Q HQ => ?_
  have H8 := hid h8
  generalize hn : L.length = n at *
  have Hn := hid hn
  clear hn h8
  go_enter Try.func64, Try.ntmps64
  go_wp2
  go_loopw [3, 4] (fun v3 v4 wr => ∃ (k : Nat) (vs : List Value), k ≤ n ∧ v4 = .int .i64 k ∧ wr.ownsRow w.heap.size 26 1 v3 k vs ∧ Hid (KeptRows w.heap.size wr v3 vs (L.take k)) ∧ Below w.heap.size w wr) (fun _ v4 _ => n - (intOf v4).toNat)
  case atStart => exact ⟨0, [], Nat.zero_le _, rfl, World.ownsRow_nil _ _ _ _, hid ⟨by simp, fun i h => absurd h (by simp)⟩, ext_refl _⟩
  case round =>
    obtain ⟨k, vs, hk, rfl, hown, hkept, hbl⟩ := hrel
    by_cases hlt : k < n
    · have hx : k < L.length := by rw [Hn.out]; exact hlt
      obtain ⟨ad, B, cB, rfl, hcX, hcB, hbB, hrB⟩ := (hr.ext llR_mono hbl).atRow hx
      have Hcall := hid (copyI_any wr _ L[k] (⟨B, cB, rfl, hcB, hbB, hrB⟩ : RdI wr (.slice B L[k].length cB) L[k]) (H8.out _ (List.getElem_mem hx)))
      have hXk : ∃ x, Hid (L[k] = x) := ⟨_, hid rfl⟩
      obtain ⟨x, HX⟩ := hXk
      rw [HX.out] at hcX hbB Hcall
      have Hx := hid hx
      have Hown := hid hown
      have hsz := hbl.size
      clear hown hrB
      go_wp2_with (first | (go_at_call 29; refine Hcall.out.mono ?_; rintro e w1 ⟨r1, rfl, hr1, hb1⟩; have hs1 := hb1.size; have Hr1 := hid hr1; have Hown1 := hid (own_ext Hown.out hb1); clear hr1; obtain ⟨B1, c1, rfl⟩ := own_form0 Hr1.out) | (at_builtin; refine wpList_append_own_at _ rfl _ _ 22 rfl w.heap.size 26 i0 (.slice none 0 0) 1 24 Try.underlying22 hi hz0 hz1 hz2 rfl (by decide) _ k _ rfl (Hown1.out.alloc _) ⟨w1.heap.size, 0, none⟩ 1 1 [.slice B1 x.length c1] rfl rfl (cell_one_new _ _ _) (fun u hu => by simp at hu; subst hu; rfl) (by unfold maxLen; omega) (by omega) (by simp; omega) ?_; intro v' w3 hown' hgrow3 hnil3 hat3))
      go_roundw
      case rel =>
        refine ⟨k + 1, vs ++ [.slice B1 x.length c1], by omega, by go_num, hown', hid ?_, ?_⟩
        · rw [List.take_succ_eq_append_getElem Hx.out, HX.out]
          exact hkept.out.push hsz (fun g e => (Hown.out.lt g e).2) Hr1.out hb1 (ext_alloc w1 _) hgrow3 hat3
        · exact below_grown ((ext_trans hbl hb1).alloc (by omega) _) (by simp; omega) hgrow3 (fun g e => (Hown.out.lt g e).1)
      case measure => simp [intOf]; omega
    · have e : k = n := by omega
      subst e
      go_wp2
      go_ret
      refine Fin HQ ⟨?_, hbl⟩
      rw [List.take_of_length_le (by rw [Hn.out]; exact Nat.le_refl _)] at hkept
      rw [← Hn.out] at hown
      exact ⟨vs, hkept.out.1, hown, fun i a b => (hkept.out.2 i a b).1⟩
end Go.Proofs.Lx

namespace Go.Proofs.Lx
open Go Go.RowKit Go.ChangeShapes Go.WideShapes Go.ChangeAt Go.Joins Go.Deep
set_option linter.unusedSimpArgs false
set_option linter.unusedVariables false

section
variable {H : Type} {enc : TypeId × Value → H} {P : Program} {w : World} {base : Nat} {held : Bool}
theorem rd_trod2 {α : Type} [Inhabited α] {Pr : α → Prop} {sz : Nat} {R : World → α → List Value → Prop} {t e : TypeId} {v : Value} {fuel : Nat} {x : DataW H × List MemPlace} (ht : P.underlying t = some (.slice e)) (hc : P.cellsOf e = sz) (hby : 1 ≤ P.bytesOf e)
    (elem : ∀ n cs (y : DataW H × List MemPlace), cs.length = sz → DataW.trod enc P w base (fun _ => true) held n e cs = some y → Fits P e y.1 → ∃ a : α, R w a cs ∧ Pr a)
    (h : DataW.trod enc P w base (fun _ => true) held fuel t [v] = some x) (hf : Fits P t x.1) : ∃ ys : List α, Rd sz R w v ys ∧ (∀ y ∈ ys, Pr y) ∧ ys.length * P.bytesOf e ≤ 140737488355328 := by
  rcases open_slice ht h with ⟨hcs, hx⟩ | ⟨a, len, cap, m, n, D, Pl, hcs, hb, hl, hm, hmm, rfl, hel⟩
  · simp only [List.cons.injEq, and_true] at hcs
    subst hcs
    exact ⟨[], Rd.nil, by simp, by simp⟩
  · simp only [List.cons.injEq, and_true] at hcs
    subst hcs
    simp only [if_true] at hmm
    subst hmm
    obtain ⟨h1, h2⟩ := hf.elems ht
    have hlb : len * P.bytesOf e ≤ 140737488355328 := by
      simp only [List.length_map, List.length_range, reachBytes] at h1
      exact Nat.le_trans (Nat.mul_le_mul_right _ (Nat.le_add_right _ _)) (Nat.le_trans h1 (by decide))
    have hlen : len ≤ 140737488355328 := by
      have : len * 1 ≤ len * P.bytesOf e := Nat.mul_le_mul_left _ hby
      omega
    obtain ⟨f, hfam⟩ := choose_lt (α := α) (n := len) (p := fun i y => Pr y ∧ ∃ cs', cs'.length = sz ∧ R w y cs' ∧ ∀ j, j < sz → w.cell? ((a.add (i * sz)).add j) = cs'[j]?) (fun i hi => by
      obtain ⟨cs', c1, c2⟩ := hel i (by omega)
      obtain ⟨_, c3, c4⟩ := World.cells?_some c1
      rw [hc] at c3 c4
      obtain ⟨y, hy, hp⟩ := elem _ _ _ c3 c2 (h2 _ (List.mem_map.2 ⟨i, List.mem_range.2 hi, rfl⟩))
      exact ⟨y, hp, cs', c3, hy, c4⟩)
    refine ⟨(List.range len).map f, ⟨some a, m, by simp, by simp; omega, by simp; omega, fun i hi => ?_⟩, ?_, by simpa using hlb⟩
    · simp only [List.length_map, List.length_range] at hi
      obtain ⟨_, cs', c1, c2, c3⟩ := hfam i hi
      refine ⟨a, cs', rfl, by simpa using c2, c1, fun j u hu => ?_⟩
      have hj : j < sz := by rw [← c1]; exact (List.getElem?_eq_some_iff.1 hu).1
      rw [← add_add, c3 j hj, hu]
    · intro y hy
      obtain ⟨i, hi, rfl⟩ := List.mem_map.1 hy
      exact (hfam i (List.mem_range.1 hi)).1
theorem rd_ints2 {t e : TypeId} {k : IntKind} {v : Value} {fuel : Nat} {x : DataW H × List MemPlace} (ht : P.underlying t = some (.slice e)) (he : P.underlying e = some (.int k)) (hc : P.cellsOf e = 1) (hby : P.bytesOf e = 8)
    (h : DataW.trod enc P w base (fun _ => true) held fuel t [v] = some x) (hf : Fits P t x.1) : ∃ ys : List Int, Rd 1 (scR (Value.int k)) w v ys ∧ ys.length * 8 ≤ 140737488355328 := by
  obtain ⟨ys, h1, _, h3⟩ := rd_trod2 (R := scR (Value.int k)) (Pr := fun _ : Int => True) ht hc (by omega) (fun n cs y _ hy _ => by
    obtain ⟨z, rfl, _⟩ := DataW.trod_int he hy
    exact ⟨z, rfl, trivial⟩) h hf
  rw [hby] at h3
  exact ⟨ys, h1, h3⟩
theorem rd_rows2 {t e q : TypeId} {k : IntKind} {v : Value} {fuel : Nat} {x : DataW H × List MemPlace} (ht : P.underlying t = some (.slice e)) (he : P.underlying e = some (.slice q)) (hq : P.underlying q = some (.int k)) (hc : P.cellsOf e = 1) (hcq : P.cellsOf q = 1) (hby : P.bytesOf e = 24) (hbq : P.bytesOf q = 8)
    (h : DataW.trod enc P w base (fun _ => true) held fuel t [v] = some x) (hf : Fits P t x.1) : ∃ ys : List (List Int), Rd 1 (rowR 1 (scR (Value.int k))) w v ys ∧ (∀ l ∈ ys, l.length * 8 ≤ 140737488355328) ∧ ys.length * 24 ≤ 140737488355328 := by
  obtain ⟨ys, h1, h2, h3⟩ := rd_trod2 (R := rowR 1 (scR (Value.int k))) (Pr := fun l : List Int => l.length * 8 ≤ 140737488355328) ht hc (by omega) (fun n cs y hl hy hfy => by
    match cs, hl with
    | [u], _ =>
      obtain ⟨ys, hys, hb⟩ := rd_ints2 he hq hcq hbq hy hfy
      exact ⟨ys, ⟨u, rfl, hys⟩, hb⟩) h hf
  rw [hby] at h3
  exact ⟨ys, h1, h2, h3⟩
theorem rd_rules2 {t e ti : TypeId} {f0 f1 f2 : Field} {v : Value} {fuel : Nat} {x : DataW H × List MemPlace} (ht : P.underlying t = some (.slice e)) (he : P.underlying e = some (.struct #[f0, f1, f2])) (hc : P.cellsOf e = 3) (hby : P.bytesOf e = 40)
    (o0 : f0.offset = 0) (o1 : f1.offset = 1) (o2 : f2.offset = 2) (u0 : P.underlying f0.type = some (.int .i64)) (u1 : P.underlying f1.type = some (.int .i64)) (u2 : P.underlying f2.type = some (.slice ti)) (ui : P.underlying ti = some (.int .i64))
    (c0 : P.cellsOf f0.type = 1) (c1 : P.cellsOf f1.type = 1) (c2 : P.cellsOf f2.type = 1) (ci : P.cellsOf ti = 1) (bi : P.bytesOf ti = 8)
    (h : DataW.trod enc P w base (fun _ => true) held fuel t [v] = some x) (hf : Fits P t x.1) : ∃ ys : List Rule, Rd 3 ruleR w v ys ∧ (∀ r ∈ ys, r.body.length * 8 ≤ 140737488355328) ∧ ys.length * 40 ≤ 140737488355328 := by
  obtain ⟨ys, h1, h2, h3⟩ := rd_trod2 (R := ruleR) (Pr := fun r : Rule => r.body.length * 8 ≤ 140737488355328) ht hc (by omega) (fun n cs y hl hy hfy => by
    match cs, hl with
    | [a, b, c], _ =>
      obtain ⟨y0, y1, y2, n', hy', _, h0, h1, h2⟩ := trod_struct3 he hy
      subst hy'
      rw [o0, c0] at h0; rw [o1, c1] at h1; rw [o2, c2] at h2
      simp at h0 h1 h2
      obtain ⟨z0, e0, _⟩ := DataW.trod_int u0 h0
      obtain ⟨z1, e1, _⟩ := DataW.trod_int u1 h1
      simp at e0 e1
      obtain ⟨ys, hys, hb⟩ := rd_ints2 u2 ui ci bi h2 (hfy.part he 2 rfl rfl)
      exact ⟨⟨z0, z1, ys⟩, ⟨c, by rw [e0, e1], hys⟩, hb⟩) h hf
  rw [hby] at h3
  exact ⟨ys, h1, h2, h3⟩
end
theorem bytesInt8 : Try.prog.bytesOf 3 = 8 := by kernel_rfl
theorem bytesInts24 : Try.prog.bytesOf 26 = 24 := by kernel_rfl
theorem bytesRule40 : Try.prog.bytesOf 37 = 40 := by kernel_rfl
section
variable {H : Type} {enc : TypeId × Value → H} {w : World} {base : Nat}
set_option maxRecDepth 100000 in
theorem rd_ints_small {v : Value} {d : DataW H} {p : List MemPlace} (hv : Value.okWide Try.prog w .any base 26 v) (h : DataW.Trod enc Try.prog w 0 (fun _ => true) true 26 v d p) (hf : Fits Try.prog 26 d) : ∃ l, RdI w v l ∧ l.length * 8 ≤ 140737488355328 := by
  obtain ⟨a0, len, cap, rfl⟩ := okWide_slice Try.underlying26 hv
  obtain ⟨fuel, h⟩ := h
  exact rd_ints2 Try.underlying26 Try.underlying3 cellsInt bytesInt8 h hf
set_option maxRecDepth 100000 in
theorem rd_theory_small {v : Value} {d : DataW H} {p : List MemPlace} (hv : Value.okWide Try.prog w .any base 25 v) (h : DataW.Trod enc Try.prog w 0 (fun _ => true) true 25 v d p) (hf : Fits Try.prog 25 d) : ∃ T, RdTh w v T ∧ Small T := by
  obtain ⟨v0, v1, v2, v3, y0, y1, y2, y3, n, rfl, rfl, _, h0, h1, h2, h3⟩ := open_agg4 Try.underlying25 (oneTheory _ Try.underlying25) cellsTheory hv h
  obtain ⟨z0, e0, _⟩ := DataW.trod_int Try.underlying3 h0
  simp only [List.cons.injEq, and_true] at e0
  subst e0
  obtain ⟨fo, hfo, f1, f2⟩ := rd_rows2 Try.underlying22 Try.underlying26 Try.underlying3 cellsInts cellsInt bytesInts24 bytesInt8 h1 (hf.part Try.underlying25 1 rfl rfl)
  obtain ⟨rs, hrs, r1, r2⟩ := rd_rules2 Try.underlying23 Try.underlying37 cellsRule bytesRule40 rfl rfl rfl Try.underlying35 Try.underlying3 Try.underlying26 Try.underlying3 cellsKind cellsInt cellsInts cellsInt bytesInt8 h2 (hf.part Try.underlying25 2 rfl rfl)
  obtain ⟨bs, hbs, b1, b2⟩ := rd_rows2 Try.underlying22 Try.underlying26 Try.underlying3 cellsInts cellsInt bytesInts24 bytesInt8 h3 (hf.part Try.underlying25 3 rfl rfl)
  exact ⟨⟨z0, fo, rs, bs⟩, ⟨v1, v2, v3, rfl, hfo, hrs, hbs⟩, ⟨f2, f1, r2, r1, b2, b1⟩⟩
end
end Go.Proofs.Lx
