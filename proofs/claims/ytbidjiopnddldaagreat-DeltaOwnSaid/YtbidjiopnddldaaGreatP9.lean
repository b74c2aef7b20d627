/- Parts of the proof: Ng, Nh, Nw. naive's round, plain: and its contract. -/
import Derived.Test.YtbidjiopnddldaaGreatP8
import Derived.Deep.DeepCutAuto
import Derived.Test.YtbidjiopnddldaaGreatP6
namespace Go.Proofs.Lx
open Go Go.RowKit
set_option linter.unusedSimpArgs false
set_option linter.unusedVariables false

def cnd (T : Th) (F : List Bool) (RL : List (List Int)) (M : List Nat) : Nat → Int → Bool
 | 0 => plusDB T F RL M
 | 1 => minusDB T F RL M
 | 2 => plusPB T RL M
 | _ => minusPB T RL M
def orM (C : Nat → Bool) (x : Nat) : Nat → Nat
 | 0 => x
 | k + 1 => if C k then orM C x k ||| 2 ^ k else orM C x k
def rnd (C : Nat → Int → Bool) (M : List Nat) (i j : Nat) : List Nat := (List.range M.length).map fun (q : Nat) => orM (fun k => C k (q : Int)) (M.getD q 0) (if q < j then i + 1 else i)
def roundM (T : Th) (F : List Bool) (RL : List (List Int)) (M : List Nat) : List Nat := rnd (cnd T F RL M) M 4 0
section
variable {C : Nat → Int → Bool} {M : List Nat}
theorem rnd_length (i j : Nat) : (rnd C M i j).length = M.length := by simp [rnd]
theorem rnd_zero : rnd C M 0 0 = M := by
 apply List.ext_getElem
 ·simp [rnd]
 ·intro q h1 h2; simp [rnd, orM, h2]
theorem rnd_next (i : Nat) : rnd C M i M.length = rnd C M (i + 1) 0 := by
 apply List.ext_getElem
 ·simp [rnd]
 ·intro q h1 h2
  rw [rnd_length] at h1
  simp [rnd, h1]
theorem rnd_skip {i j : Nat} (h : C i (j : Int) = false) : rnd C M i (j + 1) = rnd C M i j := by
 apply List.ext_getElem
 ·simp [rnd]
 ·intro q h1 h2
  rw [rnd_length] at h1
  simp only [rnd, List.getElem_map, List.getElem_range]
  by_cases e : q = j
  ·subst e
   rw [if_pos (by omega), if_neg (by omega), orM, h]; rfl
  ·by_cases e2 : q < j
   ·rw [if_pos (by omega), if_pos e2]
   ·rw [if_neg (by omega), if_neg e2]
theorem rnd_hit {i j : Nat} (h : C i (j : Int) = true) (hj : j < (rnd C M i j).length) : rnd C M i (j + 1) = (rnd C M i j).set j ((rnd C M i j)[j] ||| 2 ^ i) := by
 apply List.ext_getElem
 ·simp [rnd]
 ·intro q h1 h2
  rw [List.getElem_set]
  by_cases e : j = q
  ·subst e
   rw [if_pos rfl]
   simp only [rnd, List.getElem_map, List.getElem_range]
   rw [if_pos (by omega), if_neg (by omega), orM, h]; rfl
  ·rw [if_neg e]
   simp only [rnd, List.getElem_map, List.getElem_range]
   by_cases e2 : q < j
   ·rw [if_pos (by omega), if_pos e2]
   ·rw [if_neg (by omega), if_neg e2]
theorem orM_lt {C : Nat → Bool} {x : Nat} (hx : x < 256) : ∀ k, k ≤ 8 → orM C x k < 256
 | 0, _ => hx
 | k + 1, h => by
  have ih := orM_lt (C := C) hx k (by omega)
  unfold orM
  split
  ·exact Nat.or_lt_two_pow (n := 8) ih (Nat.pow_lt_pow_right (by decide) (by omega))
  ·exact ih
theorem rnd_lt (h : ∀ x ∈ M, x < 256) {i j : Nat} (hi : i < 8) : ∀ x ∈ rnd C M i j, x < 256 := by
 intro x hx
 obtain ⟨q, hq, rfl⟩ := List.mem_map.1 hx
 have hq := List.mem_range.1 hq
 refine orM_lt ?_ _ (by split <;> omega)
 have : M.getD q 0 = M[q] := by simp [hq]
 rw [this]; exact h _ (List.getElem_mem hq)
end
theorem bit_or (x : Nat) (hx : x < 256) (k : Nat) (hk : k < 4) : bits .or .u8 (x : Int) ((2 ^ k : Nat) : Int) = ((x ||| 2 ^ k : Nat) : Int) := by
 have h2 : 2 ^ k < 2 ^ 8 := Nat.pow_lt_pow_right (by decide) (by omega)
 exact (bits_nat .u8 8 (by decide) wraps_u8 x (2 ^ k) hx h2).2
end Go.Proofs.Lx

namespace Go.Proofs.Lx
open Go Go.RowKit
set_option linter.unusedSimpArgs false
set_option linter.unusedVariables false

/-- The relation of the two loops. -/
def RI (w : World) (T : Th) (F : List Bool) (RL : List (List Int)) (M : List Nat) (v : Value) (i j : Nat) (wr : World) : Prop :=
 wr.ownsRow w.heap.size 58 1 v M.length (marksV (rnd (cnd T F RL M) M i j)) ∧ Below w.heap.size w wr

theorem RI.ext {w : World} {T : Th} {F : List Bool} {RL : List (List Int)} {M : List Nat} {v : Value} {i j : Nat} {w1 w2 : World} (h : RI w T F RL M v i j w1) (hb : Below w1.heap.size w1 w2) : RI w T F RL M v i j w2 :=
 ⟨h.1.kept (row := none) ⟨hb.os, hb.tape, hb.output, hb.size, fun k hk _ => hb.block k hk⟩ (by cases v.ownBlock <;> simp), ext_trans h.2 hb⟩
abbrev cndV : Value := .agg #[.func (.func 110) #[] #[], .func (.func 111) #[] #[], .func (.func 112) #[] #[], .func (.func 113) #[] #[]]
theorem info93 : (Tryz.prog.info? 134).isSome = true := by kernel_rfl
theorem cells93 : Tryz.prog.cellsOf 134 = 1 := by kernel_rfl
theorem cndIx (i : Nat) (v : Value) (hi : i < 4) (hv : (#[Value.func (.func 110) #[] #[], .func (.func 111) #[] #[], .func (.func 112) #[] #[], .func (.func 113) #[] #[]] : Array Value)[i]? = some v) (W : World) :
  Sem.run Tryz.prog (Instr.index 135 cndV (.int .i64 (i : Int))) W = .ok v W := by
 obtain ⟨x, hx⟩ := Option.isSome_iff_exists.1 info93
 have h1 := run_sizeOf (P := Tryz.prog) W hx
 rw [cells93] at h1
 have h3 : (i : Int) < 4 := by omega
 simp only [Instr.index, asIntOf, Sem.run_bind, Sem.run_pure, Result.andThen_ok, run_underlying Tryz.underlying135, h1, part, isAgg, run_underlying Tryz.underlying134]
 have hv2 := hv
 simp only [List.getElem?_toArray] at hv2
 simp [h3, hv2]
set_option maxRecDepth 100000 in
set_option maxHeartbeats 6400000 in
theorem round_any (w : World) (b : Nat) (T : Th) (F : List Bool) (RL : List (List Int)) (M : List Nat) (h : NW w b T F RL M) (hv : NVal T F RL M) :
  Calls Tryz.prog 79 #[.pointer (some ⟨b, 0, none⟩)] w (Ret fun v w' => w'.ownsRow w.heap.size 58 1 v M.length (marksV (roundM T F RL M)) ∧ Below w.heap.size w w') := by
 have Hv := hid hv
 have Hw := hid h
 obtain ⟨vF, vR, vB, vFa, vRu, vM, hh, _, _, _, _, _, hM⟩ := h.ex
 have c6 := cell_of_row w b 6 _ _ _ hh
 simp only [List.getElem?_toArray, List.getElem?_cons_zero, List.getElem?_cons_succ] at c6
 have hcl := cloneM_any w vM M hM
 have hMb : M.length ≤ 140737488355328 := by obtain ⟨_, _, _, _, h1, _⟩ := hM; exact h1
 clear hv h hh hM
 refine post_gen fun Q HQ => ?_
 go_enter Tryz.func79, Tryz.ntmps79
 go_wp2_with fail
 refine hcl.mono ?_
 rintro e w2 ⟨e0, rfl, hown, hb2⟩
 clear hcl
 go_wp2_with fail
 refine (conds_plain w2).mono ?_
 rintro e w3 ⟨_, rfl, rfl, hb3⟩
 have hri : RI w T F RL M e0 0 0 w3 := ⟨by rw [rnd_zero]; exact hown.kept (row := none) ⟨hb3.os, hb3.tape, hb3.output, hb3.size, fun k hk _ => hb3.block k hk⟩ (by cases e0.ownBlock <;> simp), ext_trans hb2 hb3⟩
 clear hown hb2 hb3 c6
 go_wp2
 go_loopw [13] (fun v13 wr => ∃ i : Nat, i ≤ 4 ∧ v13 = .int .i64 i ∧ RI w T F RL M e0 i 0 wr) (fun v13 _ => 4 - (intOf v13).toNat)
 case atStart => exact ⟨0, by omega, rfl, hri⟩
 case round =>
  clear hri
  obtain ⟨i, hi, rfl, hri⟩ := hrel
  obtain ⟨wo, rfl⟩ : ∃ wo : World, wo = wr := ⟨_, rfl⟩
  by_cases h4 : i = 4
  ·subst h4
   go_wp2
   go_ret
   exact Fin HQ hri
  ·have hi4 : i < 4 := by omega
   have hrl : (rnd (cnd T F RL M) M i 0).length = M.length := rnd_length _ _
   rcases (show i = 0 ∨ i = 1 ∨ i = 2 ∨ i = 3 by omega) with rfl | rfl | rfl | rfl
   case inl =>
    have hlen : ∃ A c, e0 = .slice A M.length c := by
     rcases hri.1.2 with ⟨h1, h2⟩ | ⟨g, cap, cur, h1, _⟩
     ·exact ⟨none, 0, by rw [h1, h2]⟩
     ·exact ⟨_, _, h1⟩
    obtain ⟨A, c, rfl⟩ := hlen
    have hix : ∀ W : World, Sem.run Tryz.prog (Instr.index 135 cndV (.int .i64 0)) W = .ok (.func (.func 110) #[] #[]) W := cndIx 0 _ (by omega) rfl
    unfold cndV at hix
    rw [show ((0 : Nat) : Int) = 0 from rfl]
    go_wp2
    go_loopw [19] (fun v19 wr => ∃ j : Nat, j ≤ M.length ∧ v19 = .int .i64 j ∧ RI w T F RL M (.slice A M.length c) 0 j wr) (fun v19 _ => M.length - (intOf v19).toNat)
    case atStart => exact ⟨0, by omega, rfl, hri⟩
    case round =>
     clear hri
     obtain ⟨j, hj, rfl, hri⟩ := hrel
     by_cases hlt : j < M.length
     ·have hcall := plusDelta_any wr b T F RL M (Hw.out.ext hri.2) Hv.out (j : Int) (by omega) (by have := Hv.out.nM; omega)
      obtain ⟨C, hC⟩ : ∃ C, plusDB T F RL M (j : Int) = C := ⟨_, rfl⟩
      rw [hC] at hcall
      have HC : Hid (cnd T F RL M 0 (j : Int) = C) := hC
      clear hC
      go_wp2_with fail
      refine hcall.mono ?_
      rintro e w5 ⟨_, rfl, rfl, hb5⟩
      have hri5 : RI w T F RL M (.slice A M.length c) 0 j w5 := hri.ext hb5
      clear hri hcall hb5
      cases C with
      | false =>
       go_wp2_with fail
       go_roundw
       case rel => exact ⟨j + 1, by omega, by (try simp), by unfold RI; rw [rnd_skip HC.out]; exact hri5⟩
       case measure => simp [intOf]; omega
      | true =>
       obtain ⟨g, cap, hA, hg, hcell⟩ := own_at hri5.1 hlt (by simp [rnd_length]; omega)
       cases hA
       have hfr := own_free hri5.1 j
       have hjr : j < (rnd (cnd T F RL M) M 0 j).length := by rw [rnd_length]; exact hlt
       have hcell' : w5.cell? ⟨g, j, none⟩ = some (.int .u8 (((rnd (cnd T F RL M) M 0 j)[j]'hjr : Nat) : Int)) := by rw [hcell]; simp
       have h8 := rnd_lt (C := cnd T F RL M) Hv.out.m8 (i := 0) (j := j) (by omega) _ (List.getElem_mem hjr)
       have Hn := hid (rnd_hit (C := cnd T F RL M) (M := M) HC.out hjr)
       obtain ⟨x, Hx⟩ : ∃ x, Hid ((rnd (cnd T F RL M) M 0 j)[j]'hjr = x) := ⟨_, rfl⟩
       rw [Hx.out] at hcell' h8
       have hor : bits .or .u8 (x : Int) 1 = ((x ||| 2 ^ 0 : Nat) : Int) := bit_or x h8 0 (by omega)
       have hnx : RI w T F RL M (.slice (some ⟨g, 0, none⟩) M.length c) 0 (j + 1) (w5.setCell ⟨g, j, none⟩ (.int .u8 (bits .or .u8 (x : Int) 1))) := by
        refine ⟨?_, hri5.2.setCell hg _⟩
        have h9 := own_set hri5.1 j (.int .u8 ((x ||| 2 ^ 0 : Nat) : Int))
        rw [hor, Hn.out, Hx.out, marksV, List.map_set]
        exact h9
       clear hcell hri5 hor
       go_wp2_with fail
       go_region_with (go_at_call 97; refine (bit_plain _ 0 (by omega) rfl _).mono ?_; rintro e w' ⟨rfl, rfl⟩)
       all_goals
        go_wp2_with fail
        go_roundw
        case rel => exact ⟨j + 1, by omega, by (try simp), hnx.1, hnx.2.drew⟩
        case measure => simp [intOf]; omega
     ·obtain rfl : j = M.length := by omega
      go_wp2_with fail
      go_roundw
      case rel => exact ⟨1, by omega, by (try simp), by unfold RI; rw [← rnd_next]; exact hri⟩
      case measure => simp [intOf]
   case inr.inl =>
    have hlen : ∃ A c, e0 = .slice A M.length c := by
     rcases hri.1.2 with ⟨h1, h2⟩ | ⟨g, cap, cur, h1, _⟩
     ·exact ⟨none, 0, by rw [h1, h2]⟩
     ·exact ⟨_, _, h1⟩
    obtain ⟨A, c, rfl⟩ := hlen
    have hix : ∀ W : World, Sem.run Tryz.prog (Instr.index 135 cndV (.int .i64 1)) W = .ok (.func (.func 111) #[] #[]) W := cndIx 1 _ (by omega) rfl
    unfold cndV at hix
    rw [show ((1 : Nat) : Int) = 1 from rfl]
    go_wp2
    go_loopw [19] (fun v19 wr => ∃ j : Nat, j ≤ M.length ∧ v19 = .int .i64 j ∧ RI w T F RL M (.slice A M.length c) 1 j wr) (fun v19 _ => M.length - (intOf v19).toNat)
    case atStart => exact ⟨0, by omega, rfl, hri⟩
    case round =>
     clear hri
     obtain ⟨j, hj, rfl, hri⟩ := hrel
     by_cases hlt : j < M.length
     ·have hcall := minusDelta_any wr b T F RL M (Hw.out.ext hri.2) Hv.out (j : Int) (by omega) (by have := Hv.out.nM; omega)
      obtain ⟨C, hC⟩ : ∃ C, minusDB T F RL M (j : Int) = C := ⟨_, rfl⟩
      rw [hC] at hcall
      have HC : Hid (cnd T F RL M 1 (j : Int) = C) := hC
      clear hC
      go_wp2_with fail
      refine hcall.mono ?_
      rintro e w5 ⟨_, rfl, rfl, hb5⟩
      have hri5 : RI w T F RL M (.slice A M.length c) 1 j w5 := hri.ext hb5
      clear hri hcall hb5
      cases C with
      | false =>
       go_wp2_with fail
       go_roundw
       case rel => exact ⟨j + 1, by omega, by (try simp), by unfold RI; rw [rnd_skip HC.out]; exact hri5⟩
       case measure => simp [intOf]; omega
      | true =>
       obtain ⟨g, cap, hA, hg, hcell⟩ := own_at hri5.1 hlt (by simp [rnd_length]; omega)
       cases hA
       have hfr := own_free hri5.1 j
       have hjr : j < (rnd (cnd T F RL M) M 1 j).length := by rw [rnd_length]; exact hlt
       have hcell' : w5.cell? ⟨g, j, none⟩ = some (.int .u8 (((rnd (cnd T F RL M) M 1 j)[j]'hjr : Nat) : Int)) := by rw [hcell]; simp
       have h8 := rnd_lt (C := cnd T F RL M) Hv.out.m8 (i := 1) (j := j) (by omega) _ (List.getElem_mem hjr)
       have Hn := hid (rnd_hit (C := cnd T F RL M) (M := M) HC.out hjr)
       obtain ⟨x, Hx⟩ : ∃ x, Hid ((rnd (cnd T F RL M) M 1 j)[j]'hjr = x) := ⟨_, rfl⟩
       rw [Hx.out] at hcell' h8
       have hor : bits .or .u8 (x : Int) 2 = ((x ||| 2 ^ 1 : Nat) : Int) := bit_or x h8 1 (by omega)
       have hnx : RI w T F RL M (.slice (some ⟨g, 0, none⟩) M.length c) 1 (j + 1) (w5.setCell ⟨g, j, none⟩ (.int .u8 (bits .or .u8 (x : Int) 2))) := by
        refine ⟨?_, hri5.2.setCell hg _⟩
        have h9 := own_set hri5.1 j (.int .u8 ((x ||| 2 ^ 1 : Nat) : Int))
        rw [hor, Hn.out, Hx.out, marksV, List.map_set]
        exact h9
       clear hcell hri5 hor
       go_wp2_with fail
       go_region_with (go_at_call 97; refine (bit_plain _ 1 (by omega) rfl _).mono ?_; rintro e w' ⟨rfl, rfl⟩)
       all_goals
        go_wp2_with fail
        go_roundw
        case rel => exact ⟨j + 1, by omega, by (try simp), hnx.1, hnx.2.drew⟩
        case measure => simp [intOf]; omega
     ·obtain rfl : j = M.length := by omega
      go_wp2_with fail
      go_roundw
      case rel => exact ⟨2, by omega, by (try simp), by unfold RI; rw [← rnd_next]; exact hri⟩
      case measure => simp [intOf]
   case inr.inr.inl =>
    have hlen : ∃ A c, e0 = .slice A M.length c := by
     rcases hri.1.2 with ⟨h1, h2⟩ | ⟨g, cap, cur, h1, _⟩
     ·exact ⟨none, 0, by rw [h1, h2]⟩
     ·exact ⟨_, _, h1⟩
    obtain ⟨A, c, rfl⟩ := hlen
    have hix : ∀ W : World, Sem.run Tryz.prog (Instr.index 135 cndV (.int .i64 2)) W = .ok (.func (.func 112) #[] #[]) W := cndIx 2 _ (by omega) rfl
    unfold cndV at hix
    rw [show ((2 : Nat) : Int) = 2 from rfl]
    go_wp2
    go_loopw [19] (fun v19 wr => ∃ j : Nat, j ≤ M.length ∧ v19 = .int .i64 j ∧ RI w T F RL M (.slice A M.length c) 2 j wr) (fun v19 _ => M.length - (intOf v19).toNat)
    case atStart => exact ⟨0, by omega, rfl, hri⟩
    case round =>
     clear hri
     obtain ⟨j, hj, rfl, hri⟩ := hrel
     by_cases hlt : j < M.length
     ·have hcall := plusPartial_any wr b T F RL M (Hw.out.ext hri.2) Hv.out (j : Int) (by omega) (by have := Hv.out.nM; omega)
      obtain ⟨C, hC⟩ : ∃ C, plusPB T RL M (j : Int) = C := ⟨_, rfl⟩
      rw [hC] at hcall
      have HC : Hid (cnd T F RL M 2 (j : Int) = C) := hC
      clear hC
      go_wp2_with fail
      refine hcall.mono ?_
      rintro e w5 ⟨_, rfl, rfl, hb5⟩
      have hri5 : RI w T F RL M (.slice A M.length c) 2 j w5 := hri.ext hb5
      clear hri hcall hb5
      cases C with
      | false =>
       go_wp2_with fail
       go_roundw
       case rel => exact ⟨j + 1, by omega, by (try simp), by unfold RI; rw [rnd_skip HC.out]; exact hri5⟩
       case measure => simp [intOf]; omega
      | true =>
       obtain ⟨g, cap, hA, hg, hcell⟩ := own_at hri5.1 hlt (by simp [rnd_length]; omega)
       cases hA
       have hfr := own_free hri5.1 j
       have hjr : j < (rnd (cnd T F RL M) M 2 j).length := by rw [rnd_length]; exact hlt
       have hcell' : w5.cell? ⟨g, j, none⟩ = some (.int .u8 (((rnd (cnd T F RL M) M 2 j)[j]'hjr : Nat) : Int)) := by rw [hcell]; simp
       have h8 := rnd_lt (C := cnd T F RL M) Hv.out.m8 (i := 2) (j := j) (by omega) _ (List.getElem_mem hjr)
       have Hn := hid (rnd_hit (C := cnd T F RL M) (M := M) HC.out hjr)
       obtain ⟨x, Hx⟩ : ∃ x, Hid ((rnd (cnd T F RL M) M 2 j)[j]'hjr = x) := ⟨_, rfl⟩
       rw [Hx.out] at hcell' h8
       have hor : bits .or .u8 (x : Int) 4 = ((x ||| 2 ^ 2 : Nat) : Int) := bit_or x h8 2 (by omega)
       have hnx : RI w T F RL M (.slice (some ⟨g, 0, none⟩) M.length c) 2 (j + 1) (w5.setCell ⟨g, j, none⟩ (.int .u8 (bits .or .u8 (x : Int) 4))) := by
        refine ⟨?_, hri5.2.setCell hg _⟩
        have h9 := own_set hri5.1 j (.int .u8 ((x ||| 2 ^ 2 : Nat) : Int))
        rw [hor, Hn.out, Hx.out, marksV, List.map_set]
        exact h9
       clear hcell hri5 hor
       go_wp2_with fail
       go_region_with (go_at_call 97; refine (bit_plain _ 2 (by omega) rfl _).mono ?_; rintro e w' ⟨rfl, rfl⟩)
       all_goals
        go_wp2_with fail
        go_roundw
        case rel => exact ⟨j + 1, by omega, by (try simp), hnx.1, hnx.2.drew⟩
        case measure => simp [intOf]; omega
     ·obtain rfl : j = M.length := by omega
      go_wp2_with fail
      go_roundw
      case rel => exact ⟨3, by omega, by (try simp), by unfold RI; rw [← rnd_next]; exact hri⟩
      case measure => simp [intOf]
   case inr.inr.inr =>
    have hlen : ∃ A c, e0 = .slice A M.length c := by
     rcases hri.1.2 with ⟨h1, h2⟩ | ⟨g, cap, cur, h1, _⟩
     ·exact ⟨none, 0, by rw [h1, h2]⟩
     ·exact ⟨_, _, h1⟩
    obtain ⟨A, c, rfl⟩ := hlen
    have hix : ∀ W : World, Sem.run Tryz.prog (Instr.index 135 cndV (.int .i64 3)) W = .ok (.func (.func 113) #[] #[]) W := cndIx 3 _ (by omega) rfl
    unfold cndV at hix
    rw [show ((3 : Nat) : Int) = 3 from rfl]
    go_wp2
    go_loopw [19] (fun v19 wr => ∃ j : Nat, j ≤ M.length ∧ v19 = .int .i64 j ∧ RI w T F RL M (.slice A M.length c) 3 j wr) (fun v19 _ => M.length - (intOf v19).toNat)
    case atStart => exact ⟨0, by omega, rfl, hri⟩
    case round =>
     clear hri
     obtain ⟨j, hj, rfl, hri⟩ := hrel
     by_cases hlt : j < M.length
     ·have hcall := minusPartial_any wr b T F RL M (Hw.out.ext hri.2) Hv.out (j : Int) (by omega) (by have := Hv.out.nM; omega)
      obtain ⟨C, hC⟩ : ∃ C, minusPB T RL M (j : Int) = C := ⟨_, rfl⟩
      rw [hC] at hcall
      have HC : Hid (cnd T F RL M 3 (j : Int) = C) := hC
      clear hC
      go_wp2_with fail
      refine hcall.mono ?_
      rintro e w5 ⟨_, rfl, rfl, hb5⟩
      have hri5 : RI w T F RL M (.slice A M.length c) 3 j w5 := hri.ext hb5
      clear hri hcall hb5
      cases C with
      | false =>
       go_wp2_with fail
       go_roundw
       case rel => exact ⟨j + 1, by omega, by (try simp), by unfold RI; rw [rnd_skip HC.out]; exact hri5⟩
       case measure => simp [intOf]; omega
      | true =>
       obtain ⟨g, cap, hA, hg, hcell⟩ := own_at hri5.1 hlt (by simp [rnd_length]; omega)
       cases hA
       have hfr := own_free hri5.1 j
       have hjr : j < (rnd (cnd T F RL M) M 3 j).length := by rw [rnd_length]; exact hlt
       have hcell' : w5.cell? ⟨g, j, none⟩ = some (.int .u8 (((rnd (cnd T F RL M) M 3 j)[j]'hjr : Nat) : Int)) := by rw [hcell]; simp
       have h8 := rnd_lt (C := cnd T F RL M) Hv.out.m8 (i := 3) (j := j) (by omega) _ (List.getElem_mem hjr)
       have Hn := hid (rnd_hit (C := cnd T F RL M) (M := M) HC.out hjr)
       obtain ⟨x, Hx⟩ : ∃ x, Hid ((rnd (cnd T F RL M) M 3 j)[j]'hjr = x) := ⟨_, rfl⟩
       rw [Hx.out] at hcell' h8
       have hor : bits .or .u8 (x : Int) 8 = ((x ||| 2 ^ 3 : Nat) : Int) := bit_or x h8 3 (by omega)
       have hnx : RI w T F RL M (.slice (some ⟨g, 0, none⟩) M.length c) 3 (j + 1) (w5.setCell ⟨g, j, none⟩ (.int .u8 (bits .or .u8 (x : Int) 8))) := by
        refine ⟨?_, hri5.2.setCell hg _⟩
        have h9 := own_set hri5.1 j (.int .u8 ((x ||| 2 ^ 3 : Nat) : Int))
        rw [hor, Hn.out, Hx.out, marksV, List.map_set]
        exact h9
       clear hcell hri5 hor
       go_wp2_with fail
       go_region_with (go_at_call 97; refine (bit_plain _ 3 (by omega) rfl _).mono ?_; rintro e w' ⟨rfl, rfl⟩)
       all_goals
        go_wp2_with fail
        go_roundw
        case rel => exact ⟨j + 1, by omega, by (try simp), hnx.1, hnx.2.drew⟩
        case measure => simp [intOf]; omega
     ·obtain rfl : j = M.length := by omega
      go_wp2_with fail
      go_roundw
      case rel => exact ⟨4, by omega, by (try simp), by unfold RI; rw [← rnd_next]; exact hri⟩
      case measure => simp [intOf]
end Go.Proofs.Lx

namespace Go.Proofs.Lx
open Go Go.RowKit
set_option linter.unusedSimpArgs false
set_option linter.unusedVariables false

def rulesUpto (rs : List Rule) (k : Nat) (q : Nat) : List Int := ((List.range k).filter fun i => (rs.getD i default).head == (q : Int)).map fun (i : Nat) => (i : Int)
/-- Of each literal the rules with it as head, the first k rules alone. -/
def rulesRows (rs : List Rule) (n k : Nat) : List (List Int) := (List.range n).map (rulesUpto rs k)
theorem rulesRows_length (rs : List Rule) (n k : Nat) : (rulesRows rs n k).length = n := by simp [rulesRows]
theorem rulesRows_at (rs : List Rule) (n k : Nat) {q : Nat} (hq : q < n) : (rulesRows rs n k)[q]'(by rw [rulesRows_length]; exact hq) = rulesUpto rs k q := by simp [rulesRows]
theorem rulesUpto_length (rs : List Rule) (k q : Nat) : (rulesUpto rs k q).length ≤ k := by
 unfold rulesUpto; rw [List.length_map]
 exact Nat.le_trans (List.length_filter_le _ _) (by simp)
theorem rulesRows_succ (rs : List Rule) (n k : Nat) (hk : k < rs.length) (h0 : 0 ≤ rs[k].head) (h1 : rs[k].head < n) :
  rulesRows rs n (k + 1) = (rulesRows rs n k).set rs[k].head.toNat (rulesUpto rs k rs[k].head.toNat ++ [(k : Int)]) := by
 apply List.ext_getElem
 ·simp [rulesRows]
 ·intro q hq1 hq2
  rw [rulesRows_length] at hq1
  rw [rulesRows_at _ _ _ hq1, List.getElem_set]
  have hg : rs.getD k default = rs[k] := by simp [hk]
  by_cases e : rs[k].head.toNat = q
  ·rw [if_pos e]; subst e
   rw [rulesUpto, List.range_succ, List.filter_append, List.map_append]
   have : ((rs.getD k default).head == ((rs[k].head.toNat : Nat) : Int)) = true := by rw [hg, beq_iff_eq]; omega
   rw [List.filter_cons_of_pos (by exact this)]; rfl
  ·rw [if_neg e, rulesRows_at _ _ _ hq1, rulesUpto, List.range_succ, List.filter_append, List.map_append]
   have : ¬ ((rs.getD k default).head == (q : Int)) = true := by rw [hg, beq_iff_eq]; omega
   rw [List.filter_cons_of_neg (by exact this)]; simp [rulesUpto]
theorem rulesRows_zero (rs : List Rule) (n : Nat) : rulesRows rs n 0 = List.replicate n [] := by
 apply List.ext_getElem
 ·simp [rulesRows]
 ·intro q h1 h2; rw [rulesRows_length] at h1; rw [rulesRows_at _ _ _ h1]; simp [rulesUpto]
theorem mem_rulesUpto {rs : List Rule} {k q : Nat} {r : Int} : r ∈ rulesUpto rs k q ↔ ∃ i : Nat, i < k ∧ r = i ∧ (rs.getD i default).head = q := by
 simp only [rulesUpto, List.mem_map, List.mem_filter, List.mem_range, beq_iff_eq]
 constructor
 ·rintro ⟨i, ⟨h1, h2⟩, rfl⟩; exact ⟨i, h1, rfl, h2⟩
 ·rintro ⟨i, h1, rfl, h2⟩; exact ⟨i, ⟨h1, h2⟩, rfl⟩

def factsB (n : Nat) (l : List Int) : List Bool := (List.range n).map fun (q : Nat) => memB l q
def factsUpto (n k : Nat) (l : List Int) : List Bool := factsB n (l.take k)
theorem factsB_length (n : Nat) (l : List Int) : (factsB n l).length = n := by simp [factsB]
theorem factsUpto_succ (n k : Nat) (l : List Int) (hk : k < l.length) (h0 : 0 ≤ l[k]) : factsUpto n (k + 1) l = (factsUpto n k l).set l[k].toNat true := by
 apply List.ext_getElem
 ·simp [factsUpto, factsB]
 ·intro q h1 h2
  have hq : q < n := by simpa [factsUpto, factsB] using h1
  rw [List.getElem_set]
  simp only [factsUpto, factsB, List.getElem_map, List.getElem_range]
  rw [List.take_succ_eq_append_getElem hk]
  by_cases e : l[k].toNat = q
  ·rw [if_pos e, memB_true]
   subst e
   have : ((l[k].toNat : Nat) : Int) = l[k] := by omega
   rw [this]; exact List.mem_append_right _ (List.mem_singleton.2 rfl)
  ·rw [if_neg e, Bool.eq_iff_iff, memB_true, memB_true]
   simp only [List.mem_append, List.mem_singleton]
   constructor
   ·rintro (h | h)
    ·exact h
    ·omega
   ·exact .inl
theorem factsUpto_zero (n : Nat) (l : List Int) : factsUpto n 0 l = List.replicate n false := by
 apply List.ext_getElem <;> simp [factsUpto, factsB, memB]
theorem factsUpto_all (n : Nat) (l : List Int) : factsUpto n l.length l = factsB n l := by simp [factsUpto]

/-- naive's world, whose reads outlast stores into its own block. -/
structure NWS (w : World) (b : Nat) (T : Th) (F : List Bool) (RL : List (List Int)) (M : List Nat) : Prop where
 ex : ∃ vF vR vB vFa vRu vM, w.heap[b]? = some (.cells #[.int .i64 T.lits, vF, vR, vB, vFa, vRu, vM] 122 (0, 0)) ∧ ∀ w', w.grownBy w' (some b) → RdLL w' vF T.foes ∧ RdRs w' vR T.rules ∧ RdLL w' vB T.beats ∧ RdB w' vFa F ∧ RdLL w' vRu RL ∧ RdMk w' vM M
theorem grown_refl (w : World) (r : Option Nat) : w.grownBy w r := ⟨rfl, rfl, rfl, Nat.le_refl _, fun _ _ _ => rfl⟩
theorem grown_below {w w' : World} (h : Below w.heap.size w w') (r : Option Nat) : w.grownBy w' r := ⟨h.os, h.tape, h.output, h.size, fun k hk _ => h.block k hk⟩
theorem grown_set (w : World) (b i : Nat) (v : Value) : w.grownBy (w.setCell ⟨b, i, none⟩ v) (some b) :=
 ⟨rfl, rfl, rfl, by simp, fun k _ hk => heap_setCell_other w ⟨b, i, none⟩ k v (fun e => hk (by rw [e]))⟩
section
variable {w w' : World} {b : Nat} {T : Th} {F : List Bool} {RL : List (List Int)} {M : List Nat}
theorem NWS.nw (h : NWS w b T F RL M) : NW w b T F RL M := by
 obtain ⟨vF, vR, vB, vFa, vRu, vM, hh, hr⟩ := h.ex
 obtain ⟨h1, h2, h3, h4, h5, h6⟩ := hr w (grown_refl _ _)
 exact ⟨vF, vR, vB, vFa, vRu, vM, hh, h1, h2, h3, h4, h5, h6⟩
theorem NWS.ext (h : NWS w b T F RL M) (hb : Below w.heap.size w w') : NWS w' b T F RL M := by
 obtain ⟨vF, vR, vB, vFa, vRu, vM, hh, hr⟩ := h.ex
 exact ⟨vF, vR, vB, vFa, vRu, vM, (hb.block b (lt_of_block hh)).trans hh, fun w2 h2 => hr w2 ((grown_below hb _).trans h2)⟩
theorem NWS.put (h : NWS w b T F RL M) {v' : Value} {M' : List Nat} (hm : ∀ w', w.grownBy w' (some b) → RdMk w' v' M') : NWS (w.setCell ⟨b, 6, none⟩ v') b T F RL M' := by
 obtain ⟨vF, vR, vB, vFa, vRu, vM, hh, hr⟩ := h.ex
 refine ⟨vF, vR, vB, vFa, vRu, v', by rw [heap_setCell_same w b 6 _ _ _ hh]; rfl, fun w2 h2 => ?_⟩
 have h3 := (grown_set w b 6 v').trans h2
 obtain ⟨h1, h2, h4, h5, h6, _⟩ := hr w2 h3
 exact ⟨h1, h2, h4, h5, h6, hm w2 h3⟩
end
structure WS (W1 : World) (vals : Array Value) (b gA gR base : Nat) (F : List Bool) (vs : List Value) (xss : List (List Int)) (w : World) : Prop where
 blk : w.heap[b]? = some (.cells vals 122 (0, 0))
 aA : Arr Value.bool 4 w gA F
 rows : Rows w gR base 36 3 vs xss
 old : Below W1.heap.size W1 w
 h1 : W1.heap.size ≤ b ∧ b < base
 h2 : W1.heap.size ≤ gA ∧ gA < base
 h3 : W1.heap.size ≤ gR ∧ gR < base
 hb : base ≤ w.heap.size
 d : b ≠ gA ∧ b ≠ gR ∧ gA ≠ gR
section
variable {W1 : World} {vals : Array Value} {b gA gR base : Nat} {F : List Bool} {vs : List Value} {xss : List (List Int)} {w w' : World}
theorem WS.ext (h : WS W1 vals b gA gR base F vs xss w) (hb : Below w.heap.size w w') : WS W1 vals b gA gR base F vs xss w' :=
 ⟨(hb.block b (lt_of_block h.blk)).trans h.blk, h.aA.ext hb, h.rows.ext hb, h.old.trans (hb.mono h.old.size), h.h1, h.h2, h.h3, Nat.le_trans h.hb hb.size, h.d⟩
theorem WS.fact (h : WS W1 vals b gA gR base F vs xss w) (q : Nat) : WS W1 vals b gA gR base (F.set q true) vs xss (w.setCell ⟨gA, q, none⟩ (.bool true)) :=
 ⟨(heap_setCell_other w _ b _ h.d.1).trans h.blk, h.aA.set q true, h.rows.other h.h2.2 (Ne.symm h.d.2.2) _, h.old.setCell h.h2.1 _, h.h1, h.h2, h.h3, by simp only [World.size_setCell]; exact h.hb, h.d⟩
theorem WS.append (h : WS W1 vals b gA gR base F vs xss w) {q : Nat} (hq : q < vs.length) (hq' : q < xss.length) {v' : Value} {x : Int} (hgr : w.grownBy w' vs[q].ownBlock)
  (ho : w'.ownsRow base 3 1 v' (xss[q].length + 1) (intsV xss[q] ++ [.int .i64 x])) (hat : v'.ownBlock = vs[q].ownBlock ∨ v'.ownBlock = some w.heap.size) :
  WS W1 vals b gA gR base F (vs.set q v') (xss.set q (xss[q] ++ [x])) (w'.setCell ⟨gR, q, none⟩ v') := by
 have hlt := (h.rows.own q hq hq').lt
 have hbk : ∀ g, g < base → w'.heap[g]? = w.heap[g]? := fun g hg => hgr.block g (Nat.lt_of_lt_of_le hg h.hb) (fun e => by have := hlt g e.symm; omega)
 refine ⟨(heap_setCell_other w' _ b _ h.d.2.1).trans ((hbk b h.h1.2).trans h.blk), Arr.other ((hbk gA h.h2.2).trans h.aA) h.d.2.2 _, h.rows.append h.hb hq hq' hgr ho (hat.imp id fun e => ⟨_, e, Nat.le_refl _⟩), ?_, h.h1, h.h2, h.h3, by simp only [World.size_setCell]; exact Nat.le_trans h.hb hgr.size, h.d⟩
 exact (h.old.trans ⟨hgr.os, hgr.tape, hgr.output, hgr.size, fun k hk => hbk k (by have := h.h1; omega)⟩).setCell h.h3.1 _
theorem WS.cell (h : WS W1 vals b gA gR base F vs xss w) (i : Nat) : w.cell? ⟨b, i, none⟩ = vals[i]? := cell_of_row w b i _ _ _ h.blk
theorem WS.blocks (h : WS W1 vals b gA gR base F vs xss w) {q : Nat} (hq : q < vs.length) (hgr : w.grownBy w' vs[q].ownBlock) (g : Nat) (hg : g < base) : w'.heap[g]? = w.heap[g]? :=
 hgr.block g (Nat.lt_of_lt_of_le hg h.hb) (fun e => by have := (h.rows.own q hq (by rw [← h.rows.len]; exact hq)).lt g e.symm; omega)
theorem alloc3 (w : World) (A B C : Obj) : (((w.alloc A).alloc B).alloc C).drew.heap.size = w.heap.size + 3 ∧ (((w.alloc A).alloc B).alloc C).drew.heap[w.heap.size]? = some A ∧ (((w.alloc A).alloc B).alloc C).drew.heap[w.heap.size + 1]? = some B ∧ (((w.alloc A).alloc B).alloc C).drew.heap[w.heap.size + 2]? = some C := by
 refine ⟨by simp only [World.alloc, World.drew, Array.size_push], ?_, ?_, ?_⟩
 all_goals simp only [World.alloc, World.drew, Array.getElem?_push, Array.size_push]
 ·rw [if_neg (by omega), if_neg (by omega), if_pos trivial]
 ·rw [if_neg (by omega), if_pos trivial]
 ·rw [if_pos trivial]
theorem WS.startA (W1 : World) (vals : Array Value) (n s : Nat) (hs : W1.heap.size = s) :
  WS W1 vals (s + 1 + 1) s (s + 1) (s + 1 + 1 + 1) (List.replicate n false) (List.replicate n (.slice none 0 0)) (List.replicate n [])
   ((((W1.alloc (.cells (madeCells #[Value.bool false] n) 4)).alloc (.cells (madeCells #[Value.slice none 0 0] n) 36)).alloc (.cells vals 122)).drew) := by
 subst hs
 obtain ⟨h0, h1, h2, h3⟩ := alloc3 W1 (.cells (madeCells #[Value.bool false] n) 4) (.cells (madeCells #[Value.slice none 0 0] n) 36) (.cells vals 122)
 refine ⟨h3, ?_, Rows.made _ _ _ _ _ _ (by omega) (h2.trans ?_), ?_, by omega, by omega, by omega, by omega, by omega⟩
 ·refine h1.trans ?_
  congr 2
  rw [← Array.toList_inj, toList_madeCells_one, List.map_replicate]
 ·congr 2
  rw [← Array.toList_inj, toList_madeCells_one]
 ·exact Below.drew (Below.alloc (Below.alloc (ext_alloc W1 _) (by simp) _) (by simp only [World.size_alloc]; omega) _)
theorem WS.startB (W1 : World) (vals : Array Value) (n s : Nat) (hs : W1.heap.size = s) :
  WS W1 vals (s + 1 + 1) (s + 1) s (s + 1 + 1 + 1) (List.replicate n false) (List.replicate n (.slice none 0 0)) (List.replicate n [])
   ((((W1.alloc (.cells (madeCells #[Value.slice none 0 0] n) 36)).alloc (.cells (madeCells #[Value.bool false] n) 4)).alloc (.cells vals 122)).drew) := by
 subst hs
 obtain ⟨h0, h1, h2, h3⟩ := alloc3 W1 (.cells (madeCells #[Value.slice none 0 0] n) 36) (.cells (madeCells #[Value.bool false] n) 4) (.cells vals 122)
 refine ⟨h3, ?_, Rows.made _ _ _ _ _ _ (by omega) (h1.trans ?_), ?_, by omega, by omega, by omega, by omega, by omega⟩
 ·refine h2.trans ?_
  congr 2
  rw [← Array.toList_inj, toList_madeCells_one, List.map_replicate]
 ·congr 2
  rw [← Array.toList_inj, toList_madeCells_one]
 ·exact Below.drew (Below.alloc (Below.alloc (ext_alloc W1 _) (by simp) _) (by simp only [World.size_alloc]; omega) _)
end

end Go.Proofs.Lx
