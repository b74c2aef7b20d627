/- Contract of naive's round. -/
import Derived.Test.YtalhpldbhogadaaNg
import Derived.Deep.DeepCutAuto
namespace Go.Proofs.Lx
open Go Go.RowKit
set_option linter.unusedSimpArgs false
set_option linter.unusedVariables false

/-- The relation of the two loops. -/
def RI (w : World) (T : Th) (F : List Bool) (RL : List (List Int)) (M : List Nat) (v : Value) (i j : Nat) (wr : World) : Prop :=
  wr.ownsRow w.heap.size 33 1 v M.length (marksV (rnd (cnd T F RL M) M i j)) ∧ Below w.heap.size w wr

theorem RI.ext {w : World} {T : Th} {F : List Bool} {RL : List (List Int)} {M : List Nat} {v : Value} {i j : Nat} {w1 w2 : World} (h : RI w T F RL M v i j w1) (hb : Below w1.heap.size w1 w2) : RI w T F RL M v i j w2 :=
  ⟨h.1.kept (row := none) ⟨hb.os, hb.tape, hb.output, hb.size, fun k hk _ => hb.block k hk⟩ (by cases v.ownBlock <;> simp), ext_trans h.2 hb⟩
abbrev cndV : Value := .agg #[.func (.func 88) #[] #[], .func (.func 89) #[] #[], .func (.func 90) #[] #[], .func (.func 91) #[] #[]]
theorem info93 : (Try.prog.info? 93).isSome = true := by kernel_rfl
theorem cells93 : Try.prog.cellsOf 93 = 1 := by kernel_rfl
theorem cndIx (i : Nat) (v : Value) (hi : i < 4) (hv : (#[Value.func (.func 88) #[] #[], .func (.func 89) #[] #[], .func (.func 90) #[] #[], .func (.func 91) #[] #[]] : Array Value)[i]? = some v) (W : World) :
    Sem.run Try.prog (Instr.index 94 cndV (.int .i64 (i : Int))) W = .ok v W := by
  obtain ⟨x, hx⟩ := Option.isSome_iff_exists.1 info93
  have h1 := run_sizeOf (P := Try.prog) W hx
  rw [cells93] at h1
  have h3 : (i : Int) < 4 := by omega
  simp only [Instr.index, asIntOf, Sem.run_bind, Sem.run_pure, Result.andThen_ok, run_underlying Try.underlying94, h1, part, isAgg, run_underlying Try.underlying93]
  have hv2 := hv
  simp only [List.getElem?_toArray] at hv2
  simp [h3, hv2]
set_option maxRecDepth 100000 in
set_option maxHeartbeats 6400000 in
theorem round_any (w : World) (b : Nat) (T : Th) (F : List Bool) (RL : List (List Int)) (M : List Nat) (h : NW w b T F RL M) (hv : NVal T F RL M) :
    Calls Try.prog 59 #[.pointer (some ⟨b, 0, none⟩)] w (Ret fun v w' => w'.ownsRow w.heap.size 33 1 v M.length (marksV (roundM T F RL M)) ∧ Below w.heap.size w w') := by
  have Hv := hid hv
  have Hw := hid h
  obtain ⟨vF, vR, vB, vFa, vRu, vM, hh, _, _, _, _, _, hM⟩ := h.ex
  have c6 := cell_of_row w b 6 _ _ _ hh
  simp only [List.getElem?_toArray, List.getElem?_cons_zero, List.getElem?_cons_succ] at c6
  have hcl := cloneM_any w vM M hM
  have hMb : M.length ≤ 140737488355328 := by obtain ⟨_, _, _, _, h1, _⟩ := hM; exact h1
  clear hv h hh hM
  refine post_gen fun Q HQ => ?_
  go_enter Try.func59, Try.ntmps59
  go_wp2_with fail
  refine hcl.mono ?_
  rintro e w2 ⟨e0, rfl, hown, hb2⟩
  clear hcl
  go_wp2_with fail
  refine (conds_plain w2).mono ?_
  rintro e w3 ⟨_, rfl, rfl, hb3⟩
  have hri : RI w T F RL M e0 0 0 w3 := ⟨by rw [rnd_zero]; exact hown.kept (row := none) ⟨hb3.os, hb3.tape, hb3.output, hb3.size, fun k hk _ => hb3.block k hk⟩ (by cases e0.ownBlock <;> simp), ext_trans hb2 hb3⟩
  clear hown hb2 hb3 c6
  go_wp2
  go_loopw [13] (fun v13 wr => ∃ i : Nat, i ≤ 4 ∧ v13 = .int .i64 i ∧ RI w T F RL M e0 i 0 wr) (fun v13 _ => 4 - (intOf v13).toNat)
  case atStart => exact ⟨0, by omega, rfl, hri⟩
  case round =>
    clear hri
    obtain ⟨i, hi, rfl, hri⟩ := hrel
    obtain ⟨wo, rfl⟩ : ∃ wo : World, wo = wr := ⟨_, rfl⟩
    by_cases h4 : i = 4
    · subst h4
      go_wp2
      go_ret
      exact Fin HQ hri
    · have hi4 : i < 4 := by omega
      have hrl : (rnd (cnd T F RL M) M i 0).length = M.length := rnd_length _ _
      rcases (show i = 0 ∨ i = 1 ∨ i = 2 ∨ i = 3 by omega) with rfl | rfl | rfl | rfl
      case inl =>
        have hlen : ∃ A c, e0 = .slice A M.length c := by
          rcases hri.1.2 with ⟨h1, h2⟩ | ⟨g, cap, cur, h1, _⟩
          · exact ⟨none, 0, by rw [h1, h2]⟩
          · exact ⟨_, _, h1⟩
        obtain ⟨A, c, rfl⟩ := hlen
        have hix : ∀ W : World, Sem.run Try.prog (Instr.index 94 cndV (.int .i64 0)) W = .ok (.func (.func 88) #[] #[]) W := cndIx 0 _ (by omega) rfl
        unfold cndV at hix
        rw [show ((0 : Nat) : Int) = 0 from rfl]
        go_wp2
        go_loopw [19] (fun v19 wr => ∃ j : Nat, j ≤ M.length ∧ v19 = .int .i64 j ∧ RI w T F RL M (.slice A M.length c) 0 j wr) (fun v19 _ => M.length - (intOf v19).toNat)
        case atStart => exact ⟨0, by omega, rfl, hri⟩
        case round =>
          clear hri
          obtain ⟨j, hj, rfl, hri⟩ := hrel
          by_cases hlt : j < M.length
          · have hcall := plusDelta_any wr b T F RL M (Hw.out.ext hri.2) Hv.out (j : Int) (by omega) (by have := Hv.out.nM; omega)
            obtain ⟨C, hC⟩ : ∃ C, plusDB T F RL M (j : Int) = C := ⟨_, rfl⟩
            rw [hC] at hcall
            have HC : Hid (cnd T F RL M 0 (j : Int) = C) := hC
            clear hC
            go_wp2_with fail
            refine hcall.mono ?_
            rintro e w5 ⟨_, rfl, rfl, hb5⟩
            have hri5 : RI w T F RL M (.slice A M.length c) 0 j w5 := hri.ext hb5
            clear hri hcall hb5
            cases C with
            | false =>
              go_wp2_with fail
              go_roundw
              case rel => exact ⟨j + 1, by omega, by (try simp), by unfold RI; rw [rnd_skip HC.out]; exact hri5⟩
              case measure => simp [intOf]; omega
            | true =>
              obtain ⟨g, cap, hA, hg, hcell⟩ := own_at hri5.1 hlt (by simp [rnd_length]; omega)
              cases hA
              have hfr := own_free hri5.1 j
              have hjr : j < (rnd (cnd T F RL M) M 0 j).length := by rw [rnd_length]; exact hlt
              have hcell' : w5.cell? ⟨g, j, none⟩ = some (.int .u8 (((rnd (cnd T F RL M) M 0 j)[j]'hjr : Nat) : Int)) := by rw [hcell]; simp
              have h8 := rnd_lt (C := cnd T F RL M) Hv.out.m8 (i := 0) (j := j) (by omega) _ (List.getElem_mem hjr)
              have Hn := hid (rnd_hit (C := cnd T F RL M) (M := M) HC.out hjr)
              obtain ⟨x, Hx⟩ : ∃ x, Hid ((rnd (cnd T F RL M) M 0 j)[j]'hjr = x) := ⟨_, rfl⟩
              rw [Hx.out] at hcell' h8
              have hor : bits .or .u8 (x : Int) 1 = ((x ||| 2 ^ 0 : Nat) : Int) := bit_or x h8 0 (by omega)
              have hnx : RI w T F RL M (.slice (some ⟨g, 0, none⟩) M.length c) 0 (j + 1) (w5.setCell ⟨g, j, none⟩ (.int .u8 (bits .or .u8 (x : Int) 1))) := by
                refine ⟨?_, hri5.2.setCell hg _⟩
                have h9 := own_set hri5.1 j (.int .u8 ((x ||| 2 ^ 0 : Nat) : Int))
                rw [hor, Hn.out, Hx.out, marksV, List.map_set]
                exact h9
              clear hcell hri5 hor
              go_wp2_with fail
              go_region_with (go_at_call 87; refine (bit_plain _ 0 (by omega) rfl _).mono ?_; rintro e w' ⟨rfl, rfl⟩)
              all_goals
                go_wp2_with fail
                go_roundw
                case rel => exact ⟨j + 1, by omega, by (try simp), hnx.1, hnx.2.drew⟩
                case measure => simp [intOf]; omega
          · obtain rfl : j = M.length := by omega
            go_wp2_with fail
            go_roundw
            case rel => exact ⟨1, by omega, by (try simp), by unfold RI; rw [← rnd_next]; exact hri⟩
            case measure => simp [intOf]
      case inr.inl =>
        have hlen : ∃ A c, e0 = .slice A M.length c := by
          rcases hri.1.2 with ⟨h1, h2⟩ | ⟨g, cap, cur, h1, _⟩
          · exact ⟨none, 0, by rw [h1, h2]⟩
          · exact ⟨_, _, h1⟩
        obtain ⟨A, c, rfl⟩ := hlen
        have hix : ∀ W : World, Sem.run Try.prog (Instr.index 94 cndV (.int .i64 1)) W = .ok (.func (.func 89) #[] #[]) W := cndIx 1 _ (by omega) rfl
        unfold cndV at hix
        rw [show ((1 : Nat) : Int) = 1 from rfl]
        go_wp2
        go_loopw [19] (fun v19 wr => ∃ j : Nat, j ≤ M.length ∧ v19 = .int .i64 j ∧ RI w T F RL M (.slice A M.length c) 1 j wr) (fun v19 _ => M.length - (intOf v19).toNat)
        case atStart => exact ⟨0, by omega, rfl, hri⟩
        case round =>
          clear hri
          obtain ⟨j, hj, rfl, hri⟩ := hrel
          by_cases hlt : j < M.length
          · have hcall := minusDelta_any wr b T F RL M (Hw.out.ext hri.2) Hv.out (j : Int) (by omega) (by have := Hv.out.nM; omega)
            obtain ⟨C, hC⟩ : ∃ C, minusDB T F RL M (j : Int) = C := ⟨_, rfl⟩
            rw [hC] at hcall
            have HC : Hid (cnd T F RL M 1 (j : Int) = C) := hC
            clear hC
            go_wp2_with fail
            refine hcall.mono ?_
            rintro e w5 ⟨_, rfl, rfl, hb5⟩
            have hri5 : RI w T F RL M (.slice A M.length c) 1 j w5 := hri.ext hb5
            clear hri hcall hb5
            cases C with
            | false =>
              go_wp2_with fail
              go_roundw
              case rel => exact ⟨j + 1, by omega, by (try simp), by unfold RI; rw [rnd_skip HC.out]; exact hri5⟩
              case measure => simp [intOf]; omega
            | true =>
              obtain ⟨g, cap, hA, hg, hcell⟩ := own_at hri5.1 hlt (by simp [rnd_length]; omega)
              cases hA
              have hfr := own_free hri5.1 j
              have hjr : j < (rnd (cnd T F RL M) M 1 j).length := by rw [rnd_length]; exact hlt
              have hcell' : w5.cell? ⟨g, j, none⟩ = some (.int .u8 (((rnd (cnd T F RL M) M 1 j)[j]'hjr : Nat) : Int)) := by rw [hcell]; simp
              have h8 := rnd_lt (C := cnd T F RL M) Hv.out.m8 (i := 1) (j := j) (by omega) _ (List.getElem_mem hjr)
              have Hn := hid (rnd_hit (C := cnd T F RL M) (M := M) HC.out hjr)
              obtain ⟨x, Hx⟩ : ∃ x, Hid ((rnd (cnd T F RL M) M 1 j)[j]'hjr = x) := ⟨_, rfl⟩
              rw [Hx.out] at hcell' h8
              have hor : bits .or .u8 (x : Int) 2 = ((x ||| 2 ^ 1 : Nat) : Int) := bit_or x h8 1 (by omega)
              have hnx : RI w T F RL M (.slice (some ⟨g, 0, none⟩) M.length c) 1 (j + 1) (w5.setCell ⟨g, j, none⟩ (.int .u8 (bits .or .u8 (x : Int) 2))) := by
                refine ⟨?_, hri5.2.setCell hg _⟩
                have h9 := own_set hri5.1 j (.int .u8 ((x ||| 2 ^ 1 : Nat) : Int))
                rw [hor, Hn.out, Hx.out, marksV, List.map_set]
                exact h9
              clear hcell hri5 hor
              go_wp2_with fail
              go_region_with (go_at_call 87; refine (bit_plain _ 1 (by omega) rfl _).mono ?_; rintro e w' ⟨rfl, rfl⟩)
              all_goals
                go_wp2_with fail
                go_roundw
                case rel => exact ⟨j + 1, by omega, by (try simp), hnx.1, hnx.2.drew⟩
                case measure => simp [intOf]; omega
          · obtain rfl : j = M.length := by omega
            go_wp2_with fail
            go_roundw
            case rel => exact ⟨2, by omega, by (try simp), by unfold RI; rw [← rnd_next]; exact hri⟩
            case measure => simp [intOf]
      case inr.inr.inl =>
        have hlen : ∃ A c, e0 = .slice A M.length c := by
          rcases hri.1.2 with ⟨h1, h2⟩ | ⟨g, cap, cur, h1, _⟩
          · exact ⟨none, 0, by rw [h1, h2]⟩
          · exact ⟨_, _, h1⟩
        obtain ⟨A, c, rfl⟩ := hlen
        have hix : ∀ W : World, Sem.run Try.prog (Instr.index 94 cndV (.int .i64 2)) W = .ok (.func (.func 90) #[] #[]) W := cndIx 2 _ (by omega) rfl
        unfold cndV at hix
        rw [show ((2 : Nat) : Int) = 2 from rfl]
        go_wp2
        go_loopw [19] (fun v19 wr => ∃ j : Nat, j ≤ M.length ∧ v19 = .int .i64 j ∧ RI w T F RL M (.slice A M.length c) 2 j wr) (fun v19 _ => M.length - (intOf v19).toNat)
        case atStart => exact ⟨0, by omega, rfl, hri⟩
        case round =>
          clear hri
          obtain ⟨j, hj, rfl, hri⟩ := hrel
          by_cases hlt : j < M.length
          · have hcall := plusPartial_any wr b T F RL M (Hw.out.ext hri.2) Hv.out (j : Int) (by omega) (by have := Hv.out.nM; omega)
            obtain ⟨C, hC⟩ : ∃ C, plusPB T RL M (j : Int) = C := ⟨_, rfl⟩
            rw [hC] at hcall
            have HC : Hid (cnd T F RL M 2 (j : Int) = C) := hC
            clear hC
            go_wp2_with fail
            refine hcall.mono ?_
            rintro e w5 ⟨_, rfl, rfl, hb5⟩
            have hri5 : RI w T F RL M (.slice A M.length c) 2 j w5 := hri.ext hb5
            clear hri hcall hb5
            cases C with
            | false =>
              go_wp2_with fail
              go_roundw
              case rel => exact ⟨j + 1, by omega, by (try simp), by unfold RI; rw [rnd_skip HC.out]; exact hri5⟩
              case measure => simp [intOf]; omega
            | true =>
              obtain ⟨g, cap, hA, hg, hcell⟩ := own_at hri5.1 hlt (by simp [rnd_length]; omega)
              cases hA
              have hfr := own_free hri5.1 j
              have hjr : j < (rnd (cnd T F RL M) M 2 j).length := by rw [rnd_length]; exact hlt
              have hcell' : w5.cell? ⟨g, j, none⟩ = some (.int .u8 (((rnd (cnd T F RL M) M 2 j)[j]'hjr : Nat) : Int)) := by rw [hcell]; simp
              have h8 := rnd_lt (C := cnd T F RL M) Hv.out.m8 (i := 2) (j := j) (by omega) _ (List.getElem_mem hjr)
              have Hn := hid (rnd_hit (C := cnd T F RL M) (M := M) HC.out hjr)
              obtain ⟨x, Hx⟩ : ∃ x, Hid ((rnd (cnd T F RL M) M 2 j)[j]'hjr = x) := ⟨_, rfl⟩
              rw [Hx.out] at hcell' h8
              have hor : bits .or .u8 (x : Int) 4 = ((x ||| 2 ^ 2 : Nat) : Int) := bit_or x h8 2 (by omega)
              have hnx : RI w T F RL M (.slice (some ⟨g, 0, none⟩) M.length c) 2 (j + 1) (w5.setCell ⟨g, j, none⟩ (.int .u8 (bits .or .u8 (x : Int) 4))) := by
                refine ⟨?_, hri5.2.setCell hg _⟩
                have h9 := own_set hri5.1 j (.int .u8 ((x ||| 2 ^ 2 : Nat) : Int))
                rw [hor, Hn.out, Hx.out, marksV, List.map_set]
                exact h9
              clear hcell hri5 hor
              go_wp2_with fail
              go_region_with (go_at_call 87; refine (bit_plain _ 2 (by omega) rfl _).mono ?_; rintro e w' ⟨rfl, rfl⟩)
              all_goals
                go_wp2_with fail
                go_roundw
                case rel => exact ⟨j + 1, by omega, by (try simp), hnx.1, hnx.2.drew⟩
                case measure => simp [intOf]; omega
          · obtain rfl : j = M.length := by omega
            go_wp2_with fail
            go_roundw
            case rel => exact ⟨3, by omega, by (try simp), by unfold RI; rw [← rnd_next]; exact hri⟩
            case measure => simp [intOf]
      case inr.inr.inr =>
        have hlen : ∃ A c, e0 = .slice A M.length c := by
          rcases hri.1.2 with ⟨h1, h2⟩ | ⟨g, cap, cur, h1, _⟩
          · exact ⟨none, 0, by rw [h1, h2]⟩
          · exact ⟨_, _, h1⟩
        obtain ⟨A, c, rfl⟩ := hlen
        have hix : ∀ W : World, Sem.run Try.prog (Instr.index 94 cndV (.int .i64 3)) W = .ok (.func (.func 91) #[] #[]) W := cndIx 3 _ (by omega) rfl
        unfold cndV at hix
        rw [show ((3 : Nat) : Int) = 3 from rfl]
        go_wp2
        go_loopw [19] (fun v19 wr => ∃ j : Nat, j ≤ M.length ∧ v19 = .int .i64 j ∧ RI w T F RL M (.slice A M.length c) 3 j wr) (fun v19 _ => M.length - (intOf v19).toNat)
        case atStart => exact ⟨0, by omega, rfl, hri⟩
        case round =>
          clear hri
          obtain ⟨j, hj, rfl, hri⟩ := hrel
          by_cases hlt : j < M.length
          · have hcall := minusPartial_any wr b T F RL M (Hw.out.ext hri.2) Hv.out (j : Int) (by omega) (by have := Hv.out.nM; omega)
            obtain ⟨C, hC⟩ : ∃ C, minusPB T RL M (j : Int) = C := ⟨_, rfl⟩
            rw [hC] at hcall
            have HC : Hid (cnd T F RL M 3 (j : Int) = C) := hC
            clear hC
            go_wp2_with fail
            refine hcall.mono ?_
            rintro e w5 ⟨_, rfl, rfl, hb5⟩
            have hri5 : RI w T F RL M (.slice A M.length c) 3 j w5 := hri.ext hb5
            clear hri hcall hb5
            cases C with
            | false =>
              go_wp2_with fail
              go_roundw
              case rel => exact ⟨j + 1, by omega, by (try simp), by unfold RI; rw [rnd_skip HC.out]; exact hri5⟩
              case measure => simp [intOf]; omega
            | true =>
              obtain ⟨g, cap, hA, hg, hcell⟩ := own_at hri5.1 hlt (by simp [rnd_length]; omega)
              cases hA
              have hfr := own_free hri5.1 j
              have hjr : j < (rnd (cnd T F RL M) M 3 j).length := by rw [rnd_length]; exact hlt
              have hcell' : w5.cell? ⟨g, j, none⟩ = some (.int .u8 (((rnd (cnd T F RL M) M 3 j)[j]'hjr : Nat) : Int)) := by rw [hcell]; simp
              have h8 := rnd_lt (C := cnd T F RL M) Hv.out.m8 (i := 3) (j := j) (by omega) _ (List.getElem_mem hjr)
              have Hn := hid (rnd_hit (C := cnd T F RL M) (M := M) HC.out hjr)
              obtain ⟨x, Hx⟩ : ∃ x, Hid ((rnd (cnd T F RL M) M 3 j)[j]'hjr = x) := ⟨_, rfl⟩
              rw [Hx.out] at hcell' h8
              have hor : bits .or .u8 (x : Int) 8 = ((x ||| 2 ^ 3 : Nat) : Int) := bit_or x h8 3 (by omega)
              have hnx : RI w T F RL M (.slice (some ⟨g, 0, none⟩) M.length c) 3 (j + 1) (w5.setCell ⟨g, j, none⟩ (.int .u8 (bits .or .u8 (x : Int) 8))) := by
                refine ⟨?_, hri5.2.setCell hg _⟩
                have h9 := own_set hri5.1 j (.int .u8 ((x ||| 2 ^ 3 : Nat) : Int))
                rw [hor, Hn.out, Hx.out, marksV, List.map_set]
                exact h9
              clear hcell hri5 hor
              go_wp2_with fail
              go_region_with (go_at_call 87; refine (bit_plain _ 3 (by omega) rfl _).mono ?_; rintro e w' ⟨rfl, rfl⟩)
              all_goals
                go_wp2_with fail
                go_roundw
                case rel => exact ⟨j + 1, by omega, by (try simp), hnx.1, hnx.2.drew⟩
                case measure => simp [intOf]; omega
          · obtain rfl : j = M.length := by omega
            go_wp2_with fail
            go_roundw
            case rel => exact ⟨4, by omega, by (try simp), by unfold RI; rw [← rnd_next]; exact hri⟩
            case measure => simp [intOf]
end Go.Proofs.Lx
