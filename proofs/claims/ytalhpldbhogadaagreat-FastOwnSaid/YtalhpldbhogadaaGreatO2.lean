/- Parts of the proof: Mq, Ca, Cb. The book: kinds of which it holds nothing. -/
import Derived.Test.YtalhpldbhogadaaGreatProg
import Derived.Test.YtalhpldbhogadaaGreatO1
namespace Go.Proofs.Lx
open Go Go.RowKit
set_option linter.unusedVariables false
set_option linter.unusedSimpArgs false
theorem apNBytes (w : World) (b : Nat) (hc : w.cell? ⟨b, 0, none⟩ = some (.slice none 0 0)) : Calls Tryz.prog 23 #[.pointer (some ⟨b, 0, none⟩)] w (Ret fun r w' => r = .bool true ∧ w = w') := by
 refine post_gen fun Q HQ => ?_
 go_enter Tryz.func23, Tryz.ntmps23
 go_wp2_with fail
 go_loopw [4] (fun v4 wr => v4 = .int .i64 0 ∧ w = wr) (fun _ _ => 0)
 case atStart => exact ⟨rfl, rfl⟩
 case round =>
  obtain ⟨rfl, rfl⟩ := hrel
  go_wp2_with fail
  go_loopw [7] (fun v7 wr => v7 = .int .i64 0 ∧ w = wr) (fun _ _ => 0)
  case atStart => exact ⟨rfl, rfl⟩
  case round =>
   obtain ⟨rfl, rfl⟩ := hrel
   go_wp2_with fail
   go_loopw [10] (fun v10 wr => v10 = .int .i64 0 ∧ w = wr) (fun _ _ => 0)
   case atStart => exact ⟨rfl, rfl⟩
   case round =>
    obtain ⟨rfl, rfl⟩ := hrel
    go_wp2_with fail
    go_ret
    exact Fin HQ ⟨rfl, rfl⟩
theorem apNStrings (w : World) (b : Nat) (hc : w.cell? ⟨b, 2, none⟩ = some (.slice none 0 0)) : Calls Tryz.prog 25 #[.pointer (some ⟨b, 0, none⟩)] w (Ret fun r w' => r = .bool true ∧ w = w') := by
 refine post_gen fun Q HQ => ?_
 go_enter Tryz.func25, Tryz.ntmps25
 go_wp2_with fail
 go_loopw [4] (fun v4 wr => v4 = .int .i64 0 ∧ w = wr) (fun _ _ => 0)
 case atStart => exact ⟨rfl, rfl⟩
 case round =>
  obtain ⟨rfl, rfl⟩ := hrel
  go_wp2_with fail
  go_loopw [7] (fun v7 wr => v7 = .int .i64 0 ∧ w = wr) (fun _ _ => 0)
  case atStart => exact ⟨rfl, rfl⟩
  case round =>
   obtain ⟨rfl, rfl⟩ := hrel
   go_wp2_with fail
   go_loopw [10] (fun v10 wr => v10 = .int .i64 0 ∧ w = wr) (fun _ _ => 0)
   case atStart => exact ⟨rfl, rfl⟩
   case round =>
    obtain ⟨rfl, rfl⟩ := hrel
    go_wp2_with fail
    go_ret
    exact Fin HQ ⟨rfl, rfl⟩
theorem apNMoney (w : World) (b : Nat) (hc : w.cell? ⟨b, 5, none⟩ = some (.slice none 0 0)) : Calls Tryz.prog 28 #[.pointer (some ⟨b, 0, none⟩)] w (Ret fun r w' => r = .bool true ∧ w = w') := by
 refine post_gen fun Q HQ => ?_
 go_enter Tryz.func28, Tryz.ntmps28
 go_wp2_with fail
 go_loopw [4] (fun v4 wr => v4 = .int .i64 0 ∧ w = wr) (fun _ _ => 0)
 case atStart => exact ⟨rfl, rfl⟩
 case round =>
  obtain ⟨rfl, rfl⟩ := hrel
  go_wp2_with fail
  go_loopw [7] (fun v7 wr => v7 = .int .i64 0 ∧ w = wr) (fun _ _ => 0)
  case atStart => exact ⟨rfl, rfl⟩
  case round =>
   obtain ⟨rfl, rfl⟩ := hrel
   go_wp2_with fail
   go_loopw [10] (fun v10 wr => v10 = .int .i64 0 ∧ w = wr) (fun _ _ => 0)
   case atStart => exact ⟨rfl, rfl⟩
   case round =>
    obtain ⟨rfl, rfl⟩ := hrel
    go_wp2_with fail
    go_ret
    exact Fin HQ ⟨rfl, rfl⟩
theorem apNSteps (w : World) (b : Nat) (hc : w.cell? ⟨b, 6, none⟩ = some (.slice none 0 0)) : Calls Tryz.prog 39 #[.pointer (some ⟨b, 0, none⟩)] w (Ret fun r w' => r = .bool true ∧ w = w') := by
 refine post_gen fun Q HQ => ?_
 go_enter Tryz.func39, Tryz.ntmps39
 go_wp2_with fail
 go_loopw [4] (fun v4 wr => v4 = .int .i64 0 ∧ w = wr) (fun _ _ => 0)
 case atStart => exact ⟨rfl, rfl⟩
 case round =>
  obtain ⟨rfl, rfl⟩ := hrel
  go_wp2_with fail
  go_loopw [7] (fun v7 wr => v7 = .int .i64 0 ∧ w = wr) (fun _ _ => 0)
  case atStart => exact ⟨rfl, rfl⟩
  case round =>
   obtain ⟨rfl, rfl⟩ := hrel
   go_wp2_with fail
   go_loopw [10] (fun v10 wr => v10 = .int .i64 0 ∧ w = wr) (fun _ _ => 0)
   case atStart => exact ⟨rfl, rfl⟩
   case round =>
    obtain ⟨rfl, rfl⟩ := hrel
    go_wp2_with fail
    go_ret
    exact Fin HQ ⟨rfl, rfl⟩
theorem apNChoices (w : World) (b : Nat) (hc : w.cell? ⟨b, 7, none⟩ = some (.slice none 0 0)) : Calls Tryz.prog 29 #[.pointer (some ⟨b, 0, none⟩)] w (Ret fun r w' => r = .bool true ∧ w = w') := by
 refine post_gen fun Q HQ => ?_
 go_enter Tryz.func29, Tryz.ntmps29
 go_wp2_with fail
 go_loopw [4] (fun v4 wr => v4 = .int .i64 0 ∧ w = wr) (fun _ _ => 0)
 case atStart => exact ⟨rfl, rfl⟩
 case round =>
  obtain ⟨rfl, rfl⟩ := hrel
  go_wp2_with fail
  go_loopw [7] (fun v7 wr => v7 = .int .i64 0 ∧ w = wr) (fun _ _ => 0)
  case atStart => exact ⟨rfl, rfl⟩
  case round =>
   obtain ⟨rfl, rfl⟩ := hrel
   go_wp2_with fail
   go_loopw [10] (fun v10 wr => v10 = .int .i64 0 ∧ w = wr) (fun _ _ => 0)
   case atStart => exact ⟨rfl, rfl⟩
   case round =>
    obtain ⟨rfl, rfl⟩ := hrel
    go_wp2_with fail
    go_ret
    exact Fin HQ ⟨rfl, rfl⟩
theorem apNLits (w : World) (b : Nat) (hc : w.cell? ⟨b, 8, none⟩ = some (.slice none 0 0)) : Calls Tryz.prog 40 #[.pointer (some ⟨b, 0, none⟩)] w (Ret fun r w' => r = .bool true ∧ w = w') := by
 refine post_gen fun Q HQ => ?_
 go_enter Tryz.func40, Tryz.ntmps40
 go_wp2_with fail
 go_loopw [4] (fun v4 wr => v4 = .int .i64 0 ∧ w = wr) (fun _ _ => 0)
 case atStart => exact ⟨rfl, rfl⟩
 case round =>
  obtain ⟨rfl, rfl⟩ := hrel
  go_wp2_with fail
  go_loopw [7] (fun v7 wr => v7 = .int .i64 0 ∧ w = wr) (fun _ _ => 0)
  case atStart => exact ⟨rfl, rfl⟩
  case round =>
   obtain ⟨rfl, rfl⟩ := hrel
   go_wp2_with fail
   go_loopw [10] (fun v10 wr => v10 = .int .i64 0 ∧ w = wr) (fun _ _ => 0)
   case atStart => exact ⟨rfl, rfl⟩
   case round =>
    obtain ⟨rfl, rfl⟩ := hrel
    go_wp2_with fail
    go_ret
    exact Fin HQ ⟨rfl, rfl⟩
theorem apNRules (w : World) (b : Nat) (hc : w.cell? ⟨b, 9, none⟩ = some (.slice none 0 0)) : Calls Tryz.prog 41 #[.pointer (some ⟨b, 0, none⟩)] w (Ret fun r w' => r = .bool true ∧ w = w') := by
 refine post_gen fun Q HQ => ?_
 go_enter Tryz.func41, Tryz.ntmps41
 go_wp2_with fail
 go_loopw [4] (fun v4 wr => v4 = .int .i64 0 ∧ w = wr) (fun _ _ => 0)
 case atStart => exact ⟨rfl, rfl⟩
 case round =>
  obtain ⟨rfl, rfl⟩ := hrel
  go_wp2_with fail
  go_loopw [7] (fun v7 wr => v7 = .int .i64 0 ∧ w = wr) (fun _ _ => 0)
  case atStart => exact ⟨rfl, rfl⟩
  case round =>
   obtain ⟨rfl, rfl⟩ := hrel
   go_wp2_with fail
   go_loopw [10] (fun v10 wr => v10 = .int .i64 0 ∧ w = wr) (fun _ _ => 0)
   case atStart => exact ⟨rfl, rfl⟩
   case round =>
    obtain ⟨rfl, rfl⟩ := hrel
    go_wp2_with fail
    go_ret
    exact Fin HQ ⟨rfl, rfl⟩
theorem apNTerms (w : World) (b : Nat) (hc : w.cell? ⟨b, 10, none⟩ = some (.slice none 0 0)) : Calls Tryz.prog 36 #[.pointer (some ⟨b, 0, none⟩)] w (Ret fun r w' => r = .bool true ∧ w = w') := by
 refine post_gen fun Q HQ => ?_
 go_enter Tryz.func36, Tryz.ntmps36
 go_wp2_with fail
 go_loopw [4] (fun v4 wr => v4 = .int .i64 0 ∧ w = wr) (fun _ _ => 0)
 case atStart => exact ⟨rfl, rfl⟩
 case round =>
  obtain ⟨rfl, rfl⟩ := hrel
  go_wp2_with fail
  go_loopw [7] (fun v7 wr => v7 = .int .i64 0 ∧ w = wr) (fun _ _ => 0)
  case atStart => exact ⟨rfl, rfl⟩
  case round =>
   obtain ⟨rfl, rfl⟩ := hrel
   go_wp2_with fail
   go_loopw [10] (fun v10 wr => v10 = .int .i64 0 ∧ w = wr) (fun _ _ => 0)
   case atStart => exact ⟨rfl, rfl⟩
   case round =>
    obtain ⟨rfl, rfl⟩ := hrel
    go_wp2_with fail
    go_ret
    exact Fin HQ ⟨rfl, rfl⟩
theorem apNGuards (w : World) (b : Nat) (hc : w.cell? ⟨b, 11, none⟩ = some (.slice none 0 0)) : Calls Tryz.prog 42 #[.pointer (some ⟨b, 0, none⟩)] w (Ret fun r w' => r = .bool true ∧ w = w') := by
 refine post_gen fun Q HQ => ?_
 go_enter Tryz.func42, Tryz.ntmps42
 go_wp2_with fail
 go_loopw [4] (fun v4 wr => v4 = .int .i64 0 ∧ w = wr) (fun _ _ => 0)
 case atStart => exact ⟨rfl, rfl⟩
 case round =>
  obtain ⟨rfl, rfl⟩ := hrel
  go_wp2_with fail
  go_loopw [7] (fun v7 wr => v7 = .int .i64 0 ∧ w = wr) (fun _ _ => 0)
  case atStart => exact ⟨rfl, rfl⟩
  case round =>
   obtain ⟨rfl, rfl⟩ := hrel
   go_wp2_with fail
   go_loopw [10] (fun v10 wr => v10 = .int .i64 0 ∧ w = wr) (fun _ _ => 0)
   case atStart => exact ⟨rfl, rfl⟩
   case round =>
    obtain ⟨rfl, rfl⟩ := hrel
    go_wp2_with fail
    go_ret
    exact Fin HQ ⟨rfl, rfl⟩
theorem apNNumbers (w : World) (b : Nat) (hc : w.cell? ⟨b, 12, none⟩ = some (.slice none 0 0)) : Calls Tryz.prog 38 #[.pointer (some ⟨b, 0, none⟩)] w (Ret fun r w' => r = .bool true ∧ w = w') := by
 refine post_gen fun Q HQ => ?_
 go_enter Tryz.func38, Tryz.ntmps38
 go_wp2_with fail
 go_loopw [4] (fun v4 wr => v4 = .int .i64 0 ∧ w = wr) (fun _ _ => 0)
 case atStart => exact ⟨rfl, rfl⟩
 case round =>
  obtain ⟨rfl, rfl⟩ := hrel
  go_wp2_with fail
  go_loopw [7] (fun v7 wr => v7 = .int .i64 0 ∧ w = wr) (fun _ _ => 0)
  case atStart => exact ⟨rfl, rfl⟩
  case round =>
   obtain ⟨rfl, rfl⟩ := hrel
   go_wp2_with fail
   go_loopw [10] (fun v10 wr => v10 = .int .i64 0 ∧ w = wr) (fun _ _ => 0)
   case atStart => exact ⟨rfl, rfl⟩
   case round =>
    obtain ⟨rfl, rfl⟩ := hrel
    go_wp2_with fail
    go_ret
    exact Fin HQ ⟨rfl, rfl⟩
theorem apNTokens (w : World) (b : Nat) (hc : w.cell? ⟨b, 13, none⟩ = some (.slice none 0 0)) : Calls Tryz.prog 30 #[.pointer (some ⟨b, 0, none⟩)] w (Ret fun r w' => r = .bool true ∧ w = w') := by
 refine post_gen fun Q HQ => ?_
 go_enter Tryz.func30, Tryz.ntmps30
 go_wp2_with fail
 go_loopw [4] (fun v4 wr => v4 = .int .i64 0 ∧ w = wr) (fun _ _ => 0)
 case atStart => exact ⟨rfl, rfl⟩
 case round =>
  obtain ⟨rfl, rfl⟩ := hrel
  go_wp2_with fail
  go_loopw [7] (fun v7 wr => v7 = .int .i64 0 ∧ w = wr) (fun _ _ => 0)
  case atStart => exact ⟨rfl, rfl⟩
  case round =>
   obtain ⟨rfl, rfl⟩ := hrel
   go_wp2_with fail
   go_loopw [10] (fun v10 wr => v10 = .int .i64 0 ∧ w = wr) (fun _ _ => 0)
   case atStart => exact ⟨rfl, rfl⟩
   case round =>
    obtain ⟨rfl, rfl⟩ := hrel
    go_wp2_with fail
    go_ret
    exact Fin HQ ⟨rfl, rfl⟩
theorem apNAtoms (w : World) (b : Nat) (hc : w.cell? ⟨b, 14, none⟩ = some (.slice none 0 0)) : Calls Tryz.prog 37 #[.pointer (some ⟨b, 0, none⟩)] w (Ret fun r w' => r = .bool true ∧ w = w') := by
 refine post_gen fun Q HQ => ?_
 go_enter Tryz.func37, Tryz.ntmps37
 go_wp2_with fail
 go_loopw [4] (fun v4 wr => v4 = .int .i64 0 ∧ w = wr) (fun _ _ => 0)
 case atStart => exact ⟨rfl, rfl⟩
 case round =>
  obtain ⟨rfl, rfl⟩ := hrel
  go_wp2_with fail
  go_loopw [7] (fun v7 wr => v7 = .int .i64 0 ∧ w = wr) (fun _ _ => 0)
  case atStart => exact ⟨rfl, rfl⟩
  case round =>
   obtain ⟨rfl, rfl⟩ := hrel
   go_wp2_with fail
   go_loopw [10] (fun v10 wr => v10 = .int .i64 0 ∧ w = wr) (fun _ _ => 0)
   case atStart => exact ⟨rfl, rfl⟩
   case round =>
    obtain ⟨rfl, rfl⟩ := hrel
    go_wp2_with fail
    go_ret
    exact Fin HQ ⟨rfl, rfl⟩
theorem apNKinds (w : World) (b : Nat) (hc : w.cell? ⟨b, 15, none⟩ = some (.slice none 0 0)) : Calls Tryz.prog 31 #[.pointer (some ⟨b, 0, none⟩)] w (Ret fun r w' => r = .bool true ∧ w = w') := by
 refine post_gen fun Q HQ => ?_
 go_enter Tryz.func31, Tryz.ntmps31
 go_wp2_with fail
 go_loopw [4] (fun v4 wr => v4 = .int .i64 0 ∧ w = wr) (fun _ _ => 0)
 case atStart => exact ⟨rfl, rfl⟩
 case round =>
  obtain ⟨rfl, rfl⟩ := hrel
  go_wp2_with fail
  go_loopw [7] (fun v7 wr => v7 = .int .i64 0 ∧ w = wr) (fun _ _ => 0)
  case atStart => exact ⟨rfl, rfl⟩
  case round =>
   obtain ⟨rfl, rfl⟩ := hrel
   go_wp2_with fail
   go_loopw [10] (fun v10 wr => v10 = .int .i64 0 ∧ w = wr) (fun _ _ => 0)
   case atStart => exact ⟨rfl, rfl⟩
   case round =>
    obtain ⟨rfl, rfl⟩ := hrel
    go_wp2_with fail
    go_ret
    exact Fin HQ ⟨rfl, rfl⟩
theorem apNMembers (w : World) (b : Nat) (hc : w.cell? ⟨b, 16, none⟩ = some (.slice none 0 0)) : Calls Tryz.prog 32 #[.pointer (some ⟨b, 0, none⟩)] w (Ret fun r w' => r = .bool true ∧ w = w') := by
 refine post_gen fun Q HQ => ?_
 go_enter Tryz.func32, Tryz.ntmps32
 go_wp2_with fail
 go_loopw [4] (fun v4 wr => v4 = .int .i64 0 ∧ w = wr) (fun _ _ => 0)
 case atStart => exact ⟨rfl, rfl⟩
 case round =>
  obtain ⟨rfl, rfl⟩ := hrel
  go_wp2_with fail
  go_loopw [7] (fun v7 wr => v7 = .int .i64 0 ∧ w = wr) (fun _ _ => 0)
  case atStart => exact ⟨rfl, rfl⟩
  case round =>
   obtain ⟨rfl, rfl⟩ := hrel
   go_wp2_with fail
   go_loopw [10] (fun v10 wr => v10 = .int .i64 0 ∧ w = wr) (fun _ _ => 0)
   case atStart => exact ⟨rfl, rfl⟩
   case round =>
    obtain ⟨rfl, rfl⟩ := hrel
    go_wp2_with fail
    go_ret
    exact Fin HQ ⟨rfl, rfl⟩
theorem apNPreds (w : World) (b : Nat) (hc : w.cell? ⟨b, 17, none⟩ = some (.slice none 0 0)) : Calls Tryz.prog 44 #[.pointer (some ⟨b, 0, none⟩)] w (Ret fun r w' => r = .bool true ∧ w = w') := by
 refine post_gen fun Q HQ => ?_
 go_enter Tryz.func44, Tryz.ntmps44
 go_wp2_with fail
 go_loopw [4] (fun v4 wr => v4 = .int .i64 0 ∧ w = wr) (fun _ _ => 0)
 case atStart => exact ⟨rfl, rfl⟩
 case round =>
  obtain ⟨rfl, rfl⟩ := hrel
  go_wp2_with fail
  go_loopw [7] (fun v7 wr => v7 = .int .i64 0 ∧ w = wr) (fun _ _ => 0)
  case atStart => exact ⟨rfl, rfl⟩
  case round =>
   obtain ⟨rfl, rfl⟩ := hrel
   go_wp2_with fail
   go_loopw [10] (fun v10 wr => v10 = .int .i64 0 ∧ w = wr) (fun _ _ => 0)
   case atStart => exact ⟨rfl, rfl⟩
   case round =>
    obtain ⟨rfl, rfl⟩ := hrel
    go_wp2_with fail
    go_ret
    exact Fin HQ ⟨rfl, rfl⟩
theorem apNSources (w : World) (b : Nat) (hc : w.cell? ⟨b, 18, none⟩ = some (.slice none 0 0)) : Calls Tryz.prog 33 #[.pointer (some ⟨b, 0, none⟩)] w (Ret fun r w' => r = .bool true ∧ w = w') := by
 refine post_gen fun Q HQ => ?_
 go_enter Tryz.func33, Tryz.ntmps33
 go_wp2_with fail
 go_loopw [4] (fun v4 wr => v4 = .int .i64 0 ∧ w = wr) (fun _ _ => 0)
 case atStart => exact ⟨rfl, rfl⟩
 case round =>
  obtain ⟨rfl, rfl⟩ := hrel
  go_wp2_with fail
  go_loopw [7] (fun v7 wr => v7 = .int .i64 0 ∧ w = wr) (fun _ _ => 0)
  case atStart => exact ⟨rfl, rfl⟩
  case round =>
   obtain ⟨rfl, rfl⟩ := hrel
   go_wp2_with fail
   go_loopw [10] (fun v10 wr => v10 = .int .i64 0 ∧ w = wr) (fun _ _ => 0)
   case atStart => exact ⟨rfl, rfl⟩
   case round =>
    obtain ⟨rfl, rfl⟩ := hrel
    go_wp2_with fail
    go_ret
    exact Fin HQ ⟨rfl, rfl⟩
theorem apNRuleTexts (w : World) (b : Nat) (hc : w.cell? ⟨b, 19, none⟩ = some (.slice none 0 0)) : Calls Tryz.prog 45 #[.pointer (some ⟨b, 0, none⟩)] w (Ret fun r w' => r = .bool true ∧ w = w') := by
 refine post_gen fun Q HQ => ?_
 go_enter Tryz.func45, Tryz.ntmps45
 go_wp2_with fail
 go_loopw [4] (fun v4 wr => v4 = .int .i64 0 ∧ w = wr) (fun _ _ => 0)
 case atStart => exact ⟨rfl, rfl⟩
 case round =>
  obtain ⟨rfl, rfl⟩ := hrel
  go_wp2_with fail
  go_loopw [7] (fun v7 wr => v7 = .int .i64 0 ∧ w = wr) (fun _ _ => 0)
  case atStart => exact ⟨rfl, rfl⟩
  case round =>
   obtain ⟨rfl, rfl⟩ := hrel
   go_wp2_with fail
   go_loopw [10] (fun v10 wr => v10 = .int .i64 0 ∧ w = wr) (fun _ _ => 0)
   case atStart => exact ⟨rfl, rfl⟩
   case round =>
    obtain ⟨rfl, rfl⟩ := hrel
    go_wp2_with fail
    go_ret
    exact Fin HQ ⟨rfl, rfl⟩
theorem apNPremises (w : World) (b : Nat) (hc : w.cell? ⟨b, 20, none⟩ = some (.slice none 0 0)) : Calls Tryz.prog 43 #[.pointer (some ⟨b, 0, none⟩)] w (Ret fun r w' => r = .bool true ∧ w = w') := by
 refine post_gen fun Q HQ => ?_
 go_enter Tryz.func43, Tryz.ntmps43
 go_wp2_with fail
 go_loopw [4] (fun v4 wr => v4 = .int .i64 0 ∧ w = wr) (fun _ _ => 0)
 case atStart => exact ⟨rfl, rfl⟩
 case round =>
  obtain ⟨rfl, rfl⟩ := hrel
  go_wp2_with fail
  go_loopw [7] (fun v7 wr => v7 = .int .i64 0 ∧ w = wr) (fun _ _ => 0)
  case atStart => exact ⟨rfl, rfl⟩
  case round =>
   obtain ⟨rfl, rfl⟩ := hrel
   go_wp2_with fail
   go_loopw [10] (fun v10 wr => v10 = .int .i64 0 ∧ w = wr) (fun _ _ => 0)
   case atStart => exact ⟨rfl, rfl⟩
   case round =>
    obtain ⟨rfl, rfl⟩ := hrel
    go_wp2_with fail
    go_ret
    exact Fin HQ ⟨rfl, rfl⟩
theorem apNTermTexts (w : World) (b : Nat) (hc : w.cell? ⟨b, 21, none⟩ = some (.slice none 0 0)) : Calls Tryz.prog 35 #[.pointer (some ⟨b, 0, none⟩)] w (Ret fun r w' => r = .bool true ∧ w = w') := by
 refine post_gen fun Q HQ => ?_
 go_enter Tryz.func35, Tryz.ntmps35
 go_wp2_with fail
 go_loopw [4] (fun v4 wr => v4 = .int .i64 0 ∧ w = wr) (fun _ _ => 0)
 case atStart => exact ⟨rfl, rfl⟩
 case round =>
  obtain ⟨rfl, rfl⟩ := hrel
  go_wp2_with fail
  go_loopw [7] (fun v7 wr => v7 = .int .i64 0 ∧ w = wr) (fun _ _ => 0)
  case atStart => exact ⟨rfl, rfl⟩
  case round =>
   obtain ⟨rfl, rfl⟩ := hrel
   go_wp2_with fail
   go_loopw [10] (fun v10 wr => v10 = .int .i64 0 ∧ w = wr) (fun _ _ => 0)
   case atStart => exact ⟨rfl, rfl⟩
   case round =>
    obtain ⟨rfl, rfl⟩ := hrel
    go_wp2_with fail
    go_ret
    exact Fin HQ ⟨rfl, rfl⟩
theorem apNExcepts (w : World) (b : Nat) (hc : w.cell? ⟨b, 22, none⟩ = some (.slice none 0 0)) : Calls Tryz.prog 34 #[.pointer (some ⟨b, 0, none⟩)] w (Ret fun r w' => r = .bool true ∧ w = w') := by
 refine post_gen fun Q HQ => ?_
 go_enter Tryz.func34, Tryz.ntmps34
 go_wp2_with fail
 go_loopw [4] (fun v4 wr => v4 = .int .i64 0 ∧ w = wr) (fun _ _ => 0)
 case atStart => exact ⟨rfl, rfl⟩
 case round =>
  obtain ⟨rfl, rfl⟩ := hrel
  go_wp2_with fail
  go_loopw [7] (fun v7 wr => v7 = .int .i64 0 ∧ w = wr) (fun _ _ => 0)
  case atStart => exact ⟨rfl, rfl⟩
  case round =>
   obtain ⟨rfl, rfl⟩ := hrel
   go_wp2_with fail
   go_loopw [10] (fun v10 wr => v10 = .int .i64 0 ∧ w = wr) (fun _ _ => 0)
   case atStart => exact ⟨rfl, rfl⟩
   case round =>
    obtain ⟨rfl, rfl⟩ := hrel
    go_wp2_with fail
    go_ret
    exact Fin HQ ⟨rfl, rfl⟩
theorem apNTotals (w : World) (b : Nat) (hc : w.cell? ⟨b, 23, none⟩ = some (.slice none 0 0)) : Calls Tryz.prog 46 #[.pointer (some ⟨b, 0, none⟩)] w (Ret fun r w' => r = .bool true ∧ w = w') := by
 refine post_gen fun Q HQ => ?_
 go_enter Tryz.func46, Tryz.ntmps46
 go_wp2_with fail
 go_loopw [4] (fun v4 wr => v4 = .int .i64 0 ∧ w = wr) (fun _ _ => 0)
 case atStart => exact ⟨rfl, rfl⟩
 case round =>
  obtain ⟨rfl, rfl⟩ := hrel
  go_wp2_with fail
  go_loopw [7] (fun v7 wr => v7 = .int .i64 0 ∧ w = wr) (fun _ _ => 0)
  case atStart => exact ⟨rfl, rfl⟩
  case round =>
   obtain ⟨rfl, rfl⟩ := hrel
   go_wp2_with fail
   go_loopw [10] (fun v10 wr => v10 = .int .i64 0 ∧ w = wr) (fun _ _ => 0)
   case atStart => exact ⟨rfl, rfl⟩
   case round =>
    obtain ⟨rfl, rfl⟩ := hrel
    go_wp2_with fail
    go_ret
    exact Fin HQ ⟨rfl, rfl⟩
end Go.Proofs.Lx

namespace Go.Proofs.Lx
open Go Go.RowKit

def idxOf (p : Int → Bool) (xs : List Int) : Int := match xs.findIdx? p with | some i => i | none => -1
theorem idxOf_nonneg (p : Int → Bool) (xs : List Int) : decide (0 ≤ idxOf p xs) = xs.any p := by
 unfold idxOf
 cases h : xs.findIdx? p with
 | none =>
  rw [List.findIdx?_eq_none_iff] at h
  simp only [Int.reduceNeg, show ¬ ((0 : Int) ≤ -1) by decide, decide_false]
  symm
  rw [List.any_eq_false]
  exact fun x hx => by simp [h x hx]
 | some i =>
  rw [List.findIdx?_eq_some_iff_getElem] at h
  obtain ⟨hi, hp, _⟩ := h
  simp only [Int.natCast_nonneg, decide_true]
  symm
  rw [List.any_eq_true]
  exact ⟨xs[i], List.getElem_mem hi, hp⟩

/-- What a function value over an int does: it answers p and turns nothing that is there. -/
def FunB (P : Program) (w : World) (g : Nat) (caps : Array Value) (p : Int → Bool) (x : Int) : Prop :=
 ∀ w1, Below w.heap.size w w1 → Calls P g ((#[Value.int .i64 x] : Array Value) ++ caps) w1 (Ret fun v w2 => v = .bool (p x) ∧ Below w1.heap.size w1 w2)

theorem indexFunc (w : World) (v : Value) (xs : List Int) (g : Nat) (caps : Array Value) (p : Int → Bool)
  (hg : Enters Tryz.prog g) (hv : RdI w v xs) (hf : ∀ x ∈ xs, FunB Tryz.prog w g caps p x) :
  Calls Tryz.prog 101 #[v, .func (.func g) #[] caps] w (Ret fun v w' => v = .int .i64 (idxOf p xs) ∧ Below w.heap.size w w') := by
 obtain ⟨A, c, rfl, hc, hb, hr⟩ := hv
 have hgo : ∀ args w, (callFunc g args).run Tryz.prog w = .ok (.enter g args) w := hg
 have Hf := hid hf
 clear hf
 go_enter Tryz.func101, Tryz.ntmps101
 go_wp2
 go_loopw [8] (fun v8 wr => ∃ k : Nat, k ≤ xs.length ∧ v8 = .int .i64 k ∧ Hid (∀ i (h : i < xs.length), i < k → p xs[i] = false) ∧ Below w.heap.size w wr) (fun v8 _ => xs.length - (intOf v8).toNat)
 case atStart => exact ⟨0, Nat.zero_le _, rfl, fun i h hk => absurd hk (by omega), Below.refl _ _⟩
 case round =>
  obtain ⟨k, hk, rfl, hno, hbl⟩ := hrel
  by_cases hlt : k < xs.length
  ·obtain ⟨ad, rfl, hcell⟩ := (hr.ext (scR_mono _) hbl).at1 hlt
   have hfk := Hf.out xs[k] (List.getElem_mem hlt) wr hbl
   go_wp2_with fail
   refine hfk.mono ?_
   rintro e w2 ⟨_, rfl, rfl, hb2⟩
   clear hfk
   cases hp : p xs[k] with
   | true =>
    have Hp := hid hp
    clear hp
    go_wp2
    go_ret
    refine ⟨_, rfl, ?_, hbl.trans (hb2.mono hbl.size)⟩
    have : xs.findIdx? p = some k := by
     rw [List.findIdx?_eq_some_iff_getElem]
     exact ⟨hlt, Hp.out, fun j hj => by simp [hno.out j (by omega) hj]⟩
    simp [idxOf, this]
   | false =>
    have Hp := hid hp
    clear hp
    go_wp2
    go_roundw
    case rel =>
     refine ⟨k + 1, by omega, by go_num, ?_, hbl.trans (hb2.mono hbl.size)⟩
     intro i h hi
     by_cases e : i = k
     ·subst e; exact Hp.out
     ·exact hno.out i h (by omega)
    case measure => simp [intOf]; omega
  ·go_wp2
   go_ret
   refine ⟨_, rfl, ?_, hbl⟩
   have : xs.findIdx? p = none := by
    rw [List.findIdx?_eq_none_iff]
    intro x hx
    obtain ⟨i, hi, rfl⟩ := List.getElem_of_mem hx
    exact hno.out i hi (by omega)
   simp [idxOf, this]

theorem index_any (w : World) (v : Value) (xs : List Int) (x : Int) (hv : RdI w v xs) :
  Calls Tryz.prog 104 #[v, .int .i64 x] w (Ret fun v w' => v = .int .i64 (idxOf (fun y => x == y) xs) ∧ w' = w) := by
 obtain ⟨A, c, rfl, hc, hb, hr⟩ := hv
 go_enter Tryz.func104, Tryz.ntmps104
 go_wp2
 go_loop [8] (fun v8 => ∃ k : Nat, k ≤ xs.length ∧ v8 = .int .i64 k ∧ Hid (∀ i (h : i < xs.length), i < k → (x == xs[i]) = false)) (fun v8 => xs.length - (intOf v8).toNat)
 case atStart => exact ⟨0, Nat.zero_le _, rfl, fun i h hk => absurd hk (by omega)⟩
 case round =>
  obtain ⟨k, hk, rfl, hno⟩ := hrel
  by_cases hlt : k < xs.length
  ·obtain ⟨ad, rfl, hcell⟩ := hr.at1 hlt
   cases hp : (x == xs[k]) with
   | true =>
    go_wp2
    go_ret
    refine ⟨_, rfl, ?_, rfl⟩
    have : xs.findIdx? (fun y => x == y) = some k := by
     rw [List.findIdx?_eq_some_iff_getElem]
     exact ⟨hlt, hp, fun j hj => by simp only [hno.out j (by omega) hj]; simp⟩
    simp [idxOf, this]
   | false =>
    go_wp2
    go_round
    case rel =>
     refine ⟨k + 1, by omega, by go_num, ?_⟩
     intro i h hi
     by_cases e : i = k
     ·subst e; exact hp
     ·exact hno.out i h (by omega)
    case measure => simp [intOf]; omega
  ·go_wp2
   go_ret
   refine ⟨_, rfl, ?_, rfl⟩
   have : xs.findIdx? (fun y => x == y) = none := by
    rw [List.findIdx?_eq_none_iff]
    intro y hx
    obtain ⟨i, hi, rfl⟩ := List.getElem_of_mem hx
    exact hno.out i hi (by omega)
   simp [idxOf, this]

theorem contains_any (w : World) (v : Value) (xs : List Int) (x : Int) (hv : RdI w v xs) :
  Calls Tryz.prog 98 #[v, .int .i64 x] w (Ret fun v w' => v = .bool (memB xs x) ∧ w' = w) := by
 go_enter Tryz.func98, Tryz.ntmps98
 go_wp2_with fail
 refine (index_any w v xs x hv).mono ?_
 rintro e w2 ⟨_, rfl, rfl, rfl⟩
 have hi := idxOf_nonneg (fun y => x == y) xs
 generalize idxOf (fun y => x == y) xs = r at *
 have Hi := hid hi
 clear hi
 go_wp2
 go_ret
 exact ⟨_, rfl, by rw [memB, List.contains_eq_any_beq, ← Hi.out]; rfl, rfl⟩

theorem cmpIsNaN_any (x : Int) (w : World) : Calls Tryz.prog 108 #[.int .i64 x] w (Ret fun v w' => v = .bool false ∧ w' = w) := by
 go_enter Tryz.func108, Tryz.ntmps108
 go_wp2
 go_ret
 exact ⟨_, rfl, by simp, rfl⟩
theorem isNaN_any (x : Int) (w : World) : Calls Tryz.prog 107 #[.int .i64 x] w (Ret fun v w' => v = .bool false ∧ w' = w) := by
 go_enter Tryz.func107, Tryz.ntmps107
 go_wp2
 go_ret
 exact ⟨_, rfl, by simp, rfl⟩
theorem less_any (x y : Int) (w : World) : Calls Tryz.prog 106 #[.int .i64 x, .int .i64 y] w (Ret fun v w' => v = .bool (decide (x < y)) ∧ w' = w) := by
 go_enter Tryz.func106, Tryz.ntmps106
 go_wp2_with (go_at_call 108; refine (cmpIsNaN_any _ _).mono ?_; rintro e w' ⟨_, rfl, rfl, rfl⟩)
 go_ret
 exact ⟨_, rfl, by simp, rfl⟩
end Go.Proofs.Lx

namespace Go.Proofs.Lx
open Go Go.RowKit

/-- Rising, from 0 on, below n. -/
def risingB (n : Int) : List Int → Bool
  | [] => true
  | x :: l => decide (0 ≤ x) && decide (x < n) && (match l with | [] => true | y :: _ => decide (x < y)) && risingB n l
def risOk (l : List Int) (n : Int) (i : Nat) : Bool := decide (0 ≤ l.getD i 0) && decide (l.getD i 0 < n) && (decide (i = 0) || decide (l.getD (i - 1) 0 < l.getD i 0))
def risB (l : List Int) (n : Int) : Bool := (List.range l.length).all (risOk l n)
theorem risB_true {l : List Int} {n : Int} : risB l n = true ↔ ∀ i, i < l.length → risOk l n i = true := by simp [risB]
theorem risB_false {l : List Int} {n : Int} {i : Nat} (h : i < l.length) (hf : risOk l n i = false) : risB l n = false := by
  rw [Bool.eq_false_iff]; intro ht
  rw [risB_true.1 ht i h] at hf; cases hf

set_option maxHeartbeats 400000 in
theorem rising_any (w : World) (v : Value) (l : List Int) (n : Int) (hv : RdI w v l) :
   Calls Tryz.prog 86 #[v, .int .i64 n] w (Ret fun v w' => v = .bool (risB l n) ∧ w' = w) := by
  obtain ⟨A, c, rfl, hc, hb, hr⟩ := hv
  go_enter Tryz.func86, Tryz.ntmps86
  go_wp2
  go_loop [9] (fun v9 => ∃ k : Nat, k ≤ l.length ∧ v9 = .int .i64 k ∧ Hid (∀ i, i < k → risOk l n i = true)) (fun v9 => l.length - (intOf v9).toNat)
  case atStart => exact ⟨0, Nat.zero_le _, rfl, fun i hk => absurd hk (by omega)⟩
  case round =>
    obtain ⟨k, hk, rfl, hno⟩ := hrel
    by_cases hlt : k < l.length
    · obtain ⟨ad, rfl, hcell⟩ := hr.at1 hlt
      have hg : l[k] = l.getD k 0 := by simp [hlt]
      by_cases h0 : 0 < k
      · obtain ⟨ad', e', hcell'⟩ := hr.at1 (k := k - 1) (by omega)
        cases e'
        have hk1 : ((k : Int) - 1).toNat = k - 1 := by omega
        have hg' : l[k - 1] = l.getD (k - 1) 0 := by simp [show k - 1 < l.length by omega]
        have Hok : Hid (risOk l n k = (decide (0 ≤ l[k]) && decide (l[k] < n) && decide (l[k - 1] < l[k]))) := by rw [hg, hg']; simp [Hid, risOk, show k ≠ 0 by omega]
        clear hg hg'
        generalize l[k] = x at *
        generalize l[k - 1] = y at *
        go_wp2
        all_goals first
          | (go_ret; exact ⟨_, rfl, by rw [risB_false hlt (by rw [Hok.out]; simp; omega)]; rfl, rfl⟩)
          | (go_round
             case rel =>
               refine ⟨k + 1, by omega, by go_num, fun i hi => ?_⟩
               by_cases e : i = k
               · subst e; rw [Hok.out]; simp; omega
               · exact hno.out i (by omega)
             case measure => simp [intOf]; omega)
      · have Hok : Hid (risOk l n k = (decide (0 ≤ l[k]) && decide (l[k] < n))) := by rw [hg]; simp [Hid, risOk, show k = 0 by omega]
        clear hg
        generalize l[k] = x at *
        go_wp2
        all_goals first
          | (go_ret; exact ⟨_, rfl, by rw [risB_false hlt (by rw [Hok.out]; simp; omega)]; rfl, rfl⟩)
          | (go_round
             case rel =>
               refine ⟨k + 1, by omega, by go_num, fun i hi => ?_⟩
               by_cases e : i = k
               · subst e; rw [Hok.out]; simp; omega
               · exact hno.out i (by omega)
             case measure => simp [intOf]; omega)
    · go_wp2
      go_ret
      exact ⟨_, rfl, by rw [risB_true.2 (fun i hi => hno.out i (by omega))]; rfl, rfl⟩

theorem pw_lt {l : List Int} (hs : l.Pairwise (· < ·)) {i j : Nat} (hi : i < j) (hj : j < l.length) : l[i] < l[j] := List.pairwise_iff_getElem.1 hs i j (by omega) hj hi
theorem countP_at {l : List Int} {x : Int} {i : Nat} (hi : i ≤ l.length) (h1 : ∀ t (h : t < l.length), t < i → l[t] < x) (h2 : ∀ t (h : t < l.length), i ≤ t → x ≤ l[t]) : l.countP (· < x) = i := by
  rw [← List.take_append_drop i l, List.countP_append]
  have e1 : (l.take i).countP (· < x) = i := by
    rw [List.countP_eq_length.2]
    · simp; omega
    · intro y hy
      obtain ⟨t, ht, rfl⟩ := List.getElem_of_mem hy
      simp at ht ⊢
      exact h1 t (by omega) (by omega)
  have e2 : (l.drop i).countP (· < x) = 0 := by
    rw [List.countP_eq_zero]
    intro y hy
    obtain ⟨t, ht, rfl⟩ := List.getElem_of_mem hy
    simp at ht ⊢
    exact h2 (i + t) (by omega) (by omega)
  omega

set_option maxHeartbeats 400000 in
theorem binarySearch_any (w : World) (v : Value) (l : List Int) (x : Int) (hv : RdI w v l) (hs : l.Pairwise (· < ·)) :
   Calls Tryz.prog 103 #[v, .int .i64 x] w (Ret fun v w' => v = .tuple #[.int .i64 (ltCount l x : Nat), .bool (memB l x)] ∧ w' = w) := by
  obtain ⟨A, c, rfl, hc, hb, hr⟩ := hv
  have Hs := hid hs
  clear hs
  refine post_gen fun Q HQ => ?_
  go_enter Tryz.func103, Tryz.ntmps103
  go_wp2
  go_loop [7, 8] (fun v7 v8 => ∃ i j : Nat, i ≤ j ∧ j ≤ l.length ∧ v7 = .int .i64 i ∧ v8 = .int .i64 j ∧ Hid ((∀ t (h : t < l.length), t < i → l[t] < x) ∧ (∀ t (h : t < l.length), j ≤ t → x ≤ l[t]))) (fun v7 v8 => (intOf v8).toNat - (intOf v7).toNat)
  case atStart => exact ⟨0, l.length, by omega, by omega, rfl, rfl, fun t h ht => absurd ht (by omega), fun t h ht => absurd ht (by omega)⟩
  case round =>
    obtain ⟨i, j, hij, hj, rfl, rfl, hinv⟩ := hrel
    by_cases hlt : i < j
    · have hh : (i + j) / 2 < l.length := by omega
      obtain ⟨ad, rfl, hcell⟩ := hr.at1 hh
      go_wp2_with fail
      refine (less_any _ _ _).mono ?_
      rintro e w' ⟨_, rfl, rfl, rfl⟩
      cases hcmp : decide (l[(i + j) / 2] < x) with
      | true =>
        have Hc := hid (of_decide_eq_true hcmp)
        clear hcmp
        generalize hm : (i + j) / 2 = m at *
        have hm1 : i ≤ m ∧ m < j := by omega
        have Hm := hid hm
        clear hm
        go_wp2
        go_round
        case rel =>
          refine ⟨m + 1, j, by omega, by omega, ?_, rfl, ?_, hinv.out.2⟩
          · have : ((i : Int) + j) / 2 = m := by have := Hm.out; omega
            rw [this]; rfl
          · intro t h ht
            by_cases e : t = m
            · subst e; exact Hc.out
            · have h1 : l[t] < l[m] := pw_lt Hs.out (by omega) hh
              have h2 := Hc.out
              omega
        case measure =>
          have := Hm.out
          simp [intOf]; omega
      | false =>
        have Hc := hid (of_decide_eq_false hcmp)
        clear hcmp
        generalize hm : (i + j) / 2 = m at *
        have hm1 : i ≤ m ∧ m < j := by omega
        have Hm := hid hm
        clear hm
        go_wp2
        go_round
        case rel =>
          refine ⟨i, m, by omega, by omega, rfl, ?_, hinv.out.1, ?_⟩
          · have : ((i : Int) + j) / 2 = m := by have := Hm.out; omega
            rw [this]
          · intro t h ht
            have h2 := Hc.out
            by_cases e : t = m
            · subst e; omega
            · have h1 : l[m] < l[t] := pw_lt Hs.out (by omega) h
              omega
        case measure =>
          have := Hm.out
          simp [intOf]; omega
    · obtain rfl : i = j := by omega
      have Hcnt : Hid (ltCount l x = i) := countP_at hj hinv.out.1 hinv.out.2
      by_cases hil : i < l.length
      · obtain ⟨ad, rfl, hcell⟩ := hr.at1 hil
        cases hx : (l[i] == x) with
        | true =>
          have Hin : Hid (memB l x = true) := by
            simp only [Hid, memB_true]
            rw [← eq_of_beq hx]; exact List.getElem_mem hil
          go_wp2_with (go_at_call 107; refine (isNaN_any _ _).mono ?_; rintro e w' ⟨_, rfl, rfl, rfl⟩)
          go_ret2
          exact Fin HQ ⟨by rw [Hcnt.out, Hin.out]; rfl, rfl⟩
        | false =>
          have Hin : Hid (memB l x = false) := by
            rw [Hid, memB_false]
            intro hm
            obtain ⟨t, ht, e⟩ := List.getElem_of_mem hm
            have h1 := hinv.out.1 t ht
            have h2 : l[i] ≠ x := by simpa using hx
            have h3 := hinv.out.2 i hil (Nat.le_refl _)
            by_cases e1 : t < i
            · have := h1 e1; omega
            · by_cases e2 : t = i
              · subst e2; exact h2 e
              · have := pw_lt Hs.out (show i < t by omega) ht
                omega
          go_wp2_with (go_at_call 107; refine (isNaN_any _ _).mono ?_; rintro e w' ⟨_, rfl, rfl, rfl⟩)
          go_ret2
          exact Fin HQ ⟨by rw [Hcnt.out, Hin.out]; rfl, rfl⟩
      · have Hin : Hid (memB l x = false) := by
          rw [Hid, memB_false]
          intro hm
          obtain ⟨t, ht, e⟩ := List.getElem_of_mem hm
          have := hinv.out.1 t ht (by omega)
          omega
        go_wp2
        go_ret2
        exact Fin HQ ⟨by rw [Hcnt.out, Hin.out]; rfl, rfl⟩

theorem has_any (w : World) (v : Value) (l : List Int) (x : Int) (hv : RdI w v l) (hs : l.Pairwise (· < ·)) :
   Calls Tryz.prog 97 #[v, .int .i64 x] w (Ret fun v w' => v = .bool (memB l x) ∧ w' = w) := by
  refine post_gen fun Q HQ => ?_
  go_enter Tryz.func97, Tryz.ntmps97
  go_wp2_with (go_at_call 103; refine (binarySearch_any _ _ _ _ hv hs).mono ?_; rintro e w' ⟨_, rfl, rfl, rfl⟩)
  go_ret
  exact Fin HQ ⟨rfl, rfl⟩
end Go.Proofs.Lx
