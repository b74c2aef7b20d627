/- Parts of the proof: Nb. naive's conditions: the closures and plusDelta, minusDelta, plusPartial, minusPartial. -/
import Derived.Test.YtalhpldbhogadaaB7
namespace Go.Proofs.Lx
open Go Go.RowKit
set_option linter.unusedSimpArgs false
set_option linter.unusedVariables false

def pdR (T : Th) (M : List Nat) (r : Int) : Bool := strictB T r && wholeB T M 0 r
def mdR (T : Th) (M : List Nat) (r : Int) : Bool := strictB T r && !someB T M 1 r
def ppR (T : Th) (M : List Nat) (r : Int) : Bool := supB T r && wholeB T M 2 r
def mpR (T : Th) (M : List Nat) (r : Int) : Bool := supB T r && !someB T M 3 r
def ppB (T : Th) (M : List Nat) (s r : Int) : Bool := supB T r && (beatsB T r s && wholeB T M 2 r)
def mpB (T : Th) (M : List Nat) (s r : Int) : Bool := supB T r && (beatsB T r s && !someB T M 3 r)
def ppS (T : Th) (RL : List (List Int)) (M : List Nat) (q s : Int) : Bool := !someB T M 3 s && !(row RL q).any (ppB T M s)
def mpS (T : Th) (RL : List (List Int)) (M : List Nat) (q s : Int) : Bool := wholeB T M 2 s && !(row RL q).any (mpB T M s)
def plusDB (T : Th) (F : List Bool) (RL : List (List Int)) (M : List Nat) (q : Int) : Bool := F.getD q.toNat false || (row RL q).any (pdR T M)
def minusDB (T : Th) (F : List Bool) (RL : List (List Int)) (M : List Nat) (q : Int) : Bool := !F.getD q.toNat false && !(row RL q).any (mdR T M)
def plusPB (T : Th) (RL : List (List Int)) (M : List Nat) (q : Int) : Bool :=
  hasM M 0 q || ((row RL q).any (ppR T M) && (!(row T.foes q).any (fun f => !hasM M 1 f) && !(row T.foes q).any fun f => (row RL f).any (ppS T RL M q)))
def minusPB (T : Th) (RL : List (List Int)) (M : List Nat) (q : Int) : Bool :=
  hasM M 1 q && (!(row RL q).any (mpR T M) || ((row T.foes q).any (fun f => hasM M 0 f) || (row T.foes q).any fun f => (row RL f).any (mpS T RL M q)))


theorem pd1_any (w : World) (b bw : Nat) (T : Th) (F : List Bool) (RL : List (List Int)) (M : List Nat) (h : NW w b T F RL M) (hv : NVal T F RL M) (r : Int) (h0 : 0 ≤ r) (hr0 : r < T.rules.length)
    (hw : w.cell? ⟨bw, 0, none⟩ = some (.pointer (some ⟨b, 0, none⟩))) :
    Calls Try.prog 114 #[.int .i64 r, .pointer (some ⟨bw, 0, none⟩)] w (Ret fun v w' => v = .bool (pdR T M r) ∧ Below w.heap.size w w') := by
  have H1 := hid (strict_any w b T F RL M h r h0 hr0)
  have H2 := hid (whole_any w b T F RL M h hv r h0 hr0 1 0 (by decide) (by decide))
  have Hs : Hid (pdR T M r = (strictB T r && wholeB T M 0 r)) := rfl
  clear h hv
  refine post_gen fun Q HQ => ?_
  cases hs : strictB T r with
  | false =>
    have HS := hid hs
    go_enter Try.func114, Try.ntmps114
    go_wp2_with (go_at_call 115; refine H1.out.mono ?_; rintro e w' ⟨_, rfl, rfl, rfl⟩)
    go_ret
    exact Fin HQ ⟨by rw [Hs.out, HS.out]; rfl, ext_refl _⟩
  | true =>
    have HS := hid hs
    go_enter Try.func114, Try.ntmps114
    go_wp2_with (first | (go_at_call 115; refine H1.out.mono ?_; rintro e w' ⟨_, rfl, rfl, rfl⟩) | (go_at_call 116; refine H2.out.mono ?_; rintro e w2 ⟨_, rfl, rfl, hb2⟩))
    go_ret
    exact Fin HQ ⟨by rw [Hs.out, HS.out]; rfl, by assumption⟩
theorem enters_pd1 : Enters Try.prog 114 := enters_of Try.func114 (by kernel_rfl) (by kernel_rfl)

theorem md1_any (w : World) (b bw : Nat) (T : Th) (F : List Bool) (RL : List (List Int)) (M : List Nat) (h : NW w b T F RL M) (hv : NVal T F RL M) (r : Int) (h0 : 0 ≤ r) (hr0 : r < T.rules.length)
    (hw : w.cell? ⟨bw, 0, none⟩ = some (.pointer (some ⟨b, 0, none⟩))) :
    Calls Try.prog 117 #[.int .i64 r, .pointer (some ⟨bw, 0, none⟩)] w (Ret fun v w' => v = .bool (mdR T M r) ∧ Below w.heap.size w w') := by
  have H1 := hid (strict_any w b T F RL M h r h0 hr0)
  have H2 := hid (some_any w b T F RL M h hv r h0 hr0 2 1 (by decide) (by decide))
  have Hs : Hid (mdR T M r = (strictB T r && !someB T M 1 r)) := rfl
  clear h hv
  refine post_gen fun Q HQ => ?_
  cases hs : strictB T r with
  | false =>
    have HS := hid hs
    go_enter Try.func117, Try.ntmps117
    go_wp2_with (go_at_call 115; refine H1.out.mono ?_; rintro e w' ⟨_, rfl, rfl, rfl⟩)
    go_ret
    exact Fin HQ ⟨by rw [Hs.out, HS.out]; rfl, ext_refl _⟩
  | true =>
    have HS := hid hs
    go_enter Try.func117, Try.ntmps117
    go_wp2_with (first | (go_at_call 115; refine H1.out.mono ?_; rintro e w' ⟨_, rfl, rfl, rfl⟩) | (go_at_call 118; refine H2.out.mono ?_; rintro e w2 ⟨_, rfl, rfl, hb2⟩))
    go_ret
    exact Fin HQ ⟨by rw [Hs.out, HS.out]; rfl, by assumption⟩
theorem enters_md1 : Enters Try.prog 117 := enters_of Try.func117 (by kernel_rfl) (by kernel_rfl)

theorem pp1_any (w : World) (b bw : Nat) (T : Th) (F : List Bool) (RL : List (List Int)) (M : List Nat) (h : NW w b T F RL M) (hv : NVal T F RL M) (r : Int) (h0 : 0 ≤ r) (hr0 : r < T.rules.length)
    (hw : w.cell? ⟨bw, 0, none⟩ = some (.pointer (some ⟨b, 0, none⟩))) :
    Calls Try.prog 120 #[.int .i64 r, .pointer (some ⟨bw, 0, none⟩)] w (Ret fun v w' => v = .bool (ppR T M r) ∧ Below w.heap.size w w') := by
  have H1 := hid (supports_any w b T F RL M h r h0 hr0)
  have H2 := hid (whole_any w b T F RL M h hv r h0 hr0 3 2 (by decide) (by decide))
  have Hs : Hid (ppR T M r = (supB T r && wholeB T M 2 r)) := rfl
  clear h hv
  refine post_gen fun Q HQ => ?_
  cases hs : supB T r with
  | false =>
    have HS := hid hs
    go_enter Try.func120, Try.ntmps120
    go_wp2_with (go_at_call 121; refine H1.out.mono ?_; rintro e w' ⟨_, rfl, rfl, rfl⟩)
    go_ret
    exact Fin HQ ⟨by rw [Hs.out, HS.out]; rfl, ext_refl _⟩
  | true =>
    have HS := hid hs
    go_enter Try.func120, Try.ntmps120
    go_wp2_with (first | (go_at_call 121; refine H1.out.mono ?_; rintro e w' ⟨_, rfl, rfl, rfl⟩) | (go_at_call 116; refine H2.out.mono ?_; rintro e w2 ⟨_, rfl, rfl, hb2⟩))
    go_ret
    exact Fin HQ ⟨by rw [Hs.out, HS.out]; rfl, by assumption⟩
theorem enters_pp1 : Enters Try.prog 120 := enters_of Try.func120 (by kernel_rfl) (by kernel_rfl)

theorem mp1_any (w : World) (b bw : Nat) (T : Th) (F : List Bool) (RL : List (List Int)) (M : List Nat) (h : NW w b T F RL M) (hv : NVal T F RL M) (r : Int) (h0 : 0 ≤ r) (hr0 : r < T.rules.length)
    (hw : w.cell? ⟨bw, 0, none⟩ = some (.pointer (some ⟨b, 0, none⟩))) :
    Calls Try.prog 128 #[.int .i64 r, .pointer (some ⟨bw, 0, none⟩)] w (Ret fun v w' => v = .bool (mpR T M r) ∧ Below w.heap.size w w') := by
  have H1 := hid (supports_any w b T F RL M h r h0 hr0)
  have H2 := hid (some_any w b T F RL M h hv r h0 hr0 4 3 (by decide) (by decide))
  have Hs : Hid (mpR T M r = (supB T r && !someB T M 3 r)) := rfl
  clear h hv
  refine post_gen fun Q HQ => ?_
  cases hs : supB T r with
  | false =>
    have HS := hid hs
    go_enter Try.func128, Try.ntmps128
    go_wp2_with (go_at_call 121; refine H1.out.mono ?_; rintro e w' ⟨_, rfl, rfl, rfl⟩)
    go_ret
    exact Fin HQ ⟨by rw [Hs.out, HS.out]; rfl, ext_refl _⟩
  | true =>
    have HS := hid hs
    go_enter Try.func128, Try.ntmps128
    go_wp2_with (first | (go_at_call 121; refine H1.out.mono ?_; rintro e w' ⟨_, rfl, rfl, rfl⟩) | (go_at_call 118; refine H2.out.mono ?_; rintro e w2 ⟨_, rfl, rfl, hb2⟩))
    go_ret
    exact Fin HQ ⟨by rw [Hs.out, HS.out]; rfl, by assumption⟩
theorem enters_mp1 : Enters Try.prog 128 := enters_of Try.func128 (by kernel_rfl) (by kernel_rfl)

theorem pp2_any (w : World) (b bw : Nat) (T : Th) (F : List Bool) (RL : List (List Int)) (M : List Nat) (h : NW w b T F RL M) (hv : NVal T F RL M) (f : Int) (h0 : 0 ≤ f) (hq : f < T.foes.length)
    (hw : w.cell? ⟨bw, 0, none⟩ = some (.pointer (some ⟨b, 0, none⟩))) :
    Calls Try.prog 123 #[.int .i64 f, .pointer (some ⟨bw, 0, none⟩)] w (Ret fun v w' => v = .bool (!hasM M 1 f) ∧ Below w.heap.size w w') := by
  have H1 := hid (whas_any w b T F RL M h hv f h0 hq 2 1 (by decide) (by decide))
  clear h hv
  refine post_gen fun Q HQ => ?_
  go_enter Try.func123, Try.ntmps123
  go_wp2_with fail
  refine H1.out.mono ?_
  rintro e w2 ⟨_, rfl, rfl, hb2⟩
  go_wp2
  go_ret
  exact Fin HQ ⟨rfl, hb2⟩
theorem enters_pp2 : Enters Try.prog 123 := enters_of Try.func123 (by kernel_rfl) (by kernel_rfl)

theorem mp2_any (w : World) (b bw : Nat) (T : Th) (F : List Bool) (RL : List (List Int)) (M : List Nat) (h : NW w b T F RL M) (hv : NVal T F RL M) (f : Int) (h0 : 0 ≤ f) (hq : f < T.foes.length)
    (hw : w.cell? ⟨bw, 0, none⟩ = some (.pointer (some ⟨b, 0, none⟩))) :
    Calls Try.prog 129 #[.int .i64 f, .pointer (some ⟨bw, 0, none⟩)] w (Ret fun v w' => v = .bool (hasM M 0 f) ∧ Below w.heap.size w w') := by
  have H1 := hid (whas_any w b T F RL M h hv f h0 hq 1 0 (by decide) (by decide))
  clear h hv
  refine post_gen fun Q HQ => ?_
  go_enter Try.func129, Try.ntmps129
  go_wp2_with fail
  refine H1.out.mono ?_
  rintro e w2 ⟨_, rfl, rfl, hb2⟩
  go_wp2
  go_ret
  exact Fin HQ ⟨rfl, hb2⟩
theorem enters_mp2 : Enters Try.prog 129 := enters_of Try.func129 (by kernel_rfl) (by kernel_rfl)

theorem pp31_any (w : World) (b bw : Nat) (T : Th) (F : List Bool) (RL : List (List Int)) (M : List Nat) (h : NW w b T F RL M) (hv : NVal T F RL M) (bs : Nat) (r s : Int) (h0 : 0 ≤ r) (hr0 : r < T.rules.length)
    (hw : w.cell? ⟨bw, 0, none⟩ = some (.pointer (some ⟨b, 0, none⟩))) (hsc : w.cell? ⟨bs, 0, none⟩ = some (.int .i64 s)) :
    Calls Try.prog 126 #[.int .i64 r, .pointer (some ⟨bw, 0, none⟩), .pointer (some ⟨bs, 0, none⟩)] w (Ret fun v w' => v = .bool (ppB T M s r) ∧ Below w.heap.size w w') := by
  have H1 := hid (supports_any w b T F RL M h r h0 hr0)
  have H3 := hid (wbeats_any w b T F RL M h r s h0 (by have := hv.bl; omega))
  have H2 := hid (whole_any w b T F RL M h hv r h0 hr0 3 2 (by decide) (by decide))
  have Hs : Hid (ppB T M s r = (supB T r && (beatsB T r s && wholeB T M 2 r))) := rfl
  clear h hv
  refine post_gen fun Q HQ => ?_
  cases hs : supB T r with
  | false =>
    have HS := hid hs
    go_enter Try.func126, Try.ntmps126
    go_wp2_with (go_at_call 121; refine H1.out.mono ?_; rintro e w' ⟨_, rfl, rfl, rfl⟩)
    go_ret
    exact Fin HQ ⟨by rw [Hs.out, HS.out]; rfl, ext_refl _⟩
  | true =>
    have HS := hid hs
    cases hb : beatsB T r s with
    | false =>
      have HB := hid hb
      go_enter Try.func126, Try.ntmps126
      go_wp2_with (first | (go_at_call 121; refine H1.out.mono ?_; rintro e w' ⟨_, rfl, rfl, rfl⟩) | (go_at_call 127; refine H3.out.mono ?_; rintro e w' ⟨_, rfl, rfl, rfl⟩))
      go_ret
      exact Fin HQ ⟨by rw [Hs.out, HS.out, HB.out]; rfl, ext_refl _⟩
    | true =>
      have HB := hid hb
      go_enter Try.func126, Try.ntmps126
      go_wp2_with (first | (go_at_call 121; refine H1.out.mono ?_; rintro e w' ⟨_, rfl, rfl, rfl⟩) | (go_at_call 127; refine H3.out.mono ?_; rintro e w' ⟨_, rfl, rfl, rfl⟩) | (go_at_call 116; refine H2.out.mono ?_; rintro e w2 ⟨_, rfl, rfl, hb2⟩))
      go_ret
      exact Fin HQ ⟨by rw [Hs.out, HS.out, HB.out]; rfl, by assumption⟩
theorem enters_pp31 : Enters Try.prog 126 := enters_of Try.func126 (by kernel_rfl) (by kernel_rfl)

theorem mp31_any (w : World) (b bw : Nat) (T : Th) (F : List Bool) (RL : List (List Int)) (M : List Nat) (h : NW w b T F RL M) (hv : NVal T F RL M) (bs : Nat) (r s : Int) (h0 : 0 ≤ r) (hr0 : r < T.rules.length)
    (hw : w.cell? ⟨bw, 0, none⟩ = some (.pointer (some ⟨b, 0, none⟩))) (hsc : w.cell? ⟨bs, 0, none⟩ = some (.int .i64 s)) :
    Calls Try.prog 131 #[.int .i64 r, .pointer (some ⟨bw, 0, none⟩), .pointer (some ⟨bs, 0, none⟩)] w (Ret fun v w' => v = .bool (mpB T M s r) ∧ Below w.heap.size w w') := by
  have H1 := hid (supports_any w b T F RL M h r h0 hr0)
  have H3 := hid (wbeats_any w b T F RL M h r s h0 (by have := hv.bl; omega))
  have H2 := hid (some_any w b T F RL M h hv r h0 hr0 4 3 (by decide) (by decide))
  have Hs : Hid (mpB T M s r = (supB T r && (beatsB T r s && !someB T M 3 r))) := rfl
  clear h hv
  refine post_gen fun Q HQ => ?_
  cases hs : supB T r with
  | false =>
    have HS := hid hs
    go_enter Try.func131, Try.ntmps131
    go_wp2_with (go_at_call 121; refine H1.out.mono ?_; rintro e w' ⟨_, rfl, rfl, rfl⟩)
    go_ret
    exact Fin HQ ⟨by rw [Hs.out, HS.out]; rfl, ext_refl _⟩
  | true =>
    have HS := hid hs
    cases hb : beatsB T r s with
    | false =>
      have HB := hid hb
      go_enter Try.func131, Try.ntmps131
      go_wp2_with (first | (go_at_call 121; refine H1.out.mono ?_; rintro e w' ⟨_, rfl, rfl, rfl⟩) | (go_at_call 127; refine H3.out.mono ?_; rintro e w' ⟨_, rfl, rfl, rfl⟩))
      go_ret
      exact Fin HQ ⟨by rw [Hs.out, HS.out, HB.out]; rfl, ext_refl _⟩
    | true =>
      have HB := hid hb
      go_enter Try.func131, Try.ntmps131
      go_wp2_with (first | (go_at_call 121; refine H1.out.mono ?_; rintro e w' ⟨_, rfl, rfl, rfl⟩) | (go_at_call 127; refine H3.out.mono ?_; rintro e w' ⟨_, rfl, rfl, rfl⟩) | (go_at_call 118; refine H2.out.mono ?_; rintro e w2 ⟨_, rfl, rfl, hb2⟩))
      go_ret
      exact Fin HQ ⟨by rw [Hs.out, HS.out, HB.out]; rfl, by assumption⟩
theorem enters_mp31 : Enters Try.prog 131 := enters_of Try.func131 (by kernel_rfl) (by kernel_rfl)

theorem pp3_any (w : World) (b bw : Nat) (T : Th) (F : List Bool) (RL : List (List Int)) (M : List Nat) (h : NW w b T F RL M) (hv : NVal T F RL M) (bq : Nat) (s q : Int) (h0 : 0 ≤ s) (hr0 : s < T.rules.length) (hq0 : 0 ≤ q) (hq : q < T.foes.length)
    (hw : w.cell? ⟨bw, 0, none⟩ = some (.pointer (some ⟨b, 0, none⟩))) (hqc : w.cell? ⟨bq, 0, none⟩ = some (.int .i64 q)) :
    Calls Try.prog 125 #[.int .i64 s, .pointer (some ⟨bw, 0, none⟩), .pointer (some ⟨bq, 0, none⟩)] w (Ret fun v w' => v = .bool (ppS T RL M q s) ∧ Below w.heap.size w w') := by
  have hbel := ext_alloc w (.cells #[.int .i64 s] 3)
  obtain ⟨W1, HW1⟩ : ∃ W1, Hid (W1 = w.alloc (.cells #[.int .i64 s] 3)) := ⟨_, hid rfl⟩
  have hsc : W1.cell? ⟨w.heap.size, 0, none⟩ = some (.int .i64 s) := by rw [HW1.out, World.cell?_alloc_at _ _ _ _ rfl]; rfl
  rw [← HW1.out] at hbel
  have h1 := h.ext hbel
  have hw1 := cell_ext hbel hw
  have hq1 := cell_ext hbel hqc
  have hrow : ∀ x ∈ row RL q, 0 ≤ x ∧ x < T.rules.length := by
    rw [row_at hq0 (by have := hv.nR; omega)]
    exact hv.rl q.toNat (by have := hv.nR; omega)
  have Hc := hid (some_any W1 b T F RL M h1 hv s h0 hr0 4 3 (by decide) (by decide))
  have Ha := hid (fun (w2 : World) (hb2 : Below W1.heap.size W1 w2) => anyRule_any w2 b T F RL M (h1.ext hb2) hv q hq0 hq _ #[.pointer (some ⟨bw, 0, none⟩), .pointer (some ⟨w.heap.size, 0, none⟩)] (ppB T M s) enters_pp31 (fun x hx w3 ho => pp31_any w3 b bw T F RL M (h1.ext (ext_trans hb2 ho)) hv w.heap.size x s (hrow x hx).1 (hrow x hx).2 (cell_ext (ext_trans hb2 ho) hw1) (cell_ext (ext_trans hb2 ho) hsc)))
  have Hs : Hid (ppS T RL M q s = (!someB T M 3 s && !(row RL q).any (ppB T M s))) := rfl
  have hbw := World.block_lt_of_cell? _ _ hw
  have hbq := World.block_lt_of_cell? _ _ hqc
  dsimp only at hbw hbq
  clear h hv h1 hrow
  refine post_gen fun Q HQ => ?_
  cases hs : someB T M 3 s with
  | true =>
    have HS := hid hs
    go_enter Try.func125, Try.ntmps125
    go_wp2_with fail
    rw [← HW1.out]
    refine Hc.out.mono ?_
    rintro e w2 ⟨_, rfl, rfl, hb2⟩
    go_wp2_with fail
    go_ret
    exact Fin HQ ⟨by rw [Hs.out, HS.out]; rfl, ext_trans hbel hb2⟩
  | false =>
    have HS := hid hs
    go_enter Try.func125, Try.ntmps125
    go_wp2_with fail
    rw [← HW1.out]
    refine Hc.out.mono ?_
    rintro e w2 ⟨_, rfl, rfl, hb2⟩
    have hw2 := cell_ext hb2 hw1
    have hq2 := cell_ext hb2 hq1
    go_wp2_with fail
    refine (Ha.out w2 hb2).mono ?_
    rintro e w3 ⟨_, rfl, rfl, hb3⟩
    go_wp2_with fail
    go_ret
    exact Fin HQ ⟨by rw [Hs.out, HS.out]; rfl, ext_trans hbel (ext_trans hb2 hb3)⟩
theorem enters_pp3 : Enters Try.prog 125 := enters_of Try.func125 (by kernel_rfl) (by kernel_rfl)

theorem mp3_any (w : World) (b bw : Nat) (T : Th) (F : List Bool) (RL : List (List Int)) (M : List Nat) (h : NW w b T F RL M) (hv : NVal T F RL M) (bq : Nat) (s q : Int) (h0 : 0 ≤ s) (hr0 : s < T.rules.length) (hq0 : 0 ≤ q) (hq : q < T.foes.length)
    (hw : w.cell? ⟨bw, 0, none⟩ = some (.pointer (some ⟨b, 0, none⟩))) (hqc : w.cell? ⟨bq, 0, none⟩ = some (.int .i64 q)) :
    Calls Try.prog 130 #[.int .i64 s, .pointer (some ⟨bw, 0, none⟩), .pointer (some ⟨bq, 0, none⟩)] w (Ret fun v w' => v = .bool (mpS T RL M q s) ∧ Below w.heap.size w w') := by
  have hbel := ext_alloc w (.cells #[.int .i64 s] 3)
  obtain ⟨W1, HW1⟩ : ∃ W1, Hid (W1 = w.alloc (.cells #[.int .i64 s] 3)) := ⟨_, hid rfl⟩
  have hsc : W1.cell? ⟨w.heap.size, 0, none⟩ = some (.int .i64 s) := by rw [HW1.out, World.cell?_alloc_at _ _ _ _ rfl]; rfl
  rw [← HW1.out] at hbel
  have h1 := h.ext hbel
  have hw1 := cell_ext hbel hw
  have hq1 := cell_ext hbel hqc
  have hrow : ∀ x ∈ row RL q, 0 ≤ x ∧ x < T.rules.length := by
    rw [row_at hq0 (by have := hv.nR; omega)]
    exact hv.rl q.toNat (by have := hv.nR; omega)
  have Hc := hid (whole_any W1 b T F RL M h1 hv s h0 hr0 3 2 (by decide) (by decide))
  have Ha := hid (fun (w2 : World) (hb2 : Below W1.heap.size W1 w2) => anyRule_any w2 b T F RL M (h1.ext hb2) hv q hq0 hq _ #[.pointer (some ⟨bw, 0, none⟩), .pointer (some ⟨w.heap.size, 0, none⟩)] (mpB T M s) enters_mp31 (fun x hx w3 ho => mp31_any w3 b bw T F RL M (h1.ext (ext_trans hb2 ho)) hv w.heap.size x s (hrow x hx).1 (hrow x hx).2 (cell_ext (ext_trans hb2 ho) hw1) (cell_ext (ext_trans hb2 ho) hsc)))
  have Hs : Hid (mpS T RL M q s = (wholeB T M 2 s && !(row RL q).any (mpB T M s))) := rfl
  have hbw := World.block_lt_of_cell? _ _ hw
  have hbq := World.block_lt_of_cell? _ _ hqc
  dsimp only at hbw hbq
  clear h hv h1 hrow
  refine post_gen fun Q HQ => ?_
  cases hs : wholeB T M 2 s with
  | false =>
    have HS := hid hs
    go_enter Try.func130, Try.ntmps130
    go_wp2_with fail
    rw [← HW1.out]
    refine Hc.out.mono ?_
    rintro e w2 ⟨_, rfl, rfl, hb2⟩
    go_wp2_with fail
    go_ret
    exact Fin HQ ⟨by rw [Hs.out, HS.out]; rfl, ext_trans hbel hb2⟩
  | true =>
    have HS := hid hs
    go_enter Try.func130, Try.ntmps130
    go_wp2_with fail
    rw [← HW1.out]
    refine Hc.out.mono ?_
    rintro e w2 ⟨_, rfl, rfl, hb2⟩
    have hw2 := cell_ext hb2 hw1
    have hq2 := cell_ext hb2 hq1
    go_wp2_with fail
    refine (Ha.out w2 hb2).mono ?_
    rintro e w3 ⟨_, rfl, rfl, hb3⟩
    go_wp2_with fail
    go_ret
    exact Fin HQ ⟨by rw [Hs.out, HS.out]; rfl, ext_trans hbel (ext_trans hb2 hb3)⟩
theorem enters_mp3 : Enters Try.prog 130 := enters_of Try.func130 (by kernel_rfl) (by kernel_rfl)

theorem plusDelta_any (w : World) (b : Nat) (T : Th) (F : List Bool) (RL : List (List Int)) (M : List Nat) (h : NW w b T F RL M) (hv : NVal T F RL M) (q : Int) (h0 : 0 ≤ q) (hq : q < T.foes.length) :
    Calls Try.prog 88 #[.pointer (some ⟨b, 0, none⟩), .int .i64 q] w (Ret fun v w' => v = .bool (plusDB T F RL M q) ∧ Below w.heap.size w w') := by
  have hbel := ext_alloc w (.cells #[.pointer (some ⟨b, 0, none⟩)] 90)
  obtain ⟨W1, HW1⟩ : ∃ W1, Hid (W1 = w.alloc (.cells #[.pointer (some ⟨b, 0, none⟩)] 90)) := ⟨_, hid rfl⟩
  have hw1 : W1.cell? ⟨w.heap.size, 0, none⟩ = some (.pointer (some ⟨b, 0, none⟩)) := by rw [HW1.out, World.cell?_alloc_at _ _ _ _ rfl]; rfl
  rw [← HW1.out] at hbel
  have h1 := h.ext hbel
  have hrow : ∀ x ∈ row RL q, 0 ≤ x ∧ x < T.rules.length := by
    rw [row_at h0 (by have := hv.nR; omega)]
    exact hv.rl q.toNat (by have := hv.nR; omega)
  have Ha := hid (anyRule_any W1 b T F RL M h1 hv q h0 hq _ #[.pointer (some ⟨w.heap.size, 0, none⟩)] (pdR T M) enters_pd1 (fun x hx w3 ho => pd1_any w3 b w.heap.size T F RL M (h1.ext ho) hv x (hrow x hx).1 (hrow x hx).2 (cell_ext ho hw1)))
  have hql : q.toNat < F.length := by have := hv.nF; omega
  have hqi : q < F.length := by have := hv.nF; omega
  obtain ⟨vF, vR, vB, vFa, vRu, vM, hh, _, _, _, ⟨A, c, rfl, hc, hb, hr⟩, _, _⟩ := h1.ex
  obtain ⟨ad, rfl, hcell⟩ := hr.at1 hql
  have c4 := cell_of_row W1 b 4 _ _ _ hh
  simp only [List.getElem?_toArray, List.getElem?_cons_zero, List.getElem?_cons_succ] at c4
  have Hs : Hid (plusDB T F RL M q = (F[q.toNat] || (row RL q).any (pdR T M))) := by simp [Hid, plusDB, hql]
  rw [HW1.out] at c4 hcell
  clear h h1 hv hrow hh hr hw1
  generalize F[q.toNat] = y at *
  refine post_gen fun Q HQ => ?_
  cases y with
  | true =>
    go_enter Try.func88, Try.ntmps88
    go_wp2_with fail
    go_ret
    exact Fin HQ ⟨by rw [Hs.out]; rfl, by rw [← HW1.out]; exact hbel⟩
  | false =>
    go_enter Try.func88, Try.ntmps88
    go_wp2_with fail
    rw [← HW1.out]
    refine Ha.out.mono ?_
    rintro e w3 ⟨_, rfl, rfl, hb3⟩
    go_wp2_with fail
    go_ret
    exact Fin HQ ⟨by rw [Hs.out]; rfl, ext_trans hbel hb3⟩

theorem minusDelta_any (w : World) (b : Nat) (T : Th) (F : List Bool) (RL : List (List Int)) (M : List Nat) (h : NW w b T F RL M) (hv : NVal T F RL M) (q : Int) (h0 : 0 ≤ q) (hq : q < T.foes.length) :
    Calls Try.prog 89 #[.pointer (some ⟨b, 0, none⟩), .int .i64 q] w (Ret fun v w' => v = .bool (minusDB T F RL M q) ∧ Below w.heap.size w w') := by
  have hbel := ext_alloc w (.cells #[.pointer (some ⟨b, 0, none⟩)] 90)
  obtain ⟨W1, HW1⟩ : ∃ W1, Hid (W1 = w.alloc (.cells #[.pointer (some ⟨b, 0, none⟩)] 90)) := ⟨_, hid rfl⟩
  have hw1 : W1.cell? ⟨w.heap.size, 0, none⟩ = some (.pointer (some ⟨b, 0, none⟩)) := by rw [HW1.out, World.cell?_alloc_at _ _ _ _ rfl]; rfl
  rw [← HW1.out] at hbel
  have h1 := h.ext hbel
  have hrow : ∀ x ∈ row RL q, 0 ≤ x ∧ x < T.rules.length := by
    rw [row_at h0 (by have := hv.nR; omega)]
    exact hv.rl q.toNat (by have := hv.nR; omega)
  have Ha := hid (anyRule_any W1 b T F RL M h1 hv q h0 hq _ #[.pointer (some ⟨w.heap.size, 0, none⟩)] (mdR T M) enters_md1 (fun x hx w3 ho => md1_any w3 b w.heap.size T F RL M (h1.ext ho) hv x (hrow x hx).1 (hrow x hx).2 (cell_ext ho hw1)))
  have hql : q.toNat < F.length := by have := hv.nF; omega
  have hqi : q < F.length := by have := hv.nF; omega
  obtain ⟨vF, vR, vB, vFa, vRu, vM, hh, _, _, _, ⟨A, c, rfl, hc, hb, hr⟩, _, _⟩ := h1.ex
  obtain ⟨ad, rfl, hcell⟩ := hr.at1 hql
  have c4 := cell_of_row W1 b 4 _ _ _ hh
  simp only [List.getElem?_toArray, List.getElem?_cons_zero, List.getElem?_cons_succ] at c4
  have Hs : Hid (minusDB T F RL M q = (!F[q.toNat] && ! (row RL q).any (mdR T M))) := by simp [Hid, minusDB, hql]
  rw [HW1.out] at c4 hcell
  clear h h1 hv hrow hh hr hw1
  generalize F[q.toNat] = y at *
  refine post_gen fun Q HQ => ?_
  cases y with
  | true =>
    go_enter Try.func89, Try.ntmps89
    go_wp2_with fail
    go_ret
    exact Fin HQ ⟨by rw [Hs.out]; rfl, by rw [← HW1.out]; exact hbel⟩
  | false =>
    go_enter Try.func89, Try.ntmps89
    go_wp2_with fail
    rw [← HW1.out]
    refine Ha.out.mono ?_
    rintro e w3 ⟨_, rfl, rfl, hb3⟩
    go_wp2_with fail
    go_ret
    exact Fin HQ ⟨by rw [Hs.out]; rfl, ext_trans hbel hb3⟩
end Go.Proofs.Lx
