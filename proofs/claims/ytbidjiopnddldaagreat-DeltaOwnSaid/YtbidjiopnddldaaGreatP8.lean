/- Parts of the proof: Nb, Nc, Nf. naive's conditions: the closures and plusDelta, minusDelta, plusPartial, minusPartial. -/
import Derived.Test.YtbidjiopnddldaaGreatP6
import Derived.Deep.RegionWith
namespace Go.Proofs.Lx
open Go Go.RowKit
set_option linter.unusedSimpArgs false
set_option linter.unusedVariables false

def pdR (T : Th) (M : List Nat) (r : Int) : Bool := strictB T r && wholeB T M 0 r
def mdR (T : Th) (M : List Nat) (r : Int) : Bool := strictB T r && !someB T M 1 r
def ppR (T : Th) (M : List Nat) (r : Int) : Bool := supB T r && wholeB T M 2 r
def mpR (T : Th) (M : List Nat) (r : Int) : Bool := supB T r && !someB T M 3 r
def ppB (T : Th) (M : List Nat) (s r : Int) : Bool := supB T r && (beatsB T r s && wholeB T M 2 r)
def mpB (T : Th) (M : List Nat) (s r : Int) : Bool := supB T r && (beatsB T r s && !someB T M 3 r)
def ppS (T : Th) (RL : List (List Int)) (M : List Nat) (q s : Int) : Bool := !someB T M 3 s && !(row RL q).any (ppB T M s)
def mpS (T : Th) (RL : List (List Int)) (M : List Nat) (q s : Int) : Bool := wholeB T M 2 s && !(row RL q).any (mpB T M s)
def plusDB (T : Th) (F : List Bool) (RL : List (List Int)) (M : List Nat) (q : Int) : Bool := F.getD q.toNat false || (row RL q).any (pdR T M)
def minusDB (T : Th) (F : List Bool) (RL : List (List Int)) (M : List Nat) (q : Int) : Bool := !F.getD q.toNat false && !(row RL q).any (mdR T M)
def plusPB (T : Th) (RL : List (List Int)) (M : List Nat) (q : Int) : Bool :=
 hasM M 0 q || ((row RL q).any (ppR T M) && (!(row T.foes q).any (fun f => !hasM M 1 f) && !(row T.foes q).any fun f => (row RL f).any (ppS T RL M q)))
def minusPB (T : Th) (RL : List (List Int)) (M : List Nat) (q : Int) : Bool :=
 hasM M 1 q && (!(row RL q).any (mpR T M) || ((row T.foes q).any (fun f => hasM M 0 f) || (row T.foes q).any fun f => (row RL f).any (mpS T RL M q)))


theorem pd1_any (w : World) (b bw : Nat) (T : Th) (F : List Bool) (RL : List (List Int)) (M : List Nat) (h : NW w b T F RL M) (hv : NVal T F RL M) (r : Int) (h0 : 0 ≤ r) (hr0 : r < T.rules.length)
  (hw : w.cell? ⟨bw, 0, none⟩ = some (.pointer (some ⟨b, 0, none⟩))) :
  Calls Tryz.prog 132 #[.int .i64 r, .pointer (some ⟨bw, 0, none⟩)] w (Ret fun v w' => v = .bool (pdR T M r) ∧ Below w.heap.size w w') := by
 have H1 := hid (strict_any w b T F RL M h r h0 hr0)
 have H2 := hid (whole_any w b T F RL M h hv r h0 hr0 1 0 (by decide) (by decide))
 have Hs : Hid (pdR T M r = (strictB T r && wholeB T M 0 r)) := rfl
 clear h hv
 refine post_gen fun Q HQ => ?_
 cases hs : strictB T r with
 | false =>
  have HS := hid hs
  go_enter Tryz.func132, Tryz.ntmps132
  go_wp2_with (go_at_call 133; refine H1.out.mono ?_; rintro e w' ⟨_, rfl, rfl, rfl⟩)
  go_ret
  exact Fin HQ ⟨by rw [Hs.out, HS.out]; rfl, ext_refl _⟩
 | true =>
  have HS := hid hs
  go_enter Tryz.func132, Tryz.ntmps132
  go_wp2_with (first | (go_at_call 133; refine H1.out.mono ?_; rintro e w' ⟨_, rfl, rfl, rfl⟩) | (go_at_call 134; refine H2.out.mono ?_; rintro e w2 ⟨_, rfl, rfl, hb2⟩))
  go_ret
  exact Fin HQ ⟨by rw [Hs.out, HS.out]; rfl, by assumption⟩
theorem enters_pd1 : Enters Tryz.prog 132 := enters_of Tryz.func132 (by kernel_rfl) (by kernel_rfl)

theorem md1_any (w : World) (b bw : Nat) (T : Th) (F : List Bool) (RL : List (List Int)) (M : List Nat) (h : NW w b T F RL M) (hv : NVal T F RL M) (r : Int) (h0 : 0 ≤ r) (hr0 : r < T.rules.length)
  (hw : w.cell? ⟨bw, 0, none⟩ = some (.pointer (some ⟨b, 0, none⟩))) :
  Calls Tryz.prog 135 #[.int .i64 r, .pointer (some ⟨bw, 0, none⟩)] w (Ret fun v w' => v = .bool (mdR T M r) ∧ Below w.heap.size w w') := by
 have H1 := hid (strict_any w b T F RL M h r h0 hr0)
 have H2 := hid (some_any w b T F RL M h hv r h0 hr0 2 1 (by decide) (by decide))
 have Hs : Hid (mdR T M r = (strictB T r && !someB T M 1 r)) := rfl
 clear h hv
 refine post_gen fun Q HQ => ?_
 cases hs : strictB T r with
 | false =>
  have HS := hid hs
  go_enter Tryz.func135, Tryz.ntmps135
  go_wp2_with (go_at_call 133; refine H1.out.mono ?_; rintro e w' ⟨_, rfl, rfl, rfl⟩)
  go_ret
  exact Fin HQ ⟨by rw [Hs.out, HS.out]; rfl, ext_refl _⟩
 | true =>
  have HS := hid hs
  go_enter Tryz.func135, Tryz.ntmps135
  go_wp2_with (first | (go_at_call 133; refine H1.out.mono ?_; rintro e w' ⟨_, rfl, rfl, rfl⟩) | (go_at_call 136; refine H2.out.mono ?_; rintro e w2 ⟨_, rfl, rfl, hb2⟩))
  go_ret
  exact Fin HQ ⟨by rw [Hs.out, HS.out]; rfl, by assumption⟩
theorem enters_md1 : Enters Tryz.prog 135 := enters_of Tryz.func135 (by kernel_rfl) (by kernel_rfl)

theorem pp1_any (w : World) (b bw : Nat) (T : Th) (F : List Bool) (RL : List (List Int)) (M : List Nat) (h : NW w b T F RL M) (hv : NVal T F RL M) (r : Int) (h0 : 0 ≤ r) (hr0 : r < T.rules.length)
  (hw : w.cell? ⟨bw, 0, none⟩ = some (.pointer (some ⟨b, 0, none⟩))) :
  Calls Tryz.prog 138 #[.int .i64 r, .pointer (some ⟨bw, 0, none⟩)] w (Ret fun v w' => v = .bool (ppR T M r) ∧ Below w.heap.size w w') := by
 have H1 := hid (supports_any w b T F RL M h r h0 hr0)
 have H2 := hid (whole_any w b T F RL M h hv r h0 hr0 3 2 (by decide) (by decide))
 have Hs : Hid (ppR T M r = (supB T r && wholeB T M 2 r)) := rfl
 clear h hv
 refine post_gen fun Q HQ => ?_
 cases hs : supB T r with
 | false =>
  have HS := hid hs
  go_enter Tryz.func138, Tryz.ntmps138
  go_wp2_with (go_at_call 139; refine H1.out.mono ?_; rintro e w' ⟨_, rfl, rfl, rfl⟩)
  go_ret
  exact Fin HQ ⟨by rw [Hs.out, HS.out]; rfl, ext_refl _⟩
 | true =>
  have HS := hid hs
  go_enter Tryz.func138, Tryz.ntmps138
  go_wp2_with (first | (go_at_call 139; refine H1.out.mono ?_; rintro e w' ⟨_, rfl, rfl, rfl⟩) | (go_at_call 134; refine H2.out.mono ?_; rintro e w2 ⟨_, rfl, rfl, hb2⟩))
  go_ret
  exact Fin HQ ⟨by rw [Hs.out, HS.out]; rfl, by assumption⟩
theorem enters_pp1 : Enters Tryz.prog 138 := enters_of Tryz.func138 (by kernel_rfl) (by kernel_rfl)

theorem mp1_any (w : World) (b bw : Nat) (T : Th) (F : List Bool) (RL : List (List Int)) (M : List Nat) (h : NW w b T F RL M) (hv : NVal T F RL M) (r : Int) (h0 : 0 ≤ r) (hr0 : r < T.rules.length)
  (hw : w.cell? ⟨bw, 0, none⟩ = some (.pointer (some ⟨b, 0, none⟩))) :
  Calls Tryz.prog 146 #[.int .i64 r, .pointer (some ⟨bw, 0, none⟩)] w (Ret fun v w' => v = .bool (mpR T M r) ∧ Below w.heap.size w w') := by
 have H1 := hid (supports_any w b T F RL M h r h0 hr0)
 have H2 := hid (some_any w b T F RL M h hv r h0 hr0 4 3 (by decide) (by decide))
 have Hs : Hid (mpR T M r = (supB T r && !someB T M 3 r)) := rfl
 clear h hv
 refine post_gen fun Q HQ => ?_
 cases hs : supB T r with
 | false =>
  have HS := hid hs
  go_enter Tryz.func146, Tryz.ntmps146
  go_wp2_with (go_at_call 139; refine H1.out.mono ?_; rintro e w' ⟨_, rfl, rfl, rfl⟩)
  go_ret
  exact Fin HQ ⟨by rw [Hs.out, HS.out]; rfl, ext_refl _⟩
 | true =>
  have HS := hid hs
  go_enter Tryz.func146, Tryz.ntmps146
  go_wp2_with (first | (go_at_call 139; refine H1.out.mono ?_; rintro e w' ⟨_, rfl, rfl, rfl⟩) | (go_at_call 136; refine H2.out.mono ?_; rintro e w2 ⟨_, rfl, rfl, hb2⟩))
  go_ret
  exact Fin HQ ⟨by rw [Hs.out, HS.out]; rfl, by assumption⟩
theorem enters_mp1 : Enters Tryz.prog 146 := enters_of Tryz.func146 (by kernel_rfl) (by kernel_rfl)

theorem pp2_any (w : World) (b bw : Nat) (T : Th) (F : List Bool) (RL : List (List Int)) (M : List Nat) (h : NW w b T F RL M) (hv : NVal T F RL M) (f : Int) (h0 : 0 ≤ f) (hq : f < T.foes.length)
  (hw : w.cell? ⟨bw, 0, none⟩ = some (.pointer (some ⟨b, 0, none⟩))) :
  Calls Tryz.prog 141 #[.int .i64 f, .pointer (some ⟨bw, 0, none⟩)] w (Ret fun v w' => v = .bool (!hasM M 1 f) ∧ Below w.heap.size w w') := by
 have H1 := hid (whas_any w b T F RL M h hv f h0 hq 2 1 (by decide) (by decide))
 clear h hv
 refine post_gen fun Q HQ => ?_
 go_enter Tryz.func141, Tryz.ntmps141
 go_wp2_with fail
 refine H1.out.mono ?_
 rintro e w2 ⟨_, rfl, rfl, hb2⟩
 go_wp2
 go_ret
 exact Fin HQ ⟨rfl, hb2⟩
theorem enters_pp2 : Enters Tryz.prog 141 := enters_of Tryz.func141 (by kernel_rfl) (by kernel_rfl)

theorem mp2_any (w : World) (b bw : Nat) (T : Th) (F : List Bool) (RL : List (List Int)) (M : List Nat) (h : NW w b T F RL M) (hv : NVal T F RL M) (f : Int) (h0 : 0 ≤ f) (hq : f < T.foes.length)
  (hw : w.cell? ⟨bw, 0, none⟩ = some (.pointer (some ⟨b, 0, none⟩))) :
  Calls Tryz.prog 147 #[.int .i64 f, .pointer (some ⟨bw, 0, none⟩)] w (Ret fun v w' => v = .bool (hasM M 0 f) ∧ Below w.heap.size w w') := by
 have H1 := hid (whas_any w b T F RL M h hv f h0 hq 1 0 (by decide) (by decide))
 clear h hv
 refine post_gen fun Q HQ => ?_
 go_enter Tryz.func147, Tryz.ntmps147
 go_wp2_with fail
 refine H1.out.mono ?_
 rintro e w2 ⟨_, rfl, rfl, hb2⟩
 go_wp2
 go_ret
 exact Fin HQ ⟨rfl, hb2⟩
theorem enters_mp2 : Enters Tryz.prog 147 := enters_of Tryz.func147 (by kernel_rfl) (by kernel_rfl)

theorem pp31_any (w : World) (b bw : Nat) (T : Th) (F : List Bool) (RL : List (List Int)) (M : List Nat) (h : NW w b T F RL M) (hv : NVal T F RL M) (bs : Nat) (r s : Int) (h0 : 0 ≤ r) (hr0 : r < T.rules.length)
  (hw : w.cell? ⟨bw, 0, none⟩ = some (.pointer (some ⟨b, 0, none⟩))) (hsc : w.cell? ⟨bs, 0, none⟩ = some (.int .i64 s)) :
  Calls Tryz.prog 144 #[.int .i64 r, .pointer (some ⟨bw, 0, none⟩), .pointer (some ⟨bs, 0, none⟩)] w (Ret fun v w' => v = .bool (ppB T M s r) ∧ Below w.heap.size w w') := by
 have H1 := hid (supports_any w b T F RL M h r h0 hr0)
 have H3 := hid (wbeats_any w b T F RL M h r s h0 (by have := hv.bl; omega))
 have H2 := hid (whole_any w b T F RL M h hv r h0 hr0 3 2 (by decide) (by decide))
 have Hs : Hid (ppB T M s r = (supB T r && (beatsB T r s && wholeB T M 2 r))) := rfl
 clear h hv
 refine post_gen fun Q HQ => ?_
 cases hs : supB T r with
 | false =>
  have HS := hid hs
  go_enter Tryz.func144, Tryz.ntmps144
  go_wp2_with (go_at_call 139; refine H1.out.mono ?_; rintro e w' ⟨_, rfl, rfl, rfl⟩)
  go_ret
  exact Fin HQ ⟨by rw [Hs.out, HS.out]; rfl, ext_refl _⟩
 | true =>
  have HS := hid hs
  cases hb : beatsB T r s with
  | false =>
   have HB := hid hb
   go_enter Tryz.func144, Tryz.ntmps144
   go_wp2_with (first | (go_at_call 139; refine H1.out.mono ?_; rintro e w' ⟨_, rfl, rfl, rfl⟩) | (go_at_call 145; refine H3.out.mono ?_; rintro e w' ⟨_, rfl, rfl, rfl⟩))
   go_ret
   exact Fin HQ ⟨by rw [Hs.out, HS.out, HB.out]; rfl, ext_refl _⟩
  | true =>
   have HB := hid hb
   go_enter Tryz.func144, Tryz.ntmps144
   go_wp2_with (first | (go_at_call 139; refine H1.out.mono ?_; rintro e w' ⟨_, rfl, rfl, rfl⟩) | (go_at_call 145; refine H3.out.mono ?_; rintro e w' ⟨_, rfl, rfl, rfl⟩) | (go_at_call 134; refine H2.out.mono ?_; rintro e w2 ⟨_, rfl, rfl, hb2⟩))
   go_ret
   exact Fin HQ ⟨by rw [Hs.out, HS.out, HB.out]; rfl, by assumption⟩
theorem enters_pp31 : Enters Tryz.prog 144 := enters_of Tryz.func144 (by kernel_rfl) (by kernel_rfl)

theorem mp31_any (w : World) (b bw : Nat) (T : Th) (F : List Bool) (RL : List (List Int)) (M : List Nat) (h : NW w b T F RL M) (hv : NVal T F RL M) (bs : Nat) (r s : Int) (h0 : 0 ≤ r) (hr0 : r < T.rules.length)
  (hw : w.cell? ⟨bw, 0, none⟩ = some (.pointer (some ⟨b, 0, none⟩))) (hsc : w.cell? ⟨bs, 0, none⟩ = some (.int .i64 s)) :
  Calls Tryz.prog 149 #[.int .i64 r, .pointer (some ⟨bw, 0, none⟩), .pointer (some ⟨bs, 0, none⟩)] w (Ret fun v w' => v = .bool (mpB T M s r) ∧ Below w.heap.size w w') := by
 have H1 := hid (supports_any w b T F RL M h r h0 hr0)
 have H3 := hid (wbeats_any w b T F RL M h r s h0 (by have := hv.bl; omega))
 have H2 := hid (some_any w b T F RL M h hv r h0 hr0 4 3 (by decide) (by decide))
 have Hs : Hid (mpB T M s r = (supB T r && (beatsB T r s && !someB T M 3 r))) := rfl
 clear h hv
 refine post_gen fun Q HQ => ?_
 cases hs : supB T r with
 | false =>
  have HS := hid hs
  go_enter Tryz.func149, Tryz.ntmps149
  go_wp2_with (go_at_call 139; refine H1.out.mono ?_; rintro e w' ⟨_, rfl, rfl, rfl⟩)
  go_ret
  exact Fin HQ ⟨by rw [Hs.out, HS.out]; rfl, ext_refl _⟩
 | true =>
  have HS := hid hs
  cases hb : beatsB T r s with
  | false =>
   have HB := hid hb
   go_enter Tryz.func149, Tryz.ntmps149
   go_wp2_with (first | (go_at_call 139; refine H1.out.mono ?_; rintro e w' ⟨_, rfl, rfl, rfl⟩) | (go_at_call 145; refine H3.out.mono ?_; rintro e w' ⟨_, rfl, rfl, rfl⟩))
   go_ret
   exact Fin HQ ⟨by rw [Hs.out, HS.out, HB.out]; rfl, ext_refl _⟩
  | true =>
   have HB := hid hb
   go_enter Tryz.func149, Tryz.ntmps149
   go_wp2_with (first | (go_at_call 139; refine H1.out.mono ?_; rintro e w' ⟨_, rfl, rfl, rfl⟩) | (go_at_call 145; refine H3.out.mono ?_; rintro e w' ⟨_, rfl, rfl, rfl⟩) | (go_at_call 136; refine H2.out.mono ?_; rintro e w2 ⟨_, rfl, rfl, hb2⟩))
   go_ret
   exact Fin HQ ⟨by rw [Hs.out, HS.out, HB.out]; rfl, by assumption⟩
theorem enters_mp31 : Enters Tryz.prog 149 := enters_of Tryz.func149 (by kernel_rfl) (by kernel_rfl)

theorem pp3_any (w : World) (b bw : Nat) (T : Th) (F : List Bool) (RL : List (List Int)) (M : List Nat) (h : NW w b T F RL M) (hv : NVal T F RL M) (bq : Nat) (s q : Int) (h0 : 0 ≤ s) (hr0 : s < T.rules.length) (hq0 : 0 ≤ q) (hq : q < T.foes.length)
  (hw : w.cell? ⟨bw, 0, none⟩ = some (.pointer (some ⟨b, 0, none⟩))) (hqc : w.cell? ⟨bq, 0, none⟩ = some (.int .i64 q)) :
  Calls Tryz.prog 143 #[.int .i64 s, .pointer (some ⟨bw, 0, none⟩), .pointer (some ⟨bq, 0, none⟩)] w (Ret fun v w' => v = .bool (ppS T RL M q s) ∧ Below w.heap.size w w') := by
 have hbel := ext_alloc w (.cells #[.int .i64 s] 3)
 obtain ⟨W1, HW1⟩ : ∃ W1, Hid (W1 = w.alloc (.cells #[.int .i64 s] 3)) := ⟨_, hid rfl⟩
 have hsc : W1.cell? ⟨w.heap.size, 0, none⟩ = some (.int .i64 s) := by rw [HW1.out, World.cell?_alloc_at _ _ _ _ rfl]; rfl
 rw [← HW1.out] at hbel
 have h1 := h.ext hbel
 have hw1 := cell_ext hbel hw
 have hq1 := cell_ext hbel hqc
 have hrow : ∀ x ∈ row RL q, 0 ≤ x ∧ x < T.rules.length := by
  rw [row_at hq0 (by have := hv.nR; omega)]
  exact hv.rl q.toNat (by have := hv.nR; omega)
 have Hc := hid (some_any W1 b T F RL M h1 hv s h0 hr0 4 3 (by decide) (by decide))
 have Ha := hid (fun (w2 : World) (hb2 : Below W1.heap.size W1 w2) => anyRule_any w2 b T F RL M (h1.ext hb2) hv q hq0 hq _ #[.pointer (some ⟨bw, 0, none⟩), .pointer (some ⟨w.heap.size, 0, none⟩)] (ppB T M s) enters_pp31 (fun x hx w3 ho => pp31_any w3 b bw T F RL M (h1.ext (ext_trans hb2 ho)) hv w.heap.size x s (hrow x hx).1 (hrow x hx).2 (cell_ext (ext_trans hb2 ho) hw1) (cell_ext (ext_trans hb2 ho) hsc)))
 have Hs : Hid (ppS T RL M q s = (!someB T M 3 s && !(row RL q).any (ppB T M s))) := rfl
 have hbw := World.block_lt_of_cell? _ _ hw
 have hbq := World.block_lt_of_cell? _ _ hqc
 dsimp only at hbw hbq
 clear h hv h1 hrow
 refine post_gen fun Q HQ => ?_
 cases hs : someB T M 3 s with
 | true =>
  have HS := hid hs
  go_enter Tryz.func143, Tryz.ntmps143
  go_wp2_with fail
  rw [← HW1.out]
  refine Hc.out.mono ?_
  rintro e w2 ⟨_, rfl, rfl, hb2⟩
  go_wp2_with fail
  go_ret
  exact Fin HQ ⟨by rw [Hs.out, HS.out]; rfl, ext_trans hbel hb2⟩
 | false =>
  have HS := hid hs
  go_enter Tryz.func143, Tryz.ntmps143
  go_wp2_with fail
  rw [← HW1.out]
  refine Hc.out.mono ?_
  rintro e w2 ⟨_, rfl, rfl, hb2⟩
  have hw2 := cell_ext hb2 hw1
  have hq2 := cell_ext hb2 hq1
  go_wp2_with fail
  refine (Ha.out w2 hb2).mono ?_
  rintro e w3 ⟨_, rfl, rfl, hb3⟩
  go_wp2_with fail
  go_ret
  exact Fin HQ ⟨by rw [Hs.out, HS.out]; rfl, ext_trans hbel (ext_trans hb2 hb3)⟩
theorem enters_pp3 : Enters Tryz.prog 143 := enters_of Tryz.func143 (by kernel_rfl) (by kernel_rfl)

theorem mp3_any (w : World) (b bw : Nat) (T : Th) (F : List Bool) (RL : List (List Int)) (M : List Nat) (h : NW w b T F RL M) (hv : NVal T F RL M) (bq : Nat) (s q : Int) (h0 : 0 ≤ s) (hr0 : s < T.rules.length) (hq0 : 0 ≤ q) (hq : q < T.foes.length)
  (hw : w.cell? ⟨bw, 0, none⟩ = some (.pointer (some ⟨b, 0, none⟩))) (hqc : w.cell? ⟨bq, 0, none⟩ = some (.int .i64 q)) :
  Calls Tryz.prog 148 #[.int .i64 s, .pointer (some ⟨bw, 0, none⟩), .pointer (some ⟨bq, 0, none⟩)] w (Ret fun v w' => v = .bool (mpS T RL M q s) ∧ Below w.heap.size w w') := by
 have hbel := ext_alloc w (.cells #[.int .i64 s] 3)
 obtain ⟨W1, HW1⟩ : ∃ W1, Hid (W1 = w.alloc (.cells #[.int .i64 s] 3)) := ⟨_, hid rfl⟩
 have hsc : W1.cell? ⟨w.heap.size, 0, none⟩ = some (.int .i64 s) := by rw [HW1.out, World.cell?_alloc_at _ _ _ _ rfl]; rfl
 rw [← HW1.out] at hbel
 have h1 := h.ext hbel
 have hw1 := cell_ext hbel hw
 have hq1 := cell_ext hbel hqc
 have hrow : ∀ x ∈ row RL q, 0 ≤ x ∧ x < T.rules.length := by
  rw [row_at hq0 (by have := hv.nR; omega)]
  exact hv.rl q.toNat (by have := hv.nR; omega)
 have Hc := hid (whole_any W1 b T F RL M h1 hv s h0 hr0 3 2 (by decide) (by decide))
 have Ha := hid (fun (w2 : World) (hb2 : Below W1.heap.size W1 w2) => anyRule_any w2 b T F RL M (h1.ext hb2) hv q hq0 hq _ #[.pointer (some ⟨bw, 0, none⟩), .pointer (some ⟨w.heap.size, 0, none⟩)] (mpB T M s) enters_mp31 (fun x hx w3 ho => mp31_any w3 b bw T F RL M (h1.ext (ext_trans hb2 ho)) hv w.heap.size x s (hrow x hx).1 (hrow x hx).2 (cell_ext (ext_trans hb2 ho) hw1) (cell_ext (ext_trans hb2 ho) hsc)))
 have Hs : Hid (mpS T RL M q s = (wholeB T M 2 s && !(row RL q).any (mpB T M s))) := rfl
 have hbw := World.block_lt_of_cell? _ _ hw
 have hbq := World.block_lt_of_cell? _ _ hqc
 dsimp only at hbw hbq
 clear h hv h1 hrow
 refine post_gen fun Q HQ => ?_
 cases hs : wholeB T M 2 s with
 | false =>
  have HS := hid hs
  go_enter Tryz.func148, Tryz.ntmps148
  go_wp2_with fail
  rw [← HW1.out]
  refine Hc.out.mono ?_
  rintro e w2 ⟨_, rfl, rfl, hb2⟩
  go_wp2_with fail
  go_ret
  exact Fin HQ ⟨by rw [Hs.out, HS.out]; rfl, ext_trans hbel hb2⟩
 | true =>
  have HS := hid hs
  go_enter Tryz.func148, Tryz.ntmps148
  go_wp2_with fail
  rw [← HW1.out]
  refine Hc.out.mono ?_
  rintro e w2 ⟨_, rfl, rfl, hb2⟩
  have hw2 := cell_ext hb2 hw1
  have hq2 := cell_ext hb2 hq1
  go_wp2_with fail
  refine (Ha.out w2 hb2).mono ?_
  rintro e w3 ⟨_, rfl, rfl, hb3⟩
  go_wp2_with fail
  go_ret
  exact Fin HQ ⟨by rw [Hs.out, HS.out]; rfl, ext_trans hbel (ext_trans hb2 hb3)⟩
theorem enters_mp3 : Enters Tryz.prog 148 := enters_of Tryz.func148 (by kernel_rfl) (by kernel_rfl)

theorem plusDelta_any (w : World) (b : Nat) (T : Th) (F : List Bool) (RL : List (List Int)) (M : List Nat) (h : NW w b T F RL M) (hv : NVal T F RL M) (q : Int) (h0 : 0 ≤ q) (hq : q < T.foes.length) :
  Calls Tryz.prog 110 #[.pointer (some ⟨b, 0, none⟩), .int .i64 q] w (Ret fun v w' => v = .bool (plusDB T F RL M q) ∧ Below w.heap.size w w') := by
 have hbel := ext_alloc w (.cells #[.pointer (some ⟨b, 0, none⟩)] 119)
 obtain ⟨W1, HW1⟩ : ∃ W1, Hid (W1 = w.alloc (.cells #[.pointer (some ⟨b, 0, none⟩)] 119)) := ⟨_, hid rfl⟩
 have hw1 : W1.cell? ⟨w.heap.size, 0, none⟩ = some (.pointer (some ⟨b, 0, none⟩)) := by rw [HW1.out, World.cell?_alloc_at _ _ _ _ rfl]; rfl
 rw [← HW1.out] at hbel
 have h1 := h.ext hbel
 have hrow : ∀ x ∈ row RL q, 0 ≤ x ∧ x < T.rules.length := by
  rw [row_at h0 (by have := hv.nR; omega)]
  exact hv.rl q.toNat (by have := hv.nR; omega)
 have Ha := hid (anyRule_any W1 b T F RL M h1 hv q h0 hq _ #[.pointer (some ⟨w.heap.size, 0, none⟩)] (pdR T M) enters_pd1 (fun x hx w3 ho => pd1_any w3 b w.heap.size T F RL M (h1.ext ho) hv x (hrow x hx).1 (hrow x hx).2 (cell_ext ho hw1)))
 have hql : q.toNat < F.length := by have := hv.nF; omega
 have hqi : q < F.length := by have := hv.nF; omega
 obtain ⟨vF, vR, vB, vFa, vRu, vM, hh, _, _, _, ⟨A, c, rfl, hc, hb, hr⟩, _, _⟩ := h1.ex
 obtain ⟨ad, rfl, hcell⟩ := hr.at1 hql
 have c4 := cell_of_row W1 b 4 _ _ _ hh
 simp only [List.getElem?_toArray, List.getElem?_cons_zero, List.getElem?_cons_succ] at c4
 have Hs : Hid (plusDB T F RL M q = (F[q.toNat] || (row RL q).any (pdR T M))) := by simp [Hid, plusDB, hql]
 rw [HW1.out] at c4 hcell
 clear h h1 hv hrow hh hr hw1
 generalize F[q.toNat] = y at *
 refine post_gen fun Q HQ => ?_
 cases y with
 | true =>
  go_enter Tryz.func110, Tryz.ntmps110
  go_wp2_with fail
  go_ret
  exact Fin HQ ⟨by rw [Hs.out]; rfl, by rw [← HW1.out]; exact hbel⟩
 | false =>
  go_enter Tryz.func110, Tryz.ntmps110
  go_wp2_with fail
  rw [← HW1.out]
  refine Ha.out.mono ?_
  rintro e w3 ⟨_, rfl, rfl, hb3⟩
  go_wp2_with fail
  go_ret
  exact Fin HQ ⟨by rw [Hs.out]; rfl, ext_trans hbel hb3⟩

theorem minusDelta_any (w : World) (b : Nat) (T : Th) (F : List Bool) (RL : List (List Int)) (M : List Nat) (h : NW w b T F RL M) (hv : NVal T F RL M) (q : Int) (h0 : 0 ≤ q) (hq : q < T.foes.length) :
  Calls Tryz.prog 111 #[.pointer (some ⟨b, 0, none⟩), .int .i64 q] w (Ret fun v w' => v = .bool (minusDB T F RL M q) ∧ Below w.heap.size w w') := by
 have hbel := ext_alloc w (.cells #[.pointer (some ⟨b, 0, none⟩)] 119)
 obtain ⟨W1, HW1⟩ : ∃ W1, Hid (W1 = w.alloc (.cells #[.pointer (some ⟨b, 0, none⟩)] 119)) := ⟨_, hid rfl⟩
 have hw1 : W1.cell? ⟨w.heap.size, 0, none⟩ = some (.pointer (some ⟨b, 0, none⟩)) := by rw [HW1.out, World.cell?_alloc_at _ _ _ _ rfl]; rfl
 rw [← HW1.out] at hbel
 have h1 := h.ext hbel
 have hrow : ∀ x ∈ row RL q, 0 ≤ x ∧ x < T.rules.length := by
  rw [row_at h0 (by have := hv.nR; omega)]
  exact hv.rl q.toNat (by have := hv.nR; omega)
 have Ha := hid (anyRule_any W1 b T F RL M h1 hv q h0 hq _ #[.pointer (some ⟨w.heap.size, 0, none⟩)] (mdR T M) enters_md1 (fun x hx w3 ho => md1_any w3 b w.heap.size T F RL M (h1.ext ho) hv x (hrow x hx).1 (hrow x hx).2 (cell_ext ho hw1)))
 have hql : q.toNat < F.length := by have := hv.nF; omega
 have hqi : q < F.length := by have := hv.nF; omega
 obtain ⟨vF, vR, vB, vFa, vRu, vM, hh, _, _, _, ⟨A, c, rfl, hc, hb, hr⟩, _, _⟩ := h1.ex
 obtain ⟨ad, rfl, hcell⟩ := hr.at1 hql
 have c4 := cell_of_row W1 b 4 _ _ _ hh
 simp only [List.getElem?_toArray, List.getElem?_cons_zero, List.getElem?_cons_succ] at c4
 have Hs : Hid (minusDB T F RL M q = (!F[q.toNat] && ! (row RL q).any (mdR T M))) := by simp [Hid, minusDB, hql]
 rw [HW1.out] at c4 hcell
 clear h h1 hv hrow hh hr hw1
 generalize F[q.toNat] = y at *
 refine post_gen fun Q HQ => ?_
 cases y with
 | true =>
  go_enter Tryz.func111, Tryz.ntmps111
  go_wp2_with fail
  go_ret
  exact Fin HQ ⟨by rw [Hs.out]; rfl, by rw [← HW1.out]; exact hbel⟩
 | false =>
  go_enter Tryz.func111, Tryz.ntmps111
  go_wp2_with fail
  rw [← HW1.out]
  refine Ha.out.mono ?_
  rintro e w3 ⟨_, rfl, rfl, hb3⟩
  go_wp2_with fail
  go_ret
  exact Fin HQ ⟨by rw [Hs.out]; rfl, ext_trans hbel hb3⟩
end Go.Proofs.Lx

namespace Go.Proofs.Lx
open Go Go.RowKit
set_option linter.unusedSimpArgs false
set_option linter.unusedVariables false


set_option maxHeartbeats 1600000 in
theorem plusPartial_any (w : World) (b : Nat) (T : Th) (F : List Bool) (RL : List (List Int)) (M : List Nat) (h : NW w b T F RL M) (hv : NVal T F RL M) (q : Int) (h0 : 0 ≤ q) (hq : q < T.foes.length) :
  Calls Tryz.prog 112 #[.pointer (some ⟨b, 0, none⟩), .int .i64 q] w (Ret fun v w' => v = .bool (plusPB T RL M q) ∧ Below w.heap.size w w') := by
 have hbel := ext_trans (ext_alloc w (.cells #[.pointer (some ⟨b, 0, none⟩)] 119)) (ext_alloc _ (.cells #[.int .i64 q] 3))
 obtain ⟨W2, HW2⟩ : ∃ W2, Hid (W2 = (w.alloc (.cells #[.pointer (some ⟨b, 0, none⟩)] 119)).alloc (.cells #[.int .i64 q] 3)) := ⟨_, hid rfl⟩
 rw [← HW2.out] at hbel
 have hw0 : W2.cell? ⟨w.heap.size, 0, none⟩ = some (.pointer (some ⟨b, 0, none⟩)) := by rw [HW2.out, World.cell?_alloc_past _ _ _ (by simp), World.cell?_alloc_at _ _ _ _ rfl]; rfl
 have hq0 : W2.cell? ⟨w.heap.size + 1, 0, none⟩ = some (.int .i64 q) := by rw [HW2.out, World.cell?_alloc_at _ _ _ _ (by simp)]; rfl
 have h2 := h.ext hbel
 have hrow : ∀ p : Int, 0 ≤ p → p < T.foes.length → ∀ x ∈ row RL p, 0 ≤ x ∧ x < T.rules.length := by
  intro p hp0 hp
  rw [row_at hp0 (by have := hv.nR; omega)]
  exact hv.rl p.toNat (by have := hv.nR; omega)
 have hql : q.toNat < T.foes.length := by omega
 have hfrow : row T.foes q = T.foes[q.toNat] := row_at h0 (by omega)
 have hfo : ∀ x ∈ row T.foes q, 0 ≤ x ∧ x < T.foes.length := by rw [hfrow]; exact hv.fo q.toNat hql
 have H1 := hid (whas_any W2 b T F RL M h2 hv q h0 hq 1 0 (by decide) (by decide))
 have H2 := hid (fun (w2 : World) (hb2 : Below W2.heap.size W2 w2) => anyRule_any w2 b T F RL M (h2.ext hb2) hv q h0 hq _ #[.pointer (some ⟨w.heap.size, 0, none⟩)] (ppR T M) enters_pp1 (fun x hx w3 ho => pp1_any w3 b w.heap.size T F RL M (h2.ext (ext_trans hb2 ho)) hv x (hrow q h0 hq x hx).1 (hrow q h0 hq x hx).2 (cell_ext (ext_trans hb2 ho) hw0)))
 obtain ⟨vF, vR, vB, vFa, vRu, vM, hh, ⟨A, c, rfl, hc, hb, hr⟩, _, _, _, _, _⟩ := h2.ex
 obtain ⟨ad, v, rfl, hcell, hvv⟩ := hr.atRowV hql
 have c1 := cell_of_row W2 b 1 _ _ _ hh
 simp only [List.getElem?_toArray, List.getElem?_cons_zero, List.getElem?_cons_succ] at c1
 have H3 := hid (fun (w2 : World) (hb2 : Below W2.heap.size W2 w2) => containsFunc w2 v (row T.foes q) 141 #[.pointer (some ⟨w.heap.size, 0, none⟩)] (fun f => !hasM M 1 f) enters_pp2 (by rw [hfrow]; exact hvv.ext (scR_mono _) hb2) (fun x hx w3 ho => pp2_any w3 b w.heap.size T F RL M (h2.ext (ext_trans hb2 ho)) hv x (hfo x hx).1 (hfo x hx).2 (cell_ext (ext_trans hb2 ho) hw0)))
 have H4 := hid (fun (w2 : World) (hb2 : Below W2.heap.size W2 w2) => anyAttack_any w2 b T F RL M (h2.ext hb2) hv q h0 hq _ #[.pointer (some ⟨w.heap.size, 0, none⟩), .pointer (some ⟨w.heap.size + 1, 0, none⟩)] (ppS T RL M q) enters_pp3 (fun f hf x hx w3 ho => pp3_any w3 b w.heap.size T F RL M (h2.ext (ext_trans hb2 ho)) hv (w.heap.size + 1) x q (hrow f (hfo f hf).1 (hfo f hf).2 x hx).1 (hrow f (hfo f hf).1 (hfo f hf).2 x hx).2 h0 hq (cell_ext (ext_trans hb2 ho) hw0) (cell_ext (ext_trans hb2 ho) hq0)))
 obtain ⟨B, cB, rfl, _⟩ := hvv
 have Hs : Hid (plusPB T RL M q = (hasM M 0 q || ((row RL q).any (ppR T M) && (!(row T.foes q).any (fun f => !hasM M 1 f) && !(row T.foes q).any fun f => (row RL f).any (ppS T RL M q))))) := rfl
 have C := hid (And.intro hw0 (And.intro hq0 (And.intro c1 hcell)))
 clear h h2 hv hrow hfo hh hr hfrow hw0 hq0 c1 hcell
 generalize hasM M 0 q = x1 at *
 generalize (row RL q).any (ppR T M) = x2 at *
 generalize (row T.foes q).any (fun f => !hasM M 1 f) = x3 at *
 generalize ((row T.foes q).any fun f => (row RL f).any (ppS T RL M q)) = x4 at *
 generalize T.foes[q.toNat] = l at *
 refine post_gen fun Q HQ => ?_
 go_enter Tryz.func112, Tryz.ntmps112
 go_wp2_with fail
 rw [← HW2.out]
 refine H1.out.mono ?_
 rintro e w2 ⟨_, rfl, rfl, hb2⟩
 clear H1
 cases x1 with
 | true =>
  go_wp2_with fail
  go_ret
  exact Fin HQ ⟨by rw [Hs.out]; rfl, ext_trans hbel hb2⟩
 | false =>
  have e1 := cell_ext hb2 C.out.1
  have e2 := cell_ext hb2 C.out.2.1
  go_wp2_with fail
  refine (H2.out w2 hb2).mono ?_
  rintro e w3 ⟨_, rfl, rfl, hb3⟩
  have hb3' := ext_trans hb2 hb3
  clear H2 e1 e2
  cases x2 with
  | false =>
   go_wp2_with fail
   go_ret
   exact Fin HQ ⟨by rw [Hs.out]; rfl, ext_trans hbel hb3'⟩
  | true =>
   have e1 := cell_ext hb3' C.out.1
   have e2 := cell_ext hb3' C.out.2.1
   have e3 := cell_ext hb3' C.out.2.2.1
   have e4 := cell_ext hb3' C.out.2.2.2
   go_wp2_with fail
   go_region_with (go_at_call 140; refine (H3.out _ hb3'.drew).mono ?_; rintro e w4 ⟨_, rfl, rfl, hb4⟩)
   all_goals
    have hb4' : Below W2.heap.size W2 w4 := ext_trans hb3'.drew hb4
    have e1 := cell_ext hb4' C.out.1
    have e2 := cell_ext hb4' C.out.2.1
    cases x3 with
    | true =>
     go_wp2_with fail
     go_ret
     exact Fin HQ ⟨by rw [Hs.out]; rfl, ext_trans hbel hb4'⟩
    | false =>
     go_wp2_with fail
     refine (H4.out w4 hb4').mono ?_
     rintro e w5 ⟨_, rfl, rfl, hb5⟩
     go_wp2_with fail
     go_ret
     exact Fin HQ ⟨by rw [Hs.out]; simp, ext_trans hbel (ext_trans hb4' hb5)⟩

set_option maxHeartbeats 1600000 in
theorem minusPartial_any (w : World) (b : Nat) (T : Th) (F : List Bool) (RL : List (List Int)) (M : List Nat) (h : NW w b T F RL M) (hv : NVal T F RL M) (q : Int) (h0 : 0 ≤ q) (hq : q < T.foes.length) :
  Calls Tryz.prog 113 #[.pointer (some ⟨b, 0, none⟩), .int .i64 q] w (Ret fun v w' => v = .bool (minusPB T RL M q) ∧ Below w.heap.size w w') := by
 have hbel := ext_trans (ext_alloc w (.cells #[.pointer (some ⟨b, 0, none⟩)] 119)) (ext_alloc _ (.cells #[.int .i64 q] 3))
 obtain ⟨W2, HW2⟩ : ∃ W2, Hid (W2 = (w.alloc (.cells #[.pointer (some ⟨b, 0, none⟩)] 119)).alloc (.cells #[.int .i64 q] 3)) := ⟨_, hid rfl⟩
 rw [← HW2.out] at hbel
 have hw0 : W2.cell? ⟨w.heap.size, 0, none⟩ = some (.pointer (some ⟨b, 0, none⟩)) := by rw [HW2.out, World.cell?_alloc_past _ _ _ (by simp), World.cell?_alloc_at _ _ _ _ rfl]; rfl
 have hq0 : W2.cell? ⟨w.heap.size + 1, 0, none⟩ = some (.int .i64 q) := by rw [HW2.out, World.cell?_alloc_at _ _ _ _ (by simp)]; rfl
 have h2 := h.ext hbel
 have hrow : ∀ p : Int, 0 ≤ p → p < T.foes.length → ∀ x ∈ row RL p, 0 ≤ x ∧ x < T.rules.length := by
  intro p hp0 hp
  rw [row_at hp0 (by have := hv.nR; omega)]
  exact hv.rl p.toNat (by have := hv.nR; omega)
 have hql : q.toNat < T.foes.length := by omega
 have hfrow : row T.foes q = T.foes[q.toNat] := row_at h0 (by omega)
 have hfo : ∀ x ∈ row T.foes q, 0 ≤ x ∧ x < T.foes.length := by rw [hfrow]; exact hv.fo q.toNat hql
 have H1 := hid (whas_any W2 b T F RL M h2 hv q h0 hq 2 1 (by decide) (by decide))
 have H2 := hid (fun (w2 : World) (hb2 : Below W2.heap.size W2 w2) => anyRule_any w2 b T F RL M (h2.ext hb2) hv q h0 hq _ #[.pointer (some ⟨w.heap.size, 0, none⟩)] (mpR T M) enters_mp1 (fun x hx w3 ho => mp1_any w3 b w.heap.size T F RL M (h2.ext (ext_trans hb2 ho)) hv x (hrow q h0 hq x hx).1 (hrow q h0 hq x hx).2 (cell_ext (ext_trans hb2 ho) hw0)))
 obtain ⟨vF, vR, vB, vFa, vRu, vM, hh, ⟨A, c, rfl, hc, hb, hr⟩, _, _, _, _, _⟩ := h2.ex
 obtain ⟨ad, v, rfl, hcell, hvv⟩ := hr.atRowV hql
 have c1 := cell_of_row W2 b 1 _ _ _ hh
 simp only [List.getElem?_toArray, List.getElem?_cons_zero, List.getElem?_cons_succ] at c1
 have H3 := hid (fun (w2 : World) (hb2 : Below W2.heap.size W2 w2) => containsFunc w2 v (row T.foes q) 147 #[.pointer (some ⟨w.heap.size, 0, none⟩)] (fun f => hasM M 0 f) enters_mp2 (by rw [hfrow]; exact hvv.ext (scR_mono _) hb2) (fun x hx w3 ho => mp2_any w3 b w.heap.size T F RL M (h2.ext (ext_trans hb2 ho)) hv x (hfo x hx).1 (hfo x hx).2 (cell_ext (ext_trans hb2 ho) hw0)))
 have H4 := hid (fun (w2 : World) (hb2 : Below W2.heap.size W2 w2) => anyAttack_any w2 b T F RL M (h2.ext hb2) hv q h0 hq _ #[.pointer (some ⟨w.heap.size, 0, none⟩), .pointer (some ⟨w.heap.size + 1, 0, none⟩)] (mpS T RL M q) enters_mp3 (fun f hf x hx w3 ho => mp3_any w3 b w.heap.size T F RL M (h2.ext (ext_trans hb2 ho)) hv (w.heap.size + 1) x q (hrow f (hfo f hf).1 (hfo f hf).2 x hx).1 (hrow f (hfo f hf).1 (hfo f hf).2 x hx).2 h0 hq (cell_ext (ext_trans hb2 ho) hw0) (cell_ext (ext_trans hb2 ho) hq0)))
 obtain ⟨B, cB, rfl, _⟩ := hvv
 have Hs : Hid (minusPB T RL M q = (hasM M 1 q && (!(row RL q).any (mpR T M) || ((row T.foes q).any (fun f => hasM M 0 f) || (row T.foes q).any fun f => (row RL f).any (mpS T RL M q))))) := rfl
 have C := hid (And.intro hw0 (And.intro hq0 (And.intro c1 hcell)))
 clear h h2 hv hrow hfo hh hr hfrow hw0 hq0 c1 hcell
 generalize hasM M 1 q = x1 at *
 generalize (row RL q).any (mpR T M) = x2 at *
 generalize (row T.foes q).any (fun f => hasM M 0 f) = x3 at *
 generalize ((row T.foes q).any fun f => (row RL f).any (mpS T RL M q)) = x4 at *
 generalize T.foes[q.toNat] = l at *
 refine post_gen fun Q HQ => ?_
 go_enter Tryz.func113, Tryz.ntmps113
 go_wp2_with fail
 rw [← HW2.out]
 refine H1.out.mono ?_
 rintro e w2 ⟨_, rfl, rfl, hb2⟩
 clear H1
 cases x1 with
 | false =>
  go_wp2_with fail
  go_ret
  exact Fin HQ ⟨by rw [Hs.out]; rfl, ext_trans hbel hb2⟩
 | true =>
  have e1 := cell_ext hb2 C.out.1
  have e2 := cell_ext hb2 C.out.2.1
  go_wp2_with fail
  refine (H2.out w2 hb2).mono ?_
  rintro e w3 ⟨_, rfl, rfl, hb3⟩
  have hb3' := ext_trans hb2 hb3
  clear H2 e1 e2
  cases x2 with
  | false =>
   go_wp2_with fail
   go_ret
   exact Fin HQ ⟨by rw [Hs.out]; rfl, ext_trans hbel hb3'⟩
  | true =>
   have e1 := cell_ext hb3' C.out.1
   have e2 := cell_ext hb3' C.out.2.1
   have e3 := cell_ext hb3' C.out.2.2.1
   have e4 := cell_ext hb3' C.out.2.2.2
   go_wp2_with fail
   go_region_with (go_at_call 140; refine (H3.out _ hb3'.drew).mono ?_; rintro e w4 ⟨_, rfl, rfl, hb4⟩)
   all_goals
    have hb4' : Below W2.heap.size W2 w4 := ext_trans hb3'.drew hb4
    have e1 := cell_ext hb4' C.out.1
    have e2 := cell_ext hb4' C.out.2.1
    cases x3 with
    | true =>
     go_wp2_with fail
     go_ret
     exact Fin HQ ⟨by rw [Hs.out]; rfl, ext_trans hbel hb4'⟩
    | false =>
     go_wp2_with fail
     refine (H4.out w4 hb4').mono ?_
     rintro e w5 ⟨_, rfl, rfl, hb5⟩
     go_wp2_with fail
     go_ret
     exact Fin HQ ⟨by rw [Hs.out]; simp, ext_trans hbel (ext_trans hb4' hb5)⟩
end Go.Proofs.Lx

namespace Go.Proofs.Lx
open Go Go.RowKit
set_option linter.unusedSimpArgs false
set_option linter.unusedVariables false

theorem own_set {w : World} {base e n g cap : Nat} {xs : List Value} (h : w.ownsRow base e 1 (.slice (some ⟨g, 0, none⟩) n cap) n xs) (i : Nat) (u : Value) :
  (w.setCell ⟨g, i, none⟩ u).ownsRow base e 1 (.slice (some ⟨g, 0, none⟩) n cap) n (xs.set i u) := by
 obtain ⟨h0, h1⟩ := h
 refine ⟨by simpa using h0, ?_⟩
 rcases h1 with ⟨h1, _⟩ | ⟨gg, cp, cur, h1, h2, h3, h4, h5, h6, h7⟩
 ·cases h1
 ·cases h1
  right
  refine ⟨g, cap, cur.setIfInBounds i u, rfl, h2, ?_, h4, h5, by simpa using h6, ?_⟩
  ·rw [heap_setCell_same w g i _ e _ h3]
  ·rw [← h7]; simp [List.take_set]
theorem own_free {w : World} {base e n g cap : Nat} {xs : List Value} (h : w.ownsRow base e 1 (.slice (some ⟨g, 0, none⟩) n cap) n xs) (i : Nat) : w.frozen? ⟨g, i, none⟩ = false := by
 rcases h.2 with ⟨h1, _⟩ | ⟨gg, cp, cur, h1, h2, h3, h4, h5, h6, h7⟩
 ·cases h1
 ·cases h1; exact frozen_of_row w g i cur e h3
theorem own_at {w : World} {base e n : Nat} {v : Value} {xs : List Value} (h : w.ownsRow base e 1 v n xs) {i : Nat} (hi : i < n) (hx : i < xs.length) : ∃ g cap, v = .slice (some ⟨g, 0, none⟩) n cap ∧ base ≤ g ∧ w.cell? ⟨g, i, none⟩ = some xs[i] := by
 rcases h.2 with ⟨h1, h2⟩ | ⟨gg, cp, cur, h1, h2, h3, h4, h5, h6, h7⟩
 ·omega
 ·subst h1
  exact ⟨gg, cp, rfl, h2, by rw [h.cellAt i (by omega)]; simp [hx]⟩

theorem conds_plain (w : World) : Calls Tryz.prog 96 #[] w (Ret fun v w' => v = .agg #[.func (.func 110) #[] #[], .func (.func 111) #[] #[], .func (.func 112) #[] #[], .func (.func 113) #[] #[]] ∧ Below w.heap.size w w') := by
 refine post_gen fun Q HQ => ?_
 go_enter Tryz.func96, Tryz.ntmps96
 have hsf : ∀ (a : Addr) (g : Fn) (W : World), Sem.run Tryz.prog (store a (.func g #[] #[]) .plain) W = stored Tryz.prog W a (.func g #[] #[]) .plain := fun a g W => run_store Tryz.prog W a _ _ rfl
 go_wp2
 go_returns
 exact Fin HQ ⟨rfl, ext_alloc _ _⟩


theorem eqM_any (w : World) (v1 v2 : Value) (X Y : List Nat) (h1 : RdMk w v1 X) (h2 : RdMk w v2 Y) :
  Calls Tryz.prog 80 #[v1, v2] w (Ret fun v w' => v = .bool (decide (X = Y)) ∧ Below w.heap.size w w') := by
 obtain ⟨A, c, rfl, hc, hb, hr⟩ := h1
 obtain ⟨B, d, rfl, hd, hb2, hr2⟩ := h2
 refine post_gen fun Q HQ => ?_
 go_enter Tryz.func80, Tryz.ntmps80
 by_cases hl : X.length = Y.length
 case neg =>
  have hb : ((X.length : Int) != (Y.length : Int)) = true := by simp [bne]; omega
  go_wp2
  go_ret
  exact Fin HQ ⟨by rw [decide_eq_false (fun e => hl (by rw [e]))]; rfl, ext_refl _⟩
 have hb3 : ((X.length : Int) != (Y.length : Int)) = false := by simp [bne]; omega
 go_wp2
 go_loopw [13] (fun v13 wr => ∃ k : Nat, k ≤ X.length ∧ v13 = .int .i64 k ∧ Hid (∀ i, i < k → X[i]? = Y[i]?) ∧ Below w.heap.size w wr) (fun v13 _ => X.length - (intOf v13).toNat)
 case atStart => exact ⟨0, Nat.zero_le _, rfl, fun i hi => absurd hi (by omega), ext_refl _⟩
 case round =>
  obtain ⟨k, hk, rfl, hno, hbl⟩ := hrel
  by_cases hlt : k < X.length
  ·obtain ⟨ad, rfl, c1⟩ := (hr.ext (scR_mono _) hbl).at1 hlt
   obtain ⟨ad2, rfl, c2⟩ := (hr2.ext (scR_mono _) hbl).at1 (show k < Y.length by omega)
   by_cases he : X[k] = Y[k]
   ·have hb4 : ((X[k] : Int) != (Y[k] : Int)) = false := by rw [he]; simp
    go_wp2
    go_quiet (fail)
    go_wp2
    go_roundw
    case rel =>
     refine ⟨k + 1, by omega, by (try simp), ?_, below_drewN hbl _⟩
     intro i hi
     by_cases e : i = k
     ·subst e; rw [List.getElem?_eq_getElem hlt, List.getElem?_eq_getElem (by omega), he]
     ·exact hno.out i (by omega)
    case measure => simp [intOf]; omega
   ·have hb4 : ((X[k] : Int) != (Y[k] : Int)) = true := by simp [bne]; omega
    go_wp2
    go_quiet (fail)
    go_wp2
    go_ret
    have hne : decide (X = Y) = false := decide_eq_false (fun e => he (by subst e; rfl))
    exact Fin HQ ⟨by rw [hne]; rfl, below_drewN hbl _⟩
  ·obtain rfl : k = X.length := by omega
   go_wp2
   go_ret
   have heq : X = Y := by
    apply List.ext_getElem?
    intro i
    by_cases hi : i < X.length
    ·exact hno.out i hi
    ·rw [List.getElem?_eq_none (by omega), List.getElem?_eq_none (by omega)]
   exact Fin HQ ⟨by rw [decide_eq_true heq]; rfl, hbl⟩
end Go.Proofs.Lx
