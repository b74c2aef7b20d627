/- NaiveHolds: the walk. -/
import Derived.Test.YtalhpldbhogadaaSk
import Derived.Test.YtalhpldbhogadaaQa
namespace Go.Proofs.Lx
open Go Go.RowKit
set_option linter.unusedSimpArgs false
set_option linter.unusedVariables false

set_option maxHeartbeats 1600000 in
theorem lawHolds_any (w : World) (V vl vm : Value) (tag q : Int) (T : Th) (l : List Int) (M : List Nat) (hT : RdTh w V T) (hl : RdI w vl l) (hm : RdMk w vm M) (h8 : ∀ x ∈ M, x < 256)
    (wt : (Lit.int .i64 tag).wf = true) (wq : (Lit.int .i64 q).wf = true) :
    Calls Try.prog 8 #[V, vl, vm, .int .i64 tag, .int .i64 q] w (Ret fun v w' => v = .bool true ∧ Below w.heap.size w w') := by
  have HT := hid hT
  have Hm := hid hm
  have Hl := hid hl
  have H8 := hid h8
  obtain ⟨vF, vR, vB, rfl, hF, hR, hB⟩ := hT
  have hbel := ext_alloc w (.cells #[.int .i64 T.lits, vF, vR, vB] 25)
  have Hn := hid (nholds_any (w.alloc (.cells #[.int .i64 T.lits, vF, vR, vB] 25)) _ vl vm T l M tag q (HT.out.ext hbel) (Hl.out.ext (scR_mono _) hbel) (Hm.out.ext (scR_mono _) hbel) H8.out)
  unfold HoldsPost at Hn
  have Hr := hid (fun w2 hb => rholds_any w2 _ vl vm T l M tag q (HT.out.ext (w' := w2) hb) (Hl.out.ext (scR_mono _) hb) (Hm.out.ext (scR_mono _) hb) H8.out)
  unfold HoldsPost at Hr
  have Hnum := hid num_any
  clear hF hR hB hm h8 hl
  generalize holdsV T l M tag q = C at *
  generalize holdsErr T l M.length tag q = c at *
  refine post_gen fun Q HQ => ?_
  go_enter Try.func8, Try.ntmps8
  go_wp2_with fail
  refine Hn.out.mono ?_
  rintro e w2 ⟨_, rfl, rfl, hb2'⟩
  obtain ⟨b0, b1, b2, b3⟩ := box4 hb2'
  have hb2 := ext_trans hbel hb2'
  have Hr2 := hid (Hr.out w2 hb2)
  clear hb2' hbel Hn
  go_wp2_with fail
  refine Hr2.out.mono ?_
  rintro e w3 ⟨_, rfl, rfl, hb3⟩
  have hb4 := ext_trans hb2 hb3
  have Hal := hid (alive_any w3)
  have hcc : (C == C) = true := by simp
  have hc2 : (c == c) = true := by simp
  clear b0 b1 b2 b3 Hr2 Hr
  go_wp2_with (go_at_call 21; refine (Hnum.out _ _).mono ?_; rintro e w' ⟨_, rfl, rfl, hw9⟩; rw [hw9]; clear hw9 w')
  refine Hal.out.mono ?_
  rintro e w5 ⟨_, rfl, rfl, hb5⟩
  go_wp2_with fail
  go_ret
  exact Fin HQ ⟨rfl, ext_trans hb4 hb5⟩
end Go.Proofs.Lx
