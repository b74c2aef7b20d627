/- Contracts of naive.given, marked, Solve, Round, Rounds. -/
import Derived.Test.YtalhpldbhogadaaNj
import Derived.Test.YtalhpldbhogadaaPa
namespace Go.Proofs.Lx
open Go Go.RowKit
set_option linter.unusedSimpArgs false
set_option linter.unusedVariables false

def factsErr (T : Th) (l : List Int) : Int := if risB l T.lits = true then 0 else 181
/-- The first error of a theory and facts. -/
noncomputable def givenErr (T : Th) (l : List Int) : Int := if checkErr T = 0 then factsErr T l else checkErr T
theorem givenErr_ok {T : Th} {l : List Int} : givenErr T l = 0 ↔ WfTh T ∧ risB l T.lits = true := by
  unfold givenErr factsErr
  rw [← checkErr_ok]
  by_cases h : checkErr T = 0
  · rw [if_pos h]
    by_cases h2 : risB l T.lits = true
    · simp [h, h2]
    · rw [if_neg h2]; simp [h2]
  · rw [if_neg h]; simp [h]

set_option maxHeartbeats 800000 in
theorem facts_any (w : World) (V vl : Value) (T : Th) (l : List Int) (hT : RdTh w V T) (hl : RdI w vl l) :
    Calls Try.prog 84 #[V, vl] w (Ret fun v w' => v = .int .i64 (factsErr T l) ∧ Below w.heap.size w w') := by
  obtain ⟨vF, vR, vB, rfl, hF, hR, hB⟩ := hT
  have hl' := hl.ext (scR_mono _) (ext_alloc w (.cells #[.int .i64 T.lits, vF, vR, vB] 25))
  have hcall := hid (rising_any _ vl l T.lits hl')
  have hbel := ext_alloc w (.cells #[.int .i64 T.lits, vF, vR, vB] 25)
  clear hl'
  refine post_gen fun Q HQ => ?_
  go_enter Try.func84, Try.ntmps84
  go_wp2_with fail
  refine hcall.out.mono ?_
  rintro e w2 ⟨_, rfl, rfl, rfl⟩
  unfold factsErr at HQ
  cases h : risB l T.lits with
  | true =>
    rw [h] at HQ
    go_wp2_with fail
    go_ret
    exact Fin HQ ⟨rfl, hbel⟩
  | false =>
    rw [h] at HQ
    go_wp2_with fail
    go_ret
    exact Fin HQ ⟨rfl, hbel⟩

theorem box4 {w w2 : World} {v0 v1 v2 v3 : Value} {ty : TypeId} (hb : Below (w.alloc (.cells #[v0, v1, v2, v3] ty)).heap.size (w.alloc (.cells #[v0, v1, v2, v3] ty)) w2) :
    w2.cell? ⟨w.heap.size, 0, none⟩ = some v0 ∧ w2.cell? ⟨w.heap.size, 1, none⟩ = some v1 ∧ w2.cell? ⟨w.heap.size, 2, none⟩ = some v2 ∧ w2.cell? ⟨w.heap.size, 3, none⟩ = some v3 := by
  rw [World.size_alloc] at hb
  exact ⟨box_cell hb 0, box_cell hb 1, box_cell hb 2, box_cell hb 3⟩

set_option maxHeartbeats 800000 in
theorem given_any (w : World) (V vl : Value) (T : Th) (l : List Int) (hT : RdTh w V T) (hl : RdI w vl l) :
    Calls Try.prog 55 #[V, vl] w (Ret fun v w' => v = .int .i64 (givenErr T l) ∧ Below w.heap.size w w') := by
  have HT := hid hT
  obtain ⟨vF, vR, vB, rfl, hF, hR, hB⟩ := hT
  have Hgiv : Hid (∀ c, checkErr T = c → givenErr T l = if c = 0 then factsErr T l else c) := fun c hc => by rw [givenErr, hc]
  obtain ⟨c, Hc⟩ : ∃ c, Hid (checkErr T = c) := ⟨_, hid rfl⟩
  have hbel := ext_alloc w (.cells #[.int .i64 T.lits, vF, vR, vB] 25)
  have hch := check_any (w.alloc (.cells #[.int .i64 T.lits, vF, vR, vB] 25)) _ T (HT.out.ext hbel)
  rw [Hc.out] at hch
  have Hch := hid hch
  clear hch hF hR hB
  refine post_gen fun Q HQ => ?_
  rw [Hgiv.out c Hc.out] at HQ
  go_enter Try.func55, Try.ntmps55
  go_wp2_with fail
  refine Hch.out.mono ?_
  rintro e w2 ⟨_, rfl, ⟨i, rfl⟩, hb2'⟩
  obtain ⟨b0, b1, b2, b3⟩ := box4 hb2'
  have hb2 := ext_trans hbel hb2'
  clear hb2'
  by_cases h : c = 0
  · rw [if_pos h] at HQ
    subst h
    have Hf := hid (facts_any w2 _ vl T l (HT.out.ext hb2) (hl.ext (scR_mono _) hb2))
    go_wp2_with fail
    refine Hf.out.mono ?_
    rintro e w3 ⟨_, rfl, rfl, hb3⟩
    go_wp2_with fail
    go_ret
    exact Fin HQ ⟨rfl, ext_trans hb2 hb3⟩
  · rw [if_neg h] at HQ
    have hne : (c != 0) = true := by simp [h]
    go_wp2_with fail
    go_ret
    exact Fin HQ ⟨rfl, hb2⟩

/-- .. and of a mark list. -/
noncomputable def markedErr (T : Th) (l : List Int) (n : Nat) : Int := if givenErr T l = 0 then (if (n : Int) = T.lits then 0 else 3) else givenErr T l
theorem markedErr_ok {T : Th} {l : List Int} {n : Nat} : markedErr T l n = 0 ↔ givenErr T l = 0 ∧ (n : Int) = T.lits := by
  unfold markedErr
  by_cases h : givenErr T l = 0
  · rw [if_pos h]
    by_cases h2 : (n : Int) = T.lits
    · simp [h, h2]
    · rw [if_neg h2]; simp [h2]
  · rw [if_neg h]; simp [h]

set_option maxHeartbeats 800000 in
theorem marked_any (w : World) (V vl vm : Value) (T : Th) (l : List Int) (M : List Nat) (hT : RdTh w V T) (hl : RdI w vl l) (hm : RdMk w vm M) :
    Calls Try.prog 57 #[V, vl, vm] w (Ret fun v w' => v = .int .i64 (markedErr T l M.length) ∧ Below w.heap.size w w') := by
  have HT := hid hT
  obtain ⟨vF, vR, vB, rfl, hF, hR, hB⟩ := hT
  obtain ⟨A, cM, rfl, hcM, hbM, hrM⟩ := hm
  clear hrM
  have Hgiv : Hid (∀ c, givenErr T l = c → markedErr T l M.length = if c = 0 then (if (M.length : Int) = T.lits then 0 else 3) else c) := fun c hc => by rw [markedErr, hc]
  obtain ⟨c, Hc⟩ : ∃ c, Hid (givenErr T l = c) := ⟨_, hid rfl⟩
  generalize M.length = n at *
  have hbel := ext_alloc w (.cells #[.int .i64 T.lits, vF, vR, vB] 25)
  have hch := given_any (w.alloc (.cells #[.int .i64 T.lits, vF, vR, vB] 25)) _ vl T l (HT.out.ext hbel) (hl.ext (scR_mono _) hbel)
  rw [Hc.out] at hch
  have Hch := hid hch
  have hbox : ∀ w2, Below (w.alloc (.cells #[.int .i64 T.lits, vF, vR, vB] 25)).heap.size (w.alloc (.cells #[.int .i64 T.lits, vF, vR, vB] 25)) w2 → w2.cell? ⟨w.heap.size, 0, none⟩ = some (.int .i64 T.lits) := fun w2 hb => (box4 hb).1
  have Hbox := hid hbox
  clear hch hbox hF hR hB
  refine post_gen fun Q HQ => ?_
  rw [Hgiv.out c Hc.out] at HQ
  go_enter Try.func57, Try.ntmps57
  go_wp2_with fail
  refine Hch.out.mono ?_
  rintro e w2 ⟨_, rfl, rfl, hb2⟩
  have b0 := Hbox.out w2 hb2
  have hb3 := ext_trans hbel hb2
  by_cases h : c = 0
  · rw [if_pos h] at HQ
    subst h
    by_cases h2 : (n : Int) = T.lits
    · rw [if_pos h2] at HQ
      have hne : ((n : Int) != T.lits) = false := by simp [h2]
      have H2 := hid h2
      clear h2
      go_wp2_with fail
      go_ret
      exact Fin HQ ⟨rfl, hb3⟩
    · rw [if_neg h2] at HQ
      have hne : ((n : Int) != T.lits) = true := by simp [h2]
      have H2 := hid h2
      clear h2
      go_wp2_with fail
      go_ret
      exact Fin HQ ⟨rfl, hb3⟩
  · rw [if_neg h] at HQ
    have hne : (c != 0) = true := by simp [h]
    go_wp2_with fail
    go_ret
    exact Fin HQ ⟨rfl, hb3⟩

/-- What a slice of marks of the call's own reads as. -/
theorem own_marks {w : World} {base : Nat} {v : Value} {M : List Nat} (h : w.ownsRow base 33 1 v M.length (marksV M)) (hl : M.length ≤ 140737488355328) : RdMk w v M := own_rdS h hl

set_option maxHeartbeats 800000 in
theorem solve_any (w : World) (V vl : Value) (T : Th) (l : List Int) (hT : RdTh w V T) (hl : RdI w vl l) :
    Calls Try.prog 20 #[V, vl] w (Ret fun r w' => ∃ v, r = .tuple #[v, .int .i64 (givenErr T l)] ∧ (givenErr T l = 0 → w'.ownsRow w.heap.size 33 1 v (solveM T l).length (marksV (solveM T l))) ∧ (givenErr T l ≠ 0 → v = .slice none 0 0) ∧ Below w.heap.size w w') := by
  have HT := hid hT
  obtain ⟨vF, vR, vB, rfl, hF, hR, hB⟩ := hT
  have hbel := ext_alloc w (.cells #[.int .i64 T.lits, vF, vR, vB] 25)
  have hch := given_any (w.alloc (.cells #[.int .i64 T.lits, vF, vR, vB] 25)) _ vl T l (HT.out.ext hbel) (hl.ext (scR_mono _) hbel)
  have Hok := hid (@givenErr_ok T l)
  clear hF hR hB
  generalize givenErr T l = c at *
  refine post_gen fun Q HQ => ?_
  go_enter Try.func20, Try.ntmps20
  go_wp2_with fail
  refine hch.mono ?_
  rintro e w2 ⟨_, rfl, rfl, hb2'⟩
  obtain ⟨b0, b1, b2, b3⟩ := box4 hb2'
  have hb2 := ext_trans hbel hb2'
  clear hb2'
  by_cases h : c = 0
  · subst h
    have hw := Hok.out.1 rfl
    have Hrun := hid (run_any w2 _ vl T l (HT.out.ext hb2) hw.1 (hl.ext (scR_mono _) hb2) hw.2)
    clear hw
    go_wp2_with fail
    refine Hrun.out.mono ?_
    rintro e w3 ⟨_, rfl, k, v, rfl, h1, h2, h3, hb3⟩
    go_wp2_with fail
    go_ret2
    refine Fin HQ ⟨v, rfl, fun _ => ?_, fun h => absurd rfl h, ext_trans hb2 hb3⟩
    rw [solve_run h2 h3] at h1
    rw [solve_length]
    exact own_mono h1 hb2.size
  · have hne : (c != 0) = true := by simp [h]
    go_wp2_with fail
    go_ret2
    exact Fin HQ ⟨_, rfl, fun e => absurd e h, fun _ => rfl, hb2⟩

set_option maxHeartbeats 800000 in
theorem roundTop_any (w : World) (V vl vm : Value) (T : Th) (l : List Int) (M : List Nat) (hT : RdTh w V T) (hl : RdI w vl l) (hm : RdMk w vm M) (h8 : ∀ x ∈ M, x < 256) :
    Calls Try.prog 22 #[V, vl, vm] w (Ret fun r w' => ∃ v, r = .tuple #[v, .int .i64 (markedErr T l M.length)] ∧ (markedErr T l M.length = 0 → w'.ownsRow w.heap.size 33 1 v M.length (marksV (stepM T l M))) ∧ (markedErr T l M.length ≠ 0 → v = .slice none 0 0) ∧ Below w.heap.size w w') := by
  have HT := hid hT
  obtain ⟨vF, vR, vB, rfl, hF, hR, hB⟩ := hT
  have hbel := ext_alloc w (.cells #[.int .i64 T.lits, vF, vR, vB] 25)
  have hch := marked_any (w.alloc (.cells #[.int .i64 T.lits, vF, vR, vB] 25)) _ vl vm T l M (HT.out.ext hbel) (hl.ext (scR_mono _) hbel) (hm.ext (scR_mono _) hbel)
  have Hok := hid (@markedErr_ok T l M.length)
  have Hm := hid hm
  have H8 := hid h8
  clear hF hR hB hm h8
  generalize markedErr T l M.length = c at *
  refine post_gen fun Q HQ => ?_
  go_enter Try.func22, Try.ntmps22
  go_wp2_with fail
  refine hch.mono ?_
  rintro e w2 ⟨_, rfl, rfl, hb2'⟩
  obtain ⟨b0, b1, b2, b3⟩ := box4 hb2'
  have hb2 := ext_trans hbel hb2'
  clear hb2'
  by_cases h : c = 0
  · subst h
    obtain ⟨hw1, hw2⟩ := Hok.out.1 rfl
    have hw := givenErr_ok.1 hw1
    have hfl := hw.1.fl
    have Hlen : Hid (M.length = T.foes.length) := hid (by omega)
    have Hnew := hid (newWorld_any w2 _ vl vm T l M (HT.out.ext hb2) hw.1 (hl.ext (scR_mono _) hb2) hw.2 (Hm.out.ext (scR_mono _) hb2))
    have Hval := hid (nval hw.1 l M Hlen.out H8.out)
    clear hw1 hw2 hw hfl
    go_wp2_with fail
    refine Hnew.out.mono ?_
    rintro e w3 ⟨_, rfl, b, rfl, hbb, hnw, hb3⟩
    have Hr := hid (round_any w3 b T _ _ _ hnw.nw Hval.out)
    have hb4 := ext_trans hb2 hb3
    clear hnw
    go_wp2_with fail
    refine Hr.out.mono ?_
    rintro e w4 ⟨v, rfl, hown, hb5⟩
    go_wp2_with fail
    go_ret2
    exact Fin HQ ⟨v, rfl, fun _ => own_mono hown hb4.size, fun h => absurd rfl h, ext_trans hb4 hb5⟩
  · have hne : (c != 0) = true := by simp [h]
    go_wp2_with fail
    go_ret2
    exact Fin HQ ⟨_, rfl, fun e => absurd e h, fun _ => rfl, hb2⟩
end Go.Proofs.Lx
