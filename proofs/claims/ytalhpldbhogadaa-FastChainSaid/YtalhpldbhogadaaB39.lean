/- Parts of the proof: Nk, Ep. Contracts of naive.given, marked, Solve, Round, Rounds. -/
import Derived.Test.YtalhpldbhogadaaB38
import Derived.Test.YtalhpldbhogadaaB15
namespace Go.Proofs.Lx
open Go Go.RowKit
set_option linter.unusedSimpArgs false
set_option linter.unusedVariables false

def factsErr (T : Th) (l : List Int) : Int := if risB l T.lits = true then 0 else 181
/-- The first error of a theory and facts. -/
noncomputable def givenErr (T : Th) (l : List Int) : Int := if checkErr T = 0 then factsErr T l else checkErr T
theorem givenErr_ok {T : Th} {l : List Int} : givenErr T l = 0 ↔ WfTh T ∧ risB l T.lits = true := by
  unfold givenErr factsErr
  rw [← checkErr_ok]
  by_cases h : checkErr T = 0
  · rw [if_pos h]
    by_cases h2 : risB l T.lits = true
    · simp [h, h2]
    · rw [if_neg h2]; simp [h2]
  · rw [if_neg h]; simp [h]

set_option maxHeartbeats 800000 in
theorem facts_any (w : World) (V vl : Value) (T : Th) (l : List Int) (hT : RdTh w V T) (hl : RdI w vl l) :
    Calls Try.prog 84 #[V, vl] w (Ret fun v w' => v = .int .i64 (factsErr T l) ∧ Below w.heap.size w w') := by
  obtain ⟨vF, vR, vB, rfl, hF, hR, hB⟩ := hT
  have hl' := hl.ext (scR_mono _) (ext_alloc w (.cells #[.int .i64 T.lits, vF, vR, vB] 25))
  have hcall := hid (rising_any _ vl l T.lits hl')
  have hbel := ext_alloc w (.cells #[.int .i64 T.lits, vF, vR, vB] 25)
  clear hl'
  refine post_gen fun Q HQ => ?_
  go_enter Try.func84, Try.ntmps84
  go_wp2_with fail
  refine hcall.out.mono ?_
  rintro e w2 ⟨_, rfl, rfl, rfl⟩
  unfold factsErr at HQ
  cases h : risB l T.lits with
  | true =>
    rw [h] at HQ
    go_wp2_with fail
    go_ret
    exact Fin HQ ⟨rfl, hbel⟩
  | false =>
    rw [h] at HQ
    go_wp2_with fail
    go_ret
    exact Fin HQ ⟨rfl, hbel⟩

theorem box4 {w w2 : World} {v0 v1 v2 v3 : Value} {ty : TypeId} (hb : Below (w.alloc (.cells #[v0, v1, v2, v3] ty)).heap.size (w.alloc (.cells #[v0, v1, v2, v3] ty)) w2) :
    w2.cell? ⟨w.heap.size, 0, none⟩ = some v0 ∧ w2.cell? ⟨w.heap.size, 1, none⟩ = some v1 ∧ w2.cell? ⟨w.heap.size, 2, none⟩ = some v2 ∧ w2.cell? ⟨w.heap.size, 3, none⟩ = some v3 := by
  rw [World.size_alloc] at hb
  exact ⟨box_cell hb 0, box_cell hb 1, box_cell hb 2, box_cell hb 3⟩

set_option maxHeartbeats 800000 in
theorem given_any (w : World) (V vl : Value) (T : Th) (l : List Int) (hT : RdTh w V T) (hl : RdI w vl l) :
    Calls Try.prog 55 #[V, vl] w (Ret fun v w' => v = .int .i64 (givenErr T l) ∧ Below w.heap.size w w') := by
  have HT := hid hT
  obtain ⟨vF, vR, vB, rfl, hF, hR, hB⟩ := hT
  have Hgiv : Hid (∀ c, checkErr T = c → givenErr T l = if c = 0 then factsErr T l else c) := fun c hc => by rw [givenErr, hc]
  obtain ⟨c, Hc⟩ : ∃ c, Hid (checkErr T = c) := ⟨_, hid rfl⟩
  have hbel := ext_alloc w (.cells #[.int .i64 T.lits, vF, vR, vB] 25)
  have hch := check_any (w.alloc (.cells #[.int .i64 T.lits, vF, vR, vB] 25)) _ T (HT.out.ext hbel)
  rw [Hc.out] at hch
  have Hch := hid hch
  clear hch hF hR hB
  refine post_gen fun Q HQ => ?_
  rw [Hgiv.out c Hc.out] at HQ
  go_enter Try.func55, Try.ntmps55
  go_wp2_with fail
  refine Hch.out.mono ?_
  rintro e w2 ⟨_, rfl, ⟨i, rfl⟩, hb2'⟩
  obtain ⟨b0, b1, b2, b3⟩ := box4 hb2'
  have hb2 := ext_trans hbel hb2'
  clear hb2'
  by_cases h : c = 0
  · rw [if_pos h] at HQ
    subst h
    have Hf := hid (facts_any w2 _ vl T l (HT.out.ext hb2) (hl.ext (scR_mono _) hb2))
    go_wp2_with fail
    refine Hf.out.mono ?_
    rintro e w3 ⟨_, rfl, rfl, hb3⟩
    go_wp2_with fail
    go_ret
    exact Fin HQ ⟨rfl, ext_trans hb2 hb3⟩
  · rw [if_neg h] at HQ
    have hne : (c != 0) = true := by simp [h]
    go_wp2_with fail
    go_ret
    exact Fin HQ ⟨rfl, hb2⟩

/-- .. and of a mark list. -/
noncomputable def markedErr (T : Th) (l : List Int) (n : Nat) : Int := if givenErr T l = 0 then (if (n : Int) = T.lits then 0 else 3) else givenErr T l
theorem markedErr_ok {T : Th} {l : List Int} {n : Nat} : markedErr T l n = 0 ↔ givenErr T l = 0 ∧ (n : Int) = T.lits := by
  unfold markedErr
  by_cases h : givenErr T l = 0
  · rw [if_pos h]
    by_cases h2 : (n : Int) = T.lits
    · simp [h, h2]
    · rw [if_neg h2]; simp [h2]
  · rw [if_neg h]; simp [h]

set_option maxHeartbeats 800000 in
theorem marked_any (w : World) (V vl vm : Value) (T : Th) (l : List Int) (M : List Nat) (hT : RdTh w V T) (hl : RdI w vl l) (hm : RdMk w vm M) :
    Calls Try.prog 57 #[V, vl, vm] w (Ret fun v w' => v = .int .i64 (markedErr T l M.length) ∧ Below w.heap.size w w') := by
  have HT := hid hT
  obtain ⟨vF, vR, vB, rfl, hF, hR, hB⟩ := hT
  obtain ⟨A, cM, rfl, hcM, hbM, hrM⟩ := hm
  clear hrM
  have Hgiv : Hid (∀ c, givenErr T l = c → markedErr T l M.length = if c = 0 then (if (M.length : Int) = T.lits then 0 else 3) else c) := fun c hc => by rw [markedErr, hc]
  obtain ⟨c, Hc⟩ : ∃ c, Hid (givenErr T l = c) := ⟨_, hid rfl⟩
  generalize M.length = n at *
  have hbel := ext_alloc w (.cells #[.int .i64 T.lits, vF, vR, vB] 25)
  have hch := given_any (w.alloc (.cells #[.int .i64 T.lits, vF, vR, vB] 25)) _ vl T l (HT.out.ext hbel) (hl.ext (scR_mono _) hbel)
  rw [Hc.out] at hch
  have Hch := hid hch
  have hbox : ∀ w2, Below (w.alloc (.cells #[.int .i64 T.lits, vF, vR, vB] 25)).heap.size (w.alloc (.cells #[.int .i64 T.lits, vF, vR, vB] 25)) w2 → w2.cell? ⟨w.heap.size, 0, none⟩ = some (.int .i64 T.lits) := fun w2 hb => (box4 hb).1
  have Hbox := hid hbox
  clear hch hbox hF hR hB
  refine post_gen fun Q HQ => ?_
  rw [Hgiv.out c Hc.out] at HQ
  go_enter Try.func57, Try.ntmps57
  go_wp2_with fail
  refine Hch.out.mono ?_
  rintro e w2 ⟨_, rfl, rfl, hb2⟩
  have b0 := Hbox.out w2 hb2
  have hb3 := ext_trans hbel hb2
  by_cases h : c = 0
  · rw [if_pos h] at HQ
    subst h
    by_cases h2 : (n : Int) = T.lits
    · rw [if_pos h2] at HQ
      have hne : ((n : Int) != T.lits) = false := by simp [h2]
      have H2 := hid h2
      clear h2
      go_wp2_with fail
      go_ret
      exact Fin HQ ⟨rfl, hb3⟩
    · rw [if_neg h2] at HQ
      have hne : ((n : Int) != T.lits) = true := by simp [h2]
      have H2 := hid h2
      clear h2
      go_wp2_with fail
      go_ret
      exact Fin HQ ⟨rfl, hb3⟩
  · rw [if_neg h] at HQ
    have hne : (c != 0) = true := by simp [h]
    go_wp2_with fail
    go_ret
    exact Fin HQ ⟨rfl, hb3⟩

/-- What a slice of marks of the call's own reads as. -/
theorem own_marks {w : World} {base : Nat} {v : Value} {M : List Nat} (h : w.ownsRow base 33 1 v M.length (marksV M)) (hl : M.length ≤ 140737488355328) : RdMk w v M := own_rdS h hl

set_option maxHeartbeats 800000 in
theorem solve_any (w : World) (V vl : Value) (T : Th) (l : List Int) (hT : RdTh w V T) (hl : RdI w vl l) :
    Calls Try.prog 20 #[V, vl] w (Ret fun r w' => ∃ v, r = .tuple #[v, .int .i64 (givenErr T l)] ∧ (givenErr T l = 0 → w'.ownsRow w.heap.size 33 1 v (solveM T l).length (marksV (solveM T l))) ∧ (givenErr T l ≠ 0 → v = .slice none 0 0) ∧ Below w.heap.size w w') := by
  have HT := hid hT
  obtain ⟨vF, vR, vB, rfl, hF, hR, hB⟩ := hT
  have hbel := ext_alloc w (.cells #[.int .i64 T.lits, vF, vR, vB] 25)
  have hch := given_any (w.alloc (.cells #[.int .i64 T.lits, vF, vR, vB] 25)) _ vl T l (HT.out.ext hbel) (hl.ext (scR_mono _) hbel)
  have Hok := hid (@givenErr_ok T l)
  clear hF hR hB
  generalize givenErr T l = c at *
  refine post_gen fun Q HQ => ?_
  go_enter Try.func20, Try.ntmps20
  go_wp2_with fail
  refine hch.mono ?_
  rintro e w2 ⟨_, rfl, rfl, hb2'⟩
  obtain ⟨b0, b1, b2, b3⟩ := box4 hb2'
  have hb2 := ext_trans hbel hb2'
  clear hb2'
  by_cases h : c = 0
  · subst h
    have hw := Hok.out.1 rfl
    have Hrun := hid (run_any w2 _ vl T l (HT.out.ext hb2) hw.1 (hl.ext (scR_mono _) hb2) hw.2)
    clear hw
    go_wp2_with fail
    refine Hrun.out.mono ?_
    rintro e w3 ⟨_, rfl, k, v, rfl, h1, h2, h3, hb3⟩
    go_wp2_with fail
    go_ret2
    refine Fin HQ ⟨v, rfl, fun _ => ?_, fun h => absurd rfl h, ext_trans hb2 hb3⟩
    rw [solve_run h2 h3] at h1
    rw [solve_length]
    exact own_mono h1 hb2.size
  · have hne : (c != 0) = true := by simp [h]
    go_wp2_with fail
    go_ret2
    exact Fin HQ ⟨_, rfl, fun e => absurd e h, fun _ => rfl, hb2⟩

set_option maxHeartbeats 800000 in
theorem roundTop_any (w : World) (V vl vm : Value) (T : Th) (l : List Int) (M : List Nat) (hT : RdTh w V T) (hl : RdI w vl l) (hm : RdMk w vm M) (h8 : ∀ x ∈ M, x < 256) :
    Calls Try.prog 22 #[V, vl, vm] w (Ret fun r w' => ∃ v, r = .tuple #[v, .int .i64 (markedErr T l M.length)] ∧ (markedErr T l M.length = 0 → w'.ownsRow w.heap.size 33 1 v M.length (marksV (stepM T l M))) ∧ (markedErr T l M.length ≠ 0 → v = .slice none 0 0) ∧ Below w.heap.size w w') := by
  have HT := hid hT
  obtain ⟨vF, vR, vB, rfl, hF, hR, hB⟩ := hT
  have hbel := ext_alloc w (.cells #[.int .i64 T.lits, vF, vR, vB] 25)
  have hch := marked_any (w.alloc (.cells #[.int .i64 T.lits, vF, vR, vB] 25)) _ vl vm T l M (HT.out.ext hbel) (hl.ext (scR_mono _) hbel) (hm.ext (scR_mono _) hbel)
  have Hok := hid (@markedErr_ok T l M.length)
  have Hm := hid hm
  have H8 := hid h8
  clear hF hR hB hm h8
  generalize markedErr T l M.length = c at *
  refine post_gen fun Q HQ => ?_
  go_enter Try.func22, Try.ntmps22
  go_wp2_with fail
  refine hch.mono ?_
  rintro e w2 ⟨_, rfl, rfl, hb2'⟩
  obtain ⟨b0, b1, b2, b3⟩ := box4 hb2'
  have hb2 := ext_trans hbel hb2'
  clear hb2'
  by_cases h : c = 0
  · subst h
    obtain ⟨hw1, hw2⟩ := Hok.out.1 rfl
    have hw := givenErr_ok.1 hw1
    have hfl := hw.1.fl
    have Hlen : Hid (M.length = T.foes.length) := hid (by omega)
    have Hnew := hid (newWorld_any w2 _ vl vm T l M (HT.out.ext hb2) hw.1 (hl.ext (scR_mono _) hb2) hw.2 (Hm.out.ext (scR_mono _) hb2))
    have Hval := hid (nval hw.1 l M Hlen.out H8.out)
    clear hw1 hw2 hw hfl
    go_wp2_with fail
    refine Hnew.out.mono ?_
    rintro e w3 ⟨_, rfl, b, rfl, hbb, hnw, hb3⟩
    have Hr := hid (round_any w3 b T _ _ _ hnw.nw Hval.out)
    have hb4 := ext_trans hb2 hb3
    clear hnw
    go_wp2_with fail
    refine Hr.out.mono ?_
    rintro e w4 ⟨v, rfl, hown, hb5⟩
    go_wp2_with fail
    go_ret2
    exact Fin HQ ⟨v, rfl, fun _ => own_mono hown hb4.size, fun h => absurd rfl h, ext_trans hb4 hb5⟩
  · have hne : (c != 0) = true := by simp [h]
    go_wp2_with fail
    go_ret2
    exact Fin HQ ⟨_, rfl, fun e => absurd e h, fun _ => rfl, hb2⟩
end Go.Proofs.Lx

namespace Go.Proofs.Lx
open Go Go.RowKit Go.Proofs.Tj Go.Shelf
set_option linter.unusedVariables false
set_option linter.unusedSimpArgs false

section
variable {w w' W0 : World} {G : Gh} {S : Stc} {T : Th} {D : Dyn} {vT : Value}
theorem Agr.of_alloc (w : World) (o : Obj) (F : Nat → Prop) : Agr F w (w.alloc o) := Agr.of_below (ext_alloc w o) F
theorem Agr.of_put (w : World) (l : Nat) (o : Obj) : Agr (fun k => k = l) w (w.putObj l o) := ⟨rfl, rfl, rfl, by simp, fun k _ hk => World.putObj_heap_other hk⟩
/-- A new block is laid beside the engine. -/
theorem EngV.addX1 (h : EngV w W0 G S T D vT) {l : List (Nat × Obj)} (hx : G.x1 = .blks l) (o : Obj) : EngV (w.alloc o) W0 { G with x1 := .blks ((w.heap.size, o) :: l) } S T D vT := by
  refine ⟨h.sp.step (C' := contE { G with x1 := .blks ((w.heap.size, o) :: l) } S D vT) .x1 (fun j hj => by cases j <;> first | rfl | exact absurd rfl hj) (Agr.of_alloc w o _) ?_ ?_, h.st, h.rF, h.rR, h.rB⟩
  · have hok : (contE G S D vT .x1).ok W0.heap.size w := h.sp.ok .x1
    have hok : Cont.ok W0.heap.size w (.blks l) := hx ▸ hok
    intro k o' hm
    rcases List.mem_cons.1 hm with e | e
    · cases e; exact ⟨h.sp.old.size, heap_alloc_new w o⟩
    · exact ⟨(hok k o' e).1, (Below.heap_alloc w o k (lt_of_obj (hok k o' e).2)).trans (hok k o' e).2⟩
  · rintro g ⟨o', hm⟩
    rcases List.mem_cons.1 hm with e | e
    · cases e; exact .inr (Nat.le_refl _)
    · refine .inl ?_
      show (contE G S D vT .x1).fp g
      have : (contE G S D vT .x1) = .blks l := hx
      rw [this]; exact ⟨o', e⟩
theorem EngV.startX1 (h : EngV w W0 G S T D vT) (hx : G.x1 = .no) : EngV w W0 { G with x1 := .blks [] } S T D vT := by
  refine ⟨h.sp.step (C' := contE { G with x1 := .blks [] } S D vT) .x1 (fun j hj => by cases j <;> first | rfl | exact absurd rfl hj) (Agr.of_below (ext_refl w) _) (fun k o' hm => absurd hm (by simp)) ?_, h.st, h.rF, h.rR, h.rB⟩
  rintro g ⟨o', hm⟩; simp at hm
theorem EngV.getX1 (h : EngV w W0 G S T D vT) {l : List (Nat × Obj)} (hx : G.x1 = .blks l) {k : Nat} {o : Obj} (hm : (k, o) ∈ l) : w.heap[k]? = some o := by
  have hok : (contE G S D vT .x1).ok W0.heap.size w := h.sp.ok .x1
  have hok : Cont.ok W0.heap.size w (.blks l) := hx ▸ hok
  exact (hok k o hm).2
theorem EngV.getX2 (h : EngV w W0 G S T D vT) {l : List (Nat × Obj)} (hx : G.x2 = .blks l) {k : Nat} {o : Obj} (hm : (k, o) ∈ l) : w.heap[k]? = some o := by
  have hok : (contE G S D vT .x2).ok W0.heap.size w := h.sp.ok .x2
  have hok : Cont.ok W0.heap.size w (.blks l) := hx ▸ hok
  exact (hok k o hm).2
/-- The loop's two blocks are laid beside the engine. -/
theorem EngV.addX2 (h : EngV w W0 G S T D vT) (hx : G.x2 = .no) (o1 o2 : Obj) : EngV ((w.alloc o1).alloc o2) W0 { G with x2 := .blks [(w.heap.size, o1), (w.heap.size + 1, o2)] } S T D vT := by
  have hb : Below w.heap.size w ((w.alloc o1).alloc o2) := ext_trans (ext_alloc w o1) (ext_alloc _ o2)
  refine ⟨h.sp.step (C' := contE { G with x2 := .blks [(w.heap.size, o1), (w.heap.size + 1, o2)] } S D vT) .x2 (fun j hj => by cases j <;> first | rfl | exact absurd rfl hj) (Agr.of_below hb _) ?_ ?_, h.st, h.rF, h.rR, h.rB⟩
  · intro k o' hm
    simp only [List.mem_cons, Prod.mk.injEq, List.not_mem_nil, or_false] at hm
    rcases hm with ⟨rfl, rfl⟩ | ⟨rfl, rfl⟩
    · exact ⟨h.sp.old.size, (Below.heap_alloc _ _ _ (by simp)).trans (heap_alloc_new w _)⟩
    · refine ⟨Nat.le_succ_of_le h.sp.old.size, ?_⟩
      have := heap_alloc_new (w.alloc o1) o'
      rwa [World.size_alloc] at this
  · rintro g ⟨o', hm⟩
    simp only [List.mem_cons, Prod.mk.injEq, List.not_mem_nil, or_false] at hm
    rcases hm with ⟨rfl, rfl⟩ | ⟨rfl, rfl⟩
    · exact .inr (Nat.le_refl _)
    · exact .inr (Nat.le_succ _)
/-- The second of them turns. -/
theorem EngV.turnX2 (h : EngV w W0 G S T D vT) {d l : Nat} {o1 o2 : Obj} (hx : G.x2 = .blks [(d, o1), (l, o2)]) (hdl : d ≠ l) (o : Obj) : EngV (w.putObj l o) W0 { G with x2 := .blks [(d, o1), (l, o)] } S T D vT := by
  have hok : (contE G S D vT .x2).ok W0.heap.size w := h.sp.ok .x2
  have hok : Cont.ok W0.heap.size w (.blks [(d, o1), (l, o2)]) := hx ▸ hok
  have hC : contE G S D vT .x2 = .blks [(d, o1), (l, o2)] := hx
  refine ⟨h.sp.step (C' := contE { G with x2 := .blks [(d, o1), (l, o)] } S D vT) .x2 (fun j hj => by cases j <;> first | rfl | exact absurd rfl hj) ((Agr.of_put w l o).mono fun k e => by rw [hC]; exact ⟨o2, by rw [e]; simp⟩) ?_ ?_, h.st, h.rF, h.rR, h.rB⟩
  · intro k o' hm
    simp only [List.mem_cons, Prod.mk.injEq, List.not_mem_nil, or_false] at hm
    rcases hm with ⟨rfl, rfl⟩ | ⟨rfl, rfl⟩
    · have := hok k o' (by simp)
      exact ⟨this.1, (World.putObj_heap_other hdl).trans this.2⟩
    · have := hok k o2 (by simp)
      exact ⟨this.1, World.putObj_heap_same (lt_of_obj this.2)⟩
  · rintro g ⟨o', hm⟩
    refine .inl ?_
    rw [hC]
    simp only [List.mem_cons, Prod.mk.injEq, List.not_mem_nil, or_false] at hm
    rcases hm with ⟨rfl, rfl⟩ | ⟨rfl, rfl⟩
    · exact ⟨o', by simp⟩
    · exact ⟨o2, by simp⟩
end
/-- The first of them turns. -/
theorem EngV.turnX2a {w W0 : World} {G : Gh} {S : Stc} {T : Th} {D : Dyn} {vT : Value} (h : EngV w W0 G S T D vT) {d l : Nat} {o1 o2 : Obj} (hx : G.x2 = .blks [(d, o1), (l, o2)]) (hdl : d ≠ l) (o : Obj) : EngV (w.putObj d o) W0 { G with x2 := .blks [(d, o), (l, o2)] } S T D vT := by
  have hok : (contE G S D vT .x2).ok W0.heap.size w := h.sp.ok .x2
  have hok : Cont.ok W0.heap.size w (.blks [(d, o1), (l, o2)]) := hx ▸ hok
  have hC : contE G S D vT .x2 = .blks [(d, o1), (l, o2)] := hx
  refine ⟨h.sp.step (C' := contE { G with x2 := .blks [(d, o), (l, o2)] } S D vT) .x2 (fun j hj => by cases j <;> first | rfl | exact absurd rfl hj) ((Agr.of_put w d o).mono fun k e => by rw [hC]; exact ⟨o1, by rw [e]; simp⟩) ?_ ?_, h.st, h.rF, h.rR, h.rB⟩
  · intro k o' hm
    simp only [List.mem_cons, Prod.mk.injEq, List.not_mem_nil, or_false] at hm
    rcases hm with ⟨rfl, rfl⟩ | ⟨rfl, rfl⟩
    · have := hok k o1 (by simp)
      exact ⟨this.1, World.putObj_heap_same (lt_of_obj this.2)⟩
    · have := hok k o' (by simp)
      exact ⟨this.1, (World.putObj_heap_other (fun e => hdl e.symm)).trans this.2⟩
  · rintro g ⟨o', hm⟩
    refine .inl ?_
    rw [hC]
    simp only [List.mem_cons, Prod.mk.injEq, List.not_mem_nil, or_false] at hm
    rcases hm with ⟨rfl, rfl⟩ | ⟨rfl, rfl⟩
    · exact ⟨o1, by simp⟩
    · exact ⟨o', by simp⟩

/-- The frame of a round of run. -/
def engFr (t : Array Value) (k q tag B : Nat) : Act := { tmps := (((t.setIfInBounds 33 (.int .i64 (k : Int))).setIfInBounds 34 (.agg #[.int .i64 (q : Int), .int .i64 (tag : Int)])).setIfInBounds 8 (.int .i64 (k : Int))).setIfInBounds 9 (.pointer (some ⟨B, 0, none⟩)), defers := [] }
/-- How a round's body is left. -/
def RoundEnd (R : World → Prop) : Exit → Act → World → Prop
  | .normal, _, w => R w
  | _, _, _ => False
theorem erange {g : Operand} {ps : Array Tmp} {assign body : Code} {Q : Exit → Act → World → Prop} {a : Act} {w : World} (n : Nat) (hn : 4 ≤ n) {bn : Nat} {W0 : World} {G : Gh} {S : Stc} {T : Th} {D0 : Dyn}
    (hg : a.eval g = .func (.func 152) #[] #[.pointer (some ⟨bn, 0, none⟩)]) (hps : ps.size = 2)
    (h0 : Eng w W0 G S T D0) (hx2 : G.x2 = .no) (hbn : bn ≠ G.b) (hti : ∀ k, TI S.n (iterD S D0 k))
    (hbox : ∀ (X2 : Cont) w, (∃ D, Eng w W0 { G with x2 := X2 } S T D) → w.cell? ⟨bn, 0, none⟩ = some (.pointer (some ⟨G.b, 0, none⟩)))
    (hround : ∀ (l : Nat) (X2 : Cont) (W : World) (k q tag : Nat), Eng W W0 { G with x2 := X2 } S T (tick (iterD S D0 k) 1) → (iterD S D0 k).told[k]? = some (q, tag) →
      assign.wpIn (Fence.wide.inRound l) (n - 1 - 1) Try.prog (Exit.then (fun a₁ W₁ => Eng W₁ W0 { G with x2 := X2 } S T (tick (iterD S D0 k) 1) ∧ ∃ B, a₁ = engFr a.tmps k q tag B ∧ W₁.heap[B]? = some (.cells #[.int .i64 (q : Int), .int .i64 (tag : Int)] 112 (0, 0))) (fun _ _ _ => False))
        { tmps := (ps.zip #[.int .i64 (k : Int), .agg #[.int .i64 (q : Int), .int .i64 (tag : Int)]]).foldl (fun t (p, v) => t.setIfInBounds p v) a.tmps, defers := [] } W)
    (hbody : ∀ (l : Nat) (X2 : Cont) (W : World) (k q tag B : Nat), Eng W W0 { G with x2 := X2 } S T (tick (iterD S D0 k) 1) → (iterD S D0 k).told[k]? = some (q, tag) → W.heap[B]? = some (.cells #[.int .i64 (q : Int), .int .i64 (tag : Int)] 112 (0, 0)) →
      body.wpIn (Fence.wide.inRound l) (n - 1 - 1) Try.prog (RoundEnd fun W' => Eng W' W0 { G with x2 := X2 } S T (iterD S D0 (k + 1))) (engFr a.tmps k q tag B) W)
    (hdone : ∀ (d l : Nat) (o : Obj) (W : World) (k : Nat), d ≠ l → (iterD S D0 k).told.length ≤ k → (∀ j, j < k → j < (iterD S D0 j).told.length) → Eng W W0 { G with x2 := .blks [(d, .deferred (some [])), (l, o)] } S T (iterD S D0 k) →
      Q .normal { a with defers := { target := .collected d, args := #[] } :: a.defers } W) :
    (Code.rangeFunc g ps assign body).wpIn Fence.wide n Try.prog Q a w := by
  refine wpIn_rangeFunc ?_
  intro fn hfn
  obtain ⟨rec, hrec⟩ : ∃ rec : LoopState → Option Code → Loop, rec = fun st pe => { state := st, pending := pe, fn, tmps := a.tmps, params := ps, assign, body, defers := w.heap.size } := ⟨_, rfl⟩
  obtain ⟨W1, hW1⟩ : ∃ W1, (w.alloc (.deferred (some []))).alloc (.loop (rec .ready none)) = W1 := ⟨_, rfl⟩
  obtain ⟨vT, h0⟩ := h0
  have h1 := h0.addX2 hx2 (.deferred (some [])) (.loop (rec .ready none))
  rw [hW1] at h1
  refine ⟨w.heap.size + 1, [{ target := .collected w.heap.size, args := #[] }], W1, { target := .fn (.func 152) #[.pointer (some ⟨bn, 0, none⟩)], args := #[.func (.yield (w.heap.size + 1)) #[] #[]] }, W1, 152,
    #[.func (.yield (w.heap.size + 1)) #[] #[], .pointer (some ⟨bn, 0, none⟩)], W1, ?_, ?_, ?_, ?_, fun _ => by omega, ?_⟩
  · rw [← hW1, hrec]; exact run_enterLoop_outer _ _ _ _ _
  · simp only [resolve, hg]
    simp [go_sem]
  · intro f' hf'; trivial
  · simp [invoke, go_sem, enters_of Try.func152 (by kernel_rfl) rfl _ _]
  · refine (work1_in (n - 1) (w.heap.size + 1) bn (by omega) W1 W0 { G with x2 := .blks [(w.heap.size, .deferred (some [])), (w.heap.size + 1, .loop (rec .ready none))] } S T D0 hti (hbox _) hbn ?_ ⟨vT, h1⟩).mono ?_
    · -- one round
      rintro k W q tag ⟨v2, h2⟩ hx
      have hl : W.heap[w.heap.size + 1]? = some (.loop (rec .ready none)) := h2.getX2 rfl (by simp)
      have hy := run_yield (P := Try.prog) (args := #[.int .i64 (k : Int), .agg #[.int .i64 (q : Int), .int .i64 (tag : Int)]]) hl (by rw [hrec]; exact hps.symm)
      rw [hrec] at hy
      refine ⟨fn, _, assign, body, hy, roundIn_of_wpIn trivial (wpIn_mono (hround _ _ W k q tag ⟨v2, h2⟩ hx) ?_)⟩
      clear hy
      intro e a1 Wa hp
      cases e with
      | normal =>
        obtain ⟨⟨v3, h3⟩, B, rfl, hB⟩ := hp
        have hl3 : Wa.heap[w.heap.size + 1]? = some (.loop (rec .ready none)) := h3.getX2 rfl (by simp)
        refine ⟨_, run_beginRound hl3 (by rw [hrec]), ?_⟩
        have h4 := h3.turnX2 rfl (by omega) (.loop { rec .ready none with state := .busy })
        have hBne : B ≠ w.heap.size + 1 := fun e => by rw [e, hl3] at hB; cases hB
        refine wpIn_mono (hbody _ _ _ k q tag B ⟨v3, h4⟩ hx ((World.putObj_heap_other hBne).trans hB)) ?_
        intro e a3 W3 hp
        cases e with
        | normal =>
          obtain ⟨v5, h5⟩ := hp
          have hl5 : W3.heap[w.heap.size + 1]? = some (.loop { rec .ready none with state := .busy }) := h5.getX2 rfl (by simp)
          refine ⟨_, _, run_endRound none hl5, rfl, v5, ?_⟩
          have h6 := h5.turnX2 rfl (by omega) (.loop { { rec .ready none with state := .busy } with state := .ready, pending := none })
          have hre : ({ { rec .ready none with state := .busy } with state := .ready, pending := none } : Loop) = rec .ready none := by rw [hrec]
          rw [hre] at h6
          simp only [Option.isNone, if_true]
          rw [hre]
          exact h6
        | ret => exact hp.elim
        | exit id => exact hp.elim
        | goto t => exact hp.elim
        | panic ch => exact hp.elim
        | outgrown => exact hp.elim
      | ret => exact hp.elim
      | exit id => exact hp.elim
      | goto t => exact hp.elim
      | panic ch => exact hp.elim
      | outgrown => exact hp.elim
    · rintro e W2 ⟨⟨v, rfl⟩, k, hk1, hk2, v2, h2⟩
      have hl : W2.heap[w.heap.size + 1]? = some (.loop (rec .ready none)) := h2.getX2 rfl (by simp)
      refine ⟨none, _, by have := run_endLoop (P := Try.prog) hl (by rw [hrec]; simp); rw [hrec] at this; exact this, ?_⟩
      refine hdone w.heap.size (w.heap.size + 1) _ _ k (by omega) hk1 hk2 ⟨v2, h2.turnX2 rfl (by omega) _⟩
end Go.Proofs.Lx
