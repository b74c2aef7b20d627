/- Parts of the proof: Ac, Ad, Ae. The reference's engine (layer 19) in memory: New, become, Add, Drop, Set. -/
import Derived.Test.YtbidjiopnddldaaGreatP38
import Derived.Test.YtbidjiopnddldaaGreatP41
import Derived.Test.YtbidjiopnddldaaGreatP36
import Derived.Test.YtbidjiopnddldaaGreatP42
namespace Go.Proofs.Lx
open Go Go.RowKit Go.Proofs.Tj
set_option linter.unusedVariables false
set_option linter.unusedSimpArgs false
theorem wf_small {T : Th} (h : WfTh T) : Small T := by
 have h1 := h.fl
 have h2 := h.l1
 have h3 := h.rl
 have h4 := h.bl
 refine ⟨by omega, fun l hl => ?_, by omega, fun r hr => ?_, by omega, fun l hl => ?_⟩
 ·obtain ⟨q, hq, rfl⟩ := List.getElem_of_mem hl
  have := foesAll_true.1 h.fo q hq
  simp only [foesOk, Bool.and_eq_true, decide_eq_true_eq, List.getD_eq_getElem?_getD, List.getElem?_eq_getElem hq, Option.getD_some] at this
  omega
 ·have := h.ru r hr
  simp only [ruleOk, Bool.and_eq_true, decide_eq_true_eq] at this
  omega
 ·obtain ⟨i, hi, rfl⟩ := List.getElem_of_mem hl
  have := beatsAll_true.1 h.ba i hi
  simp only [beatsOk, Bool.and_eq_true, List.getD_eq_getElem?_getD, List.getElem?_eq_getElem hi, Option.getD_some] at this
  have := ris_len this.1
  omega
/-- The reference's engine: its block, the blocks on which it stands. -/
structure EngR (w : World) (b : Nat) (T : Th) (G : List Int) (Ft : Nat → Prop) : Prop where
 ex : ∃ vF vR vB vFa vM, w.heap[b]? = some (.cells #[.int .i64 T.lits, vF, vR, vB, vFa, vM] 43 (0, 0)) ∧
  ∀ W : World, (∀ g, Ft g → g ≠ b → W.heap[g]? = w.heap[g]?) → RdTh W (.agg #[.int .i64 T.lits, vF, vR, vB]) T ∧ RdI W vFa G ∧ RdMk W vM (solveM T G)
 ft : ∀ g, Ft g → g < w.heap.size
 fb : Ft b
section
variable {w w' : World} {b : Nat} {T : Th} {G : List Int} {Ft Fu : Nat → Prop}
theorem EngR.keep (h : EngR w b T G Ft) (hs : w.heap.size ≤ w'.heap.size) (hk : ∀ g, Ft g → w'.heap[g]? = w.heap[g]?) : EngR w' b T G Ft := by
 obtain ⟨vF, vR, vB, vFa, vM, h1, h2⟩ := h.ex
 exact ⟨⟨vF, vR, vB, vFa, vM, (hk b h.fb).trans h1, fun W hW => h2 W fun g hg hn => (hW g hg hn).trans (hk g hg)⟩, fun g hg => by have := h.ft g hg; omega, h.fb⟩
theorem EngR.ext (h : EngR w b T G Ft) (hb : Below w.heap.size w w') : EngR w' b T G Ft := h.keep hb.size fun g hg => hb.block g (h.ft g hg)
theorem EngR.more (h : EngR w b T G Ft) (h1 : ∀ g, Ft g → Fu g) (h2 : ∀ g, Fu g → g < w.heap.size) : EngR w b T G Fu := by
 obtain ⟨vF, vR, vB, vFa, vM, k1, k2⟩ := h.ex
 exact ⟨⟨vF, vR, vB, vFa, vM, k1, fun W hW => k2 W fun g hg => hW g (h1 g hg)⟩, h2, h1 _ h.fb⟩
theorem EngR.cells (h : EngR w b T G Ft) : ∃ vF vR vB vFa vM, w.heap[b]? = some (.cells #[.int .i64 T.lits, vF, vR, vB, vFa, vM] 43 (0, 0)) ∧ (w.cell? ⟨b, 0, none⟩ = some (.int .i64 T.lits) ∧ w.cell? ⟨b, 1, none⟩ = some vF ∧ w.cell? ⟨b, 2, none⟩ = some vR ∧ w.cell? ⟨b, 3, none⟩ = some vB ∧ w.cell? ⟨b, 4, none⟩ = some vFa ∧ w.cell? ⟨b, 5, none⟩ = some vM) ∧
  (RdTh w (.agg #[.int .i64 T.lits, vF, vR, vB]) T ∧ RdI w vFa G ∧ RdMk w vM (solveM T G)) ∧ ∀ W : World, (∀ g, Ft g → g ≠ b → W.heap[g]? = w.heap[g]?) → RdTh W (.agg #[.int .i64 T.lits, vF, vR, vB]) T := by
 obtain ⟨vF, vR, vB, vFa, vM, h1, h2⟩ := h.ex
 exact ⟨vF, vR, vB, vFa, vM, h1, ⟨cell_of_row _ _ 0 _ _ _ h1, cell_of_row _ _ 1 _ _ _ h1, cell_of_row _ _ 2 _ _ _ h1, cell_of_row _ _ 3 _ _ _ h1, cell_of_row _ _ 4 _ _ _ h1, cell_of_row _ _ 5 _ _ _ h1⟩, h2 w fun _ _ _ => rfl, fun W hW => (h2 W hW).1⟩
end
theorem own_blk {w w' : World} {base e size n : Nat} {v : Value} {xs : List Value} (h : w.ownsRow base e size v n xs) (hk : ∀ g, v.ownBlock = some g → w'.heap[g]? = w.heap[g]?) : w'.ownsRow base e size v n xs := by
 refine ⟨h.1, ?_⟩
 rcases h.2 with k1 | ⟨g, cap, cur, k1, k2, k3, k4⟩
 ·exact .inl k1
 ·exact .inr ⟨g, cap, cur, k1, k2, (hk g (by rw [k1]; rfl)).trans k3, k4⟩
set_option maxRecDepth 1000000 in
set_option maxHeartbeats 12800000 in
theorem new19_any (w : World) (V : Value) (T : Th) (hT : RdTh w V T) :
  Calls Tryz.prog 9 #[V] w (Ret fun r w' => Below w.heap.size w w' ∧ ((checkErr T ≠ 0 ∧ r = .tuple #[.pointer none, .int .i64 (checkErr T)]) ∨
   (checkErr T = 0 ∧ ∃ b, r = .tuple #[.pointer (some ⟨b, 0, none⟩), .int .i64 0] ∧ EngR w' b T [] (fun g => w.heap.size ≤ g ∧ g < w'.heap.size)))) := by
 have HT := hid hT
 obtain ⟨vF, vR, vB, rfl, hF, hR, hB⟩ := hT
 clear hF hR hB
 obtain ⟨W1, HW1⟩ : ∃ W1, Hid (w.alloc (.cells #[.int .i64 T.lits, vF, vR, vB] 25) = W1) := ⟨_, hid rfl⟩
 have Hb1 : Hid (Below w.heap.size w W1) := hid (by rw [← HW1.out]; exact ext_alloc _ _)
 have Hbox : Hid (∀ W, Below W1.heap.size W1 W → W.cell? ⟨w.heap.size, 0, none⟩ = some (.int .i64 T.lits) ∧ W.cell? ⟨w.heap.size, 1, none⟩ = some vF ∧ W.cell? ⟨w.heap.size, 2, none⟩ = some vR ∧ W.cell? ⟨w.heap.size, 3, none⟩ = some vB) := hid fun W h => by rw [← HW1.out] at h; exact box4 h
 have Hs := hid (check12_any W1 _ T (HT.out.ext Hb1.out))
 refine post_gen fun Q HQ => ?_
 go_enter Tryz.func9, Tryz.ntmps9
 obtain ⟨a0, a1, a2, a3⟩ := Hbox.out W1 (ext_refl W1)
 rw [← HW1.out] at a0 a1 a2 a3
 go_wp2_with fail
 rw [HW1.out]
 refine Hs.out.mono ?_
 rintro e w3 ⟨_, rfl, ⟨i, rfl⟩, hb3⟩
 have Hb3 := hid hb3
 clear a0 a1 a2 a3 Hs hb3
 by_cases he : checkErr T = 0
 ·have Hwf := hid ((checkErr_ok T).1 he)
  have He := hid he
  rw [he]
  clear he
  obtain ⟨a0, a1, a2, a3⟩ := Hbox.out w3 Hb3.out
  have Hrun := hid (run15_any w3 _ (.slice none 0 0) T [] (HT.out.ext (ext_trans Hb1.out Hb3.out)) Hwf.out (rdI_nil _))
  unfold RunPost at Hrun
  go_wp2_with fail
  refine Hrun.out.mono ?_
  rintro e w4 ⟨_, rfl, k, vM, rfl, h1, h2, h3, hb4⟩
  rw [solve_run h2 h3] at h1
  obtain ⟨AM, cM, rfl⟩ := own_form0 h1
  have Hown := hid h1
  have Hb4 := hid hb4
  clear h1 h2 h3 hb4 Hrun a0 a1 a2 a3
  obtain ⟨a0, a1, a2, a3⟩ := Hbox.out w4 (ext_trans Hb3.out Hb4.out)
  have Hcp := hid (copyThO_any w4 _ T (HT.out.ext (ext_trans (ext_trans Hb1.out Hb3.out) Hb4.out)) (wf_small Hwf.out))
  obtain ⟨ML, HML⟩ : ∃ ML, Hid (solveM T [] = ML) := ⟨_, hid rfl⟩
  rw [HML.out] at Hown
  generalize hMl : T.foes.length = nM at *
  go_wp2_with fail
  refine Hcp.out.mono ?_
  rintro e w5 ⟨_, rfl, uF, uR, uB, b1, b2, rfl, h0, h01, h12, hrF, hoR, hoB, hb5⟩
  have HrF := hid hrF
  have HoR := hid hoR
  have HoB := hid hoB
  have Hb5 := hid hb5
  have Hle := hid (And.intro h0 (And.intro h01 h12))
  clear hrF hoR hoB hb5 h0 h01 h12 Hcp a0 a1 a2 a3
  go_wp2_with fail
  go_ret2
  have hb45 : Below w.heap.size w w4 := ext_trans (ext_trans Hb1.out Hb3.out) Hb4.out
  have hb5 : Below w.heap.size w w5 := ext_trans hb45 Hb5.out
  have hsz : (w5.alloc (.cells #[.int .i64 T.lits, uF, uR, uB, .slice none 0 0, .slice AM nM cM] 43)).heap.size = w5.heap.size + 1 := by simp
  have s1 := Hb1.out.size
  have s3 := Hb3.out.size
  have s4 := Hb4.out.size
  have s5 := Hb5.out.size
  obtain ⟨h0, h01, h12⟩ := Hle.out
  have hsm := wf_small Hwf.out
  refine Fin HQ ⟨ext_trans hb5 (ext_alloc _ _), .inr ⟨He.out, w5.heap.size, rfl, ⟨⟨uF, uR, uB, .slice none 0 0, .slice AM nM cM, heap_alloc_new _ _, fun W hW => ?_⟩, fun g hg => hg.2, ⟨by omega, by omega⟩⟩⟩⟩
  have hW5 : ∀ g, w.heap.size ≤ g → g < w5.heap.size → W.heap[g]? = w5.heap[g]? := fun g h1 h2 => (hW g ⟨h1, by omega⟩ (by omega)).trans (Below.heap_alloc _ _ _ h2)
  refine ⟨⟨uF, uR, uB, rfl, HrF.out W fun g h1 h2 => hW5 g (by omega) (by omega), OwnRs.rd (HoR.out.keep fun g h1 h2 => hW5 g (by omega) h2) (by have := hsm.r; omega) (fun r hr => by have := hsm.rb r hr; omega), OwnLL.rd (HoB.out.keep fun g h1 h2 => hW5 g (by omega) h2) (by have := hsm.b; omega) (fun r hr => by have := hsm.br r hr; omega)⟩, rdI_nil _, ?_⟩
  have hML : ML.length = nM := by rw [← HML.out, solve_length, hMl]
  rw [HML.out]
  refine own_rdS (base := w3.heap.size) (eI := 58) (enc := fun x : Nat => Value.int .u8 (x : Int)) (own_heap (w := w4) (by rw [hML]; exact Hown.out) fun g h1 h2 => (hW5 g (by omega) (by omega)).trans (Hb5.out.block g h2)) (by have := hsm.f; omega)
 ·have He := hid he
  obtain ⟨g, Hg⟩ : ∃ g, Hid (checkErr T = g) := ⟨_, hid rfl⟩
  rw [Hg.out]
  have hg : g ≠ 0 := by rw [← Hg.out]; exact he
  have hne : (g != 0) = true := by simp [hg]
  clear he
  go_wp2_with fail
  go_ret2
  refine Fin HQ ⟨ext_trans Hb1.out Hb3.out, .inl ⟨He.out, congrArg (fun z => Value.tuple #[.pointer none, .int .i64 z]) Hg.out.symm⟩⟩
end Go.Proofs.Lx

namespace Go.Proofs.Lx
open Go Go.RowKit Go.Proofs.Tj
set_option linter.unusedVariables false
set_option linter.unusedSimpArgs false
/-- Those of l that are not in c, put in. -/
def mvvL (c o l : List Int) : List Int := l.foldl (fun o y => if memB c y = true then o else withL o y) o
def movedL (a b : List Int) : List Int := mvvL a (mvvL b [] a) b
theorem mvvL_succ {c o l : List Int} {k : Nat} (hk : k < l.length) : mvvL c o (l.take (k + 1)) = if memB c l[k] = true then mvvL c o (l.take k) else withL (mvvL c o (l.take k)) l[k] := by
 unfold mvvL
 rw [List.take_succ_eq_append_getElem hk, List.foldl_append]
 rfl
theorem mvvL_le (c : List Int) : ∀ (l o : List Int), (mvvL c o l).length ≤ o.length + l.length
 | [], o => by simp [mvvL]
 | y :: l, o => by
  have h := mvvL_le c l (if memB c y = true then o else withL o y)
  have e : mvvL c o (y :: l) = mvvL c (if memB c y = true then o else withL o y) l := rfl
  rw [e]
  have : (if memB c y = true then o else withL o y).length ≤ o.length + 1 := by split; omega; rw [withL_length]; omega
  simp only [List.length_cons]; omega
set_option maxRecDepth 100000 in
set_option maxHeartbeats 12800000 in
theorem moved19_any (w : World) (v1 v2 : Value) (a b : List Int) (h1 : RdI w v1 a) (h2 : RdI w v2 b) (ha : a.length ≤ 4096) (hb : b.length ≤ 4096) :
  Calls Tryz.prog 22 #[v1, v2] w (Ret fun r w' => w'.ownsRow w.heap.size 3 1 r (movedL a b).length (intsV (movedL a b)) ∧ Below w.heap.size w w') := by
 have H1 := hid h1
 have H2 := hid h2
 obtain ⟨A, c, rfl, hc, hb1, hr⟩ := h1
 obtain ⟨B, d, rfl, hd, hb2, hr2⟩ := h2
 have Hr := hid hr
 have Hr2 := hid hr2
 refine post_gen fun Q HQ => ?_
 generalize hn : a.length = n at *
 generalize hm : b.length = m at *
 have Hn := hid hn
 have Hm := hid hm
 clear hn hm hr hr2
 go_enter Tryz.func22, Tryz.ntmps22
 go_wp2
 go_loopw [5, 6] (fun v5 v6 wr => ∃ (k : Nat) (o : List Int), k ≤ n ∧ v6 = .int .i64 k ∧ Hid (o = mvvL b [] (a.take k)) ∧ wr.ownsRow w.heap.size 3 1 v5 o.length (intsV o) ∧ Below w.heap.size w wr) (fun _ v6 _ => n - (intOf v6).toNat)
 case atStart => exact ⟨0, [], Nat.zero_le _, rfl, hid (by simp [mvvL]), World.ownsRow_nil _ _ _ _, ext_refl _⟩
 case round =>
  obtain ⟨k, o, hk, rfl, ho, hown, hbl⟩ := hrel
  have hol : o.length ≤ k := by rw [ho.out]; have := mvvL_le b (a.take k) []; rw [List.length_take] at this; simp only [List.length_nil] at this; omega
  have Hown := hid hown
  have Hbl := hid hbl
  clear hown hbl
  by_cases hlt : k < n
  ·have hx : k < a.length := by rw [Hn.out]; exact hlt
   obtain ⟨ad, rfl, hcX⟩ := (Hr.out.ext (scR_mono _) Hbl.out).at1 hx
   have Hsu := hid (mvvL_succ (c := b) (o := []) hx)
   obtain ⟨y, HX⟩ : ∃ y, Hid (a[k] = y) := ⟨_, hid rfl⟩
   rw [HX.out] at hcX Hsu
   skip
   have Hin := hid (in15_same wr _ b y (H2.out.ext (scR_mono _) Hbl.out))
   cases hmem : memB b y with
   | true =>
    rw [hmem, if_pos rfl] at Hsu
    rw [hmem] at Hin
    go_wp2_with (go_at_call 23; refine Hin.out.mono ?_; rintro e w' ⟨rfl, hw9⟩; rw [hw9]; clear hw9 w')
    go_roundw
    case rel => exact ⟨k + 1, o, by omega, by go_num, hid (by rw [Hsu.out]; exact ho.out), Hown.out, Hbl.out⟩
    case measure => simp [intOf]; omega
   | false =>
    rw [hmem, if_neg (by simp)] at Hsu
    rw [hmem] at Hin
    have Hwi := hid (with19_any wr _ o y (own_rdI Hown.out (by omega)) (by omega))
    go_wp2_with (first | (go_at_call 23; refine Hin.out.mono ?_; rintro e w' ⟨rfl, hw9⟩; rw [hw9]; clear hw9 w') | (go_at_call 44; refine Hwi.out.mono ?_; rintro e w' ⟨v', rfl, ho9, hb9⟩; have Ho9 := hid ho9; have Hb9 := hid hb9; clear ho9 hb9))
    go_roundw
    case rel => exact ⟨k + 1, withL o y, by omega, by go_num, hid (by rw [Hsu.out, ← ho.out]), own_lower Ho9.out Hbl.out.size, ext_trans Hbl.out Hb9.out⟩
    case measure => simp [intOf]; omega
  ·obtain rfl : k = n := by omega
   have Ho2 : Hid (o = mvvL b [] a) := hid (by rw [ho.out, List.take_of_length_le (by rw [Hn.out]; exact Nat.le_refl _)])
   clear ho
   go_wp2
   go_loopw [5, 7] (fun v5 v7 wr => ∃ (j : Nat) (p : List Int), j ≤ m ∧ v7 = .int .i64 j ∧ Hid (p = mvvL a o (b.take j)) ∧ wr.ownsRow w.heap.size 3 1 v5 p.length (intsV p) ∧ Below w.heap.size w wr) (fun _ v7 _ => m - (intOf v7).toNat)
   case atStart => exact ⟨0, o, Nat.zero_le _, rfl, hid (by simp [mvvL]), Hown.out, Hbl.out⟩
   case round =>
    rename_i wr0
    clear Hown Hbl
    obtain ⟨j, p, hj, rfl, hp, hown, hbl⟩ := hrel
    have hpl : p.length ≤ k + j := by rw [hp.out]; have := mvvL_le a (b.take j) o; rw [List.length_take] at this; omega
    have Hown := hid hown
    have Hbl := hid hbl
    clear hown hbl
    by_cases hlt : j < m
    ·have hx : j < b.length := by rw [Hm.out]; exact hlt
     obtain ⟨ad, rfl, hcX⟩ := (Hr2.out.ext (scR_mono _) Hbl.out).at1 hx
     have Hsu := hid (mvvL_succ (c := a) (o := o) hx)
     obtain ⟨y, HX⟩ : ∃ y, Hid (b[j] = y) := ⟨_, hid rfl⟩
     rw [HX.out] at hcX Hsu
     skip
     have Hin := hid (in15_same wr _ a y (H1.out.ext (scR_mono _) Hbl.out))
     cases hmem : memB a y with
     | true =>
      rw [hmem, if_pos rfl] at Hsu
      rw [hmem] at Hin
      go_wp2_with (go_at_call 23; refine Hin.out.mono ?_; rintro e w' ⟨rfl, hw9⟩; rw [hw9]; clear hw9 w')
      go_roundw
      case rel => exact ⟨j + 1, p, by omega, by go_num, hid (by rw [Hsu.out]; exact hp.out), Hown.out, Hbl.out⟩
      case measure => simp [intOf]; omega
     | false =>
      rw [hmem, if_neg (by simp)] at Hsu
      rw [hmem] at Hin
      have Hwi := hid (with19_any wr _ p y (own_rdI Hown.out (by omega)) (by omega))
      go_wp2_with (first | (go_at_call 23; refine Hin.out.mono ?_; rintro e w' ⟨rfl, hw9⟩; rw [hw9]; clear hw9 w') | (go_at_call 44; refine Hwi.out.mono ?_; rintro e w' ⟨v', rfl, ho9, hb9⟩; have Ho9 := hid ho9; have Hb9 := hid hb9; clear ho9 hb9))
      go_roundw
      case rel => exact ⟨j + 1, withL p y, by omega, by go_num, hid (by rw [Hsu.out, ← hp.out]), own_lower Ho9.out Hbl.out.size, ext_trans Hbl.out Hb9.out⟩
      case measure => simp [intOf]; omega
    ·obtain rfl : j = m := by omega
     have Hp2 : Hid (movedL a b = p) := hid (by rw [hp.out, List.take_of_length_le (by rw [Hm.out]; exact Nat.le_refl _), Ho2.out]; rfl)
     clear hp
     go_wp2
     go_ret
     exact Fin HQ ⟨by rw [Hp2.out]; exact Hown.out, Hbl.out⟩
theorem chV_at {L : List (Int × Nat × Nat)} {k : Nat} (h : k < L.length) : (chV L)[k * 3]? = some (.int .i64 L[k].1) ∧ (chV L)[k * 3 + 1]? = some (.int .u8 (L[k].2.1 : Int)) ∧ (chV L)[k * 3 + 2]? = some (.int .u8 (L[k].2.2 : Int)) := by
 induction L generalizing k with
 | nil => simp at h
 | cons c L ih =>
  cases k with
  | zero => simp [chV]
  | succ k =>
   have h2 : k < L.length := by simp at h; omega
   obtain ⟨e1, e2, e3⟩ := ih h2
   have e : ∀ j, (chV (c :: L))[(k + 1) * 3 + j]? = (chV L)[k * 3 + j]? := fun j => by
    have : (k + 1) * 3 + j = (k * 3 + j) + 3 := by omega
    rw [this]; simp [chV]
   exact ⟨by have h0 := e 0; rw [Nat.add_zero, Nat.add_zero] at h0; rw [h0]; simpa using e1, by rw [e]; simpa using e2, by rw [e]; simpa using e3⟩
theorem own_row0 {w : World} {base e size n : Nat} {v : Value} {xs : List Value} (h : w.ownsRow base e size v n xs) (hn : 0 < n) : ∃ g c cur, v = .slice (some ⟨g, 0, none⟩) n c ∧ n ≤ c ∧ base ≤ g ∧ w.heap[g]? = some (.cells cur e (0, 0)) ∧ ∀ (i : Nat) (x : Value), xs[i]? = some x → cur[i]? = some x := by
 rcases h.2 with ⟨h1, h2⟩ | ⟨g, cap, cur, h1, h2, h3, h4⟩
 ·omega
 ·subst h1
  refine ⟨g, cap, cur, rfl, h4.1, h2, h3, fun i x hx => ?_⟩
  have := h.cells (g := g) rfl i x hx
  rw [add_plain, cell_of_row _ _ _ _ _ _ h3] at this
  exact this
theorem ch_cells {w : World} {b c : Nat} {A : Option Addr} {L : List (Int × Nat × Nat)} (h : w.ownsRow b 60 3 (.slice A L.length c) L.length (chV L)) {k : Nat} (hk : k < L.length) :
  ∃ ad, A = some ad ∧ w.cell? (ad.add (k * 3)) = some (.int .i64 L[k].1) ∧ w.cell? ⟨(ad.add (k * 3)).block, (ad.add (k * 3)).off + 1, none⟩ = some (.int .u8 (L[k].2.1 : Int)) ∧ w.cell? ⟨(ad.add (k * 3)).block, (ad.add (k * 3)).off + 2, none⟩ = some (.int .u8 (L[k].2.2 : Int)) := by
 obtain ⟨g, c9, cur, e, _, _, hg, hc⟩ := own_row0 h (by omega)
 injection e with e
 obtain ⟨e1, e2, e3⟩ := chV_at hk
 refine ⟨⟨g, 0, none⟩, e, ?_, ?_, ?_⟩
 ·rw [add_plain, cell_of_row _ _ _ _ _ _ hg]; exact hc _ _ e1
 ·rw [add_plain, cell_of_row _ _ _ _ _ _ hg]; exact hc _ _ e2
 ·rw [add_plain, cell_of_row _ _ _ _ _ _ hg]; exact hc _ _ e3
set_option maxRecDepth 100000 in
set_option maxHeartbeats 6400000 in
theorem sameCh_any (w : World) (v1 v2 : Value) (b1 b2 : Nat) (L : List (Int × Nat × Nat)) (h1 : w.ownsRow b1 60 3 v1 L.length (chV L)) (h2 : w.ownsRow b2 60 3 v2 L.length (chV L)) (hl : L.length ≤ 100000) :
  Calls Tryz.prog 56 #[v1, v2] w (Ret fun v w' => v = .bool true ∧ Below w.heap.size w w') := by
 obtain ⟨A, c, rfl⟩ := own_form0 h1
 obtain ⟨B, d, rfl⟩ := own_form0 h2
 have H1 := hid h1
 have H2 := hid h2
 clear h1 h2
 refine post_gen fun Q HQ => ?_
 generalize hn : L.length = n at *
 have Hn := hid hn
 clear hn
 go_enter Tryz.func56, Tryz.ntmps56
 go_wp2
 go_loopw [5] (fun v5 wr => ∃ k : Nat, k ≤ n ∧ v5 = .int .i64 k ∧ Below w.heap.size w wr) (fun v5 _ => n - (intOf v5).toNat)
 case atStart => exact ⟨0, Nat.zero_le _, rfl, ext_refl _⟩
 case round =>
  obtain ⟨k, hk, rfl, hbl⟩ := hrel
  have Hbl := hid hbl
  clear hbl
  by_cases hlt : k < n
  ·have hx : k < L.length := by rw [Hn.out]; exact hlt
   have H1' := H1.out
   have H2' := H2.out
   rw [← Hn.out] at H1' H2'
   obtain ⟨ad, rfl, c0, c1, c2⟩ := ch_cells (own_ext H1' Hbl.out) hx
   obtain ⟨ad2, rfl, d0, d1, d2⟩ := ch_cells (own_ext H2' Hbl.out) hx
   obtain ⟨q, hq⟩ : ∃ q, q = L[k].1 := ⟨_, rfl⟩
   obtain ⟨a, ha⟩ : ∃ a, a = (L[k].2.1 : Int) := ⟨_, rfl⟩
   obtain ⟨b, hb⟩ : ∃ b, b = (L[k].2.2 : Int) := ⟨_, rfl⟩
   rw [← hq] at c0 d0
   rw [← ha] at c1 d1
   rw [← hb] at c2 d2
   clear H1' H2' hq ha hb hx
   go_wp2
   go_region
   go_wp2
   go_roundw
   case rel => exact ⟨k + 1, by omega, by go_num, Hbl.out.drew⟩
   case measure => simp [intOf]; omega
  ·go_wp2
   go_ret
   exact Fin HQ ⟨rfl, Hbl.out⟩
end Go.Proofs.Lx

namespace Go.Proofs.Lx
open Go Go.RowKit Go.Proofs.Tj
set_option linter.unusedVariables false
set_option linter.unusedSimpArgs false
set_option linter.unusedSectionVars false
noncomputable def chR (T : Th) (G F : List Int) : List (Int × Nat × Nat) := chL (solveM T G) (solveM T F) (upto T.foes.length)
set_option maxRecDepth 1000000 in
set_option maxHeartbeats 12800000 in
theorem become19_any (w : World) (b bF : Nat) (vF : Value) (T : Th) (G F : List Int) (Ft : Nat → Prop) (h : EngR w b T G Ft) (hwf : WfTh T) (hFo : w.ownsRow bF 3 1 vF F.length (intsV F)) (hF4 : F.length ≤ 100000) :
  Calls Tryz.prog 43 #[.pointer (some ⟨b, 0, none⟩), vF] w (Ret fun r w' => w'.ownsRow w.heap.size 60 3 r (chR T G F).length (chV (chR T G F)) ∧
   EngR w' b T F (fun g => Ft g ∨ vF.ownBlock = some g ∨ (w.heap.size ≤ g ∧ g < w'.heap.size)) ∧ Alt b (.slice none 0 0) w w') := by
 obtain ⟨AF, cF, rfl⟩ := own_form0 hFo
 have H := hid h
 have Hwf := hid hwf
 have HFo := hid hFo
 obtain ⟨uF, uR, uB, uFa, uM, hbx, ⟨c0, c1, c2, c3, c4, c5⟩, ⟨hT, hG, hM⟩, hTW⟩ := h.cells
 have Hbx := hid hbx
 have HTW := hid hTW
 have hbl := lt_of_block hbx
 have hSl : (solveM T G).length = T.foes.length := solve_length T G
 have hSl2 : (solveM T F).length = T.foes.length := solve_length T F
 have hn4 : T.foes.length ≤ 4096 := by have := hwf.fl; have := hwf.l1; omega
 have Hc5 := hid c5
 have HM := hid hM
 have Hrun := hid (run15_any w _ (.slice AF F.length cF) T F hT hwf (own_rdI hFo (by omega)))
 unfold RunPost at Hrun
 clear h hwf hFo hbx hT hG hM hTW c4 c5
 refine post_gen fun Q HQ => ?_
 go_enter Tryz.func43, Tryz.ntmps43
 go_wp2_with fail
 refine Hrun.out.mono ?_
 rintro e w2 ⟨_, rfl, k, vM, rfl, h1, h2, h3, hb2⟩
 rw [solve_run h2 h3, ← hSl2] at h1
 obtain ⟨AM, cM, rfl⟩ := own_form0 h1
 have Hown := hid h1
 have Hb2 := hid hb2
 have c5 := cell_ext hb2 Hc5.out
 have Hch := hid (changes19_any w2 uM (.slice AM (solveM T F).length cM) (solveM T G) (solveM T F) (HM.out.ext (scR_mono _) hb2) (own_rdS (enc := fun x : Nat => Value.int .u8 (x : Int)) h1 (by omega)) (by omega) (by omega))
 rw [hSl] at Hch
 clear h1 h2 h3 hb2 Hrun c0 c1 c2 c3
 generalize hMl : (solveM T F).length = nM at *
 have HMl := hid hMl
 have HSl := hid hSl
 have HSl2 := hid hSl2
 clear hMl hSl hSl2
 go_wp2_with fail
 refine Hch.out.mono ?_
 rintro e w3 ⟨vC, rfl, ho3, hb3⟩
 have Ho3 := hid ho3
 have Hb3 := hid (ext_trans Hb2.out hb3)
 have Hb23 := hid hb3
 have hbx3 : w3.heap[b]? = some (.cells #[.int .i64 T.lits, uF, uR, uB, uFa, uM] 43 (0, 0)) := (Hb3.out.block b hbl).trans Hbx.out
 have Hbx3 := hid hbx3
 have d4 : w3.cell? ⟨b, 4, none⟩ = some uFa := cell_of_row w3 b 4 _ _ _ hbx3
 have d5 : w3.cell? ⟨b, 5, none⟩ = some uM := cell_of_row w3 b 5 _ _ _ hbx3
 have f4 := frozen_of_row w3 b 4 _ _ hbx3
 have f5 := frozen_of_row w3 b 5 _ _ hbx3
 clear ho3 hb3 Hch c5 hbx3
 go_wp2_with fail
 go_ret
 have hMl := HMl.out
 have hSl := HSl.out
 have hSl2 := HSl2.out
 have hE4 := heap_setCell_same w3 b 4 _ _ (.slice AF F.length cF) Hbx3.out
 have hE5 := heap_setCell_same _ b 5 _ _ (.slice AM nM cM) hE4
 have hsE : ((w3.setCell ⟨b, 4, none⟩ (.slice AF F.length cF)).setCell ⟨b, 5, none⟩ (.slice AM nM cM)).heap.size = w3.heap.size := by simp
 have hk3 : ∀ g, g ≠ b → ((w3.setCell ⟨b, 4, none⟩ (.slice AF F.length cF)).setCell ⟨b, 5, none⟩ (.slice AM nM cM)).heap[g]? = w3.heap[g]? := fun g k2 => (heap_setCell_other _ _ g _ k2).trans (heap_setCell_other _ _ g _ k2)
 have s2 := Hb2.out.size
 have s3 := Hb23.out.size
 have hFx : (Value.slice AF F.length cF).ownBlock ≠ some b := own_ne_tag HFo.out Hbx.out (by decide)
 have horE : ((w3.setCell ⟨b, 4, none⟩ (.slice AF F.length cF)).setCell ⟨b, 5, none⟩ (.slice AM nM cM)).ownsRow w.heap.size 60 3 vC (chR T G F).length (chV (chR T G F)) :=
  own_lower (ownsRow_setCell_other (ownsRow_setCell_other Ho3.out (a := ⟨b, 4, none⟩) (fun e => by have := (Ho3.out.lt _ e).1; dsimp only at this; omega) _) (a := ⟨b, 5, none⟩) (fun e => by have := (Ho3.out.lt _ e).1; dsimp only at this; omega) _) s2
 refine Fin HQ ⟨horE, ⟨⟨uF, uR, uB, .slice AF F.length cF, .slice AM nM cM, hE5, fun W hW => ⟨?_, ?_, ?_⟩⟩, fun g hg => ?_, .inl H.out.fb⟩, ⟨Hb3.out.os, Hb3.out.tape, Hb3.out.output, by rw [hsE]; omega, fun g k1 k2 _ => (hk3 g k2).trans (Hb3.out.block g k1)⟩⟩
 ·exact HTW.out W fun g k1 k2 => (hW g (.inl k1) k2).trans ((hk3 g k2).trans (Hb3.out.block g (H.out.ft g k1)))
 ·refine own_rdI (own_blk HFo.out fun g hg => ?_) (by omega)
  have k5 : g ≠ b := fun e => hFx (by rw [hg, e])
  exact (hW g (.inr (.inl hg)) k5).trans ((hk3 g k5).trans (Hb3.out.block g (HFo.out.lt g hg).2))
 ·refine own_rdS (base := w.heap.size) (eI := 58) (enc := fun x : Nat => Value.int .u8 (x : Int)) (own_heap (w := w2) (by rw [hMl]; exact Hown.out) fun g k1 k2 => ?_) (by rw [hMl]; omega)
  exact (hW g (.inr (.inr ⟨k1, by rw [hsE]; omega⟩)) (by omega)).trans ((hk3 g (by omega)).trans (Hb23.out.block g k2))
 ·rcases hg with h9 | h9 | h9
  ·have := H.out.ft g h9; rw [hsE]; omega
  ·have := (HFo.out.lt g h9).2; rw [hsE]; omega
  ·exact h9.2
/-- A call of the reference's engine. -/
def CallR (w w' : World) (b : Nat) (T : Th) (Ft : Nat → Prop) (r : Value) (err : Int) (ch : List (Int × Nat × Nat)) (G' : List Int) : Prop :=
 ∃ v, r = .tuple #[v, .int .i64 err] ∧ w'.ownsRow w.heap.size 60 3 v ch.length (chV ch) ∧
  EngR w' b T G' (fun g => Ft g ∨ (w.heap.size ≤ g ∧ g < w'.heap.size)) ∧ Alt b (.slice none 0 0) w w'
noncomputable def nxR (e : Int) (T : Th) (F G : List Int) : List (Int × Nat × Nat) := if e = 0 then chR T G F else []
theorem CallR.refused {w w' : World} {b : Nat} {T : Th} {G : List Int} {Ft : Nat → Prop} (h : EngR w b T G Ft) (hb : Below w.heap.size w w') (err : Int) : CallR w w' b T Ft (.tuple #[.slice none 0 0, .int .i64 err]) err [] G :=
 ⟨_, rfl, World.ownsRow_nil _ _ _ _, (h.ext hb).more (fun g hg => .inl hg) (fun g hg => by rcases hg with h9 | h9; exact Nat.lt_of_lt_of_le (h.ft g h9) hb.size; exact h9.2), alt_below hb⟩
theorem CallR.turned {w w2 w' : World} {b : Nat} {vF v : Value} {T : Th} {G F : List Int} {Ft : Nat → Prop} (h0 : EngR w b T G Ft) (hb : Below w.heap.size w w2) (hF : w2.ownsRow w.heap.size 3 1 vF F.length (intsV F))
  (h : w'.ownsRow w2.heap.size 60 3 v (chR T G F).length (chV (chR T G F)) ∧
   EngR w' b T F (fun g => Ft g ∨ vF.ownBlock = some g ∨ (w2.heap.size ≤ g ∧ g < w'.heap.size)) ∧ Alt b (.slice none 0 0) w2 w') : CallR w w' b T Ft (.tuple #[v, .int .i64 0]) 0 (chR T G F) F := by
 obtain ⟨k1, k2, k3⟩ := h
 have hs := hb.size
 have hs3 := k3.sz
 refine ⟨v, rfl, own_lower k1 hs, k2.more (fun g hg => ?_) (fun g hg => ?_), ⟨k3.os.trans hb.os, k3.tape.trans hb.tape, k3.output.trans hb.output, by omega, fun k h1 h2 h3 => (k3.old k (by omega) h2 h3).trans (hb.block k h1)⟩⟩
 ·rcases hg with h9 | h9 | h9
  ·exact .inl h9
  ·have := hF.lt g h9; exact .inr (by omega)
  ·exact .inr (by omega)
 ·rcases hg with h9 | h9
  ·have := h0.ft g h9; omega
  ·exact h9.2
section
variable (w : World) (b : Nat) (T : Th) (G : List Int) (Ft : Nat → Prop) (h : EngR w b T G Ft) (hwf : WfTh T) (hG : risB G T.lits = true)
include h hwf hG
set_option maxRecDepth 1000000 in
set_option maxHeartbeats 6400000 in
theorem add19_any (q : Int) : Calls Tryz.prog 15 #[.pointer (some ⟨b, 0, none⟩), .int .i64 q] w (Ret fun r w' => CallR w w' b T Ft r (addE T G q) (nxR (addE T G q) T (addL G q) G) (nxG (addE T G q) (addL G q) G)) := by
 have H := hid h
 have Hwf := hid hwf
 have HG := hid hG
 obtain ⟨uF, uR, uB, uFa, uM, hbx, ⟨c0, c1, c2, c3, c4, c5⟩, ⟨hT, hGr, hM⟩, hTW⟩ := h.cells
 have HGr := hid hGr
 have hGl : G.length ≤ 4096 := by have h9 := hG; rw [show T.lits = ((T.lits.toNat : Nat) : Int) by have := hwf.l0; omega] at h9; have := ris_len h9; have := hwf.l1; omega
 clear h hwf hG hbx hT hM hTW c1 c2 c3 c5 hGr
 refine post_gen fun Q HQ => ?_
 go_enter Tryz.func15, Tryz.ntmps15
 by_cases h1 : q < 0 ∨ T.lits ≤ q
 ·have e1 : addE T G q = 1 := by unfold addE; rw [if_pos h1]
  rw [e1] at HQ
  by_cases h0 : q < 0
  ·go_wp2
   go_ret2
   exact Fin HQ (CallR.refused H.out (ext_refl w) 1)
  ·have h2 : T.lits ≤ q := by omega
   go_wp2
   go_ret2
   exact Fin HQ (CallR.refused H.out (ext_refl w) 1)
 ·have h0 : 0 ≤ q := by omega
  have h2 : q < T.lits := by omega
  have Hin := hid (in15_same w _ G q HGr.out)
  cases hm : memB G q with
  | true =>
   have e1 : addE T G q = 181 := by unfold addE; rw [if_neg h1, if_pos (memB_true.1 hm)]
   rw [e1] at HQ
   rw [hm] at Hin
   clear h1 e1
   go_wp2_with (go_at_call 23; refine Hin.out.mono ?_; rintro e w' ⟨rfl, hw9⟩; rw [hw9]; clear hw9 w')
   go_ret2
   exact Fin HQ (CallR.refused H.out (ext_refl w) 181)
  | false =>
   have hn : q ∉ G := memB_false.1 hm
   have e1 : addE T G q = 0 := by unfold addE; rw [if_neg h1, if_neg hn]
   rw [e1] at HQ
   rw [hm] at Hin
   have Hadd := hid (withL_add HG.out ⟨h0, h2⟩ hn)
   have Hwi := hid (with19_any w _ G q HGr.out (by omega))
   have hal : (addL G q).length ≤ 100000 := by rw [← Hadd.out, withL_length]; omega
   rw [Hadd.out] at Hwi
   clear h1 e1
   go_wp2_with (first | (go_at_call 23; refine Hin.out.mono ?_; rintro e w' ⟨rfl, hw9⟩; rw [hw9]; clear hw9 w') | (go_at_call 44; refine Hwi.out.mono ?_; rintro e w2 ⟨vF, rfl, ho9, hb9⟩; have Ho9 := hid ho9; have Hb9 := hid hb9; clear ho9 hb9))
   refine (become19_any w2 b w.heap.size vF T G (addL G q) Ft (H.out.ext Hb9.out) Hwf.out Ho9.out hal).mono ?_
   rintro e w3 ⟨v, rfl, hr⟩
   have Hr := hid (CallR.turned H.out Hb9.out Ho9.out hr)
   clear hr
   go_wp2_with fail
   go_ret2
   exact Fin HQ Hr.out
set_option maxRecDepth 1000000 in
set_option maxHeartbeats 6400000 in
theorem drop19_any (q : Int) : Calls Tryz.prog 17 #[.pointer (some ⟨b, 0, none⟩), .int .i64 q] w (Ret fun r w' => CallR w w' b T Ft r (dropE T G q) (nxR (dropE T G q) T (dropL G q) G) (nxG (dropE T G q) (dropL G q) G)) := by
 have H := hid h
 have Hwf := hid hwf
 have HG := hid hG
 obtain ⟨uF, uR, uB, uFa, uM, hbx, ⟨c0, c1, c2, c3, c4, c5⟩, ⟨hT, hGr, hM⟩, hTW⟩ := h.cells
 have HGr := hid hGr
 have hGl : G.length ≤ 4096 := by have h9 := hG; rw [show T.lits = ((T.lits.toNat : Nat) : Int) by have := hwf.l0; omega] at h9; have := ris_len h9; have := hwf.l1; omega
 clear h hwf hG hbx hT hM hTW c1 c2 c3 c5 hGr
 refine post_gen fun Q HQ => ?_
 go_enter Tryz.func17, Tryz.ntmps17
 by_cases h1 : q < 0 ∨ T.lits ≤ q
 ·have e1 : dropE T G q = 1 := by unfold dropE; rw [if_pos h1]
  rw [e1] at HQ
  by_cases h0 : q < 0
  ·go_wp2
   go_ret2
   exact Fin HQ (CallR.refused H.out (ext_refl w) 1)
  ·have h2 : T.lits ≤ q := by omega
   go_wp2
   go_ret2
   exact Fin HQ (CallR.refused H.out (ext_refl w) 1)
 ·have h0 : 0 ≤ q := by omega
  have h2 : q < T.lits := by omega
  have Hin := hid (in15_same w _ G q HGr.out)
  cases hm : memB G q with
  | false =>
   have e1 : dropE T G q = 181 := by unfold dropE; rw [if_neg h1, if_neg (memB_false.1 hm)]
   rw [e1] at HQ
   rw [hm] at Hin
   clear h1 e1
   go_wp2_with (go_at_call 23; refine Hin.out.mono ?_; rintro e w' ⟨rfl, hw9⟩; rw [hw9]; clear hw9 w')
   go_ret2
   exact Fin HQ (CallR.refused H.out (ext_refl w) 181)
  | true =>
   have hn : q ∈ G := memB_true.1 hm
   have e1 : dropE T G q = 0 := by unfold dropE; rw [if_neg h1, if_pos hn]
   rw [e1] at HQ
   rw [hm] at Hin
   have Hadd := hid (outL_drop HG.out hn)
   have Hwi := hid (without19_any w _ G q HGr.out (by omega))
   have hal : (dropL G q).length ≤ 100000 := by rw [← Hadd.out]; exact Nat.le_trans (List.length_filter_le _ _) (by omega)
   rw [Hadd.out] at Hwi
   clear h1 e1
   go_wp2_with (first | (go_at_call 23; refine Hin.out.mono ?_; rintro e w' ⟨rfl, hw9⟩; rw [hw9]; clear hw9 w') | (go_at_call 46; refine Hwi.out.mono ?_; rintro e w2 ⟨vF, rfl, ho9, hb9⟩; have Ho9 := hid ho9; have Hb9 := hid hb9; clear ho9 hb9))
   refine (become19_any w2 b w.heap.size vF T G (dropL G q) Ft (H.out.ext Hb9.out) Hwf.out Ho9.out hal).mono ?_
   rintro e w3 ⟨v, rfl, hr⟩
   have Hr := hid (CallR.turned H.out Hb9.out Ho9.out hr)
   clear hr
   go_wp2_with fail
   go_ret2
   exact Fin HQ Hr.out
set_option maxRecDepth 1000000 in
set_option maxHeartbeats 6400000 in
theorem set19_any (vF : Value) (F : List Int) (hF : RdI w vF F) (hF8 : F.length * 8 ≤ 140737488355328) : Calls Tryz.prog 19 #[.pointer (some ⟨b, 0, none⟩), vF] w (Ret fun r w' => CallR w w' b T Ft r (setE T F) (nxR (setE T F) T F G) (nxG (setE T F) F G)) := by
 have H := hid h
 have Hwf := hid hwf
 obtain ⟨uF, uR, uB, uFa, uM, hbx, ⟨c0, c1, c2, c3, c4, c5⟩, ⟨hT, hGr, hM⟩, hTW⟩ := h.cells
 have Hck := hid (facts12_any w _ vF T F hT hF)
 have Hcp : Hid (∀ W, Below w.heap.size w W → Calls Tryz.prog 13 #[vF] W (Ret fun r w' => w'.ownsRow W.heap.size 3 1 r F.length (intsV F) ∧ Below W.heap.size W w')) := hid fun W hW => copyI_any W vF F (hF.ext (scR_mono _) hW) hF8
 have hl0 := hwf.l0
 have hl1 := hwf.l1
 clear h hwf hG hbx hT hM hTW c4 c5 hGr hF
 refine post_gen fun Q HQ => ?_
 go_enter Tryz.func19, Tryz.ntmps19
 go_wp2_with fail
 refine Hck.out.mono ?_
 rintro e w1 ⟨_, rfl, rfl, hb1⟩
 have Hb1 := hid hb1
 clear hb1 Hck c0 c1 c2 c3
 by_cases h1 : risB F T.lits = true
 ·have e1 : setE T F = 0 := by unfold setE; rw [if_pos h1]
  rw [e1] at HQ
  have hFl : F.length ≤ 100000 := by have h9 := h1; rw [show T.lits = ((T.lits.toNat : Nat) : Int) by omega] at h9; have := ris_len h9; omega
  rw [if_pos h1]
  clear h1 e1
  go_wp2_with (go_at_call 13; refine (Hcp.out w1 Hb1.out).mono ?_; rintro e w2 ⟨vG, rfl, ho9, hb9⟩; have Ho9 := hid ho9; have Hb9 := hid hb9; clear ho9 hb9)
  refine (become19_any w2 b w1.heap.size vG T G F Ft (H.out.ext (ext_trans Hb1.out Hb9.out)) Hwf.out Ho9.out hFl).mono ?_
  rintro e w3 ⟨v, rfl, hr⟩
  have Hr := hid (CallR.turned H.out (ext_trans Hb1.out Hb9.out) (own_lower Ho9.out Hb1.out.size) hr)
  clear hr
  go_wp2_with fail
  go_ret2
  exact Fin HQ Hr.out
 ·have e1 : setE T F = 181 := by unfold setE; rw [if_neg h1]
  rw [e1] at HQ
  rw [if_neg h1]
  clear h1 e1
  go_wp2_with fail
  go_ret2
  exact Fin HQ (CallR.refused H.out Hb1.out 181)
end
end Go.Proofs.Lx
