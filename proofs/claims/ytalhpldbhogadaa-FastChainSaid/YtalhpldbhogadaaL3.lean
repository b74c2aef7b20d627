/- Parts of the proof: Wm, Wo, Wn. Contract of theory.Size. -/
import Derived.Test.YtalhpldbhogadaaL2
import Derived.Test.YtalhpldbhogadaaB47
import Derived.Test.YtalhpldbhogadaaB45
namespace Go.Proofs.Lx
open Go Go.RowKit Go.Proofs.Tj
set_option linter.unusedSimpArgs false
set_option linter.unusedVariables false
theorem results_t4 {fn : Func} {t u v x : Tmp} (h : fn.results = #[.tmp t, .tmp u, .tmp v, .tmp x]) (tmps : Array Value) (P : Program) (w : World) :
    (results fn tmps).run P w = .ok (.tuple #[tmps.getD t undef, tmps.getD u undef, tmps.getD v undef, tmps.getD x undef]) w := by
  simp [results, h]
def bodyK (T : Th) (k : Nat) : Nat := ((T.rules.take k).map fun r => r.body.length).sum
theorem bodyK_succ (T : Th) {k : Nat} (hk : k < T.rules.length) : bodyK T (k + 1) = bodyK T k + T.rules[k].body.length := by
  unfold bodyK; rw [List.take_succ_eq_append_getElem hk, List.map_append, List.sum_append]; simp
set_option maxHeartbeats 1600000 in
theorem size_any (w : World) (V : Value) (T : Th) (hT : RdTh w V T) (hwf : WfTh T) :
    Calls Try.prog 45 #[V] w (Ret fun v w' => v = .tuple #[.int .i64 (T.foes.length : Int), .int .i64 (bodyN T : Int), .int .i64 (pairCount T : Int), .int .i64 0] ∧ Below w.heap.size w w') := by
  have HT := hid hT
  obtain ⟨vF, vR, vB, rfl, hF, hR, hB⟩ := hT
  obtain ⟨AR, cR, rfl, hcR, hbR, hrR⟩ := hR
  have hbel := ext_alloc w (.cells #[.int .i64 T.lits, vF, .slice AR T.rules.length cR, vB] 25)
  have hch := check_any (w.alloc (.cells #[.int .i64 T.lits, vF, .slice AR T.rules.length cR, vB] 25)) _ T (HT.out.ext hbel)
  rw [(checkErr_ok T).2 hwf] at hch
  have Hch := hid hch
  have hfl := hwf.fl
  have Hpr : Hid (∀ W, Below w.heap.size w W → Calls Try.prog 76 #[.agg #[.int .i64 T.lits, vF, .slice AR T.rules.length cR, vB]] W (Ret fun v w' => v = .int .i64 (pairCount T : Nat) ∧ Below W.heap.size W w')) := hid fun W hW => pairs_any W _ T (HT.out.ext hW) hwf.fl hwf.l1 hwf.fo hwf.rl hwf.ru
  have Hrl : Hid (∀ W, Below w.heap.size w W → ∀ k (hk : k < T.rules.length), ∃ ad B c, AR = some ad ∧ W.cell? (ad.add (k * 3)) = some (.int .i64 T.rules[k].kind) ∧ W.cell? ⟨(ad.add (k * 3)).block, (ad.add (k * 3)).off + 1, none⟩ = some (.int .i64 T.rules[k].head) ∧ W.cell? ⟨(ad.add (k * 3)).block, (ad.add (k * 3)).off + 2, none⟩ = some (.slice B T.rules[k].body.length c)) := hid fun W hW k hk => by
    obtain ⟨ad, B, c, e, a, b, d, _⟩ := (hrR.ext ruleR_mono hW).atRule hk
    exact ⟨ad, B, c, e, a, b, d⟩
  have Hbox : Hid (∀ W, Below (w.alloc (.cells #[.int .i64 T.lits, vF, .slice AR T.rules.length cR, vB] 25)).heap.size (w.alloc (.cells #[.int .i64 T.lits, vF, .slice AR T.rules.length cR, vB] 25)) W → W.cell? ⟨w.heap.size, 0, none⟩ = some (.int .i64 T.lits) ∧ W.cell? ⟨w.heap.size, 1, none⟩ = some vF ∧ W.cell? ⟨w.heap.size, 2, none⟩ = some (.slice AR T.rules.length cR) ∧ W.cell? ⟨w.heap.size, 3, none⟩ = some vB) := hid fun W h => box4 h
  have Hs := hid (fun k hk => @bodyK_succ T k hk)
  have Hle : Hid (∀ k, k ≤ T.rules.length → bodyK T k ≤ 16 * k) := hid fun k hk => by
    induction k with
    | zero => simp [bodyK]
    | succ k ih =>
      rw [bodyK_succ T (by omega)]
      have := hwf.ru T.rules[k] (List.getElem_mem (by omega))
      simp only [ruleOk, Bool.and_eq_true, decide_eq_true_eq] at this
      have := ih (by omega); omega
  have Hall : Hid (bodyK T T.rules.length = bodyN T) := hid (by unfold bodyK bodyN; rw [List.take_length])
  have Hbel := hid hbel
  have hm := hwf.rl
  have Hl : Hid (∀ k (hk : k < T.rules.length), T.rules[k].body.length ≤ 16) := hid fun k hk => by
    have := hwf.ru T.rules[k] (List.getElem_mem hk)
    simp only [ruleOk, Bool.and_eq_true, decide_eq_true_eq] at this
    omega
  rw [hfl]
  clear hch hF hrR hbel hfl hwf
  obtain ⟨W1, HW1⟩ : ∃ W1, Hid (W1 = w.alloc (.cells #[.int .i64 T.lits, vF, .slice AR T.rules.length cR, vB] 25)) := ⟨_, hid rfl⟩
  refine post_gen fun Q HQ => ?_
  go_enter Try.func45, Try.ntmps45
  go_wp2_with fail
  refine Hch.out.mono ?_
  rintro e w2 ⟨_, rfl, ⟨i, rfl⟩, hb2⟩
  rw [← HW1.out] at hb2 Hbel Hbox
  obtain ⟨a0, a1, a2, a3⟩ := Hbox.out w2 hb2
  go_wp2_with fail
  clear a0 a1 a2 a3
  go_loopw [8, 22] (fun v8 v22 wr => ∃ k : Nat, k ≤ T.rules.length ∧ v22 = .int .i64 k ∧ v8 = .int .i64 (bodyK T k : Int) ∧ Below W1.heap.size W1 wr) (fun _ v22 _ => T.rules.length - (intOf v22).toNat)
  case atStart => exact ⟨0, Nat.zero_le _, rfl, rfl, hb2⟩
  case round =>
    obtain ⟨k, hk, rfl, rfl, hbl⟩ := hrel
    by_cases hlt : k < T.rules.length
    · obtain ⟨ad, B, c, rfl, e0, e1, e2⟩ := Hrl.out wr (ext_trans Hbel.out hbl) k hlt
      have hs := Hs.out k hlt
      have hle := Hle.out k hk
      have hl := Hl.out k hlt
      generalize T.rules[k].body.length = z at *
      generalize T.rules[k].kind = z1 at *
      generalize T.rules[k].head = z2 at *
      generalize bodyK T k = y at *
      have HS := hid hs
      clear hs
      go_wp2_with fail
      go_roundw
      case rel => exact ⟨k + 1, by omega, by go_num, by rw [HS.out]; go_num, hbl.alloc hbl.size _⟩
      case measure => simp [intOf]; omega
    · obtain rfl : k = T.rules.length := by omega
      obtain ⟨a0, a1, a2, a3⟩ := Hbox.out wr hbl
      rw [Hall.out]
      go_wp2_with fail
      have hc := hid (Hpr.out wr.drew (ext_trans Hbel.out hbl.drew))
      go_region_with (go_at_call 76; refine hc.out.mono ?_; rintro e w3 ⟨_, rfl, rfl, hb3⟩; obtain ⟨c0, c1, c2, c3⟩ := Hbox.out w3 (ext_trans hbl.drew hb3))
      all_goals
        go_wp2_with fail
        refine bodyPost_ret (results_t4 rfl _ _ _) rfl ?_
        first
          | exact Fin HQ ⟨rfl, ext_trans Hbel.out (ext_trans hbl.drew hb3)⟩
          | exact Fin HQ ⟨rfl, ext_trans Hbel.out (ext_trans hbl (ext_trans (ext_refl wr).drew hb3))⟩
end Go.Proofs.Lx

namespace Go.Proofs.Lx
open Go Go.RowKit Go.Proofs.Tj
def cntU (x k : Nat) : Nat := (List.range k).countP fun j => x.testBit j
theorem cntU_succ (x k : Nat) : cntU x (k + 1) = cntU x k + if x.testBit k = true then 1 else 0 := by
  unfold cntU
  rw [List.range_succ, List.countP_append]
  cases h : x.testBit k <;> simp [h]
theorem cntU_le (x k : Nat) : cntU x k ≤ k := by
  have := countP_le_len (fun j => x.testBit j) (List.range k)
  rwa [List.length_range] at this
theorem cntU_four (x : Nat) : cntU x 4 = tagsN x := by
  rw [cntU_succ, cntU_succ, cntU_succ, cntU_succ]; unfold tagsN cntU; simp
theorem tagsU_le (x : Nat) : tagsN x ≤ 4 := by rw [← cntU_four]; exact cntU_le x 4
theorem totalU_take (X : List Nat) {k : Nat} (hk : k < X.length) : totalN (X.take (k + 1)) = totalN (X.take k) + tagsN X[k] := by
  unfold totalN; rw [List.take_succ_eq_append_getElem hk, List.map_append, List.sum_append]; simp
theorem totalU_le (X : List Nat) : totalN X ≤ 4 * X.length := by
  induction X with
  | nil => simp [totalN]
  | cons x X ih =>
    have := tagsU_le x
    unfold totalN at *
    rw [List.map_cons, List.sum_cons, List.length_cons]; omega
end Go.Proofs.Lx

namespace Go.Proofs.Lx
open Go Go.RowKit Go.Proofs.Tj
set_option linter.unusedSimpArgs false
set_option linter.unusedVariables false
theorem bodyN_le {T : Th} (hwf : WfTh T) : bodyN T ≤ 65536 := by
  have h1 : bodyN T ≤ (T.rules.map fun _ => 16).sum := sum_le_map _ fun r hr => by
    have := hwf.ru r hr
    simp only [ruleOk, Bool.and_eq_true, decide_eq_true_eq] at this
    omega
  have h2 : (T.rules.map fun _ => 16).sum = 16 * T.rules.length := by
    generalize T.rules = rs
    induction rs with
    | nil => rfl
    | cons r rs ih => rw [List.map_cons, List.sum_cons, ih, List.length_cons]; omega
  have := hwf.rl; omega
/-- Counted's answer, to a law. -/
theorem flinear (w : World) (V vl : Value) (T : Th) (l : List Int) (hT : RdTh w V T) (hl : RdI w vl l) :
    Calls Try.prog 37 #[V, vl] w (Ret fun r w' => (∃ c : Int, c ≠ 0 ∧ r = .tuple #[.slice none 0 0, .agg #[.int .i64 0, .int .i64 0], .int .i64 c] ∧ Below w.heap.size w w') ∨
      (∃ A cap, ∃ u : Nat, r = .tuple #[.slice A T.foes.length cap, .agg #[.int .i64 (totalN (solveM T l) : Int), .int .i64 (u : Int)], .int .i64 0] ∧ WfTh T ∧ RdMk w' (.slice A T.foes.length cap) (solveM T l) ∧ u ≤ 4 * (T.foes.length + bodyN T + pairCount T) ∧ Below w.heap.size w w')) := by
  refine (fcounted_any w V vl T l hT hl).mono fun e w' h => h.mono ?_
  rintro _ w' ⟨v, q, u, rfl, h1, h2, hb⟩
  by_cases hc : givenErr T l = 0
  · right
    obtain ⟨ho, rfl, S, D, ⟨rfl, k, rfl, k1, k2⟩, rfl⟩ := h1 hc
    obtain ⟨hwf, hr⟩ := givenErr_ok.1 hc
    obtain ⟨hfl, _⟩ := facts_nat hwf hr
    obtain ⟨c, e, hle⟩ := lin_upd hwf hfl k1 k2
    have hlen : (solveM T l).length ≤ 140737488355328 := by rw [solve_length]; have := hwf.fl; have := hwf.l1; omega
    have hm := own_marks ho hlen
    obtain ⟨A, cap, rfl, h3⟩ := hm
    refine ⟨A, cap, c, by rw [hc, e, solve_length], hwf, ?_, hle, hb⟩
    rw [← solve_length T l]; exact ⟨A, cap, rfl, h3⟩
  · left
    obtain ⟨rfl, rfl, rfl⟩ := h2 hc
    exact ⟨_, hc, rfl, hb⟩
set_option maxRecDepth 100000 in
set_option maxHeartbeats 3200000 in
theorem lawLinear_any (w : World) (V vl : Value) (T : Th) (l : List Int) (hT : RdTh w V T) (hl : RdI w vl l) :
    Calls Try.prog 15 #[V, vl] w (Ret fun v w' => v = .bool true ∧ Below w.heap.size w w') := by
  have HT := hid hT
  have Hl := hid hl
  obtain ⟨vF, vR, vB, rfl, hF, hR, hB⟩ := hT
  obtain ⟨W1, HW1⟩ : ∃ W1, Hid (W1 = w.alloc (.cells #[.int .i64 T.lits, vF, vR, vB] 25)) := ⟨_, hid rfl⟩
  have hb1 : Below w.heap.size w W1 := by rw [HW1.out]; exact ext_alloc _ _
  have Hbox : Hid (∀ W, Below W1.heap.size W1 W → W.cell? ⟨w.heap.size, 0, none⟩ = some (.int .i64 T.lits) ∧ W.cell? ⟨w.heap.size, 1, none⟩ = some vF ∧ W.cell? ⟨w.heap.size, 2, none⟩ = some vR ∧ W.cell? ⟨w.heap.size, 3, none⟩ = some vB) := hid fun W h => by rw [HW1.out] at h; exact box4 h
  have Hrd : Hid (∀ W, Below W1.heap.size W1 W → RdTh W (.agg #[.int .i64 T.lits, vF, vR, vB]) T ∧ RdI W vl l) := hid fun W h => ⟨HT.out.ext (ext_trans hb1 h), Hl.out.ext (scR_mono _) (ext_trans hb1 h)⟩
  have Hw := hid works_any
  have Hcn := hid (fun W V' l' h1 h2 => flinear W V' l' T l h1 h2)
  have Hsz := hid (fun W V' h1 h2 => size_any W V' T h1 h2)
  have Hb1 := hid hb1
  clear hF hR hB hl hb1
  refine post_gen fun Q HQ => ?_
  go_enter Try.func15, Try.ntmps15
  go_wp2_with fail
  rw [← HW1.out]
  refine (Hw.out W1).mono ?_
  rintro e w2 ⟨_, rfl, rfl, hb2⟩
  obtain ⟨a0, a1, a2, a3⟩ := Hbox.out w2 hb2
  have Hc := hid (Hcn.out w2 _ _ (Hrd.out w2 hb2).1 (Hrd.out w2 hb2).2)
  go_wp2_with fail
  refine Hc.out.mono ?_
  rintro e w3 ⟨_, rfl, hs⟩
  clear Hc a0 a1 a2 a3
  rcases hs with ⟨c, hc, rfl, hb3⟩ | ⟨A, cap, u, rfl, hwf, hrd, hle, hb3⟩
  · have hne : (c != 0) = true := by simp [hc]
    have hb13 := ext_trans hb2 hb3
    go_wp2_with fail
    go_ret
    exact Fin HQ ⟨rfl, ext_trans Hb1.out (ext_trans hb13 (ext_alloc _ _))⟩
  · have hb13 := ext_trans hb2 hb3
    obtain ⟨W4, HW4⟩ : ∃ W4, Hid (W4 = w3.alloc (.cells #[.int .i64 (totalN (solveM T l) : Int), .int .i64 (u : Int)] 62)) := ⟨_, hid rfl⟩
    have hb4 : Below w3.heap.size w3 W4 := by rw [HW4.out]; exact ext_alloc _ _
    have Hcb : Hid (∀ W, Below W4.heap.size W4 W → W.cell? ⟨w3.heap.size, 0, none⟩ = some (.int .i64 (totalN (solveM T l) : Int)) ∧ W.cell? ⟨w3.heap.size, 1, none⟩ = some (.int .i64 (u : Int))) := hid fun W h => by
      have h0 : W.heap[w3.heap.size]? = some (.cells #[.int .i64 (totalN (solveM T l) : Int), .int .i64 (u : Int)] 62 (0, 0)) := by
        rw [h.block _ (by rw [HW4.out]; simp), HW4.out, heap_alloc_new]
      exact ⟨cell_of_row _ _ 0 _ _ _ h0, cell_of_row _ _ 1 _ _ _ h0⟩
    have hb14 := ext_trans hb13 hb4
    obtain ⟨a0, a1, a2, a3⟩ := Hbox.out W4 hb14
    rw [HW4.out] at a0 a1 a2 a3
    have Hc := hid (Hsz.out W4 _ (Hrd.out W4 hb14).1 hwf)
    have hn4 : T.foes.length ≤ 4096 := by have := hwf.fl; have := hwf.l1; omega
    have hbN := bodyN_le hwf
    have hpN := hwf.pc
    have Hx : Hid (∀ W, Below w3.heap.size w3 W → ∀ k x, (solveM T l)[k]? = some x → ∃ ad, A = some ad ∧ W.cell? (ad.add k) = some (.int .u8 ((x : Nat) : Int))) := hid fun W hW k x hx => by
      obtain ⟨A', c', e, _, _, hr⟩ := hrd.ext (scR_mono _) hW
      have eA : A = A' := by injection e
      rw [← eA] at hr
      obtain ⟨hk, rfl⟩ := List.getElem?_eq_some_iff.1 hx
      exact hr.at1 hk
    have Hg : Hid (∀ k, k < T.foes.length → ∃ x : Nat, (solveM T l)[k]? = some x ∧ x < 16 ∧ totalN ((solveM T l).take (k + 1)) = totalN ((solveM T l).take k) + tagsN x) := hid fun k hk => by
      have hk2 : k < (solveM T l).length := by rw [solve_length]; exact hk
      refine ⟨_, List.getElem?_eq_getElem hk2, ?_, totalU_take _ hk2⟩
      rcases solve_six T l k hk2 with e | e | e | e | e | e <;> rw [e] <;> decide
    have Hall : Hid (∀ k, T.foes.length ≤ k → totalN ((solveM T l).take k) = totalN (solveM T l)) := hid fun k hk => by rw [List.take_of_length_le (by rw [solve_length]; exact hk)]
    have Htl : Hid (∀ k, totalN ((solveM T l).take k) ≤ 16384) := hid fun k => by
      have := totalU_le ((solveM T l).take k)
      have h2 : ((solveM T l).take k).length ≤ (solveM T l).length := List.length_take_le' _ _
      rw [solve_length] at h2; omega
    have Htl2 : totalN (solveM T l) ≤ 16384 := by
      have := Htl.out T.foes.length
      rw [Hall.out _ (Nat.le_refl _)] at this; exact this
    have Ht0 : Hid (totalN ((solveM T l).take 0) = 0) := hid rfl
    clear hwf hrd
    generalize solveM T l = X at *
    generalize T.foes.length = n at *
    generalize bodyN T = bN at *
    generalize pairCount T = pN at *
    go_wp2_with fail
    rw [← HW4.out]
    refine Hc.out.mono ?_
    rintro e w5 ⟨_, rfl, rfl, hb5⟩
    clear Hc a0 a1 a2 a3
    have Hb4 := hid hb4
    have Hb14 := hid hb14
    clear hb2 hb3 hb13 hb4 hb14
    go_wp2_with fail
    go_loopw [12, 13] (fun v12 v13 wr => ∃ k : Nat, k ≤ n ∧ v13 = .int .i64 (k : Int) ∧ v12 = .int .i64 (totalN (X.take k) : Int) ∧ Below W4.heap.size W4 wr) (fun _ v13 _ => n - (intOf v13).toNat)
    case atStart => exact ⟨0, Nat.zero_le _, rfl, rfl, hb5⟩
    case round =>
      obtain ⟨k, hk, rfl, rfl, hbl⟩ := hrel
      by_cases hlt : k < n
      · obtain ⟨x0, hxk, hx16, hts⟩ := Hg.out k hlt
        obtain ⟨ad, rfl, hcX⟩ := Hx.out wr (ext_trans Hb4.out hbl) k x0 hxk
        have hty := Htl.out k
        have htx := tagsU_le x0
        clear hxk
        generalize totalN (X.take k) = y0 at *
        have HS := hid hts
        clear hts
        go_wp2_with fail
        obtain ⟨wo, rfl⟩ : ∃ wo : World, wo = wr := ⟨_, rfl⟩
        go_loopw [12, 14] (fun v12 v14 w6 => ∃ x y : Nat, x < 16 ∧ y + tagsN x = y0 + tagsN x0 ∧ v14 = .int .u8 (x : Int) ∧ v12 = .int .i64 (y : Int) ∧ Below wo.heap.size wo w6) (fun _ v14 _ => (intOf v14).toNat)
        case atStart => exact ⟨x0, y0, hx16, rfl, rfl, rfl, ext_refl _⟩
        case round =>
          clear hx16 hcX
          obtain ⟨x, y, hx, hxy, rfl, rfl, hbl5⟩ := hrel
          have : x = 0 ∨ x = 1 ∨ x = 2 ∨ x = 3 ∨ x = 4 ∨ x = 5 ∨ x = 6 ∨ x = 7 ∨ x = 8 ∨ x = 9 ∨ x = 10 ∨ x = 11 ∨ x = 12 ∨ x = 13 ∨ x = 14 ∨ x = 15 := by omega
          rcases this with rfl | rfl | rfl | rfl | rfl | rfl | rfl | rfl | rfl | rfl | rfl | rfl | rfl | rfl | rfl | rfl
          · have h0 : tagsN 0 = 0 := by decide
            have Hy : Hid (y = y0 + tagsN x0) := hid (by omega)
            clear hxy h0
            go_wp2
            go_roundw
            case rel => exact ⟨k + 1, by omega, by go_num, by rw [HS.out, Hy.out], ext_trans hbl hbl5⟩
            case measure => simp [intOf]; omega
          · have h1 : tagsN 1 = 1 + tagsN 0 := by decide
            have Hy : Hid (y + 1 + tagsN 0 = y0 + tagsN x0) := hid (by omega)
            have hyb : y ≤ 20000 := by omega
            clear hxy h1 hx
            go_wp2
            go_roundw
            case rel => exact ⟨0, y + 1, by omega, Hy.out, by go_num, by go_num, hbl5⟩
            case measure => first | (simp [intOf]; done) | (simp [intOf]; omega) | decide
          · have h1 : tagsN 2 = 0 + tagsN 1 := by decide
            have Hy : Hid (y + 0 + tagsN 1 = y0 + tagsN x0) := hid (by omega)
            have hyb : y ≤ 20000 := by omega
            clear hxy h1 hx
            go_wp2
            go_roundw
            case rel => exact ⟨1, y + 0, by omega, Hy.out, by go_num, by go_num, hbl5⟩
            case measure => first | (simp [intOf]; done) | (simp [intOf]; omega) | decide
          · have h1 : tagsN 3 = 1 + tagsN 1 := by decide
            have Hy : Hid (y + 1 + tagsN 1 = y0 + tagsN x0) := hid (by omega)
            have hyb : y ≤ 20000 := by omega
            clear hxy h1 hx
            go_wp2
            go_roundw
            case rel => exact ⟨1, y + 1, by omega, Hy.out, by go_num, by go_num, hbl5⟩
            case measure => first | (simp [intOf]; done) | (simp [intOf]; omega) | decide
          · have h1 : tagsN 4 = 0 + tagsN 2 := by decide
            have Hy : Hid (y + 0 + tagsN 2 = y0 + tagsN x0) := hid (by omega)
            have hyb : y ≤ 20000 := by omega
            clear hxy h1 hx
            go_wp2
            go_roundw
            case rel => exact ⟨2, y + 0, by omega, Hy.out, by go_num, by go_num, hbl5⟩
            case measure => first | (simp [intOf]; done) | (simp [intOf]; omega) | decide
          · have h1 : tagsN 5 = 1 + tagsN 2 := by decide
            have Hy : Hid (y + 1 + tagsN 2 = y0 + tagsN x0) := hid (by omega)
            have hyb : y ≤ 20000 := by omega
            clear hxy h1 hx
            go_wp2
            go_roundw
            case rel => exact ⟨2, y + 1, by omega, Hy.out, by go_num, by go_num, hbl5⟩
            case measure => first | (simp [intOf]; done) | (simp [intOf]; omega) | decide
          · have h1 : tagsN 6 = 0 + tagsN 3 := by decide
            have Hy : Hid (y + 0 + tagsN 3 = y0 + tagsN x0) := hid (by omega)
            have hyb : y ≤ 20000 := by omega
            clear hxy h1 hx
            go_wp2
            go_roundw
            case rel => exact ⟨3, y + 0, by omega, Hy.out, by go_num, by go_num, hbl5⟩
            case measure => first | (simp [intOf]; done) | (simp [intOf]; omega) | decide
          · have h1 : tagsN 7 = 1 + tagsN 3 := by decide
            have Hy : Hid (y + 1 + tagsN 3 = y0 + tagsN x0) := hid (by omega)
            have hyb : y ≤ 20000 := by omega
            clear hxy h1 hx
            go_wp2
            go_roundw
            case rel => exact ⟨3, y + 1, by omega, Hy.out, by go_num, by go_num, hbl5⟩
            case measure => first | (simp [intOf]; done) | (simp [intOf]; omega) | decide
          · have h1 : tagsN 8 = 0 + tagsN 4 := by decide
            have Hy : Hid (y + 0 + tagsN 4 = y0 + tagsN x0) := hid (by omega)
            have hyb : y ≤ 20000 := by omega
            clear hxy h1 hx
            go_wp2
            go_roundw
            case rel => exact ⟨4, y + 0, by omega, Hy.out, by go_num, by go_num, hbl5⟩
            case measure => first | (simp [intOf]; done) | (simp [intOf]; omega) | decide
          · have h1 : tagsN 9 = 1 + tagsN 4 := by decide
            have Hy : Hid (y + 1 + tagsN 4 = y0 + tagsN x0) := hid (by omega)
            have hyb : y ≤ 20000 := by omega
            clear hxy h1 hx
            go_wp2
            go_roundw
            case rel => exact ⟨4, y + 1, by omega, Hy.out, by go_num, by go_num, hbl5⟩
            case measure => first | (simp [intOf]; done) | (simp [intOf]; omega) | decide
          · have h1 : tagsN 10 = 0 + tagsN 5 := by decide
            have Hy : Hid (y + 0 + tagsN 5 = y0 + tagsN x0) := hid (by omega)
            have hyb : y ≤ 20000 := by omega
            clear hxy h1 hx
            go_wp2
            go_roundw
            case rel => exact ⟨5, y + 0, by omega, Hy.out, by go_num, by go_num, hbl5⟩
            case measure => first | (simp [intOf]; done) | (simp [intOf]; omega) | decide
          · have h1 : tagsN 11 = 1 + tagsN 5 := by decide
            have Hy : Hid (y + 1 + tagsN 5 = y0 + tagsN x0) := hid (by omega)
            have hyb : y ≤ 20000 := by omega
            clear hxy h1 hx
            go_wp2
            go_roundw
            case rel => exact ⟨5, y + 1, by omega, Hy.out, by go_num, by go_num, hbl5⟩
            case measure => first | (simp [intOf]; done) | (simp [intOf]; omega) | decide
          · have h1 : tagsN 12 = 0 + tagsN 6 := by decide
            have Hy : Hid (y + 0 + tagsN 6 = y0 + tagsN x0) := hid (by omega)
            have hyb : y ≤ 20000 := by omega
            clear hxy h1 hx
            go_wp2
            go_roundw
            case rel => exact ⟨6, y + 0, by omega, Hy.out, by go_num, by go_num, hbl5⟩
            case measure => first | (simp [intOf]; done) | (simp [intOf]; omega) | decide
          · have h1 : tagsN 13 = 1 + tagsN 6 := by decide
            have Hy : Hid (y + 1 + tagsN 6 = y0 + tagsN x0) := hid (by omega)
            have hyb : y ≤ 20000 := by omega
            clear hxy h1 hx
            go_wp2
            go_roundw
            case rel => exact ⟨6, y + 1, by omega, Hy.out, by go_num, by go_num, hbl5⟩
            case measure => first | (simp [intOf]; done) | (simp [intOf]; omega) | decide
          · have h1 : tagsN 14 = 0 + tagsN 7 := by decide
            have Hy : Hid (y + 0 + tagsN 7 = y0 + tagsN x0) := hid (by omega)
            have hyb : y ≤ 20000 := by omega
            clear hxy h1 hx
            go_wp2
            go_roundw
            case rel => exact ⟨7, y + 0, by omega, Hy.out, by go_num, by go_num, hbl5⟩
            case measure => first | (simp [intOf]; done) | (simp [intOf]; omega) | decide
          · have h1 : tagsN 15 = 1 + tagsN 7 := by decide
            have Hy : Hid (y + 1 + tagsN 7 = y0 + tagsN x0) := hid (by omega)
            have hyb : y ≤ 20000 := by omega
            clear hxy h1 hx
            go_wp2
            go_roundw
            case rel => exact ⟨7, y + 1, by omega, Hy.out, by go_num, by go_num, hbl5⟩
            case measure => first | (simp [intOf]; done) | (simp [intOf]; omega) | decide
      · obtain rfl : k = n := by omega
        have hk2 := Hall.out k (Nat.le_refl _)
        rw [hk2]
        obtain ⟨d0, d1⟩ := Hcb.out wr hbl
        clear hk2
        generalize totalN X = z at *
        go_wp2_with fail
        go_ret
        refine Fin HQ ⟨?_, ext_trans Hb1.out (ext_trans Hb14.out hbl)⟩
        simp
        omega
end Go.Proofs.Lx
