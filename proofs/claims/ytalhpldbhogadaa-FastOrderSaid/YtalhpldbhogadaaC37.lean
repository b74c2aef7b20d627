/- Parts of the proof: Wd. Contracts of the reference's small functions of layer 16: Run, Has, Tags, Total; the law's num. -/
import Derived.Test.YtalhpldbhogadaaC43
import Derived.Test.YtalhpldbhogadaaC31
namespace Go.Proofs.Lx
open Go Go.RowKit Go.Proofs.Tj
set_option linter.unusedSimpArgs false
set_option linter.unusedVariables false
theorem has16_plain (x : Nat) (hx : x < 256) (tag : Int) (k : Nat) (hk : k < 4) (ht : tag = (k : Int) + 1) (w : World) : Calls Try.prog 73 #[.int .u8 (x : Int), .int .i64 tag] w fun e w' => e = .returned (.bool (x.testBit k)) ∧ w' = w := by
  refine Calls.mono (R := Ret fun v w' => v = .bool (x.testBit k) ∧ w' = w) ?_ (fun e w' ⟨v, he, hv, hw⟩ => ⟨by rw [he, hv], hw⟩)
  have Hmm := hid (bit_mask x hx k hk)
  have Hb := hid (bit15_plain tag k hk ht w)
  clear ht
  generalize hz : (2 ^ k : Nat) = z at *
  clear hz
  generalize x.testBit k = y at *
  refine post_gen fun Q HQ => ?_
  go_enter Try.func73, Try.ntmps73
  go_wp2_with (go_at_call 74; refine Hb.out.mono ?_; rintro e w2 ⟨rfl, rfl⟩)
  go_ret
  exact Fin HQ ⟨congrArg Value.bool Hmm.out, rfl⟩
def cntT (x k : Nat) : Nat := (List.range k).countP fun j => x.testBit j
theorem cntT_succ (x k : Nat) : cntT x (k + 1) = cntT x k + if x.testBit k = true then 1 else 0 := by
  unfold cntT
  rw [List.range_succ, List.countP_append]
  cases h : x.testBit k <;> simp [h]
theorem cntT_le (x k : Nat) : cntT x k ≤ k := by
  have := countP_le_len (fun j => x.testBit j) (List.range k)
  rwa [List.length_range] at this
theorem cntT_four (x : Nat) : cntT x 4 = tagsN x := by
  rw [cntT_succ, cntT_succ, cntT_succ, cntT_succ]; unfold tagsN cntT; simp
theorem tagsN_le (x : Nat) : tagsN x ≤ 4 := by rw [← cntT_four]; exact cntT_le x 4
set_option maxHeartbeats 800000 in
theorem tags_any (x : Nat) (hx : x < 256) (w : World) : Calls Try.prog 72 #[.int .u8 (x : Int)] w (Ret fun v w' => v = .int .i64 (tagsN x : Int) ∧ Below w.heap.size w w') := by
  have Hh := hid (fun (k : Nat) (hk : k < 4) (W : World) => has16_plain x hx ((k : Int) + 1) k hk rfl W)
  rw [← cntT_four]
  have Hs := hid (cntT_succ x)
  have Hle := hid (cntT_le x)
  refine post_gen fun Q HQ => ?_
  go_enter Try.func72, Try.ntmps72
  go_wp2
  go_loopw [3, 4] (fun v3 v4 wr => ∃ k : Nat, k ≤ 4 ∧ v4 = .int .i64 ((k : Int) + 1) ∧ v3 = .int .i64 (cntT x k : Int) ∧ Below w.heap.size w wr) (fun _ v4 _ => 5 - (intOf v4).toNat)
  case atStart => exact ⟨0, by omega, rfl, rfl, ext_refl _⟩
  case round =>
    obtain ⟨k, hk, rfl, rfl, hbl⟩ := hrel
    by_cases hlt : k < 4
    · have hc := Hh.out k hlt wr
      have hs := Hs.out k
      have hle := Hle.out k
      generalize cntT x k = n at *
      cases hb : x.testBit k with
      | true =>
        rw [hb] at hc hs
        have Hc := hid hc
        rw [if_pos rfl] at hs
        have HS := hid hs
        clear hb hc hs
        go_wp2_with (go_at_call 73; refine Hc.out.mono ?_; rintro e w2 ⟨rfl, rfl⟩)
        go_roundw
        case rel => exact ⟨k + 1, by omega, by go_num, by rw [HS.out]; go_num, hbl⟩
        case measure => simp [intOf]; omega
      | false =>
        rw [hb] at hc hs
        have Hc := hid hc
        rw [if_neg Bool.false_ne_true] at hs
        have HS := hid hs
        clear hb hc hs
        go_wp2_with (go_at_call 73; refine Hc.out.mono ?_; rintro e w2 ⟨rfl, rfl⟩)
        go_roundw
        case rel => exact ⟨k + 1, by omega, by go_num, by rw [HS.out]; go_num, hbl⟩
        case measure => simp [intOf]; omega
    · obtain rfl : k = 4 := by omega
      go_wp2
      go_ret
      exact Fin HQ ⟨rfl, hbl⟩
theorem totalN_take (X : List Nat) {k : Nat} (hk : k < X.length) : totalN (X.take (k + 1)) = totalN (X.take k) + tagsN X[k] := by
  unfold totalN; rw [List.take_succ_eq_append_getElem hk, List.map_append, List.sum_append]; simp
theorem totalN_le (X : List Nat) : totalN X ≤ 4 * X.length := by
  induction X with
  | nil => simp [totalN]
  | cons x X ih =>
    have := tagsN_le x
    unfold totalN at *
    rw [List.map_cons, List.sum_cons, List.length_cons]; omega
set_option maxHeartbeats 800000 in
theorem total_any (w : World) (v : Value) (X : List Nat) (h : RdMk w v X) (h8 : ∀ x ∈ X, x < 256) :
    Calls Try.prog 40 #[v] w (Ret fun v w' => v = .int .i64 (totalN X : Int) ∧ Below w.heap.size w w') := by
  obtain ⟨A, c, rfl, hc, hb, hr⟩ := h
  have Hr : Hid (∀ W, Below w.heap.size w W → ∀ (k x : Nat), X[k]? = some x → ∃ ad, A = some ad ∧ W.cell? (ad.add k) = some (.int .u8 (x : Int))) := hid fun W hW k x hx => by
    obtain ⟨hk, rfl⟩ := List.getElem?_eq_some_iff.1 hx
    exact (hr.ext (scR_mono _) hW).at1 hk
  have Ht : Hid (∀ (k x : Nat), X[k]? = some x → totalN (X.take (k + 1)) = totalN (X.take k) + tagsN x) := hid fun k x hx => by
    obtain ⟨hk, rfl⟩ := List.getElem?_eq_some_iff.1 hx
    exact totalN_take X hk
  have Hx : Hid (∀ k : Nat, k < X.length → ∃ x : Nat, X[k]? = some x ∧ x < 256) := hid fun k hk => ⟨_, List.getElem?_eq_getElem hk, h8 _ (List.getElem_mem hk)⟩
  have Hle : Hid (∀ k, totalN (X.take k) ≤ 562949953421312) := hid fun k => by
    have := totalN_le (X.take k); have h2 : (X.take k).length ≤ X.length := List.length_take_le' _ _; omega
  have Hfin : Hid (∀ k, X.length ≤ k → totalN (X.take k) = totalN X) := hid fun k hk => by rw [List.take_of_length_le hk]
  generalize hn : X.length = n at *
  clear hn hr h8
  refine post_gen fun Q HQ => ?_
  go_enter Try.func40, Try.ntmps40
  go_wp2
  go_loopw [3, 4] (fun v3 v4 wr => ∃ k : Nat, k ≤ n ∧ v4 = .int .i64 (k : Int) ∧ v3 = .int .i64 (totalN (X.take k) : Int) ∧ Below w.heap.size w wr) (fun _ v4 _ => n - (intOf v4).toNat)
  case atStart => exact ⟨0, by omega, rfl, rfl, ext_refl _⟩
  case round =>
    obtain ⟨k, hk, rfl, rfl, hbl⟩ := hrel
    by_cases hlt : k < n
    · obtain ⟨x, hxk, hx8⟩ := Hx.out k hlt
      obtain ⟨ad, rfl, hcX⟩ := Hr.out wr hbl k x hxk
      have hts := Ht.out k x hxk
      have hle := Hle.out k
      clear hxk
      have htl := tagsN_le x
      have Hcall := hid (tags_any x hx8 wr)
      generalize tagsN x = z at *
      generalize hy : totalN (X.take k) = y at *
      have HS := hid hts
      have Hy := hid hy
      clear hts hy
      go_wp2_with (go_at_call 72; refine Hcall.out.mono ?_; rintro e w2 ⟨_, rfl, rfl, hb2⟩)
      go_roundw
      case rel => exact ⟨k + 1, by omega, by go_num, by rw [HS.out]; go_num, ext_trans hbl hb2⟩
      case measure => simp [intOf]; omega
    · go_wp2
      go_ret
      exact Fin HQ ⟨by show Value.int .i64 (totalN (X.take k) : Int) = _; rw [Hfin.out k (by omega)], hbl⟩
theorem run16_any (w : World) (V vl : Value) (T : Th) (l : List Int) (hT : RdTh w V T) (hl : RdI w vl l) :
    Calls Try.prog 38 #[V, vl] w (Ret (FRunPost w T l)) := by
  have HT := hid hT
  obtain ⟨vF, vR, vB, rfl, hF, hR, hB⟩ := hT
  have hbel := ext_alloc w (.cells #[.int .i64 T.lits, vF, vR, vB] 25)
  have hch := hid (solve15_any (w.alloc (.cells #[.int .i64 T.lits, vF, vR, vB] 25)) _ vl T l (HT.out.ext hbel) (hl.ext (scR_mono _) hbel))
  clear hF hR hB
  refine post_gen fun Q HQ => ?_
  go_enter Try.func38, Try.ntmps38
  go_wp2_with fail
  refine hch.out.mono ?_
  rintro e w2 ⟨_, rfl, v, rfl, h1, h2, hb2⟩
  have H1 := hid h1
  have H2 := hid h2
  clear h1 h2
  go_wp2_with fail
  go_ret2
  exact Fin HQ ⟨v, rfl, fun h => own_lower (H1.out h) hbel.size, H2.out, ext_trans hbel hb2⟩
end Go.Proofs.Lx
