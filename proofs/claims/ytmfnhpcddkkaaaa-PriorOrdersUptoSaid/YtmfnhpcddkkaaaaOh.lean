/- PriorOrders: the walk. -/
import Derived.Test.YtmfnhpcddkkaaaaOg
namespace Go.Proofs.Lx
open Go Go.RowKit Go.Proofs.Tj
set_option linter.unusedSimpArgs false
set_option linter.unusedVariables false

def atF (R : List Nat) (i q : Nat) : Int := if q ∈ R.take i then (R.idxOf q : Int) + 1 else 0
theorem idx_nodup : ∀ {R : List Nat}, R.Nodup → ∀ i (h : i < R.length), R.idxOf R[i] = i
  | [], _, i, h => by simp at h
  | x :: R, hn, i, h => by
    rw [List.nodup_cons] at hn
    match i, h with
    | 0, _ => simp
    | i + 1, h =>
      have hi : i < R.length := by simpa using h
      rw [List.getElem_cons_succ, List.idxOf_cons]
      have hne : (x == R[i]) = false := by
        rw [beq_eq_false_iff_ne]
        intro e
        exact hn.1 (e ▸ List.getElem_mem hi)
      rw [hne, idx_nodup hn.2 i hi]; rfl
theorem atF_fresh {R : List Nat} (hn : R.Nodup) {i : Nat} (h : i < R.length) : atF R i R[i] = 0 := by
  unfold atF
  rw [if_neg]
  intro hm
  obtain ⟨j, hj, e⟩ := List.getElem_of_mem hm
  rw [List.length_take] at hj
  rw [List.getElem_take] at e
  have h1 := idx_nodup hn j (by omega)
  have h2 := idx_nodup hn i h
  rw [e, h2] at h1; omega
theorem atF_step {R : List Nat} (hn : R.Nodup) {i : Nat} (h : i < R.length) (q : Nat) : atF R (i + 1) q = if q = R[i] then (i : Int) + 1 else atF R i q := by
  unfold atF
  rw [List.take_succ_eq_append_getElem h]
  by_cases e : q = R[i]
  · rw [if_pos e, if_pos (by rw [e]; exact List.mem_append_right _ (List.mem_singleton.2 rfl)), e, idx_nodup hn i h]
  · rw [if_neg e]
    by_cases h2 : q ∈ R.take i
    · rw [if_pos h2, if_pos (List.mem_append_left _ h2)]
    · rw [if_neg h2, if_neg (fun hm => (List.mem_append.1 hm).elim h2 (fun h3 => e (List.mem_singleton.1 h3)))]
theorem took_all {B : List (List Int)} {R : List Nat} (h : Took B R) (hl : R.length = B.length) (q : Nat) (hq : q < B.length) : q ∈ R := by
  by_cases e : q ∈ R
  · exact e
  · exfalso
    have hnd : (R ++ [q]).Nodup := by
      rw [List.nodup_append]
      exact ⟨h.nd, by simp, fun a ha b hb e2 => e (by rw [List.mem_singleton.1 hb] at e2; exact e2 ▸ ha)⟩
    have := nodup_len hnd (n := B.length) fun x hx => by
      rcases List.mem_append.1 hx with hx | hx
      · exact h.lt x hx
      · rw [List.mem_singleton.1 hx]; exact hq
    rw [List.length_append, List.length_singleton] at this; omega
theorem took_before {B : List (List Int)} {R : List Nat} (h : Took B R) (hl : R.length = B.length) {x k : Nat} (he : EdgeB B x k) : atF R R.length x < atF R R.length k := by
  have hx := took_all h hl x he.1
  have hk := took_all h hl k he.2.1
  unfold atF
  rw [List.take_length, if_pos hx, if_pos hk]
  have := h.ord (R.idxOf x) (R.idxOf k) (List.idxOf_lt_length_of_mem hx) (List.idxOf_lt_length_of_mem hk) (by rw [List.getElem_idxOf, List.getElem_idxOf]; exact he)
  omega
theorem atF_bound {R : List Nat} {i q : Nat} (hn : R.length ≤ 1048576) : 0 ≤ atF R i q ∧ atF R i q ≤ 1048577 := by
  unfold atF
  split
  · rename_i h
    have := List.idxOf_lt_length_of_mem (List.mem_of_mem_take h)
    omega
  · omega

set_option maxRecDepth 100000 in
set_option maxHeartbeats 3200000 in
theorem orders_any (w : World) (v : Value) (B : List (List Int)) (hB : RdLL w v B) (hn : B.length ≤ 1048576) (ht : total B ≤ 1048576) :
    Calls Try.prog 3 #[v] w (Ret fun v w' => v = .bool true ∧ Below w.heap.size w w') := by
  have HB := hid hB
  obtain ⟨A, c, rfl, hc, hb, hr⟩ := hB
  have Hal := hid (alive_any w)
  have Hor := hid (fun w' (hb : Below w.heap.size w w') => order_any w' _ B (HB.out.ext llR_mono hb) hn ht)
  have Hcy := hid (fun w' (hb : Below w.heap.size w w') => cycle_any w' _ B (HB.out.ext llR_mono hb) hn ht)
  have hmk := mkN B.length hn
  refine post_gen fun Q HQ => ?_
  go_enter Try.func3, Try.ntmps3
  go_wp2_with fail
  refine Hal.out.mono ?_
  rintro e w2 ⟨_, rfl, rfl, hb2⟩
  have h2 := hid (Hor.out w2 hb2)
  clear Hal Hor
  go_wp2_with fail
  refine h2.out.mono ?_
  rintro e w3 ⟨_, rfl, h, hb3⟩
  have hb3' := ext_trans hb2 hb3
  have h3 := hid (Hcy.out w3 hb3')
  clear Hcy h2
  rcases h with ⟨R, s, hT, hRl, rfl, hown⟩ | ⟨rfl, hnp⟩
  · have hpot := hT.pot hRl
    have hrd := own_ints hown (by omega)
    have HR := hid (And.intro hT hRl)
    clear hown hT hRl
    go_wp2_with fail
    refine h3.out.mono ?_
    rintro e w4 ⟨_, rfl, h, hb4⟩
    rcases h with ⟨L, s2, _, hnp, _⟩ | ⟨rfl, _⟩
    · exact absurd hpot hnp
    have hb4' := ext_trans hb3' hb4
    have hrd4 := hrd.ext (scR_mono _) hb4
    obtain ⟨AR, cR, rfl, hcR, hbR, hrR⟩ := hrd4
    have hRn : (ints R).length = B.length := by rw [List.length_map]; exact HR.out.2
    rw [hRn] at hcR hbR
    rw [hRn]
    have hnew := ArrI.new w4 B.length
    have hnb := Hid.out (hid hb4')
    have hblN := hb4'.alloc hb4'.size (.cells (madeCells #[.int .i64 0] B.length) 3)
    have hlt4 : w.heap.size ≤ w4.heap.size := hb4'.size
    have Hst := hid (And.intro hnew (And.intro hblN (ext_alloc w4 (.cells (madeCells #[.int .i64 0] B.length) 3))))
    have Hwn := hid hlt4
    clear hrd hRn hpot h3 hnew hblN hb2 hb3 hb3' hnb hlt4 hb4 hb4' ht
    generalize hL : B.length = n at *
    have HL := hid hL
    clear hL
    obtain ⟨g, Hg⟩ : ∃ g, Hid (w4.heap.size = g) := ⟨_, hid rfl⟩
    go_wp2
    go_loopw [8] (fun v8 wr => ∃ i : Nat, i ≤ n ∧ v8 = .int .i64 i ∧ ArrI wr w4.heap.size n (atF R i) ∧ Below w4.heap.size w4 wr ∧ Below w.heap.size w wr) (fun v8 _ => n - (intOf v8).toNat)
    case atStart => exact ⟨0, Nat.zero_le _, rfl, by have := Hst.out.1; unfold ArrI at this ⊢; rw [tabI_congr (g := fun _ => 0) (fun q _ => by simp [atF])]; exact this, Hst.out.2.2, Hst.out.2.1⟩
    case round =>
      clear Hst
      obtain ⟨i, hi, rfl, hA, hb4, hbl⟩ := hrel
      by_cases hlt : i < n
      · have hiR : i < R.length := by rw [HR.out.2]; exact hlt
        obtain ⟨ad, rfl, hcell⟩ := (hrR.ext (scR_mono _) hb4).at1 (k := i) (by rw [List.length_map]; exact hiR)
        obtain ⟨x, Hx⟩ : ∃ x, Hid (R[i] = x) := ⟨_, hid rfl⟩
        have hcx : wr.cell? (ad.add i) = some (.int .i64 (x : Int)) := by rw [hcell]; simp [Hx.out]
        have hxn : x < n := by rw [← Hx.out]; have := HR.out.1.lt _ (List.getElem_mem hiR); rw [HL.out] at this; exact this
        have hcA := hA.at hxn
        have hfr := Arr.free hA x
        have h0 : atF R i x = 0 := by rw [← Hx.out]; exact atF_fresh HR.out.1.nd hiR
        rw [h0] at hcA
        have Hstep : Hid (∀ q, atF R (i + 1) q = if q = x then (i : Int) + 1 else atF R i q) := hid fun q => by rw [atF_step HR.out.1.nd hiR, Hx.out]
        clear hcell h0
        go_wp2
        go_roundw
        case rel =>
          refine ⟨i + 1, by omega, by go_num, ?_, hb4.setCell (Nat.le_refl _) _, hbl.setCell Hwn.out _⟩
          have h9 := hA.put x ((i : Int) + 1)
          unfold ArrI at h9 ⊢
          rw [tabI_congr (g := fun q => if q = x then (i : Int) + 1 else atF R i q) (fun q _ => Hstep.out q)]
          exact h9
        case measure => simp [intOf]; omega
      · obtain rfl : i = n := by omega
        have Hbef : Hid (∀ x k, EdgeB B x k → atF R i x < atF R i k) := hid fun x k he => by
          have := took_before HR.out.1 (by rw [HR.out.2, HL.out]) he
          rw [HR.out.2] at this; exact this
        have Hbd : Hid (∀ q, 0 ≤ atF R i q ∧ atF R i q ≤ 1048577) := hid fun q => atF_bound (by rw [HR.out.2]; exact hn)
        generalize atF R i = f at *
        have Hbl := hid hbl
        have Hb4 := hid hb4
        obtain ⟨wo, rfl⟩ : ∃ wo : World, wo = wr := ⟨_, rfl⟩
        clear hbl hb4 hlt
        go_wp2
        go_loopw [9] (fun v9 wr => ∃ k : Nat, k ≤ i ∧ v9 = .int .i64 k ∧ Below wo.heap.size wo wr) (fun v9 _ => i - (intOf v9).toNat)
        case atStart => exact ⟨0, Nat.zero_le _, rfl, Below.refl _ _⟩
        case round =>
          obtain ⟨k, hk, rfl, hbl⟩ := hrel
          by_cases hlt : k < i
          · have hkB : k < B.length := by rw [HL.out]; exact hlt
            obtain ⟨adB, C, cC, rfl, p0, h1, h2, hrow⟩ := (hr.ext llR_mono (ext_trans Hbl.out hbl)).atRow hkB
            have Hrow : Hid (B.getD k [] = B[k]) := hid (by simp [hkB])
            have HkB := hid hkB
            generalize B[k] = row at *
            clear hkB
            obtain ⟨w6, rfl⟩ : ∃ w6 : World, w6 = wr := ⟨_, rfl⟩
            go_wp2
            go_loopw [10] (fun v10 wr => ∃ j : Nat, j ≤ row.length ∧ v10 = .int .i64 j ∧ Below w6.heap.size w6 wr) (fun v10 _ => row.length - (intOf v10).toNat)
            case atStart => exact ⟨0, Nat.zero_le _, rfl, Below.refl _ _⟩
            case round =>
              obtain ⟨j, hj, rfl, hbl7⟩ := hrel
              have p := cell_ext hbl7 p0
              by_cases hltj : j < row.length
              · obtain ⟨ad2, rfl, hcy⟩ := (hrow.ext (scR_mono _) hbl7).at1 hltj
                obtain ⟨y, Hy⟩ : ∃ y, Hid (row[j] = y) := ⟨_, hid rfl⟩
                rw [Hy.out] at hcy
                have hA7 := Arr.ext hA (ext_trans hbl hbl7)
                by_cases hv : 0 ≤ y ∧ y < i
                · obtain ⟨m, rfl⟩ := Int.eq_ofNat_of_zero_le hv.1
                  have hm : m < i := by omega
                  have hedge : EdgeB B k m := ⟨HkB.out, by rw [HL.out]; exact hm, by rw [Hrow.out, ← Hy.out]; exact List.getElem_mem _⟩
                  have hbe := Hbef.out k m hedge
                  have ck := ArrI.at hA7 hlt
                  have cm := ArrI.at hA7 hm
                  have bk := Hbd.out k
                  have bm := Hbd.out m
                  generalize f k = fk at *
                  generalize f m = fm at *
                  have hle : ¬ fm ≤ fk := by omega
                  clear hedge hA7
                  go_wp2
                  go_quiet (fail)
                  go_wp2
                  go_roundw
                  case rel => exact ⟨j + 1, by omega, by go_num, below_drewN hbl7 _⟩
                  case measure => simp [intOf]; omega
                · by_cases h0 : 0 ≤ y
                  · have hge : decide (y < (i : Int)) = false := decide_eq_false fun h => hv ⟨h0, h⟩
                    clear hv hA7
                    go_wp2
                    go_quiet (fail)
                    go_wp2
                    go_roundw
                    case rel => exact ⟨j + 1, by omega, by go_num, below_drewN hbl7 _⟩
                    case measure => simp [intOf]; omega
                  · have hge : decide ((0 : Int) ≤ y) = false := decide_eq_false h0
                    clear hv hA7 h0
                    go_wp2
                    go_quiet (fail)
                    go_wp2
                    go_roundw
                    case rel => exact ⟨j + 1, by omega, by go_num, below_drewN hbl7 _⟩
                    case measure => simp [intOf]; omega
              · go_wp2
                go_roundw
                case rel => exact ⟨k + 1, by omega, by go_num, ext_trans hbl hbl7⟩
                case measure => simp [intOf]; omega
          · go_wp2
            go_ret
            exact Fin HQ ⟨rfl, ext_trans Hbl.out hbl⟩
  · go_wp2_with fail
    refine h3.out.mono ?_
    rintro e w4 ⟨_, rfl, h, hb4⟩
    rcases h with ⟨L, s2, _, _, rfl, _⟩ | ⟨_, hp⟩
    · go_wp2
      go_ret
      exact Fin HQ ⟨rfl, ext_trans hb3' hb4⟩
    · exact absurd hp hnp
end Go.Proofs.Lx
