/- Contract of prior.Order. -/
import Derived.Test.YtmfnhpcddkkaaaaOc
import Derived.Maps.AppendAt
namespace Go.Proofs.Lx
open Go Go.RowKit Go.Proofs.Tj
set_option linter.unusedSimpArgs false
set_option linter.unusedVariables false

theorem grown_set (w : World) (b i : Nat) (v : Value) : w.grownBy (w.setCell ⟨b, i, none⟩ v) (some b) :=
  ⟨rfl, rfl, rfl, by simp, fun k _ hk => heap_setCell_other w ⟨b, i, none⟩ k v (fun e => hk (by rw [e]))⟩
abbrev intN (R : List Nat) : List Value := R.map fun (q : Nat) => Value.int .i64 (q : Int)
abbrev ArrI (w : World) (g n : Nat) (f : Nat → Int) : Prop := Arr (Value.int .i64) 3 w g (tabI n f)
theorem ArrI.at {w : World} {g n : Nat} {f : Nat → Int} (h : ArrI w g n f) {m : Nat} (hm : m < n) : w.cell? ⟨g, m, none⟩ = some (.int .i64 (f m)) := by
  have := Arr.cell h (i := m) (by rw [tabI_length]; exact hm)
  rwa [tabI_at] at this
theorem ArrI.put {w : World} {g n : Nat} {f : Nat → Int} (h : ArrI w g n f) (m : Nat) (v : Int) : ArrI (w.setCell ⟨g, m, none⟩ (.int .i64 v)) g n (fun q => if q = m then v else f q) := by
  have := Arr.set h m v
  rwa [tabI_set] at this
theorem ArrI.new (w : World) (n : Nat) : ArrI (w.alloc (.cells (madeCells #[.int .i64 0] n) 3)) w.heap.size n (fun _ => 0) := by
  have := made_arr (Value.int .i64) 0 3 w n
  have e : List.replicate n (0 : Int) = tabI n (fun _ => 0) := by
    apply List.ext_getElem
    · simp [tabI]
    · intro i h1 h2; rw [tabI_at]; simp
  rwa [e] at this
theorem ArrI.rd {w : World} {g n : Nat} {f : Nat → Int} (h : ArrI w g n f) (hn : n ≤ 1048576) : RdI w (.slice (some ⟨g, 0, none⟩) n n) (tabI n f) := by
  have := Arr.reads h (by rw [tabI_length]; omega) n (by rw [tabI_length]; exact Nat.le_refl _)
  rwa [tabI_length] at this
/-- What Order keeps of a place while it takes x. -/
def waitF (B : List (List Int)) (R : List Nat) (x j q : Nat) : Int := if q ∈ R ∨ q = x then -1 else (cntR B R q : Int) - (occ ((B.getD x []).take j) q : Nat)
def waitG (B : List (List Int)) (R : List Nat) (q : Nat) : Int := if q ∈ R then -1 else (cntR B R q : Int)
theorem waitF_end {B : List (List Int)} {R : List Nat} {x j : Nat} (hx : x < B.length) (hn : x ∉ R) (hj : (B.getD x []).length ≤ j) (q : Nat) : waitF B R x j q = waitG B (R ++ [x]) q := by
  unfold waitF waitG
  rw [List.take_of_length_le hj]
  by_cases h : q ∈ R ∨ q = x
  · rw [if_pos h, if_pos (by simp; exact h)]
  · rw [if_neg h, if_neg (by simp; exact ⟨fun e => h (.inl e), fun e => h (.inr e)⟩), cntR_snoc B R hx hn q]
    omega
theorem waitF_start {B : List (List Int)} {R : List Nat} {x : Nat} (q : Nat) : waitF B R x 0 q = if q = x then -1 else waitG B R q := by
  unfold waitF waitG
  by_cases h : q = x
  · rw [if_pos (.inr h), if_pos h]
  · rw [if_neg h]
    by_cases h2 : q ∈ R
    · rw [if_pos (.inl h2), if_pos h2]
    · rw [if_neg (by intro e; exact e.elim h2 h), if_neg h2]; simp [occ]
theorem waitF_skip {B : List (List Int)} {R : List Nat} {x j : Nat} (hj : j < (B.getD x []).length) (q : Nat) (hne : (B.getD x [])[j] ≠ (q : Int)) : waitF B R x (j + 1) q = waitF B R x j q := by
  unfold waitF
  rw [occ_take _ _ hj, if_neg hne]; simp
theorem waitF_hit {B : List (List Int)} {R : List Nat} {x j m : Nat} (hj : j < (B.getD x []).length) (hm : (B.getD x [])[j] = (m : Int)) (h1 : m ∉ R) (h2 : m ≠ x) (q : Nat) : waitF B R x (j + 1) q = if q = m then waitF B R x j m - 1 else waitF B R x j q := by
  unfold waitF
  rw [occ_take _ _ hj, hm]
  by_cases e : q = m
  · subst e
    rw [if_pos rfl, if_pos rfl, if_neg (by intro e; exact e.elim h1 h2), if_neg (by intro e; exact e.elim h1 h2)]
    omega
  · rw [if_neg (by omega : ¬ (m : Int) = (q : Int)), if_neg e]; simp
theorem wait_free {B : List (List Int)} {R : List Nat} (ht : Took B R) {x : Nat} (hx : x < B.length) (h0 : waitG B R x = 0) : x ∉ R ∧ ∀ y, y ∉ R → ¬ EdgeB B y x := by
  unfold waitG at h0
  by_cases h : x ∈ R
  · rw [if_pos h] at h0; omega
  · rw [if_neg h] at h0
    exact ⟨h, (cntR_zero hx).1 (by omega)⟩
theorem wait_stuck {B : List (List Int)} {R : List Nat} (hl : R.length < B.length) (h0 : ∀ q, q < B.length → waitG B R q ≠ 0) : ¬ Pot B := by
  refine Tj.stuck hl fun q hq hr => ?_
  by_cases h : ∃ y, y ∉ R ∧ EdgeB B y q
  · exact h
  · exfalso
    refine h0 q hq ?_
    unfold waitG
    rw [if_neg hr, (cntR_zero hq).2 fun y hy he => h ⟨y, hy, he⟩]; rfl
theorem wait_bound {B : List (List Int)} {R : List Nat} {x j q : Nat} (hx : x < B.length) (ht : total B ≤ 1048576) : -1048577 ≤ waitF B R x j q ∧ waitF B R x j q ≤ 1048576 := by
  unfold waitF
  have h1 := cntR_le B R q
  have h2 := occ_le ((B.getD x []).take j) q
  have h3 : ((B.getD x []).take j).length ≤ (B.getD x []).length := by simp; omega
  have h4 := pre_le B (q := q) hx (B.getD x []) (Nat.le_refl _)
  have h5 := sumTo_le_total B (x + 1) hx
  rw [sumTo] at h5
  split <;> omega

theorem own_mono {w : World} {base base' e size n : Nat} {v : Value} {xs : List Value} (h : w.ownsRow base e size v n xs) (hb : base' ≤ base) : w.ownsRow base' e size v n xs :=
  ⟨h.1, h.2.imp id fun ⟨g, cap, cur, h1, h2, h3⟩ => ⟨g, cap, cur, h1, Nat.le_trans hb h2, h3⟩⟩
theorem grown_own {w wa w3 : World} {u : Value} {o : Obj} (hb : Below w.heap.size w wa) (hlt : ∀ g, u.ownBlock = some g → w.heap.size + 1 ≤ g) (hg : (wa.alloc o).grownBy w3 u.ownBlock) : Below w.heap.size w w3 ∧ ∀ g, g ≤ w.heap.size → g < wa.heap.size → w3.heap[g]? = wa.heap[g]? := by
  have key : ∀ g, g ≤ w.heap.size → g < wa.heap.size → w3.heap[g]? = wa.heap[g]? := fun g h1 h2 => by
    rw [hg.block g (by rw [World.size_alloc]; omega) (fun e => by have := hlt g e.symm; omega)]
    exact heap_alloc_old _ _ h2
  have hsz := hg.size
  rw [World.size_alloc] at hsz
  have := hb.size
  exact ⟨⟨hg.os.trans hb.os, hg.tape.trans hb.tape, hg.output.trans hb.output, by omega, fun g h => (key g (by omega) (by omega)).trans (hb.block g h)⟩, key⟩

set_option maxRecDepth 100000 in
set_option maxHeartbeats 3200000 in
theorem order_any (w : World) (v : Value) (B : List (List Int)) (hB : RdLL w v B) (hn : B.length ≤ 1048576) (ht : total B ≤ 1048576) :
    Calls Try.prog 6 #[v] w (Ret fun r w' => ((∃ (R : List Nat) (s : Value), Took B R ∧ R.length = B.length ∧ r = .tuple #[s, .bool true] ∧ w'.ownsRow w.heap.size 3 1 s R.length (intN R)) ∨ (r = .tuple #[.slice none 0 0, .bool false] ∧ ¬ Pot B)) ∧ Below w.heap.size w w') := by
  obtain ⟨A, c, rfl, hc, hb, hr⟩ := hB
  obtain ⟨i0, hi, hz0, hz1, hz2⟩ := info_parts infoI
  have hmk := mkN B.length hn
  have hmo := mkO B.length hn
  have Htot := hid ht
  have hnew := ArrI.new w B.length
  generalize hL : B.length = n at *
  have HL := hid hL
  clear hL ht
  refine post_gen fun Q HQ => ?_
  go_enter Try.func6, Try.ntmps6
  go_wp2
  go_loopw [18] (fun v18 wr => ∃ i : Nat, i ≤ n ∧ v18 = .int .i64 i ∧ (∃ f, ArrI wr w.heap.size n f ∧ Hid (∀ q, q < n → f q = (pre B i q : Int))) ∧ Below w.heap.size w wr) (fun v18 _ => n - (intOf v18).toNat)
  case atStart => exact ⟨0, Nat.zero_le _, rfl, ⟨_, hnew, fun q _ => by simp [pre, sumTo]⟩, ext_alloc _ _⟩
  case round =>
    clear hnew
    obtain ⟨i, hi', rfl, ⟨f, hA, hf⟩, hbl⟩ := hrel
    by_cases hlt : i < n
    · have hi2 : i < B.length := by rw [HL.out]; exact hlt
      obtain ⟨ad, C, cC, rfl, p0, h1, h2, hrow⟩ := hr.atRow hi2
      have p := cell_ext hbl p0
      have Hrow : Hid (B.getD i [] = B[i]) := hid (by simp [hi2])
      have Hi2 := hid hi2
      generalize B[i] = row at *
      clear hi2
      obtain ⟨wo, rfl⟩ : ∃ wo : World, wo = wr := ⟨_, rfl⟩
      go_wp2
      go_loopw [24] (fun v24 wr => ∃ j : Nat, j ≤ row.length ∧ v24 = .int .i64 j ∧ (∃ f, ArrI wr w.heap.size n f ∧ Hid (∀ q, q < n → f q = ((pre B i q + occ (row.take j) q : Nat) : Int))) ∧ Below w.heap.size w wr) (fun v24 _ => row.length - (intOf v24).toNat)
      case atStart => exact ⟨0, Nat.zero_le _, rfl, ⟨f, hA, fun q hq => by rw [hf.out q hq]; simp [occ]⟩, hbl⟩
      case round =>
        clear hf hA hbl p
        obtain ⟨j, hj, rfl, ⟨f, hA, hf⟩, hbl⟩ := hrel
        by_cases hltj : j < row.length
        · obtain ⟨ad2, rfl, hcell⟩ := (hrow.ext (scR_mono _) hbl).at1 hltj
          obtain ⟨x, Hx⟩ : ∃ x, Hid (row[j] = x) := ⟨_, hid rfl⟩
          rw [Hx.out] at hcell
          have Hocc : Hid (∀ q, occ (row.take (j + 1)) q = occ (row.take j) q + if x = (q : Int) then 1 else 0) := hid fun q => by rw [occ_take _ _ hltj, Hx.out]
          by_cases hv : 0 ≤ x ∧ x < n
          · obtain ⟨m, rfl⟩ := Int.eq_ofNat_of_zero_le hv.1
            have hm : m < n := by omega
            have hcm := hA.at hm
            have hfm := Arr.free hA m
            have hbd : 0 ≤ f m ∧ f m ≤ 1048576 := by
              rw [hf.out m hm]
              have h4 := pre_le B (i := i) (q := m) Hi2.out (row.take j) (by rw [Hrow.out]; simp; omega)
              have h5 := Htot.out
              omega
            generalize hy : f m = y at *
            have Hy := hid hy
            clear hy
            go_wp2
            go_roundw
            case rel =>
              refine ⟨j + 1, by omega, by go_num, ⟨_, hA.put m _, hid fun q hq => ?_⟩, hbl.setCell (Nat.le_refl _) _⟩
              rw [Hocc.out q]
              by_cases e : q = m
              · subst e; rw [if_pos rfl, if_pos rfl, ← Hy.out, hf.out q hq]; omega
              · rw [if_neg e, if_neg (by omega), hf.out q hq]; omega
            case measure => simp [intOf]; omega
          · have Hn : Hid (∀ q, q < n → ¬ x = (q : Int)) := hid fun q hq e => hv ⟨by omega, by omega⟩
            by_cases h0 : 0 ≤ x
            · have hge : ¬ x < (n : Int) := fun h => hv ⟨h0, h⟩
              clear hv
              go_wp2
              go_roundw
              case rel => exact ⟨j + 1, by omega, by go_num, ⟨f, hA, hid fun q hq => by rw [Hocc.out q, if_neg (Hn.out q hq), hf.out q hq]; omega⟩, hbl⟩
              case measure => simp [intOf]; omega
            · clear hv
              go_wp2
              go_roundw
              case rel => exact ⟨j + 1, by omega, by go_num, ⟨f, hA, hid fun q hq => by rw [Hocc.out q, if_neg (Hn.out q hq), hf.out q hq]; omega⟩, hbl⟩
              case measure => simp [intOf]; omega
        · have hend : Hid (row.take j = row) := hid (List.take_of_length_le (by omega))
          go_wp2
          go_roundw
          case rel =>
            refine ⟨i + 1, by omega, by go_num, ⟨f, hA, hid fun q hq => ?_⟩, hbl⟩
            rw [hf.out q hq, hend.out, pre, pre, sumTo, Hrow.out]
          case measure => simp [intOf]; omega
    · obtain rfl : i = n := by omega
      have hA2 : ∃ f, ArrI wr w.heap.size i f ∧ Hid (∀ q, q < i → f q = waitG B [] q) := by
        refine ⟨f, hA, hid fun q hq => ?_⟩
        rw [hf.out q hq, waitG, if_neg (by simp), cntR_nil, HL.out]
      obtain ⟨wo, rfl⟩ : ∃ wo : World, wo = wr := ⟨_, rfl⟩
      clear hf hA f
      obtain ⟨f, hA, hf⟩ := hA2
      have hws : w.heap.size < wo.heap.size := lt_of_block hA
      have hA1 := Arr.alloc hA (.cells (madeCells #[.int .i64 0] i) 3)
      have hbl1 := hbl.alloc hbl.size (.cells (madeCells #[.int .i64 0] i) 3)
      have hown0 := World.ownsRow_made (base := w.heap.size + 1) (e := 3) (size := 1) wo (madeCells #[.int .i64 0] i) i (by omega) (by unfold maxLen; omega) (by simp [madeCells])
      have Hst := hid (And.intro hA1 (And.intro hbl1 hown0))
      clear hA hbl hA1 hbl1 hown0
      go_wp2
      go_loopw [44, 9] (fun v44 v9 wr => ∃ R : List Nat, R.length ≤ i ∧ v44 = .int .i64 (R.length : Nat) ∧ Hid (Took B R) ∧ (∃ f, ArrI wr w.heap.size i f ∧ Hid (∀ q, q < i → f q = waitG B R q)) ∧ Hid (wr.ownsRow (w.heap.size + 1) 3 1 v9 R.length (intN R)) ∧ Below w.heap.size w wr) (fun v44 _ _ => i - (intOf v44).toNat)
      case atStart => exact ⟨[], Nat.zero_le _, rfl, Took.start B, ⟨f, Hst.out.1, hf⟩, Hst.out.2.2, Hst.out.2.1⟩
      case round =>
        clear hf Hst f hws
        obtain ⟨R, hRl, rfl, hT, ⟨f, hA, hf⟩, hown, hbl⟩ := hrel
        generalize hk : R.length = k at *
        have Hk := hid hk
        clear hk
        by_cases hlt : k < i
        · have hix := index_any wr _ _ 0 (hA.rd (by omega))
          have hcs := idxOf_cases 0 (tabI i f)
          generalize idxOf (fun y => (0 : Int) == y) (tabI i f) = r at *
          go_wp2_with fail
          refine hix.mono ?_
          rintro e w2 ⟨_, rfl, rfl, rfl⟩
          rcases hcs with ⟨rfl, hno⟩ | ⟨x, hx, rfl, hx0⟩
          · have hnp : ¬ Pot B := by
              refine wait_stuck (R := R) (by rw [Hk.out, HL.out]; exact hlt) fun q hq => ?_
              rw [HL.out] at hq
              rw [← hf.out q hq]
              have := hno q (by rw [tabI_length]; exact hq)
              rwa [tabI_at] at this
            clear hno
            go_wp2
            go_ret2
            exact Fin HQ ⟨.inr ⟨rfl, hnp⟩, hbl⟩
          · have hxi : x < i := by rw [tabI_length] at hx; exact hx
            rw [tabI_at] at hx0
            have hxB : x < B.length := by rw [HL.out]; exact hxi
            obtain ⟨hxn, hxe⟩ := wait_free hT.out hxB (by rw [← hf.out x hxi]; exact hx0)
            have hcx := hA.at hxi
            have hfx := Arr.free hA x
            obtain ⟨adB, C, cC, rfl, p0, h1, h2, hrow⟩ := hr.atRow hxB
            have Hrow : Hid (B.getD x [] = B[x]) := hid (by simp [hxB])
            generalize B[x] = row at *
            have HX := hid (And.intro hxB (And.intro hxn hxe))
            clear hxB hxn hxe hx hx0
            have hA2 := hA.put x (-1)
            have hbl2 : Below w.heap.size w (w2.setCell ⟨w.heap.size, x, none⟩ (.int .i64 (-1))) := hbl.setCell (Nat.le_refl _) _
            have hlt9 : ∀ g, u9.ownBlock = some g → w.heap.size + 1 ≤ g := fun g hg => (hown.out.lt g hg).1
            have hown2 := hown.out.kept (grown_set w2 w.heap.size x (.int .i64 (-1))) (.inr (fun e => by have := hlt9 _ e; omega))
            have Hown2 := hid hown2
            have hs2 : w.heap.size + 1 ≤ (w2.setCell ⟨w.heap.size, x, none⟩ (.int .i64 (-1))).heap.size := by
              have := lt_of_block hA; simp; omega
            have Hs2 := hid hs2
            have Hlt9 := hid hlt9
            have hnew := cell_one_new (w2.setCell ⟨w.heap.size, x, none⟩ (.int .i64 (-1))) (.int .i64 (x : Int)) 3
            simp only [World.size_setCell] at hnew
            have Hnew := hid hnew
            have Hf0 : Hid (∀ q, q < i → (if q = x then (-1 : Int) else f q) = waitF B R x 0 q) := hid fun q hq => by
              rw [waitF_start, hf.out q hq]
            clear hown hown2 hs2 hlt9 hA hbl hf hnew
            go_wp2_with (at_builtin; refine wpList_append_own _ rfl _ _ 24 rfl (w.heap.size + 1) 3 i0 (.int .i64 0) 1 8 Try.underlying24 hi hz0 hz1 hz2 rfl (by decide) _ k _ rfl (Hown2.out.alloc _) ⟨w2.heap.size, 0, none⟩ 1 1 [.int .i64 (x : Int)] rfl rfl Hnew.out (fun u hu => by simp at hu; subst hu; rfl) (by unfold maxLen; omega) (by omega) (by have := Hs2.out; simp only [World.size_alloc]; omega) ?_; intro v' w3 hown3 hgrow3 hnil3; clear hnil3; obtain ⟨hb3, hk3⟩ := grown_own (u := u9) hbl2 Hlt9.out hgrow3; have p := cell_ext hb3 p0; clear hgrow3)
            have hA3 : ArrI w3 w.heap.size i (fun q => if q = x then -1 else f q) := (hk3 _ (Nat.le_refl _) (lt_of_block hA2)).trans hA2
            have Hown3 := hid hown3
            clear hown3 hk3 hA2 hbl2 Hown2 Hs2 Hlt9 Hnew p0 hcx hfx hix
            go_loopw [62] (fun v62 wr => ∃ j : Nat, j ≤ row.length ∧ v62 = .int .i64 j ∧ (∃ f, ArrI wr w.heap.size i f ∧ Hid (∀ q, q < i → f q = waitF B R x j q)) ∧ Hid (wr.ownsRow (w.heap.size + 1) 3 1 v' (k + 1) (intN R ++ [.int .i64 (x : Int)])) ∧ Below w.heap.size w wr) (fun v62 _ => row.length - (intOf v62).toNat)
            case atStart => exact ⟨0, Nat.zero_le _, rfl, ⟨_, hA3, Hf0⟩, Hown3, hb3⟩
            case round =>
              clear Hown3 hb3 hA3 p Hf0
              obtain ⟨j, hj, rfl, ⟨f, hA, hf⟩, hown, hbl⟩ := hrel
              by_cases hltj : j < row.length
              · obtain ⟨ad2, rfl, hcell⟩ := (hrow.ext (scR_mono _) hbl).at1 hltj
                obtain ⟨y, Hy⟩ : ∃ y, Hid (row[j] = y) := ⟨_, hid rfl⟩
                rw [Hy.out] at hcell
                have hjB : j < (B.getD x []).length := by rw [Hrow.out]; exact hltj
                have Hyj : Hid ((B.getD x [])[j] = y) := hid (by simp only [Hrow.out]; exact Hy.out)
                have HjB := hid hjB
                by_cases hv : 0 ≤ y ∧ y < i
                · obtain ⟨m, rfl⟩ := Int.eq_ofNat_of_zero_le hv.1
                  have hm : m < i := by omega
                  have hedge : EdgeB B x m := ⟨HX.out.1, by rw [HL.out]; exact hm, by rw [← Hyj.out]; exact List.getElem_mem _⟩
                  have hmR : m ∉ R := fun e => hT.out.shut m e x HX.out.2.1 hedge
                  have hmx : m ≠ x := fun e => by subst e; exact HX.out.2.2 m HX.out.2.1 hedge
                  have hcm := hA.at hm
                  have hfm := Arr.free hA m
                  have hbd : -1048577 ≤ f m ∧ f m ≤ 1048576 := by
                    rw [hf.out m hm]; exact wait_bound HX.out.1 Htot.out
                  have Hstep : Hid (∀ q, waitF B R x (j + 1) q = if q = m then waitF B R x j m - 1 else waitF B R x j q) := hid fun q => waitF_hit HjB.out Hyj.out hmR hmx q
                  have Hfm := hid (hf.out m hm)
                  have hown' : ∀ u, wr.setCell ⟨w.heap.size, m, none⟩ u |>.ownsRow (w.heap.size + 1) 3 1 v' (k + 1) (intN R ++ [.int .i64 (x : Int)]) := fun u => hown.out.kept (grown_set wr w.heap.size m u) (.inr (fun e => by have := (hown.out.lt _ e).1; omega))
                  have Hown' := hid hown'
                  clear hedge hmR hmx hown'
                  generalize hz : f m = z at *
                  have Hz := hid hz
                  clear hz
                  go_wp2
                  go_roundw
                  case rel =>
                    refine ⟨j + 1, by omega, by go_num, ⟨_, hA.put m _, hid fun q hq => ?_⟩, hid (Hown'.out _), hbl.setCell (Nat.le_refl _) _⟩
                    rw [Hstep.out q]
                    by_cases e : q = m
                    · rw [if_pos e, if_pos e, Hfm.out]
                    · rw [if_neg e, if_neg e, hf.out q hq]
                  case measure => simp [intOf]; omega
                · have Hn : Hid (∀ q, q < i → ¬ y = (q : Int)) := hid fun q hq e => hv ⟨by omega, by omega⟩
                  have Hf' : Hid (∀ q, q < i → f q = waitF B R x (j + 1) q) := hid fun q hq => by
                    rw [waitF_skip HjB.out q (by rw [Hyj.out]; exact Hn.out q hq), hf.out q hq]
                  by_cases h0 : 0 ≤ y
                  · have hge : ¬ y < (i : Int) := fun h => hv ⟨h0, h⟩
                    clear hv
                    go_wp2
                    go_roundw
                    case rel => exact ⟨j + 1, by omega, by go_num, ⟨f, hA, Hf'⟩, hown, hbl⟩
                    case measure => simp [intOf]; omega
                  · clear hv
                    go_wp2
                    go_roundw
                    case rel => exact ⟨j + 1, by omega, by go_num, ⟨f, hA, Hf'⟩, hown, hbl⟩
                    case measure => simp [intOf]; omega
              · have hT2 : Hid (Took B (R ++ [x])) := hid (hT.out.next HX.out.1 HX.out.2.1 HX.out.2.2)
                have Hf' : Hid (∀ q, q < i → f q = waitG B (R ++ [x]) q) := hid fun q hq => by
                  rw [hf.out q hq, waitF_end HX.out.1 HX.out.2.1 (by rw [Hrow.out]; omega)]
                go_wp2
                go_roundw
                case rel =>
                  refine ⟨R ++ [x], ?_, ?_, hT2, ⟨f, hA, Hf'⟩, ?_, hbl⟩
                  · simp [Hk.out]; omega
                  · simp [Hk.out]
                  · have := hown.out
                    refine hid ?_
                    simpa [intN, Hk.out] using this
                case measure => simp [intOf]; omega
        · have Hlen : Hid (k = i) := hid (by omega)
          go_wp2
          go_ret2
          refine Fin HQ ⟨.inl ⟨R, _, hT.out, by rw [Hk.out]; exact Hlen.out, rfl, ?_⟩, hbl⟩
          have := own_mono hown.out (base' := w.heap.size) (by omega)
          rw [Hk.out]
          exact this
end Go.Proofs.Lx
