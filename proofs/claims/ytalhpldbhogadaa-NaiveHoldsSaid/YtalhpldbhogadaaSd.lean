/- Contract of the reference's back (layer 12): the walk. -/
import Derived.Test.YtalhpldbhogadaaSc
import Derived.WalkSmall
import Derived.WalkSpells
import Derived.WalkMore
namespace Go.Proofs.Lx
open Go Go.RowKit Go.Proofs.Tj
set_option linter.unusedSimpArgs false
set_option linter.unusedVariables false

def adjB (B : List (List Int)) (x : Nat) : List Nat := (B.getD x []).map Int.toNat
structure BKx (adj : Nat → List Nat) (n r : Nat) (seen : Nat → Bool) (todo : List Nat) (x i : Nat) : Prop where
  lt : ∀ x ∈ todo, x < n
  td : ∀ x ∈ todo, x = r ∨ seen x = true
  fr : ∀ x, x < n → seen x = true → Comes adj r x
  cl : ∀ u, u < n → (u = r ∨ seen u = true) → u ∉ todo → u = x ∨ ∀ y ∈ adj u, y ≠ r ∧ seen y = true
  dn : ∀ j, (h : j < (adj x).length) → j < i → (adj x)[j] ≠ r ∧ seen (adj x)[j] = true
theorem BK.start {adj : Nat → List Nat} {n r : Nat} (hr : r < n) : BK adj n r (fun _ => false) [r] :=
  ⟨by simpa using hr, by simp, by simp, fun u _ h1 h2 => absurd (h1.resolve_right (by simp)) (by simpa using h2)⟩
theorem BK.pop {adj : Nat → List Nat} {n r x : Nat} {seen : Nat → Bool} {todo : List Nat} (h : BK adj n r seen (todo ++ [x])) : BKx adj n r seen todo x 0 :=
  ⟨fun u hu => h.lt u (by simp [hu]), fun u hu => h.td u (by simp [hu]), h.fr, fun u hu h1 h2 => by
    by_cases e : u = x
    · exact .inl e
    · exact .inr (h.cl u hu h1 (by simp [h2, e])), fun j _ hj => absurd hj (by omega)⟩
theorem BK.from {adj : Nat → List Nat} {n r x : Nat} {seen : Nat → Bool} {todo : List Nat} (h : BK adj n r seen (todo ++ [x])) : x < n ∧ (x = r ∨ Comes adj r x) :=
  ⟨h.lt x (by simp), (h.td x (by simp)).imp id (h.fr x (h.lt x (by simp)))⟩
theorem comes_step {adj : Nat → List Nat} {r x y : Nat} (h : x = r ∨ Comes adj r x) (hy : y ∈ adj x) : Comes adj r y := by
  rcases h with rfl | ⟨z, hz, hl⟩
  · exact ⟨y, hy, .refl y⟩
  · exact ⟨z, hz, .step hl hy⟩
theorem BKx.skip {adj : Nat → List Nat} {n r x i y : Nat} {seen : Nat → Bool} {todo : List Nat} (h : BKx adj n r seen todo x i) (hi : ∀ h : i < (adj x).length, (adj x)[i] = y) (h1 : y ≠ r) (h2 : seen y = true) : BKx adj n r seen todo x (i + 1) :=
  ⟨h.lt, h.td, h.fr, h.cl, fun j hj hji => by
    by_cases e : j = i
    · subst e; rw [hi hj]; exact ⟨h1, h2⟩
    · exact h.dn j hj (by omega)⟩
theorem BKx.push {adj : Nat → List Nat} {n r x i y : Nat} {seen : Nat → Bool} {todo : List Nat} (h : BKx adj n r seen todo x i) (hx : x = r ∨ Comes adj r x) (hi : ∀ h : i < (adj x).length, (adj x)[i] = y) (hil : i < (adj x).length) (hyn : y < n) (h1 : y ≠ r) :
    BKx adj n r (fun q => if q = y then true else seen q) (todo ++ [y]) x (i + 1) := by
  have hy : y ∈ adj x := by rw [← hi hil]; exact List.getElem_mem _
  have up : ∀ q, seen q = true → (if q = y then true else seen q) = true := fun q h => by split <;> simp [h]
  refine ⟨fun u hu => ?_, fun u hu => ?_, fun u hu hs => ?_, fun u hu hs hn => ?_, fun j hj hji => ?_⟩
  · rcases List.mem_append.1 hu with hu | hu
    · exact h.lt u hu
    · simp at hu; omega
  · rcases List.mem_append.1 hu with hu | hu
    · exact (h.td u hu).imp id (up u)
    · simp at hu; right; simp [hu]
  · by_cases e : u = y
    · rw [e]; exact comes_step hx hy
    · rw [if_neg e] at hs; exact h.fr u hu hs
  · have hny : u ≠ y := fun e => hn (by simp [e])
    rw [if_neg hny] at hs
    refine (h.cl u hu hs (fun hm => hn (by simp [hm]))).imp id fun h2 z hz => ⟨(h2 z hz).1, up z (h2 z hz).2⟩
  · by_cases e : j = i
    · subst e; rw [hi hj]; exact ⟨h1, by simp⟩
    · exact ⟨(h.dn j hj (by omega)).1, up _ (h.dn j hj (by omega)).2⟩
theorem BKx.done {adj : Nat → List Nat} {n r x i : Nat} {seen : Nat → Bool} {todo : List Nat} (h : BKx adj n r seen todo x i) (hi : (adj x).length ≤ i) : BK adj n r seen todo :=
  ⟨h.lt, h.td, h.fr, fun u hu h1 h2 => by
    rcases h.cl u hu h1 h2 with rfl | h3
    · intro y hy
      obtain ⟨j, hj, rfl⟩ := List.getElem_of_mem hy
      exact h.dn j hj (by omega)
    · exact h3⟩

def tabB (n : Nat) (f : Nat → Bool) : List Bool := (List.range n).map f
theorem tabB_set {n : Nat} (f : Nat → Bool) (m : Nat) (v : Bool) : (tabB n f).set m v = tabB n fun q => if q = m then v else f q := by
  apply List.ext_getElem
  · simp [tabB]
  · intro i h1 h2
    rw [List.getElem_set]
    by_cases e : m = i
    · subst e; simp [tabB]
    · rw [if_neg e]; simp [tabB]; intro h; exact absurd h.symm e
abbrev ArrB (w : World) (g n : Nat) (f : Nat → Bool) : Prop := Arr Value.bool 4 w g (tabB n f)
theorem ArrB.at {w : World} {g n : Nat} {f : Nat → Bool} (h : ArrB w g n f) {m : Nat} (hm : m < n) : w.cell? ⟨g, m, none⟩ = some (.bool (f m)) := by
  have := Arr.cell h (i := m) (by simpa [tabB] using hm)
  rwa [show (tabB n f)[m]'(by simpa [tabB] using hm) = f m by simp [tabB]] at this
theorem ArrB.put {w : World} {g n : Nat} {f : Nat → Bool} (h : ArrB w g n f) (m : Nat) (v : Bool) : ArrB (w.setCell ⟨g, m, none⟩ (.bool v)) g n (fun q => if q = m then v else f q) := by
  have := Arr.set h m v
  rwa [tabB_set] at this
theorem ArrB.new (w : World) (n : Nat) : ArrB (w.alloc (.cells (madeCells #[.bool false] n) 4)) w.heap.size n (fun _ => false) := by
  have := made_arr Value.bool false 4 w n
  unfold ArrB
  rwa [show tabB n (fun _ => false) = List.replicate n false by apply List.ext_getElem <;> simp [tabB]]
abbrev intN (R : List Nat) : List Value := R.map fun (q : Nat) => Value.int .i64 (q : Int)

/-- What back keeps in memory. -/
structure KS (w : World) (n : Nat) (seen : Nat → Bool) (todo : List Nat) (v6 : Value) (wr : World) : Prop where
  aS : ArrB wr w.heap.size n seen
  own : wr.ownsRow (w.heap.size + 1) 3 1 v6 todo.length (intN todo)
  old : Below w.heap.size w wr
section
variable {w wr wr' W w3 : World} {n : Nat} {seen : Nat → Bool} {todo : List Nat} {v6 v' : Value} {o : Obj}
theorem KS.ext (h : KS w n seen todo v6 wr) (hb : Below wr.heap.size wr wr') : KS w n seen todo v6 wr' :=
  ⟨Arr.ext h.aS hb, h.own.kept (row := none) ⟨hb.os, hb.tape, hb.output, hb.size, fun k hk _ => hb.block k hk⟩ (by cases v6.ownBlock <;> simp), ext_trans h.old hb⟩
theorem KS.put (h : KS w n seen todo v6 wr) (k : Nat) : KS w n (fun q => if q = k then true else seen q) todo v6 (wr.setCell ⟨w.heap.size, k, none⟩ (.bool true)) :=
  ⟨ArrB.put h.aS k true, h.own.kept (grown_set wr w.heap.size k _) (.inr (fun e => by have := (h.own.lt _ e).1; omega)), h.old.setCell (Nat.le_refl _) _⟩
theorem KS.take (h : KS w n seen todo v6 wr) {k : Nat} (ho : w3.ownsRow (w.heap.size + 1) 3 1 v' (todo ++ [k]).length (intN (todo ++ [k])))
    (hg : (wr.alloc o).grownBy w3 v6.ownBlock) : KS w n seen (todo ++ [k]) v' w3 := by
  have hne : ∀ g, v6.ownBlock = some g → w.heap.size + 1 ≤ g := fun g e => (h.own.lt g e).1
  have hb := lt_of_block h.aS
  have key : ∀ g, g < w.heap.size + 1 → w3.heap[g]? = wr.heap[g]? := fun g hgl => by
    rw [hg.block g (by simp; omega) (fun e => by have := hne g e.symm; omega)]
    exact heap_alloc_old _ _ (by omega)
  refine ⟨(key _ (by omega)).trans h.aS, ho, ?_⟩
  have hsz := hg.size
  rw [World.size_alloc] at hsz
  have := h.old.size
  exact ⟨hg.os.trans h.old.os, hg.tape.trans h.old.tape, hg.output.trans h.old.output, by omega, fun g hgl => (key g (by omega)).trans (h.old.block g hgl)⟩
end

set_option maxRecDepth 100000 in
set_option maxHeartbeats 3200000 in
theorem back12_any (w : World) (v : Value) (B : List (List Int)) (hB : RdLL w v B) (hn : B.length ≤ 4096) (hrg : ∀ l ∈ B, ∀ y ∈ l, 0 ≤ y ∧ y < (B.length : Int)) (r : Nat) (hr0 : r < B.length) :
    Calls Try.prog 136 #[v, .int .i64 (r : Int)] w (Ret fun u w' => (∃ b, u = .bool b ∧ (b = true ↔ Comes (adjB B) r r)) ∧ Below w.heap.size w w') := by
  obtain ⟨A, c, rfl, hc, hb, hr⟩ := hB
  obtain ⟨i0, hi, hz0, hz1, hz2⟩ := info_parts infoI
  have hmk := mkB B.length (by omega) (by omega)
  rw [Int.toNat_natCast] at hmk
  have hbl0 := (ext_alloc w (.cells (madeCells #[.bool false] B.length) 4)).alloc (by simp) (.cells #[.int .i64 (r : Int)] 3)
  have Hst0 : Hid (KS w B.length (fun _ => false) [r] (.slice (some ⟨w.heap.size + 1, 0, none⟩) 1 1) ((w.alloc (.cells (madeCells #[.bool false] B.length) 4)).alloc (.cells #[.int .i64 (r : Int)] 3))) := by
    have h9 := heap_alloc_new (w.alloc (.cells (madeCells #[.bool false] B.length) 4)) (.cells #[.int .i64 (r : Int)] 3)
    rw [World.size_alloc] at h9
    exact hid ⟨Arr.alloc (ArrB.new w B.length) _, ⟨by simp, .inr ⟨w.heap.size + 1, 1, _, rfl, by omega, h9, Nat.le_refl _, by unfold maxLen; omega, rfl, rfl⟩⟩, hbl0⟩
  have Hbk0 : Hid (BK (adjB B) B.length r (fun _ => false) [r]) := hid (BK.start hr0)
  have Hadj : Hid (∀ x, x < B.length → ∀ y ∈ adjB B x, y < B.length) := hid fun x hx y hy => by
    simp only [adjB, List.mem_map, List.getD_eq_getElem?_getD, List.getElem?_eq_getElem hx, Option.getD_some] at hy
    obtain ⟨z, hz, rfl⟩ := hy
    have := hrg _ (List.getElem_mem hx) z hz
    omega
  have Hrg := hid hrg
  have Hr0 := hid hr0
  generalize hL : B.length = n at *
  have HL := hid hL
  clear hL hbl0 hrg
  refine post_gen fun Q HQ => ?_
  go_enter Try.func136, Try.ntmps136
  go_wp2
  go_loopg [6] (2 * n + 1) (fun g v6 wr => ∃ seen todo A6 c6, v6 = .slice A6 todo.length c6 ∧ KS w n seen todo v6 wr ∧ Hid (BK (adjB B) n r seen todo) ∧ 2 * unseen n seen + todo.length ≤ g ∧ 2 * unseen n seen + todo.length ≤ 2 * n + 1)
  case atStart =>
    refine ⟨_, _, _, _, rfl, Hst0.out, Hbk0, ?_⟩
    have : unseen n (fun _ => false) ≤ n := by
      have := List.countP_le_length (p := fun x => !(fun _ : Nat => false) x) (l := List.range n)
      rw [List.length_range] at this; exact this
    simp; omega
  case round =>
    clear Hst0 Hbk0
    obtain ⟨seen, todo, A6, c6, rfl, hks, hbk, hmu, hmw⟩ := hrel
    by_cases hw0 : todo = []
    · subst hw0
      have Hno : Hid (¬ Comes (adjB B) r r) := hid (hbk.out.none (by omega) Hadj.out)
      have Ho := hid hks.old
      clear hks
      go_wp2
      go_ret
      exact Fin HQ ⟨⟨false, rfl, by simpa using Hno.out⟩, Ho.out⟩
    · obtain ⟨td, x, rfl⟩ : ∃ td x, todo = td ++ [x] := ⟨_, _, (List.dropLast_concat_getLast hw0).symm⟩
      obtain ⟨hxn, hxc⟩ := hbk.out.from
      have Hxc := hid hxc
      have hbx := hid hbk.out.pop
      have hxB : x < B.length := by rw [HL.out]; exact hxn
      obtain ⟨g7, cap', e, hg7, hcx⟩ := own_at hks.own (i := td.length) (by simp) (by simp)
      cases e
      rw [show (intN (td ++ [x]))[td.length]'(by simp) = .int .i64 (x : Int) by simp] at hcx
      obtain ⟨adB, C, cC, rfl, p0, h1, h2, hrow⟩ := hr.atRow hxB
      have Hrow : Hid (adjB B x = (B[x]).map Int.toNat) := hid (by simp [adjB, hxB])
      have Hrow2 : Hid (∀ y ∈ B[x], 0 ≤ y ∧ y < (n : Int)) := hid (by have := Hrg.out _ (List.getElem_mem hxB); exact this)
      generalize B[x] = row at *
      obtain ⟨wo, rfl⟩ : ∃ wo : World, wo = wr := ⟨_, rfl⟩
      have e1 : (td ++ [x]).length = td.length + 1 := by simp
      rw [e1]
      have hks1 : ∀ W, Below wo.heap.size wo W → KS w n seen td (.slice (some ⟨g7, 0, none⟩) td.length c6) W := fun W hW => by
        have h9 := hks.ext hW
        refine ⟨h9.aS, ?_, h9.old⟩
        have h8 := h9.own
        rw [e1, intN, List.map_append] at h8
        exact ownsRow_pop (by rw [List.length_map, Nat.mul_one]) h8
      have Hks1 := hid (hks1 wo (ext_refl _))
      have hc7 : td.length + 1 ≤ c6 := by
        rcases hks.own.2 with ⟨e, _⟩ | ⟨g, cp, cur, e, _, _, h, _⟩
        · cases e
        · simp only [Value.slice.injEq] at e
          simp at h; omega
      have hc8 : ¬ c6 = 0 := by omega
      have hmu2 : 2 * unseen n seen + td.length + 1 ≤ gk := by rw [e1] at hmu; omega
      have Hmu := hid hmu2
      have htl : 2 * unseen n seen + td.length ≤ 2 * n + 1 := by rw [e1] at hmw; omega
      have Htl := hid htl
      have htb : td.length ≤ 9000 := by omega
      obtain ⟨g0, rfl⟩ : ∃ g0 : Nat, g0 = gk := ⟨_, rfl⟩
      have hlb := lt_of_block hks.aS
      have hcs1 := hks.old
      clear hks hks1 hw0 hxc hmu hmw hmu2 hbk e1 hxB htl
      go_wp2
      go_loopg [8, 6] row.length (fun g v8 v6 wr => ∃ i seen todo A6 c6, i + g = row.length ∧ v8 = .int .i64 (i : Nat) ∧ v6 = .slice A6 todo.length c6 ∧ KS w n seen todo v6 wr ∧ Hid (BKx (adjB B) n r seen todo x i) ∧ 2 * unseen n seen + todo.length + 1 ≤ g0 ∧ 2 * unseen n seen + todo.length ≤ 2 * n + 1)
      case atStart => exact ⟨0, _, _, _, _, by omega, rfl, rfl, Hks1.out, hbx, Hmu.out, Htl.out⟩
      case round =>
        clear Hks1 hbx Hmu Htl hcx hcs1 hlb
        obtain ⟨i, seen, todo, A6, c6, hig, rfl, rfl, hks, hbx, hmu, hmw⟩ := hrel
        have htb : todo.length ≤ 9000 := by omega
        have hlb := lt_of_block hks.aS
        have p1 := cell_ext hks.old p0
        by_cases hlt : i < row.length
        · obtain ⟨ad2, rfl, hcell⟩ := (hrow.ext (scR_mono _) hks.old).at1 hlt
          have hyr := Hrow2.out _ (List.getElem_mem hlt)
          obtain ⟨y, hy⟩ := Int.eq_ofNat_of_zero_le hyr.1
          have Hiy : Hid (i < (adjB B x).length ∧ ∀ h : i < (adjB B x).length, (adjB B x)[i] = y) := hid (by
            rw [Hrow.out]; exact ⟨by simpa using hlt, fun h => by simp [hy]⟩)
          rw [hy] at hcell hyr
          have hyn : y < n := by omega
          by_cases hyr2 : y = r
          · subst hyr2
            have Hyes : Hid (Comes (adjB B) y y) := hid (comes_step Hxc.out (by rw [← Hiy.out.2 Hiy.out.1]; exact List.getElem_mem _))
            have Ho := hid hks.old
            clear hks hy
            go_wp2
            go_ret
            exact Fin HQ ⟨⟨true, rfl, by simpa using Hyes.out⟩, Ho.out⟩
          · have hyi : ¬ ((y : Int) = (r : Int)) := by omega
            have Hyr := hid hyr2
            have cS := hks.aS.at hyn
            have fS := Arr.free hks.aS y
            clear hyr2 hy
            cases hs : seen y with
            | true =>
              rw [hs] at cS
              have Hb := hid (hbx.out.skip Hiy.out.2 Hyr.out hs)
              clear hs
              go_wp2
              go_roundg (gk - 1)
              case measure => omega
              case rel => exact ⟨i + 1, seen, todo, A6, c6, by omega, by go_num, rfl, hks, Hb, hmu, hmw⟩
            | false =>
              rw [hs] at cS
              have Hb := hid (hbx.out.push Hxc.out Hiy.out.2 Hiy.out.1 hyn Hyr.out)
              have hun := unseen_lt hyn hs
              have Hks2 := hid (hks.put y)
              have Hown := hid Hks2.out.own
              have Hnew : Hid (∀ j u, [Value.int .i64 (y : Int)][j]? = some u → ((wr.setCell ⟨w.heap.size, y, none⟩ (.bool true)).alloc (.cells #[.int .i64 (y : Int)] 3)).cell? ((⟨wr.heap.size, 0, none⟩ : Addr).add j) = some u) := hid (by
                have h9 := cell_one_new (wr.setCell ⟨w.heap.size, y, none⟩ (.bool true)) (.int .i64 (y : Int)) 3
                simpa only [World.size_setCell] using h9)
              have Hun := hid hun
              clear hs hks hun
              go_wp2_with (at_builtin; refine wpList_append_own _ rfl _ _ 26 rfl (w.heap.size + 1) 3 i0 (.int .i64 0) 1 8 Try.underlying26 hi hz0 hz1 hz2 rfl (by decide) _ todo.length _ rfl (Hown.out.alloc _) ⟨wr.heap.size, 0, none⟩ 1 1 [.int .i64 (y : Int)] rfl rfl (Hnew.out) (fun u hu => by simp at hu; subst hu; rfl) (by unfold maxLen; omega) (by omega) (by simp; omega) ?_; intro v' w3 hown3 hgrow3 hnil3)
              go_roundg (gk - 1)
              case measure => omega
              case rel =>
                have ho : w3.ownsRow (w.heap.size + 1) 3 1 v' (todo ++ [y]).length (intN (todo ++ [y])) := by
                  rw [List.length_append, List.length_singleton, intN, List.map_append]
                  exact hown3
                have hv' : ∃ A c, v' = .slice A (todo ++ [y]).length c := by
                  rcases ho.2 with ⟨h1, h2⟩ | ⟨gg, cp, cur, h1, h2, h3, h4, h5, h6, h7⟩
                  · exact ⟨_, _, by rw [h1, h2]⟩
                  · exact ⟨_, _, h1⟩
                obtain ⟨A8, c8, hv8⟩ := hv'
                refine ⟨i + 1, _, _, A8, c8, by omega, by go_num, hv8, Hks2.out.take ho hgrow3, Hb, ?_, ?_⟩
                · have := Hun.out; rw [List.length_append, List.length_singleton]; omega
                · have := Hun.out; rw [List.length_append, List.length_singleton]; omega
        · have Hb := hid (hbx.out.done (by rw [Hrow.out, List.length_map]; omega))
          go_wp2
          go_roundg (g0 - 1)
          case measure => omega
          case rel => exact ⟨seen, todo, A6, c6, rfl, hks, Hb, by omega, hmw⟩
end Go.Proofs.Lx
