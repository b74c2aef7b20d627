/- Parts of the proof: Sd, Se. Contract of the reference's back (layer 12): the walk. -/
import Derived.Test.YtalhpldbhogadaaA33
import Derived.WalkSmall
import Derived.WalkSpells
import Derived.WalkMore
namespace Go.Proofs.Lx
open Go Go.RowKit Go.Proofs.Tj
set_option linter.unusedSimpArgs false
set_option linter.unusedVariables false

def adjB (B : List (List Int)) (x : Nat) : List Nat := (B.getD x []).map Int.toNat
structure BKx (adj : Nat → List Nat) (n r : Nat) (seen : Nat → Bool) (todo : List Nat) (x i : Nat) : Prop where
 lt : ∀ x ∈ todo, x < n
 td : ∀ x ∈ todo, x = r ∨ seen x = true
 fr : ∀ x, x < n → seen x = true → Comes adj r x
 cl : ∀ u, u < n → (u = r ∨ seen u = true) → u ∉ todo → u = x ∨ ∀ y ∈ adj u, y ≠ r ∧ seen y = true
 dn : ∀ j, (h : j < (adj x).length) → j < i → (adj x)[j] ≠ r ∧ seen (adj x)[j] = true
theorem BK.start {adj : Nat → List Nat} {n r : Nat} (hr : r < n) : BK adj n r (fun _ => false) [r] :=
 ⟨by simpa using hr, by simp, by simp, fun u _ h1 h2 => absurd (h1.resolve_right (by simp)) (by simpa using h2)⟩
theorem BK.pop {adj : Nat → List Nat} {n r x : Nat} {seen : Nat → Bool} {todo : List Nat} (h : BK adj n r seen (todo ++ [x])) : BKx adj n r seen todo x 0 :=
 ⟨fun u hu => h.lt u (by simp [hu]), fun u hu => h.td u (by simp [hu]), h.fr, fun u hu h1 h2 => by
  by_cases e : u = x
  ·exact .inl e
  ·exact .inr (h.cl u hu h1 (by simp [h2, e])), fun j _ hj => absurd hj (by omega)⟩
theorem BK.from {adj : Nat → List Nat} {n r x : Nat} {seen : Nat → Bool} {todo : List Nat} (h : BK adj n r seen (todo ++ [x])) : x < n ∧ (x = r ∨ Comes adj r x) :=
 ⟨h.lt x (by simp), (h.td x (by simp)).imp id (h.fr x (h.lt x (by simp)))⟩
theorem comes_step {adj : Nat → List Nat} {r x y : Nat} (h : x = r ∨ Comes adj r x) (hy : y ∈ adj x) : Comes adj r y := by
 rcases h with rfl | ⟨z, hz, hl⟩
 ·exact ⟨y, hy, .refl y⟩
 ·exact ⟨z, hz, .step hl hy⟩
theorem BKx.skip {adj : Nat → List Nat} {n r x i y : Nat} {seen : Nat → Bool} {todo : List Nat} (h : BKx adj n r seen todo x i) (hi : ∀ h : i < (adj x).length, (adj x)[i] = y) (h1 : y ≠ r) (h2 : seen y = true) : BKx adj n r seen todo x (i + 1) :=
 ⟨h.lt, h.td, h.fr, h.cl, fun j hj hji => by
  by_cases e : j = i
  ·subst e; rw [hi hj]; exact ⟨h1, h2⟩
  ·exact h.dn j hj (by omega)⟩
theorem BKx.push {adj : Nat → List Nat} {n r x i y : Nat} {seen : Nat → Bool} {todo : List Nat} (h : BKx adj n r seen todo x i) (hx : x = r ∨ Comes adj r x) (hi : ∀ h : i < (adj x).length, (adj x)[i] = y) (hil : i < (adj x).length) (hyn : y < n) (h1 : y ≠ r) :
  BKx adj n r (fun q => if q = y then true else seen q) (todo ++ [y]) x (i + 1) := by
 have hy : y ∈ adj x := by rw [← hi hil]; exact List.getElem_mem _
 have up : ∀ q, seen q = true → (if q = y then true else seen q) = true := fun q h => by split <;> simp [h]
 refine ⟨fun u hu => ?_, fun u hu => ?_, fun u hu hs => ?_, fun u hu hs hn => ?_, fun j hj hji => ?_⟩
 ·rcases List.mem_append.1 hu with hu | hu
  ·exact h.lt u hu
  ·simp at hu; omega
 ·rcases List.mem_append.1 hu with hu | hu
  ·exact (h.td u hu).imp id (up u)
  ·simp at hu; right; simp [hu]
 ·by_cases e : u = y
  ·rw [e]; exact comes_step hx hy
  ·rw [if_neg e] at hs; exact h.fr u hu hs
 ·have hny : u ≠ y := fun e => hn (by simp [e])
  rw [if_neg hny] at hs
  refine (h.cl u hu hs (fun hm => hn (by simp [hm]))).imp id fun h2 z hz => ⟨(h2 z hz).1, up z (h2 z hz).2⟩
 ·by_cases e : j = i
  ·subst e; rw [hi hj]; exact ⟨h1, by simp⟩
  ·exact ⟨(h.dn j hj (by omega)).1, up _ (h.dn j hj (by omega)).2⟩
theorem BKx.done {adj : Nat → List Nat} {n r x i : Nat} {seen : Nat → Bool} {todo : List Nat} (h : BKx adj n r seen todo x i) (hi : (adj x).length ≤ i) : BK adj n r seen todo :=
 ⟨h.lt, h.td, h.fr, fun u hu h1 h2 => by
  rcases h.cl u hu h1 h2 with rfl | h3
  ·intro y hy
   obtain ⟨j, hj, rfl⟩ := List.getElem_of_mem hy
   exact h.dn j hj (by omega)
  ·exact h3⟩

def tabB (n : Nat) (f : Nat → Bool) : List Bool := (List.range n).map f
theorem tabB_set {n : Nat} (f : Nat → Bool) (m : Nat) (v : Bool) : (tabB n f).set m v = tabB n fun q => if q = m then v else f q := by
 apply List.ext_getElem
 ·simp [tabB]
 ·intro i h1 h2
  rw [List.getElem_set]
  by_cases e : m = i
  ·subst e; simp [tabB]
  ·rw [if_neg e]; simp [tabB]; intro h; exact absurd h.symm e
abbrev ArrB (w : World) (g n : Nat) (f : Nat → Bool) : Prop := Arr Value.bool 4 w g (tabB n f)
theorem ArrB.at {w : World} {g n : Nat} {f : Nat → Bool} (h : ArrB w g n f) {m : Nat} (hm : m < n) : w.cell? ⟨g, m, none⟩ = some (.bool (f m)) := by
 have := Arr.cell h (i := m) (by simpa [tabB] using hm)
 rwa [show (tabB n f)[m]'(by simpa [tabB] using hm) = f m by simp [tabB]] at this
theorem ArrB.put {w : World} {g n : Nat} {f : Nat → Bool} (h : ArrB w g n f) (m : Nat) (v : Bool) : ArrB (w.setCell ⟨g, m, none⟩ (.bool v)) g n (fun q => if q = m then v else f q) := by
 have := Arr.set h m v
 rwa [tabB_set] at this
theorem ArrB.new (w : World) (n : Nat) : ArrB (w.alloc (.cells (madeCells #[.bool false] n) 4)) w.heap.size n (fun _ => false) := by
 have := made_arr Value.bool false 4 w n
 unfold ArrB
 rwa [show tabB n (fun _ => false) = List.replicate n false by apply List.ext_getElem <;> simp [tabB]]
abbrev intN (R : List Nat) : List Value := R.map fun (q : Nat) => Value.int .i64 (q : Int)

/-- What back keeps in memory. -/
structure KS (w : World) (n : Nat) (seen : Nat → Bool) (todo : List Nat) (v6 : Value) (wr : World) : Prop where
 aS : ArrB wr w.heap.size n seen
 own : wr.ownsRow (w.heap.size + 1) 3 1 v6 todo.length (intN todo)
 old : Below w.heap.size w wr
section
variable {w wr wr' W w3 : World} {n : Nat} {seen : Nat → Bool} {todo : List Nat} {v6 v' : Value} {o : Obj}
theorem KS.ext (h : KS w n seen todo v6 wr) (hb : Below wr.heap.size wr wr') : KS w n seen todo v6 wr' :=
 ⟨Arr.ext h.aS hb, h.own.kept (row := none) ⟨hb.os, hb.tape, hb.output, hb.size, fun k hk _ => hb.block k hk⟩ (by cases v6.ownBlock <;> simp), ext_trans h.old hb⟩
theorem KS.put (h : KS w n seen todo v6 wr) (k : Nat) : KS w n (fun q => if q = k then true else seen q) todo v6 (wr.setCell ⟨w.heap.size, k, none⟩ (.bool true)) :=
 ⟨ArrB.put h.aS k true, h.own.kept (grown_set wr w.heap.size k _) (.inr (fun e => by have := (h.own.lt _ e).1; omega)), h.old.setCell (Nat.le_refl _) _⟩
theorem KS.take (h : KS w n seen todo v6 wr) {k : Nat} (ho : w3.ownsRow (w.heap.size + 1) 3 1 v' (todo ++ [k]).length (intN (todo ++ [k])))
  (hg : (wr.alloc o).grownBy w3 v6.ownBlock) : KS w n seen (todo ++ [k]) v' w3 := by
 have hne : ∀ g, v6.ownBlock = some g → w.heap.size + 1 ≤ g := fun g e => (h.own.lt g e).1
 have hb := lt_of_block h.aS
 have key : ∀ g, g < w.heap.size + 1 → w3.heap[g]? = wr.heap[g]? := fun g hgl => by
  rw [hg.block g (by simp; omega) (fun e => by have := hne g e.symm; omega)]
  exact heap_alloc_old _ _ (by omega)
 refine ⟨(key _ (by omega)).trans h.aS, ho, ?_⟩
 have hsz := hg.size
 rw [World.size_alloc] at hsz
 have := h.old.size
 exact ⟨hg.os.trans h.old.os, hg.tape.trans h.old.tape, hg.output.trans h.old.output, by omega, fun g hgl => (key g (by omega)).trans (h.old.block g hgl)⟩
end

set_option maxRecDepth 100000 in
set_option maxHeartbeats 3200000 in
theorem back12_any (w : World) (v : Value) (B : List (List Int)) (hB : RdLL w v B) (hn : B.length ≤ 4096) (hrg : ∀ l ∈ B, ∀ y ∈ l, 0 ≤ y ∧ y < (B.length : Int)) (r : Nat) (hr0 : r < B.length) :
  Calls Try.prog 136 #[v, .int .i64 (r : Int)] w (Ret fun u w' => (∃ b, u = .bool b ∧ (b = true ↔ Comes (adjB B) r r)) ∧ Below w.heap.size w w') := by
 obtain ⟨A, c, rfl, hc, hb, hr⟩ := hB
 obtain ⟨i0, hi, hz0, hz1, hz2⟩ := info_parts infoI
 have hmk := mkB B.length (by omega) (by omega)
 rw [Int.toNat_natCast] at hmk
 have hbl0 := (ext_alloc w (.cells (madeCells #[.bool false] B.length) 4)).alloc (by simp) (.cells #[.int .i64 (r : Int)] 3)
 have Hst0 : Hid (KS w B.length (fun _ => false) [r] (.slice (some ⟨w.heap.size + 1, 0, none⟩) 1 1) ((w.alloc (.cells (madeCells #[.bool false] B.length) 4)).alloc (.cells #[.int .i64 (r : Int)] 3))) := by
  have h9 := heap_alloc_new (w.alloc (.cells (madeCells #[.bool false] B.length) 4)) (.cells #[.int .i64 (r : Int)] 3)
  rw [World.size_alloc] at h9
  exact hid ⟨Arr.alloc (ArrB.new w B.length) _, ⟨by simp, .inr ⟨w.heap.size + 1, 1, _, rfl, by omega, h9, Nat.le_refl _, by unfold maxLen; omega, rfl, rfl⟩⟩, hbl0⟩
 have Hbk0 : Hid (BK (adjB B) B.length r (fun _ => false) [r]) := hid (BK.start hr0)
 have Hadj : Hid (∀ x, x < B.length → ∀ y ∈ adjB B x, y < B.length) := hid fun x hx y hy => by
  simp only [adjB, List.mem_map, List.getD_eq_getElem?_getD, List.getElem?_eq_getElem hx, Option.getD_some] at hy
  obtain ⟨z, hz, rfl⟩ := hy
  have := hrg _ (List.getElem_mem hx) z hz
  omega
 have Hrg := hid hrg
 have Hr0 := hid hr0
 generalize hL : B.length = n at *
 have HL := hid hL
 clear hL hbl0 hrg
 refine post_gen fun Q HQ => ?_
 go_enter Try.func136, Try.ntmps136
 go_wp2
 go_loopg [6] (2 * n + 1) (fun g v6 wr => ∃ seen todo A6 c6, v6 = .slice A6 todo.length c6 ∧ KS w n seen todo v6 wr ∧ Hid (BK (adjB B) n r seen todo) ∧ 2 * unseen n seen + todo.length ≤ g ∧ 2 * unseen n seen + todo.length ≤ 2 * n + 1)
 case atStart =>
  refine ⟨_, _, _, _, rfl, Hst0.out, Hbk0, ?_⟩
  have : unseen n (fun _ => false) ≤ n := by
   have := List.countP_le_length (p := fun x => !(fun _ : Nat => false) x) (l := List.range n)
   rw [List.length_range] at this; exact this
  simp; omega
 case round =>
  clear Hst0 Hbk0
  obtain ⟨seen, todo, A6, c6, rfl, hks, hbk, hmu, hmw⟩ := hrel
  by_cases hw0 : todo = []
  ·subst hw0
   have Hno : Hid (¬ Comes (adjB B) r r) := hid (hbk.out.none (by omega) Hadj.out)
   have Ho := hid hks.old
   clear hks
   go_wp2
   go_ret
   exact Fin HQ ⟨⟨false, rfl, by simpa using Hno.out⟩, Ho.out⟩
  ·obtain ⟨td, x, rfl⟩ : ∃ td x, todo = td ++ [x] := ⟨_, _, (List.dropLast_concat_getLast hw0).symm⟩
   obtain ⟨hxn, hxc⟩ := hbk.out.from
   have Hxc := hid hxc
   have hbx := hid hbk.out.pop
   have hxB : x < B.length := by rw [HL.out]; exact hxn
   obtain ⟨g7, cap', e, hg7, hcx⟩ := own_at hks.own (i := td.length) (by simp) (by simp)
   cases e
   rw [show (intN (td ++ [x]))[td.length]'(by simp) = .int .i64 (x : Int) by simp] at hcx
   obtain ⟨adB, C, cC, rfl, p0, h1, h2, hrow⟩ := hr.atRow hxB
   have Hrow : Hid (adjB B x = (B[x]).map Int.toNat) := hid (by simp [adjB, hxB])
   have Hrow2 : Hid (∀ y ∈ B[x], 0 ≤ y ∧ y < (n : Int)) := hid (by have := Hrg.out _ (List.getElem_mem hxB); exact this)
   generalize B[x] = row at *
   obtain ⟨wo, rfl⟩ : ∃ wo : World, wo = wr := ⟨_, rfl⟩
   have e1 : (td ++ [x]).length = td.length + 1 := by simp
   rw [e1]
   have hks1 : ∀ W, Below wo.heap.size wo W → KS w n seen td (.slice (some ⟨g7, 0, none⟩) td.length c6) W := fun W hW => by
    have h9 := hks.ext hW
    refine ⟨h9.aS, ?_, h9.old⟩
    have h8 := h9.own
    rw [e1, intN, List.map_append] at h8
    exact ownsRow_pop (by rw [List.length_map, Nat.mul_one]) h8
   have Hks1 := hid (hks1 wo (ext_refl _))
   have hc7 : td.length + 1 ≤ c6 := by
    rcases hks.own.2 with ⟨e, _⟩ | ⟨g, cp, cur, e, _, _, h, _⟩
    ·cases e
    ·simp only [Value.slice.injEq] at e
     simp at h; omega
   have hc8 : ¬ c6 = 0 := by omega
   have hmu2 : 2 * unseen n seen + td.length + 1 ≤ gk := by rw [e1] at hmu; omega
   have Hmu := hid hmu2
   have htl : 2 * unseen n seen + td.length ≤ 2 * n + 1 := by rw [e1] at hmw; omega
   have Htl := hid htl
   have htb : td.length ≤ 9000 := by omega
   obtain ⟨g0, rfl⟩ : ∃ g0 : Nat, g0 = gk := ⟨_, rfl⟩
   have hlb := lt_of_block hks.aS
   have hcs1 := hks.old
   clear hks hks1 hw0 hxc hmu hmw hmu2 hbk e1 hxB htl
   go_wp2
   go_loopg [8, 6] row.length (fun g v8 v6 wr => ∃ i seen todo A6 c6, i + g = row.length ∧ v8 = .int .i64 (i : Nat) ∧ v6 = .slice A6 todo.length c6 ∧ KS w n seen todo v6 wr ∧ Hid (BKx (adjB B) n r seen todo x i) ∧ 2 * unseen n seen + todo.length + 1 ≤ g0 ∧ 2 * unseen n seen + todo.length ≤ 2 * n + 1)
   case atStart => exact ⟨0, _, _, _, _, by omega, rfl, rfl, Hks1.out, hbx, Hmu.out, Htl.out⟩
   case round =>
    clear Hks1 hbx Hmu Htl hcx hcs1 hlb
    obtain ⟨i, seen, todo, A6, c6, hig, rfl, rfl, hks, hbx, hmu, hmw⟩ := hrel
    have htb : todo.length ≤ 9000 := by omega
    have hlb := lt_of_block hks.aS
    have p1 := cell_ext hks.old p0
    by_cases hlt : i < row.length
    ·obtain ⟨ad2, rfl, hcell⟩ := (hrow.ext (scR_mono _) hks.old).at1 hlt
     have hyr := Hrow2.out _ (List.getElem_mem hlt)
     obtain ⟨y, hy⟩ := Int.eq_ofNat_of_zero_le hyr.1
     have Hiy : Hid (i < (adjB B x).length ∧ ∀ h : i < (adjB B x).length, (adjB B x)[i] = y) := hid (by
      rw [Hrow.out]; exact ⟨by simpa using hlt, fun h => by simp [hy]⟩)
     rw [hy] at hcell hyr
     have hyn : y < n := by omega
     by_cases hyr2 : y = r
     ·subst hyr2
      have Hyes : Hid (Comes (adjB B) y y) := hid (comes_step Hxc.out (by rw [← Hiy.out.2 Hiy.out.1]; exact List.getElem_mem _))
      have Ho := hid hks.old
      clear hks hy
      go_wp2
      go_ret
      exact Fin HQ ⟨⟨true, rfl, by simpa using Hyes.out⟩, Ho.out⟩
     ·have hyi : ¬ ((y : Int) = (r : Int)) := by omega
      have Hyr := hid hyr2
      have cS := hks.aS.at hyn
      have fS := Arr.free hks.aS y
      clear hyr2 hy
      cases hs : seen y with
      | true =>
       rw [hs] at cS
       have Hb := hid (hbx.out.skip Hiy.out.2 Hyr.out hs)
       clear hs
       go_wp2
       go_roundg (gk - 1)
       case measure => omega
       case rel => exact ⟨i + 1, seen, todo, A6, c6, by omega, by go_num, rfl, hks, Hb, hmu, hmw⟩
      | false =>
       rw [hs] at cS
       have Hb := hid (hbx.out.push Hxc.out Hiy.out.2 Hiy.out.1 hyn Hyr.out)
       have hun := unseen_lt hyn hs
       have Hks2 := hid (hks.put y)
       have Hown := hid Hks2.out.own
       have Hnew : Hid (∀ j u, [Value.int .i64 (y : Int)][j]? = some u → ((wr.setCell ⟨w.heap.size, y, none⟩ (.bool true)).alloc (.cells #[.int .i64 (y : Int)] 3)).cell? ((⟨wr.heap.size, 0, none⟩ : Addr).add j) = some u) := hid (by
        have h9 := cell_one_new (wr.setCell ⟨w.heap.size, y, none⟩ (.bool true)) (.int .i64 (y : Int)) 3
        simpa only [World.size_setCell] using h9)
       have Hun := hid hun
       clear hs hks hun
       go_wp2_with (at_builtin; refine wpList_append_own _ rfl _ _ 26 rfl (w.heap.size + 1) 3 i0 (.int .i64 0) 1 8 Try.underlying26 hi hz0 hz1 hz2 rfl (by decide) _ todo.length _ rfl (Hown.out.alloc _) ⟨wr.heap.size, 0, none⟩ 1 1 [.int .i64 (y : Int)] rfl rfl (Hnew.out) (fun u hu => by simp at hu; subst hu; rfl) (by unfold maxLen; omega) (by omega) (by simp; omega) ?_; intro v' w3 hown3 hgrow3 hnil3)
       go_roundg (gk - 1)
       case measure => omega
       case rel =>
        have ho : w3.ownsRow (w.heap.size + 1) 3 1 v' (todo ++ [y]).length (intN (todo ++ [y])) := by
         rw [List.length_append, List.length_singleton, intN, List.map_append]
         exact hown3
        have hv' : ∃ A c, v' = .slice A (todo ++ [y]).length c := by
         rcases ho.2 with ⟨h1, h2⟩ | ⟨gg, cp, cur, h1, h2, h3, h4, h5, h6, h7⟩
         ·exact ⟨_, _, by rw [h1, h2]⟩
         ·exact ⟨_, _, h1⟩
        obtain ⟨A8, c8, hv8⟩ := hv'
        refine ⟨i + 1, _, _, A8, c8, by omega, by go_num, hv8, Hks2.out.take ho hgrow3, Hb, ?_, ?_⟩
        ·have := Hun.out; rw [List.length_append, List.length_singleton]; omega
        ·have := Hun.out; rw [List.length_append, List.length_singleton]; omega
    ·have Hb := hid (hbx.out.done (by rw [Hrow.out, List.length_map]; omega))
     go_wp2
     go_roundg (g0 - 1)
     case measure => omega
     case rel => exact ⟨seen, todo, A6, c6, rfl, hks, Hb, by omega, hmw⟩
end Go.Proofs.Lx

namespace Go.Proofs.Lx
open Go Go.RowKit Go.Proofs.Tj
set_option linter.unusedSimpArgs false
set_option linter.unusedVariables false

/-- The theory is well but for knots. -/
structure Wf0 (T : Th) : Prop where
 l0 : 0 ≤ T.lits
 l1 : T.lits ≤ 4096
 fl : (T.foes.length : Int) = T.lits
 fo : foesAll T = true
 rl : T.rules.length ≤ 4096
 ru : ∀ r ∈ T.rules, ruleOk T.lits r = true
 bl : T.beats.length = T.rules.length
 ba : beatsAll T = true
theorem beats_row {T : Th} (h : Wf0 T) {i : Nat} (hi : i < T.beats.length) : (∀ y ∈ T.beats[i], 0 ≤ y ∧ y < (T.beats.length : Int)) ∧ ∀ s ∈ T.beats[i], memB (row T.foes (headOf T i)) (headOf T s) = true := by
 have h1 := beatsAll_true.1 h.ba i hi
 simp only [beatsOk, Bool.and_eq_true, List.getD_eq_getElem?_getD, List.getElem?_eq_getElem hi, Option.getD_some, List.all_eq_true] at h1
 refine ⟨fun y hy => ?_, h1.2⟩
 obtain ⟨j, hj, rfl⟩ := List.getElem_of_mem hy
 have := (risB_spec h1.1).1 j hj
 have := h.bl
 omega
theorem noKnot_iff {T : Th} (h : Wf0 T) : NoKnot T ↔ ∀ r, r < T.beats.length → ¬ Comes (adjB T.beats) r r := by
 have e : adjN (beatsAt T) = adjB T.beats := rfl
 unfold NoKnot
 rw [e]
 have hin : ∀ x, x < T.beats.length → ∀ y ∈ adjB T.beats x, y < T.beats.length := fun x hx y hy => by
  simp only [adjB, List.mem_map, List.getD_eq_getElem?_getD, List.getElem?_eq_getElem hx, Option.getD_some] at hy
  obtain ⟨z, hz, rfl⟩ := hy
  have := (beats_row h hx).1 z hz
  omega
 constructor
 ·rintro hk r hr ⟨z, hz, hl⟩
  have hzn := hin r hr z hz
  have := hk r z (by rw [← h.bl]; exact hr) (by rw [← h.bl]; exact hzn) (.step (.refl r) hz) hl
  subst this
  simp only [adjB, List.mem_map, List.getD_eq_getElem?_getD, List.getElem?_eq_getElem hr, Option.getD_some] at hz
  obtain ⟨z, hz, hzr⟩ := hz
  have h0 := (beats_row h hr).1 z hz
  obtain rfl : z = (r : Int) := by omega
  have h1 := (beats_row h hr).2 _ hz
  have hrr : r < T.rules.length := by rw [← h.bl]; exact hr
  have e2 : headOf T (r : Int) = T.rules[r].head := by simp [headOf, hrr]
  have hh := ruleOk_head (h.ru _ (List.getElem_mem hrr))
  have hq : T.rules[r].head.toNat < T.foes.length := by have := h.fl; omega
  have h2 := (foesOk_spec h.fo _ hq).2.2.1
  rw [e2] at h1
  rw [row_at hh.1 (by have := h.fl; omega)] at h1
  rw [show ((T.rules[r].head.toNat : Nat) : Int) = T.rules[r].head by omega] at h2
  rw [h1] at h2; cases h2
 ·intro hk x y hx hy h1 h2
  rcases leads_comes h1 with e | ⟨z, hz, hl⟩
  ·exact e
  ·exact absurd ⟨z, hz, hl.trans h2⟩ (hk x (by rw [h.bl]; exact hx))

set_option maxRecDepth 1000000 in
set_option maxHeartbeats 6400000 in
theorem check12_any (w : World) (V : Value) (T : Th) (hT : RdTh w V T) :
  Calls Try.prog 92 #[V] w (Ret fun v w' => (∃ i : Int, v = .tuple #[.int .i64 (checkErr T), .int .i64 i]) ∧ Below w.heap.size w w') := by
 have HT := hT
 obtain ⟨vF, vR, vB, rfl, ⟨A, c, rfl, hc, hb, hr⟩, ⟨AR, cR, rfl, hcR, hbR, hrR⟩, ⟨AB, cB, rfl, hcB, hbB, hrB⟩⟩ := hT
 have hbel := ext_alloc w (.cells #[.int .i64 T.lits, .slice A T.foes.length c, .slice AR T.rules.length cR, .slice AB T.beats.length cB] 25)
 obtain ⟨W1, HW1⟩ : ∃ W1, Hid (W1 = w.alloc (.cells #[.int .i64 T.lits, .slice A T.foes.length c, .slice AR T.rules.length cR, .slice AB T.beats.length cB] 25)) := ⟨_, rfl⟩
 have b0 : W1.cell? ⟨w.heap.size, 0, none⟩ = some (.int .i64 T.lits) := by rw [HW1.out]; exact box_cell (Below.refl _ _) 0
 have b1 : W1.cell? ⟨w.heap.size, 1, none⟩ = some (.slice A T.foes.length c) := by rw [HW1.out]; exact box_cell (Below.refl _ _) 1
 have b2 : W1.cell? ⟨w.heap.size, 2, none⟩ = some (.slice AR T.rules.length cR) := by rw [HW1.out]; exact box_cell (Below.refl _ _) 2
 have b3 : W1.cell? ⟨w.heap.size, 3, none⟩ = some (.slice AB T.beats.length cB) := by rw [HW1.out]; exact box_cell (Below.refl _ _) 3
 rw [← HW1.out] at hbel
 have hr1 := hr.ext llR_mono hbel
 have hrR1 := hrR.ext ruleR_mono hbel
 have hrB1 := hrB.ext llR_mono hbel
 have HT1 := hid (HT.ext hbel)
 have B := hid (And.intro b0 (And.intro b1 (And.intro b2 b3)))
 have hrd : ∀ W, Below W1.heap.size W1 W → W.cell? ⟨w.heap.size, 0, none⟩ = some (.int .i64 T.lits) ∧ W.cell? ⟨w.heap.size, 1, none⟩ = some (.slice A T.foes.length c) ∧ W.cell? ⟨w.heap.size, 2, none⟩ = some (.slice AR T.rules.length cR) ∧ W.cell? ⟨w.heap.size, 3, none⟩ = some (.slice AB T.beats.length cB) :=
  fun W h => ⟨cell_ext h B.out.1, cell_ext h B.out.2.1, cell_ext h B.out.2.2.1, cell_ext h B.out.2.2.2⟩
 have Hrd := hid hrd
 clear hr hrR hrB HT hrd b0 b1 b2 b3
 refine post_gen fun Q HQ => ?_
 go_enter Try.func92, Try.ntmps92
 have hE : ∀ (x : Int) (w' : World), checkErr T = x → Below W1.heap.size W1 w' → ∀ i : Int, (∃ i' : Int, Value.tuple #[.int .i64 x, .int .i64 i] = .tuple #[.int .i64 (checkErr T), .int .i64 i']) ∧ Below w.heap.size w w' := fun x w' e h i => ⟨⟨i, by rw [e]⟩, ext_trans hbel h⟩
 have HE := hid hE
 clear hE hbel
 by_cases h1 : T.lits < 0 ∨ 4096 < T.lits
 ·have H1 := hid h1
  go_wp2_with fail
  all_goals try rw [← HW1.out]
  all_goals first
   | (go_ret2; exact Fin HQ (HE.out 112 _ (by unfold checkErr; rw [if_pos H1.out]) (ext_refl _) _))
   | (exfalso; omega)
 by_cases h2 : (T.foes.length : Int) = T.lits
 case neg =>
  have hb2 : ((T.foes.length : Int) != T.lits) = true := by simp [h2]
  have H2 := hid h2
  clear h2
  go_wp2_with fail
  try rw [← HW1.out]
  go_ret2
  exact Fin HQ (HE.out 121 _ (by unfold checkErr; rw [if_neg h1, if_pos H2.out]) (ext_refl _) _)
 have hb2 : ((T.foes.length : Int) != T.lits) = false := by simp [h2]
 have H2 := hid h2
 have H1 := hid h1
 have hl0 : 0 ≤ T.lits := by omega
 have hl1 : T.lits ≤ 4096 := by omega
 clear h2 h1
 go_wp2_with fail
 rw [← HW1.out]
 clear hb2
 go_loopw [4] (fun v4 wr => ∃ k : Nat, (k : Int) ≤ T.lits ∧ v4 = .int .i64 k ∧ Hid (∀ i, i < k → foesOk T i = true) ∧ Below W1.heap.size W1 wr) (fun v4 _ => T.foes.length - (intOf v4).toNat)
 case atStart => exact ⟨0, by omega, rfl, fun i hk => absurd hk (by omega), ext_refl _⟩
 case round =>
  obtain ⟨k, hk, rfl, hno, hbl⟩ := hrel
  obtain ⟨c0, c1, c2, c3⟩ := Hrd.out _ hbl
  obtain ⟨wo, rfl⟩ : ∃ wo : World, wo = wr := ⟨_, rfl⟩
  by_cases hlt : (k : Int) < T.lits
  ·have hkf : k < T.foes.length := by have := H2.out; omega
   have Hcall := hid (foes12_any wo _ T k (HT1.out.ext hbl) H2.out hl1 hkf)
   go_wp2_with fail
   refine Hcall.out.mono ?_
   rintro e w2 ⟨_, rfl, rfl, hb2⟩
   have hbl2 := ext_trans hbl hb2
   clear Hcall c0 c1 c2 c3
   cases hok : foesOk T k with
   | false =>
    have Hok := hid hok
    clear hok
    go_wp2
    go_ret2
    exact Fin HQ (HE.out 121 _ (by unfold checkErr; rw [if_neg H1.out, if_neg (by simp [H2.out]), if_pos (foesAll_false hkf Hok.out)]) hbl2 _)
   | true =>
    have Hok := hid hok
    clear hok
    go_wp2
    go_roundw
    case rel =>
     refine ⟨k + 1, by omega, by go_num, fun i hi => ?_, hbl2⟩
     by_cases e : i = k
     ·subst e; exact Hok.out
     ·exact hno.out i (by omega)
    case measure => simp [intOf]; omega
  ·have h3 : Hid (foesAll T = true) := hid (foesAll_true.2 fun q hq => hno.out q (by have := H2.out; omega))
   by_cases h4 : 4096 < T.rules.length
   ·go_wp2_with fail
    go_ret2
    exact Fin HQ (HE.out 111 _ (by unfold checkErr; rw [if_neg H1.out, if_neg (by simp [H2.out]), if_neg (by simp [h3.out]), if_pos h4]) hbl _)
   go_wp2
   clear hno c0 c1 c2 c3
   go_loopw [5] (fun v5 wr => ∃ k : Nat, k ≤ T.rules.length ∧ v5 = .int .i64 k ∧ Hid (∀ i (h : i < T.rules.length), i < k → ruleOk T.lits T.rules[i] = true) ∧ Below W1.heap.size W1 wr) (fun v5 _ => T.rules.length - (intOf v5).toNat)
   case atStart => exact ⟨0, Nat.zero_le _, rfl, fun i h hk => absurd hk (by omega), hbl⟩
   case round =>
    clear hbl hk hlt
    obtain ⟨k, hk, rfl, hno, hbl⟩ := hrel
    obtain ⟨c0, c1, c2, c3⟩ := Hrd.out _ hbl
    have hbx : w.heap.size < wr.heap.size := World.block_lt_of_cell? _ _ c0
    obtain ⟨wo, rfl⟩ : ∃ wo : World, wo = wr := ⟨_, rfl⟩
    by_cases hlt : k < T.rules.length
    ·obtain ⟨ad, C, cC, rfl, p0, p1, p2, q0, q1, q2⟩ := (hrR1.ext ruleR_mono hbl).atRule hlt
     have hbx2 := ext_alloc wo (.cells #[.int .i64 T.rules[k].kind, .int .i64 T.rules[k].head, .slice C T.rules[k].body.length cC] 37)
     have Hcall := hid (rise12_any _ _ T.rules[k].body T.lits (⟨C, cC, rfl, q0, q1, q2.ext (scR_mono _) hbx2⟩ : RdI (wo.alloc (.cells #[.int .i64 T.rules[k].kind, .int .i64 T.rules[k].head, .slice C T.rules[k].body.length cC] 37)) _ T.rules[k].body))
     have Hbx3 := hid (ext_trans hbl hbx2)
     have Hok : Hid (ruleOk T.lits T.rules[k] = (decide (1 ≤ T.rules[k].kind) && decide (T.rules[k].kind ≤ 3) && decide (0 ≤ T.rules[k].head) && decide (T.rules[k].head < T.lits) && decide (T.rules[k].body.length ≤ 16) && risB T.rules[k].body T.lits)) := hid rfl
     have Hbad : Hid (ruleOk T.lits T.rules[k] = false → checkErr T = 122) := hid fun h => by
      unfold checkErr
      rw [if_neg H1.out, if_neg (by simp [H2.out]), if_neg (by simp [h3.out]), if_neg h4, if_pos]
      rw [List.all_eq_false]
      exact ⟨_, List.getElem_mem hlt, by rw [h]; simp⟩
     generalize hK : T.rules[k].kind = K at *
     generalize hH : T.rules[k].head = H at *
     generalize hBo : T.rules[k].body = Bo at *
     have HK := hid (And.intro hK (And.intro hH hBo))
     clear hK hH hBo q2 hbx2
     by_cases g1 : K < 1
     ·go_wp2_with fail
      go_ret2
      exact Fin HQ (HE.out 122 _ (Hbad.out (by rw [Hok.out, decide_eq_false (by omega)]; rfl)) Hbx3.out _)
     by_cases g2 : 3 < K
     ·go_wp2_with fail
      go_ret2
      exact Fin HQ (HE.out 122 _ (Hbad.out (by rw [Hok.out, decide_eq_false (show ¬ K ≤ 3 by omega)]; simp)) Hbx3.out _)
     by_cases g3 : H < 0
     ·go_wp2_with fail
      go_ret2
      exact Fin HQ (HE.out 122 _ (Hbad.out (by rw [Hok.out, decide_eq_false (show ¬ 0 ≤ H by omega)]; simp)) Hbx3.out _)
     by_cases g4 : T.lits ≤ H
     ·go_wp2_with fail
      go_ret2
      exact Fin HQ (HE.out 122 _ (Hbad.out (by rw [Hok.out, decide_eq_false (show ¬ H < T.lits by omega)]; simp)) Hbx3.out _)
     by_cases g5 : 16 < Bo.length
     ·have g6 : (16 : Int) < (Bo.length : Int) := by omega
      go_wp2_with fail
      go_ret2
      exact Fin HQ (HE.out 122 _ (Hbad.out (by rw [Hok.out, decide_eq_false (show ¬ Bo.length ≤ 16 by omega)]; simp)) Hbx3.out _)
     have g6 : ¬ (16 : Int) < (Bo.length : Int) := by omega
     have Hok2 : Hid (ruleOk T.lits T.rules[k] = risB Bo T.lits) := hid (by
      rw [Hok.out, decide_eq_true (show 1 ≤ K by omega), decide_eq_true (show K ≤ 3 by omega), decide_eq_true (show 0 ≤ H by omega), decide_eq_true (show H < T.lits by omega), decide_eq_true (show Bo.length ≤ 16 by omega)]; simp)
     go_wp2_with fail
     refine Hcall.out.mono ?_
     rintro e w5 ⟨_, rfl, rfl, hb5⟩
     have hb6 := ext_trans Hbx3.out hb5
     clear Hcall c0 c1 c2 c3 p0 p1 p2
     cases hok : risB Bo T.lits with
     | false =>
      have Hris := hid hok
      clear hok
      go_wp2
      go_ret2
      exact Fin HQ (HE.out 122 _ (Hbad.out (by rw [Hok2.out, Hris.out])) hb6 _)
     | true =>
      have Hris := hid hok
      clear hok
      go_wp2
      go_roundw
      case rel =>
       refine ⟨k + 1, by omega, by go_num, fun i h hi => ?_, hb6⟩
       by_cases e : i = k
       ·subst e; rw [Hok2.out, Hris.out]
       ·exact hno.out i h (by omega)
      case measure => simp [intOf]; omega
    ·have Hru : Hid (∀ r ∈ T.rules, ruleOk T.lits r = true) := fun r hr => by
      obtain ⟨i, hi, rfl⟩ := List.getElem_of_mem hr
      exact hno.out i hi (by omega)
     have Hru2 : Hid (¬ T.rules.all (ruleOk T.lits) = false) := by rw [Hid, List.all_eq_true.2 Hru.out]; simp
     have Hcall := hid (pairs12_any wo _ T (HT1.out.ext hbl) H2.out hl1 h3.out (by omega) Hru.out)
     clear hno
     go_wp2_with fail
     refine Hcall.out.mono ?_
     rintro e w5 ⟨_, rfl, ⟨s9, rfl, hs9⟩, hb5⟩
     have hb5' := ext_trans hbl hb5
     have Hs9 := hid hs9
     clear c0 c1 c2 c3 Hcall hs9
     by_cases h6 : 65536 < s9
     ·go_wp2_with fail
      go_ret2
      exact Fin HQ (HE.out 113 _ (by unfold checkErr; rw [if_neg H1.out, if_neg (by simp [H2.out]), if_neg (by simp [h3.out]), if_neg h4, if_neg Hru2.out, if_pos (Hs9.out.1 h6)]) hb5' _)
     obtain ⟨c0, c1, c2, c3⟩ := Hrd.out _ hb5'
     have H6 : Hid (¬ 65536 < pairCount T) := hid fun h => h6 (Hs9.out.2 h)
     by_cases h7 : T.beats.length = T.rules.length
     case neg =>
      have hb7 : ((T.beats.length : Int) != (T.rules.length : Int)) = true := by simp; omega
      have H7 := hid h7
      clear h7
      go_wp2_with fail
      go_ret2
      exact Fin HQ (HE.out 123 _ (by unfold checkErr; rw [if_neg H1.out, if_neg (by simp [H2.out]), if_neg (by simp [h3.out]), if_neg h4, if_neg Hru2.out, if_neg H6.out, if_pos H7.out]) hb5' _)
     have hb7 : ((T.beats.length : Int) != (T.rules.length : Int)) = false := by simp; omega
     have H7 := hid h7
     have h7a : T.beats.length ≤ T.rules.length := by omega
     have h7b : T.rules.length ≤ T.beats.length := by omega
     clear h7
     have Hbad : Hid (∀ i, i < T.beats.length → beatsOk T i = false → checkErr T = 123) := hid fun i hi h => by
      unfold checkErr
      rw [if_neg H1.out, if_neg (by simp [H2.out]), if_neg (by simp [h3.out]), if_neg h4, if_neg Hru2.out, if_neg H6.out, if_neg (by simp [H7.out]), if_pos (beatsAll_false hi h)]
     go_wp2_with fail
     clear h6 hb7 hlt hk c0 c1 c2 c3
     go_loopw [7] (fun v7 wr => ∃ k : Nat, k ≤ T.beats.length ∧ v7 = .int .i64 k ∧ Hid (∀ i, i < k → beatsOk T i = true) ∧ Below W1.heap.size W1 wr) (fun v7 _ => T.beats.length - (intOf v7).toNat)
     case atStart => exact ⟨0, Nat.zero_le _, rfl, fun i hk => absurd hk (by omega), hb5'⟩
     case round =>
      clear hb5' hb5 hbl
      obtain ⟨k, hk, rfl, hno, hbl⟩ := hrel
      obtain ⟨c0, c1, c2, c3⟩ := Hrd.out _ hbl
      obtain ⟨wo, rfl⟩ : ∃ wo : World, wo = wr := ⟨_, rfl⟩
      by_cases hlt : k < T.beats.length
      ·obtain ⟨ad, BB, cL, rfl, hcell, hcL, hbL, hrL⟩ := (hrB1.ext llR_mono hbl).atRow hlt
       have Hg : Hid (T.beats.getD k [] = T.beats[k]) := by simp [Hid, hlt]
       generalize hL : T.beats[k] = L at *
       have HL := hid hL
       clear hL
       have Hcall : Hid (∀ n, Calls Try.prog 133 #[.slice BB L.length cL, .int .i64 (T.rules.length : Int)] (wo.drewN n) (fun e w' => e = .returned (.bool (risB L T.rules.length)) ∧ ∃ m, w' = wo.drewN m)) := hid fun n => rise12_quiet wo _ L (T.rules.length : Int) (⟨BB, cL, rfl, hcL, hbL, hrL⟩ : RdI wo (.slice BB L.length cL) L) n
       cases hris : risB L T.rules.length with
       | false =>
        rw [hris] at Hcall
        have Hris := hid hris
        clear hris
        go_wp2_with fail
        go_quiet ((go_at_call 133; exact Hcall.out _))
        go_wp2
        go_ret2
        exact Fin HQ (HE.out 123 _ (Hbad.out k hlt (by simp only [beatsOk, Hg.out]; rw [Hris.out]; simp)) (below_drewN hbl _) _)
       | true =>
        rw [hris] at Hcall
        have Hris := hid hris
        clear hris
        go_wp2_with fail
        go_quiet ((go_at_call 133; exact Hcall.out _))
        go_wp2
        have hbl0 := below_drewN hbl
        clear hcell c0 c1 c2 c3 Hcall
        go_loopw [8] (fun v8 w3 => ∃ j : Nat, j ≤ L.length ∧ v8 = .int .i64 j ∧ Hid (∀ i (h : i < L.length), i < j → memB (row T.foes (headOf T k)) (headOf T L[i]) = true) ∧ Below wo.heap.size wo w3) (fun v8 _ => L.length - (intOf v8).toNat)
        case atStart => exact ⟨0, Nat.zero_le _, rfl, fun i h hk => absurd hk (by omega), ext_drewN _ _⟩
        case round =>
         obtain ⟨j, hj, rfl, hin, hbl3⟩ := hrel
         have hbl4 := ext_trans hbl hbl3
         obtain ⟨c0, c1, c2, c3⟩ := Hrd.out _ hbl4
         have hcell := ((hrB1.ext llR_mono hbl4).atRow hlt)
         rw [HL.out] at hcell
         obtain ⟨ad', B', cL', e', hcell, _, _, hrL'⟩ := hcell
         cases e'
         by_cases hjl : j < L.length
         ·obtain ⟨adL, rfl, hcj⟩ := hrL'.at1 hjl
          have hrange := (risB_spec Hris.out).1 j hjl
          have hkr : k < T.rules.length := by omega
          have hxr : L[j].toNat < T.rules.length := by omega
          obtain ⟨adR, B1, c1', rfl, p0, p1, p2, _, _, _⟩ := (hrR1.ext ruleR_mono hbl4).atRule hkr
          obtain ⟨adR', B2, c2', e2, q0, q1, q2, _, _, _⟩ := (hrR1.ext ruleR_mono hbl4).atRule hxr
          cases e2
          have hk0 := ruleOk_head (Hru.out _ (List.getElem_mem hkr))
          have hfk : T.rules[k].head.toNat < T.foes.length := by have := H2.out; omega
          obtain ⟨adF, CF, cF, rfl, hcF, hcF2, hbF, hrF⟩ := (hr1.ext llR_mono hbl4).atRow hfk
          have Hk1 : Hid (headOf T k = T.rules[k].head) := by simp [Hid, headOf, hkr]
          have Hx1 : Hid (headOf T L[j] = T.rules[L[j].toNat].head) := by simp [Hid, headOf, hxr]
          have Hrow : Hid (row T.foes T.rules[k].head = T.foes[T.rules[k].head.toNat]) := row_at hk0.1 (by have := H2.out; omega)
          obtain ⟨hk00, hk01⟩ := hk0
          obtain ⟨hr00, hr01⟩ := hrange
          have hk02 : T.rules[k].head < (T.foes.length : Int) := by have := H2.out; omega
          generalize hX : L[j] = X at *
          have HX := hid hX
          clear hX
          generalize hh : T.rules[k].head = hd at *
          have Hh := hid hh
          clear hh
          generalize hh2 : T.rules[X.toNat].head = hx at *
          have Hh2 := hid hh2
          clear hh2
          generalize hY : T.foes[hd.toNat] = Y at *
          have HY := hid hY
          clear hY
          have Hcall : Hid (∀ n, Calls Try.prog 135 #[.slice CF Y.length cF, .int .i64 hx] (wr.drewN n) (fun e w' => e = .returned (.bool (memB Y hx)) ∧ w' = wr.drewN n)) := hid fun n => in12_same _ _ Y hx (Rd.ext (scR_mono _) (⟨CF, cF, rfl, hcF2, hbF, hrF⟩ : RdI wr (.slice CF Y.length cF) Y) (ext_drewN wr n))
          clear hrF hrL'
          cases hm : memB Y hx with
          | false =>
           rw [hm] at Hcall
           have Hm := hid hm
           clear hm
           go_wp2
           go_quiet ((go_at_call 135; exact Calls.quiet_of_same (Hcall.out _)))
           go_wp2
           go_ret2
           refine Fin HQ (HE.out 123 _ (Hbad.out k hlt ?_) (below_drewN hbl4 _) _)
           simp only [beatsOk, Hg.out]
           rw [show (L.all fun s => memB (row T.foes (headOf T k)) (headOf T s)) = false from by
            rw [List.all_eq_false]; exact ⟨L[j], List.getElem_mem hjl, by rw [HX.out, Hx1.out, Hk1.out, Hrow.out, Hm.out]; simp⟩]
           simp
          | true =>
           rw [hm] at Hcall
           have Hm := hid hm
           clear hm
           go_wp2
           go_quiet ((go_at_call 135; exact Calls.quiet_of_same (Hcall.out _)))
           go_wp2
           go_roundw
           case rel =>
            refine ⟨j + 1, by omega, by go_num, fun i h hi => ?_, below_drewN hbl3 _⟩
            by_cases e : i = j
            ·subst e; rw [HX.out, Hx1.out, Hk1.out, Hrow.out, Hm.out]
            ·exact hin.out i h (by omega)
           case measure => simp [intOf]; omega
         ·have Hok : Hid (beatsOk T k = true) := hid (by
           simp only [beatsOk, Hg.out]; rw [Hris.out]
           simp only [Bool.true_and, List.all_eq_true]
           intro s hs
           obtain ⟨i, hi, rfl⟩ := List.getElem_of_mem hs
           exact hin.out i hi (by omega))
          go_wp2
          go_roundw
          case rel =>
           refine ⟨k + 1, by omega, by go_num, fun i hi => ?_, hbl4⟩
           by_cases e : i = k
           ·subst e; exact Hok.out
           ·exact hno.out i (by omega)
          case measure => simp [intOf]; omega
      ·have h8 : Hid (beatsAll T = true) := hid (beatsAll_true.2 fun q hq => hno.out q (by omega))
       have Hw0 : Hid (Wf0 T) := hid ⟨hl0, hl1, H2.out, h3.out, by omega, Hru.out, H7.out, h8.out⟩
       go_wp2
       clear hno c0 c1 c2 c3 hlt hk
       go_loopw [9] (fun v9 wr => ∃ k : Nat, k ≤ T.beats.length ∧ v9 = .int .i64 k ∧ Hid (∀ i, i < k → ¬ Comes (adjB T.beats) i i) ∧ Below W1.heap.size W1 wr) (fun v9 _ => T.beats.length - (intOf v9).toNat)
       case atStart => exact ⟨0, Nat.zero_le _, rfl, fun i hk => absurd hk (by omega), hbl⟩
       case round =>
        clear hbl
        obtain ⟨k, hk, rfl, hno, hbl⟩ := hrel
        obtain ⟨c0, c1, c2, c3⟩ := Hrd.out _ hbl
        obtain ⟨wo, rfl⟩ : ∃ wo : World, wo = wr := ⟨_, rfl⟩
        by_cases hlt : k < T.beats.length
        ·have Hcall := hid (back12_any wo _ T.beats ⟨AB, cB, rfl, hcB, hbB, hrB1.ext llR_mono hbl⟩ (by omega) (fun l hl y hy => by
          obtain ⟨i, hi, rfl⟩ := List.getElem_of_mem hl
          exact (beats_row Hw0.out hi).1 y hy) k hlt)
         obtain ⟨ad, BB, cL, rfl, hcell, hcL, hbL, hrL⟩ := (hrB1.ext llR_mono hbl).atRow hlt
         have Hg : Hid (adjB T.beats k = (T.beats[k]).map Int.toNat) := by simp [Hid, adjB, hlt]
         generalize hL : T.beats[k] = L at *
         clear hL hrL
         by_cases hz : L.length = 0
         ·have Hno : Hid (¬ Comes (adjB T.beats) k k) := hid fun ⟨z, hz1, _⟩ => by
           rw [Hg.out, List.length_eq_zero_iff.1 hz] at hz1; simp at hz1
          have hz2 : ¬ (0 : Int) < (L.length : Int) := by omega
          go_wp2_with fail
          go_roundw
          case rel =>
           refine ⟨k + 1, by omega, by go_num, fun i hi => ?_, hbl⟩
           by_cases e : i = k
           ·subst e; exact Hno.out
           ·exact hno.out i (by omega)
          case measure => simp [intOf]; omega
         ·have hz2 : (0 : Int) < (L.length : Int) := by omega
          clear hz
          go_wp2_with fail
          refine Hcall.out.mono ?_
          rintro e w5 ⟨_, rfl, ⟨bb, rfl, hbb⟩, hb5⟩
          have Hbb := hid hbb
          have hbl5 := ext_trans hbl hb5
          clear hbb Hcall c0 c1 c2 c3 hcell
          cases bb with
          | true =>
           go_wp2
           go_ret2
           exact Fin HQ (HE.out 131 _ (by unfold checkErr; rw [if_neg H1.out, if_neg (by simp [H2.out]), if_neg (by simp [h3.out]), if_neg h4, if_neg Hru2.out, if_neg H6.out, if_neg (by simp [H7.out]), if_neg (by simp [h8.out]), if_neg (fun h => (noKnot_iff Hw0.out).1 h k hlt (Hbb.out.1 (by simp)))]) hbl5 _)
          | false =>
           go_wp2
           go_roundw
           case rel =>
            refine ⟨k + 1, by omega, by go_num, fun i hi => ?_, hbl5⟩
            by_cases e : i = k
            ·subst e; exact fun h => by simpa using Hbb.out.2 h
            ·exact hno.out i (by omega)
           case measure => simp [intOf]; omega
        ·have Hnk : Hid (NoKnot T) := hid ((noKnot_iff Hw0.out).2 fun r hr => hno.out r (by omega))
         go_wp2
         go_ret2
         exact Fin HQ (HE.out 0 _ (by unfold checkErr; rw [if_neg H1.out, if_neg (by simp [H2.out]), if_neg (by simp [h3.out]), if_neg h4, if_neg Hru2.out, if_neg H6.out, if_neg (by simp [H7.out]), if_neg (by simp [h8.out]), if_pos Hnk.out]) hbl _)
end Go.Proofs.Lx
