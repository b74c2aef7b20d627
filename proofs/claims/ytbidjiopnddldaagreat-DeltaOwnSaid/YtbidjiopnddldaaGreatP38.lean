/- Parts of the proof: Ab. The reference's With, Without (layer 19); what is in one of two lists alone. -/
import Derived.Test.YtbidjiopnddldaaGreatP22
import Derived.Test.YtbidjiopnddldaaGreatP34
import Derived.Test.YtbidjiopnddldaaGreatP37
namespace Go.Proofs.Lx
open Go Go.RowKit Go.Proofs.Tj
set_option linter.unusedVariables false
set_option linter.unusedSimpArgs false
def withL : List Int → Int → List Int
 | [], x => [x]
 | y :: l, x => if x < y then x :: y :: l else y :: withL l x
theorem withL_length : ∀ (l : List Int) (x : Int), (withL l x).length = l.length + 1
 | [], x => rfl
 | y :: l, x => by
  unfold withL
  split
  ·simp
  ·simp [withL_length l x]
theorem withL_push {x y : Int} : ∀ {l : List Int}, (l.any fun z => decide (x < z)) = true → withL (l ++ [y]) x = withL l x ++ [y]
 | [], h => by simp at h
 | z :: l, h => by
  simp only [List.cons_append, withL]
  by_cases hz : x < z
  ·rw [if_pos hz, if_pos hz]; simp
  ·rw [if_neg hz, if_neg hz, withL_push (l := l) (by simpa [hz] using h)]; simp
theorem withL_none {x : Int} : ∀ {l : List Int}, (l.any fun z => decide (x < z)) = false → withL l x = l ++ [x]
 | [], h => rfl
 | z :: l, h => by
  have h1 : ¬ x < z := by
   intro h2
   simp [h2] at h
  have h3 : (l.any fun z => decide (x < z)) = false := by simpa [h1] using h
  simp [withL, h1, withL_none h3]
theorem withL_put {x y : Int} : ∀ {l : List Int}, (l.any fun z => decide (x < z)) = false → x < y → withL (l ++ [y]) x = (l ++ [x]) ++ [y]
 | [], h, hy => by simp [withL, hy]
 | z :: l, h, hy => by
  have h1 : ¬ x < z := by
   intro h2
   simp [h2] at h
  have h3 : (l.any fun z => decide (x < z)) = false := by simpa [h1] using h
  have := withL_put h3 hy
  simp only [List.cons_append, withL, if_neg h1, this]
theorem mem_withL {x z : Int} : ∀ {l : List Int}, z ∈ withL l x ↔ z = x ∨ z ∈ l
 | [] => by simp [withL]
 | y :: l => by
  unfold withL
  split
  ·simp
  ·rw [List.mem_cons, mem_withL (l := l), List.mem_cons]
   constructor
   ·rintro (h | h | h)
    ·exact .inr (.inl h)
    ·exact .inl h
    ·exact .inr (.inr h)
   ·rintro (h | h | h)
    ·exact .inr (.inl h)
    ·exact .inl h
    ·exact .inr (.inr h)
theorem withL_ris {x : Int} : ∀ {l : List Int}, l.Pairwise (· < ·) → x ∉ l → (withL l x).Pairwise (· < ·)
 | [], _, _ => by simp [withL]
 | y :: l, h, hn => by
  obtain ⟨h1, h2⟩ := List.pairwise_cons.1 h
  simp only [List.mem_cons, not_or] at hn
  unfold withL
  split
  ·rename_i hxy
   refine List.pairwise_cons.2 ⟨fun z hz => ?_, h⟩
   rcases List.mem_cons.1 hz with rfl | hz
   ·exact hxy
   ·have := h1 z hz; omega
  ·rename_i hxy
   refine List.pairwise_cons.2 ⟨fun z hz => ?_, withL_ris h2 hn.2⟩
   rcases mem_withL.1 hz with rfl | hz
   ·have := hn.1; omega
   ·exact h1 z hz
theorem withL_add {G : List Int} {n q : Int} (hG : risB G n = true) (hq : 0 ≤ q ∧ q < n) (hn : q ∉ G) : withL G q = addL G q :=
 ris_ext (withL_ris (risB_spec hG).2 hn) (risB_spec (add_ris hG hq hn)).2 fun x => by rw [mem_withL, mem_add]
def woutL (l : List Int) (x : Int) : List Int := l.filter fun y => decide (y ≠ x)
theorem outL_drop {G : List Int} {n q : Int} (hG : risB G n = true) (hm : q ∈ G) : woutL G q = dropL G q :=
 ris_ext ((risB_spec hG).2.filter _) (risB_spec (drop_ris hG)).2 fun x => by rw [mem_drop hG hm]; simp [woutL]
def wst (l : List Int) (x : Int) (k : Nat) (d : Bool) : List Int := if d then withL (l.take k) x else l.take k
theorem wst_le (l : List Int) (x : Int) (k : Nat) (d : Bool) : (wst l x k d).length ≤ k + 1 := by
 unfold wst; split
 ·rw [withL_length, List.length_take]; omega
 ·rw [List.length_take]; omega
theorem intsV_snoc (l : List Int) (x : Int) : intsV (l ++ [x]) = intsV l ++ [.int .i64 x] := by simp [intsV]
theorem any_succ {l : List Int} {x : Int} {k : Nat} (hk : k < l.length) : ((l.take (k + 1)).any fun z => decide (x < z)) = (((l.take k).any fun z => decide (x < z)) || decide (x < l[k])) := by
 rw [List.take_succ_eq_append_getElem hk, List.any_append]; simp
set_option maxRecDepth 100000 in
set_option maxHeartbeats 6400000 in
theorem with19_any (w : World) (v : Value) (l : List Int) (x : Int) (hv : RdI w v l) (h8 : l.length ≤ 100000) :
  Calls Tryz.prog 44 #[v, .int .i64 x] w (Ret fun r w' => w'.ownsRow w.heap.size 3 1 r (withL l x).length (intsV (withL l x)) ∧ Below w.heap.size w w') := by
 obtain ⟨A, c, rfl, hc, hb, hr⟩ := hv
 obtain ⟨i0, hi, hz0, hz1, hz2⟩ := info_parts infoI
 refine post_gen fun Q HQ => ?_
 generalize hn : l.length = n at *
 have Hn := hid hn
 clear hn
 go_enter Tryz.func44, Tryz.ntmps44
 go_wp2
 go_loopw [5, 6, 7] (fun v5 v6 v7 wr => ∃ (k : Nat) (d : Bool) (o : List Int), k ≤ n ∧ v7 = .int .i64 k ∧ v6 = .bool d ∧ Hid (d = (l.take k).any fun z => decide (x < z)) ∧ Hid (o = wst l x k d) ∧ wr.ownsRow w.heap.size 3 1 v5 o.length (intsV o) ∧ Below w.heap.size w wr) (fun _ _ v7 _ => n - (intOf v7).toNat)
 case atStart => exact ⟨0, false, [], Nat.zero_le _, rfl, rfl, hid (by simp), hid (by simp [wst]), World.ownsRow_nil _ _ _ _, ext_refl _⟩
 case round =>
  obtain ⟨k, d, o, hk, rfl, rfl, hd, ho, hown, hbl⟩ := hrel
  have hol : o.length ≤ k + 1 := by rw [ho.out]; exact wst_le _ _ _ _
  have Hown := hid hown
  have hsz := hbl.size
  have Hbl := hid hbl
  clear hown hbl
  by_cases hlt : k < n
  ·have hx : k < l.length := by rw [Hn.out]; exact hlt
   obtain ⟨ad, rfl, hcw⟩ := hr.at1 hx
   have Hany := hid (any_succ (x := x) hx)
   have Htk := hid (List.take_succ_eq_append_getElem hx)
   obtain ⟨y, HX⟩ : ∃ y, Hid (l[k] = y) := ⟨_, hid rfl⟩
   rw [HX.out] at hcw Hany Htk
   have hcX := cell_ext Hbl.out hcw
   have Hcw := hid hcw
   clear hcw
   have Hx := hid hx
   skip
   cases d with
   | true =>
    have Ho2 : Hid (wst l x (k + 1) true = o ++ [y]) := hid (by rw [ho.out]; simp only [wst, if_true]; rw [Htk.out]; exact withL_push hd.out.symm)
    have Hd2 : Hid (true = (l.take (k + 1)).any fun z => decide (x < z)) := hid (by rw [Hany.out, ← hd.out]; rfl)
    go_wp2_with (at_builtin; refine wpList_append_own _ rfl _ _ 36 rfl w.heap.size 3 i0 (.int .i64 0) 1 8 Tryz.underlying36 hi hz0 hz1 hz2 rfl (by decide) _ _ _ rfl (Hown.out.alloc _) ⟨_, 0, none⟩ 1 1 [.int .i64 y] rfl rfl (cell_one_new _ _ _) (fun u hu => by simp at hu; subst hu; rfl) (by unfold maxLen; omega) (by omega) (by simp; omega) ?_; intro v' w3 hown' hgrow3 hnil3; have Hown3 := hid hown'; have Hb3 := hid (below_grown (Hbl.out.alloc hsz _) (by simp; omega) hgrow3 (fun g e => (Hown.out.lt g e).1)); clear hown' hgrow3 hnil3)
    go_roundw
    case rel => exact ⟨k + 1, true, o ++ [y], by omega, by go_num, rfl, Hd2, hid Ho2.out.symm, by rw [List.length_append, intsV_snoc]; exact Hown3.out, Hb3.out⟩
    case measure => simp [intOf]; omega
   | false =>
    by_cases hxy : x < y
    ·have hlt2 : decide (x < y) = true := by simp [hxy]
     have Ho2 : Hid (wst l x (k + 1) true = (o ++ [x]) ++ [y]) := hid (by rw [ho.out]; simp only [wst, if_true]; rw [Htk.out, withL_put hd.out.symm hxy]; simp)
     have Hd2 : Hid (true = (l.take (k + 1)).any fun z => decide (x < z)) := hid (by rw [Hany.out]; simp [hxy])
     go_wp2_with (first | (at_builtin; refine wpList_append_own _ rfl _ _ 36 rfl w.heap.size 3 i0 (.int .i64 0) 1 8 Tryz.underlying36 hi hz0 hz1 hz2 rfl (by decide) _ _ _ rfl (Hown.out.alloc _) ⟨_, 0, none⟩ 1 1 [.int .i64 x] rfl rfl (cell_one_new _ _ _) (fun u hu => by simp at hu; subst hu; rfl) (by unfold maxLen; omega) (by omega) (by simp; omega) ?_; intro v' w3 hown' hgrow3 hnil3; have Hown3 := hid hown'; have Hb3 := hid (below_grown (Hbl.out.alloc hsz _) (by simp; omega) hgrow3 (fun g e => (Hown.out.lt g e).1)); have hsz3 := Hb3.out.size; have hsz3 := Hb3.out.size; have hcX3 := cell_ext Hb3.out Hcw.out; clear hown' hgrow3 hnil3 hcX) | (at_builtin; refine wpList_append_own _ rfl _ _ 36 rfl w.heap.size 3 i0 (.int .i64 0) 1 8 Tryz.underlying36 hi hz0 hz1 hz2 rfl (by decide) _ _ _ rfl (Hown3.out.alloc _) ⟨_, 0, none⟩ 1 1 [.int .i64 y] rfl rfl (cell_one_new _ _ _) (fun u hu => by simp at hu; subst hu; rfl) (by unfold maxLen; omega) (by omega) (by simp; omega) ?_; intro v' w4 hown' hgrow3 hnil3; have Hown4 := hid hown'; have Hb4 := hid (below_grown (Hb3.out.alloc hsz3 _) (by simp; omega) hgrow3 (fun g e => (Hown3.out.lt g e).1)); clear hown' hgrow3 hnil3))
     go_roundw
     case rel =>
      refine ⟨k + 1, true, (o ++ [x]) ++ [y], by omega, by go_num, rfl, Hd2, hid Ho2.out.symm, ?_, Hb4.out⟩
      rw [List.length_append, List.length_append, intsV_snoc, intsV_snoc]; exact Hown4.out
     case measure => simp [intOf]; omega
    ·have hlt2 : decide (x < y) = false := by simp; omega
     have Ho2 : Hid (wst l x (k + 1) false = o ++ [y]) := hid (by rw [ho.out]; simp only [wst, Bool.false_eq_true, if_false]; rw [Htk.out])
     have Hd2 : Hid (false = (l.take (k + 1)).any fun z => decide (x < z)) := hid (by rw [Hany.out, ← hd.out]; simp [hxy])
     go_wp2_with (at_builtin; refine wpList_append_own _ rfl _ _ 36 rfl w.heap.size 3 i0 (.int .i64 0) 1 8 Tryz.underlying36 hi hz0 hz1 hz2 rfl (by decide) _ _ _ rfl (Hown.out.alloc _) ⟨_, 0, none⟩ 1 1 [.int .i64 y] rfl rfl (cell_one_new _ _ _) (fun u hu => by simp at hu; subst hu; rfl) (by unfold maxLen; omega) (by omega) (by simp; omega) ?_; intro v' w3 hown' hgrow3 hnil3; have Hown3 := hid hown'; have Hb3 := hid (below_grown (Hbl.out.alloc hsz _) (by simp; omega) hgrow3 (fun g e => (Hown.out.lt g e).1)); clear hown' hgrow3 hnil3)
     go_roundw
     case rel => exact ⟨k + 1, false, o ++ [y], by omega, by go_num, rfl, Hd2, hid Ho2.out.symm, by rw [List.length_append, intsV_snoc]; exact Hown3.out, Hb3.out⟩
     case measure => simp [intOf]; omega
  ·obtain rfl : k = n := by omega
   have Htk := hid (List.take_of_length_le (l := l) (i := k) (by rw [Hn.out]; exact Nat.le_refl _))
   cases d with
   | true =>
    have Ho2 : Hid (withL l x = o) := hid (by rw [ho.out]; simp only [wst, if_true]; rw [Htk.out])
    go_wp2
    go_ret
    exact Fin HQ ⟨by rw [Ho2.out]; exact Hown.out, Hbl.out⟩
   | false =>
    have Ho2 : Hid (withL l x = o ++ [x]) := hid (by rw [ho.out]; simp only [wst, Bool.false_eq_true, if_false]; rw [Htk.out]; have h9 := hd.out; rw [Htk.out] at h9; exact withL_none h9.symm)
    go_wp2_with (at_builtin; refine wpList_append_own _ rfl _ _ 36 rfl w.heap.size 3 i0 (.int .i64 0) 1 8 Tryz.underlying36 hi hz0 hz1 hz2 rfl (by decide) _ _ _ rfl (Hown.out.alloc _) ⟨_, 0, none⟩ 1 1 [.int .i64 x] rfl rfl (cell_one_new _ _ _) (fun u hu => by simp at hu; subst hu; rfl) (by unfold maxLen; omega) (by omega) (by simp; omega) ?_; intro v' w3 hown' hgrow3 hnil3; have Hown3 := hid hown'; have Hb3 := hid (below_grown (Hbl.out.alloc hsz _) (by simp; omega) hgrow3 (fun g e => (Hown.out.lt g e).1)); clear hown' hgrow3 hnil3)
    go_ret
    exact Fin HQ ⟨by rw [Ho2.out, List.length_append, intsV_snoc]; exact Hown3.out, Hb3.out⟩
set_option maxRecDepth 100000 in
set_option maxHeartbeats 6400000 in
theorem without19_any (w : World) (v : Value) (l : List Int) (x : Int) (hv : RdI w v l) (h8 : l.length ≤ 100000) :
  Calls Tryz.prog 46 #[v, .int .i64 x] w (Ret fun r w' => w'.ownsRow w.heap.size 3 1 r (woutL l x).length (intsV (woutL l x)) ∧ Below w.heap.size w w') := by
 obtain ⟨A, c, rfl, hc, hb, hr⟩ := hv
 obtain ⟨i0, hi, hz0, hz1, hz2⟩ := info_parts infoI
 refine post_gen fun Q HQ => ?_
 generalize hn : l.length = n at *
 have Hn := hid hn
 clear hn
 go_enter Tryz.func46, Tryz.ntmps46
 go_wp2
 go_loopw [5, 6] (fun v5 v6 wr => ∃ (k : Nat) (o : List Int), k ≤ n ∧ v6 = .int .i64 k ∧ Hid (o = woutL (l.take k) x) ∧ wr.ownsRow w.heap.size 3 1 v5 o.length (intsV o) ∧ Below w.heap.size w wr) (fun _ v6 _ => n - (intOf v6).toNat)
 case atStart => exact ⟨0, [], Nat.zero_le _, rfl, hid (by simp [woutL]), World.ownsRow_nil _ _ _ _, ext_refl _⟩
 case round =>
  obtain ⟨k, o, hk, rfl, ho, hown, hbl⟩ := hrel
  have hol : o.length ≤ k := by rw [ho.out]; exact Nat.le_trans (List.length_filter_le _ _) (by rw [List.length_take]; omega)
  have Hown := hid hown
  have hsz := hbl.size
  have Hbl := hid hbl
  clear hown hbl
  by_cases hlt : k < n
  ·have hx : k < l.length := by rw [Hn.out]; exact hlt
   obtain ⟨ad, rfl, hcX⟩ := (hr.ext (scR_mono _) Hbl.out).at1 hx
   have Htk := hid (List.take_succ_eq_append_getElem hx)
   obtain ⟨y, HX⟩ : ∃ y, Hid (l[k] = y) := ⟨_, hid rfl⟩
   rw [HX.out] at hcX Htk
   skip
   by_cases hxy : y = x
   ·have hne : (y != x) = false := by simp [hxy]
    have Ho2 : Hid (woutL (l.take (k + 1)) x = o) := hid (by rw [ho.out, Htk.out]; unfold woutL; rw [List.filter_append]; simp [hxy])
    clear hxy
    go_wp2
    go_roundw
    case rel => exact ⟨k + 1, o, by omega, by go_num, hid Ho2.out.symm, Hown.out, Hbl.out⟩
    case measure => simp [intOf]; omega
   ·have hne : (y != x) = true := by simp [hxy]
    have Ho2 : Hid (woutL (l.take (k + 1)) x = o ++ [y]) := hid (by rw [ho.out, Htk.out]; unfold woutL; rw [List.filter_append]; simp [hxy])
    clear hxy
    go_wp2_with (at_builtin; refine wpList_append_own _ rfl _ _ 36 rfl w.heap.size 3 i0 (.int .i64 0) 1 8 Tryz.underlying36 hi hz0 hz1 hz2 rfl (by decide) _ _ _ rfl (Hown.out.alloc _) ⟨_, 0, none⟩ 1 1 [.int .i64 y] rfl rfl (cell_one_new _ _ _) (fun u hu => by simp at hu; subst hu; rfl) (by unfold maxLen; omega) (by omega) (by simp; omega) ?_; intro v' w3 hown' hgrow3 hnil3; have Hown3 := hid hown'; have Hb3 := hid (below_grown (Hbl.out.alloc hsz _) (by simp; omega) hgrow3 (fun g e => (Hown.out.lt g e).1)); clear hown' hgrow3 hnil3)
    go_roundw
    case rel => exact ⟨k + 1, o ++ [y], by omega, by go_num, hid Ho2.out.symm, by rw [List.length_append, intsV_snoc]; exact Hown3.out, Hb3.out⟩
    case measure => simp [intOf]; omega
  ·obtain rfl : k = n := by omega
   have Ho2 : Hid (woutL l x = o) := hid (by rw [ho.out, List.take_of_length_le (by rw [Hn.out]; exact Nat.le_refl _)])
   go_wp2
   go_ret
   exact Fin HQ ⟨by rw [Ho2.out]; exact Hown.out, Hbl.out⟩
end Go.Proofs.Lx
