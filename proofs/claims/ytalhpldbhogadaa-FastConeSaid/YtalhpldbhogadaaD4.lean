/- Parts of the proof: Xo, Xp. FastCone, plain: on which side a literal is a fact, and what differs lies in the cone. -/
import Derived.Test.YtalhpldbhogadaaD2
import Derived.Test.YtalhpldbhogadaaD3
import Derived.Test.YtalhpldbhogadaaU31
import Derived.Deep.RegionHeld3
namespace Go.Proofs.Lx
open Go Go.RowKit Go.Proofs.Tj
set_option linter.unusedSimpArgs false
set_option linter.unusedVariables false
theorem difErr_two (T : Th) (a b : List Int) : difErr T a b = if givenErr T a = 0 then givenErr T b else givenErr T a := by
 unfold difErr givenErrs givenErr
 by_cases h : checkErr T = 0
 ·simp only [if_pos h]
  show (if factsErr T a = 0 then (if factsErr T b = 0 then 0 else factsErr T b) else factsErr T a) = _
  by_cases h1 : factsErr T a = 0
  ·rw [if_pos h1, if_pos h1]
   by_cases h2 : factsErr T b = 0
   ·rw [if_pos h2, h2]
   ·rw [if_neg h2]
  ·rw [if_neg h1, if_neg h1]
 ·simp only [if_neg h]
theorem dif_len {T : Th} {a b : List Int} : (difL T a b).length ≤ 4096 := by
 unfold difL
 by_cases h : difErr T a b = 0
 ·rw [if_pos h]
  rw [difErr_two] at h
  have hg : givenErr T a = 0 := by
   by_cases e : givenErr T a = 0
   ·exact e
   ·rw [if_neg e] at h; exact h
  have hwf := (givenErr_ok.1 hg).1
  have h1 := hwf.fl
  have h2 := hwf.l1
  exact Nat.le_trans (pickL_le _ _) (by omega)
 ·rw [if_neg h]; simp
/-- How often a literal stands in the one list more than in the other. -/
def sideV (a b : List Int) (q : Nat) : Int := (a.count (q : Int) : Int) - (b.count (q : Int) : Int)
def sideL (n : Nat) (a b : List Int) : List Int := (List.range n).map (sideV a b)
theorem sideL_length (n : Nat) (a b : List Int) : (sideL n a b).length = n := by simp [sideL]
theorem sideL_at {n : Nat} {a b : List Int} {q : Nat} (hq : q < n) : (sideL n a b)[q]'(by rw [sideL_length]; exact hq) = sideV a b q := by simp [sideL]
theorem sideL_zero (n : Nat) : sideL n [] [] = List.replicate n 0 := by
 apply List.ext_getElem <;> simp [sideL, sideV]
theorem sideV_bound {a b : List Int} (ha : a.length ≤ 4096) (hb : b.length ≤ 4096) (q : Nat) : -4096 ≤ sideV a b q ∧ sideV a b q ≤ 4096 := by
 have h1 := List.count_le_length (a := (q : Int)) (l := a)
 have h2 := List.count_le_length (a := (q : Int)) (l := b)
 unfold sideV; omega
theorem sideL_one {n : Nat} {a b a' b' : List Int} {q : Nat} {v : Int} (hq : q < n) (h : ∀ p : Nat, sideV a' b' p = if p = q then v else sideV a b p) : sideL n a' b' = (sideL n a b).set q v := by
 apply List.ext_getElem
 ·simp [sideL]
 ·intro p h1 h2
  have hp : p < n := by rwa [sideL_length] at h1
  rw [sideL_at hp, List.getElem_set, h p]
  by_cases e : q = p
  ·rw [if_pos e, if_pos e.symm]
  ·rw [if_neg e, if_neg (fun e2 => e e2.symm), sideL_at hp]
theorem sideL_a {n : Nat} {a : List Int} {k q : Nat} (hk : k < a.length) (hq : a[k] = (q : Int)) (hn : q < n) : sideL n (a.take (k + 1)) [] = (sideL n (a.take k) []).set q (sideV (a.take k) [] q + 1) := by
 refine sideL_one hn fun p => ?_
 unfold sideV
 rw [List.take_succ_eq_append_getElem hk, List.count_append, hq, List.count_singleton]
 by_cases e : p = q
 ·subst e; simp <;> omega
 ·have : ¬ (q : Int) = (p : Int) := by omega
  simp [e, this]
theorem sideL_b {n : Nat} {a b : List Int} {k q : Nat} (hk : k < b.length) (hq : b[k] = (q : Int)) (hn : q < n) : sideL n a (b.take (k + 1)) = (sideL n a (b.take k)).set q (sideV a (b.take k) q - 1) := by
 refine sideL_one hn fun p => ?_
 unfold sideV
 rw [List.take_succ_eq_append_getElem hk, List.count_append, hq, List.count_singleton]
 by_cases e : p = q
 ·subst e; simp; omega
 ·have : ¬ (q : Int) = (p : Int) := by omega
  simp [e, this]
/-- The literals that are facts on one side alone. -/
def oddL (n : Nat) (a b : List Int) : List Int := pickL (fun q => sideV a b q != 0) n
theorem odd_out {n : Nat} {a b : List Int} (ha : a.Nodup) (hb : b.Nodup) {x : Nat} (hx : x < n) (h : ¬ (x : Int) ∈ oddL n a b) : (x : Int) ∈ a ↔ (x : Int) ∈ b := by
 have h0 : sideV a b x = 0 := by
  refine Classical.byContradiction fun hne => h ?_
  unfold oddL pickL
  exact List.mem_map.2 ⟨x, List.mem_filter.2 ⟨List.mem_range.2 hx, by simp [hne]⟩, rfl⟩
 unfold sideV at h0
 rw [← List.count_pos_iff, ← List.count_pos_iff]
 omega
theorem odd_range {n : Nat} {a b : List Int} {x : Int} (h : x ∈ oddL n a b) : 0 ≤ x ∧ x < n := by
 unfold oddL pickL at h
 obtain ⟨y, hy, rfl⟩ := List.mem_map.1 h
 have := List.mem_range.1 (List.mem_filter.1 hy).1
 omega
theorem cone_range {T : Th} {o : List Int} {x : Int} (h : x ∈ coneL T o) : 0 ≤ x ∧ x < T.foes.length := by
 unfold coneL pickL at h
 obtain ⟨y, hy, rfl⟩ := List.mem_map.1 h
 have := List.mem_range.1 (List.mem_filter.1 hy).1
 omega
theorem ris_nodup {l : List Int} {n : Int} (h : risB l n = true) : l.Nodup := (risB_spec h).2.imp fun h => by omega
theorem dif_cone {T : Th} {a b : List Int} (hwf : WfTh T) (ha : risB a T.lits = true) (hb : risB b T.lits = true) {x : Int} (h : x ∈ difL T a b) : ∃ q : Nat, x = q ∧ q < T.foes.length ∧ memB (coneL T (oddL T.foes.length a b)) (q : Int) = true := by
 unfold difL at h
 by_cases hd : difErr T a b = 0
 ·rw [if_pos hd] at h
  unfold pickL at h
  obtain ⟨q, hq, rfl⟩ := List.mem_map.1 h
  obtain ⟨h1, h2⟩ := List.mem_filter.1 hq
  rw [List.mem_range] at h1
  refine ⟨q, rfl, h1, memB_true.2 ?_⟩
  refine Classical.byContradiction fun hn => ?_
  have hnc : ¬ InCone T (oddL T.foes.length a b) q := fun hc => hn (by
   unfold coneL pickL
   exact List.mem_map.2 ⟨q, List.mem_filter.2 ⟨List.mem_range.2 h1, by simpa using hc⟩, rfl⟩)
  have := cone_solve hwf (a := a) (b := b) (fun y hy hny => odd_out (ris_nodup ha) (ris_nodup hb) hy fun hm => hny (.base hm)) h1 hnc
  rw [this] at h2
  simp at h2
 ·rw [if_neg hd] at h; simp at h
theorem cone_le (T : Th) (o : List Int) : (coneL T o).length ≤ T.foes.length := pickL_le _ _
end Go.Proofs.Lx

namespace Go.Proofs.Lx
open Go Go.RowKit Go.Proofs.Tj
set_option linter.unusedSimpArgs false
set_option linter.unusedVariables false
set_option maxRecDepth 100000 in
set_option maxHeartbeats 3200000 in
theorem lawCone_any (w : World) (V va vb : Value) (T : Th) (a b : List Int) (hT : RdTh w V T) (ha : RdI w va a) (hb : RdI w vb b) :
  Calls Try.prog 17 #[V, va, vb] w (Ret fun v w' => v = .bool true ∧ Below w.heap.size w w') := by
 have HT := hid hT
 have Ha := hid ha
 have Hb := hid hb
 obtain ⟨vF, vR, vB, rfl, hF, hR, hB⟩ := hT
 obtain ⟨Aa, ca, rfl, _, han, _⟩ := ha
 obtain ⟨Ab, cb, rfl, _, hbn, _⟩ := hb
 obtain ⟨W1, HW1⟩ : ∃ W1, Hid (W1 = w.alloc (.cells #[.int .i64 T.lits, vF, vR, vB] 25)) := ⟨_, hid rfl⟩
 have hb1 : Below w.heap.size w W1 := by rw [HW1.out]; exact ext_alloc _ _
 have hsz1 : W1.heap.size = w.heap.size + 1 := by rw [HW1.out]; simp
 have Hbox : Hid (∀ W, Below W1.heap.size W1 W → W.cell? ⟨w.heap.size, 0, none⟩ = some (.int .i64 T.lits) ∧ W.cell? ⟨w.heap.size, 1, none⟩ = some vF ∧ W.cell? ⟨w.heap.size, 2, none⟩ = some vR ∧ W.cell? ⟨w.heap.size, 3, none⟩ = some vB) := hid fun W h => by rw [HW1.out] at h; exact box4 h
 have Hrd : Hid (∀ W, Below W1.heap.size W1 W → RdTh W (.agg #[.int .i64 T.lits, vF, vR, vB]) T ∧ RdI W (.slice Aa a.length ca) a ∧ RdI W (.slice Ab b.length cb) b) := hid fun W h => ⟨HT.out.ext (ext_trans hb1 h), Ha.out.ext (scR_mono _) (ext_trans hb1 h), Hb.out.ext (scR_mono _) (ext_trans hb1 h)⟩
 have Hw := hid works_any
 have Hdif : Hid (∀ W, Below W1.heap.size W1 W → Calls Try.prog 52 #[.agg #[.int .i64 T.lits, vF, vR, vB], .slice Aa a.length ca, .slice Ab b.length cb] W (Ret (IntsPost W (difL T a b) (difErr T a b)))) := hid fun W h => fdiffer_any W _ _ _ T a b (Hrd.out W h).1 (Hrd.out W h).2.1 (Hrd.out W h).2.2
 have Hcon : Hid (∀ W v9, Below W1.heap.size W1 W → RdI W v9 (oddL T.foes.length a b) → Calls Try.prog 54 #[.agg #[.int .i64 T.lits, vF, vR, vB], v9] W (Ret (IntsPost W (coneX T (oddL T.foes.length a b)) (coneErr T (oddL T.foes.length a b))))) := hid fun W v9 h h9 => coneT_any W _ _ T _ (Hrd.out W h).1 h9
 have Hb1 := hid hb1
 clear hF hR hB hb1
 refine post_gen fun Q HQ => ?_
 go_enter Try.func17, Try.ntmps17
 go_wp2_with fail
 rw [← HW1.out]
 refine (Hw.out W1).mono ?_
 rintro e w2 ⟨_, rfl, rfl, hb2⟩
 obtain ⟨a0, a1, a2, a3⟩ := Hbox.out w2 hb2
 have Hc := hid (Hdif.out w2 hb2)
 unfold IntsPost at Hc
 by_cases hd : difErr T a b = 0
 ·have hd2 := hd
  rw [difErr_two] at hd2
  have hga : givenErr T a = 0 := by
   by_cases h : givenErr T a = 0
   ·exact h
   ·rw [if_neg h] at hd2; exact hd2
  rw [if_pos hga] at hd2
  obtain ⟨hwf, hra⟩ := givenErr_ok.1 hga
  obtain ⟨_, hrb⟩ := givenErr_ok.1 hd2
  have hfl := hwf.fl.symm
  have hl1 : T.foes.length ≤ 4096 := by have := hwf.l1; omega
  have Hdc := hid (fun x => dif_cone (x := x) hwf hra hrb)
  have hra' := hra
  have hrb' := hrb
  rw [hfl] at hra' hrb'
  have ha4 : a.length ≤ 4096 := by have := ris_len hra'; omega
  have hb4 : b.length ≤ 4096 := by have := ris_len hrb'; omega
  have Hra := hid (risB_spec hra').1
  have Hrb := hid (risB_spec hrb').1
  have hce : coneErr T (oddL T.foes.length a b) = 0 := by
   unfold coneErr
   rw [if_pos ((checkErr_ok T).2 hwf), if_pos fun x hx => odd_range hx]
  have hcx : coneX T (oddL T.foes.length a b) = coneL T (oddL T.foes.length a b) := by unfold coneX; rw [if_pos hce]
  have hcl := cone_le T (oddL T.foes.length a b)
  have Hcr := hid (fun x h => cone_range (T := T) (o := oddL T.foes.length a b) (x := x) h)
  rw [hce, hcx, hfl] at Hcon
  unfold IntsPost at Hcon
  rw [hd] at Hc
  have hs2 := hb2.size
  have hsz3 : w.heap.size < w2.heap.size := by omega
  have hdl := dif_len (T := T) (a := a) (b := b)
  have Hfl := hid hfl
  clear hd hd2 hga hra hrb hra' hrb' hce hcx hwf hfl
  generalize difL T a b = L at *
  generalize hCL : coneL T (oddL T.foes.length a b) = CL at *
  clear hCL
  go_wp2_with fail
  refine Hc.out.mono ?_
  rintro e w3 ⟨_, rfl, vl, rfl, hl0, hb3⟩
  have hl := own_rdI hl0 (by omega)
  clear hl0
  have Hb13 := hid (ext_trans hb2 hb3)
  have Hl := hid hl
  obtain ⟨Al, cl, rfl, _, _, _⟩ := hl
  clear Hc a0 a1 a2 a3
  obtain ⟨a0, a1, a2, a3⟩ := Hbox.out w3 Hb13.out
  rw [Hfl.out] at a0
  have hmk := mkI (T.foes.length : Int) (by omega) (by omega)
  rw [Int.toNat_natCast] at hmk
  have hs3 := hb3.size
  clear hb2 hb3
  go_wp2_with fail
  clear hmk a0 a1 a2 a3
  go_loopw [10] (fun v10 wr => ∃ k : Nat, k ≤ a.length ∧ v10 = .int .i64 (k : Int) ∧ Below w3.heap.size w3 wr ∧ Arr (Value.int .i64) 3 wr w3.heap.size (sideL T.foes.length (a.take k) [])) (fun v10 _ => a.length - (intOf v10).toNat)
  case atStart =>
   refine ⟨0, Nat.zero_le _, rfl, ext_alloc _ _, (heap_alloc_new w3 _).trans ?_⟩
   congr 2
   rw [List.take_zero, sideL_zero, ← Array.toList_inj, toList_madeCells_one, List.map_replicate]
  case round =>
   obtain ⟨k, hk, rfl, hbl, har⟩ := hrel
   have hw := ext_trans Hb13.out hbl
   by_cases hka : k < a.length
   ·obtain ⟨A', c', e', _, _, hr⟩ := (Hrd.out wr hw).2.1
    obtain rfl : Aa = A' := by injection e'
    obtain ⟨ad, rfl, hcell⟩ := hr.at1 hka
    clear e'
    obtain ⟨hx0, hxn⟩ := Hra.out k hka
    obtain ⟨q, hq⟩ := Int.eq_ofNat_of_zero_le hx0
    have hqn : q < T.foes.length := by omega
    have hqn2 : (q : Int) < (T.foes.length : Int) := by omega
    have hS := sideL_a hka hq hqn
    have hcq := har.cell (i := q) (by rw [sideL_length]; exact hqn)
    rw [sideL_at hqn] at hcq
    obtain ⟨hv0, hv1⟩ := sideV_bound (a := a.take k) (b := []) (by rw [List.length_take]; omega) (by simp) q
    have hfr := har.free q
    have Hnx := hid (har.set q (sideV (a.take k) [] q + 1))
    rw [hq] at hcell
    have HS := hid hS
    have Hbl := hid hbl
    clear hS hx0 hxn hq har
    generalize sideV (a.take k) [] q = x at *
    go_wp2_with fail
    go_roundw
    case rel => exact ⟨k + 1, by omega, by go_num, Hbl.out.setCell (Nat.le_refl _) _, by rw [HS.out]; exact Hnx.out⟩
    case measure => simp [intOf]; omega
   ·obtain rfl : k = a.length := by omega
    rw [List.take_length] at har
    have Hbl0 := hid hbl
    have Har0 := hid har
    clear hbl har
    go_wp2_with fail
    go_loopw [11] (fun v11 wr => ∃ k : Nat, k ≤ b.length ∧ v11 = .int .i64 (k : Int) ∧ Below w3.heap.size w3 wr ∧ Arr (Value.int .i64) 3 wr w3.heap.size (sideL T.foes.length a (b.take k))) (fun v11 _ => b.length - (intOf v11).toNat)
    case atStart => exact ⟨0, Nat.zero_le _, rfl, Hbl0.out, Har0.out⟩
    case round =>
     clear Hbl0 Har0 hw
     obtain ⟨k, hk, rfl, hbl, har⟩ := hrel
     have hw := ext_trans Hb13.out hbl
     by_cases hkb : k < b.length
     ·obtain ⟨A', c', e', _, _, hr⟩ := (Hrd.out wr hw).2.2
      obtain rfl : Ab = A' := by injection e'
      obtain ⟨ad, rfl, hcell⟩ := hr.at1 hkb
      clear e'
      obtain ⟨hx0, hxn⟩ := Hrb.out k hkb
      obtain ⟨q, hq⟩ := Int.eq_ofNat_of_zero_le hx0
      have hqn : q < T.foes.length := by omega
      have hqn2 : (q : Int) < (T.foes.length : Int) := by omega
      have hS := sideL_b (a := a) hkb hq hqn
      have hcq := har.cell (i := q) (by rw [sideL_length]; exact hqn)
      rw [sideL_at hqn] at hcq
      obtain ⟨hv0, hv1⟩ := sideV_bound (a := a) (b := b.take k) ha4 (by rw [List.length_take]; omega) q
      have hfr := har.free q
      have Hnx := hid (har.set q (sideV a (b.take k) q - 1))
      rw [hq] at hcell
      have HS := hid hS
      have Hbl := hid hbl
      clear hS hx0 hxn hq har
      generalize sideV a (b.take k) q = x at *
      go_wp2_with fail
      go_roundw
      case rel => exact ⟨k + 1, by omega, by go_num, Hbl.out.setCell (Nat.le_refl _) _, by rw [HS.out]; exact Hnx.out⟩
      case measure => simp [intOf]; omega
     ·obtain rfl : k = b.length := by omega
      rw [List.take_length] at har
      obtain ⟨w4, rfl⟩ : ∃ w4 : World, w4 = wr := ⟨_, rfl⟩
      have Hbl0 := hid hbl
      have Har0 := hid har
      have hs4 := hbl.size
      have Hw4 := hid hw
      obtain ⟨i0, hi, hz0, hz1, hz2⟩ := info_parts infoI
      have Hps := hid (pickL_succ (fun q => sideV a b q != 0))
      have Hple := hid (pickL_le (fun q => sideV a b q != 0))
      clear hbl har hw
      go_wp2_with fail
      go_loopw [12, 13] (fun v12 v13 wr => ∃ k : Nat, k ≤ T.foes.length ∧ v13 = .int .i64 (k : Int) ∧ wr.ownsRow w4.heap.size 3 1 v12 (pickL (fun q => sideV a b q != 0) k).length (intsV (pickL (fun q => sideV a b q != 0) k)) ∧ Below w4.heap.size w4 wr) (fun _ v13 _ => T.foes.length - (intOf v13).toNat)
      case atStart => exact ⟨0, Nat.zero_le _, rfl, by simpa [intsV, pickL] using World.ownsRow_nil _ _ _ _, ext_refl _⟩
      case round =>
       obtain ⟨k, hk, rfl, hown, hbl⟩ := hrel
       have hw := ext_trans Hw4.out hbl
       obtain ⟨a0, a1, a2, a3⟩ := Hbox.out wr hw
       rw [Hfl.out] at a0
       by_cases hlt : k < T.foes.length
       ·have har := Har0.out.ext hbl
        have hcq := har.cell (i := k) (by rw [sideL_length]; exact hlt)
        rw [sideL_at hlt] at hcq
        have hs := Hps.out k
        have hle := Hple.out k
        have hsz := hbl.size
        have Hown2 := hid hown
        clear hown har
        by_cases hx : sideV a b k = 0
        ·rw [hx] at hcq hs
         rw [if_neg (by simp), List.append_nil] at hs
         have HS := hid hs
         clear hs hx
         go_wp2_with fail
         go_roundw
         case rel => exact ⟨k + 1, by omega, by go_num, by rw [HS.out]; exact Hown2.out, hbl⟩
         case measure => simp [intOf]; omega
        ·have hx2 : (sideV a b k != 0) = true := by simp [hx]
         rw [hx2, if_pos rfl] at hs
         have HS := hid hs
         generalize hPL : pickL (fun q => sideV a b q != 0) k = PL at *
         generalize sideV a b k = x at *
         clear hPL hs
         go_wp2_with (at_builtin; refine wpList_append_own _ rfl _ _ 26 rfl w4.heap.size 3 i0 (.int .i64 0) 1 8 Try.underlying26 hi hz0 hz1 hz2 rfl (by decide) _ PL.length _ rfl (Hown2.out.alloc _) ⟨wr.heap.size, 0, none⟩ 1 1 [.int .i64 (k : Int)] rfl rfl (cell_one_new _ _ _) (fun u hu => by simp at hu; subst hu; rfl) (by unfold maxLen; omega) (by omega) (by simp; omega) ?_; intro v' w5 hown' hgrow5 hnil5)
         go_roundw
         case rel =>
          refine ⟨k + 1, by omega, by go_num, ?_, ?_⟩
          ·rw [HS.out, List.length_append, List.length_singleton]
           simpa [intsV] using hown'
          ·exact below_grown (hbl.alloc hsz _) (by simp; omega) hgrow5 (fun g e => (Hown2.out.lt g e).1)
         case measure => simp [intOf]; omega
       ·obtain rfl : k = T.foes.length := by omega
        have hle := Hple.out T.foes.length
        have hodd : RdI wr _ (oddL T.foes.length a b) := own_rdI hown (by unfold oddL; omega)
        have Hc := hid (Hcon.out wr _ hw hodd)
        have hsw := hw.size
        clear hown hodd
        go_wp2_with fail
        refine Hc.out.mono ?_
        rintro e w6 ⟨_, rfl, vc, rfl, hcown, hb6⟩
        have hw6 := ext_trans hw hb6
        have hs6 := hb6.size
        have hcr : RdI w6 vc CL := own_rdI hcown (by omega)
        obtain ⟨Ac, cc, rfl, _, _, hrc⟩ := hcr
        clear a0 a1 a2 a3 Hc hcown
        obtain ⟨a0, a1, a2, a3⟩ := Hbox.out w6 hw6
        rw [Hfl.out] at a0
        have hmk := mkB (T.foes.length : Int) (by omega) (by omega)
        rw [Int.toNat_natCast] at hmk
        have Hw6 := hid hw6
        have Hrc := hid hrc
        have Hl6 := hid (Hl.out.ext (scR_mono _) (ext_trans (ext_trans Hbl0.out hbl) hb6))
        clear hw6 hrc hbl hb6 hw
        go_wp2_with fail
        clear hmk a0 a1 a2 a3
        go_loopw [17] (fun v17 wr => ∃ k : Nat, k ≤ CL.length ∧ v17 = .int .i64 (k : Int) ∧ Below w6.heap.size w6 wr ∧ Arr Value.bool 4 wr w6.heap.size (factsUpto T.foes.length k CL)) (fun v17 _ => CL.length - (intOf v17).toNat)
        case atStart =>
         refine ⟨0, Nat.zero_le _, rfl, ext_alloc _ _, ?_⟩
         rw [factsUpto_zero]
         refine (heap_alloc_new w6 _).trans ?_
         congr 2
         rw [← Array.toList_inj, toList_madeCells_one, List.map_replicate]
        case round =>
         obtain ⟨k, hk, rfl, hbl, har⟩ := hrel
         by_cases hkc : k < CL.length
         ·obtain ⟨ad, rfl, hcell⟩ := (Hrc.out.ext (scR_mono _) hbl).at1 hkc
          obtain ⟨hx0, hxn⟩ := Hcr.out _ (List.getElem_mem hkc)
          obtain ⟨q, hq⟩ := Int.eq_ofNat_of_zero_le hx0
          have hqn : q < T.foes.length := by omega
          have hqn2 : (q : Int) < (T.foes.length : Int) := by omega
          have hS := factsUpto_succ T.foes.length k CL hkc hx0
          rw [hq, Int.toNat_natCast] at hS
          have hcq := har.cell (i := q) (by rw [factsUpto, factsB_length]; exact hqn)
          have hfr := har.free q
          have Hnx := hid (har.set q true)
          rw [hq] at hcell
          have HS := hid hS
          have Hbl := hid hbl
          clear hS hx0 hxn hq har
          go_wp2_with fail
          go_roundw
          case rel => exact ⟨k + 1, by omega, by go_num, Hbl.out.setCell (Nat.le_refl _) _, by rw [HS.out]; exact Hnx.out⟩
          case measure => simp [intOf]; omega
         ·obtain rfl : k = CL.length := by omega
          rw [factsUpto_all] at har
          obtain ⟨w8, rfl⟩ : ∃ w8 : World, w8 = wr := ⟨_, rfl⟩
          have Har := hid har
          have Hw8 := hid (ext_trans Hw6.out hbl)
          have Hl8 := hid (Hl6.out.ext (scR_mono _) hbl)
          clear hbl har
          go_wp2_with fail
          go_loopw [18] (fun v18 wr => ∃ k : Nat, k ≤ L.length ∧ v18 = .int .i64 (k : Int) ∧ Below w8.heap.size w8 wr) (fun v18 _ => L.length - (intOf v18).toNat)
          case atStart => exact ⟨0, Nat.zero_le _, rfl, ext_refl _⟩
          case round =>
           obtain ⟨k, hk, rfl, hbw⟩ := hrel
           obtain ⟨a0, a1, a2, a3⟩ := Hbox.out wr (ext_trans Hw8.out hbw)
           rw [Hfl.out] at a0
           by_cases hkl : k < L.length
           ·obtain ⟨A', c', e', _, _, hr⟩ := Hl8.out.ext (scR_mono _) hbw
            obtain rfl : Al = A' := by injection e'
            obtain ⟨ad, rfl, hcell⟩ := hr.at1 hkl
            clear e'
            obtain ⟨q, hq, hqn, hqm⟩ := Hdc.out _ (List.getElem_mem hkl)
            have hq0 : (0 : Int) ≤ (q : Int) := by omega
            have hq1 : decide ((q : Int) < 0) = false := by simp
            have hq3 : decide (T.foes.length ≤ q) = false := by simp; omega
            have hqn2 : (q : Int) < (T.foes.length : Int) := by omega
            have hcq := (Har.out.ext hbw).cell (i := q) (by rw [factsB_length]; exact hqn)
            have hcq2 : (factsB T.foes.length CL)[q]'(by rw [factsB_length]; exact hqn) = memB CL (q : Int) := by simp [factsB]
            rw [hcq2, hqm] at hcq
            rw [hq] at hcell
            clear hq hqm hcq2
            go_wp2_with fail
            have Hbw := hid hbw
            clear hbw
            go_region_held3 (fun W' : World => W'.cell? ⟨w.heap.size, 0, none⟩ = some (.int .i64 (T.foes.length : Int)) ∧ W'.cell? (ad.add k) = some (.int .i64 (q : Int)) ∧ W'.cell? ⟨w6.heap.size, q, none⟩ = some (.bool true)) (exact ⟨a0, hcell, hcq⟩) (fail)
            go_wp2_with fail
            go_roundw
            case rel => exact ⟨k + 1, by omega, by go_num, Hbw.out.drew⟩
            case measure => simp [intOf]; omega
           ·obtain rfl : k = L.length := by omega
            have Hfin := hid (ext_trans Hb1.out (ext_trans Hw8.out hbw))
            go_wp2_with fail
            go_ret
            exact Fin HQ ⟨rfl, Hfin.out⟩
 ·have hL : difL T a b = [] := by unfold difL; rw [if_neg hd]
  rw [hL] at Hc
  generalize difErr T a b = d at *
  clear hL
  go_wp2_with fail
  refine Hc.out.mono ?_
  rintro e w3 ⟨_, rfl, vl, rfl, hl0, hb3⟩
  have hl := own_rdI hl0 (by simp)
  obtain ⟨Al, cl, rfl, _, _, _⟩ := hl
  have hb13 := ext_trans hb2 hb3
  clear Hc a0 a1 a2 a3
  go_wp2_with fail
  go_ret
  exact Fin HQ ⟨rfl, ext_trans Hb1.out hb13⟩
end Go.Proofs.Lx
