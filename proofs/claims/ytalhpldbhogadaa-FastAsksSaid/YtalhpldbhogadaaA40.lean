/- Parts of the proof: Wu, Wy, Pq, We, Wv, Rw. Contract of the reference's Differ of layer 16. -/
import Derived.Test.YtalhpldbhogadaaA38
import Derived.Test.YtalhpldbhogadaaA39
import Derived.Deep.DeepCutAuto
import Derived.Test.YtalhpldbhogadaaA28
import Derived.Test.YtalhpldbhogadaaA32
import Derived.Test.YtalhpldbhogadaaA31
import Derived.Test.YtalhpldbhogadaaA1
import Derived.SizedLaws
import Derived.Lib.SmallJoins
import Derived.ProofKit
import Derived.OpenShut
namespace Go.Proofs.Lx
open Go Go.RowKit Go.Proofs.Tj
set_option linter.unusedSimpArgs false
set_option linter.unusedVariables false
theorem difErr_eq (T : Th) (a b : List Int) : difErr T a b = if givenErr T a = 0 then givenErr T b else givenErr T a := by
 unfold difErr givenErrs givenErr
 by_cases h : checkErr T = 0
 ·simp only [if_pos h]
  show (if factsErr T a = 0 then (if factsErr T b = 0 then 0 else factsErr T b) else factsErr T a) = _
  by_cases h1 : factsErr T a = 0
  ·rw [if_pos h1, if_pos h1]
   by_cases h2 : factsErr T b = 0
   ·rw [if_pos h2, h2]
   ·rw [if_neg h2]
  ·rw [if_neg h1, if_neg h1]
 ·simp only [if_neg h]
set_option maxRecDepth 100000 in
set_option maxHeartbeats 1600000 in
theorem rdiffer_any (w : World) (V va vb : Value) (T : Th) (a b : List Int) (hT : RdTh w V T) (ha : RdI w va a) (hb : RdI w vb b) :
  Calls Try.prog 53 #[V, va, vb] w (Ret (IntsPost w (difL T a b) (difErr T a b))) := by
 have HT := hid hT
 have Hb := hid hb
 obtain ⟨vF, vR, vB, rfl, hF, hR, hB⟩ := hT
 have hbel := ext_alloc w (.cells #[.int .i64 T.lits, vF, vR, vB] 25)
 have Hbel := hid hbel
 have hch := hid (run16_any (w.alloc (.cells #[.int .i64 T.lits, vF, vR, vB] 25)) _ va T a (HT.out.ext hbel) (ha.ext (scR_mono _) hbel))
 have Hrun : Hid (∀ W, Below (w.alloc (.cells #[.int .i64 T.lits, vF, vR, vB] 25)).heap.size (w.alloc (.cells #[.int .i64 T.lits, vF, vR, vB] 25)) W → Calls Try.prog 38 #[.agg #[.int .i64 T.lits, vF, vR, vB], vb] W (Ret (FRunPost W T b))) := hid fun W hW => run16_any W _ vb T b (HT.out.ext (ext_trans hbel hW)) (Hb.out.ext (scR_mono _) (ext_trans hbel hW))
 have Hbox : Hid (∀ W, Below (w.alloc (.cells #[.int .i64 T.lits, vF, vR, vB] 25)).heap.size (w.alloc (.cells #[.int .i64 T.lits, vF, vR, vB] 25)) W → W.cell? ⟨w.heap.size, 0, none⟩ = some (.int .i64 T.lits) ∧ W.cell? ⟨w.heap.size, 1, none⟩ = some vF ∧ W.cell? ⟨w.heap.size, 2, none⟩ = some vR ∧ W.cell? ⟨w.heap.size, 3, none⟩ = some vB) := hid fun W h => box4 h
 clear hF hR hB hbel ha hb
 unfold IntsPost
 have He := hid (difErr_eq T a b)
 have HL0 : Hid (difErr T a b ≠ 0 → difL T a b = []) := hid fun h => by unfold difL; rw [if_neg h]
 have HL1 : Hid (difErr T a b = 0 → difL T a b = pickL (fun q => (solveM T a).getD q 0 != (solveM T b).getD q 0) T.foes.length) := hid fun h => by unfold difL; rw [if_pos h]
 have Hmk : Hid (∀ l w' v, givenErr T l = 0 → RdMk w' v (solX T l) → ∃ A cap, v = .slice A T.foes.length cap ∧ MkR w' A (solveM T l) T.foes.length) := hid fun l w' v h1 h2 => mkR_of h1 h2
 refine post_gen fun Q HQ => ?_
 go_enter Try.func53, Try.ntmps53
 go_wp2_with fail
 refine hch.out.mono ?_
 rintro e w2 ⟨_, rfl, hp⟩
 obtain ⟨v, rfl, hrd, hb2⟩ := FRunPost.marks hp
 clear hp hch
 have Hrd := hid hrd
 have Hb2 := hid hb2
 clear hrd hb2
 obtain ⟨c, Hc⟩ : ∃ c, Hid (givenErr T a = c) := ⟨_, hid rfl⟩
 have he := He.out
 rw [Hc.out] at he
 rw [Hc.out]
 by_cases h : c = 0
 ·subst h
  rw [if_pos rfl] at he
  have Hcall := hid (Hrun.out w2 Hb2.out)
  obtain ⟨b0, b1, b2, b3⟩ := Hbox.out w2 Hb2.out
  obtain ⟨A, cap, rfl, hm⟩ := Hmk.out _ _ _ Hc.out Hrd.out
  have Hm := hid hm
  clear hm
  have HE := hid he
  clear he
  generalize hn : T.foes.length = n at *
  go_wp2_with fail
  refine Hcall.out.mono ?_
  rintro e w3 ⟨_, rfl, hp⟩
  obtain ⟨v2, rfl, hrd2, hb3⟩ := FRunPost.marks hp
  clear hp Hcall b0 b1 b2 b3
  have Hrd2 := hid hrd2
  have Hb3 := hid hb3
  clear hrd2 hb3
  obtain ⟨d, Hd⟩ : ∃ d, Hid (givenErr T b = d) := ⟨_, hid rfl⟩
  have he := HE.out
  rw [Hd.out] at he
  rw [Hd.out]
  by_cases h : d = 0
  ·subst h
   rw [he, HL1.out he] at HQ
   have HE2 := hid he
   clear he
   obtain ⟨B, cap2, rfl, hm⟩ := Hmk.out _ _ _ Hd.out Hrd2.out
   obtain ⟨i0, hi, hz0, hz1, hz2⟩ := info_parts infoI
   have hn4 := hm.n4
   have Hm2 := hid hm
   have Hp : Hid (∀ (q x y : Nat), (solveM T a)[q]? = some x → (solveM T b)[q]? = some y → ((solveM T a).getD q 0 != (solveM T b).getD q 0) = (x != y)) := hid fun q x y hx hy => by
    rw [List.getD_eq_getElem?_getD, List.getD_eq_getElem?_getD, hx, hy]; rfl
   clear hm Hmk Hrd Hrd2 HL0 HL1
   generalize hpp : (fun q : Nat => (solveM T a).getD q 0 != (solveM T b).getD q 0) = p at *
   have Hpp : Hid (∀ (q x y : Nat), (solveM T a)[q]? = some x → (solveM T b)[q]? = some y → p q = (x != y)) := hid fun q x y hx hy => by rw [← hpp]; exact Hp.out q x y hx hy
   clear hpp Hp hn
   have Hs := hid (pickL_succ p)
   have Hle := hid (pickL_le p)
   go_wp2_with fail
   go_loopw [12, 13] (fun v12 v13 wr => ∃ q : Nat, q ≤ n ∧ v13 = .int .i64 q ∧ wr.ownsRow w3.heap.size 3 1 v12 (pickL p q).length (intsV (pickL p q)) ∧ Below w3.heap.size w3 wr) (fun _ v13 _ => n - (intOf v13).toNat)
   case atStart => exact ⟨0, Nat.zero_le _, rfl, by simpa [intsV, pickL] using World.ownsRow_nil _ _ _ _, ext_refl _⟩
   case round =>
    obtain ⟨q, hq, rfl, hown, hbl2⟩ := hrel
    by_cases hlt : q < n
    ·obtain ⟨x, ad, hx, hx8, rfl, hcX⟩ := Hm.out.at1 wr (ext_trans Hb3.out hbl2) q hlt
     obtain ⟨y, ad2, hy, hy8, rfl, hcY⟩ := Hm2.out.at1 wr hbl2 q hlt
     have hpx := Hpp.out q x y hx hy
     have hs := Hs.out q
     have hle := Hle.out q
     have Hown := hid hown
     have Hbl2 := hid hbl2
     have hsz := hbl2.size
     rw [hpx] at hs
     clear hown hx hy hpx hbl2
     by_cases hxy : x = y
     ·have hne : ((x : Int) != (y : Int)) = false := by simp [hxy]
      rw [hxy, show (y != y) = false by simp, if_neg Bool.false_ne_true, List.append_nil] at hs
      have HS := hid hs
      clear hs hxy
      go_wp2_with fail
      go_region
      all_goals
       go_wp2_with fail
       go_roundw
       case rel =>
        refine ⟨q + 1, by omega, by go_num, ?_, below_drewN Hbl2.out _⟩
        rw [HS.out]; exact own_ext Hown.out (Below.drew (ext_refl _))
       case measure => simp [intOf]; omega
     ·have hne : ((x : Int) != (y : Int)) = true := by simp; omega
      rw [show (x != y) = true by simp [hxy], if_pos rfl] at hs
      have HS := hid hs
      generalize hL : pickL p q = L at *
      clear hL hxy hs
      go_wp2_with fail
      go_region
      all_goals
       have hdr : Below wr.heap.size wr wr.drew := Below.drew (ext_refl _)
       have Hown3 := hid (own_ext Hown.out hdr)
       have hb3d := ext_trans Hbl2.out hdr
       clear hdr
       go_wp2_with (at_builtin; refine wpList_append_own _ rfl _ _ 26 rfl w3.heap.size 3 i0 (.int .i64 0) 1 8 Try.underlying26 hi hz0 hz1 hz2 rfl (by decide) _ L.length _ rfl (Hown3.out.alloc _) ⟨wr.drew.heap.size, 0, none⟩ 1 1 [.int .i64 (q : Int)] rfl rfl (cell_one_new _ _ _) (fun u hu => by simp at hu; subst hu; rfl) (by unfold maxLen; omega) (by omega) (by have := hb3d.size; simp; simp at this; omega) ?_; intro v' w4 hown' hgrow3 hnil3)
       go_roundw
       case rel =>
        refine ⟨q + 1, by omega, by go_num, ?_, ?_⟩
        ·rw [HS.out, List.length_append, List.length_singleton]
         simpa [intsV] using hown'
        ·exact below_grown (hb3d.alloc hb3d.size _) (by simp; have := hb3d.size; simp at this; omega) hgrow3 (fun g e => (Hown3.out.lt g e).1)
       case measure => simp [intOf]; omega
    ·obtain rfl : q = n := by omega
     go_wp2
     go_ret2
     exact Fin HQ ⟨_, rfl, own_lower hown (ext_trans Hbel.out (ext_trans Hb2.out Hb3.out)).size, ext_trans Hbel.out (ext_trans Hb2.out (ext_trans Hb3.out hbl2))⟩
  ·have hne : (d != 0) = true := by simp [h]
   rw [he, HL0.out (by rw [he]; exact h)] at HQ
   have HE2 := hid he
   clear he
   go_wp2_with fail
   go_ret2
   exact Fin HQ ⟨_, rfl, own_nilI _ _, ext_trans Hbel.out (ext_trans Hb2.out Hb3.out)⟩
 ·rw [if_neg h] at he
  have hne : (c != 0) = true := by simp [h]
  rw [he, HL0.out (by rw [he]; exact h)] at HQ
  have HE := hid he
  clear he
  go_wp2_with fail
  go_ret2
  exact Fin HQ ⟨_, rfl, own_nilI _ _, ext_trans Hbel.out Hb2.out⟩
end Go.Proofs.Lx

namespace Go.Proofs.Lx
open Go Go.RowKit
set_option linter.unusedSimpArgs false
set_option linter.unusedVariables false
set_option maxHeartbeats 800000 in
theorem sameIz (w : World) (v1 v2 : Value) (X : List Int) (h1 : RdI w v1 X) (h2 : RdI w v2 X) :
  Calls Try.prog 35 #[v1, v2] w (Ret fun v w' => v = .bool true ∧ Below w.heap.size w w') := by
 obtain ⟨A, c, rfl, hc, hb, hr⟩ := h1
 obtain ⟨B, d, rfl, hd, hb2, hr2⟩ := h2
 refine post_gen fun Q HQ => ?_
 go_enter Try.func35, Try.ntmps35
 generalize hn : X.length = n at *
 have Hn := hid hn
 clear hn
 go_wp2
 go_loopw [5] (fun v5 wr => ∃ k : Nat, k ≤ n ∧ v5 = .int .i64 k ∧ Below w.heap.size w wr) (fun v5 _ => n - (intOf v5).toNat)
 case atStart => exact ⟨0, Nat.zero_le _, rfl, ext_refl w⟩
 case round =>
  obtain ⟨k, hk, rfl, hdr⟩ := hrel
  have Hdr := hid hdr
  by_cases hlt : k < n
  ·have hx : k < X.length := by rw [Hn.out]; exact hlt
   obtain ⟨ad, rfl, hcX⟩ := (hr.ext (scR_mono _) hdr).at1 hx
   obtain ⟨ad2, rfl, hcY⟩ := (hr2.ext (scR_mono _) hdr).at1 hx
   generalize X[k] = x at *
   have hne : (x != x) = false := by simp
   clear hdr hr hr2 hx
   go_wp2
   go_quiet (fail)
   go_wp2
   go_roundw
   case rel => exact ⟨k + 1, by omega, by go_num, below_drewN Hdr.out _⟩
   case measure => simp [intOf]; omega
  ·go_wp2
   go_ret
   exact Fin HQ ⟨rfl, Hdr.out⟩
/-- A list and an error, read. -/
def IntsRd (w : World) (L : List Int) (c : Int) (r : Value) (w' : World) : Prop := ∃ v, r = .tuple #[v, .int .i64 c] ∧ RdI w' v L ∧ Below w.heap.size w w'
theorem IntsPost.rd {w w' : World} {L : List Int} {c : Int} {r : Value} (h : IntsPost w L c r w') (hl : L.length ≤ 4096) : IntsRd w L c r w' := by
 obtain ⟨v, rfl, h1, h2⟩ := h
 exact ⟨v, rfl, own_rdI h1 (by omega), h2⟩
theorem foes_le {T : Th} {l : List Int} (h : givenErr T l = 0) : T.foes.length ≤ 4096 := by
 have := (givenErr_ok.1 h).1.fl; have := (givenErr_ok.1 h).1.l1; omega
theorem setL_le {T : Th} {l : List Int} {tag : Int} : (setL T l tag).length ≤ 4096 := by
 unfold setL
 split
 ·next h =>
  refine Nat.le_trans (pickL_le _ _) (foes_le (l := l) ?_)
  unfold tagErr at h
  by_cases e : givenErr T l = 0
  ·exact e
  ·rwa [if_neg e] at h
 ·simp
theorem undL_le {T : Th} {l : List Int} : (undL T l).length ≤ 4096 := by
 unfold undL
 split
 ·next h => exact Nat.le_trans (pickL_le _ _) (foes_le h)
 ·simp
theorem difL_le {T : Th} {a b : List Int} : (difL T a b).length ≤ 4096 := by
 unfold difL
 split
 ·next h =>
  refine Nat.le_trans (pickL_le _ _) (foes_le (l := a) ?_)
  rw [difErr_eq] at h
  by_cases e : givenErr T a = 0
  ·exact e
  ·rwa [if_neg e] at h
 ·simp
end Go.Proofs.Lx

namespace Go.Proofs.Lx
open Go Go.RowKit Go.Proofs.Tj
set_option linter.unusedSimpArgs false
set_option linter.unusedVariables false
def exC : Th := ⟨2, [[1], [0]], [⟨2, 0, []⟩, ⟨2, 1, []⟩], [[1], []]⟩
def exD : Th := ⟨2, [[1], [0]], [⟨2, 0, []⟩, ⟨2, 1, []⟩], [[], []]⟩
theorem exC_edge {y z : Nat} (h : z ∈ adjN (beatsAt exC) y) : y = 0 ∧ z = 1 := by
 match y with
 | 0 => simpa [adjN, beatsAt, exC] using h
 | 1 => simp [adjN, beatsAt, exC] at h
 | y + 2 => simp [adjN, beatsAt, exC] at h
theorem exD_edge {y z : Nat} (h : z ∈ adjN (beatsAt exD) y) : False := by
 match y with
 | 0 => simp [adjN, beatsAt, exD] at h
 | 1 => simp [adjN, beatsAt, exD] at h
 | y + 2 => simp [adjN, beatsAt, exD] at h
theorem exC_leads {x y : Nat} (h : Leads (adjN (beatsAt exC)) x y) : x = y ∨ x = 0 ∧ y = 1 := by
 induction h with
 | refl => exact .inl rfl
 | step _ hz ih =>
  obtain ⟨rfl, rfl⟩ := exC_edge hz
  omega
theorem exD_leads {x y : Nat} (h : Leads (adjN (beatsAt exD)) x y) : x = y := by
 induction h with
 | refl => rfl
 | step _ hz ih => exact (exD_edge hz).elim
theorem exC_wf : WfTh exC := by
 refine ⟨by decide, by decide, by decide, by decide +kernel, by decide, ?_, by decide +kernel, by decide, by decide +kernel, fun x y _ _ h1 h2 => ?_⟩
 ·exact List.all_eq_true.1 (by decide +kernel)
 ·have := exC_leads h1; have := exC_leads h2; omega
theorem exD_wf : WfTh exD := by
 refine ⟨by decide, by decide, by decide, by decide +kernel, by decide, ?_, by decide +kernel, by decide, by decide +kernel, fun x y _ _ h1 h2 => exD_leads h1⟩
 exact List.all_eq_true.1 (by decide +kernel)
theorem exC_solve : solveM exC [] = [6, 10] := by
 rw [← solve_eq (k := 4) (by decide +kernel) (by decide)]
 decide +kernel
theorem exD_solve : solveM exD [] = [10, 10] := by
 rw [← solve_eq (k := 4) (by decide +kernel) (by decide)]
 decide +kernel
end Go.Proofs.Lx

namespace Go.Proofs.Lx
open Go Go.RowKit Go.Proofs.Tj
set_option linter.unusedSimpArgs false
set_option linter.unusedVariables false
/-- The example's blocks. -/
def wkBlocks (h : Nat) : List Obj :=
 [.cells #[.int .i64 1] 3, .cells #[.int .i64 0] 3,
  .cells #[.slice (some ⟨h, 0, none⟩) 1 1, .slice (some ⟨h + 1, 0, none⟩) 1 1] 26,
  .cells #[.int .i64 2, .int .i64 0, .slice none 0 0, .int .i64 2, .int .i64 1, .slice none 0 0] 37,
  .cells #[.int .i64 1] 3,
  .cells #[.slice (some ⟨h + 1 + 1 + 1 + 1, 0, none⟩) 1 1, .slice none 0 0] 26,
  .cells #[.int .i64 2, .slice (some ⟨h + 1 + 1, 0, none⟩) 2 2, .slice (some ⟨h + 1 + 1 + 1, 0, none⟩) 2 2, .slice (some ⟨h + 1 + 1 + 1 + 1 + 1, 0, none⟩) 2 2] 25]
def wkW (w : World) : World := (wkBlocks w.heap.size).foldl World.alloc w
theorem wk_rd (W : World) (h : Nat) (vB : Value) (X : List (List Int)) (hh : ∀ i o, i < 4 → (wkBlocks h)[i]? = some o → W.heap[h + i]? = some o) (hB : RdLL W vB X) :
  RdTh W (.agg #[.int .i64 2, .slice (some ⟨h + 1 + 1, 0, none⟩) 2 2, .slice (some ⟨h + 1 + 1 + 1, 0, none⟩) 2 2, vB]) ⟨2, [[1], [0]], [⟨2, 0, []⟩, ⟨2, 1, []⟩], X⟩ := by
 have h0 := hh 0 _ (by omega) rfl
 have h1 := hh 1 _ (by omega) rfl
 have h2 := hh 2 _ (by omega) rfl
 have h3 := hh 3 _ (by omega) rfl
 refine ⟨_, _, _, rfl, ?_, ?_, hB⟩
 ·refine rd_lit1 h2 rfl (by simp) fun i hi => ?_
  match i, hi with
  | 0, _ => exact ⟨_, rfl, _, rfl, rd_int1 h0⟩
  | 1, _ => exact ⟨_, rfl, _, rfl, rd_int1 h1⟩
 ·refine rd_lit3 h3 rfl (by simp) fun i hi => ?_
  match i, hi with
  | 0, _ => exact ⟨_, _, _, rfl, rfl, rfl, _, rfl, Rd.nil⟩
  | 1, _ => exact ⟨_, _, _, rfl, rfl, rfl, _, rfl, Rd.nil⟩
theorem wkC_rd (w : World) : RdTh (wkW w) (.agg #[.int .i64 2, .slice (some ⟨w.heap.size + 1 + 1, 0, none⟩) 2 2, .slice (some ⟨w.heap.size + 1 + 1 + 1, 0, none⟩) 2 2, .slice (some ⟨w.heap.size + 1 + 1 + 1 + 1 + 1, 0, none⟩) 2 2]) exC := by
 obtain ⟨_, ha, _⟩ := allocs (wkBlocks w.heap.size) w
 refine wk_rd (wkW w) w.heap.size _ _ (fun i o _ h => ha i o h) ?_
 refine rd_lit1 (ha 5 _ rfl) rfl (by simp) fun i hi => ?_
 match i, hi with
 | 0, _ => exact ⟨_, rfl, _, rfl, rd_int1 (ha 4 _ rfl)⟩
 | 1, _ => exact ⟨_, rfl, _, rfl, Rd.nil⟩
/-- Behind the first call the count is kept, and the theory's last field is written anew. -/
def wkW2 (w w2 : World) (q u : Int) : World :=
 (((w2.alloc (.cells #[.int .i64 q, .int .i64 u] 62)).alloc (.cells #[.slice none 0 0, .slice none 0 0] 26)).setCell ⟨w.heap.size + 1 + 1 + 1 + 1 + 1 + 1, 3, none⟩ (.slice (some ⟨w2.heap.size + 1, 0, none⟩) 2 2))
theorem wkW2_heap (w w2 : World) (q u : Int) (hb : Below (wkW w).heap.size (wkW w) w2) : (∀ k, k < w2.heap.size → k ≠ w.heap.size + 6 → (wkW2 w w2 q u).heap[k]? = w2.heap[k]?) ∧ (wkW2 w w2 q u).heap[w2.heap.size]? = some (.cells #[.int .i64 q, .int .i64 u] 62 (0, 0)) ∧ (wkW2 w w2 q u).heap[w2.heap.size + 1]? = some (.cells #[.slice none 0 0, .slice none 0 0] 26 (0, 0)) ∧ (wkW2 w w2 q u).heap.size = w2.heap.size + 2 := by
 obtain ⟨hs, _, _⟩ := allocs (wkBlocks w.heap.size) w
 have hs2 : (wkW w).heap.size = w.heap.size + 7 := hs
 have hle := hb.size
 unfold wkW2
 refine ⟨fun k hk hne => ?_, ?_, ?_, ?_⟩
 ·rw [heap_setCell_other _ _ k _ (by simpa using hne), heap_alloc_old _ _ (by simp; omega), heap_alloc_old _ _ hk]
 ·rw [heap_setCell_other _ _ _ _ (by dsimp only; omega), heap_alloc_old _ _ (by simp), heap_alloc_new]
 ·rw [heap_setCell_other _ _ _ _ (by dsimp only; omega)]
  have : w2.heap.size + 1 = (w2.alloc (.cells #[.int .i64 q, .int .i64 u] 62)).heap.size := by simp
  rw [this, heap_alloc_new]
 ·simp
theorem wkD_rd (w w2 : World) (q u : Int) (hb : Below (wkW w).heap.size (wkW w) w2) : RdTh (wkW2 w w2 q u) (.agg #[.int .i64 2, .slice (some ⟨w.heap.size + 1 + 1, 0, none⟩) 2 2, .slice (some ⟨w.heap.size + 1 + 1 + 1, 0, none⟩) 2 2, .slice (some ⟨w2.heap.size + 1, 0, none⟩) 2 2]) exD := by
 obtain ⟨hs, ha, _⟩ := allocs (wkBlocks w.heap.size) w
 have hs2 : (wkW w).heap.size = w.heap.size + 7 := hs
 have hle := hb.size
 obtain ⟨h1, _, h2, _⟩ := wkW2_heap w w2 q u hb
 refine wk_rd (wkW2 w w2 q u) w.heap.size _ _ (fun i o hi h => ?_) ?_
 ·rw [h1 _ (by omega) (by omega), hb.block _ (by omega)]
  exact ha i o h
 ·refine rd_lit1 h2 rfl (by simp) fun i hi => ?_
  match i, hi with
  | 0, _ => exact ⟨_, rfl, _, rfl, Rd.nil⟩
  | 1, _ => exact ⟨_, rfl, _, rfl, Rd.nil⟩

set_option maxHeartbeats 1600000 in
theorem works_any (w : World) : Calls Try.prog 41 #[] w (Ret fun v w' => v = .bool true ∧ Below w.heap.size w w') := by
 have hsA := hid (allocs (wkBlocks w.heap.size) w)
 have HcA := hid (fcounted_any (wkW w) _ _ exC [] (wkC_rd w) Rd.nil)
 have HcB := hid (fun w2 q u hb => frunTop_any (wkW2 w w2 q u) _ _ exD [] (wkD_rd w w2 q u hb) Rd.nil)
 have HeA := hid (givenErr_ok.2 ⟨exC_wf, (by decide : risB [] exC.lits = true)⟩)
 have HeB := hid (givenErr_ok.2 ⟨exD_wf, (by decide : risB [] exD.lits = true)⟩)
 refine post_gen fun Q HQ => ?_
 go_enter Try.func41, Try.ntmps41
 go_wp2_with fail
 refine HcA.out.mono ?_
 rintro e w2 ⟨_, rfl, v, q, u, rfl, h1, _, hb2⟩
 obtain ⟨o1, hq, _⟩ := h1 HeA.out
 rw [HeA.out]
 clear h1
 rw [exC_solve] at o1 hq
 have hq : q = 4 := hq
 subst hq
 obtain ⟨g, cap, rfl, hg, hg2, hc⟩ := own_all o1 (by decide)
 have c0 := hc 0 _ rfl; have c1 := hc 1 _ rfl
 clear hc o1
 have hbox : w2.heap[w.heap.size + 1 + 1 + 1 + 1 + 1 + 1]? = some (.cells #[.int .i64 2, .slice (some ⟨w.heap.size + 1 + 1, 0, none⟩) 2 2, .slice (some ⟨w.heap.size + 1 + 1 + 1, 0, none⟩) 2 2, .slice (some ⟨w.heap.size + 1 + 1 + 1 + 1 + 1, 0, none⟩) 2 2] 25 (0, 0)) := by
  rw [hb2.block _ (by have := hsA.out.1; show _ < ((wkBlocks w.heap.size).foldl World.alloc w).heap.size; rw [this]; show _ < w.heap.size + 7; omega)]
  exact hsA.out.2.1 6 _ rfl
 have hs2 : w.heap.size + 7 ≤ w2.heap.size := by have h1 := hsA.out.1; have h2 := hb2.size; rw [show (wkW w).heap.size = w.heap.size + 7 from h1] at h2; exact h2
 have hs3 : w.heap.size + 7 ≤ g := by have h1 := hsA.out.1; rw [show (wkW w).heap.size = w.heap.size + 7 from h1] at hg; exact hg
 have hbo : ∀ o o' : Obj, ((w2.alloc o).alloc o').heap[w.heap.size + 1 + 1 + 1 + 1 + 1 + 1]? = _ := fun o o' => (heap_alloc_old _ o' (by simp; omega)).trans ((heap_alloc_old w2 o (by omega)).trans hbox)
 have s3 : ∀ o o' : Obj, ((w2.alloc o).alloc o').cell? ⟨w.heap.size + 1 + 1 + 1 + 1 + 1 + 1, 3, none⟩ = some (.slice (some ⟨w.heap.size + 1 + 1 + 1 + 1 + 1, 0, none⟩) 2 2) := fun o o' => cell_of_row _ _ 3 _ _ _ (hbo o o')
 have sf : ∀ o o' : Obj, ((w2.alloc o).alloc o').frozen? ⟨w.heap.size + 1 + 1 + 1 + 1 + 1 + 1, 3, none⟩ = false := fun o o' => frozen_of_row _ _ 3 _ _ (hbo o o')
 have hbs : ∀ (o o' : Obj) (u : Value), (((w2.alloc o).alloc o').setCell ⟨w.heap.size + 1 + 1 + 1 + 1 + 1 + 1, 3, none⟩ u).heap[w.heap.size + 1 + 1 + 1 + 1 + 1 + 1]? = some (.cells #[.int .i64 2, .slice (some ⟨w.heap.size + 1 + 1, 0, none⟩) 2 2, .slice (some ⟨w.heap.size + 1 + 1 + 1, 0, none⟩) 2 2, u] 25 (0, 0)) := fun o o' u => by
  rw [heap_setCell_same _ _ 3 _ _ _ (hbo o o')]; rfl
 have t0 : ∀ (o o' : Obj) (u : Value), (((w2.alloc o).alloc o').setCell ⟨w.heap.size + 1 + 1 + 1 + 1 + 1 + 1, 3, none⟩ u).cell? ⟨w.heap.size + 1 + 1 + 1 + 1 + 1 + 1, 0, none⟩ = some (.int .i64 2) := fun o o' u => cell_of_row _ _ 0 _ _ _ (hbs o o' u)
 have t1 : ∀ (o o' : Obj) (u : Value), (((w2.alloc o).alloc o').setCell ⟨w.heap.size + 1 + 1 + 1 + 1 + 1 + 1, 3, none⟩ u).cell? ⟨w.heap.size + 1 + 1 + 1 + 1 + 1 + 1, 1, none⟩ = some (.slice (some ⟨w.heap.size + 1 + 1, 0, none⟩) 2 2) := fun o o' u => cell_of_row _ _ 1 _ _ _ (hbs o o' u)
 have t2 : ∀ (o o' : Obj) (u : Value), (((w2.alloc o).alloc o').setCell ⟨w.heap.size + 1 + 1 + 1 + 1 + 1 + 1, 3, none⟩ u).cell? ⟨w.heap.size + 1 + 1 + 1 + 1 + 1 + 1, 2, none⟩ = some (.slice (some ⟨w.heap.size + 1 + 1 + 1, 0, none⟩) 2 2) := fun o o' u => cell_of_row _ _ 2 _ _ _ (hbs o o' u)
 have t3 : ∀ (o o' : Obj) (u : Value), (((w2.alloc o).alloc o').setCell ⟨w.heap.size + 1 + 1 + 1 + 1 + 1 + 1, 3, none⟩ u).cell? ⟨w.heap.size + 1 + 1 + 1 + 1 + 1 + 1, 3, none⟩ = some u := fun o o' u => cell_of_row _ _ 3 _ _ _ (hbs o o' u)
 clear hbo hbs
 have Hb2 := hid hb2
 have Hg := hid (And.intro hg hg2)
 clear hbox hg hg2 hb2
 have hcb := HcB.out w2 4 u Hb2.out
 unfold FRunPost at hcb
 rw [HeB.out] at hcb
 have HcB2 := hid hcb
 clear hcb HcB
 go_wp2_with fail
 refine HcB2.out.mono ?_
 rintro e w3 ⟨_, rfl, v, rfl, h1, _, hb3⟩
 have o1 := h1 trivial
 clear h1 s3 sf t0 t1 t2 t3 HcB2
 rw [exD_solve] at o1
 obtain ⟨gn, capn, rfl, hgn, hgn2, hc⟩ := own_all o1 (by decide)
 have n0 := hc 0 _ rfl; have n1 := hc 1 _ rfl
 obtain ⟨hk, hcnt, _, hz⟩ := wkW2_heap w w2 4 u Hb2.out
 have hm : ∀ i, w3.cell? ⟨g, i, none⟩ = w2.cell? ⟨g, i, none⟩ := fun i => by
  refine World.cell?_of_block ?_
  show w3.heap[g]? = w2.heap[g]?
  rw [hb3.block g (by rw [hz]; have := Hg.out.2; omega)]
  exact hk g Hg.out.2 (by have := Hg.out.1; omega)
 rw [← hm] at c0 c1
 have q0 : w3.cell? ⟨w2.heap.size, 0, none⟩ = some (.int .i64 4) := cell_of_row _ _ 0 _ _ _ ((hb3.block _ (by rw [hz]; omega)).trans hcnt)
 have hfin : Below w.heap.size w w3 := by
  have h1 : Below w.heap.size w w2 := ext_trans (allocs (wkBlocks w.heap.size) w).2.2 Hb2.out
  have h2 : Below w.heap.size w (wkW2 w w2 4 u) := ((h1.alloc (by omega) _).alloc (by simp; omega) _).setCell (by show w.heap.size ≤ w.heap.size + 1 + 1 + 1 + 1 + 1 + 1; omega) _
  exact ext_trans h2 hb3
 clear hk hz hm hc o1 hb3 hcnt
 have Hnum := hid num16_any
 go_wp2_with (go_at_call 39; refine (Hnum.out _ _).mono ?_; rintro e w' ⟨_, rfl, rfl, hw9⟩; rw [hw9]; clear hw9 w')
 go_ret
 exact Fin HQ ⟨rfl, hfin⟩
end Go.Proofs.Lx

namespace Go.Proofs.Lx
open Go Go.RowKit Go.Proofs.Tj
set_option linter.unusedSimpArgs false
set_option linter.unusedVariables false
set_option maxRecDepth 100000 in
set_option maxHeartbeats 3200000 in
theorem lawAsks_any (w : World) (V va vb : Value) (lit tag : Int) (T : Th) (a b : List Int) (hT : RdTh w V T) (ha : RdI w va a) (hb : RdI w vb b) (wl : (Lit.int .i64 lit).wf = true) (wt : (Lit.int .i64 tag).wf = true) :
  Calls Try.prog 16 #[V, va, vb, .int .i64 lit, .int .i64 tag] w (Ret fun v w' => v = .bool true ∧ Below w.heap.size w w') := by
 have HT := hid hT
 have Ha := hid ha
 have Hb := hid hb
 obtain ⟨vF, vR, vB, rfl, hF, hR, hB⟩ := hT
 obtain ⟨W1, HW1⟩ : ∃ W1, Hid (W1 = w.alloc (.cells #[.int .i64 T.lits, vF, vR, vB] 25)) := ⟨_, hid rfl⟩
 have hb1 : Below w.heap.size w W1 := by rw [HW1.out]; exact ext_alloc _ _
 have Hbox : Hid (∀ W, Below W1.heap.size W1 W → W.cell? ⟨w.heap.size, 0, none⟩ = some (.int .i64 T.lits) ∧ W.cell? ⟨w.heap.size, 1, none⟩ = some vF ∧ W.cell? ⟨w.heap.size, 2, none⟩ = some vR ∧ W.cell? ⟨w.heap.size, 3, none⟩ = some vB) := hid fun W h => by rw [HW1.out] at h; exact box4 h
 have Hrd : Hid (∀ W, Below W1.heap.size W1 W → RdTh W (.agg #[.int .i64 T.lits, vF, vR, vB]) T ∧ RdI W va a ∧ RdI W vb b) := hid fun W h => ⟨HT.out.ext (ext_trans hb1 h), Ha.out.ext (scR_mono _) (ext_trans hb1 h), Hb.out.ext (scR_mono _) (ext_trans hb1 h)⟩
 have Hf1 : Hid (∀ W, Below W1.heap.size W1 W → Calls Try.prog 46 #[.agg #[.int .i64 T.lits, vF, vR, vB], va, .int .i64 lit, .int .i64 tag] W (Ret fun r w' => r = .tuple #[.bool (holdB T a lit tag), .int .i64 (holdErr T a lit tag)] ∧ Below W.heap.size W w')) := hid fun W h => fholds_any W _ _ T a lit tag (Hrd.out W h).1 (Hrd.out W h).2.1
 have Hf2 : Hid (∀ W, Below W1.heap.size W1 W → Calls Try.prog 47 #[.agg #[.int .i64 T.lits, vF, vR, vB], va, .int .i64 lit, .int .i64 tag] W (Ret fun r w' => r = .tuple #[.bool (holdB T a lit tag), .int .i64 (holdErr T a lit tag)] ∧ Below W.heap.size W w')) := hid fun W h => rholds_any W _ _ T a lit tag (Hrd.out W h).1 (Hrd.out W h).2.1
 have Hf3 : Hid (∀ W, Below W1.heap.size W1 W → Calls Try.prog 48 #[.agg #[.int .i64 T.lits, vF, vR, vB], va, .int .i64 tag] W (Ret (IntsRd W (setL T a tag) (tagErr T a tag)))) := hid fun W h => (fset_any W _ _ T a tag (Hrd.out W h).1 (Hrd.out W h).2.1).mono fun e w' h => h.mono fun v w' h => h.rd setL_le
 have Hf4 : Hid (∀ W, Below W1.heap.size W1 W → Calls Try.prog 49 #[.agg #[.int .i64 T.lits, vF, vR, vB], va, .int .i64 tag] W (Ret (IntsRd W (setL T a tag) (tagErr T a tag)))) := hid fun W h => (rset_any W _ _ T a tag (Hrd.out W h).1 (Hrd.out W h).2.1).mono fun e w' h => h.mono fun v w' h => h.rd setL_le
 have Hf5 : Hid (∀ W, Below W1.heap.size W1 W → Calls Try.prog 50 #[.agg #[.int .i64 T.lits, vF, vR, vB], va] W (Ret (IntsRd W (undL T a) (givenErr T a)))) := hid fun W h => (fund_any W _ _ T a (Hrd.out W h).1 (Hrd.out W h).2.1).mono fun e w' h => h.mono fun v w' h => h.rd undL_le
 have Hf6 : Hid (∀ W, Below W1.heap.size W1 W → Calls Try.prog 51 #[.agg #[.int .i64 T.lits, vF, vR, vB], va] W (Ret (IntsRd W (undL T a) (givenErr T a)))) := hid fun W h => (rund_any W _ _ T a (Hrd.out W h).1 (Hrd.out W h).2.1).mono fun e w' h => h.mono fun v w' h => h.rd undL_le
 have Hf7 : Hid (∀ W, Below W1.heap.size W1 W → Calls Try.prog 52 #[.agg #[.int .i64 T.lits, vF, vR, vB], va, vb] W (Ret (IntsRd W (difL T a b) (difErr T a b)))) := hid fun W h => (fdiffer_any W _ _ _ T a b (Hrd.out W h).1 (Hrd.out W h).2.1 (Hrd.out W h).2.2).mono fun e w' h => h.mono fun v w' h => h.rd difL_le
 have Hf8 : Hid (∀ W, Below W1.heap.size W1 W → Calls Try.prog 53 #[.agg #[.int .i64 T.lits, vF, vR, vB], va, vb] W (Ret (IntsRd W (difL T a b) (difErr T a b)))) := hid fun W h => (rdiffer_any W _ _ _ T a b (Hrd.out W h).1 (Hrd.out W h).2.1 (Hrd.out W h).2.2).mono fun e w' h => h.mono fun v w' h => h.rd difL_le
 have Hnum := hid num16_any
 have Hworks := hid works_any
 have Hb1 := hid hb1
 clear hF hR hB hb ha hb1
 unfold IntsRd at Hf3 Hf4 Hf5 Hf6 Hf7 Hf8
 generalize holdB T a lit tag = y at *
 generalize holdErr T a lit tag = c1 at *
 generalize tagErr T a tag = c2 at *
 generalize givenErr T a = c3 at *
 generalize difErr T a b = c4 at *
 generalize setL T a tag = L2 at *
 generalize undL T a = L3 at *
 generalize difL T a b = L4 at *
 have hyy : (y != y) = false := by simp
 have h1 : (c1 != c1) = false := by simp
 have h2 : (c2 != c2) = false := by simp
 have h3 : (c3 == c3) = true := by simp
 have h4 : (c4 == c4) = true := by simp
 refine post_gen fun Q HQ => ?_
 go_enter Try.func16, Try.ntmps16
 obtain ⟨a0, a1, a2, a3⟩ := Hbox.out W1 (ext_refl W1)
 rw [HW1.out] at a0 a1 a2 a3
 have hc := hid (Hf1.out W1 (ext_refl W1))
 go_wp2_with fail
 rw [← HW1.out]
 refine hc.out.mono ?_
 rintro e w2 ⟨_, rfl, rfl, hb2⟩
 clear hc a0 a1 a2 a3
 obtain ⟨a0, a1, a2, a3⟩ := Hbox.out w2 hb2
 have hc := hid (Hf2.out w2 hb2)
 go_wp2_with fail
 refine hc.out.mono ?_
 rintro e w3 ⟨_, rfl, rfl, hb3⟩
 have hb3 := ext_trans hb2 hb3
 clear hc a0 a1 a2 a3 hb2
 obtain ⟨a0, a1, a2, a3⟩ := Hbox.out w3 hb3
 have hc := hid (Hf3.out w3 hb3)
 go_wp2_with fail
 refine hc.out.mono ?_
 rintro e w4 ⟨_, rfl, xc, rfl, hxc, hb4⟩
 have hb4 := ext_trans hb3 hb4
 have Hxc := hid hxc
 clear hc a0 a1 a2 a3 hb3 hxc
 obtain ⟨a0, a1, a2, a3⟩ := Hbox.out w4 hb4
 have hc := hid (Hf4.out w4 hb4)
 go_wp2_with fail
 refine hc.out.mono ?_
 rintro e w5 ⟨_, rfl, xd, rfl, hxd, hb45⟩
 have hb5 := ext_trans hb4 hb45
 have hs := hid (sameIz w5 xc xd L2 (Hxc.out.ext (scR_mono _) hb45) hxd)
 clear hc a0 a1 a2 a3 hb4 hxd hb45
 go_wp2_with fail
 refine (Hnum.out c1 w5).mono ?_
 rintro e w6 ⟨_, rfl, rfl, rfl⟩
 go_wp2_with fail
 refine hs.out.mono ?_
 rintro e w7 ⟨_, rfl, rfl, hb7⟩
 have hb7 := ext_trans hb5 hb7
 clear hs hb5
 go_wp2_with fail
 refine (Hnum.out c2 w7).mono ?_
 rintro e w8 ⟨_, rfl, rfl, rfl⟩
 obtain ⟨a0, a1, a2, a3⟩ := Hbox.out w8 hb7
 have hc := hid (Hf5.out w8 hb7)
 go_wp2_with fail
 refine hc.out.mono ?_
 rintro e w9 ⟨_, rfl, xe, rfl, hxe, hb9⟩
 have hb9 := ext_trans hb7 hb9
 have Hxe := hid hxe
 clear hc a0 a1 a2 a3 hb7 hxe
 obtain ⟨a0, a1, a2, a3⟩ := Hbox.out w9 hb9
 have hc := hid (Hf6.out w9 hb9)
 go_wp2_with fail
 refine hc.out.mono ?_
 rintro e w10 ⟨_, rfl, xf, rfl, hxf, hb910⟩
 have hb10 := ext_trans hb9 hb910
 have Hxe2 := hid (Hxe.out.ext (scR_mono _) hb910)
 have Hxf := hid hxf
 clear hc a0 a1 a2 a3 hb9 hxf hb910
 obtain ⟨a0, a1, a2, a3⟩ := Hbox.out w10 hb10
 have hc := hid (Hf7.out w10 hb10)
 go_wp2_with fail
 refine hc.out.mono ?_
 rintro e w11 ⟨_, rfl, xg, rfl, hxg, hb1011⟩
 have hb11 := ext_trans hb10 hb1011
 have Hxe3 := hid (Hxe2.out.ext (scR_mono _) hb1011)
 have Hxf3 := hid (Hxf.out.ext (scR_mono _) hb1011)
 have Hxg := hid hxg
 clear hc a0 a1 a2 a3 hb10 hxg hb1011
 obtain ⟨a0, a1, a2, a3⟩ := Hbox.out w11 hb11
 have hc := hid (Hf8.out w11 hb11)
 go_wp2_with fail
 refine hc.out.mono ?_
 rintro e w12 ⟨_, rfl, xh, rfl, hxh, hb1112⟩
 have hb12 := ext_trans hb11 hb1112
 have hs := hid (sameIz w12 xe xf L3 (Hxe3.out.ext (scR_mono _) hb1112) (Hxf3.out.ext (scR_mono _) hb1112))
 have Hxg2 := hid (Hxg.out.ext (scR_mono _) hb1112)
 have Hxh := hid hxh
 clear hc a0 a1 a2 a3 hb11 hxh hb1112
 go_wp2_with fail
 refine hs.out.mono ?_
 rintro e w13 ⟨_, rfl, rfl, hb1213⟩
 have hb13 := ext_trans hb12 hb1213
 have hs2 := hid (sameIz w13 xg xh L4 (Hxg2.out.ext (scR_mono _) hb1213) (Hxh.out.ext (scR_mono _) hb1213))
 clear hs hb12 hb1213
 go_wp2_with fail
 refine (Hnum.out c3 w13).mono ?_
 rintro e w14 ⟨_, rfl, rfl, rfl⟩
 go_wp2_with fail
 refine hs2.out.mono ?_
 rintro e w15 ⟨_, rfl, rfl, hb15⟩
 have hb15 := ext_trans hb13 hb15
 clear hs2 hb13
 go_wp2_with fail
 refine (Hnum.out c4 w15).mono ?_
 rintro e w16 ⟨_, rfl, rfl, rfl⟩
 go_wp2_with fail
 refine (Hworks.out w16).mono ?_
 rintro e w17 ⟨_, rfl, rfl, hb17⟩
 have hb17 := ext_trans hb15 hb17
 go_wp2_with fail
 go_ret
 exact Fin HQ ⟨rfl, ext_trans Hb1.out hb17⟩
end Go.Proofs.Lx

namespace Go.Proofs.Lx
open Go Go.RowKit Go.ChangeShapes Go.WideShapes Go.ChangeAt Go.Joins Go.Deep
set_option linter.unusedSimpArgs false
set_option linter.unusedVariables false

instance : Inhabited { y : Nat // y < 256 } := ⟨⟨0, by decide⟩⟩
section
variable {H : Type} {enc : TypeId × Value → H} {P : Program} {w : World} {base : Nat} {held : Bool}
/-- Each part is within the form's reach. -/
def Fits (P : Program) (t : TypeId) (d : DataW H) : Prop := ∀ n ∈ d.weights P t, n ≤ reachBytes
theorem weightsAll_mem {e : TypeId} {d : DataW H} : ∀ {ds : List (DataW H)}, d ∈ ds → ∀ n ∈ d.weights P e, n ∈ DataW.weightsAll P e ds
 | [], h => by simp at h
 | x :: ds, h => fun n hn => by
  rw [DataW.weightsAll, List.mem_append]
  rcases List.mem_cons.1 h with rfl | h
  ·exact .inl hn
  ·exact .inr (weightsAll_mem h n hn)
theorem Fits.elems {t e : TypeId} {es sp : List (DataW H)} (ht : P.underlying t = some (.slice e)) (h : Fits P t (.slice es sp)) :
  (es.length + sp.length) * P.bytesOf e ≤ reachBytes ∧ ∀ d ∈ es, Fits P e d := by
 have hw : (DataW.slice es sp).weights P t = (es.length + sp.length) * P.bytesOf e :: (DataW.weightsAll P e es ++ DataW.weightsAll P e sp) := by simp [DataW.weights, ht]
 unfold Fits at h
 rw [hw] at h
 exact ⟨h _ List.mem_cons_self, fun d hd n hn => h n (List.mem_cons_of_mem _ (List.mem_append_left _ (weightsAll_mem hd n hn)))⟩
theorem each_mem : ∀ {ts : List TypeId} {ds : List (DataW H)} {j : Nat} {t : TypeId} {d : DataW H}, ts[j]? = some t → ds[j]? = some d → ∀ n ∈ d.weights P t, n ∈ DataW.weightsEach P ts ds
 | [], _, _, _, _, h, _ => by simp at h
 | _ :: _, [], _, _, _, _, h => by simp at h
 | t0 :: ts, d0 :: ds, j, t, d, ht, hd => fun n hn => by
  rw [DataW.weightsEach, List.mem_append]
  match j, ht, hd with
  | 0, ht, hd =>
   simp at ht hd; subst ht; subst hd
   exact .inl hn
  | j + 1, ht, hd => exact .inr (each_mem (j := j) (by simpa using ht) (by simpa using hd) n hn)
theorem Fits.part {t u : TypeId} {fs : Array Field} {ps : List (DataW H)} {d : DataW H} (ht : P.underlying t = some (.struct fs)) (h : Fits P t (.agg ps)) (j : Nat) (hj : (fs.toList.map (·.type))[j]? = some u) (hd : ps[j]? = some d) : Fits P u d := by
 have hw : (DataW.agg ps).weights P t = DataW.weightsEach P (fs.toList.map (·.type)) ps := by simp [DataW.weights, ht]
 unfold Fits at h
 rw [hw] at h
 exact fun n hn => h n (each_mem hj hd n hn)
theorem Fits.arg {ts : List TypeId} {ds : List (DataW H)} (h : (DataW.weightsEach P ts ds).all (· ≤ reachBytes) = true) (j : Nat) {t : TypeId} {d : DataW H} (ht : ts[j]? = some t) (hd : ds[j]? = some d) : Fits P t d := fun n hn => by
 have := List.all_eq_true.1 h n (each_mem ht hd n hn)
 simpa using this

/-- A slice that reads, as a list. -/
theorem rd_trod {α : Type} [Inhabited α] {sz : Nat} {R : World → α → List Value → Prop} {t e : TypeId} {v : Value} {fuel : Nat} {x : DataW H × List MemPlace} (ht : P.underlying t = some (.slice e)) (hc : P.cellsOf e = sz) (hby : 1 ≤ P.bytesOf e)
  (elem : ∀ n cs (y : DataW H × List MemPlace), cs.length = sz → DataW.trod enc P w base (fun _ => true) held n e cs = some y → Fits P e y.1 → ∃ a : α, R w a cs)
  (h : DataW.trod enc P w base (fun _ => true) held fuel t [v] = some x) (hf : Fits P t x.1) : ∃ ys : List α, Rd sz R w v ys := by
 rcases open_slice ht h with ⟨hcs, hx⟩ | ⟨a, len, cap, m, n, D, Pl, hcs, hb, hl, hm, hmm, rfl, hel⟩
 ·simp only [List.cons.injEq, and_true] at hcs
  subst hcs
  exact ⟨[], Rd.nil⟩
 ·simp only [List.cons.injEq, and_true] at hcs
  subst hcs
  simp only [if_true] at hmm
  subst hmm
  obtain ⟨h1, h2⟩ := hf.elems ht
  have hlen : len ≤ 140737488355328 := by
   simp only [List.length_map, List.length_range, reachBytes] at h1
   have : len * 1 ≤ (len + (m - len)) * P.bytesOf e := Nat.mul_le_mul (by omega) hby
   omega
  obtain ⟨f, hfam⟩ := choose_lt (α := α) (n := len) (p := fun i y => ∃ cs', cs'.length = sz ∧ R w y cs' ∧ ∀ j, j < sz → w.cell? ((a.add (i * sz)).add j) = cs'[j]?) (fun i hi => by
   obtain ⟨cs', c1, c2⟩ := hel i (by omega)
   obtain ⟨_, c3, c4⟩ := World.cells?_some c1
   rw [hc] at c3 c4
   obtain ⟨y, hy⟩ := elem _ _ _ c3 c2 (h2 _ (List.mem_map.2 ⟨i, List.mem_range.2 hi, rfl⟩))
   exact ⟨y, cs', c3, hy, c4⟩)
  refine ⟨(List.range len).map f, some a, m, by simp, by simp; omega, by simp; omega, fun i hi => ?_⟩
  simp only [List.length_map, List.length_range] at hi
  obtain ⟨cs', c1, c2, c3⟩ := hfam i hi
  refine ⟨a, cs', rfl, by simpa using c2, c1, fun j u hu => ?_⟩
  have hj : j < sz := by rw [← c1]; exact (List.getElem?_eq_some_iff.1 hu).1
  rw [← add_add, c3 j hj, hu]
theorem rd_ints {t e : TypeId} {k : IntKind} {v : Value} {fuel : Nat} {x : DataW H × List MemPlace} (ht : P.underlying t = some (.slice e)) (he : P.underlying e = some (.int k)) (hc : P.cellsOf e = 1) (hby : 1 ≤ P.bytesOf e)
  (h : DataW.trod enc P w base (fun _ => true) held fuel t [v] = some x) (hf : Fits P t x.1) : ∃ ys : List Int, Rd 1 (scR (Value.int k)) w v ys := by
 refine rd_trod ht hc hby (fun n cs y _ hy _ => ?_) h hf
 obtain ⟨z, rfl, _⟩ := DataW.trod_int he hy
 exact ⟨z, rfl⟩
theorem rd_bytes {t e : TypeId} {v : Value} {fuel : Nat} {x : DataW H × List MemPlace} (ht : P.underlying t = some (.slice e)) (he : P.underlying e = some (.int .u8)) (hc : P.cellsOf e = 1) (hby : 1 ≤ P.bytesOf e)
  (h : DataW.trod enc P w base (fun _ => true) held fuel t [v] = some x) (hf : Fits P t x.1) : ∃ ys : List Nat, Rd 1 (scR fun x : Nat => Value.int .u8 (x : Int)) w v ys ∧ ∀ y ∈ ys, y < 256 := by
 obtain ⟨ys, hys⟩ := rd_trod (α := { y : Nat // y < 256 }) (R := scR fun x : { y : Nat // y < 256 } => Value.int .u8 (x.val : Int)) ht hc hby (fun n cs y _ hy _ => by
  obtain ⟨z, rfl, _, hw⟩ := DataW.trod_int he hy
  have hz : 0 ≤ z ∧ z ≤ 255 := by simpa [Lit.wf, IntKind.min, IntKind.max, IntKind.signed, IntKind.bits] using hw
  refine ⟨⟨z.toNat, by omega⟩, ?_⟩
  show [Value.int .u8 z] = [Value.int .u8 ((z.toNat : Nat) : Int)]
  rw [show ((z.toNat : Nat) : Int) = z by omega]) h hf
 refine ⟨ys.map (·.val), ?_, by simp; intro a ha h; exact ha⟩
 obtain ⟨A, c, rfl, h1, h2, h3⟩ := hys
 refine ⟨A, c, by simp, by simpa using h1, by simpa using h2, fun i hi => ?_⟩
 obtain ⟨ad, cs, e1, e2, e3, e4⟩ := h3 i (by simpa using hi)
 exact ⟨ad, cs, e1, by simpa [scR] using e2, e3, e4⟩
theorem rd_rows {t e q : TypeId} {k : IntKind} {v : Value} {fuel : Nat} {x : DataW H × List MemPlace} (ht : P.underlying t = some (.slice e)) (he : P.underlying e = some (.slice q)) (hq : P.underlying q = some (.int k)) (hc : P.cellsOf e = 1) (hcq : P.cellsOf q = 1) (hby : 1 ≤ P.bytesOf e) (hbq : 1 ≤ P.bytesOf q)
  (h : DataW.trod enc P w base (fun _ => true) held fuel t [v] = some x) (hf : Fits P t x.1) : ∃ ys : List (List Int), Rd 1 (rowR 1 (scR (Value.int k))) w v ys := by
 refine rd_trod ht hc hby (fun n cs y hl hy hfy => ?_) h hf
 match cs, hl with
 | [u], _ =>
  obtain ⟨ys, hys⟩ := rd_ints he hq hcq hbq hy hfy
  exact ⟨ys, u, rfl, hys⟩
theorem rd_rules {t e ti : TypeId} {f0 f1 f2 : Field} {v : Value} {fuel : Nat} {x : DataW H × List MemPlace} (ht : P.underlying t = some (.slice e)) (he : P.underlying e = some (.struct #[f0, f1, f2])) (hc : P.cellsOf e = 3) (hby : 1 ≤ P.bytesOf e)
  (o0 : f0.offset = 0) (o1 : f1.offset = 1) (o2 : f2.offset = 2) (u0 : P.underlying f0.type = some (.int .i64)) (u1 : P.underlying f1.type = some (.int .i64)) (u2 : P.underlying f2.type = some (.slice ti)) (ui : P.underlying ti = some (.int .i64))
  (c0 : P.cellsOf f0.type = 1) (c1 : P.cellsOf f1.type = 1) (c2 : P.cellsOf f2.type = 1) (ci : P.cellsOf ti = 1) (bi : 1 ≤ P.bytesOf ti)
  (h : DataW.trod enc P w base (fun _ => true) held fuel t [v] = some x) (hf : Fits P t x.1) : ∃ ys : List Rule, Rd 3 ruleR w v ys := by
 refine rd_trod ht hc hby (fun n cs y hl hy hfy => ?_) h hf
 match cs, hl with
 | [a, b, c], _ =>
  obtain ⟨y0, y1, y2, n', hy', _, h0, h1, h2⟩ := trod_struct3 he hy
  subst hy'
  rw [o0, c0] at h0; rw [o1, c1] at h1; rw [o2, c2] at h2
  simp at h0 h1 h2
  obtain ⟨z0, e0, _⟩ := DataW.trod_int u0 h0
  obtain ⟨z1, e1, _⟩ := DataW.trod_int u1 h1
  simp at e0 e1
  obtain ⟨ys, hys⟩ := rd_ints u2 ui ci bi h2 (hfy.part he 2 rfl rfl)
  exact ⟨⟨z0, z1, ys⟩, c, by rw [e0, e1], hys⟩
end
end Go.Proofs.Lx
