/- Parts of the proof: Pm, Wb, Wc, Pq, We. Contracts of lexpriorplain's CopyInts, CopyIntLists, CopyRule, CopyRules, CopyTheory. -/
import Derived.Test.YtalhpldbhogadaaU30
import Derived.Test.YtalhpldbhogadaaU5
import Derived.Test.YtalhpldbhogadaaU25
import Derived.Maps.AppendAt
import Derived.WalkMore
import Derived.Test.YtalhpldbhogadaaU26
import Derived.Laws.Rows
import Derived.Test.YtalhpldbhogadaaU27
namespace Go.Proofs.Lx
open Go Go.RowKit
set_option linter.unusedSimpArgs false
set_option linter.unusedVariables false

/-- Within the reach, told by bytes. -/
structure Small (T : Th) : Prop where
 f : T.foes.length * 24 ≤ 140737488355328
 fr : ∀ l ∈ T.foes, l.length * 8 ≤ 140737488355328
 r : T.rules.length * 40 ≤ 140737488355328
 rb : ∀ r ∈ T.rules, r.body.length * 8 ≤ 140737488355328
 b : T.beats.length * 24 ≤ 140737488355328
 br : ∀ l ∈ T.beats, l.length * 8 ≤ 140737488355328

theorem own_ext {w w' : World} {base e size n : Nat} {v : Value} {xs : List Value} (h : w.ownsRow base e size v n xs) (hb : Below w.heap.size w w') : w'.ownsRow base e size v n xs :=
 h.kept (row := none) ⟨hb.os, hb.tape, hb.output, hb.size, fun k hk _ => hb.block k hk⟩ (by cases v.ownBlock <;> simp)
theorem grown_any {w w' : World} (hb : Below w.heap.size w w') (row : Option Nat) : w.grownBy w' row := ⟨hb.os, hb.tape, hb.output, hb.size, fun k hk _ => hb.block k hk⟩
/-- Growth of a row of the call's own leaves what lies below. -/
theorem below_grown {B : Nat} {w wr w' : World} {row : Option Nat} (hb : Below B w wr) (hB : B ≤ wr.heap.size) (hg : wr.grownBy w' row) (hr : ∀ g, row = some g → B ≤ g) : Below B w w' :=
 hb.trans ⟨hg.os, hg.tape, hg.output, hg.size, fun g hgl => hg.block g (by omega) (fun e => by have := hr g e.symm; omega)⟩

set_option maxHeartbeats 800000 in
theorem copyI_any (w : World) (v : Value) (l : List Int) (hv : RdI w v l) (h8 : l.length * 8 ≤ 140737488355328) :
  Calls Try.prog 29 #[v] w (Ret fun r w' => w'.ownsRow w.heap.size 3 1 r l.length (intsV l) ∧ Below w.heap.size w w') := by
 obtain ⟨A, c, rfl, hc, hb, hr⟩ := hv
 obtain ⟨i0, hi, hz0, hz1, hz2⟩ := info_parts infoI
 refine post_gen fun Q HQ => ?_
 generalize hn : l.length = n at *
 have Hn := hid hn
 clear hn
 go_enter Try.func29, Try.ntmps29
 go_wp2
 go_loopw [3, 4] (fun v3 v4 wr => ∃ k : Nat, k ≤ n ∧ v4 = .int .i64 k ∧ wr.ownsRow w.heap.size 3 1 v3 k (intsV (l.take k)) ∧ Below w.heap.size w wr) (fun _ v4 _ => n - (intOf v4).toNat)
 case atStart => exact ⟨0, Nat.zero_le _, rfl, by simpa [intsV] using World.ownsRow_nil _ _ _ _, ext_refl _⟩
 case round =>
  obtain ⟨k, hk, rfl, hown, hbl⟩ := hrel
  by_cases hlt : k < n
  ·have hx : k < l.length := by rw [Hn.out]; exact hlt
   obtain ⟨ad, rfl, hcX⟩ := (hr.ext (scR_mono _) hbl).at1 hx
   have hXk : ∃ x, Hid (l[k] = x) := ⟨_, hid rfl⟩
   obtain ⟨x, HX⟩ := hXk
   rw [HX.out] at hcX
   have Hx := hid hx
   have Hown := hid hown
   have hsz := hbl.size
   clear hown
   go_wp2_with (at_builtin; refine wpList_append_own _ rfl _ _ 26 rfl w.heap.size 3 i0 (.int .i64 0) 1 8 Try.underlying26 hi hz0 hz1 hz2 rfl (by decide) _ k _ rfl (Hown.out.alloc _) ⟨wr.heap.size, 0, none⟩ 1 1 [.int .i64 x] rfl rfl (cell_one_new _ _ _) (fun u hu => by simp at hu; subst hu; rfl) (by unfold maxLen; omega) (by omega) (by simp; omega) ?_; intro v' w3 hown' hgrow3 hnil3)
   go_roundw
   case rel =>
    refine ⟨k + 1, by omega, by go_num, ?_, ?_⟩
    ·rw [List.take_succ_eq_append_getElem Hx.out, HX.out]
     simpa [intsV] using hown'
    ·exact below_grown (hbl.alloc hsz _) (by simp; omega) hgrow3 (fun g e => (Hown.out.lt g e).1)
   case measure => simp [intOf]; omega
  ·have e : k = n := by omega
   subst e
   go_wp2
   go_ret
   refine Fin HQ ⟨?_, hbl⟩
   rw [List.take_of_length_le (by rw [Hn.out]; exact Nat.le_refl _)] at hown
   exact hown

theorem own_form0 {w : World} {base e size n : Nat} {v : Value} {xs : List Value} (h : w.ownsRow base e size v n xs) : ∃ A c, v = .slice A n c := by
 rcases h.2 with ⟨h1, h2⟩ | ⟨g, cap, cur, h1, _⟩
 ·exact ⟨none, 0, by rw [h1, h2]⟩
 ·exact ⟨_, _, h1⟩
/-- Rows of the call's own, apart from the list of them. -/
def KeptRows (base : Nat) (wr : World) (v3 : Value) (vs : List Value) (L : List (List Int)) : Prop :=
 vs.length = L.length ∧ ∀ i (h1 : i < vs.length) (h2 : i < L.length), wr.ownsRow base 3 1 vs[i] L[i].length (intsV L[i]) ∧ (vs[i].ownBlock = none ∨ vs[i].ownBlock ≠ v3.ownBlock)
theorem own_lower {w : World} {base base' e size n : Nat} {v : Value} {xs : List Value} (h : w.ownsRow base e size v n xs) (hb : base' ≤ base) : w.ownsRow base' e size v n xs :=
 ⟨h.1, h.2.imp id fun ⟨g, cap, cur, h1, h2, h3⟩ => ⟨g, cap, cur, h1, Nat.le_trans hb h2, h3⟩⟩
theorem KeptRows.push {wr w1 w2 w3 : World} {base : Nat} {v3 v' : Value} {vs : List Value} {L : List (List Int)} {x : Value} {l : List Int} (h : KeptRows base wr v3 vs L) (hbs : base ≤ wr.heap.size) (hv3 : ∀ g, v3.ownBlock = some g → g < wr.heap.size)
  (hx : w1.ownsRow wr.heap.size 3 1 x l.length (intsV l)) (hb1 : Below wr.heap.size wr w1) (hb2 : Below w1.heap.size w1 w2) (hg : w2.grownBy w3 v3.ownBlock) (hat : v'.ownBlock = v3.ownBlock ∨ v'.ownBlock = some w2.heap.size) : KeptRows base w3 v' (vs ++ [x]) (L ++ [l]) := by
 refine ⟨by simp [h.1], fun i h1 h2 => ?_⟩
 have hle1 := hb1.size
 have hle2 := hb2.size
 by_cases e : i < vs.length
 ·rw [List.getElem_append_left e]
  have e2 : (L ++ [l])[i] = L[i]'(by rw [← h.1]; exact e) := List.getElem_append_left (by rw [← h.1]; exact e)
  rw [e2]
  obtain ⟨k1, k2⟩ := h.2 i e (by rw [← h.1]; exact e)
  refine ⟨((own_ext (own_ext k1 hb1) hb2).kept hg k2), ?_⟩
  cases ho : vs[i].ownBlock with
  | none => exact .inl rfl
  | some g =>
   right
   rcases hat with h6 | h6
   ·rw [h6, ← ho]; exact k2.resolve_left (by rw [ho]; simp)
   ·rw [h6]; intro e3
    have e4 := Option.some.inj e3
    have := (k1.lt g ho).2; omega
 ·obtain rfl : i = vs.length := by simp at h1; omega
  have e2 : (vs ++ [x])[vs.length]'(by simp) = x := by simp
  have e3 : (L ++ [l])[vs.length]'(by simp [h.1]) = l := by simp [h.1]
  rw [e2, e3]
  refine ⟨own_lower ((own_ext hx hb2).kept hg (by
   cases ho : x.ownBlock with
   | none => exact .inl rfl
   | some k => right; intro e4; have := (hx.lt k ho).1; have := hv3 k e4.symm; omega)) hbs, ?_⟩
  cases ho : x.ownBlock with
  | none => exact .inl rfl
  | some k =>
   right; intro e4
   have h5 := hx.lt k ho
   rcases hat with h6 | h6
   ·have := hv3 k (by rw [← h6, ← e4]); omega
   ·rw [h6] at e4; cases e4; omega
theorem own_heap {w w' : World} {base e size n : Nat} {v : Value} {xs : List Value} (h : w.ownsRow base e size v n xs) (hk : ∀ g, base ≤ g → g < w.heap.size → w'.heap[g]? = w.heap[g]?) : w'.ownsRow base e size v n xs := by
 refine ⟨h.1, ?_⟩
 rcases h.2 with h1 | ⟨g, cap, cur, h1, h2, h3, h4⟩
 ·exact .inl h1
 ·exact .inr ⟨g, cap, cur, h1, h2, (hk g h2 (lt_of_block h3)).trans h3, h4⟩
/-- A list of rows, all of the call's own. -/
def OwnLL (base : Nat) (w : World) (v : Value) (L : List (List Int)) : Prop :=
 ∃ vs : List Value, vs.length = L.length ∧ w.ownsRow base 26 1 v L.length vs ∧ ∀ i (h1 : i < vs.length) (h2 : i < L.length), w.ownsRow base 3 1 vs[i] L[i].length (intsV L[i])
theorem OwnLL.keep {base : Nat} {w w' : World} {v : Value} {L : List (List Int)} (h : OwnLL base w v L) (hk : ∀ g, base ≤ g → g < w.heap.size → w'.heap[g]? = w.heap[g]?) : OwnLL base w' v L := by
 obtain ⟨vs, h1, h2, h3⟩ := h
 exact ⟨vs, h1, own_heap h2 hk, fun i a b => own_heap (h3 i a b) hk⟩

theorem own_rows {w : World} {base eS : Nat} {v : Value} {vs : List Value} {L : List (List Int)} (h : w.ownsRow base eS 1 v vs.length vs) (hk : vs.length = L.length) (hl : L.length ≤ 140737488355328)
  (hr : ∀ i (h1 : i < vs.length) (h2 : i < L.length), RdI w vs[i] L[i]) : RdLL w v L := by
 rcases h.2 with ⟨rfl, h0⟩ | ⟨gg, cap, cur, rfl, _, _, hc, _⟩
 ·exact ⟨none, 0, by rw [← hk, h0], by omega, hl, fun i hi => absurd hi (by omega)⟩
 ·refine ⟨_, cap, by rw [hk], by omega, hl, fun i hi => ⟨_, [vs[i]'(by omega)], rfl, ⟨_, rfl, hr i (by omega) hi⟩, rfl, fun j u hu => ?_⟩⟩
  match j, hu with
  | 0, hu =>
   simp at hu; subst hu
   have := h.cells (g := gg) rfl i (vs[i]'(by omega)) (by simp [show i < vs.length by omega])
   rw [Nat.add_zero, Nat.mul_one]; exact this

theorem OwnLL.rd {base : Nat} {w : World} {v : Value} {L : List (List Int)} (h : OwnLL base w v L) (hl : L.length ≤ 140737488355328) (hr : ∀ l ∈ L, l.length ≤ 140737488355328) : RdLL w v L := by
 obtain ⟨vs, h1, h2, h3⟩ := h
 rw [← h1] at h2
 exact own_rows h2 h1 hl fun i a b => own_rdI (h3 i a b) (hr _ (List.getElem_mem b))

set_option maxRecDepth 100000 in
set_option maxHeartbeats 1600000 in
theorem copyLL_any (w : World) (v : Value) (L : List (List Int)) (hv : RdLL w v L) (h24 : L.length * 24 ≤ 140737488355328) (h8 : ∀ l ∈ L, l.length * 8 ≤ 140737488355328) :
  Calls Try.prog 64 #[v] w (Ret fun r w' => OwnLL w.heap.size w' r L ∧ Below w.heap.size w w') := by
 obtain ⟨A, c, rfl, hc, hb, hr⟩ := hv
 obtain ⟨i0, hi, hz0, hz1, hz2⟩ := info_parts infoL
 refine post_gen fun Q HQ => ?_
 have H8 := hid h8
 generalize hn : L.length = n at *
 have Hn := hid hn
 clear hn h8
 go_enter Try.func64, Try.ntmps64
 go_wp2
 go_loopw [3, 4] (fun v3 v4 wr => ∃ (k : Nat) (vs : List Value), k ≤ n ∧ v4 = .int .i64 k ∧ wr.ownsRow w.heap.size 26 1 v3 k vs ∧ Hid (KeptRows w.heap.size wr v3 vs (L.take k)) ∧ Below w.heap.size w wr) (fun _ v4 _ => n - (intOf v4).toNat)
 case atStart => exact ⟨0, [], Nat.zero_le _, rfl, World.ownsRow_nil _ _ _ _, hid ⟨by simp, fun i h => absurd h (by simp)⟩, ext_refl _⟩
 case round =>
  obtain ⟨k, vs, hk, rfl, hown, hkept, hbl⟩ := hrel
  by_cases hlt : k < n
  ·have hx : k < L.length := by rw [Hn.out]; exact hlt
   obtain ⟨ad, B, cB, rfl, hcX, hcB, hbB, hrB⟩ := (hr.ext llR_mono hbl).atRow hx
   have Hcall := hid (copyI_any wr _ L[k] (⟨B, cB, rfl, hcB, hbB, hrB⟩ : RdI wr (.slice B L[k].length cB) L[k]) (H8.out _ (List.getElem_mem hx)))
   have hXk : ∃ x, Hid (L[k] = x) := ⟨_, hid rfl⟩
   obtain ⟨x, HX⟩ := hXk
   rw [HX.out] at hcX hbB Hcall
   have Hx := hid hx
   have Hown := hid hown
   have hsz := hbl.size
   clear hown hrB
   go_wp2_with (first | (go_at_call 29; refine Hcall.out.mono ?_; rintro e w1 ⟨r1, rfl, hr1, hb1⟩; have hs1 := hb1.size; have Hr1 := hid hr1; have Hown1 := hid (own_ext Hown.out hb1); clear hr1; obtain ⟨B1, c1, rfl⟩ := own_form0 Hr1.out) | (at_builtin; refine wpList_append_own_at _ rfl _ _ 22 rfl w.heap.size 26 i0 (.slice none 0 0) 1 24 Try.underlying22 hi hz0 hz1 hz2 rfl (by decide) _ k _ rfl (Hown1.out.alloc _) ⟨w1.heap.size, 0, none⟩ 1 1 [.slice B1 x.length c1] rfl rfl (cell_one_new _ _ _) (fun u hu => by simp at hu; subst hu; rfl) (by unfold maxLen; omega) (by omega) (by simp; omega) ?_; intro v' w3 hown' hgrow3 hnil3 hat3))
   go_roundw
   case rel =>
    refine ⟨k + 1, vs ++ [.slice B1 x.length c1], by omega, by go_num, hown', hid ?_, ?_⟩
    ·rw [List.take_succ_eq_append_getElem Hx.out, HX.out]
     exact hkept.out.push hsz (fun g e => (Hown.out.lt g e).2) Hr1.out hb1 (ext_alloc w1 _) hgrow3 hat3
    ·exact below_grown ((ext_trans hbl hb1).alloc (by omega) _) (by simp; omega) hgrow3 (fun g e => (Hown.out.lt g e).1)
   case measure => simp [intOf]; omega
  ·have e : k = n := by omega
   subst e
   go_wp2
   go_ret
   refine Fin HQ ⟨?_, hbl⟩
   rw [List.take_of_length_le (by rw [Hn.out]; exact Nat.le_refl _)] at hkept
   rw [← Hn.out] at hown
   exact ⟨vs, hkept.out.1, hown, fun i a b => (hkept.out.2 i a b).1⟩
end Go.Proofs.Lx

namespace Go.Proofs.Lx
open Go Go.RowKit Go.Proofs.Tj
set_option linter.unusedSimpArgs false
set_option linter.unusedVariables false
/-- What run answers: the engine, and what it says. -/
def RunRes (w : World) (T : Th) (l : List Int) (v : Value) (w' : World) : Prop := ∃ (G : Gh) (S : Stc) (D : Dyn) (W0 : World) (vT : Value), v = .pointer (some ⟨G.b, 0, none⟩) ∧ FEnd T (l.map Int.toNat) S D ∧ S.n = T.foes.length ∧ FRes T l D ∧ Below w.heap.size w W0 ∧ EngV w' W0 G S T D vT
theorem frun_any (w : World) (V vl : Value) (T : Th) (l : List Int) (hT : RdTh w V T) (hl : RdI w vl l) (hwf : WfTh T) (hr : risB l T.lits = true) :
  Calls Try.prog 71 #[V, vl] w (Ret (RunRes w T l)) := by
 obtain ⟨hfl, el⟩ := facts_nat hwf hr
 have hin := layIn_of hwf hfl
 have h := erun_any w V vl T (fun S D => S = lS3 T (l.map Int.toNat) ∧ D = lD8 T (l.map Int.toNat)) hT (fun w1 V1 hb h1 => (elay_any w1 V1 vl T (l.map Int.toNat) h1 (by rw [← el]; exact hl.ext (scR_mono _) hb) hin).mono fun e w' h => h.mono fun v w' ⟨W0, G, hv, x1, x2, hb, he⟩ =>
  ⟨W0, G, _, _, ⟨rfl, rfl⟩, hv, x1, x2, sok3 hwf hfl, hin.sP, (lay_queued hwf hfl).1, hb, he⟩)
 refine h.mono fun e w' h => h.mono ?_
 rintro v w' ⟨G, S, D, W0, k, ⟨rfl, rfl⟩, hv, h1, h2, hti, hb, vT, he⟩
 have hf : FEnd T (l.map Int.toNat) (lS3 T (l.map Int.toNat)) (iterD (lS3 T (l.map Int.toNat)) (looksD (lD8 T (l.map Int.toNat)) T.foes.length) k) := ⟨rfl, k, rfl, h2, h1⟩
 exact ⟨G, _, _, W0, vT, hv, hf, rfl, fres_of hwf hr hf, hb, he⟩
/-- The cells that are read of it. -/
structure EndAt (w w' : World) (T : Th) (l : List Int) (D : Dyn) (b : Nat) (vM vT : Value) : Prop where
 bel : Below w.heap.size w w'
 c4 : w'.cell? ⟨b, 4, none⟩ = some vM
 c5 : w'.cell? ⟨b, 5, none⟩ = some vT
 c7 : w'.cell? ⟨b, 7, none⟩ = some (.int .i64 D.queued)
 c8 : w'.cell? ⟨b, 8, none⟩ = some (.int .i64 D.upd)
 mo : w'.ownsRow w.heap.size 33 1 vM T.foes.length (marksV (solveM T l))
 tow : w'.ownsRow w.heap.size 112 2 vT D.told.length (toldV D.told)
 bge : w.heap.size ≤ b
theorem RunRes.flat {w w' : World} {T : Th} {l : List Int} {v : Value} (h : RunRes w T l v w') : ∃ b D vM vT, v = .pointer (some ⟨b, 0, none⟩) ∧ EndAt w w' T l D b vM vT ∧ FRes T l D ∧ ∃ S, FEnd T (l.map Int.toNat) S D := by
 obtain ⟨G, S, D, W0, vT, rfl, hf, hn, hres, hb, he⟩ := h
 have h4 := he.hMarks
 have hm : w'.ownsRow W0.heap.size 33 1 (sl (G.g .marks) S.n) S.n (tab S.n fun q => Value.int .u8 (D.marks q : Int)) := he.sp.ok .marks
 rw [hn] at h4 hm
 refine ⟨G.b, D, _, vT, rfl, ⟨ext_trans hb he.sp.old, h4, he.hTold, he.hQueued, he.hUpd, ?_, own_lower he.toldOwn hb.size, Nat.le_trans hb.size he.sp.hb⟩, hres, S, hf⟩
 have e : marksV (solveM T l) = tab T.foes.length fun q => Value.int .u8 (D.marks q : Int) := by
  rw [← hres.mks]; unfold tab marksV; rw [List.map_map]; rfl
 rw [e]
 exact own_lower hm hb.size
theorem rd_row1 {W : World} {g : Nat} {e : TypeId} {v : Value} {x : List Int} (hh : W.heap[g]? = some (.cells #[v] e (0, 0))) (hv : RdI W v x) : RdLL W (.slice (some ⟨g, 0, none⟩) 1 1) [x] := by
 refine rd_lit1 hh rfl (by simp) fun i hi => ?_
 simp at hi; subst hi
 exact ⟨_, rfl, _, rfl, hv⟩
theorem rd_row2 {W : World} {g : Nat} {e : TypeId} {v u : Value} {x y : List Int} (hh : W.heap[g]? = some (.cells #[v, u] e (0, 0))) (hv : RdI W v x) (hu : RdI W u y) : RdLL W (.slice (some ⟨g, 0, none⟩) 2 2) [x, y] := by
 refine rd_lit1 hh rfl (by simp) fun i hi => ?_
 match i, hi with
 | 0, _ => exact ⟨_, rfl, _, rfl, hv⟩
 | 1, _ => exact ⟨_, rfl, _, rfl, hu⟩
end Go.Proofs.Lx

namespace Go.Proofs.Lx
open Go Go.RowKit Go.Proofs.Tj
set_option linter.unusedSimpArgs false
set_option linter.unusedVariables false
theorem results_tct {P : Program} {fn : Func} {t p u : Tmp} {ty : TypeId} (h : fn.results = #[.tmp t, .cell p ty, .tmp u]) (tmps : Array Value) (w : World) (g : Nat) (e : TypeId) (cs : Array Value) (fr : Nat × Nat) (d : TypeDesc)
  (hp : tmps.getD p undef = .pointer (some ⟨g, 0, none⟩)) (hg : w.heap[g]? = some (.cells cs e fr))
  (hu : P.underlying ty = some d) (hd : (match d with | .struct _ | .array _ _ => true | _ => false) = true) (hi : (P.info? ty).map (·.size) = some cs.size) :
  (results fn tmps).run P w = .ok (.tuple #[tmps.getD t undef, .agg cs, tmps.getD u undef]) w := by
 have hp' : tmps[p]?.getD undef = .pointer (some ⟨g, 0, none⟩) := by simpa using hp
 simp [results, h, hp', asAddr, run_loadVar_row w g e ty cs fr d hg hu hd hi]
theorem sizeCnt : (Try.prog.info? 62).map (·.size) = some 2 := by kernel_rfl
theorem cnt_set {w : World} {g : Nat} {e : TypeId} {x y : Value} (h : w.heap[g]? = some (.cells #[x, y] e (0, 0))) (a b : Value) : ((w.setCell ⟨g, 0, none⟩ a).setCell ⟨g, 1, none⟩ b).heap[g]? = some (.cells #[a, b] e (0, 0)) := by
 rw [heap_setCell_same _ _ 1 _ _ _ (heap_setCell_same _ _ 0 _ _ _ h)]; rfl
theorem cnt_far {w : World} {g k : Nat} (h : k ≠ g) (a b : Value) : ((w.setCell ⟨g, 0, none⟩ a).setCell ⟨g, 1, none⟩ b).heap[k]? = w.heap[k]? := by
 rw [heap_setCell_other _ _ k _ (by simpa using h), heap_setCell_other _ _ k _ (by simpa using h)]
theorem cnt_below {w w' : World} {k : Nat} (h : Below w.heap.size w w') (a b : Value) : Below w.heap.size w ((w'.setCell ⟨w.heap.size + k, 0, none⟩ a).setCell ⟨w.heap.size + k, 1, none⟩ b) :=
 (h.setCell (by dsimp only; omega) _).setCell (by dsimp only; omega) _
def CountPost (w : World) (T : Th) (l : List Int) (r : Value) (w' : World) : Prop :=
 ∃ v q u, r = .tuple #[v, .agg #[.int .i64 q, .int .i64 u], .int .i64 (givenErr T l)] ∧ (givenErr T l = 0 → w'.ownsRow w.heap.size 33 1 v (solveM T l).length (marksV (solveM T l)) ∧ q = (totalN (solveM T l) : Int) ∧ ∃ S D, FEnd T (l.map Int.toNat) S D ∧ u = D.upd) ∧ (givenErr T l ≠ 0 → v = .slice none 0 0 ∧ q = 0 ∧ u = 0) ∧ Below w.heap.size w w'
set_option maxHeartbeats 1600000 in
theorem fcounted_any (w : World) (V vl : Value) (T : Th) (l : List Int) (hT : RdTh w V T) (hl : RdI w vl l) :
  Calls Try.prog 37 #[V, vl] w (Ret (CountPost w T l)) := by
 have HT := hid hT
 have Hl := hid hl
 obtain ⟨vF, vR, vB, rfl, hF, hR, hB⟩ := hT
 obtain ⟨AL, cL, rfl, _⟩ := hl
 generalize l.length = nl at *
 have hA := allocs [.cells #[.int .i64 T.lits, vF, vR, vB] 25, .cells #[.int .i64 0, .int .i64 0] 62, .cells #[.slice AL nl cL] 26] w
 obtain ⟨W1, HW1⟩ : ∃ W1, Hid (W1 = ((w.alloc (.cells #[.int .i64 T.lits, vF, vR, vB] 25)).alloc (.cells #[.int .i64 0, .int .i64 0] 62)).alloc (.cells #[.slice AL nl cL] 26)) := ⟨_, hid rfl⟩
 have e1 : [Obj.cells #[.int .i64 T.lits, vF, vR, vB] 25, .cells #[.int .i64 0, .int .i64 0] 62, .cells #[.slice AL nl cL] 26].foldl World.alloc w = W1 := HW1.out.symm
 rw [e1] at hA
 obtain ⟨hsz, hat, hbel⟩ := hA
 have hsz : W1.heap.size = w.heap.size + 3 := hsz
 have e33 : w.heap.size + 3 = w.heap.size + 1 + 1 + 1 := rfl
 have hg := fgiven_any W1 (.agg #[.int .i64 T.lits, vF, vR, vB]) (.slice (some ⟨w.heap.size + 1 + 1, 0, none⟩) 1 1) T [l] (HT.out.ext hbel) (rd_row1 (hat 2 _ rfl) (Hl.out.ext (scR_mono _) hbel))
 rw [givenErrs_one] at hg
 have Hg := hid hg
 have Hrun : Hid (givenErr T l = 0 → ∀ W, Below W1.heap.size W1 W → Calls Try.prog 71 #[.agg #[.int .i64 T.lits, vF, vR, vB], .slice AL nl cL] W (Ret (RunRes W T l))) := hid fun h W hb => frun_any W _ _ T l (HT.out.ext (ext_trans hbel hb)) (Hl.out.ext (scR_mono _) (ext_trans hbel hb)) (givenErr_ok.1 h).1 (givenErr_ok.1 h).2
 have Hbox : Hid (∀ W, Below W1.heap.size W1 W → W.cell? ⟨w.heap.size, 0, none⟩ = some (.int .i64 T.lits) ∧ W.cell? ⟨w.heap.size, 1, none⟩ = some vF ∧ W.cell? ⟨w.heap.size, 2, none⟩ = some vR ∧ W.cell? ⟨w.heap.size, 3, none⟩ = some vB) := hid fun W hb => by
  have h0 : W.heap[w.heap.size]? = some (.cells #[.int .i64 T.lits, vF, vR, vB] 25 (0, 0)) := (hb.block _ (by omega)).trans (hat 0 _ rfl)
  exact ⟨cell_of_row _ _ 0 _ _ _ h0, cell_of_row _ _ 1 _ _ _ h0, cell_of_row _ _ 2 _ _ _ h0, cell_of_row _ _ 3 _ _ _ h0⟩
 have Hcnt : Hid (∀ W, Below W1.heap.size W1 W → W.heap[w.heap.size + 1]? = some (.cells #[.int .i64 0, .int .i64 0] 62 (0, 0))) := hid fun W hb => (hb.block _ (by omega)).trans (hat 1 _ rfl)
 have Hsz := hid hsz
 have Hbel := hid hbel
 clear hF hR hB hg hat hsz hbel e1
 unfold CountPost
 obtain ⟨c, Hc⟩ : ∃ c, Hid (givenErr T l = c) := ⟨_, hid rfl⟩
 rw [Hc.out] at Hg Hrun ⊢
 refine post_gen fun Q HQ => ?_
 go_enter Try.func37, Try.ntmps37
 go_wp2_with fail
 rw [← HW1.out]
 refine Hg.out.mono ?_
 rintro e w2 ⟨_, rfl, rfl, hb2⟩
 have hcn := Hcnt.out w2 hb2
 have f0 := frozen_of_row _ _ 0 _ _ hcn
 have f1 := frozen_of_row _ _ 1 _ _ hcn
 have d0 : w2.cell? ⟨w.heap.size + 1, 0, none⟩ = some (.int .i64 0) := cell_of_row _ _ 0 _ _ _ hcn
 have d1 : w2.cell? ⟨w.heap.size + 1, 1, none⟩ = some (.int .i64 0) := cell_of_row _ _ 1 _ _ _ hcn
 have Hb2 := hid hb2
 by_cases h : c = 0
 ·subst h
  clear hcn f0 f1 d0 d1
  obtain ⟨b0, b1, b2, b3⟩ := Hbox.out w2 hb2
  have hq := hid (Hrun.out rfl w2 hb2)
  clear hb2
  go_wp2_with fail
  refine hq.out.mono ?_
  rintro e w3 ⟨_, rfl, hres⟩
  obtain ⟨b, D, vM, vT, rfl, he, hfr, S, hfe⟩ := hres.flat
  have hb3 := ext_trans Hb2.out he.bel
  have hcn := Hcnt.out w3 hb3
  have f0 := frozen_of_row _ _ 0 _ _ hcn
  have f1 := frozen_of_row _ _ 1 _ _ hcn
  have d0 : w3.cell? ⟨w.heap.size + 1, 0, none⟩ = some (.int .i64 0) := cell_of_row _ _ 0 _ _ _ hcn
  have d1 : w3.cell? ⟨w.heap.size + 1, 1, none⟩ = some (.int .i64 0) := cell_of_row _ _ 1 _ _ _ hcn
  have Hcn := hid hcn
  have Hb3 := hid hb3
  clear hb3 hcn
  have c4 := he.c4
  have c7 := he.c7
  have c8 := he.c8
  have He := hid he
  have Hfr := hid hfr
  have Hfe := hid hfe
  clear hres he hfr hfe hq
  go_wp2_with fail
  go_region
  go_wp2_with fail
  refine bodyPost_ret (results_tct rfl _ _ (w.heap.size + 1) 62 #[.int .i64 D.queued, .int .i64 D.upd] (0, 0) _ rfl ?_ Try.underlying62 rfl sizeCnt) rfl ?_
  ·exact cnt_set (w := w3.drew) Hcn.out _ _
  refine Fin HQ ⟨_, _, _, rfl, fun _ => ⟨?_, Hfr.out.qd, S, D, Hfe.out, rfl⟩, fun k => absurd rfl k, ?_⟩
  ·rw [solve_length]
   refine own_lower (own_heap He.out.mo fun g h1 h2 => ?_) (ext_trans Hbel.out Hb2.out).size
   have := Hb2.out.size
   have := Hsz.out
   exact cnt_far (w := w3.drew) (by omega) _ _
  ·exact cnt_below (ext_trans Hbel.out Hb3.out).drew _ _
 ·have hne : (c != 0) = true := by simp [h]
  have Hne := hid h
  clear h hb2
  go_wp2_with fail
  refine bodyPost_ret (results_tct rfl _ _ (w.heap.size + 1) 62 #[.int .i64 0, .int .i64 0] (0, 0) _ rfl ?_ Try.underlying62 rfl sizeCnt) rfl ?_
  ·exact cnt_set (w := w2) (Hcnt.out w2 Hb2.out) _ _
  refine Fin HQ ⟨_, _, _, rfl, fun k => absurd k Hne.out, fun _ => ⟨rfl, rfl, rfl⟩, ?_⟩
  exact cnt_below (ext_trans Hbel.out Hb2.out) _ _
def FRunPost (w : World) (T : Th) (l : List Int) (r : Value) (w' : World) : Prop :=
 ∃ v, r = .tuple #[v, .int .i64 (givenErr T l)] ∧ (givenErr T l = 0 → w'.ownsRow w.heap.size 33 1 v (solveM T l).length (marksV (solveM T l))) ∧ (givenErr T l ≠ 0 → v = .slice none 0 0) ∧ Below w.heap.size w w'
set_option maxHeartbeats 1600000 in
theorem frunTop_any (w : World) (V vl : Value) (T : Th) (l : List Int) (hT : RdTh w V T) (hl : RdI w vl l) :
  Calls Try.prog 36 #[V, vl] w (Ret (FRunPost w T l)) := by
 have HT := hid hT
 obtain ⟨vF, vR, vB, rfl, hF, hR, hB⟩ := hT
 have hbel := ext_alloc w (.cells #[.int .i64 T.lits, vF, vR, vB] 25)
 have hch := hid (fcounted_any (w.alloc (.cells #[.int .i64 T.lits, vF, vR, vB] 25)) _ vl T l (HT.out.ext hbel) (hl.ext (scR_mono _) hbel))
 clear hF hR hB
 unfold FRunPost
 unfold CountPost at hch
 obtain ⟨c, Hc⟩ : ∃ c, Hid (givenErr T l = c) := ⟨_, hid rfl⟩
 rw [Hc.out] at hch ⊢
 refine post_gen fun Q HQ => ?_
 go_enter Try.func36, Try.ntmps36
 go_wp2_with fail
 refine hch.out.mono ?_
 rintro e w2 ⟨_, rfl, v, q, u, rfl, h1, h2, hb2⟩
 have H1 := hid h1
 have H2 := hid h2
 clear h1 h2
 go_wp2_with fail
 go_ret2
 exact Fin HQ ⟨v, rfl, fun h => own_ext (own_lower (H1.out h).1 hbel.size) (ext_alloc _ _), fun h => (H2.out h).1, ext_trans hbel (ext_trans hb2 (ext_alloc _ _))⟩
theorem num16_any (x : Int) (w : World) : Calls Try.prog 39 #[.int .i64 x] w (Ret fun v w' => v = .int .i64 x ∧ w' = w) := by
 refine post_gen fun Q HQ => ?_
 go_enter Try.func39, Try.ntmps39
 go_wp2
 go_ret
 exact Fin HQ ⟨rfl, rfl⟩
/-- Marks that read as X, and an error. -/
def MkPost (w : World) (X : List Nat) (c : Int) (r : Value) (w' : World) : Prop := ∃ v, r = .tuple #[v, .int .i64 c] ∧ RdMk w' v X ∧ Below w.heap.size w w'
noncomputable def solX (T : Th) (l : List Int) : List Nat := if givenErr T l = 0 then solveM T l else []
theorem FRunPost.marks {w w' : World} {T : Th} {l : List Int} {r : Value} (h : FRunPost w T l r w') : MkPost w (solX T l) (givenErr T l) r w' := by
 obtain ⟨v, rfl, h1, h2, hb⟩ := h
 refine ⟨v, rfl, ?_, hb⟩
 unfold solX
 by_cases hc : givenErr T l = 0
 ·rw [if_pos hc]
  obtain ⟨hwf, hr⟩ := givenErr_ok.1 hc
  exact own_marks (h1 hc) (by rw [solve_length]; have := hwf.fl; have := hwf.l1; omega)
 ·rw [if_neg hc, h2 hc]; exact Rd.nil
theorem solX_le {T : Th} {l : List Int} : (solX T l).length ≤ 4096 := by
 unfold solX
 split
 ·next h => rw [solve_length]; have := (givenErr_ok.1 h).1.fl; have := (givenErr_ok.1 h).1.l1; omega
 ·simp
theorem solve_lt (T : Th) (l : List Int) : ∀ x ∈ solveM T l, x < 256 := it_lt T l _
theorem solX_lt {T : Th} {l : List Int} : ∀ x ∈ solX T l, x < 256 := by
 unfold solX
 split
 ·exact solve_lt T l
 ·intro x hx; cases hx
def CountFlat (w : World) (X : List Nat) (c : Int) (r : Value) (w' : World) : Prop := ∃ v u, r = .tuple #[v, .agg #[.int .i64 (totalN X : Int), .int .i64 u], .int .i64 c] ∧ RdMk w' v X ∧ (c ≠ 0 → u = 0) ∧ Below w.heap.size w w'
theorem CountPost.flat {w w' : World} {T : Th} {l : List Int} {r : Value} (h : CountPost w T l r w') : CountFlat w (solX T l) (givenErr T l) r w' := by
 obtain ⟨v, q, u, rfl, h1, h2, hb⟩ := h
 have hle := @solX_le T l
 unfold solX at *
 by_cases hc : givenErr T l = 0
 ·rw [if_pos hc] at *
  obtain ⟨o, rfl, _⟩ := h1 hc
  exact ⟨v, u, rfl, own_marks o (by omega), fun k => absurd hc k, hb⟩
 ·rw [if_neg hc]
  obtain ⟨rfl, rfl, rfl⟩ := h2 hc
  exact ⟨_, _, rfl, Rd.nil, fun _ => rfl, hb⟩
theorem sameMx (w : World) (v1 v2 : Value) (X : List Nat) (h1 : RdMk w v1 X) (h2 : RdMk w v2 X) :
  Calls Try.prog 23 #[v1, v2] w (Ret fun v w' => v = .bool true ∧ Below w.heap.size w w') :=
 (sameM_any w v1 v2 X X h1 h2).mono fun e w' h => h.mono fun v w' ⟨h1, h2⟩ => ⟨by rw [h1, decide_eq_true rfl], h2⟩
end Go.Proofs.Lx

namespace Go.Proofs.Lx
open Go Go.RowKit Go.Proofs.Tj
set_option linter.unusedSimpArgs false
set_option linter.unusedVariables false
def exC : Th := ⟨2, [[1], [0]], [⟨2, 0, []⟩, ⟨2, 1, []⟩], [[1], []]⟩
def exD : Th := ⟨2, [[1], [0]], [⟨2, 0, []⟩, ⟨2, 1, []⟩], [[], []]⟩
theorem exC_edge {y z : Nat} (h : z ∈ adjN (beatsAt exC) y) : y = 0 ∧ z = 1 := by
 match y with
 | 0 => simpa [adjN, beatsAt, exC] using h
 | 1 => simp [adjN, beatsAt, exC] at h
 | y + 2 => simp [adjN, beatsAt, exC] at h
theorem exD_edge {y z : Nat} (h : z ∈ adjN (beatsAt exD) y) : False := by
 match y with
 | 0 => simp [adjN, beatsAt, exD] at h
 | 1 => simp [adjN, beatsAt, exD] at h
 | y + 2 => simp [adjN, beatsAt, exD] at h
theorem exC_leads {x y : Nat} (h : Leads (adjN (beatsAt exC)) x y) : x = y ∨ x = 0 ∧ y = 1 := by
 induction h with
 | refl => exact .inl rfl
 | step _ hz ih =>
  obtain ⟨rfl, rfl⟩ := exC_edge hz
  omega
theorem exD_leads {x y : Nat} (h : Leads (adjN (beatsAt exD)) x y) : x = y := by
 induction h with
 | refl => rfl
 | step _ hz ih => exact (exD_edge hz).elim
theorem exC_wf : WfTh exC := by
 refine ⟨by decide, by decide, by decide, by decide +kernel, by decide, ?_, by decide +kernel, by decide, by decide +kernel, fun x y _ _ h1 h2 => ?_⟩
 ·exact List.all_eq_true.1 (by decide +kernel)
 ·have := exC_leads h1; have := exC_leads h2; omega
theorem exD_wf : WfTh exD := by
 refine ⟨by decide, by decide, by decide, by decide +kernel, by decide, ?_, by decide +kernel, by decide, by decide +kernel, fun x y _ _ h1 h2 => exD_leads h1⟩
 exact List.all_eq_true.1 (by decide +kernel)
theorem exC_solve : solveM exC [] = [6, 10] := by
 rw [← solve_eq (k := 4) (by decide +kernel) (by decide)]
 decide +kernel
theorem exD_solve : solveM exD [] = [10, 10] := by
 rw [← solve_eq (k := 4) (by decide +kernel) (by decide)]
 decide +kernel
end Go.Proofs.Lx

namespace Go.Proofs.Lx
open Go Go.RowKit Go.Proofs.Tj
set_option linter.unusedSimpArgs false
set_option linter.unusedVariables false
/-- The example's blocks. -/
def wkBlocks (h : Nat) : List Obj :=
 [.cells #[.int .i64 1] 3, .cells #[.int .i64 0] 3,
  .cells #[.slice (some ⟨h, 0, none⟩) 1 1, .slice (some ⟨h + 1, 0, none⟩) 1 1] 26,
  .cells #[.int .i64 2, .int .i64 0, .slice none 0 0, .int .i64 2, .int .i64 1, .slice none 0 0] 37,
  .cells #[.int .i64 1] 3,
  .cells #[.slice (some ⟨h + 1 + 1 + 1 + 1, 0, none⟩) 1 1, .slice none 0 0] 26,
  .cells #[.int .i64 2, .slice (some ⟨h + 1 + 1, 0, none⟩) 2 2, .slice (some ⟨h + 1 + 1 + 1, 0, none⟩) 2 2, .slice (some ⟨h + 1 + 1 + 1 + 1 + 1, 0, none⟩) 2 2] 25]
def wkW (w : World) : World := (wkBlocks w.heap.size).foldl World.alloc w
theorem wk_rd (W : World) (h : Nat) (vB : Value) (X : List (List Int)) (hh : ∀ i o, i < 4 → (wkBlocks h)[i]? = some o → W.heap[h + i]? = some o) (hB : RdLL W vB X) :
  RdTh W (.agg #[.int .i64 2, .slice (some ⟨h + 1 + 1, 0, none⟩) 2 2, .slice (some ⟨h + 1 + 1 + 1, 0, none⟩) 2 2, vB]) ⟨2, [[1], [0]], [⟨2, 0, []⟩, ⟨2, 1, []⟩], X⟩ := by
 have h0 := hh 0 _ (by omega) rfl
 have h1 := hh 1 _ (by omega) rfl
 have h2 := hh 2 _ (by omega) rfl
 have h3 := hh 3 _ (by omega) rfl
 refine ⟨_, _, _, rfl, ?_, ?_, hB⟩
 ·refine rd_lit1 h2 rfl (by simp) fun i hi => ?_
  match i, hi with
  | 0, _ => exact ⟨_, rfl, _, rfl, rd_int1 h0⟩
  | 1, _ => exact ⟨_, rfl, _, rfl, rd_int1 h1⟩
 ·refine rd_lit3 h3 rfl (by simp) fun i hi => ?_
  match i, hi with
  | 0, _ => exact ⟨_, _, _, rfl, rfl, rfl, _, rfl, Rd.nil⟩
  | 1, _ => exact ⟨_, _, _, rfl, rfl, rfl, _, rfl, Rd.nil⟩
theorem wkC_rd (w : World) : RdTh (wkW w) (.agg #[.int .i64 2, .slice (some ⟨w.heap.size + 1 + 1, 0, none⟩) 2 2, .slice (some ⟨w.heap.size + 1 + 1 + 1, 0, none⟩) 2 2, .slice (some ⟨w.heap.size + 1 + 1 + 1 + 1 + 1, 0, none⟩) 2 2]) exC := by
 obtain ⟨_, ha, _⟩ := allocs (wkBlocks w.heap.size) w
 refine wk_rd (wkW w) w.heap.size _ _ (fun i o _ h => ha i o h) ?_
 refine rd_lit1 (ha 5 _ rfl) rfl (by simp) fun i hi => ?_
 match i, hi with
 | 0, _ => exact ⟨_, rfl, _, rfl, rd_int1 (ha 4 _ rfl)⟩
 | 1, _ => exact ⟨_, rfl, _, rfl, Rd.nil⟩
/-- Behind the first call the count is kept, and the theory's last field is written anew. -/
def wkW2 (w w2 : World) (q u : Int) : World :=
 (((w2.alloc (.cells #[.int .i64 q, .int .i64 u] 62)).alloc (.cells #[.slice none 0 0, .slice none 0 0] 26)).setCell ⟨w.heap.size + 1 + 1 + 1 + 1 + 1 + 1, 3, none⟩ (.slice (some ⟨w2.heap.size + 1, 0, none⟩) 2 2))
theorem wkW2_heap (w w2 : World) (q u : Int) (hb : Below (wkW w).heap.size (wkW w) w2) : (∀ k, k < w2.heap.size → k ≠ w.heap.size + 6 → (wkW2 w w2 q u).heap[k]? = w2.heap[k]?) ∧ (wkW2 w w2 q u).heap[w2.heap.size]? = some (.cells #[.int .i64 q, .int .i64 u] 62 (0, 0)) ∧ (wkW2 w w2 q u).heap[w2.heap.size + 1]? = some (.cells #[.slice none 0 0, .slice none 0 0] 26 (0, 0)) ∧ (wkW2 w w2 q u).heap.size = w2.heap.size + 2 := by
 obtain ⟨hs, _, _⟩ := allocs (wkBlocks w.heap.size) w
 have hs2 : (wkW w).heap.size = w.heap.size + 7 := hs
 have hle := hb.size
 unfold wkW2
 refine ⟨fun k hk hne => ?_, ?_, ?_, ?_⟩
 ·rw [heap_setCell_other _ _ k _ (by simpa using hne), heap_alloc_old _ _ (by simp; omega), heap_alloc_old _ _ hk]
 ·rw [heap_setCell_other _ _ _ _ (by dsimp only; omega), heap_alloc_old _ _ (by simp), heap_alloc_new]
 ·rw [heap_setCell_other _ _ _ _ (by dsimp only; omega)]
  have : w2.heap.size + 1 = (w2.alloc (.cells #[.int .i64 q, .int .i64 u] 62)).heap.size := by simp
  rw [this, heap_alloc_new]
 ·simp
theorem wkD_rd (w w2 : World) (q u : Int) (hb : Below (wkW w).heap.size (wkW w) w2) : RdTh (wkW2 w w2 q u) (.agg #[.int .i64 2, .slice (some ⟨w.heap.size + 1 + 1, 0, none⟩) 2 2, .slice (some ⟨w.heap.size + 1 + 1 + 1, 0, none⟩) 2 2, .slice (some ⟨w2.heap.size + 1, 0, none⟩) 2 2]) exD := by
 obtain ⟨hs, ha, _⟩ := allocs (wkBlocks w.heap.size) w
 have hs2 : (wkW w).heap.size = w.heap.size + 7 := hs
 have hle := hb.size
 obtain ⟨h1, _, h2, _⟩ := wkW2_heap w w2 q u hb
 refine wk_rd (wkW2 w w2 q u) w.heap.size _ _ (fun i o hi h => ?_) ?_
 ·rw [h1 _ (by omega) (by omega), hb.block _ (by omega)]
  exact ha i o h
 ·refine rd_lit1 h2 rfl (by simp) fun i hi => ?_
  match i, hi with
  | 0, _ => exact ⟨_, rfl, _, rfl, Rd.nil⟩
  | 1, _ => exact ⟨_, rfl, _, rfl, Rd.nil⟩

set_option maxHeartbeats 1600000 in
theorem works_any (w : World) : Calls Try.prog 41 #[] w (Ret fun v w' => v = .bool true ∧ Below w.heap.size w w') := by
 have hsA := hid (allocs (wkBlocks w.heap.size) w)
 have HcA := hid (fcounted_any (wkW w) _ _ exC [] (wkC_rd w) Rd.nil)
 have HcB := hid (fun w2 q u hb => frunTop_any (wkW2 w w2 q u) _ _ exD [] (wkD_rd w w2 q u hb) Rd.nil)
 have HeA := hid (givenErr_ok.2 ⟨exC_wf, (by decide : risB [] exC.lits = true)⟩)
 have HeB := hid (givenErr_ok.2 ⟨exD_wf, (by decide : risB [] exD.lits = true)⟩)
 refine post_gen fun Q HQ => ?_
 go_enter Try.func41, Try.ntmps41
 go_wp2_with fail
 refine HcA.out.mono ?_
 rintro e w2 ⟨_, rfl, v, q, u, rfl, h1, _, hb2⟩
 obtain ⟨o1, hq, _⟩ := h1 HeA.out
 rw [HeA.out]
 clear h1
 rw [exC_solve] at o1 hq
 have hq : q = 4 := hq
 subst hq
 obtain ⟨g, cap, rfl, hg, hg2, hc⟩ := own_all o1 (by decide)
 have c0 := hc 0 _ rfl; have c1 := hc 1 _ rfl
 clear hc o1
 have hbox : w2.heap[w.heap.size + 1 + 1 + 1 + 1 + 1 + 1]? = some (.cells #[.int .i64 2, .slice (some ⟨w.heap.size + 1 + 1, 0, none⟩) 2 2, .slice (some ⟨w.heap.size + 1 + 1 + 1, 0, none⟩) 2 2, .slice (some ⟨w.heap.size + 1 + 1 + 1 + 1 + 1, 0, none⟩) 2 2] 25 (0, 0)) := by
  rw [hb2.block _ (by have := hsA.out.1; show _ < ((wkBlocks w.heap.size).foldl World.alloc w).heap.size; rw [this]; show _ < w.heap.size + 7; omega)]
  exact hsA.out.2.1 6 _ rfl
 have hs2 : w.heap.size + 7 ≤ w2.heap.size := by have h1 := hsA.out.1; have h2 := hb2.size; rw [show (wkW w).heap.size = w.heap.size + 7 from h1] at h2; exact h2
 have hs3 : w.heap.size + 7 ≤ g := by have h1 := hsA.out.1; rw [show (wkW w).heap.size = w.heap.size + 7 from h1] at hg; exact hg
 have hbo : ∀ o o' : Obj, ((w2.alloc o).alloc o').heap[w.heap.size + 1 + 1 + 1 + 1 + 1 + 1]? = _ := fun o o' => (heap_alloc_old _ o' (by simp; omega)).trans ((heap_alloc_old w2 o (by omega)).trans hbox)
 have s3 : ∀ o o' : Obj, ((w2.alloc o).alloc o').cell? ⟨w.heap.size + 1 + 1 + 1 + 1 + 1 + 1, 3, none⟩ = some (.slice (some ⟨w.heap.size + 1 + 1 + 1 + 1 + 1, 0, none⟩) 2 2) := fun o o' => cell_of_row _ _ 3 _ _ _ (hbo o o')
 have sf : ∀ o o' : Obj, ((w2.alloc o).alloc o').frozen? ⟨w.heap.size + 1 + 1 + 1 + 1 + 1 + 1, 3, none⟩ = false := fun o o' => frozen_of_row _ _ 3 _ _ (hbo o o')
 have hbs : ∀ (o o' : Obj) (u : Value), (((w2.alloc o).alloc o').setCell ⟨w.heap.size + 1 + 1 + 1 + 1 + 1 + 1, 3, none⟩ u).heap[w.heap.size + 1 + 1 + 1 + 1 + 1 + 1]? = some (.cells #[.int .i64 2, .slice (some ⟨w.heap.size + 1 + 1, 0, none⟩) 2 2, .slice (some ⟨w.heap.size + 1 + 1 + 1, 0, none⟩) 2 2, u] 25 (0, 0)) := fun o o' u => by
  rw [heap_setCell_same _ _ 3 _ _ _ (hbo o o')]; rfl
 have t0 : ∀ (o o' : Obj) (u : Value), (((w2.alloc o).alloc o').setCell ⟨w.heap.size + 1 + 1 + 1 + 1 + 1 + 1, 3, none⟩ u).cell? ⟨w.heap.size + 1 + 1 + 1 + 1 + 1 + 1, 0, none⟩ = some (.int .i64 2) := fun o o' u => cell_of_row _ _ 0 _ _ _ (hbs o o' u)
 have t1 : ∀ (o o' : Obj) (u : Value), (((w2.alloc o).alloc o').setCell ⟨w.heap.size + 1 + 1 + 1 + 1 + 1 + 1, 3, none⟩ u).cell? ⟨w.heap.size + 1 + 1 + 1 + 1 + 1 + 1, 1, none⟩ = some (.slice (some ⟨w.heap.size + 1 + 1, 0, none⟩) 2 2) := fun o o' u => cell_of_row _ _ 1 _ _ _ (hbs o o' u)
 have t2 : ∀ (o o' : Obj) (u : Value), (((w2.alloc o).alloc o').setCell ⟨w.heap.size + 1 + 1 + 1 + 1 + 1 + 1, 3, none⟩ u).cell? ⟨w.heap.size + 1 + 1 + 1 + 1 + 1 + 1, 2, none⟩ = some (.slice (some ⟨w.heap.size + 1 + 1 + 1, 0, none⟩) 2 2) := fun o o' u => cell_of_row _ _ 2 _ _ _ (hbs o o' u)
 have t3 : ∀ (o o' : Obj) (u : Value), (((w2.alloc o).alloc o').setCell ⟨w.heap.size + 1 + 1 + 1 + 1 + 1 + 1, 3, none⟩ u).cell? ⟨w.heap.size + 1 + 1 + 1 + 1 + 1 + 1, 3, none⟩ = some u := fun o o' u => cell_of_row _ _ 3 _ _ _ (hbs o o' u)
 clear hbo hbs
 have Hb2 := hid hb2
 have Hg := hid (And.intro hg hg2)
 clear hbox hg hg2 hb2
 have hcb := HcB.out w2 4 u Hb2.out
 unfold FRunPost at hcb
 rw [HeB.out] at hcb
 have HcB2 := hid hcb
 clear hcb HcB
 go_wp2_with fail
 refine HcB2.out.mono ?_
 rintro e w3 ⟨_, rfl, v, rfl, h1, _, hb3⟩
 have o1 := h1 trivial
 clear h1 s3 sf t0 t1 t2 t3 HcB2
 rw [exD_solve] at o1
 obtain ⟨gn, capn, rfl, hgn, hgn2, hc⟩ := own_all o1 (by decide)
 have n0 := hc 0 _ rfl; have n1 := hc 1 _ rfl
 obtain ⟨hk, hcnt, _, hz⟩ := wkW2_heap w w2 4 u Hb2.out
 have hm : ∀ i, w3.cell? ⟨g, i, none⟩ = w2.cell? ⟨g, i, none⟩ := fun i => by
  refine World.cell?_of_block ?_
  show w3.heap[g]? = w2.heap[g]?
  rw [hb3.block g (by rw [hz]; have := Hg.out.2; omega)]
  exact hk g Hg.out.2 (by have := Hg.out.1; omega)
 rw [← hm] at c0 c1
 have q0 : w3.cell? ⟨w2.heap.size, 0, none⟩ = some (.int .i64 4) := cell_of_row _ _ 0 _ _ _ ((hb3.block _ (by rw [hz]; omega)).trans hcnt)
 have hfin : Below w.heap.size w w3 := by
  have h1 : Below w.heap.size w w2 := ext_trans (allocs (wkBlocks w.heap.size) w).2.2 Hb2.out
  have h2 : Below w.heap.size w (wkW2 w w2 4 u) := ((h1.alloc (by omega) _).alloc (by simp; omega) _).setCell (by show w.heap.size ≤ w.heap.size + 1 + 1 + 1 + 1 + 1 + 1; omega) _
  exact ext_trans h2 hb3
 clear hk hz hm hc o1 hb3 hcnt
 have Hnum := hid num16_any
 go_wp2_with (go_at_call 39; refine (Hnum.out _ _).mono ?_; rintro e w' ⟨_, rfl, rfl, hw9⟩; rw [hw9]; clear hw9 w')
 go_ret
 exact Fin HQ ⟨rfl, hfin⟩
end Go.Proofs.Lx
