/- Parts of the proof: Mr, Ms, Ce. The book as it is filled: its state, and a list put into it. -/
import Derived.Test.YtalhpldbhogadaaGreatO3
import Derived.Test.YtalhpldbhogadaaGreatO4
import Derived.Test.YtalhpldbhogadaaGreatO5
import Derived.Test.YtalhpldbhogadaaGreatO2
namespace Go.Proofs.Lx
open Go Go.RowKit
set_option linter.unusedVariables false
set_option linter.unusedSimpArgs false
/-- One kind's lists in the book. -/
def KV (w : World) (base B : Nat) (eS e : TypeId) (sz : Nat) (v : Value) (m : Nat) : Prop := ∃ N G n c x, N ≤ m ∧ (∀ i, i < N → G i < B) ∧ w.ownsRow base eS 1 v N (listV N G n c) ∧ Bk w base e sz N G n c x
def bkC (vI vM vP : Value) : Array Value := #[.slice none 0 0, vI, .slice none 0 0, vM, vP, .slice none 0 0, .slice none 0 0, .slice none 0 0, .slice none 0 0, .slice none 0 0, .slice none 0 0, .slice none 0 0, .slice none 0 0, .slice none 0 0, .slice none 0 0, .slice none 0 0, .slice none 0 0, .slice none 0 0, .slice none 0 0, .slice none 0 0, .slice none 0 0, .slice none 0 0, .slice none 0 0, .slice none 0 0]
structure BS (w : World) (b m BI BM BP : Nat) (vI vM vP : Value) : Prop where
 box : w.heap[b]? = some (.cells (bkC vI vM vP) 52 (0, 0))
 kI : KV w (b + 1) BI 26 3 1 vI m
 kM : KV w (b + 1) BM 53 77 1 vM m
 kP : KV w (b + 1) BP 61 98 2 vP m
/-- The types of the rows. -/
def RowTy (e : TypeId) : Prop := e = 3 ∨ e = 77 ∨ e = 98
/-- Blocks of rows stay. -/
def Kp (w w' : World) : Prop := w.heap.size ≤ w'.heap.size ∧ ∀ (g : Nat) (cells : Array Value) (e : TypeId), w.heap[g]? = some (.cells cells e (0, 0)) → RowTy e → w'.heap[g]? = w.heap[g]?
section
variable {w w' w2 : World} {base B B' m m' b BI BM BP BI' BM' BP' : Nat} {eS e : TypeId} {sz : Nat} {v vI vM vP : Value}
theorem Kp.trans (h : Kp w w') (k : Kp w' w2) : Kp w w2 := ⟨Nat.le_trans h.1 k.1, fun g cells e hg he => by
 have h1 := h.2 g cells e hg he
 exact (k.2 g cells e (h1.trans hg) he).trans h1⟩
theorem Kp.of (h : Below w.heap.size w w') : Kp w w' := ⟨h.size, fun g cells e hg _ => h.block g (lt_of_block hg)⟩
theorem Kp.own {n : Nat} {xs : List Value} (h : Kp w w') (he : RowTy e) (ho : w.ownsRow base e sz v n xs) : w'.ownsRow base e sz v n xs := by
 refine ⟨ho.1, ?_⟩
 rcases ho.2 with h1 | ⟨g, cap, cur, h1, h2, h3, h4⟩
 ·exact .inl h1
 ·exact .inr ⟨g, cap, cur, h1, h2, (h.2 g cur e h3 he).trans h3, h4⟩
theorem KV.mono (h : KV w base B eS e sz v m) (hB : B ≤ B') (hm : m ≤ m') : KV w base B' eS e sz v m' := by
 obtain ⟨N, G, n, c, x, h1, h2, h3, h4⟩ := h
 exact ⟨N, G, n, c, x, by omega, fun i hi => by have := h2 i hi; omega, h3, h4⟩
theorem KV.ext (h : KV w base B eS e sz v m) (hb : Below w.heap.size w w') : KV w' base B eS e sz v m := by
 obtain ⟨N, G, n, c, x, h1, h2, h3, h4⟩ := h
 exact ⟨N, G, n, c, x, h1, h2, h3.kept (row := none) ⟨hb.os, hb.tape, hb.output, hb.size, fun k hk _ => hb.block k hk⟩ (by cases v.ownBlock <;> simp), h4.ext hb⟩
theorem BS.ext (h : BS w b m BI BM BP vI vM vP) (hb : Below w.heap.size w w') : BS w' b m BI BM BP vI vM vP := ⟨(hb.block _ (lt_of_block h.box)).trans h.box, h.kI.ext hb, h.kM.ext hb, h.kP.ext hb⟩
theorem BS.mono (h : BS w b m BI BM BP vI vM vP) (hI : BI ≤ BI') (hM : BM ≤ BM') (hP : BP ≤ BP') (hm : m ≤ m') : BS w b m' BI' BM' BP' vI vM vP := ⟨h.box, h.kI.mono hI hm, h.kM.mono hM hm, h.kP.mono hP hm⟩
theorem KV.nil (w : World) (base B : Nat) (eS e : TypeId) (sz : Nat) : KV w base B eS e sz (.slice none 0 0) 0 :=
 ⟨0, fun _ => 0, fun _ => 0, fun _ => 0, fun _ => [], Nat.le_refl _, fun i hi => by omega, by simpa [listV] using World.ownsRow_nil _ _ _ _, fun i hi => by omega, fun i j hi => by omega, fun i hi => by omega⟩
theorem listV_push (N g n0 c0 : Nat) (G n c : Nat → Nat) : listV (N + 1) (updF G N g) (updF n N n0) (updF c N c0) = listV N G n c ++ [.slice (some ⟨g, 0, none⟩) n0 c0] := by
 unfold listV
 rw [List.range_succ, List.map_append]
 congr 1
 ·refine List.map_congr_left fun j hj => ?_
  have : j ≠ N := by have := List.mem_range.1 hj; omega
  unfold rowV
  rw [updF_ne this, updF_ne this, updF_ne this]
 ·simp [rowV, updF]
/-- What an append to a list of lists and a store into the book's box leave. -/
structure Put (w w' : World) (b : Nat) (eS : TypeId) (fld : Nat) (v v' : Value) (bk : Array Value) : Prop where
 box : w'.heap[b]? = some (.cells (bk.setIfInBounds fld v') 52 (0, 0))
 keep : ∀ (g : Nat) (cells : Array Value) (e : TypeId), w.heap[g]? = some (.cells cells e (0, 0)) → e ≠ eS → e ≠ 52 → w'.heap[g]? = w.heap[g]?
 below : Below b w w'
theorem Put.mk1 {N fld : Nat} {v v' : Value} {xs : List Value} {A : Obj} {bk : Array Value} (hbox : w.heap[b]? = some (.cells bk 52 (0, 0))) (hne : eS ≠ 52) (hl : w.ownsRow (b + 1) eS 1 v N xs) (hg : (w.alloc A).grownBy w' v.ownBlock) :
  Put w (w'.setCell ⟨b, fld, none⟩ v') b eS fld v v' bk := by
 have hlb := lt_of_block hbox
 have hsz : w.heap.size + 1 ≤ w'.heap.size := by simpa using hg.size
 have hk : ∀ g, g < w.heap.size → v.ownBlock ≠ some g → w'.heap[g]? = w.heap[g]? := fun g h1 h2 => (hg.block g (by simp; omega) (fun e => h2 e.symm)).trans (Below.heap_alloc _ _ _ h1)
 have hkb : ∀ g, g < b + 1 → w'.heap[g]? = w.heap[g]? := fun g h1 => hk g (by omega) fun e => by have := (hl.lt g e).1; omega
 refine ⟨?_, fun g cells e h1 h2 h3 => ?_, ?_⟩
 ·rw [heap_setCell_same w' b fld _ _ v' ((hkb b (by omega)).trans hbox)]
 ·rw [heap_setCell_other _ _ _ _ (fun e9 => by
   dsimp only at e9
   rw [e9, hbox] at h1
   injection h1 with h1
   injection h1 with _ h1
   exact h3 h1.symm)]
  refine hk g (lt_of_block h1) fun e9 => ?_
  rcases hl.2 with ⟨k1, _⟩ | ⟨gg, cp, cur, k1, k2, k3, _⟩
  ·rw [k1] at e9; simp [Value.ownBlock] at e9
  ·rw [k1] at e9
   have : gg = g := by simpa [Value.ownBlock] using e9
   subst this
   rw [k3] at h1
   injection h1 with h1
   injection h1 with _ h1
   exact h2 h1.symm
 ·exact (show Below b w w' from ⟨hg.os, hg.tape, hg.output, by omega, fun g hg1 => hkb g (by omega)⟩).setCell (Nat.le_refl b) _
theorem Put.own {fld n : Nat} {v0 v0' : Value} {xs : List Value} {bk : Array Value} (h : Put w w' b eS fld v0 v0' bk) (he : e ≠ eS) (he2 : e ≠ 52) (ho : w.ownsRow base e sz v n xs) : w'.ownsRow base e sz v n xs := by
 refine ⟨ho.1, ?_⟩
 rcases ho.2 with h1 | ⟨g, cap, cur, h1, h2, h3, h4⟩
 ·exact .inl h1
 ·exact .inr ⟨g, cap, cur, h1, h2, (h.keep g cur e h3 he he2).trans h3, h4⟩
theorem Put.bk {fld N : Nat} {v0 v0' : Value} {bk : Array Value} {G n c : Nat → Nat} {x : Nat → List Value} (h : Put w w' b eS fld v0 v0' bk) (he : e ≠ eS) (he2 : e ≠ 52) (ho : Bk w base e sz N G n c x) : Bk w' base e sz N G n c x :=
 ⟨fun i hi => h.own he he2 (ho.own i hi), ho.ne, ho.pos⟩
theorem Put.kv {fld : Nat} {v0 v0' : Value} {bk : Array Value} {eS2 : TypeId} (h : Put w w' b eS fld v0 v0' bk) (he : e ≠ eS) (he2 : e ≠ 52) (he3 : eS2 ≠ eS) (he4 : eS2 ≠ 52) (ho : KV w base B eS2 e sz v m) : KV w' base B eS2 e sz v m := by
 obtain ⟨N, G, n, c, x, h1, h2, h3, h4⟩ := ho
 exact ⟨N, G, n, c, x, h1, h2, h.own he3 he4 h3, h.bk he he2 h4⟩
theorem Put.kp {fld : Nat} {v0 v0' : Value} {bk : Array Value} (h : Put w w' b eS fld v0 v0' bk) (hn : ∀ e, RowTy e → e ≠ eS ∧ e ≠ 52) (hsz : w.heap.size ≤ w'.heap.size) : Kp w w' :=
 ⟨hsz, fun g cells e h1 h2 => h.keep g cells e h1 (hn e h2).1 (hn e h2).2⟩
/-- The list itself: it holds one more. -/
theorem Put.push {fld N g n0 c0 B2 : Nat} {v0 v0' v1 : Value} {bk : Array Value} {G n c : Nat → Nat} {x : Nat → List Value} {xs : List Value} (h : Put w w' b eS fld v0 v1 bk) (he : e ≠ eS) (he2 : e ≠ 52)
  (hN : N ≤ m) (hG : ∀ i, i < N → G i < B) (hk : Bk w base e sz N G n c x) (hl : w.ownsRow B e sz (.slice (some ⟨g, 0, none⟩) n0 c0) n0 xs) (hn : 0 < n0 ∧ n0 ≤ 70000) (hg : g < B2) (hB : B ≤ B2) (hbB : base ≤ B)
  (ho : w'.ownsRow base eS 1 v1 (N + 1) (listV N G n c ++ [.slice (some ⟨g, 0, none⟩) n0 c0])) : KV w' base B2 eS e sz v1 (m + 1) := by
 obtain ⟨_, _, hBg, _, _⟩ := row_block hl
 refine ⟨N + 1, updF G N g, updF n N n0, updF c N c0, updF x N xs, by omega, fun i hi => ?_, by rw [listV_push]; exact ho, fun i hi => ?_, fun i j hi hj hij => ?_, fun i hi => ?_⟩
 ·by_cases e9 : i = N
  ·subst e9; rw [updF_same]; exact hg
  ·rw [updF_ne e9]; have := hG i (by omega); omega
 ·by_cases e9 : i = N
  ·subst e9
   unfold rowV
   rw [updF_same, updF_same, updF_same, updF_same]
   have h9 := h.own he he2 hl
   exact ⟨h9.1, h9.2.imp id fun ⟨g1, c1, u1, k1, k2, k3⟩ => ⟨g1, c1, u1, k1, Nat.le_trans hbB k2, k3⟩⟩
  ·unfold rowV
   rw [updF_ne e9, updF_ne e9, updF_ne e9, updF_ne e9]
   exact h.own he he2 (hk.own i (by omega))
 ·by_cases e9 : i = N
  ·by_cases e10 : j = N
   ·omega
   ·rw [e9, updF_same, updF_ne e10] at hij
    have := hG j (by omega); omega
  ·by_cases e10 : j = N
   ·rw [e10, updF_same, updF_ne e9] at hij
    have := hG i (by omega); omega
   ·rw [updF_ne e9, updF_ne e10] at hij
    exact hk.ne i j (by omega) (by omega) hij
 ·by_cases e9 : i = N
  ·subst e9; rw [updF_same]; exact hn
  ·rw [updF_ne e9]; exact hk.pos i (by omega)
end
--PUTS: by gen_put.py
set_option maxHeartbeats 1600000 in
theorem putI_any (w : World) (b m BI BM BP B2 : Nat) (vI vM vP : Value) (A : Option Addr) (nl cl : Nat) (xs : List Value) (hbs : BS w b m BI BM BP vI vM vP) (hl : 0 < nl → w.ownsRow BI 3 1 (.slice A nl cl) nl xs) (h7 : nl ≤ 70000) (hB2 : BI ≤ B2)
  (hg : ∀ g, (Value.slice A nl cl).ownBlock = some g → g < B2) (hb : b < BI) (hm : m ≤ 500) :
  Calls Tryz.prog 13 #[.pointer (some ⟨b, 0, none⟩), .slice A nl cl] w (Ret fun r w' => r = .tuple #[] ∧ (∃ vI' vM' vP', BS w' b (m + 1) B2 BM BP vI' vM' vP') ∧ Kp w w' ∧ Below b w w') := by
 have Hbs := hid hbs
 have Hl := hid hl
 obtain ⟨N, G, n, c, x, hN, hG, hli, hbk⟩ := hbs.kI
 have Hbk := hid hbk
 have Hli := hid hli
 obtain ⟨i1, hi1, hy0, hy1, hy2⟩ := info_parts infoapIL
 have c0 : w.cell? ⟨b, 1, none⟩ = some vI := by rw [cell_of_row w b _ _ _ _ hbs.box]; rfl
 have hlb := lt_of_block hbs.box
 have Hrt : Hid (∀ e, RowTy e → e ≠ 26 ∧ e ≠ 52) := hid fun e he => by rcases he with rfl | rfl | rfl <;> exact ⟨by decide, by decide⟩
 by_cases hl0 : 0 < nl
 ·obtain ⟨g, hg0⟩ : ∃ g, A = some ⟨g, 0, none⟩ := by
   rcases (hl hl0).2 with ⟨h1, h2⟩ | ⟨g, cap, cur, h1, _⟩
   ·omega
   ·injection h1 with h1; exact ⟨g, h1⟩
  subst hg0
  have hg9 := hg g rfl
  have hl1 : (0 : Int) < (nl : Int) := by omega
  have Haft : Hid (∀ (cA : Obj) (w' : World), (w.alloc cA).grownBy w' vI.ownBlock → w'.frozen? ⟨b, 1, none⟩ = false ∧ w'.cell? ⟨b, 1, none⟩ = some vI) := by
   refine hid fun cA w' hgr => ?_
   have h9 : w'.heap[b]? = some (.cells (bkC vI vM vP) 52 (0, 0)) := (hgr.block b (by simp; omega) (fun e => by have := (Hli.out.lt _ e.symm).1; omega)).trans ((Below.heap_alloc _ _ _ hlb).trans Hbs.out.box)
   exact ⟨frozen_of_row w' b 1 _ _ h9, by rw [cell_of_row w' b 1 _ _ _ h9]; rfl⟩
  clear hbs hl hbk hli hg
  refine post_gen fun Q HQ => ?_
  go_enter Tryz.func13, Tryz.ntmps13
  go_wp2_with (at_builtin; refine wpList_append_own_at _ rfl _ _ 22 rfl (b + 1) 26 i1 (.slice none 0 0) 1 24 Tryz.underlying22 hi1 hy0 hy1 hy2 rfl (by decide) _ N _ rfl (Hli.out.alloc _) ⟨w.heap.size, 0, none⟩ 1 1 [.slice (some ⟨g, 0, none⟩) nl cl] rfl rfl (cell_one_new _ _ _) (fun u hu => by simp at hu; subst hu; rfl) (by unfold maxLen; omega) (by omega) (by simp; omega) ?_; intro v' w' hown hgrow hnil hat; obtain ⟨gn, cn, rfl⟩ := own_frsapI hown; obtain ⟨hqF, hq2⟩ := Haft.out _ w' hgrow)
  (try simp only [Exit.inBlock, Exit.then])
  have hsz9 : w.heap.size + 1 ≤ w'.heap.size := by simpa using hgrow.size
  have hp := Put.mk1 (fld := 1) (v' := .slice (some ⟨gn, 0, none⟩) (N + 1) cn) Hbs.out.box (by decide) Hli.out hgrow
  have Hown : Hid ((w'.setCell ⟨b, 1, none⟩ (.slice (some ⟨gn, 0, none⟩) (N + 1) cn)).ownsRow (b + 1) 26 1 (.slice (some ⟨gn, 0, none⟩) (N + 1) cn) (N + 1) (listV N G n c ++ [.slice (some ⟨g, 0, none⟩) nl cl])) := hid (own_keep hown (heap_setCell_other _ _ _ _ (fun e => by obtain ⟨_, _, h9, _, _⟩ := row_block hown; dsimp only at e; omega)))
  refine bodyPost_end (v := .tuple #[]) (by simp [results, Tryz.results13, go_sem]; try rfl) rfl ?_
  exact Fin HQ ⟨rfl, ⟨.slice (some ⟨gn, 0, none⟩) (N + 1) cn, vM, vP, ⟨hp.box, hp.push (v0' := .slice none 0 0) (by decide) (by decide) hN hG Hbk.out (Hl.out hl0) ⟨hl0, h7⟩ hg9 hB2 (by omega) Hown.out, hp.kv (by decide) (by decide) (by decide) (by decide) (Hbs.out.kM.mono (Nat.le_refl _) (Nat.le_succ m)), hp.kv (by decide) (by decide) (by decide) (by decide) (Hbs.out.kP.mono (Nat.le_refl _) (Nat.le_succ m))⟩⟩, hp.kp Hrt.out (by simp; omega), hp.below⟩
 ·obtain rfl : nl = 0 := by omega
  clear hbs hl hbk hli hg
  refine post_gen fun Q HQ => ?_
  go_enter Tryz.func13, Tryz.ntmps13
  go_wp2_with fail
  (try simp only [Exit.inBlock, Exit.then])
  refine bodyPost_end (v := .tuple #[]) (by simp [results, Tryz.results13, go_sem]; try rfl) rfl ?_
  exact Fin HQ ⟨rfl, ⟨_, _, _, Hbs.out.mono hB2 (Nat.le_refl _) (Nat.le_refl _) (Nat.le_succ m)⟩, Kp.of (ext_refl _), Below.refl _ _⟩
set_option maxHeartbeats 1600000 in
theorem putM_any (w : World) (b m BI BM BP B2 : Nat) (vI vM vP : Value) (A : Option Addr) (nl cl : Nat) (xs : List Value) (hbs : BS w b m BI BM BP vI vM vP) (hl : 0 < nl → w.ownsRow BM 77 1 (.slice A nl cl) nl xs) (h7 : nl ≤ 70000) (hB2 : BM ≤ B2)
  (hg : ∀ g, (Value.slice A nl cl).ownBlock = some g → g < B2) (hb : b < BM) (hm : m ≤ 500) :
  Calls Tryz.prog 11 #[.pointer (some ⟨b, 0, none⟩), .slice A nl cl] w (Ret fun r w' => r = .tuple #[] ∧ (∃ vI' vM' vP', BS w' b (m + 1) BI B2 BP vI' vM' vP') ∧ Kp w w' ∧ Below b w w') := by
 have Hbs := hid hbs
 have Hl := hid hl
 obtain ⟨N, G, n, c, x, hN, hG, hli, hbk⟩ := hbs.kM
 have Hbk := hid hbk
 have Hli := hid hli
 obtain ⟨i1, hi1, hy0, hy1, hy2⟩ := info_parts infoapML
 have c0 : w.cell? ⟨b, 3, none⟩ = some vM := by rw [cell_of_row w b _ _ _ _ hbs.box]; rfl
 have hlb := lt_of_block hbs.box
 have Hrt : Hid (∀ e, RowTy e → e ≠ 53 ∧ e ≠ 52) := hid fun e he => by rcases he with rfl | rfl | rfl <;> exact ⟨by decide, by decide⟩
 by_cases hl0 : 0 < nl
 ·obtain ⟨g, hg0⟩ : ∃ g, A = some ⟨g, 0, none⟩ := by
   rcases (hl hl0).2 with ⟨h1, h2⟩ | ⟨g, cap, cur, h1, _⟩
   ·omega
   ·injection h1 with h1; exact ⟨g, h1⟩
  subst hg0
  have hg9 := hg g rfl
  have hl1 : (0 : Int) < (nl : Int) := by omega
  have Haft : Hid (∀ (cA : Obj) (w' : World), (w.alloc cA).grownBy w' vM.ownBlock → w'.frozen? ⟨b, 3, none⟩ = false ∧ w'.cell? ⟨b, 3, none⟩ = some vM) := by
   refine hid fun cA w' hgr => ?_
   have h9 : w'.heap[b]? = some (.cells (bkC vI vM vP) 52 (0, 0)) := (hgr.block b (by simp; omega) (fun e => by have := (Hli.out.lt _ e.symm).1; omega)).trans ((Below.heap_alloc _ _ _ hlb).trans Hbs.out.box)
   exact ⟨frozen_of_row w' b 3 _ _ h9, by rw [cell_of_row w' b 3 _ _ _ h9]; rfl⟩
  clear hbs hl hbk hli hg
  refine post_gen fun Q HQ => ?_
  go_enter Tryz.func11, Tryz.ntmps11
  go_wp2_with (at_builtin; refine wpList_append_own_at _ rfl _ _ 30 rfl (b + 1) 53 i1 (.slice none 0 0) 1 24 Tryz.underlying30 hi1 hy0 hy1 hy2 rfl (by decide) _ N _ rfl (Hli.out.alloc _) ⟨w.heap.size, 0, none⟩ 1 1 [.slice (some ⟨g, 0, none⟩) nl cl] rfl rfl (cell_one_new _ _ _) (fun u hu => by simp at hu; subst hu; rfl) (by unfold maxLen; omega) (by omega) (by simp; omega) ?_; intro v' w' hown hgrow hnil hat; obtain ⟨gn, cn, rfl⟩ := own_frsapM hown; obtain ⟨hqF, hq2⟩ := Haft.out _ w' hgrow)
  (try simp only [Exit.inBlock, Exit.then])
  have hsz9 : w.heap.size + 1 ≤ w'.heap.size := by simpa using hgrow.size
  have hp := Put.mk1 (fld := 3) (v' := .slice (some ⟨gn, 0, none⟩) (N + 1) cn) Hbs.out.box (by decide) Hli.out hgrow
  have Hown : Hid ((w'.setCell ⟨b, 3, none⟩ (.slice (some ⟨gn, 0, none⟩) (N + 1) cn)).ownsRow (b + 1) 53 1 (.slice (some ⟨gn, 0, none⟩) (N + 1) cn) (N + 1) (listV N G n c ++ [.slice (some ⟨g, 0, none⟩) nl cl])) := hid (own_keep hown (heap_setCell_other _ _ _ _ (fun e => by obtain ⟨_, _, h9, _, _⟩ := row_block hown; dsimp only at e; omega)))
  refine bodyPost_end (v := .tuple #[]) (by simp [results, Tryz.results11, go_sem]; try rfl) rfl ?_
  exact Fin HQ ⟨rfl, ⟨vI, .slice (some ⟨gn, 0, none⟩) (N + 1) cn, vP, ⟨hp.box, hp.kv (by decide) (by decide) (by decide) (by decide) (Hbs.out.kI.mono (Nat.le_refl _) (Nat.le_succ m)), hp.push (v0' := .slice none 0 0) (by decide) (by decide) hN hG Hbk.out (Hl.out hl0) ⟨hl0, h7⟩ hg9 hB2 (by omega) Hown.out, hp.kv (by decide) (by decide) (by decide) (by decide) (Hbs.out.kP.mono (Nat.le_refl _) (Nat.le_succ m))⟩⟩, hp.kp Hrt.out (by simp; omega), hp.below⟩
 ·obtain rfl : nl = 0 := by omega
  clear hbs hl hbk hli hg
  refine post_gen fun Q HQ => ?_
  go_enter Tryz.func11, Tryz.ntmps11
  go_wp2_with fail
  (try simp only [Exit.inBlock, Exit.then])
  refine bodyPost_end (v := .tuple #[]) (by simp [results, Tryz.results11, go_sem]; try rfl) rfl ?_
  exact Fin HQ ⟨rfl, ⟨_, _, _, Hbs.out.mono (Nat.le_refl _) hB2 (Nat.le_refl _) (Nat.le_succ m)⟩, Kp.of (ext_refl _), Below.refl _ _⟩
set_option maxHeartbeats 1600000 in
theorem putP_any (w : World) (b m BI BM BP B2 : Nat) (vI vM vP : Value) (A : Option Addr) (nl cl : Nat) (xs : List Value) (hbs : BS w b m BI BM BP vI vM vP) (hl : 0 < nl → w.ownsRow BP 98 2 (.slice A nl cl) nl xs) (h7 : nl ≤ 70000) (hB2 : BP ≤ B2)
  (hg : ∀ g, (Value.slice A nl cl).ownBlock = some g → g < B2) (hb : b < BP) (hm : m ≤ 500) :
  Calls Tryz.prog 12 #[.pointer (some ⟨b, 0, none⟩), .slice A nl cl] w (Ret fun r w' => r = .tuple #[] ∧ (∃ vI' vM' vP', BS w' b (m + 1) BI BM B2 vI' vM' vP') ∧ Kp w w' ∧ Below b w w') := by
 have Hbs := hid hbs
 have Hl := hid hl
 obtain ⟨N, G, n, c, x, hN, hG, hli, hbk⟩ := hbs.kP
 have Hbk := hid hbk
 have Hli := hid hli
 obtain ⟨i1, hi1, hy0, hy1, hy2⟩ := info_parts infoapPL
 have c0 : w.cell? ⟨b, 4, none⟩ = some vP := by rw [cell_of_row w b _ _ _ _ hbs.box]; rfl
 have hlb := lt_of_block hbs.box
 have Hrt : Hid (∀ e, RowTy e → e ≠ 61 ∧ e ≠ 52) := hid fun e he => by rcases he with rfl | rfl | rfl <;> exact ⟨by decide, by decide⟩
 by_cases hl0 : 0 < nl
 ·obtain ⟨g, hg0⟩ : ∃ g, A = some ⟨g, 0, none⟩ := by
   rcases (hl hl0).2 with ⟨h1, h2⟩ | ⟨g, cap, cur, h1, _⟩
   ·omega
   ·injection h1 with h1; exact ⟨g, h1⟩
  subst hg0
  have hg9 := hg g rfl
  have hl1 : (0 : Int) < (nl : Int) := by omega
  have Haft : Hid (∀ (cA : Obj) (w' : World), (w.alloc cA).grownBy w' vP.ownBlock → w'.frozen? ⟨b, 4, none⟩ = false ∧ w'.cell? ⟨b, 4, none⟩ = some vP) := by
   refine hid fun cA w' hgr => ?_
   have h9 : w'.heap[b]? = some (.cells (bkC vI vM vP) 52 (0, 0)) := (hgr.block b (by simp; omega) (fun e => by have := (Hli.out.lt _ e.symm).1; omega)).trans ((Below.heap_alloc _ _ _ hlb).trans Hbs.out.box)
   exact ⟨frozen_of_row w' b 4 _ _ h9, by rw [cell_of_row w' b 4 _ _ _ h9]; rfl⟩
  clear hbs hl hbk hli hg
  refine post_gen fun Q HQ => ?_
  go_enter Tryz.func12, Tryz.ntmps12
  go_wp2_with (at_builtin; refine wpList_append_own_at _ rfl _ _ 31 rfl (b + 1) 61 i1 (.slice none 0 0) 1 24 Tryz.underlying31 hi1 hy0 hy1 hy2 rfl (by decide) _ N _ rfl (Hli.out.alloc _) ⟨w.heap.size, 0, none⟩ 1 1 [.slice (some ⟨g, 0, none⟩) nl cl] rfl rfl (cell_one_new _ _ _) (fun u hu => by simp at hu; subst hu; rfl) (by unfold maxLen; omega) (by omega) (by simp; omega) ?_; intro v' w' hown hgrow hnil hat; obtain ⟨gn, cn, rfl⟩ := own_frsapP hown; obtain ⟨hqF, hq2⟩ := Haft.out _ w' hgrow)
  (try simp only [Exit.inBlock, Exit.then])
  have hsz9 : w.heap.size + 1 ≤ w'.heap.size := by simpa using hgrow.size
  have hp := Put.mk1 (fld := 4) (v' := .slice (some ⟨gn, 0, none⟩) (N + 1) cn) Hbs.out.box (by decide) Hli.out hgrow
  have Hown : Hid ((w'.setCell ⟨b, 4, none⟩ (.slice (some ⟨gn, 0, none⟩) (N + 1) cn)).ownsRow (b + 1) 61 1 (.slice (some ⟨gn, 0, none⟩) (N + 1) cn) (N + 1) (listV N G n c ++ [.slice (some ⟨g, 0, none⟩) nl cl])) := hid (own_keep hown (heap_setCell_other _ _ _ _ (fun e => by obtain ⟨_, _, h9, _, _⟩ := row_block hown; dsimp only at e; omega)))
  refine bodyPost_end (v := .tuple #[]) (by simp [results, Tryz.results12, go_sem]; try rfl) rfl ?_
  exact Fin HQ ⟨rfl, ⟨vI, vM, .slice (some ⟨gn, 0, none⟩) (N + 1) cn, ⟨hp.box, hp.kv (by decide) (by decide) (by decide) (by decide) (Hbs.out.kI.mono (Nat.le_refl _) (Nat.le_succ m)), hp.kv (by decide) (by decide) (by decide) (by decide) (Hbs.out.kM.mono (Nat.le_refl _) (Nat.le_succ m)), hp.push (v0' := .slice none 0 0) (by decide) (by decide) hN hG Hbk.out (Hl.out hl0) ⟨hl0, h7⟩ hg9 hB2 (by omega) Hown.out⟩⟩, hp.kp Hrt.out (by simp; omega), hp.below⟩
 ·obtain rfl : nl = 0 := by omega
  clear hbs hl hbk hli hg
  refine post_gen fun Q HQ => ?_
  go_enter Tryz.func12, Tryz.ntmps12
  go_wp2_with fail
  (try simp only [Exit.inBlock, Exit.then])
  refine bodyPost_end (v := .tuple #[]) (by simp [results, Tryz.results12, go_sem]; try rfl) rfl ?_
  exact Fin HQ ⟨rfl, ⟨_, _, _, Hbs.out.mono (Nat.le_refl _) (Nat.le_refl _) hB2 (Nat.le_succ m)⟩, Kp.of (ext_refl _), Below.refl _ _⟩
end Go.Proofs.Lx

namespace Go.Proofs.Lx
open Go Go.RowKit
set_option linter.unusedVariables false
set_option linter.unusedSimpArgs false
set_option maxRecDepth 100000 in
set_option maxHeartbeats 3200000 in
theorem apart_any (w : World) (b m BI BM BP : Nat) (vI vM vP : Value) (h : BS w b m BI BM BP vI vM vP) (hm : m ≤ 1000) :
  Calls Tryz.prog 14 #[.pointer (some ⟨b, 0, none⟩)] w (Ret fun r w' => r = .bool true ∧ Below b w w') := by
 have hbox := h.box
 obtain ⟨NI, GI, nI, cI, xI, hNI, _, hlI, hkI⟩ := h.kI
 obtain ⟨NM, GM, nM, cM, xM, hNM, _, hlM, hkM⟩ := h.kM
 obtain ⟨NP, GP, nP, cP, xP, hNP, _, hlP, hkP⟩ := h.kP
 have hlb := lt_of_block hbox
 have HcI := hid (apI_any w b (b + 1) (b + 1) NI GI nI cI xI vI (bkC vI vM vP) hbox rfl hlI hkI (by omega))
 have HcM : Hid (∀ w1, Chg w w1 NI GI → Calls Tryz.prog 26 #[.pointer (some ⟨b, 0, none⟩)] w1 (Ret fun r w' => r = .bool true ∧ Chg w1 w' NM GM)) := hid fun w1 h1 =>
  apM_any w1 b (b + 1) (b + 1) NM GM nM cM xM vM (bkC vI vM vP) (hkI.block hbox (by decide) h1) rfl (own_other hkI hlM (by decide) h1) (hkM.other hkI (by decide) h1) (by omega)
 have HcP : Hid (∀ w1 w2, Chg w w1 NI GI → Chg w1 w2 NM GM → Calls Tryz.prog 27 #[.pointer (some ⟨b, 0, none⟩)] w2 (Ret fun r w' => r = .bool true ∧ Chg w2 w' NP GP)) := hid fun w1 w2 h1 h2 => by
  have k1 := hkM.other hkI (by decide) h1
  exact apP_any w2 b (b + 1) (b + 1) NP GP nP cP xP vP (bkC vI vM vP) (k1.block (hkI.block hbox (by decide) h1) (by decide) h2) rfl (own_other k1 (own_other hkI hlP (by decide) h1) (by decide) h2) ((hkP.other hkI (by decide) h1).other k1 (by decide) h2) (by omega)
 have Hb1 : Hid (∀ w1, Chg w w1 NI GI → w1.heap[b]? = some (.cells (bkC vI vM vP) 52 (0, 0))) := hid fun w1 h1 => hkI.block hbox (by decide) h1
 have Hb2 : Hid (∀ w1 w2, Chg w w1 NI GI → Chg w1 w2 NM GM → w2.heap[b]? = some (.cells (bkC vI vM vP) 52 (0, 0))) := hid fun w1 w2 h1 h2 => (hkM.other hkI (by decide) h1).block (hkI.block hbox (by decide) h1) (by decide) h2
 have Hb3 : Hid (∀ w1 w2 w3, Chg w w1 NI GI → Chg w1 w2 NM GM → Chg w2 w3 NP GP → w3.heap[b]? = some (.cells (bkC vI vM vP) 52 (0, 0))) := hid fun w1 w2 w3 h1 h2 h3 =>
  ((hkP.other hkI (by decide) h1).other (hkM.other hkI (by decide) h1) (by decide) h2).block ((hkM.other hkI (by decide) h1).block (hkI.block hbox (by decide) h1) (by decide) h2) (by decide) h3
 have Hlow : Hid ((∀ i, i < NI → b ≤ GI i) ∧ (∀ i, i < NM → b ≤ GM i) ∧ (∀ i, i < NP → b ≤ GP i)) := hid ⟨fun i hi => by obtain ⟨_, _, h9, _, _⟩ := row_block (hkI.own i hi); omega, fun i hi => by obtain ⟨_, _, h9, _, _⟩ := row_block (hkM.own i hi); omega, fun i hi => by obtain ⟨_, _, h9, _, _⟩ := row_block (hkP.own i hi); omega⟩
 have Hbox := hid hbox
 have Hc : Hid (∀ W : World, W.heap[b]? = some (.cells (bkC vI vM vP) 52 (0, 0)) → ∀ j, j < 24 → j ≠ 1 → j ≠ 3 → j ≠ 4 → W.cell? ⟨b, j, none⟩ = some (.slice none 0 0)) := hid fun W hW j hj h1 h3 h4 => by
  rw [cell_of_row W b j _ _ _ hW]
  match j, hj, h1, h3, h4 with
  | 0, _, _, _, _ => rfl
  | 2, _, _, _, _ => rfl
  | 5, _, _, _, _ => rfl
  | 6, _, _, _, _ => rfl
  | 7, _, _, _, _ => rfl
  | 8, _, _, _, _ => rfl
  | 9, _, _, _, _ => rfl
  | 10, _, _, _, _ => rfl
  | 11, _, _, _, _ => rfl
  | 12, _, _, _, _ => rfl
  | 13, _, _, _, _ => rfl
  | 14, _, _, _, _ => rfl
  | 15, _, _, _, _ => rfl
  | 16, _, _, _, _ => rfl
  | 17, _, _, _, _ => rfl
  | 18, _, _, _, _ => rfl
  | 19, _, _, _, _ => rfl
  | 20, _, _, _, _ => rfl
  | 21, _, _, _, _ => rfl
  | 22, _, _, _, _ => rfl
  | 23, _, _, _, _ => rfl
  | n + 24, hj, _, _, _ => exact absurd hj (by omega)
 clear h hlI hkI hlM hkM hlP hkP hbox
 refine post_gen fun Q HQ => ?_
 go_enter Tryz.func14, Tryz.ntmps14
 go_wp2_with fail
 refine (apNBytes w b (Hc.out w Hbox.out 0 (by decide) (by decide) (by decide) (by decide))).mono ?_
 rintro e w9 ⟨_, rfl, rfl, rfl⟩
 go_wp2_with fail
 refine HcI.out.mono ?_
 rintro e w1 ⟨_, rfl, rfl, h1⟩
 go_wp2_with fail
 refine (apNStrings w1 b (Hc.out w1 (Hb1.out w1 h1) 2 (by decide) (by decide) (by decide) (by decide))).mono ?_
 rintro e w9 ⟨_, rfl, rfl, rfl⟩
 go_wp2_with fail
 refine (HcM.out w1 h1).mono ?_
 rintro e w2 ⟨_, rfl, rfl, h2⟩
 go_wp2_with fail
 refine (HcP.out w1 w2 h1 h2).mono ?_
 rintro e w3 ⟨_, rfl, rfl, h3⟩
 go_wp2_with fail
 refine (apNMoney w3 b (Hc.out w3 (Hb3.out w1 w2 w3 h1 h2 h3) 5 (by decide) (by decide) (by decide) (by decide))).mono ?_
 rintro e w9 ⟨_, rfl, rfl, rfl⟩
 go_wp2_with fail
 refine (apNChoices w3 b (Hc.out w3 (Hb3.out w1 w2 w3 h1 h2 h3) 7 (by decide) (by decide) (by decide) (by decide))).mono ?_
 rintro e w9 ⟨_, rfl, rfl, rfl⟩
 go_wp2_with fail
 refine (apNTokens w3 b (Hc.out w3 (Hb3.out w1 w2 w3 h1 h2 h3) 13 (by decide) (by decide) (by decide) (by decide))).mono ?_
 rintro e w9 ⟨_, rfl, rfl, rfl⟩
 go_wp2_with fail
 refine (apNKinds w3 b (Hc.out w3 (Hb3.out w1 w2 w3 h1 h2 h3) 15 (by decide) (by decide) (by decide) (by decide))).mono ?_
 rintro e w9 ⟨_, rfl, rfl, rfl⟩
 go_wp2_with fail
 refine (apNMembers w3 b (Hc.out w3 (Hb3.out w1 w2 w3 h1 h2 h3) 16 (by decide) (by decide) (by decide) (by decide))).mono ?_
 rintro e w9 ⟨_, rfl, rfl, rfl⟩
 go_wp2_with fail
 refine (apNSources w3 b (Hc.out w3 (Hb3.out w1 w2 w3 h1 h2 h3) 18 (by decide) (by decide) (by decide) (by decide))).mono ?_
 rintro e w9 ⟨_, rfl, rfl, rfl⟩
 go_wp2_with fail
 refine (apNExcepts w3 b (Hc.out w3 (Hb3.out w1 w2 w3 h1 h2 h3) 22 (by decide) (by decide) (by decide) (by decide))).mono ?_
 rintro e w9 ⟨_, rfl, rfl, rfl⟩
 go_wp2_with fail
 refine (apNTermTexts w3 b (Hc.out w3 (Hb3.out w1 w2 w3 h1 h2 h3) 21 (by decide) (by decide) (by decide) (by decide))).mono ?_
 rintro e w9 ⟨_, rfl, rfl, rfl⟩
 go_wp2_with fail
 refine (apNTerms w3 b (Hc.out w3 (Hb3.out w1 w2 w3 h1 h2 h3) 10 (by decide) (by decide) (by decide) (by decide))).mono ?_
 rintro e w9 ⟨_, rfl, rfl, rfl⟩
 go_wp2_with fail
 refine (apNAtoms w3 b (Hc.out w3 (Hb3.out w1 w2 w3 h1 h2 h3) 14 (by decide) (by decide) (by decide) (by decide))).mono ?_
 rintro e w9 ⟨_, rfl, rfl, rfl⟩
 go_wp2_with fail
 refine (apNNumbers w3 b (Hc.out w3 (Hb3.out w1 w2 w3 h1 h2 h3) 12 (by decide) (by decide) (by decide) (by decide))).mono ?_
 rintro e w9 ⟨_, rfl, rfl, rfl⟩
 go_wp2_with fail
 refine (apNSteps w3 b (Hc.out w3 (Hb3.out w1 w2 w3 h1 h2 h3) 6 (by decide) (by decide) (by decide) (by decide))).mono ?_
 rintro e w9 ⟨_, rfl, rfl, rfl⟩
 go_wp2_with fail
 refine (apNLits w3 b (Hc.out w3 (Hb3.out w1 w2 w3 h1 h2 h3) 8 (by decide) (by decide) (by decide) (by decide))).mono ?_
 rintro e w9 ⟨_, rfl, rfl, rfl⟩
 go_wp2_with fail
 refine (apNRules w3 b (Hc.out w3 (Hb3.out w1 w2 w3 h1 h2 h3) 9 (by decide) (by decide) (by decide) (by decide))).mono ?_
 rintro e w9 ⟨_, rfl, rfl, rfl⟩
 go_wp2_with fail
 refine (apNGuards w3 b (Hc.out w3 (Hb3.out w1 w2 w3 h1 h2 h3) 11 (by decide) (by decide) (by decide) (by decide))).mono ?_
 rintro e w9 ⟨_, rfl, rfl, rfl⟩
 go_wp2_with fail
 refine (apNPremises w3 b (Hc.out w3 (Hb3.out w1 w2 w3 h1 h2 h3) 20 (by decide) (by decide) (by decide) (by decide))).mono ?_
 rintro e w9 ⟨_, rfl, rfl, rfl⟩
 go_wp2_with fail
 refine (apNPreds w3 b (Hc.out w3 (Hb3.out w1 w2 w3 h1 h2 h3) 17 (by decide) (by decide) (by decide) (by decide))).mono ?_
 rintro e w9 ⟨_, rfl, rfl, rfl⟩
 go_wp2_with fail
 refine (apNRuleTexts w3 b (Hc.out w3 (Hb3.out w1 w2 w3 h1 h2 h3) 19 (by decide) (by decide) (by decide) (by decide))).mono ?_
 rintro e w9 ⟨_, rfl, rfl, rfl⟩
 go_wp2_with fail
 refine (apNTotals w3 b (Hc.out w3 (Hb3.out w1 w2 w3 h1 h2 h3) 23 (by decide) (by decide) (by decide) (by decide))).mono ?_
 rintro e w9 ⟨_, rfl, rfl, rfl⟩
 go_wp2_with fail
 go_ret
 have hb1 := h1.below (m := b) (by omega) Hlow.out.1
 have hb2 := h2.below (m := b) (by have := h1.size; omega) Hlow.out.2.1
 have hb3 := h3.below (m := b) (by have := h1.size; have := h2.size; omega) Hlow.out.2.2
 exact Fin HQ ⟨rfl, hb1.trans (hb2.trans hb3)⟩
end Go.Proofs.Lx

namespace Go.Proofs.Lx
open Go Go.RowKit
set_option linter.unusedSimpArgs false
set_option linter.unusedVariables false

def hcnt (rs : List Rule) (q : Int) : Nat := rs.countP fun r => r.head == q
def cntUpto (rs : List Rule) (n k : Nat) : List Int := (List.range n).map fun (q : Nat) => (hcnt (rs.take k) (q : Int) : Int)
theorem cntUpto_length (rs : List Rule) (n k : Nat) : (cntUpto rs n k).length = n := by simp [cntUpto]
theorem cntUpto_zero (rs : List Rule) (n : Nat) : cntUpto rs n 0 = List.replicate n 0 := by
 apply List.ext_getElem <;> simp [cntUpto, hcnt]
theorem cntUpto_at (rs : List Rule) (n k q : Nat) (hq : q < n) : (cntUpto rs n k)[q]'(by rw [cntUpto_length]; exact hq) = (hcnt (rs.take k) (q : Int) : Int) := by simp [cntUpto]
theorem hcnt_le (rs : List Rule) (k : Nat) (q : Int) : hcnt (rs.take k) q ≤ k := by
 have h1 := List.countP_le_length (p := fun r : Rule => r.head == q) (l := rs.take k)
 have h2 : (rs.take k).length ≤ k := List.length_take_le _ _
 unfold hcnt; omega
theorem cntUpto_get (rs : List Rule) (n k q : Nat) (hq : q < n) : (cntUpto rs n k).getD q 0 = (hcnt (rs.take k) (q : Int) : Int) := by
 rw [List.getD_eq_getElem?_getD, List.getElem?_eq_getElem (by rw [cntUpto_length]; exact hq), cntUpto_at _ _ _ _ hq]; rfl
theorem cntUpto_succ (rs : List Rule) (n k : Nat) (hk : k < rs.length) (h0 : 0 ≤ rs[k].head) (h1 : rs[k].head < n) :
  cntUpto rs n (k + 1) = (cntUpto rs n k).set rs[k].head.toNat ((hcnt (rs.take k) rs[k].head : Int) + 1) := by
 apply List.ext_getElem
 ·simp [cntUpto_length]
 ·intro q hq1 hq2
  rw [cntUpto_length] at hq1
  rw [List.getElem_set, cntUpto_at _ _ _ _ hq1]
  rw [hcnt, List.take_succ_eq_append_getElem hk, List.countP_append]
  by_cases e : rs[k].head.toNat = q
  ·rw [if_pos e]
   subst e
   have : ((rs[k].head.toNat : Nat) : Int) = rs[k].head := by omega
   rw [this]
   simp [hcnt]
  ·rw [if_neg e, cntUpto_at _ _ _ _ hq1, hcnt]
   have : ¬ (rs[k].head = (q : Int)) := by omega
   simp [this]
def hList (rs : List Rule) (n : Nat) : List Int := (List.range n).map fun (q : Nat) => (hcnt rs (q : Int) : Int)
theorem hList_length (rs : List Rule) (n : Nat) : (hList rs n).length = n := by simp [hList]
theorem hList_at (rs : List Rule) (n : Nat) {q : Nat} (hq : q < n) : (hList rs n)[q]'(by rw [hList_length]; exact hq) = (hcnt rs (q : Int) : Int) := by simp [hList]
theorem cntUpto_all (rs : List Rule) (n : Nat) : cntUpto rs n rs.length = hList rs n := by simp [cntUpto, hList]
def pRow (rs : List Rule) (l : List Int) (q j : Nat) : Nat := ((l.take j).map fun f => hcnt rs q * hcnt rs f).sum
def pSum (rs : List Rule) (fo : List (List Int)) (k : Nat) : Nat := ((List.range k).map fun q => pRow rs (fo.getD q []) q (fo.getD q []).length).sum
/-- How many ordered pairs of rules have heads that are foes. -/
def pairCount (T : Th) : Nat := pSum T.rules T.foes T.foes.length
theorem hcnt_len (rs : List Rule) (q : Int) : hcnt rs q ≤ rs.length := List.countP_le_length
theorem pRow_succ {rs : List Rule} {l : List Int} {q j : Nat} (hj : j < l.length) : pRow rs l q (j + 1) = pRow rs l q j + hcnt rs q * hcnt rs l[j] := by
 unfold pRow; rw [List.take_succ_eq_append_getElem hj, List.map_append, List.sum_append]; simp
theorem pSum_succ {rs : List Rule} {fo : List (List Int)} {k : Nat} : pSum rs fo (k + 1) = pSum rs fo k + pRow rs (fo.getD k []) k (fo.getD k []).length := by
 unfold pSum; rw [List.range_succ, List.map_append, List.sum_append]; simp
theorem prod_le {a b : Nat} (ha : a ≤ 4096) (hb : b ≤ 4096) : a * b ≤ 16777216 := Nat.le_trans (Nat.mul_le_mul ha hb) (by decide)
theorem pRow_le {rs : List Rule} {l : List Int} {q : Nat} (hr : rs.length ≤ 4096) : ∀ j, j ≤ l.length → pRow rs l q j ≤ j * 16777216
 | 0, _ => by simp [pRow]
 | j + 1, h => by
  rw [pRow_succ (by omega)]
  have := pRow_le (l := l) (q := q) hr j (by omega)
  have := prod_le (Nat.le_trans (hcnt_len rs q) hr) (Nat.le_trans (hcnt_len rs l[j]) hr)
  omega
theorem pSum_le {rs : List Rule} {fo : List (List Int)} (hr : rs.length ≤ 4096) (hf : ∀ q, q < fo.length → (fo.getD q []).length ≤ 64) : ∀ k, k ≤ fo.length → pSum rs fo k ≤ k * 1073741824
 | 0, _ => by simp [pSum]
 | k + 1, h => by
  rw [pSum_succ]
  have := pSum_le hr hf k (by omega)
  have h2 := pRow_le (l := fo.getD k []) (q := k) hr _ (Nat.le_refl _)
  have h3 := hf k (by omega)
  have : (fo.getD k []).length * 16777216 ≤ 64 * 16777216 := Nat.mul_le_mul_right _ h3
  omega
theorem foesOk_spec {T : Th} (h : foesAll T = true) (q : Nat) (hq : q < T.foes.length) : T.foes[q].length ≤ 64 ∧ risB T.foes[q] T.lits = true ∧ memB T.foes[q] q = false ∧ ∀ f ∈ T.foes[q], memB (row T.foes f) q = true := by
 have := foesAll_true.1 h q hq
 simp only [foesOk, Bool.and_eq_true, decide_eq_true_eq, Bool.not_eq_true', List.all_eq_true] at this
 have e : T.foes.getD q [] = T.foes[q] := by simp [hq]
 rw [e] at this
 exact ⟨this.1.1.1, this.1.1.2, this.1.2, this.2⟩
theorem ruleOk_head {lits : Int} {r : Rule} (h : ruleOk lits r = true) : 0 ≤ r.head ∧ r.head < lits := by
 simp [ruleOk] at h; omega

set_option maxHeartbeats 1600000 in
theorem pairs_any (w : World) (V : Value) (T : Th) (hT : RdTh w V T) (hl : (T.foes.length : Int) = T.lits) (h4 : T.lits ≤ 4096) (hfo : foesAll T = true)
  (hru : T.rules.length ≤ 4096) (hrr : ∀ r ∈ T.rules, ruleOk T.lits r = true) :
  Calls Tryz.prog 83 #[V] w (Ret fun v w' => v = .int .i64 (pairCount T : Nat) ∧ Below w.heap.size w w') := by
 obtain ⟨lits, foes, rules, beats⟩ := T
 obtain ⟨vF, vR, vB, rfl, ⟨A, c, rfl, hc, hb, hr⟩, ⟨AR, cR, rfl, hcR, hbR, hrR⟩, _⟩ := hT
 dsimp only at *
 obtain rfl : lits = (foes.length : Int) := hl.symm
 clear hl
 have hbel := ext_alloc w (.cells #[.int .i64 foes.length, .slice A foes.length c, .slice AR rules.length cR, vB] 25)
 have hr1 := hr.ext llR_mono hbel
 have hrR1 := hrR.ext ruleR_mono hbel
 have hmk := mkI foes.length (by omega) (by omega)
 rw [Int.toNat_natCast] at hmk
 have Hfo := hid hfo
 have Hrr := hid hrr
 clear hr hrR hfo hrr
 refine post_gen fun Q HQ => ?_
 go_enter Tryz.func83, Tryz.ntmps83
 go_wp2
 clear hmk
 go_loopw [17] (fun v17 wr => ∃ k : Nat, k ≤ rules.length ∧ v17 = .int .i64 k ∧ Arr (Value.int .i64) 3 wr (w.heap.size + 1) (cntUpto rules foes.length k) ∧ Below (w.heap.size + 1) (w.alloc (.cells #[.int .i64 foes.length, .slice A foes.length c, .slice AR rules.length cR, vB] 25)) wr) (fun v17 _ => rules.length - (intOf v17).toNat)
 case atStart =>
  refine ⟨0, Nat.zero_le _, rfl, ?_, ?_⟩
  ·rw [cntUpto_zero]
   have := made_arr (Value.int .i64) (0 : Int) 3 (w.alloc (.cells #[.int .i64 foes.length, .slice A foes.length c, .slice AR rules.length cR, vB] 25)) foes.length
   simpa using this
  ·exact (Below.refl _ _).alloc (by simp) _
 case round =>
  obtain ⟨k, hk, rfl, harr, hbl⟩ := hrel
  have hbl' : Below (w.alloc (.cells #[.int .i64 foes.length, .slice A foes.length c, .slice AR rules.length cR, vB] 25)).heap.size (w.alloc (.cells #[.int .i64 foes.length, .slice A foes.length c, .slice AR rules.length cR, vB] 25)) wr := by simpa using hbl
  by_cases hlt : k < rules.length
  ·obtain ⟨ad, B, cB, rfl, hc0, hc1, hc2, hcB, hbB, hrB⟩ := (hrR1.ext ruleR_mono hbl').atRule hlt
   have Hrk := hid (Hrr.out _ (List.getElem_mem hlt))
   obtain ⟨hh0, hh1⟩ := ruleOk_head Hrk.out
   have hg := harr.lt
   have Hs := hid (cntUpto_succ rules foes.length k hlt hh0 hh1)
   have hhc := harr.cell (i := rules[k].head.toNat) (by rw [cntUpto_length]; omega)
   rw [cntUpto_at _ _ _ _ (by omega), show ((rules[k].head.toNat : Nat) : Int) = rules[k].head from by omega] at hhc
   have hhf := harr.free rules[k].head.toNat
   have hle := hcnt_le rules k rules[k].head
   generalize hcnt (rules.take k) rules[k].head = y at *
   generalize hh : rules[k].head = hd at *
   have Hh := hid hh
   clear hh
   go_wp2
   go_roundw
   case rel =>
    refine ⟨k + 1, by omega, by go_num, ?_, ?_⟩
    ·rw [Hs.out]
     exact (harr.set hd.toNat ((y : Int) + 1)).alloc _
    ·exact (hbl.setCell (Nat.le_refl _) _).alloc (by simp only [World.size_setCell]; omega) _
   case measure => simp [intOf]; omega
  ·have hk2 : k = rules.length := by omega
   subst hk2
   rw [cntUpto_all] at harr
   clear hlt hk hbl'
   have hb1 : wr.cell? ⟨w.heap.size, 1, none⟩ = some (.slice A foes.length c) := box_cell hbl 1
   go_wp2
   clear hb1
   obtain ⟨wo, hwo⟩ : ∃ wo : World, wo = wr := ⟨_, rfl⟩
   clear wo hwo
   go_loopw [32, 6] (fun v32 v6 w2 => ∃ k : Nat, k ≤ foes.length ∧ v32 = .int .i64 k ∧ v6 = .int .i64 (pSum rules foes k : Nat) ∧ Arr (Value.int .i64) 3 w2 (w.heap.size + 1) (hList rules foes.length) ∧ Below (w.heap.size + 1) (w.alloc (.cells #[.int .i64 foes.length, .slice A foes.length c, .slice AR rules.length cR, vB] 25)) w2) (fun v32 _ _ => foes.length - (intOf v32).toNat)
   case atStart => exact ⟨0, Nat.zero_le _, rfl, rfl, harr, hbl⟩
   case round =>
    clear harr hbl
    obtain ⟨k, hk, rfl, rfl, harr, hbl⟩ := hrel
    obtain ⟨wo, rfl⟩ : ∃ wo : World, wo = wr := ⟨_, rfl⟩
    by_cases hlt : k < foes.length
    ·have hbl' : Below (w.alloc (.cells #[.int .i64 foes.length, .slice A foes.length c, .slice AR rules.length cR, vB] 25)).heap.size (w.alloc (.cells #[.int .i64 foes.length, .slice A foes.length c, .slice AR rules.length cR, vB] 25)) wo := by simpa using hbl
     obtain ⟨ad, B, cB, rfl, hcell, hcB, hbB, hrB⟩ := (hr1.ext llR_mono hbl').atRow hlt
     obtain ⟨h64, hris, _, _⟩ := foesOk_spec Hfo.out k hlt
     have Hris := hid (risB_spec hris).1
     have hps := pSum_le (fo := foes) hru (fun q hq => by rw [List.getD_eq_getElem?_getD, List.getElem?_eq_getElem hq]; exact (foesOk_spec Hfo.out q hq).1) k (by omega)
     have Hgl : Hid (foes.getD k [] = foes[k]) := by simp [Hid, hlt]
     clear hris
     dsimp only at h64 Hris
     generalize hS : pSum rules foes k = S at *
     have HS := hid hS
     clear hS
     generalize hL : foes[k] = L at *
     have HL := hid hL
     clear hL
     go_wp2
     clear hcell
     go_loopw [39, 6] (fun v39 v6 w3 => ∃ j : Nat, j ≤ L.length ∧ v39 = .int .i64 j ∧ v6 = .int .i64 ((S + pRow rules L k j : Nat) : Int) ∧ Arr (Value.int .i64) 3 w3 (w.heap.size + 1) (hList rules foes.length) ∧ Below wo.heap.size wo w3) (fun v39 _ _ => L.length - (intOf v39).toNat)
     case atStart => exact ⟨0, Nat.zero_le _, rfl, by simp [pRow], harr, ext_refl _⟩
     case round =>
      obtain ⟨j, hj, rfl, rfl, harr3, hbl3⟩ := hrel
      have hpr := pRow_le (l := L) (q := k) hru j hj
      by_cases hjl : j < L.length
      ·obtain ⟨adb, rfl, hcj⟩ := (hrB.ext (scR_mono _) hbl3).at1 hjl
       have hrange := Hris.out j hjl
       have hX2 : L[j].toNat < foes.length := by omega
       have ha := harr3.cell (i := k) (by rw [hList_length]; omega)
       have hx := harr3.cell (i := L[j].toNat) (by rw [hList_length]; omega)
       rw [hList_at _ _ hlt] at ha
       rw [hList_at _ _ hX2] at hx
       have hp1 := prod_le (Nat.le_trans (hcnt_len rules k) hru) (Nat.le_trans (hcnt_len rules (L[j].toNat : Nat)) hru)
       have hee : ((L[j].toNat : Nat) : Int) = L[j] := by omega
       have Hps : Hid (pRow rules L k (j + 1) = pRow rules L k j + hcnt rules k * hcnt rules (L[j].toNat : Nat)) := by rw [hee]; exact pRow_succ hjl
       generalize pRow rules L k j = R at *
       generalize L[j] = X at *
       generalize hcnt rules k = a at *
       generalize hcnt rules (X.toNat : Nat) = b at *
       have hp2 : (a : Int) * b = ((a * b : Nat) : Int) := by simp
       have hp3 : 0 ≤ (a : Int) * b ∧ (a : Int) * b ≤ 16777216 := by omega
       obtain ⟨hp4, hp5⟩ := hp3
       have Hp2 := hid hp2
       clear hp2 hee
       go_wp2
       go_quiet (fail)
       go_wp2
       go_roundw
       case rel =>
        refine ⟨j + 1, by omega, by go_num, ?_, harr3.drewN _, below_drewN hbl3 _⟩
        rw [Hps.out]
        exact int_eq (by have := Hp2.out; omega)
       case measure => simp [intOf]; omega
      ·obtain rfl : j = L.length := by omega
       go_wp2
       go_roundw
       case rel =>
        refine ⟨k + 1, by omega, by go_num, ?_, harr3, hbl.trans (hbl3.mono (by have := hbl.size; simp at this; omega))⟩
        rw [pSum_succ, Hgl.out, HS.out]
       case measure => simp [intOf]; omega
    ·obtain rfl : k = foes.length := by omega
     go_wp2
     go_ret
     exact Fin HQ ⟨rfl, hbel.trans (hbl.mono (by omega))⟩
end Go.Proofs.Lx
