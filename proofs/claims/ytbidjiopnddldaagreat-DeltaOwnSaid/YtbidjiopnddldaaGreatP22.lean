/- Parts of the proof: Xs, Du, Aa. Plain: a rising list with one number more, with one less. No condition. -/
import Derived.Test.YtbidjiopnddldaaGreatP11
import Derived.Test.YtbidjiopnddldaaGreatP21
import Derived.Deep.RegionHeld3
import Derived.Test.YtbidjiopnddldaaGreatP14
import Derived.Test.YtbidjiopnddldaaGreatP3
import Derived.Deep.DeepCutAuto
namespace Go.Proofs.Lx
open Go Go.RowKit Go.Proofs.Tj
set_option linter.unusedVariables false
theorem ris_put {l : List Int} {n q : Int} {k : Nat} (hr : risB l n = true) (hq : 0 ≤ q ∧ q < n) (hlo : ∀ x ∈ l.take k, x < q) (hhi : ∀ x ∈ l.drop k, q < x) : risB (l.take k ++ q :: l.drop k) n = true := by
 obtain ⟨h1, h2⟩ := risB_spec hr
 have hm : ∀ x ∈ l, 0 ≤ x ∧ x < n := fun x hx => by obtain ⟨i, hi, rfl⟩ := List.getElem_of_mem hx; exact h1 i hi
 refine risB_of (fun i hi => ?_) ?_
 ·have hx := List.getElem_mem hi
  rw [List.mem_append, List.mem_cons] at hx
  rcases hx with hx | hx | hx
  ·exact hm _ (List.mem_of_mem_take hx)
  ·rw [hx]; exact hq
  ·exact hm _ (List.mem_of_mem_drop hx)
 ·rw [List.pairwise_append]
  refine ⟨h2.sublist (List.take_sublist _ _), List.pairwise_cons.2 ⟨hhi, h2.sublist (List.drop_sublist _ _)⟩, fun a ha b hb => ?_⟩
  rcases List.mem_cons.1 hb with rfl | hb
  ·exact hlo a ha
  ·have := hlo a ha; have := hhi b hb; omega
theorem mem_put {l : List Int} {q x : Int} {k : Nat} : x ∈ l.take k ++ q :: l.drop k ↔ x = q ∨ x ∈ l := by
 rw [List.mem_append, List.mem_cons]
 constructor
 ·rintro (h | h | h)
  ·exact .inr (List.mem_of_mem_take h)
  ·exact .inl h
  ·exact .inr (List.mem_of_mem_drop h)
 ·rintro (h | h)
  ·exact .inr (.inl h)
  ·rw [← List.take_append_drop k l, List.mem_append] at h
   exact h.imp id .inr
theorem ris_cut {l : List Int} {n : Int} {k : Nat} (hr : risB l n = true) : risB (l.take k ++ l.drop (k + 1)) n = true := by
 obtain ⟨h1, h2⟩ := risB_spec hr
 have hs : (l.take k ++ l.drop (k + 1)).Sublist l := by
  conv => rhs; rw [← List.take_append_drop k l]
  refine List.Sublist.append (List.Sublist.refl _) ?_
  rw [← List.drop_drop]
  exact List.drop_sublist _ _
 have hm : ∀ x ∈ l, 0 ≤ x ∧ x < n := fun x hx => by obtain ⟨i, hi, rfl⟩ := List.getElem_of_mem hx; exact h1 i hi
 exact risB_of (fun i hi => hm _ (hs.subset (List.getElem_mem hi))) (h2.sublist hs)
theorem mem_cut {l : List Int} {n q x : Int} {k : Nat} (hr : risB l n = true) (hk : k < l.length) (hq : l[k] = q) : x ∈ l.take k ++ l.drop (k + 1) ↔ x ∈ l ∧ x ≠ q := by
 have h2 := (risB_spec hr).2
 have hsplit : l = l.take k ++ l[k] :: l.drop (k + 1) := by
  rw [List.getElem_cons_drop, List.take_append_drop]
 have hp : (l.take k ++ l[k] :: l.drop (k + 1)).Pairwise (· < ·) := by rw [← hsplit]; exact h2
 rw [List.pairwise_append, List.pairwise_cons] at hp
 obtain ⟨_, ⟨p1, _⟩, p2⟩ := hp
 rw [hq] at p1 p2
 constructor
 ·intro h
  rw [List.mem_append] at h
  rcases h with h | h
  ·exact ⟨List.mem_of_mem_take h, by have := p2 x h q (by simp); omega⟩
  ·exact ⟨List.mem_of_mem_drop h, by have := p1 x h; omega⟩
 ·rintro ⟨h, hne⟩
  rw [hsplit, List.mem_append, List.mem_cons] at h
  rw [List.mem_append]
  rcases h with h | h | h
  ·exact .inl h
  ·rw [hq] at h; exact absurd h hne
  ·exact .inr h
/-- Facts that differ in one literal alone differ in its cone alone. -/
theorem odd_one {T : Th} {G F : List Int} {q : Int} (h : ∀ x : Int, x ≠ q → (x ∈ G ↔ x ∈ F)) : ∀ x : Nat, x < T.foes.length → ¬ InCone T [q] x → ((x : Int) ∈ G ↔ (x : Int) ∈ F) := fun x _ hn =>
 h x fun e => hn (.base (by rw [e]; simp))
end Go.Proofs.Lx

namespace Go.Proofs.Lx
open Go Go.RowKit Go.Proofs.Tj
set_option linter.unusedVariables false
set_option linter.unusedSimpArgs false
/-- A literal's change, if it changes. -/
def chOne (M M' : List Nat) (q : Int) : List (Int × Nat × Nat) := if M'.getD q.toNat 0 = M.getD q.toNat 0 then [] else [(q, M.getD q.toNat 0, M'.getD q.toNat 0)]
def chL (M M' : List Nat) (C : List Int) : List (Int × Nat × Nat) := C.flatMap (chOne M M')
theorem chL_succ {M M' : List Nat} {C : List Int} {i : Nat} (hi : i < C.length) : chL M M' (C.take (i + 1)) = chL M M' (C.take i) ++ chOne M M' C[i] := by
 unfold chL
 rw [List.take_succ_eq_append_getElem hi, List.flatMap_append]
 simp
theorem chL_le (M M' : List Nat) : ∀ C : List Int, (chL M M' C).length ≤ C.length
 | [] => by simp [chL]
 | q :: C => by
  have := chL_le M M' C
  unfold chL at this ⊢
  rw [List.flatMap_cons, List.length_append, List.length_cons]
  have : (chOne M M' q).length ≤ 1 := by unfold chOne; split <;> simp
  omega
def putC (M M' : List Nat) (C : List Int) : List Nat := C.foldl (fun X q => X.set q.toNat (M'.getD q.toNat 0)) M
theorem putC_succ {M M' : List Nat} {C : List Int} {i : Nat} (hi : i < C.length) : putC M M' (C.take (i + 1)) = (putC M M' (C.take i)).set C[i].toNat (M'.getD C[i].toNat 0) := by
 unfold putC
 rw [List.take_succ_eq_append_getElem hi, List.foldl_append]
 rfl
theorem putC_length (M M' : List Nat) : ∀ C : List Int, (putC M M' C).length = M.length := by
 intro C
 induction C generalizing M with
 | nil => rfl
 | cons q C ih =>
  show (putC (M.set q.toNat (M'.getD q.toNat 0)) M' C).length = _
  rw [ih, List.length_set]
theorem putC_at {M' : List Nat} {q : Nat} : ∀ (C : List Int) (M : List Nat), (∀ x ∈ C, 0 ≤ x) → q < M.length → (putC M M' C).getD q 0 = if (q : Int) ∈ C then M'.getD q 0 else M.getD q 0
 | [], M, _, _ => by simp [putC]
 | x :: C, M, h0, hq => by
  show (putC (M.set x.toNat (M'.getD x.toNat 0)) M' C).getD q 0 = _
  have hx := h0 x (by simp)
  rw [putC_at C _ (fun y hy => h0 y (by simp [hy])) (by rw [List.length_set]; exact hq)]
  by_cases h1 : (q : Int) ∈ C
  ·rw [if_pos h1, if_pos (by simp [h1])]
  ·rw [if_neg h1]
   by_cases h2 : x = (q : Int)
   ·subst h2
    rw [if_pos (by simp), Int.toNat_natCast]
    simp [hq]
   ·rw [if_neg (by simp [h1]; exact fun e => h2 e.symm)]
    have : x.toNat ≠ q := by omega
    simp [this]
theorem putC_all {M M' : List Nat} {C : List Int} (hl : M.length = M'.length) (h0 : ∀ x ∈ C, 0 ≤ x) (h : ∀ q : Nat, q < M.length → (q : Int) ∉ C → M.getD q 0 = M'.getD q 0) : putC M M' C = M' := by
 have hlen : (putC M M' C).length = M'.length := by rw [putC_length, hl]
 apply List.ext_getElem hlen
 intro q h1 h2
 have hq : q < M.length := by omega
 have e1 : (putC M M' C)[q] = (putC M M' C).getD q 0 := by simp [h1]
 have e2 : M'[q] = M'.getD q 0 := by simp [h2]
 rw [e1, e2, putC_at C M h0 hq]
 by_cases hm : (q : Int) ∈ C
 ·rw [if_pos hm]
 ·rw [if_neg hm]; exact h q hq hm
theorem putC_same {M M' : List Nat} {C : List Int} {i : Nat} (hi : i < C.length) (hq : C[i].toNat < M.length) (h0 : ∀ x ∈ C, 0 ≤ x) (hnd : C.Nodup) (h : M'.getD C[i].toNat 0 = M.getD C[i].toNat 0) : putC M M' (C.take (i + 1)) = putC M M' (C.take i) := by
 rw [putC_succ hi]
 have hx := h0 _ (List.getElem_mem hi)
 have h1 := putC_at (M' := M') (q := C[i].toNat) (C.take i) M (fun x hx => h0 x (List.mem_of_mem_take hx)) hq
 have h2 : (putC M M' (C.take i)).getD C[i].toNat 0 = M'.getD C[i].toNat 0 := by
  rw [h1]; split
  ·rfl
  ·exact h.symm
 rw [← h2]
 have hl : C[i].toNat < (putC M M' (C.take i)).length := by rw [putC_length]; exact hq
 rw [List.getD_eq_getElem?_getD, List.getElem?_eq_getElem hl]
 exact List.set_getElem_self hl
theorem putC_cur {M M' : List Nat} {C : List Int} {i : Nat} (hi : i < C.length) (hq : C[i].toNat < M.length) (h0 : ∀ x ∈ C, 0 ≤ x) (hnd : C.Nodup) : (putC M M' (C.take i)).getD C[i].toNat 0 = M.getD C[i].toNat 0 := by
 rw [putC_at _ M (fun x hx => h0 x (List.mem_of_mem_take hx)) hq]
 have hx := h0 _ (List.getElem_mem hi)
 have : ((C[i].toNat : Nat) : Int) ∉ C.take i := fun hm => by
  rw [Int.toNat_of_nonneg hx] at hm
  obtain ⟨j, hj, e⟩ := List.getElem_of_mem hm
  rw [List.getElem_take] at e
  rw [List.length_take] at hj
  have := ndI_inj hnd (by omega) hi e
  omega
 rw [if_neg this]
/-- The cells of changes. -/
def chV (L : List (Int × Nat × Nat)) : List Value := L.flatMap fun c => [.int .i64 c.1, .int .u8 (c.2.1 : Int), .int .u8 (c.2.2 : Int)]
theorem chV_snoc (L : List (Int × Nat × Nat)) (q : Int) (a b : Nat) : chV (L ++ [(q, a, b)]) = chV L ++ [.int .i64 q, .int .u8 (a : Int), .int .u8 (b : Int)] := by simp [chV]
theorem chOne_f {M M' : List Nat} {q : Int} (h : M'.getD q.toNat 0 = M.getD q.toNat 0) : chOne M M' q = [] := by unfold chOne; rw [if_pos h]
theorem chOne_t {M M' : List Nat} {q : Int} (h : M'.getD q.toNat 0 ≠ M.getD q.toNat 0) : chOne M M' q = [(q, M.getD q.toNat 0, M'.getD q.toNat 0)] := by unfold chOne; rw [if_neg h]
theorem six_at (T : Th) (l : List Int) : ∀ q, q < (solveM T l).length → (solveM T l).getD q 0 = 0 ∨ (solveM T l).getD q 0 = 2 ∨ (solveM T l).getD q 0 = 4 ∨ (solveM T l).getD q 0 = 5 ∨ (solveM T l).getD q 0 = 6 ∨ (solveM T l).getD q 0 = 10 := fun q hq => by
 have e : (solveM T l).getD q 0 = (solveM T l)[q] := by simp [hq]
 rw [e]; exact solve_six T l q hq
theorem infoCh : (Tryz.prog.info? 60).map (fun i => (i.zero, i.size, i.bytes)) = some (some (.agg #[.int .i64 0, .int .u8 0, .int .u8 0]), 3, 16) := by kernel_rfl
theorem step_append_own3 {P : Program} {ops : Array Oper} {o : Oper} {a : Act} {w : World} {K : Act → World → Prop} {Q : Exit → Act → World → Prop} {E : Prop}
  (hgd : o.guard = none) (s x : Operand) (t : TypeId)
  (ho : o.op = .call { callee := .builtin .append, args := #[s, x], argTypes := #[t, t] })
  (base : Nat) (e : TypeId) (z : Value) (bytes : Nat) (ht : P.underlying t = some (.slice e)) (hinfo : (P.info? e).map (fun i => (i.zero, i.size, i.bytes)) = some (some z, 3, bytes)) (hz : z.cells.size = 3)
  (v : Value) (n : Nat) (xs : List Value) (hs : a.eval s = v) (hown : w.ownsRow base e 3 v n xs)
  (ad : Addr) (y0 y1 y2 : Value) (hx : a.eval x = .slice (some ad) 1 1) (hnew : ∀ j u, [y0, y1, y2][j]? = some u → w.cell? (ad.add j) = some u) (h1 : ∀ u ∈ [y0, y1, y2], u.oneCell' = true)
  (h63 : n + 1 ≤ maxLen) (hbytes : (n + 1) * bytes ≤ 140737488355328) (hbase : base ≤ w.heap.size)
  (h : ∀ v' w', w'.ownsRow base e 3 v' (n + 1) (xs ++ [y0, y1, y2]) → w.grownBy w' v.ownBlock → (v'.ownBlock = v.ownBlock ∨ v'.ownBlock = some w.heap.size) → K (a.put o.dst v') w') :
  if Region.wanted o (yielded ops a.tmps) = true then Oper.wp P o a w K Q else E := by
 rw [if_pos (by simp [Region.wanted, hgd])]
 obtain ⟨i, hi, hz0, hz1, hz2⟩ := info_parts hinfo
 obtain ⟨v', w', hr, h2, h3, h4, h5⟩ := run_append_own_at (P := P) w base t o.type e i z 3 bytes ht hi hz0 hz1 hz2 hz (by omega) v n xs hown ad 1 1 [y0, y1, y2] rfl hnew h1 h63 hbytes hbase
 unfold Oper.wp execOp
 simp only [ho, resolve, invoke, builtin, Sem.run_bind, Sem.run_pure, Result.andThen_ok, List.map_toArray, List.map_cons, List.map_nil, hs, hx, hr]
 exact h v' w' h2 h3 h5
/-- All but a row's own block is as it was. -/
structure Kv (v : Value) (a b : World) : Prop where
 os : b.os = a.os
 tape : b.tape = a.tape
 output : b.output = a.output
 sz : a.heap.size ≤ b.heap.size
 old : ∀ k, k < a.heap.size → v.ownBlock ≠ some k → b.heap[k]? = a.heap[k]?
theorem Kv.refl (v : Value) (a : World) : Kv v a a := ⟨rfl, rfl, rfl, Nat.le_refl _, fun _ _ _ => rfl⟩
theorem Kv.trans {v : Value} {a b c : World} (h : Kv v a b) (k : Kv v b c) : Kv v a c := ⟨k.os.trans h.os, k.tape.trans h.tape, k.output.trans h.output, Nat.le_trans h.sz k.sz, fun j h1 h2 => (k.old j (Nat.lt_of_lt_of_le h1 h.sz) h2).trans (h.old j h1 h2)⟩
theorem Kv.below {v : Value} {a b : World} (h : Below a.heap.size a b) : Kv v a b := ⟨h.os, h.tape, h.output, h.size, fun k h1 _ => h.block k h1⟩
end Go.Proofs.Lx

namespace Go.Proofs.Lx
open Go Go.RowKit Go.Proofs.Tj
set_option linter.unusedVariables false
set_option linter.unusedSimpArgs false
def upto (n : Nat) : List Int := (List.range n).map fun (q : Nat) => (q : Int)
theorem upto_length (n : Nat) : (upto n).length = n := by simp [upto]
theorem upto_get {n i : Nat} (h : i < (upto n).length) : (upto n)[i] = (i : Int) := by simp [upto]
theorem chL_upto {M M' : List Nat} {p : Nat → Bool} {n : Nat} (h : ∀ i, i < n → p i = false → M'.getD i 0 = M.getD i 0) : chL M M' (pickL p n) = chL M M' (upto n) := by
 unfold chL pickL upto
 induction n with
 | zero => rfl
 | succ n ih =>
  rw [List.range_succ, List.filter_append, List.map_append, List.map_append, List.flatMap_append, List.flatMap_append, ih fun i hi => h i (by omega)]
  congr 1
  cases e : p n with
  | true => simp [e]
  | false =>
   have := h n (by omega) e
   simp only [List.getD_eq_getElem?_getD] at this; simp [e, chOne, this]
noncomputable def chgBody : Code := (Tryz.f24.body).getD .skip
noncomputable def chgB3 : Code := dB (dF (dS (dL (dB (dS (dF (dS (dS chgBody))))))))
noncomputable def chgR6C : Code := dT (dS chgB3)
set_option maxRecDepth 1000000 in
set_option maxHeartbeats 60000000 in
theorem chgR6 (wx : World) (B nx cx ny cy i m c cnt : Nat) (ax ay : Addr) (vo : Value) (cs : List Value) (e1 : wx.cell? (ax.add i) = some (.int .u8 (m : Int))) (e2 : wx.cell? (ay.add i) = some (.int .u8 (c : Int))) (hq : i < nx) (hi : i < ny) (hax : (ax.add i).block < B) (hay : (ay.add i).block < B) (hB : B ≤ wx.heap.size)
  (hown : wx.ownsRow B 60 3 vo cnt cs) (hcnt : cnt ≤ 1000000) (Q' : Exit → Act → World → Prop)
  (u2 u3 u4 u7 u8 u9 u10 u11 u12 u13 u14 u15 u16 u17 u18 u19 u20 u21 u22 u23 u24 u25 u26 u27 u28 u29 u30 u31 u32 u33 u34 u35 : Value)
  (hK : ∀ (x22 x23 x24 x25 x26 x27 x28 x29 x30 x31 x32 x33 x34 : Value) (wy : World) (v' : Value), wy.ownsRow B 60 3 v' (cnt + 1) (cs ++ [.int .i64 (i : Int), .int .u8 (m : Int), .int .u8 (c : Int)]) → Below B wx wy → Q' .normal ⟨#[.slice (some ax) nx cx, .slice (some ay) ny cy, u2, u3, u4, v', .int .i64 (i : Int), u7, u8, u9, u10, u11, u12, u13, u14, u15, u16, u17, u18, u19, u20, u21, x22, x23, x24, x25, x26, x27, x28, x29, x30, x31, x32, x33, x34, u35], []⟩ wy) :
  Code.wp Tryz.prog chgR6C Q' ⟨#[.slice (some ax) nx cx, .slice (some ay) ny cy, u2, u3, u4, vo, .int .i64 (i : Int), u7, u8, u9, u10, u11, u12, u13, u14, u15, u16, u17, u18, u19, u20, u21, u22, u23, u24, u25, u26, u27, u28, u29, u30, u31, u32, u33, u34, u35], []⟩ wx := by
 have HK := hid hK
 clear hK
 conv => arg 2; whnf
 have hi2 : (0 : Int) ≤ (i : Int) := by omega
 have hi3 : (i : Int) < (nx : Int) := by omega
 have hi4 : (i : Int) < (ny : Int) := by omega
 have HS : Hid (∀ W : World, (∀ k, k < B → W.heap[k]? = wx.heap[k]?) → (fun w' : World => w'.cell? (ax.add i) = some (.int .u8 (m : Int)) ∧ w'.cell? (ay.add i) = some (.int .u8 (c : Int))) W) := hid fun W hW =>
  ⟨(World.cell?_of_block (hW _ hax)).trans e1, (World.cell?_of_block (hW _ hay)).trans e2⟩
 have HS0 := hid (HS.out wx.drew fun k _ => rfl)
 have Hkeep : Hid (∀ cs : Array Value, (fun w' : World => w'.cell? (ax.add i) = some (.int .u8 (m : Int)) ∧ w'.cell? (ay.add i) = some (.int .u8 (c : Int))) ((wx.alloc (.cells cs 60)).drew)) := hid fun cs => HS.out _ fun k hk => Below.heap_alloc wx _ k (by omega)
 have Haft : Hid (∀ (cs : Array Value) (w' : World), ((wx.alloc (.cells cs 60)).drew).grownBy w' vo.ownBlock → (fun w' : World => w'.cell? (ax.add i) = some (.int .u8 (m : Int)) ∧ w'.cell? (ay.add i) = some (.int .u8 (c : Int))) w') := hid fun cs w' hg => by
  refine HS.out w' fun k hk => (hg.block k (Nat.lt_of_lt_of_le (Nat.lt_of_lt_of_le hk hB) (ext_alloc wx (.cells cs 60)).drew.size) (fun e => ?_)).trans (Below.heap_alloc wx _ k (by omega))
  have := (hown.lt k e.symm).1
  omega
 have Hown := hid hown
 have Hbel : Hid (∀ (cs : Array Value) (w' : World), ((wx.alloc (.cells cs 60)).drew).grownBy w' vo.ownBlock → Below B wx w') := hid fun cs w' hg =>
  below_grown ((((Below.refl B wx).alloc hB (.cells cs 60))).drew) (Nat.le_trans hB (ext_alloc wx (.cells cs 60)).drew.size) hg (fun k hk => (hown.lt k hk).1)
 clear hown
 refine wp_region_noPanic ?_
 refine wp_region_held_drew (S := (fun w' : World => w'.cell? (ax.add i) = some (.int .u8 (m : Int)) ∧ w'.cell? (ay.add i) = some (.int .u8 (c : Int)))) (by kernel_rfl) ?_ (fun hHeld => ?_)
 ·exact HS0.out
 refine wpAnyH_take (i := 0) (v := ?v1) (by simp only [List.getElem?_toArray, List.getElem?_cons_zero, List.getElem?_cons_succ]; rfl) (by kernel_rfl) (by kernel_rfl) (by kernel_rfl) (fun _ _ _ h => h) (Or.inl ⟨by rfl, ?hy1⟩) (by assumption) ?rest1
 case hy1 => (intro w hSw; (try dsimp only at hSw); go_simp) <;> try with_reducible rfl
 simp only [Act.put, List.setIfInBounds_toArray, List.set_cons_zero, List.set_cons_succ]
 refine wpAnyH_take (i := 1) (v := ?v2) (by simp only [List.getElem?_toArray, List.getElem?_cons_zero, List.getElem?_cons_succ]; rfl) (by kernel_rfl) (by kernel_rfl) (by kernel_rfl) (fun _ _ _ h => h) (Or.inl ⟨by rfl, ?hy2⟩) (by assumption) ?rest2
 case hy2 => (intro w hSw; (try dsimp only at hSw); go_simp) <;> try with_reducible rfl
 simp only [Act.put, List.setIfInBounds_toArray, List.set_cons_zero, List.set_cons_succ]
 refine wpAnyH_take (i := 2) (v := ?v3) (by simp only [List.getElem?_toArray, List.getElem?_cons_zero, List.getElem?_cons_succ]; rfl) (by kernel_rfl) (by kernel_rfl) (by kernel_rfl) (fun _ _ _ h => h) (Or.inl ⟨by rfl, ?hy3⟩) (by assumption) ?rest3
 case hy3 => (intro w hSw; (try dsimp only at hSw); go_simp) <;> try with_reducible rfl
 simp only [Act.put, List.setIfInBounds_toArray, List.set_cons_zero, List.set_cons_succ]
 refine wpAnyH_take (i := 3) (v := ?v4) (by simp only [List.getElem?_toArray, List.getElem?_cons_zero, List.getElem?_cons_succ]; rfl) (by kernel_rfl) (by kernel_rfl) (by kernel_rfl) (fun _ _ _ h => h) (Or.inl ⟨by rfl, ?hy4⟩) (by assumption) ?rest4
 case hy4 => (intro w hSw; (try dsimp only at hSw); go_simp) <;> try with_reducible rfl
 simp only [Act.put, List.setIfInBounds_toArray, List.set_cons_zero, List.set_cons_succ]
 refine wpAnyH_take (i := 4) (v := ?v5) (by simp only [List.getElem?_toArray, List.getElem?_cons_zero, List.getElem?_cons_succ]; rfl) (by kernel_rfl) (by kernel_rfl) (by kernel_rfl) (fun _ _ _ h => h) (Or.inl ⟨by rfl, ?hy5⟩) (by assumption) ?rest5
 case hy5 => (intro w hSw; (try dsimp only at hSw); go_simp) <;> try with_reducible rfl
 simp only [Act.put, List.setIfInBounds_toArray, List.set_cons_zero, List.set_cons_succ]
 refine wpAnyH_take (i := 5) (v := ?v6) (by simp only [List.getElem?_toArray, List.getElem?_cons_zero, List.getElem?_cons_succ]; rfl) (by kernel_rfl) (by kernel_rfl) (by kernel_rfl) (fun _ _ _ h => h) (Or.inl ⟨by rfl, ?hy6⟩) (by assumption) ?rest6
 case hy6 => (intro w hSw; (try dsimp only at hSw); go_simp) <;> try with_reducible rfl
 simp only [Act.put, List.setIfInBounds_toArray, List.set_cons_zero, List.set_cons_succ]
 refine wpAnyH_take (i := 6) (v := ?v7) (by simp only [List.getElem?_toArray, List.getElem?_cons_zero, List.getElem?_cons_succ]; rfl) (by kernel_rfl) (by kernel_rfl) (by kernel_rfl) (fun _ _ _ h => h) (Or.inl ⟨by rfl, ?hy7⟩) (by assumption) ?rest7
 case hy7 => (intro w hSw; (try dsimp only at hSw); go_simp) <;> try with_reducible rfl
 simp only [Act.put, List.setIfInBounds_toArray, List.set_cons_zero, List.set_cons_succ]
 refine wpAnyH_take (i := 7) (v := ?v8) (by simp only [List.getElem?_toArray, List.getElem?_cons_zero, List.getElem?_cons_succ]; rfl) (by kernel_rfl) (by kernel_rfl) (by kernel_rfl) (fun _ _ _ h => h) (Or.inl ⟨by rfl, ?hy8⟩) (by assumption) ?rest8
 case hy8 => (intro w hSw; (try dsimp only at hSw); go_simp) <;> try with_reducible rfl
 simp only [Act.put, List.setIfInBounds_toArray, List.set_cons_zero, List.set_cons_succ]
 refine wpAnyH_take (i := 8) (v := ?v9) (by simp only [List.getElem?_toArray, List.getElem?_cons_zero, List.getElem?_cons_succ]; rfl) (by kernel_rfl) (by kernel_rfl) (by kernel_rfl) (fun _ _ _ h => h) (Or.inl ⟨by rfl, ?hy9⟩) (by assumption) ?rest9
 case hy9 => (intro w hSw; (try dsimp only at hSw); go_simp) <;> try with_reducible rfl
 simp only [Act.put, List.setIfInBounds_toArray, List.set_cons_zero, List.set_cons_succ]
 refine wpAnyH_take (i := 9) (v := ?v10) (by simp only [List.getElem?_toArray, List.getElem?_cons_zero, List.getElem?_cons_succ]; rfl) (by kernel_rfl) (by kernel_rfl) (by kernel_rfl) (fun _ _ _ h => h) (Or.inl ⟨by rfl, ?hy10⟩) (by assumption) ?rest10
 case hy10 => (intro w hSw; (try dsimp only at hSw); go_simp) <;> try with_reducible rfl
 simp only [Act.put, List.setIfInBounds_toArray, List.set_cons_zero, List.set_cons_succ]
 refine wpAnyH_take (i := 10) (v := ?v11) (by simp only [List.getElem?_toArray, List.getElem?_cons_zero, List.getElem?_cons_succ]; rfl) (by kernel_rfl) (by kernel_rfl) (by kernel_rfl) (fun _ _ _ h => h) (Or.inl ⟨by rfl, ?hy11⟩) (by assumption) ?rest11
 case hy11 => (intro w hSw; (try dsimp only at hSw); go_simp) <;> try with_reducible rfl
 simp only [Act.put, List.setIfInBounds_toArray, List.set_cons_zero, List.set_cons_succ]
 refine wpAnyH_ready (rs := [11]) (by kernel_rfl) (by simp) ?_
 refine AllReadyH.cons (by simp only [List.getElem?_toArray, List.getElem?_cons_zero, List.getElem?_cons_succ]; rfl) (fun K9 hK9 => ?_) ?_
 rotate_left
 exact AllReadyH.nil
 go_simp
 refine hK9.out _ _ ?_ (fun hHeld => ?_)
 ·exact Hkeep.out _
 clear hK9 K9
 try simp only [Act.put, List.setIfInBounds_toArray, List.set_cons_zero, List.set_cons_succ]
 refine wpAnyH_ready (rs := [12]) (by kernel_rfl) (by simp) ?_
 refine AllReadyH.cons (by simp only [List.getElem?_toArray, List.getElem?_cons_zero, List.getElem?_cons_succ]; rfl) (fun K9 hK9 => ?_) ?_
 rotate_left
 exact AllReadyH.nil
 (refine step_append_own3 rfl (.tmp 22) (.tmp 33) 45 rfl B 60 (.agg #[.int .i64 0, .int .u8 0, .int .u8 0]) 16 Tryz.underlying45 infoCh rfl vo _ _ rfl (Hown.out.alloc _) ⟨wx.heap.size, 0, none⟩ (.int .i64 (i : Int)) (.int .u8 (m : Int)) (.int .u8 (c : Int)) rfl (cell_three_new wx _ _ _ _) (fun u hu => by simp at hu; rcases hu with rfl | rfl | rfl <;> rfl) (by unfold maxLen; omega) (by omega) (by simp; omega) ?_; intro v' w' hown2 hgrow hat; have hqS := Haft.out _ w' hgrow)
 refine hK9.out _ _ ?_ (fun hHeld => ?_)
 ·exact hqS
 clear hK9 K9
 try simp only [Act.put, List.setIfInBounds_toArray, List.set_cons_zero, List.set_cons_succ]
 refine wpAnyH_take (i := 13) (v := ?v12) (by simp only [List.getElem?_toArray, List.getElem?_cons_zero, List.getElem?_cons_succ]; rfl) (by kernel_rfl) (by kernel_rfl) (by kernel_rfl) (fun _ _ _ h => h) (Or.inl ⟨by rfl, ?hy12⟩) (by assumption) ?rest12
 case hy12 => (intro w hSw; (try dsimp only at hSw); go_simp) <;> try with_reducible rfl
 simp only [Act.put, List.setIfInBounds_toArray, List.set_cons_zero, List.set_cons_succ]
 refine wpAnyH_done (by kernel_rfl) (NoPanic.normal ?_) _
 clear hqS e1 e2
 exact HK.out _ _ _ _ _ _ _ _ _ _ _ _ _ _ _ hown2 (Hbel.out _ _ hgrow)
set_option maxRecDepth 1000000 in
set_option maxHeartbeats 12800000 in
theorem changes19_any (w : World) (v1 v2 : Value) (X Y : List Nat) (h1 : RdMk w v1 X) (h2 : RdMk w v2 Y) (hl : X.length = Y.length) (h4 : X.length ≤ 4096) :
  Calls Tryz.prog 24 #[v1, v2] w (Ret fun r w' => w'.ownsRow w.heap.size 60 3 r (chL X Y (upto X.length)).length (chV (chL X Y (upto X.length))) ∧ Below w.heap.size w w') := by
 obtain ⟨A, c, rfl, hc, hb, hr⟩ := h1
 obtain ⟨B, d, rfl, hd, hb2, hr2⟩ := h2
 refine post_gen fun Q HQ => ?_
 generalize hn : X.length = n at *
 have Hn := hid hn
 have Hl := hid hl
 clear hn
 rw [← hl] at hd hb2 ⊢
 clear hl
 go_enter Tryz.func24, Tryz.ntmps24
 go_wp2
 go_loopw [5, 6] (fun v5 v6 wr => ∃ k : Nat, k ≤ n ∧ v6 = .int .i64 k ∧ wr.ownsRow w.heap.size 60 3 v5 (chL X Y ((upto n).take k)).length (chV (chL X Y ((upto n).take k))) ∧ Below w.heap.size w wr) (fun _ v6 _ => n - (intOf v6).toNat)
 case atStart => exact ⟨0, Nat.zero_le _, rfl, World.ownsRow_nil _ _ _ _, ext_refl _⟩
 case round =>
  obtain ⟨k, hk, rfl, hown, hbl⟩ := hrel
  by_cases hlt : k < n
  ·have hx : k < X.length := by rw [Hn.out]; exact hlt
   have hy : k < Y.length := by rw [← Hl.out]; exact hlt
   obtain ⟨ad, rfl, hcX⟩ := (hr.ext (scR_mono _) hbl).at1 hx
   obtain ⟨ad2, rfl, hcY⟩ := (hr2.ext (scR_mono _) hbl).at1 hy
   have hup : k < (upto n).length := by rw [upto_length]; exact hlt
   have Hch := hid (chL_succ (M := X) (M' := Y) hup)
   have hbk1 : (ad.add k).block < w.heap.size := by obtain ⟨ad', e, h⟩ := hr.at1 hx; cases e; exact World.block_lt_of_cell? w _ h
   have hbk2 : (ad2.add k).block < w.heap.size := by obtain ⟨ad', e, h⟩ := hr2.at1 hy; cases e; exact World.block_lt_of_cell? w _ h
   have hle := chL_le X Y ((upto n).take k)
   rw [List.length_take] at hle
   have e1 : X.getD (upto n)[k].toNat 0 = X[k] := by rw [upto_get, Int.toNat_natCast]; simp [hx]
   have e2 : Y.getD (upto n)[k].toNat 0 = Y[k] := by rw [upto_get, Int.toNat_natCast]; simp [hy]
   obtain ⟨x, HX⟩ : ∃ x, Hid (X[k] = x) := ⟨_, hid rfl⟩
   obtain ⟨y, HY⟩ : ∃ y, Hid (Y[k] = y) := ⟨_, hid rfl⟩
   have Ho1 : Hid (x = y → chOne X Y (upto n)[k] = []) := hid fun h => chOne_f (by rw [e1, e2, HX.out, HY.out, h])
   have Ho2 : Hid (x ≠ y → chOne X Y (upto n)[k] = [((k : Int), x, y)]) := hid fun h => by rw [chOne_t (by rw [e1, e2, HX.out, HY.out]; exact fun e => h e.symm), e1, e2, HX.out, HY.out, upto_get]
   rw [HX.out] at hcX
   rw [HY.out] at hcY
   have Hown := hid hown
   have Hsz := hid hbl.size
   have Hbl := hid hbl
   clear hown e1 e2 hbl
   by_cases hxy : x = y
   ·have hne : ((x : Int) != (y : Int)) = false := by simp [hxy]
    have Ho := hid (Ho1.out hxy)
    clear Ho1 Ho2 hxy
    go_wp2
    go_region
    go_wp2
    go_roundw
    case rel => exact ⟨k + 1, by omega, by go_num, by rw [Hch.out, Ho.out, List.append_nil]; exact Hown.out.drew, Hbl.out.drew⟩
    case measure => simp [intOf]; omega
   ·have hne : ((x : Int) != (y : Int)) = true := by simp; omega
    have Ho := hid (Ho2.out hxy)
    clear Ho1 Ho2 hxy
    go_wp2
    go_region
    go_step
    go_step
    go_step
    clear hne
    have hord := Hown.out.drew
    refine chgR6 wr.drew w.heap.size n c n d k x y _ ad ad2 _ _ hcX hcY hlt hlt hbk1 hbk2 Hsz.out hord (by omega) _ _ _ _ _ _ _ _ _ _ _ _ _ _ _ _ _ _ _ _ _ _ _ _ _ _ _ _ _ _ _ _ _ ?_
    intro x22 x23 x24 x25 x26 x27 x28 x29 x30 x31 x32 x33 x34 wy v' hown2 hby
    have Hown2 := hid hown2
    have Hby := hid hby
    clear hown2 hby hord
    go_wp2
    go_roundw
    case rel =>
     refine ⟨k + 1, by omega, by go_num, ?_, ?_⟩
     ·rw [Hch.out, Ho.out, List.length_append, List.length_singleton, chV_snoc]; exact Hown2.out
     ·exact Hbl.out.drew.trans Hby.out
    case measure => simp [intOf]; omega
  ·obtain rfl : k = n := by omega
   rw [List.take_of_length_le (by rw [upto_length]; exact Nat.le_refl _)] at hown
   have Hown := hid hown
   clear hown
   go_wp2
   go_ret
   exact Fin HQ ⟨Hown.out, hbl⟩
end Go.Proofs.Lx
