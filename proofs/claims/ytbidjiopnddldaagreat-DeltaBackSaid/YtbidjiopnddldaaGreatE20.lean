/- Parts of the proof: Du, Dv. Plain: the changes that become tells, the marks that it writes; an append of three cells in a drawn region. No condition. -/
import Derived.Test.YtbidjiopnddldaaGreatE19
import Derived.Deep.RegionHeld3
import Derived.Test.YtbidjiopnddldaaGreatE3
import Derived.Deep.DeepCutAuto
namespace Go.Proofs.Lx
open Go Go.RowKit Go.Proofs.Tj
set_option linter.unusedVariables false
set_option linter.unusedSimpArgs false
/-- A literal's change, if it changes. -/
def chOne (M M' : List Nat) (q : Int) : List (Int × Nat × Nat) := if M'.getD q.toNat 0 = M.getD q.toNat 0 then [] else [(q, M.getD q.toNat 0, M'.getD q.toNat 0)]
def chL (M M' : List Nat) (C : List Int) : List (Int × Nat × Nat) := C.flatMap (chOne M M')
theorem chL_succ {M M' : List Nat} {C : List Int} {i : Nat} (hi : i < C.length) : chL M M' (C.take (i + 1)) = chL M M' (C.take i) ++ chOne M M' C[i] := by
 unfold chL
 rw [List.take_succ_eq_append_getElem hi, List.flatMap_append]
 simp
theorem chL_le (M M' : List Nat) : ∀ C : List Int, (chL M M' C).length ≤ C.length
 | [] => by simp [chL]
 | q :: C => by
  have := chL_le M M' C
  unfold chL at this ⊢
  rw [List.flatMap_cons, List.length_append, List.length_cons]
  have : (chOne M M' q).length ≤ 1 := by unfold chOne; split <;> simp
  omega
def putC (M M' : List Nat) (C : List Int) : List Nat := C.foldl (fun X q => X.set q.toNat (M'.getD q.toNat 0)) M
theorem putC_succ {M M' : List Nat} {C : List Int} {i : Nat} (hi : i < C.length) : putC M M' (C.take (i + 1)) = (putC M M' (C.take i)).set C[i].toNat (M'.getD C[i].toNat 0) := by
 unfold putC
 rw [List.take_succ_eq_append_getElem hi, List.foldl_append]
 rfl
theorem putC_length (M M' : List Nat) : ∀ C : List Int, (putC M M' C).length = M.length := by
 intro C
 induction C generalizing M with
 | nil => rfl
 | cons q C ih =>
  show (putC (M.set q.toNat (M'.getD q.toNat 0)) M' C).length = _
  rw [ih, List.length_set]
theorem putC_at {M' : List Nat} {q : Nat} : ∀ (C : List Int) (M : List Nat), (∀ x ∈ C, 0 ≤ x) → q < M.length → (putC M M' C).getD q 0 = if (q : Int) ∈ C then M'.getD q 0 else M.getD q 0
 | [], M, _, _ => by simp [putC]
 | x :: C, M, h0, hq => by
  show (putC (M.set x.toNat (M'.getD x.toNat 0)) M' C).getD q 0 = _
  have hx := h0 x (by simp)
  rw [putC_at C _ (fun y hy => h0 y (by simp [hy])) (by rw [List.length_set]; exact hq)]
  by_cases h1 : (q : Int) ∈ C
  ·rw [if_pos h1, if_pos (by simp [h1])]
  ·rw [if_neg h1]
   by_cases h2 : x = (q : Int)
   ·subst h2
    rw [if_pos (by simp), Int.toNat_natCast]
    simp [hq]
   ·rw [if_neg (by simp [h1]; exact fun e => h2 e.symm)]
    have : x.toNat ≠ q := by omega
    simp [this]
theorem putC_all {M M' : List Nat} {C : List Int} (hl : M.length = M'.length) (h0 : ∀ x ∈ C, 0 ≤ x) (h : ∀ q : Nat, q < M.length → (q : Int) ∉ C → M.getD q 0 = M'.getD q 0) : putC M M' C = M' := by
 have hlen : (putC M M' C).length = M'.length := by rw [putC_length, hl]
 apply List.ext_getElem hlen
 intro q h1 h2
 have hq : q < M.length := by omega
 have e1 : (putC M M' C)[q] = (putC M M' C).getD q 0 := by simp [h1]
 have e2 : M'[q] = M'.getD q 0 := by simp [h2]
 rw [e1, e2, putC_at C M h0 hq]
 by_cases hm : (q : Int) ∈ C
 ·rw [if_pos hm]
 ·rw [if_neg hm]; exact h q hq hm
theorem putC_same {M M' : List Nat} {C : List Int} {i : Nat} (hi : i < C.length) (hq : C[i].toNat < M.length) (h0 : ∀ x ∈ C, 0 ≤ x) (hnd : C.Nodup) (h : M'.getD C[i].toNat 0 = M.getD C[i].toNat 0) : putC M M' (C.take (i + 1)) = putC M M' (C.take i) := by
 rw [putC_succ hi]
 have hx := h0 _ (List.getElem_mem hi)
 have h1 := putC_at (M' := M') (q := C[i].toNat) (C.take i) M (fun x hx => h0 x (List.mem_of_mem_take hx)) hq
 have h2 : (putC M M' (C.take i)).getD C[i].toNat 0 = M'.getD C[i].toNat 0 := by
  rw [h1]; split
  ·rfl
  ·exact h.symm
 rw [← h2]
 have hl : C[i].toNat < (putC M M' (C.take i)).length := by rw [putC_length]; exact hq
 rw [List.getD_eq_getElem?_getD, List.getElem?_eq_getElem hl]
 exact List.set_getElem_self hl
theorem putC_cur {M M' : List Nat} {C : List Int} {i : Nat} (hi : i < C.length) (hq : C[i].toNat < M.length) (h0 : ∀ x ∈ C, 0 ≤ x) (hnd : C.Nodup) : (putC M M' (C.take i)).getD C[i].toNat 0 = M.getD C[i].toNat 0 := by
 rw [putC_at _ M (fun x hx => h0 x (List.mem_of_mem_take hx)) hq]
 have hx := h0 _ (List.getElem_mem hi)
 have : ((C[i].toNat : Nat) : Int) ∉ C.take i := fun hm => by
  rw [Int.toNat_of_nonneg hx] at hm
  obtain ⟨j, hj, e⟩ := List.getElem_of_mem hm
  rw [List.getElem_take] at e
  rw [List.length_take] at hj
  have := ndI_inj hnd (by omega) hi e
  omega
 rw [if_neg this]
/-- The cells of changes. -/
def chV (L : List (Int × Nat × Nat)) : List Value := L.flatMap fun c => [.int .i64 c.1, .int .u8 (c.2.1 : Int), .int .u8 (c.2.2 : Int)]
theorem chV_snoc (L : List (Int × Nat × Nat)) (q : Int) (a b : Nat) : chV (L ++ [(q, a, b)]) = chV L ++ [.int .i64 q, .int .u8 (a : Int), .int .u8 (b : Int)] := by simp [chV]
theorem chOne_f {M M' : List Nat} {q : Int} (h : M'.getD q.toNat 0 = M.getD q.toNat 0) : chOne M M' q = [] := by unfold chOne; rw [if_pos h]
theorem chOne_t {M M' : List Nat} {q : Int} (h : M'.getD q.toNat 0 ≠ M.getD q.toNat 0) : chOne M M' q = [(q, M.getD q.toNat 0, M'.getD q.toNat 0)] := by unfold chOne; rw [if_neg h]
theorem six_at (T : Th) (l : List Int) : ∀ q, q < (solveM T l).length → (solveM T l).getD q 0 = 0 ∨ (solveM T l).getD q 0 = 2 ∨ (solveM T l).getD q 0 = 4 ∨ (solveM T l).getD q 0 = 5 ∨ (solveM T l).getD q 0 = 6 ∨ (solveM T l).getD q 0 = 10 := fun q hq => by
 have e : (solveM T l).getD q 0 = (solveM T l)[q] := by simp [hq]
 rw [e]; exact solve_six T l q hq
theorem infoCh : (Tryz.prog.info? 60).map (fun i => (i.zero, i.size, i.bytes)) = some (some (.agg #[.int .i64 0, .int .u8 0, .int .u8 0]), 3, 16) := by kernel_rfl
theorem step_append_own3 {P : Program} {ops : Array Oper} {o : Oper} {a : Act} {w : World} {K : Act → World → Prop} {Q : Exit → Act → World → Prop} {E : Prop}
  (hgd : o.guard = none) (s x : Operand) (t : TypeId)
  (ho : o.op = .call { callee := .builtin .append, args := #[s, x], argTypes := #[t, t] })
  (base : Nat) (e : TypeId) (z : Value) (bytes : Nat) (ht : P.underlying t = some (.slice e)) (hinfo : (P.info? e).map (fun i => (i.zero, i.size, i.bytes)) = some (some z, 3, bytes)) (hz : z.cells.size = 3)
  (v : Value) (n : Nat) (xs : List Value) (hs : a.eval s = v) (hown : w.ownsRow base e 3 v n xs)
  (ad : Addr) (y0 y1 y2 : Value) (hx : a.eval x = .slice (some ad) 1 1) (hnew : ∀ j u, [y0, y1, y2][j]? = some u → w.cell? (ad.add j) = some u) (h1 : ∀ u ∈ [y0, y1, y2], u.oneCell' = true)
  (h63 : n + 1 ≤ maxLen) (hbytes : (n + 1) * bytes ≤ 140737488355328) (hbase : base ≤ w.heap.size)
  (h : ∀ v' w', w'.ownsRow base e 3 v' (n + 1) (xs ++ [y0, y1, y2]) → w.grownBy w' v.ownBlock → (v'.ownBlock = v.ownBlock ∨ v'.ownBlock = some w.heap.size) → K (a.put o.dst v') w') :
  if Region.wanted o (yielded ops a.tmps) = true then Oper.wp P o a w K Q else E := by
 rw [if_pos (by simp [Region.wanted, hgd])]
 obtain ⟨i, hi, hz0, hz1, hz2⟩ := info_parts hinfo
 obtain ⟨v', w', hr, h2, h3, h4, h5⟩ := run_append_own_at (P := P) w base t o.type e i z 3 bytes ht hi hz0 hz1 hz2 hz (by omega) v n xs hown ad 1 1 [y0, y1, y2] rfl hnew h1 h63 hbytes hbase
 unfold Oper.wp execOp
 simp only [ho, resolve, invoke, builtin, Sem.run_bind, Sem.run_pure, Result.andThen_ok, List.map_toArray, List.map_cons, List.map_nil, hs, hx, hr]
 exact h v' w' h2 h3 h5
/-- All but a row's own block is as it was. -/
structure Kv (v : Value) (a b : World) : Prop where
 os : b.os = a.os
 tape : b.tape = a.tape
 output : b.output = a.output
 sz : a.heap.size ≤ b.heap.size
 old : ∀ k, k < a.heap.size → v.ownBlock ≠ some k → b.heap[k]? = a.heap[k]?
theorem Kv.refl (v : Value) (a : World) : Kv v a a := ⟨rfl, rfl, rfl, Nat.le_refl _, fun _ _ _ => rfl⟩
theorem Kv.trans {v : Value} {a b c : World} (h : Kv v a b) (k : Kv v b c) : Kv v a c := ⟨k.os.trans h.os, k.tape.trans h.tape, k.output.trans h.output, Nat.le_trans h.sz k.sz, fun j h1 h2 => (k.old j (Nat.lt_of_lt_of_le h1 h.sz) h2).trans (h.old j h1 h2)⟩
theorem Kv.below {v : Value} {a b : World} (h : Below a.heap.size a b) : Kv v a b := ⟨h.os, h.tape, h.output, h.size, fun k h1 _ => h.block k h1⟩
end Go.Proofs.Lx

namespace Go.Proofs.Lx
open Go Go.RowKit Go.Proofs.Tj
set_option linter.unusedVariables false
set_option linter.unusedSimpArgs false
noncomputable def becBody : Code := (Tryz.f41.body).getD .skip
noncomputable def becRest : Code := dS (dS (dS (dS (dS becBody))))
noncomputable def becSegA : Code := dF (dS (dS (dS (dS becBody))))
noncomputable def becSegB : Code := dF (dS becRest)
noncomputable def becB3 : Code := dB (dF (dS (dS (dL (dB (dS becSegB))))))
noncomputable def becR17C : Code := dF (dS becB3)
noncomputable def becR18C : Code := dF (dT (dS (dS becB3)))
noncomputable def becR19C : Code := dS (dT (dS (dS becB3)))
set_option maxRecDepth 1000000 in
set_option maxHeartbeats 60000000 in
theorem becR18 (wx : World) (B x gM nM cM nm cm i q a c cnt : Nat) (am : Addr) (vo : Value) (cs : List Value) (e1 : wx.cell? ⟨x, 6, none⟩ = some (.slice (some ⟨gM, 0, none⟩) nM cM)) (e2 : wx.cell? ⟨gM, q, none⟩ = some (.int .u8 (a : Int))) (e3 : wx.cell? (am.add i) = some (.int .u8 (c : Int))) (hq : q < nM) (hi : i < nm) (hx : x < B) (hg : gM < B) (ham : (am.add i).block < B) (hB : B ≤ wx.heap.size)
  (hown : wx.ownsRow B 60 3 vo cnt cs) (hcnt : cnt ≤ 1000000) (Q' : Exit → Act → World → Prop)
  (u1 u2 u3 u4 u5 u6 u7 u8 u9 u11 u12 u13 u14 u18 u19 u20 u21 u22 u23 u24 u25 u26 u27 u28 u29 u30 u31 u32 u33 u34 u35 u36 u37 u38 u39 u40 u41 u42 u43 u44 u45 u46 u47 u48 u49 u50 u51 u52 u53 u54 u55 u56 u57 u58 u59 u60 u61 u62 u63 u64 u65 u66 u67 u68 u69 u70 u71 u72 u73 u74 u75 u76 u77 u78 u79 u80 u81 u82 u83 u84 u85 u86 u87 u88 u89 u90 u91 u92 u93 u94 u95 u96 u97 u98 u99 u100 u101 u102 u103 u104 u105 u106 u107 u108 u109 u110 u111 u112 u113 u114 u115 u116 u117 u118 u119 u120 u121 u122 u123 : Value)
  (hK : ∀ (x88 x89 x90 x91 x92 x93 x94 x95 x96 x97 x98 x99 x100 x101 x102 x103 : Value) (wy : World) (v' : Value), wy.ownsRow B 60 3 v' (cnt + 1) (cs ++ [.int .i64 (q : Int), .int .u8 (a : Int), .int .u8 (c : Int)]) → Below B wx wy → Q' .normal ⟨#[.pointer (some ⟨x, 0, none⟩), u1, u2, u3, u4, u5, u6, u7, u8, u9, .slice (some am) nm cm, u11, u12, u13, u14, v', .int .i64 (i : Int), .int .i64 (q : Int), u18, u19, u20, u21, u22, u23, u24, u25, u26, u27, u28, u29, u30, u31, u32, u33, u34, u35, u36, u37, u38, u39, u40, u41, u42, u43, u44, u45, u46, u47, u48, u49, u50, u51, u52, u53, u54, u55, u56, u57, u58, u59, u60, u61, u62, u63, u64, u65, u66, u67, u68, u69, u70, u71, u72, u73, u74, u75, u76, u77, u78, u79, u80, u81, u82, u83, u84, u85, u86, u87, x88, x89, x90, x91, x92, x93, x94, x95, x96, x97, x98, x99, x100, x101, x102, x103, u104, u105, u106, u107, u108, u109, u110, u111, u112, u113, u114, u115, u116, u117, u118, u119, u120, u121, u122, u123], []⟩ wy) :
  Code.wp Tryz.prog becR18C Q' ⟨#[.pointer (some ⟨x, 0, none⟩), u1, u2, u3, u4, u5, u6, u7, u8, u9, .slice (some am) nm cm, u11, u12, u13, u14, vo, .int .i64 (i : Int), .int .i64 (q : Int), u18, u19, u20, u21, u22, u23, u24, u25, u26, u27, u28, u29, u30, u31, u32, u33, u34, u35, u36, u37, u38, u39, u40, u41, u42, u43, u44, u45, u46, u47, u48, u49, u50, u51, u52, u53, u54, u55, u56, u57, u58, u59, u60, u61, u62, u63, u64, u65, u66, u67, u68, u69, u70, u71, u72, u73, u74, u75, u76, u77, u78, u79, u80, u81, u82, u83, u84, u85, u86, u87, u88, u89, u90, u91, u92, u93, u94, u95, u96, u97, u98, u99, u100, u101, u102, u103, u104, u105, u106, u107, u108, u109, u110, u111, u112, u113, u114, u115, u116, u117, u118, u119, u120, u121, u122, u123], []⟩ wx := by
 have HK := hid hK
 clear hK
 conv => arg 2; whnf
 have hi0 : (0 : Int) ≤ (q : Int) := by omega
 have hi1 : (q : Int) < (nM : Int) := by omega
 have hi2 : (0 : Int) ≤ (i : Int) := by omega
 have hi3 : (i : Int) < (nm : Int) := by omega
 have HS : Hid (∀ W : World, (∀ k, k < B → W.heap[k]? = wx.heap[k]?) → (fun w' : World => w'.cell? ⟨x, 6, none⟩ = some (.slice (some ⟨gM, 0, none⟩) nM cM) ∧ w'.cell? ⟨gM, q, none⟩ = some (.int .u8 (a : Int)) ∧ w'.cell? (am.add i) = some (.int .u8 (c : Int))) W) := hid fun W hW =>
  ⟨(World.cell?_of_block (hW _ hx)).trans e1, (World.cell?_of_block (hW _ hg)).trans e2, (World.cell?_of_block (hW _ ham)).trans e3⟩
 have HS0 := hid (HS.out wx.drew fun k _ => rfl)
 have Hkeep : Hid (∀ cs : Array Value, (fun w' : World => w'.cell? ⟨x, 6, none⟩ = some (.slice (some ⟨gM, 0, none⟩) nM cM) ∧ w'.cell? ⟨gM, q, none⟩ = some (.int .u8 (a : Int)) ∧ w'.cell? (am.add i) = some (.int .u8 (c : Int))) ((wx.alloc (.cells cs 60)).drew)) := hid fun cs => HS.out _ fun k hk => Below.heap_alloc wx _ k (by omega)
 have Haft : Hid (∀ (cs : Array Value) (w' : World), ((wx.alloc (.cells cs 60)).drew).grownBy w' vo.ownBlock → (fun w' : World => w'.cell? ⟨x, 6, none⟩ = some (.slice (some ⟨gM, 0, none⟩) nM cM) ∧ w'.cell? ⟨gM, q, none⟩ = some (.int .u8 (a : Int)) ∧ w'.cell? (am.add i) = some (.int .u8 (c : Int))) w') := hid fun cs w' hg => by
  refine HS.out w' fun k hk => (hg.block k (Nat.lt_of_lt_of_le (Nat.lt_of_lt_of_le hk hB) (ext_alloc wx (.cells cs 60)).drew.size) (fun e => ?_)).trans (Below.heap_alloc wx _ k (by omega))
  have := (hown.lt k e.symm).1
  omega
 have Hown := hid hown
 have Hbel : Hid (∀ (cs : Array Value) (w' : World), ((wx.alloc (.cells cs 60)).drew).grownBy w' vo.ownBlock → Below B wx w') := hid fun cs w' hg =>
  below_grown ((((Below.refl B wx).alloc hB (.cells cs 60))).drew) (Nat.le_trans hB (ext_alloc wx (.cells cs 60)).drew.size) hg (fun k hk => (hown.lt k hk).1)
 clear hown
 refine wp_region_noPanic ?_
 refine wp_region_held_drew (S := (fun w' : World => w'.cell? ⟨x, 6, none⟩ = some (.slice (some ⟨gM, 0, none⟩) nM cM) ∧ w'.cell? ⟨gM, q, none⟩ = some (.int .u8 (a : Int)) ∧ w'.cell? (am.add i) = some (.int .u8 (c : Int)))) (by kernel_rfl) ?_ (fun hHeld => ?_)
 ·exact HS0.out
 refine wpAnyH_take (i := 0) (v := ?v1) rfl (by kernel_rfl) (by kernel_rfl) (by kernel_rfl) (fun _ _ _ h => h) (Or.inl ⟨by rfl, ?hy1⟩) (by assumption) ?rest1
 case hy1 => (intro w hSw; (try dsimp only at hSw); go_simp) <;> try with_reducible rfl
 simp only [Act.put, List.setIfInBounds_toArray, List.set_cons_zero, List.set_cons_succ]
 refine wpAnyH_take (i := 1) (v := ?v2) rfl (by kernel_rfl) (by kernel_rfl) (by kernel_rfl) (fun _ _ _ h => h) (Or.inl ⟨by rfl, ?hy2⟩) (by assumption) ?rest2
 case hy2 => (intro w hSw; (try dsimp only at hSw); go_simp) <;> try with_reducible rfl
 simp only [Act.put, List.setIfInBounds_toArray, List.set_cons_zero, List.set_cons_succ]
 refine wpAnyH_take (i := 2) (v := ?v3) rfl (by kernel_rfl) (by kernel_rfl) (by kernel_rfl) (fun _ _ _ h => h) (Or.inl ⟨by rfl, ?hy3⟩) (by assumption) ?rest3
 case hy3 => (intro w hSw; (try dsimp only at hSw); go_simp) <;> try with_reducible rfl
 simp only [Act.put, List.setIfInBounds_toArray, List.set_cons_zero, List.set_cons_succ]
 refine wpAnyH_take (i := 3) (v := ?v4) rfl (by kernel_rfl) (by kernel_rfl) (by kernel_rfl) (fun _ _ _ h => h) (Or.inl ⟨by rfl, ?hy4⟩) (by assumption) ?rest4
 case hy4 => (intro w hSw; (try dsimp only at hSw); go_simp) <;> try with_reducible rfl
 simp only [Act.put, List.setIfInBounds_toArray, List.set_cons_zero, List.set_cons_succ]
 refine wpAnyH_take (i := 4) (v := ?v5) rfl (by kernel_rfl) (by kernel_rfl) (by kernel_rfl) (fun _ _ _ h => h) (Or.inl ⟨by rfl, ?hy5⟩) (by assumption) ?rest5
 case hy5 => (intro w hSw; (try dsimp only at hSw); go_simp) <;> try with_reducible rfl
 simp only [Act.put, List.setIfInBounds_toArray, List.set_cons_zero, List.set_cons_succ]
 refine wpAnyH_take (i := 5) (v := ?v6) rfl (by kernel_rfl) (by kernel_rfl) (by kernel_rfl) (fun _ _ _ h => h) (Or.inl ⟨by rfl, ?hy6⟩) (by assumption) ?rest6
 case hy6 => (intro w hSw; (try dsimp only at hSw); go_simp) <;> try with_reducible rfl
 simp only [Act.put, List.setIfInBounds_toArray, List.set_cons_zero, List.set_cons_succ]
 refine wpAnyH_take (i := 6) (v := ?v7) rfl (by kernel_rfl) (by kernel_rfl) (by kernel_rfl) (fun _ _ _ h => h) (Or.inl ⟨by rfl, ?hy7⟩) (by assumption) ?rest7
 case hy7 => (intro w hSw; (try dsimp only at hSw); go_simp) <;> try with_reducible rfl
 simp only [Act.put, List.setIfInBounds_toArray, List.set_cons_zero, List.set_cons_succ]
 refine wpAnyH_take (i := 7) (v := ?v8) rfl (by kernel_rfl) (by kernel_rfl) (by kernel_rfl) (fun _ _ _ h => h) (Or.inl ⟨by rfl, ?hy8⟩) (by assumption) ?rest8
 case hy8 => (intro w hSw; (try dsimp only at hSw); go_simp) <;> try with_reducible rfl
 simp only [Act.put, List.setIfInBounds_toArray, List.set_cons_zero, List.set_cons_succ]
 refine wpAnyH_take (i := 8) (v := ?v9) rfl (by kernel_rfl) (by kernel_rfl) (by kernel_rfl) (fun _ _ _ h => h) (Or.inl ⟨by rfl, ?hy9⟩) (by assumption) ?rest9
 case hy9 => (intro w hSw; (try dsimp only at hSw); go_simp) <;> try with_reducible rfl
 simp only [Act.put, List.setIfInBounds_toArray, List.set_cons_zero, List.set_cons_succ]
 refine wpAnyH_take (i := 9) (v := ?v10) rfl (by kernel_rfl) (by kernel_rfl) (by kernel_rfl) (fun _ _ _ h => h) (Or.inl ⟨by rfl, ?hy10⟩) (by assumption) ?rest10
 case hy10 => (intro w hSw; (try dsimp only at hSw); go_simp) <;> try with_reducible rfl
 simp only [Act.put, List.setIfInBounds_toArray, List.set_cons_zero, List.set_cons_succ]
 refine wpAnyH_take (i := 10) (v := ?v11) rfl (by kernel_rfl) (by kernel_rfl) (by kernel_rfl) (fun _ _ _ h => h) (Or.inl ⟨by rfl, ?hy11⟩) (by assumption) ?rest11
 case hy11 => (intro w hSw; (try dsimp only at hSw); go_simp) <;> try with_reducible rfl
 simp only [Act.put, List.setIfInBounds_toArray, List.set_cons_zero, List.set_cons_succ]
 refine wpAnyH_take (i := 11) (v := ?v12) rfl (by kernel_rfl) (by kernel_rfl) (by kernel_rfl) (fun _ _ _ h => h) (Or.inl ⟨by rfl, ?hy12⟩) (by assumption) ?rest12
 case hy12 => (intro w hSw; (try dsimp only at hSw); go_simp) <;> try with_reducible rfl
 simp only [Act.put, List.setIfInBounds_toArray, List.set_cons_zero, List.set_cons_succ]
 refine wpAnyH_take (i := 12) (v := ?v13) rfl (by kernel_rfl) (by kernel_rfl) (by kernel_rfl) (fun _ _ _ h => h) (Or.inl ⟨by rfl, ?hy13⟩) (by assumption) ?rest13
 case hy13 => (intro w hSw; (try dsimp only at hSw); go_simp) <;> try with_reducible rfl
 simp only [Act.put, List.setIfInBounds_toArray, List.set_cons_zero, List.set_cons_succ]
 refine wpAnyH_take (i := 13) (v := ?v14) rfl (by kernel_rfl) (by kernel_rfl) (by kernel_rfl) (fun _ _ _ h => h) (Or.inl ⟨by rfl, ?hy14⟩) (by assumption) ?rest14
 case hy14 => (intro w hSw; (try dsimp only at hSw); go_simp) <;> try with_reducible rfl
 simp only [Act.put, List.setIfInBounds_toArray, List.set_cons_zero, List.set_cons_succ]
 refine wpAnyH_ready (rs := [14]) (by kernel_rfl) (by simp) ?_
 refine AllReadyH.cons rfl (fun K9 hK9 => ?_) AllReadyH.nil
 go_simp
 refine hK9.out _ _ ?_ (fun hHeld => ?_)
 ·exact Hkeep.out _
 clear hK9 K9
 try simp only [Act.put, List.setIfInBounds_toArray, List.set_cons_zero, List.set_cons_succ]
 refine wpAnyH_ready (rs := [15]) (by kernel_rfl) (by simp) ?_
 refine AllReadyH.cons rfl (fun K9 hK9 => ?_) AllReadyH.nil
 (refine step_append_own3 rfl (.tmp 88) (.tmp 102) 45 rfl B 60 (.agg #[.int .i64 0, .int .u8 0, .int .u8 0]) 16 Tryz.underlying45 infoCh rfl vo _ _ rfl (Hown.out.alloc _) ⟨wx.heap.size, 0, none⟩ (.int .i64 (q : Int)) (.int .u8 (a : Int)) (.int .u8 (c : Int)) rfl (cell_three_new wx _ _ _ _) (fun u hu => by simp at hu; rcases hu with rfl | rfl | rfl <;> rfl) (by unfold maxLen; omega) (by omega) (by simp; omega) ?_; intro v' w' hown2 hgrow hat; have hqS := Haft.out _ w' hgrow)
 refine hK9.out _ _ ?_ (fun hHeld => ?_)
 ·exact hqS
 clear hK9 K9
 try simp only [Act.put, List.setIfInBounds_toArray, List.set_cons_zero, List.set_cons_succ]
 refine wpAnyH_take (i := 16) (v := ?v15) rfl (by kernel_rfl) (by kernel_rfl) (by kernel_rfl) (fun _ _ _ h => h) (Or.inl ⟨by rfl, ?hy15⟩) (by assumption) ?rest15
 case hy15 => (intro w hSw; (try dsimp only at hSw); go_simp) <;> try with_reducible rfl
 simp only [Act.put, List.setIfInBounds_toArray, List.set_cons_zero, List.set_cons_succ]
 refine wpAnyH_done (by kernel_rfl) (NoPanic.normal ?_) _
 clear hqS e1 e2 e3
 exact HK.out _ _ _ _ _ _ _ _ _ _ _ _ _ _ _ _ _ _ hown2 (Hbel.out _ _ hgrow)
set_option maxRecDepth 1000000 in
set_option maxHeartbeats 60000000 in
theorem becR19 (wx : World) (x gM nM cM nm cm i q c : Nat) (am : Addr) (vo : Value) (u9 : Value) (e1 : wx.cell? ⟨x, 6, none⟩ = some (.slice (some ⟨gM, 0, none⟩) nM cM)) (e2 : wx.cell? ⟨gM, q, none⟩ = some u9) (hfz : wx.frozen? ⟨gM, q, none⟩ = false) (e3 : wx.cell? (am.add i) = some (.int .u8 (c : Int))) (hq : q < nM) (hi : i < nm) (hx : x ≠ gM) (ham : (am.add i).block ≠ gM) (Q' : Exit → Act → World → Prop)
  (u1 u2 u3 u4 u5 u6 u7 u8 uu9 u11 u12 u13 u14 u18 u19 u20 u21 u22 u23 u24 u25 u26 u27 u28 u29 u30 u31 u32 u33 u34 u35 u36 u37 u38 u39 u40 u41 u42 u43 u44 u45 u46 u47 u48 u49 u50 u51 u52 u53 u54 u55 u56 u57 u58 u59 u60 u61 u62 u63 u64 u65 u66 u67 u68 u69 u70 u71 u72 u73 u74 u75 u76 u77 u78 u79 u80 u81 u82 u83 u84 u85 u86 u87 u88 u89 u90 u91 u92 u93 u94 u95 u96 u97 u98 u99 u100 u101 u102 u103 u104 u105 u106 u107 u108 u109 u110 u111 u112 u113 u114 u115 u116 u117 u118 u119 u120 u121 u122 u123 : Value)
  (hK : ∀ (x104 x105 x106 x107 x108 x109 x110 x111 x112 x113 : Value) (wy : World), wy = (wx.setCell ⟨gM, q, none⟩ (.int .u8 (c : Int))).drew → Q' .normal ⟨#[.pointer (some ⟨x, 0, none⟩), u1, u2, u3, u4, u5, u6, u7, u8, uu9, .slice (some am) nm cm, u11, u12, u13, u14, vo, .int .i64 (i : Int), .int .i64 (q : Int), u18, u19, u20, u21, u22, u23, u24, u25, u26, u27, u28, u29, u30, u31, u32, u33, u34, u35, u36, u37, u38, u39, u40, u41, u42, u43, u44, u45, u46, u47, u48, u49, u50, u51, u52, u53, u54, u55, u56, u57, u58, u59, u60, u61, u62, u63, u64, u65, u66, u67, u68, u69, u70, u71, u72, u73, u74, u75, u76, u77, u78, u79, u80, u81, u82, u83, u84, u85, u86, u87, u88, u89, u90, u91, u92, u93, u94, u95, u96, u97, u98, u99, u100, u101, u102, u103, x104, x105, x106, x107, x108, x109, x110, x111, x112, x113, u114, u115, u116, u117, u118, u119, u120, u121, u122, u123], []⟩ wy) :
  Code.wp Tryz.prog becR19C Q' ⟨#[.pointer (some ⟨x, 0, none⟩), u1, u2, u3, u4, u5, u6, u7, u8, uu9, .slice (some am) nm cm, u11, u12, u13, u14, vo, .int .i64 (i : Int), .int .i64 (q : Int), u18, u19, u20, u21, u22, u23, u24, u25, u26, u27, u28, u29, u30, u31, u32, u33, u34, u35, u36, u37, u38, u39, u40, u41, u42, u43, u44, u45, u46, u47, u48, u49, u50, u51, u52, u53, u54, u55, u56, u57, u58, u59, u60, u61, u62, u63, u64, u65, u66, u67, u68, u69, u70, u71, u72, u73, u74, u75, u76, u77, u78, u79, u80, u81, u82, u83, u84, u85, u86, u87, u88, u89, u90, u91, u92, u93, u94, u95, u96, u97, u98, u99, u100, u101, u102, u103, u104, u105, u106, u107, u108, u109, u110, u111, u112, u113, u114, u115, u116, u117, u118, u119, u120, u121, u122, u123], []⟩ wx := by
 have HK := hid hK
 clear hK
 conv => arg 2; whnf
 have hi0 : (0 : Int) ≤ (q : Int) := by omega
 have hi1 : (q : Int) < (nM : Int) := by omega
 have hi2 : (0 : Int) ≤ (i : Int) := by omega
 have hi3 : (i : Int) < (nm : Int) := by omega
 have HS0 : Hid ((fun w' : World => w'.cell? ⟨x, 6, none⟩ = some (.slice (some ⟨gM, 0, none⟩) nM cM) ∧ w'.cell? (am.add i) = some (.int .u8 (c : Int))) wx.drew) := hid ⟨e1, e3⟩
 have Hst : Hid (∀ u : Value, (fun w' : World => w'.cell? ⟨x, 6, none⟩ = some (.slice (some ⟨gM, 0, none⟩) nM cM) ∧ w'.cell? (am.add i) = some (.int .u8 (c : Int))) (wx.drew.setCell ⟨gM, q, none⟩ u)) := hid fun u => ⟨by rw [World.cell?_setCell_far _ _ _ _ (Ne.symm hx)]; exact e1, by rw [World.cell?_setCell_far _ _ _ _ (Ne.symm ham)]; exact e3⟩
 refine wp_region_noPanic ?_
 refine wp_region_held_drew (S := (fun w' : World => w'.cell? ⟨x, 6, none⟩ = some (.slice (some ⟨gM, 0, none⟩) nM cM) ∧ w'.cell? (am.add i) = some (.int .u8 (c : Int)))) (by kernel_rfl) ?_ (fun hHeld => ?_)
 ·exact HS0.out
 refine wpAnyH_take (i := 0) (v := ?v1) rfl (by kernel_rfl) (by kernel_rfl) (by kernel_rfl) (fun _ _ _ h => h) (Or.inl ⟨by rfl, ?hy1⟩) (by assumption) ?rest1
 case hy1 => (intro w hSw; (try dsimp only at hSw); go_simp) <;> try with_reducible rfl
 simp only [Act.put, List.setIfInBounds_toArray, List.set_cons_zero, List.set_cons_succ]
 refine wpAnyH_take (i := 1) (v := ?v2) rfl (by kernel_rfl) (by kernel_rfl) (by kernel_rfl) (fun _ _ _ h => h) (Or.inl ⟨by rfl, ?hy2⟩) (by assumption) ?rest2
 case hy2 => (intro w hSw; (try dsimp only at hSw); go_simp) <;> try with_reducible rfl
 simp only [Act.put, List.setIfInBounds_toArray, List.set_cons_zero, List.set_cons_succ]
 refine wpAnyH_take (i := 2) (v := ?v3) rfl (by kernel_rfl) (by kernel_rfl) (by kernel_rfl) (fun _ _ _ h => h) (Or.inl ⟨by rfl, ?hy3⟩) (by assumption) ?rest3
 case hy3 => (intro w hSw; (try dsimp only at hSw); go_simp) <;> try with_reducible rfl
 simp only [Act.put, List.setIfInBounds_toArray, List.set_cons_zero, List.set_cons_succ]
 refine wpAnyH_take (i := 3) (v := ?v4) rfl (by kernel_rfl) (by kernel_rfl) (by kernel_rfl) (fun _ _ _ h => h) (Or.inl ⟨by rfl, ?hy4⟩) (by assumption) ?rest4
 case hy4 => (intro w hSw; (try dsimp only at hSw); go_simp) <;> try with_reducible rfl
 simp only [Act.put, List.setIfInBounds_toArray, List.set_cons_zero, List.set_cons_succ]
 refine wpAnyH_take (i := 4) (v := ?v5) rfl (by kernel_rfl) (by kernel_rfl) (by kernel_rfl) (fun _ _ _ h => h) (Or.inl ⟨by rfl, ?hy5⟩) (by assumption) ?rest5
 case hy5 => (intro w hSw; (try dsimp only at hSw); go_simp) <;> try with_reducible rfl
 simp only [Act.put, List.setIfInBounds_toArray, List.set_cons_zero, List.set_cons_succ]
 refine wpAnyH_take (i := 5) (v := ?v6) rfl (by kernel_rfl) (by kernel_rfl) (by kernel_rfl) (fun _ _ _ h => h) (Or.inl ⟨by rfl, ?hy6⟩) (by assumption) ?rest6
 case hy6 => (intro w hSw; (try dsimp only at hSw); go_simp) <;> try with_reducible rfl
 simp only [Act.put, List.setIfInBounds_toArray, List.set_cons_zero, List.set_cons_succ]
 refine wpAnyH_take (i := 6) (v := ?v7) rfl (by kernel_rfl) (by kernel_rfl) (by kernel_rfl) (fun _ _ _ h => h) (Or.inl ⟨by rfl, ?hy7⟩) (by assumption) ?rest7
 case hy7 => (intro w hSw; (try dsimp only at hSw); go_simp) <;> try with_reducible rfl
 simp only [Act.put, List.setIfInBounds_toArray, List.set_cons_zero, List.set_cons_succ]
 refine wpAnyH_take (i := 7) (v := ?v8) rfl (by kernel_rfl) (by kernel_rfl) (by kernel_rfl) (fun _ _ _ h => h) (Or.inl ⟨by rfl, ?hy8⟩) (by assumption) ?rest8
 case hy8 => (intro w hSw; (try dsimp only at hSw); go_simp) <;> try with_reducible rfl
 simp only [Act.put, List.setIfInBounds_toArray, List.set_cons_zero, List.set_cons_succ]
 refine wpAnyH_take (i := 8) (v := ?v9) rfl (by kernel_rfl) (by kernel_rfl) (by kernel_rfl) (fun _ _ _ h => h) (Or.inl ⟨by rfl, ?hy9⟩) (by assumption) ?rest9
 case hy9 => (intro w hSw; (try dsimp only at hSw); go_simp) <;> try with_reducible rfl
 simp only [Act.put, List.setIfInBounds_toArray, List.set_cons_zero, List.set_cons_succ]
 refine wpAnyH_take (i := 9) (v := ?v10) rfl (by kernel_rfl) (by kernel_rfl) (by kernel_rfl) (fun _ _ _ h => h) (Or.inl ⟨by rfl, ?hy10⟩) (by assumption) ?rest10
 case hy10 => (intro w hSw; (try dsimp only at hSw); go_simp) <;> try with_reducible rfl
 simp only [Act.put, List.setIfInBounds_toArray, List.set_cons_zero, List.set_cons_succ]
 refine wpAnyH_ready (rs := [10]) (by kernel_rfl) (by simp) ?_
 refine AllReadyH.cons rfl (fun K9 hK9 => ?_) AllReadyH.nil
 go_simp
 refine hK9.out _ _ ?_ (fun hHeld => ?_)
 ·exact Hst.out _
 clear hK9 K9
 try simp only [Act.put, List.setIfInBounds_toArray, List.set_cons_zero, List.set_cons_succ]
 refine wpAnyH_done (by kernel_rfl) (NoPanic.normal ?_) _
 clear e1 e2 e3
 exact HK.out _ _ _ _ _ _ _ _ _ _ _ rfl
noncomputable def becThenC : Code := dT (dS (dS becB3))
theorem becThen_eq : becThenC = Code.seq becR18C becR19C := rfl
set_option maxRecDepth 1000000 in
set_option maxHeartbeats 60000000 in
theorem becThen (wx : World) (B x gM nM cM nm cm i q a c cnt gm : Nat) (vo : Value) (cs : List Value) (e1 : wx.cell? ⟨x, 6, none⟩ = some (.slice (some ⟨gM, 0, none⟩) nM cM)) (e2 : wx.cell? ⟨gM, q, none⟩ = some (.int .u8 (a : Int))) (hfz : wx.frozen? ⟨gM, q, none⟩ = false) (e3 : wx.cell? ⟨gm, i, none⟩ = some (.int .u8 (c : Int))) (hq : q < nM) (hi : i < nm) (hx : x < B) (hg : gM < B) (hgm : gm < B) (hB : B ≤ wx.heap.size) (hxg : x ≠ gM) (hmg : gm ≠ gM)
  (hown : wx.ownsRow B 60 3 vo cnt cs) (hcnt : cnt ≤ 1000000) (Q' : Exit → Act → World → Prop)
  (u1 u2 u3 u4 u5 u6 u7 u8 uu9 u11 u12 u13 u14 u18 u19 u20 u21 u22 u23 u24 u25 u26 u27 u28 u29 u30 u31 u32 u33 u34 u35 u36 u37 u38 u39 u40 u41 u42 u43 u44 u45 u46 u47 u48 u49 u50 u51 u52 u53 u54 u55 u56 u57 u58 u59 u60 u61 u62 u63 u64 u65 u66 u67 u68 u69 u70 u71 u72 u73 u74 u75 u76 u77 u78 u79 u80 u81 u82 u83 u84 u85 u86 u87 u88 u89 u90 u91 u92 u93 u94 u95 u96 u97 u98 u99 u100 u101 u102 u103 u104 u105 u106 u107 u108 u109 u110 u111 u112 u113 u114 u115 u116 u117 u118 u119 u120 u121 u122 u123 : Value)
  (hK : ∀ (x88 x89 x90 x91 x92 x93 x94 x95 x96 x97 x98 x99 x100 x101 x102 x103 x104 x105 x106 x107 x108 x109 x110 x111 x112 x113 : Value) (wy wz : World) (v' : Value), wy.ownsRow B 60 3 v' (cnt + 1) (cs ++ [.int .i64 (q : Int), .int .u8 (a : Int), .int .u8 (c : Int)]) → Below B wx wy → wz = (wy.setCell ⟨gM, q, none⟩ (.int .u8 (c : Int))).drew → Q' .normal ⟨#[.pointer (some ⟨x, 0, none⟩), u1, u2, u3, u4, u5, u6, u7, u8, uu9, .slice (some ⟨gm, 0, none⟩) nm cm, u11, u12, u13, u14, v', .int .i64 (i : Int), .int .i64 (q : Int), u18, u19, u20, u21, u22, u23, u24, u25, u26, u27, u28, u29, u30, u31, u32, u33, u34, u35, u36, u37, u38, u39, u40, u41, u42, u43, u44, u45, u46, u47, u48, u49, u50, u51, u52, u53, u54, u55, u56, u57, u58, u59, u60, u61, u62, u63, u64, u65, u66, u67, u68, u69, u70, u71, u72, u73, u74, u75, u76, u77, u78, u79, u80, u81, u82, u83, u84, u85, u86, u87, x88, x89, x90, x91, x92, x93, x94, x95, x96, x97, x98, x99, x100, x101, x102, x103, x104, x105, x106, x107, x108, x109, x110, x111, x112, x113, u114, u115, u116, u117, u118, u119, u120, u121, u122, u123], []⟩ wz) :
  Code.wp Tryz.prog becThenC Q' ⟨#[.pointer (some ⟨x, 0, none⟩), u1, u2, u3, u4, u5, u6, u7, u8, uu9, .slice (some ⟨gm, 0, none⟩) nm cm, u11, u12, u13, u14, vo, .int .i64 (i : Int), .int .i64 (q : Int), u18, u19, u20, u21, u22, u23, u24, u25, u26, u27, u28, u29, u30, u31, u32, u33, u34, u35, u36, u37, u38, u39, u40, u41, u42, u43, u44, u45, u46, u47, u48, u49, u50, u51, u52, u53, u54, u55, u56, u57, u58, u59, u60, u61, u62, u63, u64, u65, u66, u67, u68, u69, u70, u71, u72, u73, u74, u75, u76, u77, u78, u79, u80, u81, u82, u83, u84, u85, u86, u87, u88, u89, u90, u91, u92, u93, u94, u95, u96, u97, u98, u99, u100, u101, u102, u103, u104, u105, u106, u107, u108, u109, u110, u111, u112, u113, u114, u115, u116, u117, u118, u119, u120, u121, u122, u123], []⟩ wx := by
 rw [becThen_eq]
 refine wp_seq_k fun K hK9 => ?_
 have e3' : wx.cell? ((⟨gm, 0, none⟩ : Addr).add i) = some (.int .u8 (c : Int)) := by rw [add_plain]; exact e3
 have hgm' : ((⟨gm, 0, none⟩ : Addr).add i).block < B := by rw [add_plain]; exact hgm
 have hmg' : ((⟨gm, 0, none⟩ : Addr).add i).block ≠ gM := by rw [add_plain]; exact hmg
 refine becR18 wx B x gM nM cM nm cm i q a c cnt ⟨gm, 0, none⟩ vo cs e1 e2 e3' hq hi hx hg hgm' hB hown hcnt _ u1 u2 u3 u4 u5 u6 u7 u8 uu9 u11 u12 u13 u14 u18 u19 u20 u21 u22 u23 u24 u25 u26 u27 u28 u29 u30 u31 u32 u33 u34 u35 u36 u37 u38 u39 u40 u41 u42 u43 u44 u45 u46 u47 u48 u49 u50 u51 u52 u53 u54 u55 u56 u57 u58 u59 u60 u61 u62 u63 u64 u65 u66 u67 u68 u69 u70 u71 u72 u73 u74 u75 u76 u77 u78 u79 u80 u81 u82 u83 u84 u85 u86 u87 u88 u89 u90 u91 u92 u93 u94 u95 u96 u97 u98 u99 u100 u101 u102 u103 u104 u105 u106 u107 u108 u109 u110 u111 u112 u113 u114 u115 u116 u117 u118 u119 u120 u121 u122 u123 ?_
 intro x88 x89 x90 x91 x92 x93 x94 x95 x96 x97 x98 x99 x100 x101 x102 x103 wy v' hown2 hby
 refine hK9 _ _ ?_
 refine becR19 wy x gM nM cM nm cm i q c ⟨gm, 0, none⟩ v' _ ((World.cell?_of_block (hby.block x hx)).trans e1) ((World.cell?_of_block (hby.block gM hg)).trans e2) ((World.frozen?_of_block (hby.block gM hg)).trans hfz) ((World.cell?_of_block (hby.block _ hgm')).trans e3') hq hi hxg hmg' _ u1 u2 u3 u4 u5 u6 u7 u8 uu9 u11 u12 u13 u14 u18 u19 u20 u21 u22 u23 u24 u25 u26 u27 u28 u29 u30 u31 u32 u33 u34 u35 u36 u37 u38 u39 u40 u41 u42 u43 u44 u45 u46 u47 u48 u49 u50 u51 u52 u53 u54 u55 u56 u57 u58 u59 u60 u61 u62 u63 u64 u65 u66 u67 u68 u69 u70 u71 u72 u73 u74 u75 u76 u77 u78 u79 u80 u81 u82 u83 u84 u85 u86 u87 x88 x89 x90 x91 x92 x93 x94 x95 x96 x97 x98 x99 x100 x101 x102 x103 u104 u105 u106 u107 u108 u109 u110 u111 u112 u113 u114 u115 u116 u117 u118 u119 u120 u121 u122 u123 ?_
 intro x104 x105 x106 x107 x108 x109 x110 x111 x112 x113 wz hwz
 exact hK x88 x89 x90 x91 x92 x93 x94 x95 x96 x97 x98 x99 x100 x101 x102 x103 x104 x105 x106 x107 x108 x109 x110 x111 x112 x113 wy wz v' hown2 hby hwz
end Go.Proofs.Lx
