/- Parts of the proof: Dv, Dw. delta.become: its drawn regions. Printed by gen_bec.py. No condition. -/
import Derived.Test.YtbidjiopnddldaaGreatP22
import Derived.Test.YtbidjiopnddldaaGreatP3
import Derived.Deep.DeepCutAuto
namespace Go.Proofs.Lx
open Go Go.RowKit Go.Proofs.Tj
set_option linter.unusedVariables false
set_option linter.unusedSimpArgs false
noncomputable def becBody : Code := (Tryz.f41.body).getD .skip
noncomputable def becRest : Code := dS (dS (dS (dS (dS becBody))))
noncomputable def becSegA : Code := dF (dS (dS (dS (dS becBody))))
noncomputable def becSegB : Code := dF (dS becRest)
noncomputable def becB3 : Code := dB (dF (dS (dS (dL (dB (dS becSegB))))))
noncomputable def becR18C : Code := dF (dT (dS (dS becB3)))
noncomputable def becR19C : Code := dS (dT (dS (dS becB3)))
set_option maxRecDepth 1000000 in
set_option maxHeartbeats 60000000 in
theorem becR18 (wx : World) (B x gM nM cM nm cm i q a c cnt : Nat) (am : Addr) (vo : Value) (cs : List Value) (e1 : wx.cell? ⟨x, 6, none⟩ = some (.slice (some ⟨gM, 0, none⟩) nM cM)) (e2 : wx.cell? ⟨gM, q, none⟩ = some (.int .u8 (a : Int))) (e3 : wx.cell? (am.add i) = some (.int .u8 (c : Int))) (hq : q < nM) (hi : i < nm) (hx : x < B) (hg : gM < B) (ham : (am.add i).block < B) (hB : B ≤ wx.heap.size)
  (hown : wx.ownsRow B 60 3 vo cnt cs) (hcnt : cnt ≤ 1000000) (Q' : Exit → Act → World → Prop)
  (u1 u2 u3 u4 u5 u6 u7 u8 u9 u11 u12 u13 u14 u18 u19 u20 u21 u22 u23 u24 u25 u26 u27 u28 u29 u30 u31 u32 u33 u34 u35 u36 u37 u38 u39 u40 u41 u42 u43 u44 u45 u46 u47 u48 u49 u50 u51 u52 u53 u54 u55 u56 u57 u58 u59 u60 u61 u62 u63 u64 u65 u66 u67 u68 u69 u70 u71 u72 u73 u74 u75 u76 u77 u78 u79 u80 u81 u82 u83 u84 u85 u86 u87 u88 u89 u90 u91 u92 u93 u94 u95 u96 u97 u98 u99 u100 u101 u102 u103 u104 u105 u106 u107 u108 u109 u110 u111 u112 u113 u114 u115 u116 u117 u118 u119 u120 u121 u122 u123 : Value)
  (hK : ∀ (x88 x89 x90 x91 x92 x93 x94 x95 x96 x97 x98 x99 x100 x101 x102 x103 : Value) (wy : World) (v' : Value), wy.ownsRow B 60 3 v' (cnt + 1) (cs ++ [.int .i64 (q : Int), .int .u8 (a : Int), .int .u8 (c : Int)]) → Below B wx wy → Q' .normal ⟨#[.pointer (some ⟨x, 0, none⟩), u1, u2, u3, u4, u5, u6, u7, u8, u9, .slice (some am) nm cm, u11, u12, u13, u14, v', .int .i64 (i : Int), .int .i64 (q : Int), u18, u19, u20, u21, u22, u23, u24, u25, u26, u27, u28, u29, u30, u31, u32, u33, u34, u35, u36, u37, u38, u39, u40, u41, u42, u43, u44, u45, u46, u47, u48, u49, u50, u51, u52, u53, u54, u55, u56, u57, u58, u59, u60, u61, u62, u63, u64, u65, u66, u67, u68, u69, u70, u71, u72, u73, u74, u75, u76, u77, u78, u79, u80, u81, u82, u83, u84, u85, u86, u87, x88, x89, x90, x91, x92, x93, x94, x95, x96, x97, x98, x99, x100, x101, x102, x103, u104, u105, u106, u107, u108, u109, u110, u111, u112, u113, u114, u115, u116, u117, u118, u119, u120, u121, u122, u123], []⟩ wy) :
  Code.wp Tryz.prog becR18C Q' ⟨#[.pointer (some ⟨x, 0, none⟩), u1, u2, u3, u4, u5, u6, u7, u8, u9, .slice (some am) nm cm, u11, u12, u13, u14, vo, .int .i64 (i : Int), .int .i64 (q : Int), u18, u19, u20, u21, u22, u23, u24, u25, u26, u27, u28, u29, u30, u31, u32, u33, u34, u35, u36, u37, u38, u39, u40, u41, u42, u43, u44, u45, u46, u47, u48, u49, u50, u51, u52, u53, u54, u55, u56, u57, u58, u59, u60, u61, u62, u63, u64, u65, u66, u67, u68, u69, u70, u71, u72, u73, u74, u75, u76, u77, u78, u79, u80, u81, u82, u83, u84, u85, u86, u87, u88, u89, u90, u91, u92, u93, u94, u95, u96, u97, u98, u99, u100, u101, u102, u103, u104, u105, u106, u107, u108, u109, u110, u111, u112, u113, u114, u115, u116, u117, u118, u119, u120, u121, u122, u123], []⟩ wx := by
 have HK := hid hK
 clear hK
 conv => arg 2; whnf
 have hi0 : (0 : Int) ≤ (q : Int) := by omega
 have hi1 : (q : Int) < (nM : Int) := by omega
 have hi2 : (0 : Int) ≤ (i : Int) := by omega
 have hi3 : (i : Int) < (nm : Int) := by omega
 have HS : Hid (∀ W : World, (∀ k, k < B → W.heap[k]? = wx.heap[k]?) → (fun w' : World => w'.cell? ⟨x, 6, none⟩ = some (.slice (some ⟨gM, 0, none⟩) nM cM) ∧ w'.cell? ⟨gM, q, none⟩ = some (.int .u8 (a : Int)) ∧ w'.cell? (am.add i) = some (.int .u8 (c : Int))) W) := hid fun W hW =>
  ⟨(World.cell?_of_block (hW _ hx)).trans e1, (World.cell?_of_block (hW _ hg)).trans e2, (World.cell?_of_block (hW _ ham)).trans e3⟩
 have HS0 := hid (HS.out wx.drew fun k _ => rfl)
 have Hkeep : Hid (∀ cs : Array Value, (fun w' : World => w'.cell? ⟨x, 6, none⟩ = some (.slice (some ⟨gM, 0, none⟩) nM cM) ∧ w'.cell? ⟨gM, q, none⟩ = some (.int .u8 (a : Int)) ∧ w'.cell? (am.add i) = some (.int .u8 (c : Int))) ((wx.alloc (.cells cs 60)).drew)) := hid fun cs => HS.out _ fun k hk => Below.heap_alloc wx _ k (by omega)
 have Haft : Hid (∀ (cs : Array Value) (w' : World), ((wx.alloc (.cells cs 60)).drew).grownBy w' vo.ownBlock → (fun w' : World => w'.cell? ⟨x, 6, none⟩ = some (.slice (some ⟨gM, 0, none⟩) nM cM) ∧ w'.cell? ⟨gM, q, none⟩ = some (.int .u8 (a : Int)) ∧ w'.cell? (am.add i) = some (.int .u8 (c : Int))) w') := hid fun cs w' hg => by
  refine HS.out w' fun k hk => (hg.block k (Nat.lt_of_lt_of_le (Nat.lt_of_lt_of_le hk hB) (ext_alloc wx (.cells cs 60)).drew.size) (fun e => ?_)).trans (Below.heap_alloc wx _ k (by omega))
  have := (hown.lt k e.symm).1
  omega
 have Hown := hid hown
 have Hbel : Hid (∀ (cs : Array Value) (w' : World), ((wx.alloc (.cells cs 60)).drew).grownBy w' vo.ownBlock → Below B wx w') := hid fun cs w' hg =>
  below_grown ((((Below.refl B wx).alloc hB (.cells cs 60))).drew) (Nat.le_trans hB (ext_alloc wx (.cells cs 60)).drew.size) hg (fun k hk => (hown.lt k hk).1)
 clear hown
 refine wp_region_noPanic ?_
 refine wp_region_held_drew (S := (fun w' : World => w'.cell? ⟨x, 6, none⟩ = some (.slice (some ⟨gM, 0, none⟩) nM cM) ∧ w'.cell? ⟨gM, q, none⟩ = some (.int .u8 (a : Int)) ∧ w'.cell? (am.add i) = some (.int .u8 (c : Int)))) (by kernel_rfl) ?_ (fun hHeld => ?_)
 ·exact HS0.out
 refine wpAnyH_take (i := 0) (v := ?v1) rfl (by kernel_rfl) (by kernel_rfl) (by kernel_rfl) (fun _ _ _ h => h) (Or.inl ⟨by rfl, ?hy1⟩) (by assumption) ?rest1
 case hy1 => (intro w hSw; (try dsimp only at hSw); go_simp) <;> try with_reducible rfl
 simp only [Act.put, List.setIfInBounds_toArray, List.set_cons_zero, List.set_cons_succ]
 refine wpAnyH_take (i := 1) (v := ?v2) rfl (by kernel_rfl) (by kernel_rfl) (by kernel_rfl) (fun _ _ _ h => h) (Or.inl ⟨by rfl, ?hy2⟩) (by assumption) ?rest2
 case hy2 => (intro w hSw; (try dsimp only at hSw); go_simp) <;> try with_reducible rfl
 simp only [Act.put, List.setIfInBounds_toArray, List.set_cons_zero, List.set_cons_succ]
 refine wpAnyH_take (i := 2) (v := ?v3) rfl (by kernel_rfl) (by kernel_rfl) (by kernel_rfl) (fun _ _ _ h => h) (Or.inl ⟨by rfl, ?hy3⟩) (by assumption) ?rest3
 case hy3 => (intro w hSw; (try dsimp only at hSw); go_simp) <;> try with_reducible rfl
 simp only [Act.put, List.setIfInBounds_toArray, List.set_cons_zero, List.set_cons_succ]
 refine wpAnyH_take (i := 3) (v := ?v4) rfl (by kernel_rfl) (by kernel_rfl) (by kernel_rfl) (fun _ _ _ h => h) (Or.inl ⟨by rfl, ?hy4⟩) (by assumption) ?rest4
 case hy4 => (intro w hSw; (try dsimp only at hSw); go_simp) <;> try with_reducible rfl
 simp only [Act.put, List.setIfInBounds_toArray, List.set_cons_zero, List.set_cons_succ]
 refine wpAnyH_take (i := 4) (v := ?v5) rfl (by kernel_rfl) (by kernel_rfl) (by kernel_rfl) (fun _ _ _ h => h) (Or.inl ⟨by rfl, ?hy5⟩) (by assumption) ?rest5
 case hy5 => (intro w hSw; (try dsimp only at hSw); go_simp) <;> try with_reducible rfl
 simp only [Act.put, List.setIfInBounds_toArray, List.set_cons_zero, List.set_cons_succ]
 refine wpAnyH_take (i := 5) (v := ?v6) rfl (by kernel_rfl) (by kernel_rfl) (by kernel_rfl) (fun _ _ _ h => h) (Or.inl ⟨by rfl, ?hy6⟩) (by assumption) ?rest6
 case hy6 => (intro w hSw; (try dsimp only at hSw); go_simp) <;> try with_reducible rfl
 simp only [Act.put, List.setIfInBounds_toArray, List.set_cons_zero, List.set_cons_succ]
 refine wpAnyH_take (i := 6) (v := ?v7) rfl (by kernel_rfl) (by kernel_rfl) (by kernel_rfl) (fun _ _ _ h => h) (Or.inl ⟨by rfl, ?hy7⟩) (by assumption) ?rest7
 case hy7 => (intro w hSw; (try dsimp only at hSw); go_simp) <;> try with_reducible rfl
 simp only [Act.put, List.setIfInBounds_toArray, List.set_cons_zero, List.set_cons_succ]
 refine wpAnyH_take (i := 7) (v := ?v8) rfl (by kernel_rfl) (by kernel_rfl) (by kernel_rfl) (fun _ _ _ h => h) (Or.inl ⟨by rfl, ?hy8⟩) (by assumption) ?rest8
 case hy8 => (intro w hSw; (try dsimp only at hSw); go_simp) <;> try with_reducible rfl
 simp only [Act.put, List.setIfInBounds_toArray, List.set_cons_zero, List.set_cons_succ]
 refine wpAnyH_take (i := 8) (v := ?v9) rfl (by kernel_rfl) (by kernel_rfl) (by kernel_rfl) (fun _ _ _ h => h) (Or.inl ⟨by rfl, ?hy9⟩) (by assumption) ?rest9
 case hy9 => (intro w hSw; (try dsimp only at hSw); go_simp) <;> try with_reducible rfl
 simp only [Act.put, List.setIfInBounds_toArray, List.set_cons_zero, List.set_cons_succ]
 refine wpAnyH_take (i := 9) (v := ?v10) rfl (by kernel_rfl) (by kernel_rfl) (by kernel_rfl) (fun _ _ _ h => h) (Or.inl ⟨by rfl, ?hy10⟩) (by assumption) ?rest10
 case hy10 => (intro w hSw; (try dsimp only at hSw); go_simp) <;> try with_reducible rfl
 simp only [Act.put, List.setIfInBounds_toArray, List.set_cons_zero, List.set_cons_succ]
 refine wpAnyH_take (i := 10) (v := ?v11) rfl (by kernel_rfl) (by kernel_rfl) (by kernel_rfl) (fun _ _ _ h => h) (Or.inl ⟨by rfl, ?hy11⟩) (by assumption) ?rest11
 case hy11 => (intro w hSw; (try dsimp only at hSw); go_simp) <;> try with_reducible rfl
 simp only [Act.put, List.setIfInBounds_toArray, List.set_cons_zero, List.set_cons_succ]
 refine wpAnyH_take (i := 11) (v := ?v12) rfl (by kernel_rfl) (by kernel_rfl) (by kernel_rfl) (fun _ _ _ h => h) (Or.inl ⟨by rfl, ?hy12⟩) (by assumption) ?rest12
 case hy12 => (intro w hSw; (try dsimp only at hSw); go_simp) <;> try with_reducible rfl
 simp only [Act.put, List.setIfInBounds_toArray, List.set_cons_zero, List.set_cons_succ]
 refine wpAnyH_take (i := 12) (v := ?v13) rfl (by kernel_rfl) (by kernel_rfl) (by kernel_rfl) (fun _ _ _ h => h) (Or.inl ⟨by rfl, ?hy13⟩) (by assumption) ?rest13
 case hy13 => (intro w hSw; (try dsimp only at hSw); go_simp) <;> try with_reducible rfl
 simp only [Act.put, List.setIfInBounds_toArray, List.set_cons_zero, List.set_cons_succ]
 refine wpAnyH_take (i := 13) (v := ?v14) rfl (by kernel_rfl) (by kernel_rfl) (by kernel_rfl) (fun _ _ _ h => h) (Or.inl ⟨by rfl, ?hy14⟩) (by assumption) ?rest14
 case hy14 => (intro w hSw; (try dsimp only at hSw); go_simp) <;> try with_reducible rfl
 simp only [Act.put, List.setIfInBounds_toArray, List.set_cons_zero, List.set_cons_succ]
 refine wpAnyH_ready (rs := [14]) (by kernel_rfl) (by simp) ?_
 refine AllReadyH.cons rfl (fun K9 hK9 => ?_) AllReadyH.nil
 go_simp
 refine hK9.out _ _ ?_ (fun hHeld => ?_)
 ·exact Hkeep.out _
 clear hK9 K9
 try simp only [Act.put, List.setIfInBounds_toArray, List.set_cons_zero, List.set_cons_succ]
 refine wpAnyH_ready (rs := [15]) (by kernel_rfl) (by simp) ?_
 refine AllReadyH.cons rfl (fun K9 hK9 => ?_) AllReadyH.nil
 (refine step_append_own3 rfl (.tmp 88) (.tmp 102) 45 rfl B 60 (.agg #[.int .i64 0, .int .u8 0, .int .u8 0]) 16 Tryz.underlying45 infoCh rfl vo _ _ rfl (Hown.out.alloc _) ⟨wx.heap.size, 0, none⟩ (.int .i64 (q : Int)) (.int .u8 (a : Int)) (.int .u8 (c : Int)) rfl (cell_three_new wx _ _ _ _) (fun u hu => by simp at hu; rcases hu with rfl | rfl | rfl <;> rfl) (by unfold maxLen; omega) (by omega) (by simp; omega) ?_; intro v' w' hown2 hgrow hat; have hqS := Haft.out _ w' hgrow)
 refine hK9.out _ _ ?_ (fun hHeld => ?_)
 ·exact hqS
 clear hK9 K9
 try simp only [Act.put, List.setIfInBounds_toArray, List.set_cons_zero, List.set_cons_succ]
 refine wpAnyH_take (i := 16) (v := ?v15) rfl (by kernel_rfl) (by kernel_rfl) (by kernel_rfl) (fun _ _ _ h => h) (Or.inl ⟨by rfl, ?hy15⟩) (by assumption) ?rest15
 case hy15 => (intro w hSw; (try dsimp only at hSw); go_simp) <;> try with_reducible rfl
 simp only [Act.put, List.setIfInBounds_toArray, List.set_cons_zero, List.set_cons_succ]
 refine wpAnyH_done (by kernel_rfl) (NoPanic.normal ?_) _
 clear hqS e1 e2 e3
 exact HK.out _ _ _ _ _ _ _ _ _ _ _ _ _ _ _ _ _ _ hown2 (Hbel.out _ _ hgrow)
set_option maxRecDepth 1000000 in
set_option maxHeartbeats 60000000 in
theorem becR19 (wx : World) (x gM nM cM nm cm i q c : Nat) (am : Addr) (vo : Value) (u9 : Value) (e1 : wx.cell? ⟨x, 6, none⟩ = some (.slice (some ⟨gM, 0, none⟩) nM cM)) (e2 : wx.cell? ⟨gM, q, none⟩ = some u9) (hfz : wx.frozen? ⟨gM, q, none⟩ = false) (e3 : wx.cell? (am.add i) = some (.int .u8 (c : Int))) (hq : q < nM) (hi : i < nm) (hx : x ≠ gM) (ham : (am.add i).block ≠ gM) (Q' : Exit → Act → World → Prop)
  (u1 u2 u3 u4 u5 u6 u7 u8 uu9 u11 u12 u13 u14 u18 u19 u20 u21 u22 u23 u24 u25 u26 u27 u28 u29 u30 u31 u32 u33 u34 u35 u36 u37 u38 u39 u40 u41 u42 u43 u44 u45 u46 u47 u48 u49 u50 u51 u52 u53 u54 u55 u56 u57 u58 u59 u60 u61 u62 u63 u64 u65 u66 u67 u68 u69 u70 u71 u72 u73 u74 u75 u76 u77 u78 u79 u80 u81 u82 u83 u84 u85 u86 u87 u88 u89 u90 u91 u92 u93 u94 u95 u96 u97 u98 u99 u100 u101 u102 u103 u104 u105 u106 u107 u108 u109 u110 u111 u112 u113 u114 u115 u116 u117 u118 u119 u120 u121 u122 u123 : Value)
  (hK : ∀ (x104 x105 x106 x107 x108 x109 x110 x111 x112 x113 : Value) (wy : World), wy = (wx.setCell ⟨gM, q, none⟩ (.int .u8 (c : Int))).drew → Q' .normal ⟨#[.pointer (some ⟨x, 0, none⟩), u1, u2, u3, u4, u5, u6, u7, u8, uu9, .slice (some am) nm cm, u11, u12, u13, u14, vo, .int .i64 (i : Int), .int .i64 (q : Int), u18, u19, u20, u21, u22, u23, u24, u25, u26, u27, u28, u29, u30, u31, u32, u33, u34, u35, u36, u37, u38, u39, u40, u41, u42, u43, u44, u45, u46, u47, u48, u49, u50, u51, u52, u53, u54, u55, u56, u57, u58, u59, u60, u61, u62, u63, u64, u65, u66, u67, u68, u69, u70, u71, u72, u73, u74, u75, u76, u77, u78, u79, u80, u81, u82, u83, u84, u85, u86, u87, u88, u89, u90, u91, u92, u93, u94, u95, u96, u97, u98, u99, u100, u101, u102, u103, x104, x105, x106, x107, x108, x109, x110, x111, x112, x113, u114, u115, u116, u117, u118, u119, u120, u121, u122, u123], []⟩ wy) :
  Code.wp Tryz.prog becR19C Q' ⟨#[.pointer (some ⟨x, 0, none⟩), u1, u2, u3, u4, u5, u6, u7, u8, uu9, .slice (some am) nm cm, u11, u12, u13, u14, vo, .int .i64 (i : Int), .int .i64 (q : Int), u18, u19, u20, u21, u22, u23, u24, u25, u26, u27, u28, u29, u30, u31, u32, u33, u34, u35, u36, u37, u38, u39, u40, u41, u42, u43, u44, u45, u46, u47, u48, u49, u50, u51, u52, u53, u54, u55, u56, u57, u58, u59, u60, u61, u62, u63, u64, u65, u66, u67, u68, u69, u70, u71, u72, u73, u74, u75, u76, u77, u78, u79, u80, u81, u82, u83, u84, u85, u86, u87, u88, u89, u90, u91, u92, u93, u94, u95, u96, u97, u98, u99, u100, u101, u102, u103, u104, u105, u106, u107, u108, u109, u110, u111, u112, u113, u114, u115, u116, u117, u118, u119, u120, u121, u122, u123], []⟩ wx := by
 have HK := hid hK
 clear hK
 conv => arg 2; whnf
 have hi0 : (0 : Int) ≤ (q : Int) := by omega
 have hi1 : (q : Int) < (nM : Int) := by omega
 have hi2 : (0 : Int) ≤ (i : Int) := by omega
 have hi3 : (i : Int) < (nm : Int) := by omega
 have HS0 : Hid ((fun w' : World => w'.cell? ⟨x, 6, none⟩ = some (.slice (some ⟨gM, 0, none⟩) nM cM) ∧ w'.cell? (am.add i) = some (.int .u8 (c : Int))) wx.drew) := hid ⟨e1, e3⟩
 have Hst : Hid (∀ u : Value, (fun w' : World => w'.cell? ⟨x, 6, none⟩ = some (.slice (some ⟨gM, 0, none⟩) nM cM) ∧ w'.cell? (am.add i) = some (.int .u8 (c : Int))) (wx.drew.setCell ⟨gM, q, none⟩ u)) := hid fun u => ⟨by rw [World.cell?_setCell_far _ _ _ _ (Ne.symm hx)]; exact e1, by rw [World.cell?_setCell_far _ _ _ _ (Ne.symm ham)]; exact e3⟩
 refine wp_region_noPanic ?_
 refine wp_region_held_drew (S := (fun w' : World => w'.cell? ⟨x, 6, none⟩ = some (.slice (some ⟨gM, 0, none⟩) nM cM) ∧ w'.cell? (am.add i) = some (.int .u8 (c : Int)))) (by kernel_rfl) ?_ (fun hHeld => ?_)
 ·exact HS0.out
 refine wpAnyH_take (i := 0) (v := ?v1) rfl (by kernel_rfl) (by kernel_rfl) (by kernel_rfl) (fun _ _ _ h => h) (Or.inl ⟨by rfl, ?hy1⟩) (by assumption) ?rest1
 case hy1 => (intro w hSw; (try dsimp only at hSw); go_simp) <;> try with_reducible rfl
 simp only [Act.put, List.setIfInBounds_toArray, List.set_cons_zero, List.set_cons_succ]
 refine wpAnyH_take (i := 1) (v := ?v2) rfl (by kernel_rfl) (by kernel_rfl) (by kernel_rfl) (fun _ _ _ h => h) (Or.inl ⟨by rfl, ?hy2⟩) (by assumption) ?rest2
 case hy2 => (intro w hSw; (try dsimp only at hSw); go_simp) <;> try with_reducible rfl
 simp only [Act.put, List.setIfInBounds_toArray, List.set_cons_zero, List.set_cons_succ]
 refine wpAnyH_take (i := 2) (v := ?v3) rfl (by kernel_rfl) (by kernel_rfl) (by kernel_rfl) (fun _ _ _ h => h) (Or.inl ⟨by rfl, ?hy3⟩) (by assumption) ?rest3
 case hy3 => (intro w hSw; (try dsimp only at hSw); go_simp) <;> try with_reducible rfl
 simp only [Act.put, List.setIfInBounds_toArray, List.set_cons_zero, List.set_cons_succ]
 refine wpAnyH_take (i := 3) (v := ?v4) rfl (by kernel_rfl) (by kernel_rfl) (by kernel_rfl) (fun _ _ _ h => h) (Or.inl ⟨by rfl, ?hy4⟩) (by assumption) ?rest4
 case hy4 => (intro w hSw; (try dsimp only at hSw); go_simp) <;> try with_reducible rfl
 simp only [Act.put, List.setIfInBounds_toArray, List.set_cons_zero, List.set_cons_succ]
 refine wpAnyH_take (i := 4) (v := ?v5) rfl (by kernel_rfl) (by kernel_rfl) (by kernel_rfl) (fun _ _ _ h => h) (Or.inl ⟨by rfl, ?hy5⟩) (by assumption) ?rest5
 case hy5 => (intro w hSw; (try dsimp only at hSw); go_simp) <;> try with_reducible rfl
 simp only [Act.put, List.setIfInBounds_toArray, List.set_cons_zero, List.set_cons_succ]
 refine wpAnyH_take (i := 5) (v := ?v6) rfl (by kernel_rfl) (by kernel_rfl) (by kernel_rfl) (fun _ _ _ h => h) (Or.inl ⟨by rfl, ?hy6⟩) (by assumption) ?rest6
 case hy6 => (intro w hSw; (try dsimp only at hSw); go_simp) <;> try with_reducible rfl
 simp only [Act.put, List.setIfInBounds_toArray, List.set_cons_zero, List.set_cons_succ]
 refine wpAnyH_take (i := 6) (v := ?v7) rfl (by kernel_rfl) (by kernel_rfl) (by kernel_rfl) (fun _ _ _ h => h) (Or.inl ⟨by rfl, ?hy7⟩) (by assumption) ?rest7
 case hy7 => (intro w hSw; (try dsimp only at hSw); go_simp) <;> try with_reducible rfl
 simp only [Act.put, List.setIfInBounds_toArray, List.set_cons_zero, List.set_cons_succ]
 refine wpAnyH_take (i := 7) (v := ?v8) rfl (by kernel_rfl) (by kernel_rfl) (by kernel_rfl) (fun _ _ _ h => h) (Or.inl ⟨by rfl, ?hy8⟩) (by assumption) ?rest8
 case hy8 => (intro w hSw; (try dsimp only at hSw); go_simp) <;> try with_reducible rfl
 simp only [Act.put, List.setIfInBounds_toArray, List.set_cons_zero, List.set_cons_succ]
 refine wpAnyH_take (i := 8) (v := ?v9) rfl (by kernel_rfl) (by kernel_rfl) (by kernel_rfl) (fun _ _ _ h => h) (Or.inl ⟨by rfl, ?hy9⟩) (by assumption) ?rest9
 case hy9 => (intro w hSw; (try dsimp only at hSw); go_simp) <;> try with_reducible rfl
 simp only [Act.put, List.setIfInBounds_toArray, List.set_cons_zero, List.set_cons_succ]
 refine wpAnyH_take (i := 9) (v := ?v10) rfl (by kernel_rfl) (by kernel_rfl) (by kernel_rfl) (fun _ _ _ h => h) (Or.inl ⟨by rfl, ?hy10⟩) (by assumption) ?rest10
 case hy10 => (intro w hSw; (try dsimp only at hSw); go_simp) <;> try with_reducible rfl
 simp only [Act.put, List.setIfInBounds_toArray, List.set_cons_zero, List.set_cons_succ]
 refine wpAnyH_ready (rs := [10]) (by kernel_rfl) (by simp) ?_
 refine AllReadyH.cons rfl (fun K9 hK9 => ?_) AllReadyH.nil
 go_simp
 refine hK9.out _ _ ?_ (fun hHeld => ?_)
 ·exact Hst.out _
 clear hK9 K9
 try simp only [Act.put, List.setIfInBounds_toArray, List.set_cons_zero, List.set_cons_succ]
 refine wpAnyH_done (by kernel_rfl) (NoPanic.normal ?_) _
 clear e1 e2 e3
 exact HK.out _ _ _ _ _ _ _ _ _ _ _ rfl
noncomputable def becThenC : Code := dT (dS (dS becB3))
theorem becThen_eq : becThenC = Code.seq becR18C becR19C := rfl
set_option maxRecDepth 1000000 in
set_option maxHeartbeats 60000000 in
theorem becThen (wx : World) (B x gM nM cM nm cm i q a c cnt gm : Nat) (vo : Value) (cs : List Value) (e1 : wx.cell? ⟨x, 6, none⟩ = some (.slice (some ⟨gM, 0, none⟩) nM cM)) (e2 : wx.cell? ⟨gM, q, none⟩ = some (.int .u8 (a : Int))) (hfz : wx.frozen? ⟨gM, q, none⟩ = false) (e3 : wx.cell? ⟨gm, i, none⟩ = some (.int .u8 (c : Int))) (hq : q < nM) (hi : i < nm) (hx : x < B) (hg : gM < B) (hgm : gm < B) (hB : B ≤ wx.heap.size) (hxg : x ≠ gM) (hmg : gm ≠ gM)
  (hown : wx.ownsRow B 60 3 vo cnt cs) (hcnt : cnt ≤ 1000000) (Q' : Exit → Act → World → Prop)
  (u1 u2 u3 u4 u5 u6 u7 u8 uu9 u11 u12 u13 u14 u18 u19 u20 u21 u22 u23 u24 u25 u26 u27 u28 u29 u30 u31 u32 u33 u34 u35 u36 u37 u38 u39 u40 u41 u42 u43 u44 u45 u46 u47 u48 u49 u50 u51 u52 u53 u54 u55 u56 u57 u58 u59 u60 u61 u62 u63 u64 u65 u66 u67 u68 u69 u70 u71 u72 u73 u74 u75 u76 u77 u78 u79 u80 u81 u82 u83 u84 u85 u86 u87 u88 u89 u90 u91 u92 u93 u94 u95 u96 u97 u98 u99 u100 u101 u102 u103 u104 u105 u106 u107 u108 u109 u110 u111 u112 u113 u114 u115 u116 u117 u118 u119 u120 u121 u122 u123 : Value)
  (hK : ∀ (x88 x89 x90 x91 x92 x93 x94 x95 x96 x97 x98 x99 x100 x101 x102 x103 x104 x105 x106 x107 x108 x109 x110 x111 x112 x113 : Value) (wy wz : World) (v' : Value), wy.ownsRow B 60 3 v' (cnt + 1) (cs ++ [.int .i64 (q : Int), .int .u8 (a : Int), .int .u8 (c : Int)]) → Below B wx wy → wz = (wy.setCell ⟨gM, q, none⟩ (.int .u8 (c : Int))).drew → Q' .normal ⟨#[.pointer (some ⟨x, 0, none⟩), u1, u2, u3, u4, u5, u6, u7, u8, uu9, .slice (some ⟨gm, 0, none⟩) nm cm, u11, u12, u13, u14, v', .int .i64 (i : Int), .int .i64 (q : Int), u18, u19, u20, u21, u22, u23, u24, u25, u26, u27, u28, u29, u30, u31, u32, u33, u34, u35, u36, u37, u38, u39, u40, u41, u42, u43, u44, u45, u46, u47, u48, u49, u50, u51, u52, u53, u54, u55, u56, u57, u58, u59, u60, u61, u62, u63, u64, u65, u66, u67, u68, u69, u70, u71, u72, u73, u74, u75, u76, u77, u78, u79, u80, u81, u82, u83, u84, u85, u86, u87, x88, x89, x90, x91, x92, x93, x94, x95, x96, x97, x98, x99, x100, x101, x102, x103, x104, x105, x106, x107, x108, x109, x110, x111, x112, x113, u114, u115, u116, u117, u118, u119, u120, u121, u122, u123], []⟩ wz) :
  Code.wp Tryz.prog becThenC Q' ⟨#[.pointer (some ⟨x, 0, none⟩), u1, u2, u3, u4, u5, u6, u7, u8, uu9, .slice (some ⟨gm, 0, none⟩) nm cm, u11, u12, u13, u14, vo, .int .i64 (i : Int), .int .i64 (q : Int), u18, u19, u20, u21, u22, u23, u24, u25, u26, u27, u28, u29, u30, u31, u32, u33, u34, u35, u36, u37, u38, u39, u40, u41, u42, u43, u44, u45, u46, u47, u48, u49, u50, u51, u52, u53, u54, u55, u56, u57, u58, u59, u60, u61, u62, u63, u64, u65, u66, u67, u68, u69, u70, u71, u72, u73, u74, u75, u76, u77, u78, u79, u80, u81, u82, u83, u84, u85, u86, u87, u88, u89, u90, u91, u92, u93, u94, u95, u96, u97, u98, u99, u100, u101, u102, u103, u104, u105, u106, u107, u108, u109, u110, u111, u112, u113, u114, u115, u116, u117, u118, u119, u120, u121, u122, u123], []⟩ wx := by
 rw [becThen_eq]
 refine wp_seq_k fun K hK9 => ?_
 have e3' : wx.cell? ((⟨gm, 0, none⟩ : Addr).add i) = some (.int .u8 (c : Int)) := by rw [add_plain]; exact e3
 have hgm' : ((⟨gm, 0, none⟩ : Addr).add i).block < B := by rw [add_plain]; exact hgm
 have hmg' : ((⟨gm, 0, none⟩ : Addr).add i).block ≠ gM := by rw [add_plain]; exact hmg
 refine becR18 wx B x gM nM cM nm cm i q a c cnt ⟨gm, 0, none⟩ vo cs e1 e2 e3' hq hi hx hg hgm' hB hown hcnt _ u1 u2 u3 u4 u5 u6 u7 u8 uu9 u11 u12 u13 u14 u18 u19 u20 u21 u22 u23 u24 u25 u26 u27 u28 u29 u30 u31 u32 u33 u34 u35 u36 u37 u38 u39 u40 u41 u42 u43 u44 u45 u46 u47 u48 u49 u50 u51 u52 u53 u54 u55 u56 u57 u58 u59 u60 u61 u62 u63 u64 u65 u66 u67 u68 u69 u70 u71 u72 u73 u74 u75 u76 u77 u78 u79 u80 u81 u82 u83 u84 u85 u86 u87 u88 u89 u90 u91 u92 u93 u94 u95 u96 u97 u98 u99 u100 u101 u102 u103 u104 u105 u106 u107 u108 u109 u110 u111 u112 u113 u114 u115 u116 u117 u118 u119 u120 u121 u122 u123 ?_
 intro x88 x89 x90 x91 x92 x93 x94 x95 x96 x97 x98 x99 x100 x101 x102 x103 wy v' hown2 hby
 refine hK9 _ _ ?_
 refine becR19 wy x gM nM cM nm cm i q c ⟨gm, 0, none⟩ v' _ ((World.cell?_of_block (hby.block x hx)).trans e1) ((World.cell?_of_block (hby.block gM hg)).trans e2) ((World.frozen?_of_block (hby.block gM hg)).trans hfz) ((World.cell?_of_block (hby.block _ hgm')).trans e3') hq hi hxg hmg' _ u1 u2 u3 u4 u5 u6 u7 u8 uu9 u11 u12 u13 u14 u18 u19 u20 u21 u22 u23 u24 u25 u26 u27 u28 u29 u30 u31 u32 u33 u34 u35 u36 u37 u38 u39 u40 u41 u42 u43 u44 u45 u46 u47 u48 u49 u50 u51 u52 u53 u54 u55 u56 u57 u58 u59 u60 u61 u62 u63 u64 u65 u66 u67 u68 u69 u70 u71 u72 u73 u74 u75 u76 u77 u78 u79 u80 u81 u82 u83 u84 u85 u86 u87 x88 x89 x90 x91 x92 x93 x94 x95 x96 x97 x98 x99 x100 x101 x102 x103 u104 u105 u106 u107 u108 u109 u110 u111 u112 u113 u114 u115 u116 u117 u118 u119 u120 u121 u122 u123 ?_
 intro x104 x105 x106 x107 x108 x109 x110 x111 x112 x113 wz hwz
 exact hK x88 x89 x90 x91 x92 x93 x94 x95 x96 x97 x98 x99 x100 x101 x102 x103 x104 x105 x106 x107 x108 x109 x110 x111 x112 x113 wy wz v' hown2 hby hwz
end Go.Proofs.Lx

namespace Go.Proofs.Lx
open Go Go.RowKit Go.Proofs.Tj
set_option linter.unusedVariables false
set_option linter.unusedSimpArgs false
theorem own_own {w : World} {b1 b2 e1 e2 s1 s2 n1 n2 : Nat} {v1 v2 : Value} {x1 x2 : List Value} (h1 : w.ownsRow b1 e1 s1 v1 n1 x1) (h2 : w.ownsRow b2 e2 s2 v2 n2 x2) (hne : e1 ≠ e2) : v1.ownBlock = none ∨ v1.ownBlock ≠ v2.ownBlock := by
 rcases h2.2 with ⟨rfl, _⟩ | ⟨g2, c2, u2, rfl, _, h3, _⟩
 ·cases h : v1.ownBlock with
  | none => exact .inl rfl
  | some g => exact .inr (by simp [Value.ownBlock])
 ·exact .inr (own_ne_tag h1 h3 hne)
theorem meas_lt {n i : Nat} (h : i < n) : n - (intOf (Value.int .i64 ((i : Int) + 1))).toNat < n - (intOf (Value.int .i64 (i : Int))).toNat := by simp only [intOf]; omega
theorem Kv.drew {v : Value} {a b : World} (h : Kv v a b) : Kv v a b.drew := ⟨h.os, h.tape, h.output, h.sz, h.old⟩
theorem own_kv {w w' : World} {v v0 : Value} {b e s n : Nat} {xs : List Value} (h : w.ownsRow b e s v n xs) (hk : Kv v0 w w') (hne : v.ownBlock = none ∨ v.ownBlock ≠ v0.ownBlock) : w'.ownsRow b e s v n xs := by
 refine ⟨h.1, ?_⟩
 rcases h.2 with k1 | ⟨g9, cap, cur, k1, k2, k3, k4⟩
 ·exact .inl k1
 ·refine .inr ⟨g9, cap, cur, k1, k2, (hk.old g9 (lt_of_block k3) fun e => ?_).trans k3, k4⟩
  rw [k1] at hne
  rcases hne with h9 | h9
  ·simp [Value.ownBlock] at h9
  ·exact h9 (by rw [e]; rfl)
theorem marks_at {w : World} {v : Value} {M : List Nat} {b : Nat} (h : w.ownsRow b 58 1 v M.length (marksV M)) {q : Nat} (hq : q < M.length) : ∃ g c, v = .slice (some ⟨g, 0, none⟩) M.length c ∧ w.cell? ⟨g, q, none⟩ = some (.int .u8 (M.getD q 0 : Nat)) ∧ w.frozen? ⟨g, q, none⟩ = false ∧ b ≤ g ∧ g < w.heap.size := by
 rcases h.2 with ⟨_, h0⟩ | ⟨g, c, cur, e, hb, h3, _⟩
 ·omega
 ·subst e
  refine ⟨g, c, rfl, ?_, h.frozenAt q, hb, lt_of_block h3⟩
  rw [h.cellAt q (by omega)]
  simp [hq]
set_option maxRecDepth 1000000 in
set_option maxHeartbeats 60000000 in
theorem bec_round (WB wr : World) (x bC bm i : Nat) (vo : Value) (Ac Am AM : Option Addr) (cc cm cM : Nat) (C : List Int) (S S' Mm : List Nat) (eb : Array Value) (hxb : WB.heap[x]? = some (.cells eb 72 (0, 0))) (he6 : eb[6]? = some (.slice AM S.length cM))
  (hM : WB.ownsRow 0 58 1 (.slice AM S.length cM) S.length (marksV S)) (hC : WB.ownsRow bC 3 1 (.slice Ac C.length cc) C.length (intsV C)) (hm : WB.ownsRow bm 58 1 (.slice Am Mm.length cm) Mm.length (marksV Mm)) (hmM : (Value.slice Am Mm.length cm).ownBlock = none ∨ (Value.slice Am Mm.length cm).ownBlock ≠ (Value.slice AM S.length cM).ownBlock)
  (hok : DOk S.length C) (hl4 : S.length ≤ 4096) (hml : Mm.length ≤ 100000) (hval : ∀ i (h : i < C.length), i < Mm.length ∧ Mm.getD i 0 = S'.getD C[i].toNat 0) (hlt : i < C.length)
  (hmr : wr.ownsRow 0 58 1 (.slice AM S.length cM) S.length (marksV (putC S S' (C.take i)))) (hor : wr.ownsRow WB.heap.size 60 3 vo (chL S S' (C.take i)).length (chV (chL S S' (C.take i)))) (hkv : Kv (.slice AM S.length cM) WB wr) (Q' : Exit → Act → World → Prop)
  (u1 u2 u3 u4 u5 u6 u7 u8 u9 u11 u12 u13 u14 u16 u17 u18 u19 u20 u21 u22 u23 u24 u25 u26 u27 u28 u29 u30 u31 u32 u33 u34 u35 u36 u37 u38 u39 u40 u41 u42 u43 u44 u45 u46 u47 u48 u49 u50 u51 u52 u53 u54 u55 u56 u57 u58 u59 u60 u61 u62 u63 u64 u65 u66 u67 u68 u70 u72 u73 u74 u75 u76 u77 u78 u79 u80 u81 u82 u83 u84 u85 u86 u87 u88 u89 u90 u91 u92 u93 u94 u95 u96 u97 u98 u99 u100 u101 u102 u103 u104 u105 u106 u107 u108 u109 u110 u111 u112 u113 u114 u115 u116 u117 u118 u119 u120 u121 u122 u123 : Value)
  (hK : ∀ (x16 x17 x73 x74 x75 x76 x77 x78 x79 x80 x81 x82 x83 x84 x85 x86 x87 x88 x89 x90 x91 x92 x93 x94 x95 x96 x97 x98 x99 x100 x101 x102 x103 x104 x105 x106 x107 x108 x109 x110 x111 x112 x113 : Value) (wz : World) (v' : Value), wz.ownsRow 0 58 1 (.slice AM S.length cM) S.length (marksV (putC S S' (C.take (i + 1)))) → wz.ownsRow WB.heap.size 60 3 v' (chL S S' (C.take (i + 1))).length (chV (chL S S' (C.take (i + 1)))) → Kv (.slice AM S.length cM) WB wz → Q' .normal ⟨#[.pointer (some ⟨x, 0, none⟩), u1, u2, u3, u4, u5, u6, u7, u8, u9, .slice Am Mm.length cm, u11, u12, u13, u14, v', x16, x17, u18, u19, u20, u21, u22, u23, u24, u25, u26, u27, u28, u29, u30, u31, u32, u33, u34, u35, u36, u37, u38, u39, u40, u41, u42, u43, u44, u45, u46, u47, u48, u49, u50, u51, u52, u53, u54, u55, u56, u57, u58, u59, u60, u61, u62, u63, u64, u65, u66, u67, u68, .slice Ac C.length cc, u70, .int .i64 (i : Int), u72, x73, x74, x75, x76, x77, x78, x79, x80, x81, x82, x83, x84, x85, x86, x87, x88, x89, x90, x91, x92, x93, x94, x95, x96, x97, x98, x99, x100, x101, x102, x103, x104, x105, x106, x107, x108, x109, x110, x111, x112, x113, u114, u115, u116, u117, u118, u119, u120, u121, u122, u123], []⟩ wz) :
  Code.wp Tryz.prog becB3 Q' ⟨#[.pointer (some ⟨x, 0, none⟩), u1, u2, u3, u4, u5, u6, u7, u8, u9, .slice Am Mm.length cm, u11, u12, u13, u14, vo, u16, u17, u18, u19, u20, u21, u22, u23, u24, u25, u26, u27, u28, u29, u30, u31, u32, u33, u34, u35, u36, u37, u38, u39, u40, u41, u42, u43, u44, u45, u46, u47, u48, u49, u50, u51, u52, u53, u54, u55, u56, u57, u58, u59, u60, u61, u62, u63, u64, u65, u66, u67, u68, .slice Ac C.length cc, u70, .int .i64 (i : Int), u72, u73, u74, u75, u76, u77, u78, u79, u80, u81, u82, u83, u84, u85, u86, u87, u88, u89, u90, u91, u92, u93, u94, u95, u96, u97, u98, u99, u100, u101, u102, u103, u104, u105, u106, u107, u108, u109, u110, u111, u112, u113, u114, u115, u116, u117, u118, u119, u120, u121, u122, u123], []⟩ wr := by
 have HK := hid hK
 have Hxb := hid hxb
 have He6 := hid he6
 have HM := hid hM
 have HC := hid hC
 have Hm := hid hm
 have HmM := hid hmM
 have Hok := hid hok
 have Hval := hid hval
 have hcl := hok.le
 have hxl := lt_of_block hxb
 clear hK hxb he6 hM hC hm hmM hok hval
 conv => arg 2; whnf
 have hCr := own_kv HC.out hkv (own_own HC.out HM.out (by decide))
 obtain ⟨Ac2, cc2, e2, _, _, hrc⟩ := own_rdI hCr (by omega)
 obtain ⟨adc, rfl, hcc⟩ := hrc.at1 hlt
 cases e2
 have hq0 := Hok.out.rg _ (List.getElem_mem hlt)
 obtain ⟨q, hq⟩ := Int.eq_ofNat_of_zero_le hq0.1
 have hqS : q < S.length := by omega
 have hqt : C[i].toNat = q := by omega
 have hnn : ∀ y ∈ C, 0 ≤ y := fun y hy => (Hok.out.rg y hy).1
 have hcur := putC_cur (M := S) (M' := S') hlt (by rw [hqt]; exact hqS) hnn Hok.out.nd
 rw [hqt] at hcur
 have hpl := putC_length S S' (C.take i)
 obtain ⟨gM, cM2, e3, hcM, hfM, _, hgl⟩ := marks_at (by rw [hpl]; exact hmr) (q := q) (by rw [hpl]; exact hqS)
 rw [hpl] at e3
 have hAM : AM = some ⟨gM, 0, none⟩ := by injection e3
 subst hAM
 clear e3 cM2
 rw [hcur] at hcM
 obtain ⟨hil, hiv⟩ := Hval.out i hlt
 have hmr2 := own_kv Hm.out hkv HmM.out
 obtain ⟨gm, cm2, e4, hcm, _, _, hgml⟩ := marks_at hmr2 hil
 have hAm : Am = some ⟨gm, 0, none⟩ := by injection e4
 subst hAm
 clear e4 cm2
 have hxv : (Value.slice (some ⟨gM, 0, none⟩) S.length cM).ownBlock ≠ some x := own_ne_tag HM.out Hxb.out (by decide)
 have hgx : gM ≠ x := fun e => hxv (by rw [e]; rfl)
 have c6 : wr.cell? ⟨x, 6, none⟩ = some (.slice (some ⟨gM, 0, none⟩) S.length cM) := by rw [cell_of_row wr x 6 _ _ _ ((hkv.old x hxl hxv).trans Hxb.out)]; exact He6.out
 rw [hq] at hcc
 rw [hiv, hqt] at hcm
 have hgmM : gm ≠ gM := fun e => by
  rcases HmM.out with h9 | h9
  ·simp [Value.ownBlock] at h9
  ·exact h9 (by rw [e]; rfl)
 have hgB : gM < WB.heap.size := (HM.out.lt gM rfl).2
 have hgmB : gm < WB.heap.size := (Hm.out.lt gm rfl).2
 have hsz := hkv.sz
 have hcl2 := chL_le S S' (C.take i)
 rw [List.length_take] at hcl2
 have Hch := hid (chL_succ (M := S) (M' := S') hlt)
 have Hpc := hid (putC_succ (M := S) (M' := S') hlt)
 have Hsame := hid (putC_same (M := S) (M' := S') hlt (by rw [hqt]; exact hqS) hnn Hok.out.nd)
 rw [hqt] at Hpc Hsame
 have Hone1 : Hid (S'.getD q 0 = S.getD q 0 → chOne S S' C[i] = []) := hid fun h => chOne_f (by rw [hqt]; exact h)
 have Hone2 : Hid (S'.getD q 0 ≠ S.getD q 0 → chOne S S' C[i] = [((q : Int), S.getD q 0, S'.getD q 0)]) := hid fun h => by rw [chOne_t (by rw [hqt]; exact h), hqt, hq]
 have Hmr := hid hmr
 have Hor := hid hor
 have Hkv := hid hkv
 have hi0 : (0 : Int) ≤ (q : Int) := by omega
 have hi1 : (q : Int) < (S.length : Int) := by omega
 have hi2 : (0 : Int) ≤ (i : Int) := by omega
 have hi3 : (i : Int) < (Mm.length : Int) := by omega
 clear hmr hor hkv hCr hrc hq0 hcur hpl hmr2 hxv hnn hiv hqt hq
 generalize hnow : S'.getD q 0 = now at *
 generalize hwas : S.getD q 0 = was at *
 clear hnow hwas
 have Hall : Hid (q < S.length ∧ i < Mm.length ∧ x < WB.heap.size ∧ gM < WB.heap.size ∧ gm < WB.heap.size ∧ WB.heap.size ≤ wr.heap.size ∧ gM ≠ x ∧ gm ≠ gM ∧ wr.frozen? ⟨gM, q, none⟩ = false ∧ (chL S S' (C.take i)).length ≤ 1000000) := hid ⟨hqS, hil, hxl, hgB, hgmB, hsz, hgx, hgmM, hfM, by omega⟩
 clear hqS hil hgB hgmB hsz hgx hgmM hfM hcl2 hgl hgml
 by_cases hne : now = was
 ·have hn2 : ((now : Int) != (was : Int)) = false := by simp [hne]
  have Hs := hid (Hsame.out hne)
  have Ho := hid (Hone1.out hne)
  clear Hsame Hone1 Hone2 hne
  go_wp2
  go_region
  go_wp2
  exact HK.out _ _ _ _ _ _ _ _ _ _ _ _ _ _ _ _ _ _ _ _ _ _ _ _ _ _ _ _ _ _ _ _ _ _ _ _ _ _ _ _ _ _ _ _ _ (by rw [Hs.out]; exact Hmr.out.drew) (by rw [Hch.out, Ho.out, List.append_nil]; exact Hor.out.drew) Hkv.out.drew
 ·have hn2 : ((now : Int) != (was : Int)) = true := by simp; omega
  have Ho := hid (Hone2.out hne)
  clear Hsame Hone1 Hone2 hne
  go_wp2
  go_region
  go_step
  go_step
  go_step
  clear hn2
  have hord := Hor.out.drew
  obtain ⟨h1, h2, h3, h4, h5, h6, h7, h8, h9, h10⟩ := Hall.out
  refine becThen wr.drew WB.heap.size x gM S.length cM Mm.length cm i q was now (chL S S' (C.take i)).length gm _ _ c6 hcM h9 hcm h1 h2 h3 h4 h5 h6 (Ne.symm h7) h8 hord h10 _ _ _ _ _ _ _ _ _ _ _ _ _ _ _ _ _ _ _ _ _ _ _ _ _ _ _ _ _ _ _ _ _ _ _ _ _ _ _ _ _ _ _ _ _ _ _ _ _ _ _ _ _ _ _ _ _ _ _ _ _ _ _ _ _ _ _ _ _ _ _ _ _ _ _ _ _ _ _ _ _ _ _ _ _ _ _ _ _ _ _ _ _ _ _ _ _ _ _ _ _ _ _ _ _ _ _ _ _ _ _ _ _ _ _ _ _ _ _ _ ?_
  intro z88 z89 z90 z91 z92 z93 z94 z95 z96 z97 z98 z99 z100 z101 z102 z103 z104 z105 z106 z107 z108 z109 z110 z111 z112 z113 wy wz vo2 hor2 hby hwz
  have hmr3 : wz.ownsRow 0 58 1 (.slice (some ⟨gM, 0, none⟩) S.length cM) S.length (marksV (putC S S' (C.take (i + 1)))) := by
   have h8 : wy.ownsRow 0 58 1 (.slice (some ⟨gM, 0, none⟩) S.length cM) S.length (marksV (putC S S' (C.take i))) := by
    refine ⟨Hmr.out.1, ?_⟩
    rcases Hmr.out.2 with k1 | ⟨g9, cap, cur, k1, k2, k3, k4⟩
    ·exact .inl k1
    ·have e9 : g9 = gM := by injection k1 with k1 _ _; injection k1 with k1; injection k1 with k1 _ _; exact k1.symm
     exact .inr ⟨g9, cap, cur, k1, k2, (hby.block g9 (by rw [e9]; exact h4)).trans k3, k4⟩
   have h9 := (h8.stored q (.int .u8 (now : Int))).1
   rw [hwz, Hpc.out]
   simp only [marksV, List.map_set]
   exact h9.drew
  have hor3 : wz.ownsRow WB.heap.size 60 3 vo2 (chL S S' (C.take (i + 1))).length (chV (chL S S' (C.take (i + 1)))) := by
   rw [hwz, Hch.out, Ho.out, List.length_append, List.length_singleton, chV_snoc]
   exact (ownsRow_setCell_other hor2 (fun e => absurd (hor2.lt _ e).1 (Nat.not_le_of_lt h4)) _).drew
  have hkv3 : Kv (.slice (some ⟨gM, 0, none⟩) S.length cM) WB wz := by
   rw [hwz]
   refine Kv.drew ⟨hby.os.trans Hkv.out.os, hby.tape.trans Hkv.out.tape, hby.output.trans Hkv.out.output, by rw [World.size_setCell]; exact Nat.le_trans Hkv.out.sz hby.size, fun k h1 h2 => ?_⟩
   rw [heap_setCell_other _ _ _ _ (fun e => h2 (by rw [e]; rfl))]
   exact (hby.block k h1).trans (Hkv.out.old k h1 h2)
  exact HK.out _ _ _ _ _ _ _ _ _ _ _ _ _ _ _ _ _ _ _ _ _ _ _ _ _ _ _ _ _ _ _ _ _ _ _ _ _ _ _ _ _ _ _ _ _ hmr3 hor3 hkv3
end Go.Proofs.Lx
