/- Parts of the proof: Ed, Ee, Ef. Contracts of the engine's small functions: has, support, lower, kill. Printed by gen_ed.py. No condition. -/
import Derived.Test.YtalhpldbhogadaaB11
import Derived.Deep.DeepCutAuto
namespace Go.Proofs.Lx
open Go Go.RowKit Go.Proofs.Tj
set_option linter.unusedVariables false
set_option linter.unusedSimpArgs false

theorem shr_all : ∀ (x : _root_.Fin 16) (k : _root_.Fin 4), (bits .and .u8 ((x.val : Int) / 2 ^ k.val) 1 == 1) = x.val.testBit k.val := by decide +kernel
theorem shr_bit (x : Nat) (hx : x < 16) (k : Nat) (hk : k < 4) : (bits .and .u8 ((x : Int) / 2 ^ k) 1 == 1) = x.testBit k := shr_all ⟨x, hx⟩ ⟨k, hk⟩

theorem ehas_any (w W0 : World) (G : Gh) (S : Stc) (T : Th) (D : Dyn) (h : Eng w W0 G S T D) (q tag : Nat) (hq : q < S.n) (h1 : 1 ≤ tag) (h4 : tag ≤ 4) (hx : D.marks q < 16) :
    Calls Try.prog 77 #[.pointer (some ⟨G.b, 0, none⟩), .int .i64 (q : Int), .int .i64 (tag : Int)] w (Ret fun v w' => v = .bool (hasT D q tag) ∧ w = w') := by
  obtain ⟨vT, h⟩ := h
  have e4 := h.hMarks
  have c := h.rMarks hq
  have hn := h.st.n4
  unfold hasT at *
  generalize D.marks q = x at *
  have hv := shr_bit x hx (tag - 1) (by omega)
  clear h
  refine post_gen fun Q HQ => ?_
  go_enter Try.func77, Try.ntmps77
  go_wp2
  go_ret
  exact Fin HQ ⟨rfl, rfl⟩
theorem esup_any (w W0 : World) (G : Gh) (S : Stc) (T : Th) (D : Dyn) (h : Eng w W0 G S T D) (r : Nat) (hr : r < S.m) :
    Calls Try.prog 144 #[.pointer (some ⟨G.b, 0, none⟩), .int .i64 (r : Int)] w (Ret fun v w' => v = .bool (supR S r) ∧ w = w') := by
  obtain ⟨vT, h⟩ := h
  have e2 := h.hR
  obtain ⟨g, B, c1, c2, eR, kk⟩ := h.rule hr
  obtain ⟨k0, k1, k2⟩ := kk w h.sp.old
  have hn := h.st.m4
  rw [eR] at e2
  unfold supR
  clear h eR kk
  refine post_gen fun Q HQ => ?_
  go_enter Try.func144, Try.ntmps144
  go_wp2
  go_ret
  exact Fin HQ ⟨rfl, rfl⟩
/-- What a step answers: nothing, and the state. -/
def Stp (W0 : World) (G : Gh) (S : Stc) (T : Th) (D' : Dyn) (v : Value) (w' : World) : Prop := v = .tuple #[] ∧ Eng w' W0 G S T D'
def StpB (W0 : World) (G : Gh) (S : Stc) (T : Th) (D' : Dyn) (c : Bool) (v : Value) (w' : World) : Prop := v = .bool c ∧ Eng w' W0 G S T D'


set_option maxHeartbeats 800000 in
theorem elowerN_any (w W0 : World) (G : Gh) (S : Stc) (T : Th) (D : Dyn) (h : Eng w W0 G S T D) (r : Nat) (hr : r < S.m) :
    Calls Try.prog 147 #[.pointer (some ⟨G.b, 0, none⟩), sl (G.g .need) S.m, .int .i64 (r : Int)] w (Ret (StpB W0 G S T (lowerN S D r) ((lowerN S D r).need r == 0))) := by
  obtain ⟨vT, h⟩ := h
  have c := h.rNeed hr
  have f := h.fNeed r
  have hn := h.st.m4
  have hb16 := h.st.b16 r hr
  obtain ⟨g, B, c1, c2, eR, kk⟩ := h.rule hr
  obtain ⟨x, hx⟩ : ∃ x, D.need r = x := ⟨_, rfl⟩
  rw [hx] at c
  have hw : EngV (w.setCell ⟨G.g .need, r, none⟩ (.int .i64 (wrap64 (x - 1)))) W0 G S T (decNeed D r) vT := by
    have := h.wNeed r (wrap64 (x - 1))
    unfold decNeed subW; rw [hx]; exact this
  have e2 := hw.hR
  rw [eR] at e2
  obtain ⟨k0, k1, k2⟩ := kk _ hw.sp.old
  have e8 := hw.hUpd
  have f8 := hw.free 8
  have c1 := hw.rNeed hr
  have hd1 : (decNeed D r).need r = wrap64 (x - 1) := by show Tj.upd _ _ _ _ = _; rw [Tj.upd_same, hx]; rfl
  rw [hd1] at c1
  have hw2 := hid (hw.wUpd (wrap64 ((decNeed D r).upd + 1)))
  have c2 := (hw.wUpd (wrap64 ((decNeed D r).upd + 1))).rNeed hr
  rw [show ({ decNeed D r with upd := wrap64 ((decNeed D r).upd + 1) } : Dyn).need r = wrap64 (x - 1) from hd1] at c2
  have Hw := hid hw
  have Hd := hid hd1
  unfold StpB
  clear h kk eR hw hd1 k0 k1 hx
  refine post_gen fun Q HQ => ?_
  by_cases hb : 1 < S.bodyLen r
  · have hl : lowerN S D r = { decNeed D r with upd := wrap64 ((decNeed D r).upd + 1) } := by unfold lowerN tickB; rw [if_pos hb]; rfl
    have hl2 : (lowerN S D r).need r = wrap64 (x - 1) := by rw [hl]; exact Hd.out
    rw [hl2, hl] at HQ
    have hb2 : decide (1 < S.bodyLen r) = true := decide_eq_true hb
    clear hl hl2
    generalize (decNeed D r).upd = y at *
    go_enter Try.func147, Try.ntmps147
    go_wp2
    go_ret
    exact Fin HQ ⟨rfl, vT, hw2.out⟩
  · have hl : lowerN S D r = decNeed D r := by unfold lowerN tickB; rw [if_neg hb]
    have hl2 : (lowerN S D r).need r = wrap64 (x - 1) := by rw [hl]; exact Hd.out
    rw [hl2, hl] at HQ
    have hb2 : decide (1 < S.bodyLen r) = false := decide_eq_false hb
    clear hl hl2 c2
    generalize (decNeed D r).upd = y at *
    go_enter Try.func147, Try.ntmps147
    go_wp2
    go_ret
    exact Fin HQ ⟨rfl, vT, Hw.out⟩

set_option maxHeartbeats 800000 in
theorem elowerS_any (w W0 : World) (G : Gh) (S : Stc) (T : Th) (D : Dyn) (h : Eng w W0 G S T D) (r : Nat) (hr : r < S.m) :
    Calls Try.prog 147 #[.pointer (some ⟨G.b, 0, none⟩), sl (G.g .needD) S.m, .int .i64 (r : Int)] w (Ret (StpB W0 G S T (lowerS S D r) ((lowerS S D r).needD r == 0))) := by
  obtain ⟨vT, h⟩ := h
  have c := h.rNeedD hr
  have f := h.fNeedD r
  have hn := h.st.m4
  have hb16 := h.st.b16 r hr
  obtain ⟨g, B, c1, c2, eR, kk⟩ := h.rule hr
  obtain ⟨x, hx⟩ : ∃ x, D.needD r = x := ⟨_, rfl⟩
  rw [hx] at c
  have hw : EngV (w.setCell ⟨G.g .needD, r, none⟩ (.int .i64 (wrap64 (x - 1)))) W0 G S T (decNeedD D r) vT := by
    have := h.wNeedD r (wrap64 (x - 1))
    unfold decNeedD subW; rw [hx]; exact this
  have e2 := hw.hR
  rw [eR] at e2
  obtain ⟨k0, k1, k2⟩ := kk _ hw.sp.old
  have e8 := hw.hUpd
  have f8 := hw.free 8
  have c1 := hw.rNeedD hr
  have hd1 : (decNeedD D r).needD r = wrap64 (x - 1) := by show Tj.upd _ _ _ _ = _; rw [Tj.upd_same, hx]; rfl
  rw [hd1] at c1
  have hw2 := hid (hw.wUpd (wrap64 ((decNeedD D r).upd + 1)))
  have c2 := (hw.wUpd (wrap64 ((decNeedD D r).upd + 1))).rNeedD hr
  rw [show ({ decNeedD D r with upd := wrap64 ((decNeedD D r).upd + 1) } : Dyn).needD r = wrap64 (x - 1) from hd1] at c2
  have Hw := hid hw
  have Hd := hid hd1
  unfold StpB
  clear h kk eR hw hd1 k0 k1 hx
  refine post_gen fun Q HQ => ?_
  by_cases hb : 1 < S.bodyLen r
  · have hl : lowerS S D r = { decNeedD D r with upd := wrap64 ((decNeedD D r).upd + 1) } := by unfold lowerS tickB; rw [if_pos hb]; rfl
    have hl2 : (lowerS S D r).needD r = wrap64 (x - 1) := by rw [hl]; exact Hd.out
    rw [hl2, hl] at HQ
    have hb2 : decide (1 < S.bodyLen r) = true := decide_eq_true hb
    clear hl hl2
    generalize (decNeedD D r).upd = y at *
    go_enter Try.func147, Try.ntmps147
    go_wp2
    go_ret
    exact Fin HQ ⟨rfl, vT, hw2.out⟩
  · have hl : lowerS S D r = decNeedD D r := by unfold lowerS tickB; rw [if_neg hb]
    have hl2 : (lowerS S D r).needD r = wrap64 (x - 1) := by rw [hl]; exact Hd.out
    rw [hl2, hl] at HQ
    have hb2 : decide (1 < S.bodyLen r) = false := decide_eq_false hb
    clear hl hl2 c2
    generalize (decNeedD D r).upd = y at *
    go_enter Try.func147, Try.ntmps147
    go_wp2
    go_ret
    exact Fin HQ ⟨rfl, vT, Hw.out⟩

set_option maxHeartbeats 800000 in
theorem ekillN_yes (w W0 : World) (G : Gh) (S : Stc) (T : Th) (D : Dyn) (h : Eng w W0 G S T D) (r : Nat) (hr : r < S.m) (hd : D.dead r = false) :
    Calls Try.prog 148 #[.pointer (some ⟨G.b, 0, none⟩), sl (G.g .dead) S.m, .int .i64 (r : Int)] w (Ret (StpB W0 G S T (killN S D r) true)) := by
  obtain ⟨vT, h⟩ := h
  have c := h.rDead hr
  rw [hd] at c
  have f := h.fDead r
  have hn := h.st.m4
  have hb16 := h.st.b16 r hr
  obtain ⟨g, B, c1, c2, eR, kk⟩ := h.rule hr
  have hw : EngV (w.setCell ⟨G.g .dead, r, none⟩ (.bool true)) W0 G S T (setDead D r) vT := h.wDead r true
  have e2 := hw.hR
  rw [eR] at e2
  obtain ⟨k0, k1, k2⟩ := kk _ hw.sp.old
  have e8 := hw.hUpd
  have f8 := hw.free 8
  have hw2 := hid (hw.wUpd (wrap64 ((setDead D r).upd + 1)))
  have Hw := hid hw
  unfold StpB
  clear h kk eR hw k0 k1 hd
  refine post_gen fun Q HQ => ?_
  by_cases hb : 1 < S.bodyLen r
  · have hl : killN S D r = { setDead D r with upd := wrap64 ((setDead D r).upd + 1) } := by unfold killN tickB; rw [if_pos hb]; rfl
    rw [hl] at HQ
    have hb2 : decide (1 < S.bodyLen r) = true := decide_eq_true hb
    clear hl
    generalize (setDead D r).upd = y at *
    go_enter Try.func148, Try.ntmps148
    go_wp2
    go_ret
    exact Fin HQ ⟨rfl, vT, hw2.out⟩
  · have hl : killN S D r = setDead D r := by unfold killN tickB; rw [if_neg hb]
    rw [hl] at HQ
    have hb2 : decide (1 < S.bodyLen r) = false := decide_eq_false hb
    clear hl
    generalize (setDead D r).upd = y at *
    go_enter Try.func148, Try.ntmps148
    go_wp2
    go_ret
    exact Fin HQ ⟨rfl, vT, Hw.out⟩
theorem ekillN_no (w W0 : World) (G : Gh) (S : Stc) (T : Th) (D : Dyn) (h : Eng w W0 G S T D) (r : Nat) (hr : r < S.m) (hd : D.dead r = true) :
    Calls Try.prog 148 #[.pointer (some ⟨G.b, 0, none⟩), sl (G.g .dead) S.m, .int .i64 (r : Int)] w (Ret fun v w' => v = .bool false ∧ w = w') := by
  obtain ⟨vT, h⟩ := h
  have c := h.rDead hr
  rw [hd] at c
  have hn := h.st.m4
  clear h hd
  refine post_gen fun Q HQ => ?_
  go_enter Try.func148, Try.ntmps148
  go_wp2
  go_ret
  exact Fin HQ ⟨rfl, rfl⟩

set_option maxHeartbeats 800000 in
theorem ekillS_yes (w W0 : World) (G : Gh) (S : Stc) (T : Th) (D : Dyn) (h : Eng w W0 G S T D) (r : Nat) (hr : r < S.m) (hd : D.deadD r = false) :
    Calls Try.prog 148 #[.pointer (some ⟨G.b, 0, none⟩), sl (G.g .deadD) S.m, .int .i64 (r : Int)] w (Ret (StpB W0 G S T (killS S D r) true)) := by
  obtain ⟨vT, h⟩ := h
  have c := h.rDeadD hr
  rw [hd] at c
  have f := h.fDeadD r
  have hn := h.st.m4
  have hb16 := h.st.b16 r hr
  obtain ⟨g, B, c1, c2, eR, kk⟩ := h.rule hr
  have hw : EngV (w.setCell ⟨G.g .deadD, r, none⟩ (.bool true)) W0 G S T (setDeadD D r) vT := h.wDeadD r true
  have e2 := hw.hR
  rw [eR] at e2
  obtain ⟨k0, k1, k2⟩ := kk _ hw.sp.old
  have e8 := hw.hUpd
  have f8 := hw.free 8
  have hw2 := hid (hw.wUpd (wrap64 ((setDeadD D r).upd + 1)))
  have Hw := hid hw
  unfold StpB
  clear h kk eR hw k0 k1 hd
  refine post_gen fun Q HQ => ?_
  by_cases hb : 1 < S.bodyLen r
  · have hl : killS S D r = { setDeadD D r with upd := wrap64 ((setDeadD D r).upd + 1) } := by unfold killS tickB; rw [if_pos hb]; rfl
    rw [hl] at HQ
    have hb2 : decide (1 < S.bodyLen r) = true := decide_eq_true hb
    clear hl
    generalize (setDeadD D r).upd = y at *
    go_enter Try.func148, Try.ntmps148
    go_wp2
    go_ret
    exact Fin HQ ⟨rfl, vT, hw2.out⟩
  · have hl : killS S D r = setDeadD D r := by unfold killS tickB; rw [if_neg hb]
    rw [hl] at HQ
    have hb2 : decide (1 < S.bodyLen r) = false := decide_eq_false hb
    clear hl
    generalize (setDeadD D r).upd = y at *
    go_enter Try.func148, Try.ntmps148
    go_wp2
    go_ret
    exact Fin HQ ⟨rfl, vT, Hw.out⟩
theorem ekillS_no (w W0 : World) (G : Gh) (S : Stc) (T : Th) (D : Dyn) (h : Eng w W0 G S T D) (r : Nat) (hr : r < S.m) (hd : D.deadD r = true) :
    Calls Try.prog 148 #[.pointer (some ⟨G.b, 0, none⟩), sl (G.g .deadD) S.m, .int .i64 (r : Int)] w (Ret fun v w' => v = .bool false ∧ w = w') := by
  obtain ⟨vT, h⟩ := h
  have c := h.rDeadD hr
  rw [hd] at c
  have hn := h.st.m4
  clear h hd
  refine post_gen fun Q HQ => ?_
  go_enter Try.func148, Try.ntmps148
  go_wp2
  go_ret
  exact Fin HQ ⟨rfl, rfl⟩
end Go.Proofs.Lx

namespace Go.Proofs.Lx
open Go Go.RowKit Go.Proofs.Tj
set_option linter.unusedVariables false
set_option linter.unusedSimpArgs false

theorem own_formS {w : World} {base e size n : Nat} {v : Value} {xs : List Value} (h : w.ownsRow base e size v (n + 1) xs) : ∃ g c, v = .slice (some ⟨g, 0, none⟩) (n + 1) c := by
  rcases h.2 with ⟨_, h0⟩ | ⟨g, cap, cur, hv, _⟩
  · omega
  · exact ⟨g, cap, hv⟩
theorem infoPr : (Try.prog.info? 112).map (fun i => (i.zero, i.size, i.bytes)) = some (some (.agg #[.int .i64 0, .int .i64 0]), 2, 16) := by kernel_rfl
theorem info_parts2 {P : Program} {e : TypeId} {z : Value} {s b : Nat} (h : (P.info? e).map (fun i => (i.zero, i.size, i.bytes)) = some (some z, s, b)) : ∃ i, P.info? e = some i ∧ i.zero = some z ∧ i.size = s ∧ i.bytes = b := by
  cases hi : P.info? e with
  | none => rw [hi] at h; simp at h
  | some i => rw [hi] at h; simp at h; exact ⟨i, rfl, h.1, h.2.1, h.2.2⟩
theorem cell_two_new (w : World) (a b : Value) (t : TypeId) : ∀ j u, [a, b][j]? = some u → (w.alloc (.cells #[a, b] t)).cell? ((⟨w.heap.size, 0, none⟩ : Addr).add j) = some u := by
  intro j u hj
  have h := heap_alloc_new w (.cells #[a, b] t)
  rw [add_plain, cell_of_row _ _ _ _ _ _ h]
  simpa using hj
theorem or_all : ∀ (x : _root_.Fin 16) (k : _root_.Fin 4), bits .or .u8 (x.val : Int) (2 ^ k.val % 256) = ((x.val ||| 2 ^ k.val : Nat) : Int) := by decide +kernel
theorem or_bit (x : Nat) (hx : x < 16) (k : Nat) (hk : k < 4) : bits .or .u8 (x : Int) (2 ^ k % 256) = ((x ||| 2 ^ k : Nat) : Int) := or_all ⟨x, hx⟩ ⟨k, hk⟩

set_option maxRecDepth 100000 in
set_option maxHeartbeats 3200000 in
theorem etell_any (w W0 : World) (G : Gh) (S : Stc) (T : Th) (D : Dyn) (h : Eng w W0 G S T D) (hti : TI S.n D) (q tag : Nat) (hq : q < S.n) (h1 : 1 ≤ tag) (h4 : tag ≤ 4) :
    Calls Try.prog 145 #[.pointer (some ⟨G.b, 0, none⟩), .int .i64 (q : Int), .int .i64 (tag : Int)] w (Ret (Stp W0 G S T (tellD D q tag))) := by
  have hc := ehas_any w W0 G S T D h q tag hq h1 h4 (hti.lt q)
  have hlen := told_length_le hti
  have hx := hti.lt q
  obtain ⟨vT, h⟩ := h
  have hn := h.st.n4
  have hi : 0 ≤ ((q : Nat) : Int) := by omega
  unfold Stp
  refine post_gen fun Q HQ => ?_
  cases hh : hasT D q tag with
  | true =>
    rw [hh] at hc
    rw [tell_has hh] at HQ
    clear hti hlen hx hh
    go_enter Try.func145, Try.ntmps145
    go_wp2_with fail
    refine hc.mono ?_
    rintro e w' ⟨_, rfl, rfl, rfl⟩
    clear hc
    go_wp2_with fail
    go_returns
    exact Fin HQ ⟨rfl, vT, h⟩
  | false =>
    rw [hh] at hc
    have e4 := h.hMarks
    have c := h.rMarks hq
    have f := h.fMarks q
    have H := hid h
    have Hhh := hid hh
    clear hti hh h
    go_enter Try.func145, Try.ntmps145
    go_wp2_with fail
    refine hc.mono ?_
    rintro e w' ⟨_, rfl, rfl, rfl⟩
    clear hc
    go_wp2_with fail
    go_region
    rw [or_bit (D.marks q) hx (tag - 1) (by omega)]
    obtain ⟨w2, Hw2⟩ : ∃ w2, Hid (w2 = (w.setCell ⟨G.g .marks, q, none⟩ (.int .u8 ((D.marks q ||| 2 ^ (tag - 1) : Nat) : Int))).drew) := ⟨_, hid rfl⟩
    rw [← Hw2.out]
    have h2 : EngV w2 W0 G S T { D with marks := Tj.upd D.marks q (D.marks q ||| 2 ^ (tag - 1)) } vT := by rw [Hw2.out]; exact (H.out.wMarks q _).drew
    have e5 := h2.hTold
    have Hown : Hid (w2.ownsRow W0.heap.size 112 2 vT D.told.length (toldV D.told)) := hid h2.toldOwn
    have hold : W0.heap.size ≤ w2.heap.size := h2.sp.old.size
    have H2 := hid h2
    have Haft : Hid (∀ (cs : Array Value) (t : TypeId) (v' : Value) (w3 : World), w3.ownsRow W0.heap.size 112 2 v' (D.told.length + 1) (toldV D.told ++ [Value.int .i64 (q : Int), Value.int .i64 (tag : Int)]) → (w2.alloc (.cells cs t)).grownBy w3 vT.ownBlock →
        (v'.ownBlock = vT.ownBlock ∨ v'.ownBlock = some (w2.alloc (.cells cs t)).heap.size) → w3.cell? ⟨G.b, 5, none⟩ = some vT ∧ w3.frozen? ⟨G.b, 5, none⟩ = false ∧ EngV (w3.setCell ⟨G.b, 5, none⟩ v') W0 G S T { D with marks := Tj.upd D.marks q (D.marks q ||| 2 ^ (tag - 1)), told := D.told ++ [(q, tag)] } v') := hid (by
      intro cs t v' w3 ho hg hat
      have h3 := h2.ext (ext_alloc w2 (.cells cs t))
      obtain ⟨k1, k2⟩ := h3.afterTold hg
      refine ⟨k1, k2, h3.wTold (l := D.told ++ [(q, tag)]) hg (by rw [toldV_snoc, List.length_append]; exact ho) fun g e => ?_⟩
      rcases hat with e1 | e1
      · exact .inl (by rw [← e1]; exact e)
      · rw [e1] at e; injection e with e; exact .inr (by omega))
    obtain ⟨i0, hi', hz0, hz1, hz2⟩ := info_parts2 infoPr
    have HQ' := hid HQ.out
    have hD : tellD D q tag = { D with marks := Tj.upd D.marks q (D.marks q ||| 2 ^ (tag - 1)), told := D.told ++ [(q, tag)], queued := wrap64 (D.queued + 1), upd := wrap64 (D.upd + 2) } := by
      unfold tellD; rw [if_neg (by rw [Hhh.out]; simp)]; rfl
    have HD := hid hD
    clear hD e4 c f h2
    go_wp2_with (at_builtin; refine wpList_append_own_at _ rfl _ _ 69 rfl W0.heap.size 112 i0 (.agg #[.int .i64 0, .int .i64 0]) 2 16 Try.underlying69 hi' hz0 hz1 hz2 rfl (by decide) vT D.told.length _ rfl (Hown.out.alloc _) ⟨w2.heap.size, 0, none⟩ 1 1 [.int .i64 (q : Int), .int .i64 (tag : Int)] rfl rfl (cell_two_new _ _ _ _) (fun u hu => by simp at hu; rcases hu with rfl | rfl <;> rfl) (by unfold maxLen; omega) (by omega) (by simp; omega) ?_; intro v' w3 hown' hgrow3 hnil3 hat3; obtain ⟨gn, cn, rfl⟩ := own_formS hown'; obtain ⟨k1, k2, h4'⟩ := Haft.out _ _ _ w3 hown' hgrow3 hat3; have e7 := h4'.hQueued; have f7 := h4'.free 7; have e8 := h4'.hUpd; have f8 := h4'.free 8; have H4 := hid h4'; clear h4')
    go_returns
    exact Fin HQ ⟨rfl, _, by rw [HD.out]; exact (H4.out.wQueued _).wUpd _⟩
end Go.Proofs.Lx

namespace Go.Proofs.Lx
open Go Go.RowKit Go.Proofs.Tj
set_option linter.unusedVariables false
set_option linter.unusedSimpArgs false

theorem Steps.tell1 {n : Nat} {D : Dyn} {q tag : Nat} (hq : q < n) (h1 : 1 ≤ tag) (h4 : tag ≤ 4) : Steps n D (tellD D q tag) := (Steps.refl D).tell q tag hq h1 h4
theorem steps_look1 {n : Nat} {D : Dyn} {q : Nat} (hq : q < n) : Steps n D (look1 D q) := by
  unfold look1; split
  · exact Steps.tell1 hq (by omega) (by omega)
  · exact Steps.refl D
theorem steps_look2 {n : Nat} {D : Dyn} {q : Nat} (hq : q < n) : Steps n D (look2 D q) := by
  unfold look2; split
  · exact Steps.tell1 hq (by omega) (by omega)
  · exact Steps.refl D
theorem steps_look {n : Nat} {D : Dyn} {q : Nat} (hq : q < n) : Steps n D (lookD D q) := (steps_look1 hq).trans (steps_look2 hq)

set_option maxRecDepth 100000 in
set_option maxHeartbeats 3200000 in
theorem elook_any (w W0 : World) (G : Gh) (S : Stc) (T : Th) (D : Dyn) (h : Eng w W0 G S T D) (hti : TI S.n D) (q : Nat) (hq : q < S.n) :
    Calls Try.prog 105 #[.pointer (some ⟨G.b, 0, none⟩), .int .i64 (q : Int)] w (Ret (Stp W0 G S T (lookD D q))) := by
  have hn : S.n ≤ 4096 := let ⟨_, k⟩ := h; k.st.n4
  have Hti := hid hti
  have H := hid h
  unfold Stp
  refine post_gen fun Q HQ => ?_
  clear h hti
  go_enter Try.func105, Try.ntmps105
  go_step; go_cut [] (fun wx => Eng wx W0 G S T (look1 D q))
  case first =>
    have hc := ehas_any w W0 G S T D H.out q 1 hq (by omega) (by omega) (Hti.out.lt q)
    have Htell := hid (etell_any w W0 G S T D H.out Hti.out q 3 hq (by omega) (by omega))
    unfold Stp at Htell
    have H1 : Hid (lookA D q = true → look1 D q = tellD D q 3) := hid fun e => by unfold look1; rw [if_pos e]
    have H0 : Hid (lookA D q = false → look1 D q = D) := hid fun e => by unfold look1; rw [e]; rfl
    have HL : Hid (lookA D q = (hasT D q 1 || (D.backed q && D.opn q == 0 && D.attacks q == 0))) := hid rfl
    obtain ⟨vT, h⟩ := H.out
    have c12 := h.hBacked; have r12 := h.rBacked hq
    have c13 := h.hOpn; have r13 := h.rOpn hq
    have c15 := h.hAttacks; have r15 := h.rAttacks hq
    clear h
    obtain ⟨b1, hb1⟩ : ∃ b, hasT D q 1 = b := ⟨_, rfl⟩
    obtain ⟨b2, hb2⟩ : ∃ b, D.backed q = b := ⟨_, rfl⟩
    obtain ⟨x3, hx3⟩ : ∃ b, D.opn q = b := ⟨_, rfl⟩
    obtain ⟨x4, hx4⟩ : ∃ b, D.attacks q = b := ⟨_, rfl⟩
    rw [hb1, hb2, hx3, hx4] at HL
    rw [hb1] at hc; rw [hb2] at r12; rw [hx3] at r13; rw [hx4] at r15
    clear hb1 hb2 hx3 hx4
    generalize lookA D q = L at *
    obtain ⟨b3, hb3⟩ : ∃ b, (x3 == 0) = b := ⟨_, rfl⟩
    obtain ⟨b4, hb4⟩ : ∃ b, (x4 == 0) = b := ⟨_, rfl⟩
    rw [hb3, hb4] at HL
    cases b1 with
    | true =>
      go_wp2_with fail
      refine hc.mono ?_
      rintro e w' ⟨_, rfl, rfl, rfl⟩
      clear hc
      have hL : L = true := by rw [HL.out]; rfl
      have hD := hid (H1.out hL)
      clear hL
      go_wp2_with fail
      refine Htell.out.mono ?_
      rintro e w2 ⟨_, rfl, rfl, he⟩
      go_wp2_with fail
      go_meet
      rw [hD.out]; exact he
    | false =>
      cases b2 with
      | false =>
        go_wp2_with fail
        refine hc.mono ?_
        rintro e w' ⟨_, rfl, rfl, rfl⟩
        clear hc
        have hL : L = false := by rw [HL.out]; rfl
        have hD := hid (H0.out hL)
        clear hL
        go_wp2_with fail
        go_meet
        rw [hD.out]; exact H.out
      | true =>
        cases b3 with
        | false =>
          go_wp2_with fail
          refine hc.mono ?_
          rintro e w' ⟨_, rfl, rfl, rfl⟩
          clear hc
          have hL : L = false := by rw [HL.out]; rfl
          have hD := hid (H0.out hL)
          clear hL
          go_wp2_with fail
          go_meet
          rw [hD.out]; exact H.out
        | true =>
          cases b4 with
          | false =>
            go_wp2_with fail
            refine hc.mono ?_
            rintro e w' ⟨_, rfl, rfl, rfl⟩
            clear hc
            have hL : L = false := by rw [HL.out]; rfl
            have hD := hid (H0.out hL)
            clear hL
            go_wp2_with fail
            go_meet
            rw [hD.out]; exact H.out
          | true =>
            go_wp2_with fail
            refine hc.mono ?_
            rintro e w' ⟨_, rfl, rfl, rfl⟩
            clear hc
            have hL : L = true := by rw [HL.out]; rfl
            have hD := hid (H1.out hL)
            clear hL
            go_wp2_with fail
            refine Htell.out.mono ?_
            rintro e w2 ⟨_, rfl, rfl, he⟩
            go_wp2_with fail
            go_meet
            rw [hD.out]; exact he
  case rest =>
    have Hti2 := hid (Hti.out.steps (steps_look1 hq))
    have HQ2 : Hid (∀ v w', v = Value.tuple #[] ∧ Eng w' W0 G S T (look2 (look1 D q) q) → Q v w') := HQ
    have H2 := hid hcut
    clear hcut HQ H Hti
    generalize look1 D q = E at *
    obtain ⟨w1, hw1⟩ : ∃ w1, w1 = wc := ⟨_, rfl⟩
    rw [← hw1] at H2 ⊢
    clear hw1
    have hc := ehas_any w1 W0 G S T E H2.out q 2 hq (by omega) (by omega) (Hti2.out.lt q)
    have Htell := hid (etell_any w1 W0 G S T E H2.out Hti2.out q 4 hq (by omega) (by omega))
    unfold Stp at Htell
    have H1 : Hid (lookB E q = true → look2 E q = tellD E q 4) := hid fun e => by unfold look2; rw [if_pos e]
    have H0 : Hid (lookB E q = false → look2 E q = E) := hid fun e => by unfold look2; rw [e]; rfl
    have HL : Hid (lookB E q = (hasT E q 2 && (E.backs q == 0 || E.clash q || E.standing q))) := hid rfl
    obtain ⟨vT, h⟩ := H2.out
    have c12 := h.hBacks; have r12 := h.rBacks hq
    have c13 := h.hClash; have r13 := h.rClash hq
    have c15 := h.hStanding; have r15 := h.rStanding hq
    clear h
    obtain ⟨b1, hb1⟩ : ∃ b, hasT E q 2 = b := ⟨_, rfl⟩
    obtain ⟨x2, hx2⟩ : ∃ b, E.backs q = b := ⟨_, rfl⟩
    obtain ⟨b3, hb3⟩ : ∃ b, E.clash q = b := ⟨_, rfl⟩
    obtain ⟨b4, hb4⟩ : ∃ b, E.standing q = b := ⟨_, rfl⟩
    rw [hb1, hx2, hb3, hb4] at HL
    rw [hb1] at hc; rw [hx2] at r12; rw [hb3] at r13; rw [hb4] at r15
    clear hb1 hx2 hb3 hb4
    generalize lookB E q = L at *
    obtain ⟨b2, hb2⟩ : ∃ b, (x2 == 0) = b := ⟨_, rfl⟩
    rw [hb2] at HL
    cases b1 with
    | false =>
      go_wp2_with fail
      refine hc.mono ?_
      rintro e w' ⟨_, rfl, rfl, rfl⟩
      clear hc
      have hL : L = false := by rw [HL.out]; rfl
      have hD := hid (H0.out hL)
      clear hL
      go_wp2_with fail
      go_returns
      exact Fin HQ2 ⟨rfl, by rw [hD.out]; exact H2.out⟩
    | true =>
      cases b2 with
      | true =>
        go_wp2_with fail
        refine hc.mono ?_
        rintro e w' ⟨_, rfl, rfl, rfl⟩
        clear hc
        have hL : L = true := by rw [HL.out]; rfl
        have hD := hid (H1.out hL)
        clear hL
        go_wp2_with fail
        refine Htell.out.mono ?_
        rintro e w2 ⟨_, rfl, rfl, he⟩
        go_wp2_with fail
        go_returns
        exact Fin HQ2 ⟨rfl, by rw [hD.out]; exact he⟩
      | false =>
        cases b3 with
        | true =>
          go_wp2_with fail
          refine hc.mono ?_
          rintro e w' ⟨_, rfl, rfl, rfl⟩
          clear hc
          have hL : L = true := by rw [HL.out]; rfl
          have hD := hid (H1.out hL)
          clear hL
          go_wp2_with fail
          refine Htell.out.mono ?_
          rintro e w2 ⟨_, rfl, rfl, he⟩
          go_wp2_with fail
          go_returns
          exact Fin HQ2 ⟨rfl, by rw [hD.out]; exact he⟩
        | false =>
          cases b4 with
          | true =>
            go_wp2_with fail
            refine hc.mono ?_
            rintro e w' ⟨_, rfl, rfl, rfl⟩
            clear hc
            have hL : L = true := by rw [HL.out]; rfl
            have hD := hid (H1.out hL)
            clear hL
            go_wp2_with fail
            refine Htell.out.mono ?_
            rintro e w2 ⟨_, rfl, rfl, he⟩
            go_wp2_with fail
            go_returns
            exact Fin HQ2 ⟨rfl, by rw [hD.out]; exact he⟩
          | false =>
            go_wp2_with fail
            refine hc.mono ?_
            rintro e w' ⟨_, rfl, rfl, rfl⟩
            clear hc
            have hL : L = false := by rw [HL.out]; rfl
            have hD := hid (H0.out hL)
            clear hL
            go_wp2_with fail
            go_returns
            exact Fin HQ2 ⟨rfl, by rw [hD.out]; exact H2.out⟩
end Go.Proofs.Lx
