/- Parts of the proof: Ee, Ef, Eg, Eh. Contract of the engine's tell. No condition. -/
import Derived.Test.YtalhpldbhogadaaGreatO11
import Derived.Deep.DeepCutAuto
namespace Go.Proofs.Lx
open Go Go.RowKit Go.Proofs.Tj
set_option linter.unusedVariables false
set_option linter.unusedSimpArgs false

theorem own_formS {w : World} {base e size n : Nat} {v : Value} {xs : List Value} (h : w.ownsRow base e size v (n + 1) xs) : ∃ g c, v = .slice (some ⟨g, 0, none⟩) (n + 1) c := by
 rcases h.2 with ⟨_, h0⟩ | ⟨g, cap, cur, hv, _⟩
 ·omega
 ·exact ⟨g, cap, hv⟩
theorem infoPr : (Tryz.prog.info? 98).map (fun i => (i.zero, i.size, i.bytes)) = some (some (.agg #[.int .i64 0, .int .i64 0]), 2, 16) := by kernel_rfl
theorem info_parts2 {P : Program} {e : TypeId} {z : Value} {s b : Nat} (h : (P.info? e).map (fun i => (i.zero, i.size, i.bytes)) = some (some z, s, b)) : ∃ i, P.info? e = some i ∧ i.zero = some z ∧ i.size = s ∧ i.bytes = b := by
 cases hi : P.info? e with
 | none => rw [hi] at h; simp at h
 | some i => rw [hi] at h; simp at h; exact ⟨i, rfl, h.1, h.2.1, h.2.2⟩
theorem cell_two_new (w : World) (a b : Value) (t : TypeId) : ∀ j u, [a, b][j]? = some u → (w.alloc (.cells #[a, b] t)).cell? ((⟨w.heap.size, 0, none⟩ : Addr).add j) = some u := by
 intro j u hj
 have h := heap_alloc_new w (.cells #[a, b] t)
 rw [add_plain, cell_of_row _ _ _ _ _ _ h]
 simpa using hj
theorem or_all : ∀ (x : _root_.Fin 16) (k : _root_.Fin 4), bits .or .u8 (x.val : Int) (2 ^ k.val % 256) = ((x.val ||| 2 ^ k.val : Nat) : Int) := by decide +kernel
theorem or_bit (x : Nat) (hx : x < 16) (k : Nat) (hk : k < 4) : bits .or .u8 (x : Int) (2 ^ k % 256) = ((x ||| 2 ^ k : Nat) : Int) := or_all ⟨x, hx⟩ ⟨k, hk⟩

set_option maxRecDepth 100000 in
set_option maxHeartbeats 3200000 in
theorem etell_any (w W0 : World) (G : Gh) (S : Stc) (T : Th) (D : Dyn) (h : Eng w W0 G S T D) (hti : TI S.n D) (q tag : Nat) (hq : q < S.n) (h1 : 1 ≤ tag) (h4 : tag ≤ 4) :
  Calls Tryz.prog 88 #[.pointer (some ⟨G.b, 0, none⟩), .int .i64 (q : Int), .int .i64 (tag : Int)] w (Ret (Stp W0 G S T (tellD D q tag))) := by
 have hc := ehas_any w W0 G S T D h q tag hq h1 h4 (hti.lt q)
 have hlen := told_length_le hti
 have hx := hti.lt q
 obtain ⟨vT, h⟩ := h
 have hn := h.st.n4
 have hi : 0 ≤ ((q : Nat) : Int) := by omega
 unfold Stp
 refine post_gen fun Q HQ => ?_
 cases hh : hasT D q tag with
 | true =>
  rw [hh] at hc
  rw [tell_has hh] at HQ
  clear hti hlen hx hh
  go_enter Tryz.func88, Tryz.ntmps88
  go_wp2_with fail
  refine hc.mono ?_
  rintro e w' ⟨_, rfl, rfl, rfl⟩
  clear hc
  go_wp2_with fail
  go_returns
  exact Fin HQ ⟨rfl, vT, h⟩
 | false =>
  rw [hh] at hc
  have e4 := h.hMarks
  have c := h.rMarks hq
  have f := h.fMarks q
  have H := hid h
  have Hhh := hid hh
  clear hti hh h
  go_enter Tryz.func88, Tryz.ntmps88
  go_wp2_with fail
  refine hc.mono ?_
  rintro e w' ⟨_, rfl, rfl, rfl⟩
  clear hc
  go_wp2_with fail
  go_region
  rw [or_bit (D.marks q) hx (tag - 1) (by omega)]
  obtain ⟨w2, Hw2⟩ : ∃ w2, Hid (w2 = (w.setCell ⟨G.g .marks, q, none⟩ (.int .u8 ((D.marks q ||| 2 ^ (tag - 1) : Nat) : Int))).drew) := ⟨_, hid rfl⟩
  rw [← Hw2.out]
  have h2 : EngV w2 W0 G S T { D with marks := Tj.upd D.marks q (D.marks q ||| 2 ^ (tag - 1)) } vT := by rw [Hw2.out]; exact (H.out.wMarks q _).drew
  have e5 := h2.hTold
  have Hown : Hid (w2.ownsRow W0.heap.size 98 2 vT D.told.length (toldV D.told)) := hid h2.toldOwn
  have hold : W0.heap.size ≤ w2.heap.size := h2.sp.old.size
  have H2 := hid h2
  have Haft : Hid (∀ (cs : Array Value) (t : TypeId) (v' : Value) (w3 : World), w3.ownsRow W0.heap.size 98 2 v' (D.told.length + 1) (toldV D.told ++ [Value.int .i64 (q : Int), Value.int .i64 (tag : Int)]) → (w2.alloc (.cells cs t)).grownBy w3 vT.ownBlock →
    (v'.ownBlock = vT.ownBlock ∨ v'.ownBlock = some (w2.alloc (.cells cs t)).heap.size) → w3.cell? ⟨G.b, 5, none⟩ = some vT ∧ w3.frozen? ⟨G.b, 5, none⟩ = false ∧ EngV (w3.setCell ⟨G.b, 5, none⟩ v') W0 G S T { D with marks := Tj.upd D.marks q (D.marks q ||| 2 ^ (tag - 1)), told := D.told ++ [(q, tag)] } v') := hid (by
   intro cs t v' w3 ho hg hat
   have h3 := h2.ext (ext_alloc w2 (.cells cs t))
   obtain ⟨k1, k2⟩ := h3.afterTold hg
   refine ⟨k1, k2, h3.wTold (l := D.told ++ [(q, tag)]) hg (by rw [toldV_snoc, List.length_append]; exact ho) fun g e => ?_⟩
   rcases hat with e1 | e1
   ·exact .inl (by rw [← e1]; exact e)
   ·rw [e1] at e; injection e with e; exact .inr (by omega))
  obtain ⟨i0, hi', hz0, hz1, hz2⟩ := info_parts2 infoPr
  have HQ' := hid HQ.out
  have hD : tellD D q tag = { D with marks := Tj.upd D.marks q (D.marks q ||| 2 ^ (tag - 1)), told := D.told ++ [(q, tag)], queued := wrap64 (D.queued + 1), upd := wrap64 (D.upd + 2) } := by
   unfold tellD; rw [if_neg (by rw [Hhh.out]; simp)]; rfl
  have HD := hid hD
  clear hD e4 c f h2
  go_wp2_with (at_builtin; refine wpList_append_own_at _ rfl _ _ 61 rfl W0.heap.size 98 i0 (.agg #[.int .i64 0, .int .i64 0]) 2 16 Tryz.underlying61 hi' hz0 hz1 hz2 rfl (by decide) vT D.told.length _ rfl (Hown.out.alloc _) ⟨w2.heap.size, 0, none⟩ 1 1 [.int .i64 (q : Int), .int .i64 (tag : Int)] rfl rfl (cell_two_new _ _ _ _) (fun u hu => by simp at hu; rcases hu with rfl | rfl <;> rfl) (by unfold maxLen; omega) (by omega) (by simp; omega) ?_; intro v' w3 hown' hgrow3 hnil3 hat3; obtain ⟨gn, cn, rfl⟩ := own_formS hown'; obtain ⟨k1, k2, h4'⟩ := Haft.out _ _ _ w3 hown' hgrow3 hat3; have e7 := h4'.hQueued; have f7 := h4'.free 7; have e8 := h4'.hUpd; have f8 := h4'.free 8; have H4 := hid h4'; clear h4')
  go_returns
  exact Fin HQ ⟨rfl, _, by rw [HD.out]; exact (H4.out.wQueued _).wUpd _⟩
end Go.Proofs.Lx

namespace Go.Proofs.Lx
open Go Go.RowKit Go.Proofs.Tj
set_option linter.unusedVariables false
set_option linter.unusedSimpArgs false

theorem Steps.tell1 {n : Nat} {D : Dyn} {q tag : Nat} (hq : q < n) (h1 : 1 ≤ tag) (h4 : tag ≤ 4) : Steps n D (tellD D q tag) := (Steps.refl D).tell q tag hq h1 h4
theorem steps_look1 {n : Nat} {D : Dyn} {q : Nat} (hq : q < n) : Steps n D (look1 D q) := by
 unfold look1; split
 ·exact Steps.tell1 hq (by omega) (by omega)
 ·exact Steps.refl D
theorem steps_look2 {n : Nat} {D : Dyn} {q : Nat} (hq : q < n) : Steps n D (look2 D q) := by
 unfold look2; split
 ·exact Steps.tell1 hq (by omega) (by omega)
 ·exact Steps.refl D
theorem steps_look {n : Nat} {D : Dyn} {q : Nat} (hq : q < n) : Steps n D (lookD D q) := (steps_look1 hq).trans (steps_look2 hq)

set_option maxRecDepth 100000 in
set_option maxHeartbeats 3200000 in
theorem elook_any (w W0 : World) (G : Gh) (S : Stc) (T : Th) (D : Dyn) (h : Eng w W0 G S T D) (hti : TI S.n D) (q : Nat) (hq : q < S.n) :
  Calls Tryz.prog 54 #[.pointer (some ⟨G.b, 0, none⟩), .int .i64 (q : Int)] w (Ret (Stp W0 G S T (lookD D q))) := by
 have hn : S.n ≤ 4096 := let ⟨_, k⟩ := h; k.st.n4
 have Hti := hid hti
 have H := hid h
 unfold Stp
 refine post_gen fun Q HQ => ?_
 clear h hti
 go_enter Tryz.func54, Tryz.ntmps54
 go_step; go_cut [] (fun wx => Eng wx W0 G S T (look1 D q))
 case first =>
  have hc := ehas_any w W0 G S T D H.out q 1 hq (by omega) (by omega) (Hti.out.lt q)
  have Htell := hid (etell_any w W0 G S T D H.out Hti.out q 3 hq (by omega) (by omega))
  unfold Stp at Htell
  have H1 : Hid (lookA D q = true → look1 D q = tellD D q 3) := hid fun e => by unfold look1; rw [if_pos e]
  have H0 : Hid (lookA D q = false → look1 D q = D) := hid fun e => by unfold look1; rw [e]; rfl
  have HL : Hid (lookA D q = (hasT D q 1 || (D.backed q && D.opn q == 0 && D.attacks q == 0))) := hid rfl
  obtain ⟨vT, h⟩ := H.out
  have c12 := h.hBacked; have r12 := h.rBacked hq
  have c13 := h.hOpn; have r13 := h.rOpn hq
  have c15 := h.hAttacks; have r15 := h.rAttacks hq
  clear h
  obtain ⟨b1, hb1⟩ : ∃ b, hasT D q 1 = b := ⟨_, rfl⟩
  obtain ⟨b2, hb2⟩ : ∃ b, D.backed q = b := ⟨_, rfl⟩
  obtain ⟨x3, hx3⟩ : ∃ b, D.opn q = b := ⟨_, rfl⟩
  obtain ⟨x4, hx4⟩ : ∃ b, D.attacks q = b := ⟨_, rfl⟩
  rw [hb1, hb2, hx3, hx4] at HL
  rw [hb1] at hc; rw [hb2] at r12; rw [hx3] at r13; rw [hx4] at r15
  clear hb1 hb2 hx3 hx4
  generalize lookA D q = L at *
  obtain ⟨b3, hb3⟩ : ∃ b, (x3 == 0) = b := ⟨_, rfl⟩
  obtain ⟨b4, hb4⟩ : ∃ b, (x4 == 0) = b := ⟨_, rfl⟩
  rw [hb3, hb4] at HL
  cases b1 with
  | true =>
   go_wp2_with fail
   refine hc.mono ?_
   rintro e w' ⟨_, rfl, rfl, rfl⟩
   clear hc
   have hL : L = true := by rw [HL.out]; rfl
   have hD := hid (H1.out hL)
   clear hL
   go_wp2_with fail
   refine Htell.out.mono ?_
   rintro e w2 ⟨_, rfl, rfl, he⟩
   go_wp2_with fail
   go_meet
   rw [hD.out]; exact he
  | false =>
   cases b2 with
   | false =>
    go_wp2_with fail
    refine hc.mono ?_
    rintro e w' ⟨_, rfl, rfl, rfl⟩
    clear hc
    have hL : L = false := by rw [HL.out]; rfl
    have hD := hid (H0.out hL)
    clear hL
    go_wp2_with fail
    go_meet
    rw [hD.out]; exact H.out
   | true =>
    cases b3 with
    | false =>
     go_wp2_with fail
     refine hc.mono ?_
     rintro e w' ⟨_, rfl, rfl, rfl⟩
     clear hc
     have hL : L = false := by rw [HL.out]; rfl
     have hD := hid (H0.out hL)
     clear hL
     go_wp2_with fail
     go_meet
     rw [hD.out]; exact H.out
    | true =>
     cases b4 with
     | false =>
      go_wp2_with fail
      refine hc.mono ?_
      rintro e w' ⟨_, rfl, rfl, rfl⟩
      clear hc
      have hL : L = false := by rw [HL.out]; rfl
      have hD := hid (H0.out hL)
      clear hL
      go_wp2_with fail
      go_meet
      rw [hD.out]; exact H.out
     | true =>
      go_wp2_with fail
      refine hc.mono ?_
      rintro e w' ⟨_, rfl, rfl, rfl⟩
      clear hc
      have hL : L = true := by rw [HL.out]; rfl
      have hD := hid (H1.out hL)
      clear hL
      go_wp2_with fail
      refine Htell.out.mono ?_
      rintro e w2 ⟨_, rfl, rfl, he⟩
      go_wp2_with fail
      go_meet
      rw [hD.out]; exact he
 case rest =>
  have Hti2 := hid (Hti.out.steps (steps_look1 hq))
  have HQ2 : Hid (∀ v w', v = Value.tuple #[] ∧ Eng w' W0 G S T (look2 (look1 D q) q) → Q v w') := HQ
  have H2 := hid hcut
  clear hcut HQ H Hti
  generalize look1 D q = E at *
  obtain ⟨w1, hw1⟩ : ∃ w1, w1 = wc := ⟨_, rfl⟩
  rw [← hw1] at H2 ⊢
  clear hw1
  have hc := ehas_any w1 W0 G S T E H2.out q 2 hq (by omega) (by omega) (Hti2.out.lt q)
  have Htell := hid (etell_any w1 W0 G S T E H2.out Hti2.out q 4 hq (by omega) (by omega))
  unfold Stp at Htell
  have H1 : Hid (lookB E q = true → look2 E q = tellD E q 4) := hid fun e => by unfold look2; rw [if_pos e]
  have H0 : Hid (lookB E q = false → look2 E q = E) := hid fun e => by unfold look2; rw [e]; rfl
  have HL : Hid (lookB E q = (hasT E q 2 && (E.backs q == 0 || E.clash q || E.standing q))) := hid rfl
  obtain ⟨vT, h⟩ := H2.out
  have c12 := h.hBacks; have r12 := h.rBacks hq
  have c13 := h.hClash; have r13 := h.rClash hq
  have c15 := h.hStanding; have r15 := h.rStanding hq
  clear h
  obtain ⟨b1, hb1⟩ : ∃ b, hasT E q 2 = b := ⟨_, rfl⟩
  obtain ⟨x2, hx2⟩ : ∃ b, E.backs q = b := ⟨_, rfl⟩
  obtain ⟨b3, hb3⟩ : ∃ b, E.clash q = b := ⟨_, rfl⟩
  obtain ⟨b4, hb4⟩ : ∃ b, E.standing q = b := ⟨_, rfl⟩
  rw [hb1, hx2, hb3, hb4] at HL
  rw [hb1] at hc; rw [hx2] at r12; rw [hb3] at r13; rw [hb4] at r15
  clear hb1 hx2 hb3 hb4
  generalize lookB E q = L at *
  obtain ⟨b2, hb2⟩ : ∃ b, (x2 == 0) = b := ⟨_, rfl⟩
  rw [hb2] at HL
  cases b1 with
  | false =>
   go_wp2_with fail
   refine hc.mono ?_
   rintro e w' ⟨_, rfl, rfl, rfl⟩
   clear hc
   have hL : L = false := by rw [HL.out]; rfl
   have hD := hid (H0.out hL)
   clear hL
   go_wp2_with fail
   go_returns
   exact Fin HQ2 ⟨rfl, by rw [hD.out]; exact H2.out⟩
  | true =>
   cases b2 with
   | true =>
    go_wp2_with fail
    refine hc.mono ?_
    rintro e w' ⟨_, rfl, rfl, rfl⟩
    clear hc
    have hL : L = true := by rw [HL.out]; rfl
    have hD := hid (H1.out hL)
    clear hL
    go_wp2_with fail
    refine Htell.out.mono ?_
    rintro e w2 ⟨_, rfl, rfl, he⟩
    go_wp2_with fail
    go_returns
    exact Fin HQ2 ⟨rfl, by rw [hD.out]; exact he⟩
   | false =>
    cases b3 with
    | true =>
     go_wp2_with fail
     refine hc.mono ?_
     rintro e w' ⟨_, rfl, rfl, rfl⟩
     clear hc
     have hL : L = true := by rw [HL.out]; rfl
     have hD := hid (H1.out hL)
     clear hL
     go_wp2_with fail
     refine Htell.out.mono ?_
     rintro e w2 ⟨_, rfl, rfl, he⟩
     go_wp2_with fail
     go_returns
     exact Fin HQ2 ⟨rfl, by rw [hD.out]; exact he⟩
    | false =>
     cases b4 with
     | true =>
      go_wp2_with fail
      refine hc.mono ?_
      rintro e w' ⟨_, rfl, rfl, rfl⟩
      clear hc
      have hL : L = true := by rw [HL.out]; rfl
      have hD := hid (H1.out hL)
      clear hL
      go_wp2_with fail
      refine Htell.out.mono ?_
      rintro e w2 ⟨_, rfl, rfl, he⟩
      go_wp2_with fail
      go_returns
      exact Fin HQ2 ⟨rfl, by rw [hD.out]; exact he⟩
     | false =>
      go_wp2_with fail
      refine hc.mono ?_
      rintro e w' ⟨_, rfl, rfl, rfl⟩
      clear hc
      have hL : L = false := by rw [HL.out]; rfl
      have hD := hid (H0.out hL)
      clear hL
      go_wp2_with fail
      go_returns
      exact Fin HQ2 ⟨rfl, by rw [hD.out]; exact H2.out⟩
end Go.Proofs.Lx

namespace Go.Proofs.Lx
open Go Go.RowKit Go.Proofs.Tj
set_option linter.unusedVariables false
set_option linter.unusedSimpArgs false

set_option maxRecDepth 100000 in
set_option maxHeartbeats 3200000 in
theorem esettle_any (w W0 : World) (G : Gh) (S : Stc) (T : Th) (D : Dyn) (h : Eng w W0 G S T D) (hok : SOk S) (hti : TI S.n D) (p : Nat) (hp : p < S.P) (hP : S.P ≤ 65536) :
  Calls Tryz.prog 93 #[.pointer (some ⟨G.b, 0, none⟩), .int .i64 (p : Int)] w (Ret (Stp W0 G S T (settleD S D p))) := by
 have hqn := hok.pq p hp
 have Hti := hid hti
 obtain ⟨vT, h⟩ := h
 have hn := h.st.n4
 obtain ⟨gP, cP, eP⟩ := h.pForm hp
 have e21 := h.hPairs
 rw [eP] at e21
 obtain ⟨k0, k1, k2, k3⟩ := h.rPair eP hp
 unfold Stp
 refine post_gen fun Q HQ => ?_
 cases hs : D.settled p with
 | true =>
  rw [hs] at k2
  have hD : settleD S D p = D := by unfold settleD; rw [if_pos hs]
  rw [hD] at HQ
  clear hs hD hti k1 k3 eP
  go_enter Tryz.func93, Tryz.ntmps93
  go_wp2
  go_returns
  exact Fin HQ ⟨rfl, vT, h⟩
 | false =>
  rw [hs] at k2
  have HD : Hid (settleD S D p = lookD (tick (decAttacks (setSettled D p) (S.pq p)) 2) (S.pq p)) := hid (by unfold settleD; rw [if_neg (by rw [hs]; simp)])
  have f2 := h.fPair eP (p * 4 + 2)
  have HeP := hid eP
  have H := hid h
  obtain ⟨q, Hq⟩ : ∃ q, Hid (S.pq p = q) := ⟨_, rfl⟩
  rw [Hq.out] at k0 HD hqn
  clear hs hti k1 k3 eP h
  go_enter Tryz.func93, Tryz.ntmps93
  go_wp2
  have h1 : EngV (w.setCell ⟨gP, p * 4 + 2, none⟩ (.bool true)) W0 G S T (setSettled D p) vT := H.out.wSettled HeP.out p true
  clear e21 k0 k2 f2
  generalize w.setCell ⟨gP, p * 4 + 2, none⟩ (.bool true) = w1 at *
  have e19 := h1.hAttacks
  have c19 := h1.rAttacks hqn
  have f19 := h1.fAttacks q
  have k0 := (h1.rPair HeP.out hp).1
  rw [Hq.out] at k0
  have H1 := hid h1
  clear h1
  go_region
  have h2 := (H1.out.wAttacks q (wrap64 ((setSettled D p).attacks q - 1))).drew
  clear e19 c19 f19 k0
  generalize (w1.setCell ⟨G.g .attacks, q, none⟩ (.int .i64 (wrap64 ((setSettled D p).attacks q - 1)))).drew = w2 at *
  have h2 : EngV w2 W0 G S T (decAttacks (setSettled D p) q) vT := h2
  have h3 : EngV (w2.setCell ⟨G.b, 8, none⟩ (.int .i64 (wrap64 ((decAttacks (setSettled D p) q).upd + 2)))) W0 G S T (tick (decAttacks (setSettled D p) q) 2) vT := h2.wUpd _
  have e8 := h2.hUpd
  have f8 := h2.free 8
  have k0 := (h3.rPair HeP.out hp).1
  rw [Hq.out] at k0
  have Hlook := hid (elook_any _ W0 G S T _ ⟨vT, h3⟩ ((Hti.out.steps (Steps.refl D)).other (F := tick (decAttacks (setSettled D p) q) 2) rfl rfl) q hqn)
  unfold Stp at Hlook
  rw [← HD.out] at Hlook
  clear h2 h3 HD
  go_wp2_with fail
  refine Hlook.out.mono ?_
  rintro e w4 ⟨_, rfl, rfl, he⟩
  clear Hlook e8 f8 k0
  go_wp2_with fail
  go_returns
  exact Fin HQ ⟨rfl, he⟩

set_option maxRecDepth 100000 in
set_option maxHeartbeats 3200000 in
theorem estand_any (w W0 : World) (G : Gh) (S : Stc) (T : Th) (D : Dyn) (h : Eng w W0 G S T D) (hok : SOk S) (hti : TI S.n D) (p : Nat) (hp : p < S.P) (hP : S.P ≤ 65536) :
  Calls Tryz.prog 94 #[.pointer (some ⟨G.b, 0, none⟩), .int .i64 (p : Int)] w (Ret (Stp W0 G S T (standD S D p))) := by
 have hqn := hok.pq p hp
 have hsm := hok.ps p hp
 have Hti := hid hti
 obtain ⟨vT, h⟩ := h
 have hn := h.st.n4
 have hm := h.st.m4
 obtain ⟨gP, cP, eP⟩ := h.pForm hp
 have e21 := h.hPairs
 rw [eP] at e21
 obtain ⟨k0, k1, k2, k3⟩ := h.rPair eP hp
 unfold Stp
 obtain ⟨q, Hq⟩ : ∃ q, Hid (S.pq p = q) := ⟨_, rfl⟩
 obtain ⟨s, Hs⟩ : ∃ s, Hid (S.ps p = s) := ⟨_, rfl⟩
 obtain ⟨st, Hst⟩ : ∃ st, Hid (D.settled p = st) := ⟨_, rfl⟩
 obtain ⟨lf, Hlf⟩ : ∃ lf, Hid (D.left p = lf) := ⟨_, rfl⟩
 rw [Hq.out] at k0 hqn
 rw [Hs.out] at k1 hsm
 rw [Hst.out] at k2
 rw [Hlf.out] at k3
 refine post_gen fun Q HQ => ?_
 obtain ⟨W1, HW1⟩ : ∃ W1, Hid (W1 = w.alloc (.cells #[.int .i64 (q : Int), .int .i64 (s : Int), .bool st, .int .i64 lf] 191)) := ⟨_, hid rfl⟩
 have h1 : EngV W1 W0 G S T D vT := by rw [HW1.out]; exact h.ext (ext_alloc _ _)
 have Hold := hid h
 have Hbox : Hid (∀ W' : World, W'.heap[w.heap.size]? = some (.cells #[.int .i64 (q : Int), .int .i64 (s : Int), .bool st, .int .i64 lf] 191 (0, 0)) → W'.cell? ⟨w.heap.size, 0, none⟩ = some (.int .i64 (q : Int)) ∧ W'.cell? ⟨w.heap.size, 1, none⟩ = some (.int .i64 (s : Int)) ∧ W'.cell? ⟨w.heap.size, 3, none⟩ = some (.int .i64 lf)) := hid fun W' hb =>
  ⟨cell_of_row W' _ 0 _ _ _ hb, cell_of_row W' _ 1 _ _ _ hb, cell_of_row W' _ 3 _ _ _ hb⟩
 have hbox : W1.heap[w.heap.size]? = some (.cells #[.int .i64 (q : Int), .int .i64 (s : Int), .bool st, .int .i64 lf] 191 (0, 0)) := by rw [HW1.out]; exact heap_alloc_new _ _
 have H := hid h1
 have Hbx := hid hbox
 clear h h1 hti hbox eP
 go_enter Tryz.func94, Tryz.ntmps94
 go_wp2
 rw [← HW1.out]
 obtain ⟨z0, z1, z3⟩ := Hbox.out W1 Hbx.out
 have e11 := H.out.hNeed
 have c11 := H.out.rNeed hsm
 have e20 := H.out.hStanding
 have c20 := H.out.rStanding hqn
 have HB : Hid (standB S D p = (D.need s == 0 && lf == 0 && !D.standing q)) := hid (by unfold standB; rw [Hs.out, Hq.out, Hlf.out])
 obtain ⟨nd, hnd⟩ : ∃ x, D.need s = x := ⟨_, rfl⟩
 obtain ⟨b3, hb3⟩ : ∃ x, D.standing q = x := ⟨_, rfl⟩
 rw [hnd, hb3] at HB
 rw [hnd] at c11; rw [hb3] at c20
 clear hnd hb3 e21 k0 k1 k2 k3
 obtain ⟨b1, hb1⟩ : ∃ b, (nd == 0) = b := ⟨_, rfl⟩
 obtain ⟨b2, hb2⟩ : ∃ b, (lf == 0) = b := ⟨_, rfl⟩
 rw [hb1, hb2] at HB
 cases b1 with
 | false =>
  have HD : Hid (standD S D p = D) := hid (by unfold standD; rw [if_neg (by rw [HB.out]; simp)])
  clear HB
  go_quiet (fail)
  go_wp2
  go_returns
  exact Fin HQ ⟨rfl, by rw [HD.out]; exact ⟨vT, H.out.drewN _⟩⟩
 | true =>
  cases b2 with
  | false =>
   have HD : Hid (standD S D p = D) := hid (by unfold standD; rw [if_neg (by rw [HB.out]; simp)])
   clear HB
   go_quiet (fail)
   go_wp2
   go_returns
   exact Fin HQ ⟨rfl, by rw [HD.out]; exact ⟨vT, H.out.drewN _⟩⟩
  | true =>
   cases b3 with
   | true =>
    have HD : Hid (standD S D p = D) := hid (by unfold standD; rw [if_neg (by rw [HB.out]; simp)])
    clear HB
    go_quiet (fail)
    go_wp2
    go_returns
    exact Fin HQ ⟨rfl, by rw [HD.out]; exact ⟨vT, H.out.drewN _⟩⟩
   | false =>
    have HD : Hid (standD S D p = lookD (tick (setStanding D q) 1) q) := hid (by unfold standD; rw [if_pos (by rw [HB.out]; rfl), Hq.out])
    clear HB
    go_quiet (fail)
    have hb5 := ext_drewN W1 nq
    have hbx2 : (W1.drewN nq).heap[w.heap.size]? = some (.cells #[.int .i64 (q : Int), .int .i64 (s : Int), .bool st, .int .i64 lf] 191 (0, 0)) := (hb5.block _ (lt_of_block Hbx.out)).trans Hbx.out
    have h5 := H.out.drewN nq
    have hlt : w.heap.size < W1.heap.size := lt_of_block Hbx.out
    have hne : w.heap.size ≠ G.b := by have := lt_of_block Hold.out.sp.hdr; omega
    have hne2 : w.heap.size ≠ G.g .standing := by have := (Cont.ok_lt (Hold.out.sp.ok .standing) (show (contE G S D vT .standing).fp (G.g .standing) from rfl)).2; omega
    clear hb5 z0 z1 z3 e11 c11 e20 c20 hb1 hb2
    generalize W1.drewN nq = w2 at *
    obtain ⟨z0, z1, z3⟩ := Hbox.out w2 hbx2
    have e20 := h5.hStanding
    have f20 := h5.fStanding q
    have c20 := h5.rStanding hqn
    have h6 : EngV (w2.setCell ⟨G.g .standing, q, none⟩ (.bool true)).drew W0 G S T (setStanding D q) vT := (h5.wStanding q true).drew
    have hbx3 : (w2.setCell ⟨G.g .standing, q, none⟩ (.bool true)).drew.heap[w.heap.size]? = _ := (heap_setCell_other w2 _ _ _ hne2).trans hbx2
    have H6 := hid h6
    have Hbx3 := hid hbx3
    have Hne := hid hne
    clear h5 h6 hbx3 hbx2 hlt hne hne2
    go_wp2
    go_region
    clear z0 z1 z3 e20 f20 c20
    generalize (w2.setCell ⟨G.g .standing, q, none⟩ (.bool true)).drew = w3 at *
    have e8 := H6.out.hUpd
    have f8 := H6.out.free 8
    have h7 : EngV (w3.setCell ⟨G.b, 8, none⟩ (.int .i64 (wrap64 ((setStanding D q).upd + 1)))) W0 G S T (tick (setStanding D q) 1) vT := H6.out.wUpd _
    obtain ⟨z0, _, _⟩ := Hbox.out (w3.setCell ⟨G.b, 8, none⟩ (.int .i64 (wrap64 ((setStanding D q).upd + 1)))) ((heap_setCell_other w3 _ _ _ Hne.out).trans Hbx3.out)
    have Hlook := hid (elook_any _ W0 G S T _ ⟨vT, h7⟩ ((Hti.out.steps (Steps.refl D)).other (F := tick (setStanding D q) 1) rfl rfl) q hqn)
    unfold Stp at Hlook
    rw [← HD.out] at Hlook
    clear h7 HD
    go_wp2_with fail
    refine Hlook.out.mono ?_
    rintro e w4 ⟨_, rfl, rfl, he⟩
    clear Hlook e8 f8 z0
    go_wp2_with fail
    go_returns
    exact Fin HQ ⟨rfl, he⟩
end Go.Proofs.Lx

namespace Go.Proofs.Lx
open Go Go.RowKit Go.Proofs.Tj
set_option linter.unusedVariables false
set_option linter.unusedSimpArgs false

theorem foldl_take {α β : Type} (f : β → α → β) (D : β) {l : List α} {k : Nat} (hk : k < l.length) : (l.take (k + 1)).foldl f D = f ((l.take k).foldl f D) l[k] := by
 rw [List.take_succ_eq_append_getElem hk, List.foldl_append]; rfl
theorem steps_foldl {α : Type} {n : Nat} {f : Dyn → α → Dyn} : ∀ (l : List α) (D : Dyn), (∀ x ∈ l, ∀ D, Steps n D (f D x)) → Steps n D (l.foldl f D)
 | [], D, _ => Steps.refl D
 | x :: l, D, h => (h x List.mem_cons_self D).trans (steps_foldl l (f D x) fun y hy => h y (List.mem_cons_of_mem _ hy))
theorem Steps.oth {n : Nat} {D F : Dyn} (h1 : F.marks = D.marks) (h2 : (F.told, F.queued) = (D.told, D.queued)) : Steps n D F := (Steps.refl D).other h1 h2
section
variable {S : Stc} {T : Th} {D : Dyn}
theorem steps_settle (hok : SOk S) {p : Nat} (hp : p < S.P) (D : Dyn) : Steps S.n D (settleD S D p) := by
 unfold settleD; split
 ·exact Steps.refl D
 ·exact (Steps.oth (D := D) (F := tick (decAttacks (setSettled D p) (S.pq p)) 2) rfl rfl).trans (steps_look (hok.pq p hp))
theorem steps_stand (hok : SOk S) {p : Nat} (hp : p < S.P) (D : Dyn) : Steps S.n D (standD S D p) := by
 unfold standD; split
 ·exact (Steps.oth (D := D) (F := tick (setStanding D (S.pq p)) 1) rfl rfl).trans (steps_look (hok.pq p hp))
 ·exact Steps.refl D
def bkD (D : Dyn) (q : Nat) : Dyn := if D.backed q = true then D else tick (setBacked D q) 1
theorem steps_bk {n : Nat} (D : Dyn) (q : Nat) : Steps n D (bkD D q) := by
 unfold bkD; split
 ·exact Steps.refl D
 ·exact Steps.oth rfl rfl
theorem steps_fire1 (hok : SOk S) {r : Nat} (hr : r < S.m) (hd : S.head r < S.n) (D : Dyn) : Steps S.n D (fire1 S D r) := by
 unfold fire1; split
 ·exact ((steps_bk D (S.head r)).trans (steps_foldl _ _ fun p hp D => steps_settle hok (hok.beats r hr p hp) D)).trans (steps_look hd)
 ·exact Steps.refl D
theorem steps_fire (hok : SOk S) {r : Nat} (hr : r < S.m) (hd : S.head r < S.n) (D : Dyn) : Steps S.n D (fireD S D r) :=
 (steps_fire1 hok hr hd D).trans (steps_foldl _ _ fun p hp D => steps_stand hok (hok.ofs r hr p hp) D)
end
section
variable {w W0 : World} {G : Gh} {S : Stc} {T : Th} {D : Dyn} {vT : Value}
theorem EngV.atInn (h : EngV w W0 G S T D vT) {q : Nat} (hq : q < S.n) {A : Option Addr} {c : Nat} (hv : G.vin[q]? = some (.slice A (S.inn q).length c)) {k : Nat} (hk : k < (S.inn q).length) : ∃ g, A = some ⟨g, 0, none⟩ ∧ w.cell? ⟨g, k, none⟩ = some (.int .i64 ((S.inn q)[k] : Int)) := by
 obtain ⟨v, h1, _, h3⟩ := h.rowInn hq
 rw [hv] at h1; injection h1 with h1; subst h1
 exact natsAt h3 hk
theorem EngV.atOfs (h : EngV w W0 G S T D vT) {q : Nat} (hq : q < S.m) {A : Option Addr} {c : Nat} (hv : G.vof[q]? = some (.slice A (S.ofs q).length c)) {k : Nat} (hk : k < (S.ofs q).length) : ∃ g, A = some ⟨g, 0, none⟩ ∧ w.cell? ⟨g, k, none⟩ = some (.int .i64 ((S.ofs q)[k] : Int)) := by
 obtain ⟨v, h1, _, h3⟩ := h.rowOfs hq
 rw [hv] at h1; injection h1 with h1; subst h1
 exact natsAt h3 hk
theorem EngV.atBeats (h : EngV w W0 G S T D vT) {q : Nat} (hq : q < S.m) {A : Option Addr} {c : Nat} (hv : G.vbe[q]? = some (.slice A (S.beats q).length c)) {k : Nat} (hk : k < (S.beats q).length) : ∃ g, A = some ⟨g, 0, none⟩ ∧ w.cell? ⟨g, k, none⟩ = some (.int .i64 ((S.beats q)[k] : Int)) := by
 obtain ⟨v, h1, _, h3⟩ := h.rowBeats hq
 rw [hv] at h1; injection h1 with h1; subst h1
 exact natsAt h3 hk
theorem EngV.hdInn (h : EngV w W0 G S T D vT) {q : Nat} (hq : q < S.n) : ∃ A c, G.vin[q]? = some (.slice A (S.inn q).length c) ∧ w.cell? ⟨G.g .inn, q, none⟩ = some (.slice A (S.inn q).length c) ∧ (S.inn q).length ≤ 9223372036854775807 := by
 obtain ⟨v, h1, h2, h3⟩ := h.rowInn hq
 obtain ⟨A, c, rfl, hm⟩ := natsRow h3
 exact ⟨A, c, h1, h2, by unfold maxLen at hm; omega⟩
theorem EngV.hdOfs (h : EngV w W0 G S T D vT) {q : Nat} (hq : q < S.m) : ∃ A c, G.vof[q]? = some (.slice A (S.ofs q).length c) ∧ w.cell? ⟨G.g .ofs, q, none⟩ = some (.slice A (S.ofs q).length c) ∧ (S.ofs q).length ≤ 9223372036854775807 := by
 obtain ⟨v, h1, h2, h3⟩ := h.rowOfs hq
 obtain ⟨A, c, rfl, hm⟩ := natsRow h3
 exact ⟨A, c, h1, h2, by unfold maxLen at hm; omega⟩
theorem EngV.hdBeats (h : EngV w W0 G S T D vT) {q : Nat} (hq : q < S.m) : ∃ A c, G.vbe[q]? = some (.slice A (S.beats q).length c) ∧ w.cell? ⟨G.g .beats, q, none⟩ = some (.slice A (S.beats q).length c) ∧ (S.beats q).length ≤ 9223372036854775807 := by
 obtain ⟨v, h1, h2, h3⟩ := h.rowBeats hq
 obtain ⟨A, c, rfl, hm⟩ := natsRow h3
 exact ⟨A, c, h1, h2, by unfold maxLen at hm; omega⟩
end

end Go.Proofs.Lx
