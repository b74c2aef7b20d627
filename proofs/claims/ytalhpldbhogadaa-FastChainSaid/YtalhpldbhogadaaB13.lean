/- Parts of the proof: Eg, Eh, Ei. Contracts of the engine's settle and stand. No condition. -/
import Derived.Test.YtalhpldbhogadaaB12
namespace Go.Proofs.Lx
open Go Go.RowKit Go.Proofs.Tj
set_option linter.unusedVariables false
set_option linter.unusedSimpArgs false

set_option maxRecDepth 100000 in
set_option maxHeartbeats 3200000 in
theorem esettle_any (w W0 : World) (G : Gh) (S : Stc) (T : Th) (D : Dyn) (h : Eng w W0 G S T D) (hok : SOk S) (hti : TI S.n D) (p : Nat) (hp : p < S.P) (hP : S.P ≤ 65536) :
    Calls Try.prog 150 #[.pointer (some ⟨G.b, 0, none⟩), .int .i64 (p : Int)] w (Ret (Stp W0 G S T (settleD S D p))) := by
  have hqn := hok.pq p hp
  have Hti := hid hti
  obtain ⟨vT, h⟩ := h
  have hn := h.st.n4
  obtain ⟨gP, cP, eP⟩ := h.pForm hp
  have e21 := h.hPairs
  rw [eP] at e21
  obtain ⟨k0, k1, k2, k3⟩ := h.rPair eP hp
  unfold Stp
  refine post_gen fun Q HQ => ?_
  cases hs : D.settled p with
  | true =>
    rw [hs] at k2
    have hD : settleD S D p = D := by unfold settleD; rw [if_pos hs]
    rw [hD] at HQ
    clear hs hD hti k1 k3 eP
    go_enter Try.func150, Try.ntmps150
    go_wp2
    go_returns
    exact Fin HQ ⟨rfl, vT, h⟩
  | false =>
    rw [hs] at k2
    have HD : Hid (settleD S D p = lookD (tick (decAttacks (setSettled D p) (S.pq p)) 2) (S.pq p)) := hid (by unfold settleD; rw [if_neg (by rw [hs]; simp)])
    have f2 := h.fPair eP (p * 4 + 2)
    have HeP := hid eP
    have H := hid h
    obtain ⟨q, Hq⟩ : ∃ q, Hid (S.pq p = q) := ⟨_, rfl⟩
    rw [Hq.out] at k0 HD hqn
    clear hs hti k1 k3 eP h
    go_enter Try.func150, Try.ntmps150
    go_wp2
    have h1 : EngV (w.setCell ⟨gP, p * 4 + 2, none⟩ (.bool true)) W0 G S T (setSettled D p) vT := H.out.wSettled HeP.out p true
    clear e21 k0 k2 f2
    generalize w.setCell ⟨gP, p * 4 + 2, none⟩ (.bool true) = w1 at *
    have e19 := h1.hAttacks
    have c19 := h1.rAttacks hqn
    have f19 := h1.fAttacks q
    have k0 := (h1.rPair HeP.out hp).1
    rw [Hq.out] at k0
    have H1 := hid h1
    clear h1
    go_region
    have h2 := (H1.out.wAttacks q (wrap64 ((setSettled D p).attacks q - 1))).drew
    clear e19 c19 f19 k0
    generalize (w1.setCell ⟨G.g .attacks, q, none⟩ (.int .i64 (wrap64 ((setSettled D p).attacks q - 1)))).drew = w2 at *
    have h2 : EngV w2 W0 G S T (decAttacks (setSettled D p) q) vT := h2
    have h3 : EngV (w2.setCell ⟨G.b, 8, none⟩ (.int .i64 (wrap64 ((decAttacks (setSettled D p) q).upd + 2)))) W0 G S T (tick (decAttacks (setSettled D p) q) 2) vT := h2.wUpd _
    have e8 := h2.hUpd
    have f8 := h2.free 8
    have k0 := (h3.rPair HeP.out hp).1
    rw [Hq.out] at k0
    have Hlook := hid (elook_any _ W0 G S T _ ⟨vT, h3⟩ ((Hti.out.steps (Steps.refl D)).other (F := tick (decAttacks (setSettled D p) q) 2) rfl rfl) q hqn)
    unfold Stp at Hlook
    rw [← HD.out] at Hlook
    clear h2 h3 HD
    go_wp2_with fail
    refine Hlook.out.mono ?_
    rintro e w4 ⟨_, rfl, rfl, he⟩
    clear Hlook e8 f8 k0
    go_wp2_with fail
    go_returns
    exact Fin HQ ⟨rfl, he⟩

set_option maxRecDepth 100000 in
set_option maxHeartbeats 3200000 in
theorem estand_any (w W0 : World) (G : Gh) (S : Stc) (T : Th) (D : Dyn) (h : Eng w W0 G S T D) (hok : SOk S) (hti : TI S.n D) (p : Nat) (hp : p < S.P) (hP : S.P ≤ 65536) :
    Calls Try.prog 151 #[.pointer (some ⟨G.b, 0, none⟩), .int .i64 (p : Int)] w (Ret (Stp W0 G S T (standD S D p))) := by
  have hqn := hok.pq p hp
  have hsm := hok.ps p hp
  have Hti := hid hti
  obtain ⟨vT, h⟩ := h
  have hn := h.st.n4
  have hm := h.st.m4
  obtain ⟨gP, cP, eP⟩ := h.pForm hp
  have e21 := h.hPairs
  rw [eP] at e21
  obtain ⟨k0, k1, k2, k3⟩ := h.rPair eP hp
  unfold Stp
  obtain ⟨q, Hq⟩ : ∃ q, Hid (S.pq p = q) := ⟨_, rfl⟩
  obtain ⟨s, Hs⟩ : ∃ s, Hid (S.ps p = s) := ⟨_, rfl⟩
  obtain ⟨st, Hst⟩ : ∃ st, Hid (D.settled p = st) := ⟨_, rfl⟩
  obtain ⟨lf, Hlf⟩ : ∃ lf, Hid (D.left p = lf) := ⟨_, rfl⟩
  rw [Hq.out] at k0 hqn
  rw [Hs.out] at k1 hsm
  rw [Hst.out] at k2
  rw [Hlf.out] at k3
  refine post_gen fun Q HQ => ?_
  obtain ⟨W1, HW1⟩ : ∃ W1, Hid (W1 = w.alloc (.cells #[.int .i64 (q : Int), .int .i64 (s : Int), .bool st, .int .i64 lf] 146)) := ⟨_, hid rfl⟩
  have h1 : EngV W1 W0 G S T D vT := by rw [HW1.out]; exact h.ext (ext_alloc _ _)
  have Hold := hid h
  have Hbox : Hid (∀ W' : World, W'.heap[w.heap.size]? = some (.cells #[.int .i64 (q : Int), .int .i64 (s : Int), .bool st, .int .i64 lf] 146 (0, 0)) → W'.cell? ⟨w.heap.size, 0, none⟩ = some (.int .i64 (q : Int)) ∧ W'.cell? ⟨w.heap.size, 1, none⟩ = some (.int .i64 (s : Int)) ∧ W'.cell? ⟨w.heap.size, 3, none⟩ = some (.int .i64 lf)) := hid fun W' hb =>
    ⟨cell_of_row W' _ 0 _ _ _ hb, cell_of_row W' _ 1 _ _ _ hb, cell_of_row W' _ 3 _ _ _ hb⟩
  have hbox : W1.heap[w.heap.size]? = some (.cells #[.int .i64 (q : Int), .int .i64 (s : Int), .bool st, .int .i64 lf] 146 (0, 0)) := by rw [HW1.out]; exact heap_alloc_new _ _
  have H := hid h1
  have Hbx := hid hbox
  clear h h1 hti hbox eP
  go_enter Try.func151, Try.ntmps151
  go_wp2
  rw [← HW1.out]
  obtain ⟨z0, z1, z3⟩ := Hbox.out W1 Hbx.out
  have e11 := H.out.hNeed
  have c11 := H.out.rNeed hsm
  have e20 := H.out.hStanding
  have c20 := H.out.rStanding hqn
  have HB : Hid (standB S D p = (D.need s == 0 && lf == 0 && !D.standing q)) := hid (by unfold standB; rw [Hs.out, Hq.out, Hlf.out])
  obtain ⟨nd, hnd⟩ : ∃ x, D.need s = x := ⟨_, rfl⟩
  obtain ⟨b3, hb3⟩ : ∃ x, D.standing q = x := ⟨_, rfl⟩
  rw [hnd, hb3] at HB
  rw [hnd] at c11; rw [hb3] at c20
  clear hnd hb3 e21 k0 k1 k2 k3
  obtain ⟨b1, hb1⟩ : ∃ b, (nd == 0) = b := ⟨_, rfl⟩
  obtain ⟨b2, hb2⟩ : ∃ b, (lf == 0) = b := ⟨_, rfl⟩
  rw [hb1, hb2] at HB
  cases b1 with
  | false =>
    have HD : Hid (standD S D p = D) := hid (by unfold standD; rw [if_neg (by rw [HB.out]; simp)])
    clear HB
    go_quiet (fail)
    go_wp2
    go_returns
    exact Fin HQ ⟨rfl, by rw [HD.out]; exact ⟨vT, H.out.drewN _⟩⟩
  | true =>
    cases b2 with
    | false =>
      have HD : Hid (standD S D p = D) := hid (by unfold standD; rw [if_neg (by rw [HB.out]; simp)])
      clear HB
      go_quiet (fail)
      go_wp2
      go_returns
      exact Fin HQ ⟨rfl, by rw [HD.out]; exact ⟨vT, H.out.drewN _⟩⟩
    | true =>
      cases b3 with
      | true =>
        have HD : Hid (standD S D p = D) := hid (by unfold standD; rw [if_neg (by rw [HB.out]; simp)])
        clear HB
        go_quiet (fail)
        go_wp2
        go_returns
        exact Fin HQ ⟨rfl, by rw [HD.out]; exact ⟨vT, H.out.drewN _⟩⟩
      | false =>
        have HD : Hid (standD S D p = lookD (tick (setStanding D q) 1) q) := hid (by unfold standD; rw [if_pos (by rw [HB.out]; rfl), Hq.out])
        clear HB
        go_quiet (fail)
        have hb5 := ext_drewN W1 nq
        have hbx2 : (W1.drewN nq).heap[w.heap.size]? = some (.cells #[.int .i64 (q : Int), .int .i64 (s : Int), .bool st, .int .i64 lf] 146 (0, 0)) := (hb5.block _ (lt_of_block Hbx.out)).trans Hbx.out
        have h5 := H.out.drewN nq
        have hlt : w.heap.size < W1.heap.size := lt_of_block Hbx.out
        have hne : w.heap.size ≠ G.b := by have := lt_of_block Hold.out.sp.hdr; omega
        have hne2 : w.heap.size ≠ G.g .standing := by have := (Cont.ok_lt (Hold.out.sp.ok .standing) (show (contE G S D vT .standing).fp (G.g .standing) from rfl)).2; omega
        clear hb5 z0 z1 z3 e11 c11 e20 c20 hb1 hb2
        generalize W1.drewN nq = w2 at *
        obtain ⟨z0, z1, z3⟩ := Hbox.out w2 hbx2
        have e20 := h5.hStanding
        have f20 := h5.fStanding q
        have c20 := h5.rStanding hqn
        have h6 : EngV (w2.setCell ⟨G.g .standing, q, none⟩ (.bool true)).drew W0 G S T (setStanding D q) vT := (h5.wStanding q true).drew
        have hbx3 : (w2.setCell ⟨G.g .standing, q, none⟩ (.bool true)).drew.heap[w.heap.size]? = _ := (heap_setCell_other w2 _ _ _ hne2).trans hbx2
        have H6 := hid h6
        have Hbx3 := hid hbx3
        have Hne := hid hne
        clear h5 h6 hbx3 hbx2 hlt hne hne2
        go_wp2
        go_region
        clear z0 z1 z3 e20 f20 c20
        generalize (w2.setCell ⟨G.g .standing, q, none⟩ (.bool true)).drew = w3 at *
        have e8 := H6.out.hUpd
        have f8 := H6.out.free 8
        have h7 : EngV (w3.setCell ⟨G.b, 8, none⟩ (.int .i64 (wrap64 ((setStanding D q).upd + 1)))) W0 G S T (tick (setStanding D q) 1) vT := H6.out.wUpd _
        obtain ⟨z0, _, _⟩ := Hbox.out (w3.setCell ⟨G.b, 8, none⟩ (.int .i64 (wrap64 ((setStanding D q).upd + 1)))) ((heap_setCell_other w3 _ _ _ Hne.out).trans Hbx3.out)
        have Hlook := hid (elook_any _ W0 G S T _ ⟨vT, h7⟩ ((Hti.out.steps (Steps.refl D)).other (F := tick (setStanding D q) 1) rfl rfl) q hqn)
        unfold Stp at Hlook
        rw [← HD.out] at Hlook
        clear h7 HD
        go_wp2_with fail
        refine Hlook.out.mono ?_
        rintro e w4 ⟨_, rfl, rfl, he⟩
        clear Hlook e8 f8 z0
        go_wp2_with fail
        go_returns
        exact Fin HQ ⟨rfl, he⟩
end Go.Proofs.Lx

namespace Go.Proofs.Lx
open Go Go.RowKit Go.Proofs.Tj
set_option linter.unusedVariables false
set_option linter.unusedSimpArgs false

theorem foldl_take {α β : Type} (f : β → α → β) (D : β) {l : List α} {k : Nat} (hk : k < l.length) : (l.take (k + 1)).foldl f D = f ((l.take k).foldl f D) l[k] := by
  rw [List.take_succ_eq_append_getElem hk, List.foldl_append]; rfl
theorem steps_foldl {α : Type} {n : Nat} {f : Dyn → α → Dyn} : ∀ (l : List α) (D : Dyn), (∀ x ∈ l, ∀ D, Steps n D (f D x)) → Steps n D (l.foldl f D)
  | [], D, _ => Steps.refl D
  | x :: l, D, h => (h x List.mem_cons_self D).trans (steps_foldl l (f D x) fun y hy => h y (List.mem_cons_of_mem _ hy))
theorem Steps.oth {n : Nat} {D F : Dyn} (h1 : F.marks = D.marks) (h2 : (F.told, F.queued) = (D.told, D.queued)) : Steps n D F := (Steps.refl D).other h1 h2
section
variable {S : Stc} {T : Th} {D : Dyn}
theorem steps_settle (hok : SOk S) {p : Nat} (hp : p < S.P) (D : Dyn) : Steps S.n D (settleD S D p) := by
  unfold settleD; split
  · exact Steps.refl D
  · exact (Steps.oth (D := D) (F := tick (decAttacks (setSettled D p) (S.pq p)) 2) rfl rfl).trans (steps_look (hok.pq p hp))
theorem steps_stand (hok : SOk S) {p : Nat} (hp : p < S.P) (D : Dyn) : Steps S.n D (standD S D p) := by
  unfold standD; split
  · exact (Steps.oth (D := D) (F := tick (setStanding D (S.pq p)) 1) rfl rfl).trans (steps_look (hok.pq p hp))
  · exact Steps.refl D
def bkD (D : Dyn) (q : Nat) : Dyn := if D.backed q = true then D else tick (setBacked D q) 1
theorem steps_bk {n : Nat} (D : Dyn) (q : Nat) : Steps n D (bkD D q) := by
  unfold bkD; split
  · exact Steps.refl D
  · exact Steps.oth rfl rfl
theorem steps_fire1 (hok : SOk S) {r : Nat} (hr : r < S.m) (hd : S.head r < S.n) (D : Dyn) : Steps S.n D (fire1 S D r) := by
  unfold fire1; split
  · exact ((steps_bk D (S.head r)).trans (steps_foldl _ _ fun p hp D => steps_settle hok (hok.beats r hr p hp) D)).trans (steps_look hd)
  · exact Steps.refl D
theorem steps_fire (hok : SOk S) {r : Nat} (hr : r < S.m) (hd : S.head r < S.n) (D : Dyn) : Steps S.n D (fireD S D r) :=
  (steps_fire1 hok hr hd D).trans (steps_foldl _ _ fun p hp D => steps_stand hok (hok.ofs r hr p hp) D)
end
section
variable {w W0 : World} {G : Gh} {S : Stc} {T : Th} {D : Dyn} {vT : Value}
theorem EngV.atInn (h : EngV w W0 G S T D vT) {q : Nat} (hq : q < S.n) {A : Option Addr} {c : Nat} (hv : G.vin[q]? = some (.slice A (S.inn q).length c)) {k : Nat} (hk : k < (S.inn q).length) : ∃ g, A = some ⟨g, 0, none⟩ ∧ w.cell? ⟨g, k, none⟩ = some (.int .i64 ((S.inn q)[k] : Int)) := by
  obtain ⟨v, h1, _, h3⟩ := h.rowInn hq
  rw [hv] at h1; injection h1 with h1; subst h1
  exact natsAt h3 hk
theorem EngV.atOfs (h : EngV w W0 G S T D vT) {q : Nat} (hq : q < S.m) {A : Option Addr} {c : Nat} (hv : G.vof[q]? = some (.slice A (S.ofs q).length c)) {k : Nat} (hk : k < (S.ofs q).length) : ∃ g, A = some ⟨g, 0, none⟩ ∧ w.cell? ⟨g, k, none⟩ = some (.int .i64 ((S.ofs q)[k] : Int)) := by
  obtain ⟨v, h1, _, h3⟩ := h.rowOfs hq
  rw [hv] at h1; injection h1 with h1; subst h1
  exact natsAt h3 hk
theorem EngV.atBeats (h : EngV w W0 G S T D vT) {q : Nat} (hq : q < S.m) {A : Option Addr} {c : Nat} (hv : G.vbe[q]? = some (.slice A (S.beats q).length c)) {k : Nat} (hk : k < (S.beats q).length) : ∃ g, A = some ⟨g, 0, none⟩ ∧ w.cell? ⟨g, k, none⟩ = some (.int .i64 ((S.beats q)[k] : Int)) := by
  obtain ⟨v, h1, _, h3⟩ := h.rowBeats hq
  rw [hv] at h1; injection h1 with h1; subst h1
  exact natsAt h3 hk
theorem EngV.hdInn (h : EngV w W0 G S T D vT) {q : Nat} (hq : q < S.n) : ∃ A c, G.vin[q]? = some (.slice A (S.inn q).length c) ∧ w.cell? ⟨G.g .inn, q, none⟩ = some (.slice A (S.inn q).length c) ∧ (S.inn q).length ≤ 9223372036854775807 := by
  obtain ⟨v, h1, h2, h3⟩ := h.rowInn hq
  obtain ⟨A, c, rfl, hm⟩ := natsRow h3
  exact ⟨A, c, h1, h2, by unfold maxLen at hm; omega⟩
theorem EngV.hdOfs (h : EngV w W0 G S T D vT) {q : Nat} (hq : q < S.m) : ∃ A c, G.vof[q]? = some (.slice A (S.ofs q).length c) ∧ w.cell? ⟨G.g .ofs, q, none⟩ = some (.slice A (S.ofs q).length c) ∧ (S.ofs q).length ≤ 9223372036854775807 := by
  obtain ⟨v, h1, h2, h3⟩ := h.rowOfs hq
  obtain ⟨A, c, rfl, hm⟩ := natsRow h3
  exact ⟨A, c, h1, h2, by unfold maxLen at hm; omega⟩
theorem EngV.hdBeats (h : EngV w W0 G S T D vT) {q : Nat} (hq : q < S.m) : ∃ A c, G.vbe[q]? = some (.slice A (S.beats q).length c) ∧ w.cell? ⟨G.g .beats, q, none⟩ = some (.slice A (S.beats q).length c) ∧ (S.beats q).length ≤ 9223372036854775807 := by
  obtain ⟨v, h1, h2, h3⟩ := h.rowBeats hq
  obtain ⟨A, c, rfl, hm⟩ := natsRow h3
  exact ⟨A, c, h1, h2, by unfold maxLen at hm; omega⟩
end

end Go.Proofs.Lx

namespace Go.Proofs.Lx
open Go Go.RowKit Go.Proofs.Tj
set_option linter.unusedVariables false
set_option linter.unusedSimpArgs false


set_option maxRecDepth 100000 in
set_option maxHeartbeats 6400000 in
theorem efire_no (w W0 : World) (G : Gh) (S : Stc) (T : Th) (D : Dyn) (h : Eng w W0 G S T D) (hok : SOk S) (hti : TI S.n D) (r : Nat) (hr : r < S.m) (hP : S.P ≤ 65536) (hs : supR S r = false) :
    Calls Try.prog 149 #[.pointer (some ⟨G.b, 0, none⟩), .int .i64 (r : Int)] w (Ret (Stp W0 G S T (fireD S D r))) := by
  have Hok := hid hok
  have Hti := hid hti
  have hsup := esup_any w W0 G S T D h r hr
  rw [hs] at hsup
  have HD : Hid (fireD S D r = (S.ofs r).foldl (standD S) D) := hid (by unfold fireD fire1; rw [if_neg (by rw [hs]; simp)])
  obtain ⟨vT, h⟩ := h
  have hqn := h.st.hdn r hr
  have hn := h.st.n4
  have hm := h.st.m4
  unfold Stp
  refine post_gen fun Q HQ => ?_
  have e2 := h.hR
  obtain ⟨gR, BR, c1, c2, eR, kk⟩ := h.rule hr
  obtain ⟨_, k1, _⟩ := kk w h.sp.old
  rw [eR] at e2
  obtain ⟨q, Hq⟩ : ∃ q, Hid (S.head r = q) := ⟨_, hid rfl⟩
  rw [Hq.out] at k1 hqn
  have H := hid h
  have ehofs := h.hOfs
  obtain ⟨Aofs, cAofs, hA0, hA1ofs, hlenofs⟩ := h.hdOfs hr
  have HAofs := hid hA0
  clear hA0
  clear hok hti h eR kk hs
  go_enter Try.func149, Try.ntmps149
  go_wp2_with fail
  refine hsup.mono ?_
  rintro e w' ⟨_, rfl, rfl, rfl⟩
  go_wp2
  go_loopw [71] (fun v71 wr => ∃ k : Nat, k ≤ (S.ofs r).length ∧ v71 = .int .i64 k ∧ Eng wr W0 G S T (((S.ofs r).take k).foldl (standD S) D)) (fun v71 _ => (S.ofs r).length - (intOf v71).toNat)
  case atStart => exact ⟨0, Nat.zero_le _, rfl, vT, H.out⟩
  case round =>
    obtain ⟨k, hk, rfl, he⟩ := hrel
    by_cases hlt : k < (S.ofs r).length
    · have hrm := Hok.out.ofs r hr _ (List.getElem_mem hlt)
      obtain ⟨x, Hx⟩ : ∃ x, Hid ((S.ofs r)[k] = x) := ⟨_, hid rfl⟩
      have Hf := hid (foldl_take (standD S) D hlt)
      rw [Hx.out] at hrm Hf
      have Hte := hid (Hti.out.steps (steps_foldl ((S.ofs r).take k) D fun x hx D => steps_stand Hok.out (Hok.out.ofs r hr x (List.mem_of_mem_take hx)) D))
      obtain ⟨E, HE⟩ : ∃ E, Hid (((S.ofs r).take k).foldl (standD S) D = E) := ⟨_, hid rfl⟩
      rw [HE.out] at he Hf Hte
      obtain ⟨v2, h2⟩ := he
      obtain ⟨g, rfl, hc⟩ := h2.atOfs hr HAofs.out hlt
      rw [Hx.out] at hc
      have Hcall := hid (estand_any wr W0 G S T E ⟨v2, h2⟩ Hok.out Hte.out x hrm hP)
      unfold Stp at Hcall
      clear h2
      go_wp2_with fail
      refine Hcall.out.mono ?_
      rintro e w5 ⟨_, rfl, rfl, he5⟩
      clear hc
      go_wp2
      go_roundw
      case rel => exact ⟨k + 1, by omega, by go_num, by rw [Hf.out]; exact he5⟩
      case measure => simp [intOf]; omega
    · have hkk : k = (S.ofs r).length := by omega
      rw [hkk, List.take_length] at he
      have He := hid he
      clear he hkk
      go_wp2
      go_returns
      exact Fin HQ ⟨rfl, by rw [HD.out]; exact He.out⟩


set_option maxRecDepth 100000 in
set_option maxHeartbeats 6400000 in
theorem efire_yes_t (w W0 : World) (G : Gh) (S : Stc) (T : Th) (D : Dyn) (h : Eng w W0 G S T D) (hok : SOk S) (hti : TI S.n D) (r : Nat) (hr : r < S.m) (hP : S.P ≤ 65536) (hs : supR S r = true) (hb : D.backed (S.head r) = true) :
    Calls Try.prog 149 #[.pointer (some ⟨G.b, 0, none⟩), .int .i64 (r : Int)] w (Ret (Stp W0 G S T (fireD S D r))) := by
  have Hok := hid hok
  have Hti := hid hti
  have hsup := esup_any w W0 G S T D h r hr
  rw [hs] at hsup
  have HD : Hid (fireD S D r = (S.ofs r).foldl (standD S) (fire1 S D r)) := hid rfl
  have HD1 : Hid (fire1 S D r = lookD ((S.beats r).foldl (settleD S) D) (S.head r)) := hid (by unfold fire1; rw [if_pos hs, if_pos hb])
  obtain ⟨vT, h⟩ := h
  have hqn := h.st.hdn r hr
  have hn := h.st.n4
  have hm := h.st.m4
  unfold Stp
  refine post_gen fun Q HQ => ?_
  have e2 := h.hR
  obtain ⟨gR, BR, c1, c2, eR, kk⟩ := h.rule hr
  obtain ⟨_, k1, _⟩ := kk w h.sp.old
  rw [eR] at e2
  obtain ⟨q, Hq⟩ : ∃ q, Hid (S.head r = q) := ⟨_, hid rfl⟩
  rw [Hq.out] at k1 hqn hb HD1
  have e12 := h.hBacked
  have c12 := h.rBacked hqn
  rw [hb] at c12
  have H := hid h
  have ehbeats := h.hBeats
  obtain ⟨Abeats, cAbeats, hA0, hA1beats, hlenbeats⟩ := h.hdBeats hr
  have HAbeats := hid hA0
  clear hA0
  clear hok hti h eR kk hs hb
  go_enter Try.func149, Try.ntmps149
  go_wp2_with fail
  refine hsup.mono ?_
  rintro e w' ⟨_, rfl, rfl, rfl⟩
  go_wp2
  go_loopw [52] (fun v52 wr => ∃ k : Nat, k ≤ (S.beats r).length ∧ v52 = .int .i64 k ∧ Eng wr W0 G S T (((S.beats r).take k).foldl (settleD S) D)) (fun v52 _ => (S.beats r).length - (intOf v52).toNat)
  case atStart => exact ⟨0, Nat.zero_le _, rfl, vT, H.out⟩
  case round =>
    obtain ⟨k, hk, rfl, he⟩ := hrel
    by_cases hlt : k < (S.beats r).length
    · have hrm := Hok.out.beats r hr _ (List.getElem_mem hlt)
      obtain ⟨x, Hx⟩ : ∃ x, Hid ((S.beats r)[k] = x) := ⟨_, hid rfl⟩
      have Hf := hid (foldl_take (settleD S) D hlt)
      rw [Hx.out] at hrm Hf
      have Hte := hid (Hti.out.steps (steps_foldl ((S.beats r).take k) D fun x hx D => steps_settle Hok.out (Hok.out.beats r hr x (List.mem_of_mem_take hx)) D))
      obtain ⟨E, HE⟩ : ∃ E, Hid (((S.beats r).take k).foldl (settleD S) D = E) := ⟨_, hid rfl⟩
      rw [HE.out] at he Hf Hte
      obtain ⟨v2, h2⟩ := he
      obtain ⟨g, rfl, hc⟩ := h2.atBeats hr HAbeats.out hlt
      rw [Hx.out] at hc
      have Hcall := hid (esettle_any wr W0 G S T E ⟨v2, h2⟩ Hok.out Hte.out x hrm hP)
      unfold Stp at Hcall
      clear h2
      go_wp2_with fail
      refine Hcall.out.mono ?_
      rintro e w5 ⟨_, rfl, rfl, he5⟩
      clear hc
      go_wp2
      go_roundw
      case rel => exact ⟨k + 1, by omega, by go_num, by rw [Hf.out]; exact he5⟩
      case measure => simp [intOf]; omega
    · have hkk : k = (S.beats r).length := by omega
      rw [hkk, List.take_length] at he
      have He := hid he
      clear he hkk
      have Htf := hid (Hti.out.steps (steps_foldl (S.beats r) D fun x hx D => steps_settle Hok.out (Hok.out.beats r hr x hx) D))
      have Hlook := hid (elook_any wr W0 G S T _ He.out Htf.out q hqn)
      unfold Stp at Hlook
      rw [← HD1.out] at Hlook
      clear Htf He
      go_wp2_with fail
      refine Hlook.out.mono ?_
      rintro e w6 ⟨_, rfl, rfl, he6⟩
      have Ht6 := hid (Hti.out.steps (steps_fire1 Hok.out hr (by rw [Hq.out]; exact hqn) D))
      have HD' := HD
      clear HD
      have HD : Hid (fireD S D r = _) := HD'
      clear HD'
      generalize fire1 S D r = E1 at *
      obtain ⟨v6, h6⟩ := he6
      have ehofs := h6.hOfs
      obtain ⟨Aofs, cAofs, hA0, hA1ofs, hlenofs⟩ := h6.hdOfs hr
      have HAofs := hid hA0
      clear hA0
      have H6 := hid h6
      clear h6
      go_wp2
      go_loopw [71] (fun v71 wr => ∃ k : Nat, k ≤ (S.ofs r).length ∧ v71 = .int .i64 k ∧ Eng wr W0 G S T (((S.ofs r).take k).foldl (standD S) E1)) (fun v71 _ => (S.ofs r).length - (intOf v71).toNat)
      case atStart => exact ⟨0, Nat.zero_le _, rfl, v6, H6.out⟩
      case round =>
        obtain ⟨k, hk, rfl, he⟩ := hrel
        by_cases hlt : k < (S.ofs r).length
        · have hrm := Hok.out.ofs r hr _ (List.getElem_mem hlt)
          obtain ⟨x, Hx⟩ : ∃ x, Hid ((S.ofs r)[k] = x) := ⟨_, hid rfl⟩
          have Hf := hid (foldl_take (standD S) E1 hlt)
          rw [Hx.out] at hrm Hf
          have Hte := hid (Ht6.out.steps (steps_foldl ((S.ofs r).take k) E1 fun x hx D => steps_stand Hok.out (Hok.out.ofs r hr x (List.mem_of_mem_take hx)) D))
          obtain ⟨E, HE⟩ : ∃ E, Hid (((S.ofs r).take k).foldl (standD S) E1 = E) := ⟨_, hid rfl⟩
          rw [HE.out] at he Hf Hte
          obtain ⟨v2, h2⟩ := he
          obtain ⟨g, rfl, hc⟩ := h2.atOfs hr HAofs.out hlt
          rw [Hx.out] at hc
          have Hcall := hid (estand_any wr W0 G S T E ⟨v2, h2⟩ Hok.out Hte.out x hrm hP)
          unfold Stp at Hcall
          clear h2
          go_wp2_with fail
          refine Hcall.out.mono ?_
          rintro e w5 ⟨_, rfl, rfl, he5⟩
          clear hc
          go_wp2
          go_roundw
          case rel => exact ⟨k + 1, by omega, by go_num, by rw [Hf.out]; exact he5⟩
          case measure => simp [intOf]; omega
        · have hkk : k = (S.ofs r).length := by omega
          rw [hkk, List.take_length] at he
          have He := hid he
          clear he hkk
          go_wp2
          go_returns
          exact Fin HQ ⟨rfl, by rw [HD.out]; exact He.out⟩


set_option maxRecDepth 100000 in
set_option maxHeartbeats 6400000 in
theorem efire_yes_f (w W0 : World) (G : Gh) (S : Stc) (T : Th) (D : Dyn) (h : Eng w W0 G S T D) (hok : SOk S) (hti : TI S.n D) (r : Nat) (hr : r < S.m) (hP : S.P ≤ 65536) (hs : supR S r = true) (hb : D.backed (S.head r) = false) :
    Calls Try.prog 149 #[.pointer (some ⟨G.b, 0, none⟩), .int .i64 (r : Int)] w (Ret (Stp W0 G S T (fireD S D r))) := by
  have Hok := hid hok
  have Hti := hid hti
  have hsup := esup_any w W0 G S T D h r hr
  rw [hs] at hsup
  have HD : Hid (fireD S D r = (S.ofs r).foldl (standD S) (fire1 S D r)) := hid rfl
  have HD1 : Hid (fire1 S D r = lookD ((S.beats r).foldl (settleD S) (tick (setBacked D (S.head r)) 1)) (S.head r)) := hid (by unfold fire1; rw [if_pos hs, if_neg (by rw [hb]; simp)])
  obtain ⟨vT, h⟩ := h
  have hqn := h.st.hdn r hr
  have hn := h.st.n4
  have hm := h.st.m4
  unfold Stp
  refine post_gen fun Q HQ => ?_
  have e2 := h.hR
  obtain ⟨gR, BR, c1, c2, eR, kk⟩ := h.rule hr
  obtain ⟨_, k1, _⟩ := kk w h.sp.old
  rw [eR] at e2
  obtain ⟨q, Hq⟩ : ∃ q, Hid (S.head r = q) := ⟨_, hid rfl⟩
  rw [Hq.out] at k1 hqn hb HD1
  have e12 := h.hBacked
  have c12 := h.rBacked hqn
  rw [hb] at c12
  have H := hid h
  have f12 := h.fBacked q
  have h1 : EngV (w.setCell ⟨G.g .backed, q, none⟩ (.bool true)) W0 G S T (setBacked D q) vT := h.wBacked q true
  have e8 := h1.hUpd
  have f8 := h1.free 8
  have h2 : EngV ((w.setCell ⟨G.g .backed, q, none⟩ (.bool true)).setCell ⟨G.b, 8, none⟩ (.int .i64 (wrap64 ((setBacked D q).upd + 1)))) W0 G S T (tick (setBacked D q) 1) vT := h1.wUpd _
  have HB := hid h2
  have Htb := hid (Hti.out.other (F := tick (setBacked D q) 1) rfl rfl)
  have ehbeats := h2.hBeats
  obtain ⟨Abeats, cAbeats, hA0, hA1beats, hlenbeats⟩ := h2.hdBeats hr
  have HAbeats := hid hA0
  clear hA0
  clear hok hti h eR kk hs hb h1 h2
  go_enter Try.func149, Try.ntmps149
  go_wp2_with fail
  refine hsup.mono ?_
  rintro e w' ⟨_, rfl, rfl, rfl⟩
  go_wp2
  go_loopw [52] (fun v52 wr => ∃ k : Nat, k ≤ (S.beats r).length ∧ v52 = .int .i64 k ∧ Eng wr W0 G S T (((S.beats r).take k).foldl (settleD S) (tick (setBacked D q) 1))) (fun v52 _ => (S.beats r).length - (intOf v52).toNat)
  case atStart => exact ⟨0, Nat.zero_le _, rfl, vT, HB.out⟩
  case round =>
    obtain ⟨k, hk, rfl, he⟩ := hrel
    by_cases hlt : k < (S.beats r).length
    · have hrm := Hok.out.beats r hr _ (List.getElem_mem hlt)
      obtain ⟨x, Hx⟩ : ∃ x, Hid ((S.beats r)[k] = x) := ⟨_, hid rfl⟩
      have Hf := hid (foldl_take (settleD S) (tick (setBacked D q) 1) hlt)
      rw [Hx.out] at hrm Hf
      have Hte := hid (Htb.out.steps (steps_foldl ((S.beats r).take k) (tick (setBacked D q) 1) fun x hx D => steps_settle Hok.out (Hok.out.beats r hr x (List.mem_of_mem_take hx)) D))
      obtain ⟨E, HE⟩ : ∃ E, Hid (((S.beats r).take k).foldl (settleD S) (tick (setBacked D q) 1) = E) := ⟨_, hid rfl⟩
      rw [HE.out] at he Hf Hte
      obtain ⟨v2, h2⟩ := he
      obtain ⟨g, rfl, hc⟩ := h2.atBeats hr HAbeats.out hlt
      rw [Hx.out] at hc
      have Hcall := hid (esettle_any wr W0 G S T E ⟨v2, h2⟩ Hok.out Hte.out x hrm hP)
      unfold Stp at Hcall
      clear h2
      go_wp2_with fail
      refine Hcall.out.mono ?_
      rintro e w5 ⟨_, rfl, rfl, he5⟩
      clear hc
      go_wp2
      go_roundw
      case rel => exact ⟨k + 1, by omega, by go_num, by rw [Hf.out]; exact he5⟩
      case measure => simp [intOf]; omega
    · have hkk : k = (S.beats r).length := by omega
      rw [hkk, List.take_length] at he
      have He := hid he
      clear he hkk
      have Htf := hid (Htb.out.steps (steps_foldl (S.beats r) (tick (setBacked D q) 1) fun x hx D => steps_settle Hok.out (Hok.out.beats r hr x hx) D))
      have Hlook := hid (elook_any wr W0 G S T _ He.out Htf.out q hqn)
      unfold Stp at Hlook
      rw [← HD1.out] at Hlook
      clear Htf He
      go_wp2_with fail
      refine Hlook.out.mono ?_
      rintro e w6 ⟨_, rfl, rfl, he6⟩
      have Ht6 := hid (Hti.out.steps (steps_fire1 Hok.out hr (by rw [Hq.out]; exact hqn) D))
      have HD' := HD
      clear HD
      have HD : Hid (fireD S D r = _) := HD'
      clear HD'
      generalize fire1 S D r = E1 at *
      obtain ⟨v6, h6⟩ := he6
      have ehofs := h6.hOfs
      obtain ⟨Aofs, cAofs, hA0, hA1ofs, hlenofs⟩ := h6.hdOfs hr
      have HAofs := hid hA0
      clear hA0
      have H6 := hid h6
      clear h6
      go_wp2
      go_loopw [71] (fun v71 wr => ∃ k : Nat, k ≤ (S.ofs r).length ∧ v71 = .int .i64 k ∧ Eng wr W0 G S T (((S.ofs r).take k).foldl (standD S) E1)) (fun v71 _ => (S.ofs r).length - (intOf v71).toNat)
      case atStart => exact ⟨0, Nat.zero_le _, rfl, v6, H6.out⟩
      case round =>
        obtain ⟨k, hk, rfl, he⟩ := hrel
        by_cases hlt : k < (S.ofs r).length
        · have hrm := Hok.out.ofs r hr _ (List.getElem_mem hlt)
          obtain ⟨x, Hx⟩ : ∃ x, Hid ((S.ofs r)[k] = x) := ⟨_, hid rfl⟩
          have Hf := hid (foldl_take (standD S) E1 hlt)
          rw [Hx.out] at hrm Hf
          have Hte := hid (Ht6.out.steps (steps_foldl ((S.ofs r).take k) E1 fun x hx D => steps_stand Hok.out (Hok.out.ofs r hr x (List.mem_of_mem_take hx)) D))
          obtain ⟨E, HE⟩ : ∃ E, Hid (((S.ofs r).take k).foldl (standD S) E1 = E) := ⟨_, hid rfl⟩
          rw [HE.out] at he Hf Hte
          obtain ⟨v2, h2⟩ := he
          obtain ⟨g, rfl, hc⟩ := h2.atOfs hr HAofs.out hlt
          rw [Hx.out] at hc
          have Hcall := hid (estand_any wr W0 G S T E ⟨v2, h2⟩ Hok.out Hte.out x hrm hP)
          unfold Stp at Hcall
          clear h2
          go_wp2_with fail
          refine Hcall.out.mono ?_
          rintro e w5 ⟨_, rfl, rfl, he5⟩
          clear hc
          go_wp2
          go_roundw
          case rel => exact ⟨k + 1, by omega, by go_num, by rw [Hf.out]; exact he5⟩
          case measure => simp [intOf]; omega
        · have hkk : k = (S.ofs r).length := by omega
          rw [hkk, List.take_length] at he
          have He := hid he
          clear he hkk
          go_wp2
          go_returns
          exact Fin HQ ⟨rfl, by rw [HD.out]; exact He.out⟩


theorem efire_any (w W0 : World) (G : Gh) (S : Stc) (T : Th) (D : Dyn) (h : Eng w W0 G S T D) (hok : SOk S) (hti : TI S.n D) (r : Nat) (hr : r < S.m) (hP : S.P ≤ 65536) :
    Calls Try.prog 149 #[.pointer (some ⟨G.b, 0, none⟩), .int .i64 (r : Int)] w (Ret (Stp W0 G S T (fireD S D r))) := by
  cases hs : supR S r with
  | false => exact efire_no w W0 G S T D h hok hti r hr hP hs
  | true =>
    cases hb : D.backed (S.head r) with
    | true => exact efire_yes_t w W0 G S T D h hok hti r hr hP hs hb
    | false => exact efire_yes_f w W0 G S T D h hok hti r hr hP hs hb
end Go.Proofs.Lx
