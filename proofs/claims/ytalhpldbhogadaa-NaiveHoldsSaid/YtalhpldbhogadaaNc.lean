/- naive's conditions plusPartial, minusPartial. -/
import Derived.Test.YtalhpldbhogadaaNb
import Derived.Deep.RegionWith
namespace Go.Proofs.Lx
open Go Go.RowKit
set_option linter.unusedSimpArgs false
set_option linter.unusedVariables false


set_option maxHeartbeats 1600000 in
theorem plusPartial_any (w : World) (b : Nat) (T : Th) (F : List Bool) (RL : List (List Int)) (M : List Nat) (h : NW w b T F RL M) (hv : NVal T F RL M) (q : Int) (h0 : 0 ≤ q) (hq : q < T.foes.length) :
    Calls Try.prog 90 #[.pointer (some ⟨b, 0, none⟩), .int .i64 q] w (Ret fun v w' => v = .bool (plusPB T RL M q) ∧ Below w.heap.size w w') := by
  have hbel := ext_trans (ext_alloc w (.cells #[.pointer (some ⟨b, 0, none⟩)] 90)) (ext_alloc _ (.cells #[.int .i64 q] 3))
  obtain ⟨W2, HW2⟩ : ∃ W2, Hid (W2 = (w.alloc (.cells #[.pointer (some ⟨b, 0, none⟩)] 90)).alloc (.cells #[.int .i64 q] 3)) := ⟨_, hid rfl⟩
  rw [← HW2.out] at hbel
  have hw0 : W2.cell? ⟨w.heap.size, 0, none⟩ = some (.pointer (some ⟨b, 0, none⟩)) := by rw [HW2.out, World.cell?_alloc_past _ _ _ (by simp), World.cell?_alloc_at _ _ _ _ rfl]; rfl
  have hq0 : W2.cell? ⟨w.heap.size + 1, 0, none⟩ = some (.int .i64 q) := by rw [HW2.out, World.cell?_alloc_at _ _ _ _ (by simp)]; rfl
  have h2 := h.ext hbel
  have hrow : ∀ p : Int, 0 ≤ p → p < T.foes.length → ∀ x ∈ row RL p, 0 ≤ x ∧ x < T.rules.length := by
    intro p hp0 hp
    rw [row_at hp0 (by have := hv.nR; omega)]
    exact hv.rl p.toNat (by have := hv.nR; omega)
  have hql : q.toNat < T.foes.length := by omega
  have hfrow : row T.foes q = T.foes[q.toNat] := row_at h0 (by omega)
  have hfo : ∀ x ∈ row T.foes q, 0 ≤ x ∧ x < T.foes.length := by rw [hfrow]; exact hv.fo q.toNat hql
  have H1 := hid (whas_any W2 b T F RL M h2 hv q h0 hq 1 0 (by decide) (by decide))
  have H2 := hid (fun (w2 : World) (hb2 : Below W2.heap.size W2 w2) => anyRule_any w2 b T F RL M (h2.ext hb2) hv q h0 hq _ #[.pointer (some ⟨w.heap.size, 0, none⟩)] (ppR T M) enters_pp1 (fun x hx w3 ho => pp1_any w3 b w.heap.size T F RL M (h2.ext (ext_trans hb2 ho)) hv x (hrow q h0 hq x hx).1 (hrow q h0 hq x hx).2 (cell_ext (ext_trans hb2 ho) hw0)))
  obtain ⟨vF, vR, vB, vFa, vRu, vM, hh, ⟨A, c, rfl, hc, hb, hr⟩, _, _, _, _, _⟩ := h2.ex
  obtain ⟨ad, v, rfl, hcell, hvv⟩ := hr.atRowV hql
  have c1 := cell_of_row W2 b 1 _ _ _ hh
  simp only [List.getElem?_toArray, List.getElem?_cons_zero, List.getElem?_cons_succ] at c1
  have H3 := hid (fun (w2 : World) (hb2 : Below W2.heap.size W2 w2) => containsFunc w2 v (row T.foes q) 123 #[.pointer (some ⟨w.heap.size, 0, none⟩)] (fun f => !hasM M 1 f) enters_pp2 (by rw [hfrow]; exact hvv.ext (scR_mono _) hb2) (fun x hx w3 ho => pp2_any w3 b w.heap.size T F RL M (h2.ext (ext_trans hb2 ho)) hv x (hfo x hx).1 (hfo x hx).2 (cell_ext (ext_trans hb2 ho) hw0)))
  have H4 := hid (fun (w2 : World) (hb2 : Below W2.heap.size W2 w2) => anyAttack_any w2 b T F RL M (h2.ext hb2) hv q h0 hq _ #[.pointer (some ⟨w.heap.size, 0, none⟩), .pointer (some ⟨w.heap.size + 1, 0, none⟩)] (ppS T RL M q) enters_pp3 (fun f hf x hx w3 ho => pp3_any w3 b w.heap.size T F RL M (h2.ext (ext_trans hb2 ho)) hv (w.heap.size + 1) x q (hrow f (hfo f hf).1 (hfo f hf).2 x hx).1 (hrow f (hfo f hf).1 (hfo f hf).2 x hx).2 h0 hq (cell_ext (ext_trans hb2 ho) hw0) (cell_ext (ext_trans hb2 ho) hq0)))
  obtain ⟨B, cB, rfl, _⟩ := hvv
  have Hs : Hid (plusPB T RL M q = (hasM M 0 q || ((row RL q).any (ppR T M) && (!(row T.foes q).any (fun f => !hasM M 1 f) && !(row T.foes q).any fun f => (row RL f).any (ppS T RL M q))))) := rfl
  have C := hid (And.intro hw0 (And.intro hq0 (And.intro c1 hcell)))
  clear h h2 hv hrow hfo hh hr hfrow hw0 hq0 c1 hcell
  generalize hasM M 0 q = x1 at *
  generalize (row RL q).any (ppR T M) = x2 at *
  generalize (row T.foes q).any (fun f => !hasM M 1 f) = x3 at *
  generalize ((row T.foes q).any fun f => (row RL f).any (ppS T RL M q)) = x4 at *
  generalize T.foes[q.toNat] = l at *
  refine post_gen fun Q HQ => ?_
  go_enter Try.func90, Try.ntmps90
  go_wp2_with fail
  rw [← HW2.out]
  refine H1.out.mono ?_
  rintro e w2 ⟨_, rfl, rfl, hb2⟩
  clear H1
  cases x1 with
  | true =>
    go_wp2_with fail
    go_ret
    exact Fin HQ ⟨by rw [Hs.out]; rfl, ext_trans hbel hb2⟩
  | false =>
    have e1 := cell_ext hb2 C.out.1
    have e2 := cell_ext hb2 C.out.2.1
    go_wp2_with fail
    refine (H2.out w2 hb2).mono ?_
    rintro e w3 ⟨_, rfl, rfl, hb3⟩
    have hb3' := ext_trans hb2 hb3
    clear H2 e1 e2
    cases x2 with
    | false =>
      go_wp2_with fail
      go_ret
      exact Fin HQ ⟨by rw [Hs.out]; rfl, ext_trans hbel hb3'⟩
    | true =>
      have e1 := cell_ext hb3' C.out.1
      have e2 := cell_ext hb3' C.out.2.1
      have e3 := cell_ext hb3' C.out.2.2.1
      have e4 := cell_ext hb3' C.out.2.2.2
      go_wp2_with fail
      go_region_with (go_at_call 122; refine (H3.out _ hb3'.drew).mono ?_; rintro e w4 ⟨_, rfl, rfl, hb4⟩)
      all_goals
        have hb4' : Below W2.heap.size W2 w4 := ext_trans hb3'.drew hb4
        have e1 := cell_ext hb4' C.out.1
        have e2 := cell_ext hb4' C.out.2.1
        cases x3 with
        | true =>
          go_wp2_with fail
          go_ret
          exact Fin HQ ⟨by rw [Hs.out]; rfl, ext_trans hbel hb4'⟩
        | false =>
          go_wp2_with fail
          refine (H4.out w4 hb4').mono ?_
          rintro e w5 ⟨_, rfl, rfl, hb5⟩
          go_wp2_with fail
          go_ret
          exact Fin HQ ⟨by rw [Hs.out]; simp, ext_trans hbel (ext_trans hb4' hb5)⟩

set_option maxHeartbeats 1600000 in
theorem minusPartial_any (w : World) (b : Nat) (T : Th) (F : List Bool) (RL : List (List Int)) (M : List Nat) (h : NW w b T F RL M) (hv : NVal T F RL M) (q : Int) (h0 : 0 ≤ q) (hq : q < T.foes.length) :
    Calls Try.prog 91 #[.pointer (some ⟨b, 0, none⟩), .int .i64 q] w (Ret fun v w' => v = .bool (minusPB T RL M q) ∧ Below w.heap.size w w') := by
  have hbel := ext_trans (ext_alloc w (.cells #[.pointer (some ⟨b, 0, none⟩)] 90)) (ext_alloc _ (.cells #[.int .i64 q] 3))
  obtain ⟨W2, HW2⟩ : ∃ W2, Hid (W2 = (w.alloc (.cells #[.pointer (some ⟨b, 0, none⟩)] 90)).alloc (.cells #[.int .i64 q] 3)) := ⟨_, hid rfl⟩
  rw [← HW2.out] at hbel
  have hw0 : W2.cell? ⟨w.heap.size, 0, none⟩ = some (.pointer (some ⟨b, 0, none⟩)) := by rw [HW2.out, World.cell?_alloc_past _ _ _ (by simp), World.cell?_alloc_at _ _ _ _ rfl]; rfl
  have hq0 : W2.cell? ⟨w.heap.size + 1, 0, none⟩ = some (.int .i64 q) := by rw [HW2.out, World.cell?_alloc_at _ _ _ _ (by simp)]; rfl
  have h2 := h.ext hbel
  have hrow : ∀ p : Int, 0 ≤ p → p < T.foes.length → ∀ x ∈ row RL p, 0 ≤ x ∧ x < T.rules.length := by
    intro p hp0 hp
    rw [row_at hp0 (by have := hv.nR; omega)]
    exact hv.rl p.toNat (by have := hv.nR; omega)
  have hql : q.toNat < T.foes.length := by omega
  have hfrow : row T.foes q = T.foes[q.toNat] := row_at h0 (by omega)
  have hfo : ∀ x ∈ row T.foes q, 0 ≤ x ∧ x < T.foes.length := by rw [hfrow]; exact hv.fo q.toNat hql
  have H1 := hid (whas_any W2 b T F RL M h2 hv q h0 hq 2 1 (by decide) (by decide))
  have H2 := hid (fun (w2 : World) (hb2 : Below W2.heap.size W2 w2) => anyRule_any w2 b T F RL M (h2.ext hb2) hv q h0 hq _ #[.pointer (some ⟨w.heap.size, 0, none⟩)] (mpR T M) enters_mp1 (fun x hx w3 ho => mp1_any w3 b w.heap.size T F RL M (h2.ext (ext_trans hb2 ho)) hv x (hrow q h0 hq x hx).1 (hrow q h0 hq x hx).2 (cell_ext (ext_trans hb2 ho) hw0)))
  obtain ⟨vF, vR, vB, vFa, vRu, vM, hh, ⟨A, c, rfl, hc, hb, hr⟩, _, _, _, _, _⟩ := h2.ex
  obtain ⟨ad, v, rfl, hcell, hvv⟩ := hr.atRowV hql
  have c1 := cell_of_row W2 b 1 _ _ _ hh
  simp only [List.getElem?_toArray, List.getElem?_cons_zero, List.getElem?_cons_succ] at c1
  have H3 := hid (fun (w2 : World) (hb2 : Below W2.heap.size W2 w2) => containsFunc w2 v (row T.foes q) 129 #[.pointer (some ⟨w.heap.size, 0, none⟩)] (fun f => hasM M 0 f) enters_mp2 (by rw [hfrow]; exact hvv.ext (scR_mono _) hb2) (fun x hx w3 ho => mp2_any w3 b w.heap.size T F RL M (h2.ext (ext_trans hb2 ho)) hv x (hfo x hx).1 (hfo x hx).2 (cell_ext (ext_trans hb2 ho) hw0)))
  have H4 := hid (fun (w2 : World) (hb2 : Below W2.heap.size W2 w2) => anyAttack_any w2 b T F RL M (h2.ext hb2) hv q h0 hq _ #[.pointer (some ⟨w.heap.size, 0, none⟩), .pointer (some ⟨w.heap.size + 1, 0, none⟩)] (mpS T RL M q) enters_mp3 (fun f hf x hx w3 ho => mp3_any w3 b w.heap.size T F RL M (h2.ext (ext_trans hb2 ho)) hv (w.heap.size + 1) x q (hrow f (hfo f hf).1 (hfo f hf).2 x hx).1 (hrow f (hfo f hf).1 (hfo f hf).2 x hx).2 h0 hq (cell_ext (ext_trans hb2 ho) hw0) (cell_ext (ext_trans hb2 ho) hq0)))
  obtain ⟨B, cB, rfl, _⟩ := hvv
  have Hs : Hid (minusPB T RL M q = (hasM M 1 q && (!(row RL q).any (mpR T M) || ((row T.foes q).any (fun f => hasM M 0 f) || (row T.foes q).any fun f => (row RL f).any (mpS T RL M q))))) := rfl
  have C := hid (And.intro hw0 (And.intro hq0 (And.intro c1 hcell)))
  clear h h2 hv hrow hfo hh hr hfrow hw0 hq0 c1 hcell
  generalize hasM M 1 q = x1 at *
  generalize (row RL q).any (mpR T M) = x2 at *
  generalize (row T.foes q).any (fun f => hasM M 0 f) = x3 at *
  generalize ((row T.foes q).any fun f => (row RL f).any (mpS T RL M q)) = x4 at *
  generalize T.foes[q.toNat] = l at *
  refine post_gen fun Q HQ => ?_
  go_enter Try.func91, Try.ntmps91
  go_wp2_with fail
  rw [← HW2.out]
  refine H1.out.mono ?_
  rintro e w2 ⟨_, rfl, rfl, hb2⟩
  clear H1
  cases x1 with
  | false =>
    go_wp2_with fail
    go_ret
    exact Fin HQ ⟨by rw [Hs.out]; rfl, ext_trans hbel hb2⟩
  | true =>
    have e1 := cell_ext hb2 C.out.1
    have e2 := cell_ext hb2 C.out.2.1
    go_wp2_with fail
    refine (H2.out w2 hb2).mono ?_
    rintro e w3 ⟨_, rfl, rfl, hb3⟩
    have hb3' := ext_trans hb2 hb3
    clear H2 e1 e2
    cases x2 with
    | false =>
      go_wp2_with fail
      go_ret
      exact Fin HQ ⟨by rw [Hs.out]; rfl, ext_trans hbel hb3'⟩
    | true =>
      have e1 := cell_ext hb3' C.out.1
      have e2 := cell_ext hb3' C.out.2.1
      have e3 := cell_ext hb3' C.out.2.2.1
      have e4 := cell_ext hb3' C.out.2.2.2
      go_wp2_with fail
      go_region_with (go_at_call 122; refine (H3.out _ hb3'.drew).mono ?_; rintro e w4 ⟨_, rfl, rfl, hb4⟩)
      all_goals
        have hb4' : Below W2.heap.size W2 w4 := ext_trans hb3'.drew hb4
        have e1 := cell_ext hb4' C.out.1
        have e2 := cell_ext hb4' C.out.2.1
        cases x3 with
        | true =>
          go_wp2_with fail
          go_ret
          exact Fin HQ ⟨by rw [Hs.out]; rfl, ext_trans hbel hb4'⟩
        | false =>
          go_wp2_with fail
          refine (H4.out w4 hb4').mono ?_
          rintro e w5 ⟨_, rfl, rfl, hb5⟩
          go_wp2_with fail
          go_ret
          exact Fin HQ ⟨by rw [Hs.out]; simp, ext_trans hbel (ext_trans hb4' hb5)⟩
end Go.Proofs.Lx
