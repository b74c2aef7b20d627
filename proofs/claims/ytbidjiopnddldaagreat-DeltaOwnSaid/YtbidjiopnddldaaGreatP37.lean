/- Parts of the proof: Sg. The reference's conditions (layer 15): plusD, minusD, beaten, stands. -/
import Derived.Test.YtbidjiopnddldaaGreatP36
namespace Go.Proofs.Lx
open Go Go.RowKit
set_option linter.unusedSimpArgs false
set_option linter.unusedVariables false

theorem NR.cells {w : World} {b : Nat} {T : Th} {l : List Int} {RL : List (List Int)} (h : NR w b T l RL) : ∃ AF cF AR cR AB cB Al cl ARu cRu,
  w.cell? ⟨b, 1, none⟩ = some (.slice AF T.foes.length cF) ∧ w.cell? ⟨b, 2, none⟩ = some (.slice AR T.rules.length cR) ∧ w.cell? ⟨b, 3, none⟩ = some (.slice AB T.beats.length cB) ∧ w.cell? ⟨b, 4, none⟩ = some (.slice Al l.length cl) ∧ w.cell? ⟨b, 5, none⟩ = some (.slice ARu RL.length cRu) ∧
  RcLL w AF T.foes ∧ RcRs w AR T.rules ∧ RcLL w AB T.beats ∧ RdI w (.slice Al l.length cl) l ∧ RcLL w ARu RL := by
 obtain ⟨_, _, _, _, _, hh, ⟨AF, cF, rfl, _, _, h1⟩, ⟨AR, cR, rfl, _, _, h2⟩, ⟨AB, cB, rfl, _, _, h3⟩, ⟨Al, cl, rfl, e1, e2, h4⟩, ⟨ARu, cRu, rfl, _, _, h5⟩⟩ := h.ex
 refine ⟨AF, cF, AR, cR, AB, cB, Al, cl, ARu, cRu, ?_, ?_, ?_, ?_, ?_, h1, h2, h3, ⟨Al, cl, rfl, e1, e2, h4⟩, h5⟩
 all_goals rw [cell_of_row w b _ _ _ _ hh]; rfl
theorem any_take_succ {α : Type} {p : α → Bool} {L : List α} {i : Nat} (h : i < L.length) : (L.take (i + 1)).any p = ((L.take i).any p || p L[i]) := by
 rw [List.take_succ_eq_append_getElem h, List.any_append]; simp
theorem any_take_all {α : Type} {p : α → Bool} {L : List α} {i : Nat} (h : L.length ≤ i) : (L.take i).any p = L.any p := by rw [List.take_of_length_le h]
theorem any_hit {α : Type} {p : α → Bool} {L : List α} {i : Nat} (h : i < L.length) (hp : p L[i] = true) : L.any p = true := List.any_eq_true.2 ⟨_, List.getElem_mem h, hp⟩
theorem bodyAt_at {T : Th} {r : Int} (h : r.toNat < T.rules.length) : bodyAt T r = T.rules[r.toNat].body := by simp [bodyAt, h]

set_option maxRecDepth 100000 in
set_option maxHeartbeats 3200000 in
theorem plusD15_any (w : World) (b : Nat) (T : Th) (F : List Bool) (l : List Int) (RL : List (List Int)) (M : List Nat) (vm : Value) (h : NR w b T l RL) (hm : RdMk w vm M) (hv : NVal T F RL M) (q : Int) (h0 : 0 ≤ q) (hq : q < T.foes.length) :
  Calls Tryz.prog 98 #[.pointer (some ⟨b, 0, none⟩), vm, .int .i64 q] w (Dr w (memB l q || (row RL q).any (pdR T M))) := by
 refine dr_of ?_
 have H := hid h
 have Hm := hid hm
 have Hv := hid hv
 have hqr : q.toNat < RL.length := by have := hv.nR; omega
 have hqr2 : q < (RL.length : Int) := by have := hv.nR; omega
 have hqf : q.toNat < T.foes.length := by omega
 have Hrow : Hid (row RL q = RL[q.toNat]) := hid (row_at h0 hqr2)
 have Hrl : Hid (∀ r ∈ RL[q.toNat], 0 ≤ r ∧ r < (T.rules.length : Int)) := hid (hv.rl _ hqr)
 have Hbody : Hid (∀ r (h : r < T.rules.length), ∀ x ∈ T.rules[r].body, 0 ≤ x ∧ x < (M.length : Int)) := hid (fun r h x hx => by rw [hv.nM]; exact hv.body r h x hx)
 have H8 := hid hv.m8
 clear h hm hv
 refine post_gen fun Q HQ => ?_
 go_enter Tryz.func98, Tryz.ntmps98
 obtain ⟨AF, cF, AR, cR, AB, cB, Al, cl, ARu, cRu, c1, c2, c3, c4, c5, hF, hR, hB, hl, hRu⟩ := H.out.cells
 have Hin := hid (in15_same w _ l q hl)
 have Hs : Hid ((memB l q || (row RL q).any (pdR T M)) = (memB l q || RL[q.toNat].any (pdR T M))) := hid (by rw [Hrow.out])
 rw [Hs.out] at HQ
 clear hF hR hB hl hRu
 cases hs : memB l q with
 | true =>
  rw [hs] at Hin HQ
  clear hs
  go_wp2_with (go_at_call 23; refine Hin.out.mono ?_; rintro e w' ⟨rfl, hw9⟩; rw [hw9]; clear hw9 w')
  go_ret
  exact Fin HQ ⟨rfl, 0, rfl⟩
 | false =>
 rw [hs] at Hin HQ
 clear hs
 go_wp2_with (go_at_call 23; refine Hin.out.mono ?_; rintro e w' ⟨rfl, hw9⟩; rw [hw9]; clear hw9 w')
 clear c1 c2 c3 c4 c5 Hin
 generalize hL : RL[q.toNat] = L at *
 have HL := hid hL
 clear hL
 go_loopw [7] (fun v7 wr => ∃ i : Nat, i ≤ L.length ∧ v7 = .int .i64 i ∧ Hid ((L.take i).any (pdR T M) = false) ∧ Drew w wr) (fun v7 _ => L.length - (intOf v7).toNat)
 case atStart => exact ⟨0, Nat.zero_le _, rfl, hid (by simp), Drew.refl w⟩
 case round =>
  obtain ⟨i, hi, rfl, hno, hdr⟩ := hrel
  have Hdr := hid hdr
  obtain ⟨AF, cF, AR, cR, AB, cB, Al, cl, ARu, cRu, c1, c2, c3, c4, c5, hF, hR, hB, hl, hRu⟩ := (H.out.ext hdr.below).cells
  obtain ⟨adQ, LB, LC, rfl, pq, l1, l2, hrow⟩ := hRu.atRow hqr
  rw [HL.out] at pq l1 l2 hrow
  clear hdr
  by_cases hlt : i < L.length
  ·have Hi := hid (any_take_succ (p := pdR T M) hlt)
   have Hhit := hid (any_hit (p := pdR T M) hlt)
   obtain ⟨adL, rfl, pl⟩ := hrow.at1 hlt
   obtain ⟨hr0, hr1⟩ := Hrl.out _ (List.getElem_mem hlt)
   obtain ⟨r, Hr⟩ : ∃ r, Hid (L[i] = r) := ⟨_, hid rfl⟩
   rw [Hr.out] at pl hr0 hr1
   have hrl : r.toNat < T.rules.length := by omega
   have HbR := hid (Hbody.out _ hrl)
   have Hbo := hid (bodyAt_at hrl)
   obtain ⟨adR, C, cC, rfl, p0, p1, p2, d1, d2, hbody⟩ := hR.atRule hrl
   generalize T.rules[r.toNat].body = bo at *
   have Hst := hid (strict15_same _ b T l RL (H.out.ext Hdr.out.below) r hr0 hr1)
   have Hall := hid (all15_any wr vm (.slice C bo.length cC) M bo (Hm.out.ext (scR_mono _) Hdr.out.below) ⟨C, cC, rfl, d1, d2, hbody⟩ H8.out HbR.out 1 0 (by decide) (by decide))
   have Hp : Hid (pdR T M r = (strictB T r && allM M 0 bo)) := hid (by rw [← Hbo.out]; rfl)
   clear hF hR hB hl hRu hrow hbody
   cases hs : strictB T r with
   | false =>
    have Hp2 : Hid (pdR T M r = false) := hid (by rw [Hp.out, hs]; rfl)
    rw [hs] at Hst
    clear hs
    go_wp2_with (go_at_call 114; refine Hst.out.mono ?_; rintro e w' ⟨rfl, hw9⟩; rw [hw9]; clear hw9 w')
    go_roundw
    case rel => exact ⟨i + 1, by omega, by go_num, hid (by rw [Hi.out, hno.out, Hr.out, Hp2.out]; rfl), Hdr.out⟩
    case measure => simp [intOf]; omega
   | true =>
    rw [hs] at Hst
    cases ha : allM M 0 bo with
    | true =>
     have Hp2 : Hid (pdR T M r = true) := hid (by rw [Hp.out, hs, ha]; rfl)
     rw [ha] at Hall
     have Hany : Hid (L.any (pdR T M) = true) := hid (Hhit.out (by rw [Hr.out, Hp2.out]))
     rw [Hany.out] at HQ
     clear hs ha
     go_wp2_with (first | (go_at_call 114; refine Hst.out.mono ?_; rintro e w' ⟨rfl, hw9⟩; rw [hw9]; clear hw9 w') | (go_at_call 115; refine Hall.out.mono ?_; rintro e w' ⟨rfl, m, rfl⟩))
     go_ret
     exact Fin HQ ⟨rfl, Hdr.out.step _⟩
    | false =>
     have Hp2 : Hid (pdR T M r = false) := hid (by rw [Hp.out, hs, ha]; rfl)
     rw [ha] at Hall
     clear hs ha
     go_wp2_with (first | (go_at_call 114; refine Hst.out.mono ?_; rintro e w' ⟨rfl, hw9⟩; rw [hw9]; clear hw9 w') | (go_at_call 115; refine Hall.out.mono ?_; rintro e w' ⟨rfl, m, rfl⟩))
     go_roundw
     case rel => exact ⟨i + 1, by omega, by go_num, hid (by rw [Hi.out, hno.out, Hr.out, Hp2.out]; rfl), Hdr.out.step _⟩
     case measure => simp [intOf]; omega
  ·have Hany : Hid (L.any (pdR T M) = false) := hid (by rw [← any_take_all (show L.length ≤ i by omega), hno.out])
   rw [Hany.out] at HQ
   clear hF hR hB hl hRu hrow
   go_wp2
   go_ret
   exact Fin HQ ⟨rfl, Hdr.out⟩

set_option maxRecDepth 100000 in
set_option maxHeartbeats 3200000 in
theorem minusD15_any (w : World) (b : Nat) (T : Th) (F : List Bool) (l : List Int) (RL : List (List Int)) (M : List Nat) (vm : Value) (h : NR w b T l RL) (hm : RdMk w vm M) (hv : NVal T F RL M) (q : Int) (h0 : 0 ≤ q) (hq : q < T.foes.length) :
  Calls Tryz.prog 99 #[.pointer (some ⟨b, 0, none⟩), vm, .int .i64 q] w (Dr w (!memB l q && !(row RL q).any (mdR T M))) := by
 refine dr_of ?_
 have H := hid h
 have Hm := hid hm
 have Hv := hid hv
 have hqr : q.toNat < RL.length := by have := hv.nR; omega
 have hqr2 : q < (RL.length : Int) := by have := hv.nR; omega
 have hqf : q.toNat < T.foes.length := by omega
 have Hrow : Hid (row RL q = RL[q.toNat]) := hid (row_at h0 hqr2)
 have Hrl : Hid (∀ r ∈ RL[q.toNat], 0 ≤ r ∧ r < (T.rules.length : Int)) := hid (hv.rl _ hqr)
 have Hbody : Hid (∀ r (h : r < T.rules.length), ∀ x ∈ T.rules[r].body, 0 ≤ x ∧ x < (M.length : Int)) := hid (fun r h x hx => by rw [hv.nM]; exact hv.body r h x hx)
 have H8 := hid hv.m8
 clear h hm hv
 refine post_gen fun Q HQ => ?_
 go_enter Tryz.func99, Tryz.ntmps99
 obtain ⟨AF, cF, AR, cR, AB, cB, Al, cl, ARu, cRu, c1, c2, c3, c4, c5, hF, hR, hB, hl, hRu⟩ := H.out.cells
 have Hin := hid (in15_same w _ l q hl)
 have Hs : Hid ((!memB l q && !(row RL q).any (mdR T M)) = (!memB l q && !RL[q.toNat].any (mdR T M))) := hid (by rw [Hrow.out])
 rw [Hs.out] at HQ
 clear hF hR hB hl hRu
 cases hs : memB l q with
 | true =>
  rw [hs] at Hin HQ
  clear hs
  go_wp2_with (go_at_call 23; refine Hin.out.mono ?_; rintro e w' ⟨rfl, hw9⟩; rw [hw9]; clear hw9 w')
  go_ret
  exact Fin HQ ⟨rfl, 0, rfl⟩
 | false =>
 rw [hs] at Hin HQ
 clear hs
 go_wp2_with (go_at_call 23; refine Hin.out.mono ?_; rintro e w' ⟨rfl, hw9⟩; rw [hw9]; clear hw9 w')
 clear c1 c2 c3 c4 c5 Hin
 generalize hL : RL[q.toNat] = L at *
 have HL := hid hL
 clear hL
 go_loopw [7] (fun v7 wr => ∃ i : Nat, i ≤ L.length ∧ v7 = .int .i64 i ∧ Hid ((L.take i).any (mdR T M) = false) ∧ Drew w wr) (fun v7 _ => L.length - (intOf v7).toNat)
 case atStart => exact ⟨0, Nat.zero_le _, rfl, hid (by simp), Drew.refl w⟩
 case round =>
  obtain ⟨i, hi, rfl, hno, hdr⟩ := hrel
  have Hdr := hid hdr
  obtain ⟨AF, cF, AR, cR, AB, cB, Al, cl, ARu, cRu, c1, c2, c3, c4, c5, hF, hR, hB, hl, hRu⟩ := (H.out.ext hdr.below).cells
  obtain ⟨adQ, LB, LC, rfl, pq, l1, l2, hrow⟩ := hRu.atRow hqr
  rw [HL.out] at pq l1 l2 hrow
  clear hdr
  by_cases hlt : i < L.length
  ·have Hi := hid (any_take_succ (p := mdR T M) hlt)
   have Hhit := hid (any_hit (p := mdR T M) hlt)
   obtain ⟨adL, rfl, pl⟩ := hrow.at1 hlt
   obtain ⟨hr0, hr1⟩ := Hrl.out _ (List.getElem_mem hlt)
   obtain ⟨r, Hr⟩ : ∃ r, Hid (L[i] = r) := ⟨_, hid rfl⟩
   rw [Hr.out] at pl hr0 hr1
   have hrl : r.toNat < T.rules.length := by omega
   have HbR := hid (Hbody.out _ hrl)
   have Hbo := hid (bodyAt_at hrl)
   obtain ⟨adR, C, cC, rfl, p0, p1, p2, d1, d2, hbody⟩ := hR.atRule hrl
   generalize T.rules[r.toNat].body = bo at *
   have Hst := hid (strict15_same _ b T l RL (H.out.ext Hdr.out.below) r hr0 hr1)
   have Hall := hid (any15_any wr vm (.slice C bo.length cC) M bo (Hm.out.ext (scR_mono _) Hdr.out.below) ⟨C, cC, rfl, d1, d2, hbody⟩ H8.out HbR.out 2 1 (by decide) (by decide))
   have Hp : Hid (mdR T M r = (strictB T r && !anyM M 1 bo)) := hid (by rw [← Hbo.out]; rfl)
   clear hF hR hB hl hRu hrow hbody
   cases hs : strictB T r with
   | false =>
    have Hp2 : Hid (mdR T M r = false) := hid (by rw [Hp.out, hs]; rfl)
    rw [hs] at Hst
    clear hs
    go_wp2_with (go_at_call 114; refine Hst.out.mono ?_; rintro e w' ⟨rfl, hw9⟩; rw [hw9]; clear hw9 w')
    go_roundw
    case rel => exact ⟨i + 1, by omega, by go_num, hid (by rw [Hi.out, hno.out, Hr.out, Hp2.out]; rfl), Hdr.out⟩
    case measure => simp [intOf]; omega
   | true =>
    rw [hs] at Hst
    cases ha : anyM M 1 bo with
    | false =>
     have Hp2 : Hid (mdR T M r = true) := hid (by rw [Hp.out, hs, ha]; rfl)
     rw [ha] at Hall
     have Hany : Hid (L.any (mdR T M) = true) := hid (Hhit.out (by rw [Hr.out, Hp2.out]))
     rw [Hany.out] at HQ
     clear hs ha
     go_wp2_with (first | (go_at_call 114; refine Hst.out.mono ?_; rintro e w' ⟨rfl, hw9⟩; rw [hw9]; clear hw9 w') | (go_at_call 116; refine Hall.out.mono ?_; rintro e w' ⟨rfl, m, rfl⟩))
     go_ret
     exact Fin HQ ⟨rfl, Hdr.out.step _⟩
    | true =>
     have Hp2 : Hid (mdR T M r = false) := hid (by rw [Hp.out, hs, ha]; rfl)
     rw [ha] at Hall
     clear hs ha
     go_wp2_with (first | (go_at_call 114; refine Hst.out.mono ?_; rintro e w' ⟨rfl, hw9⟩; rw [hw9]; clear hw9 w') | (go_at_call 116; refine Hall.out.mono ?_; rintro e w' ⟨rfl, m, rfl⟩))
     go_roundw
     case rel => exact ⟨i + 1, by omega, by go_num, hid (by rw [Hi.out, hno.out, Hr.out, Hp2.out]; rfl), Hdr.out.step _⟩
     case measure => simp [intOf]; omega
  ·have Hany : Hid (L.any (mdR T M) = false) := hid (by rw [← any_take_all (show L.length ≤ i by omega), hno.out])
   rw [Hany.out] at HQ
   clear hF hR hB hl hRu hrow
   go_wp2
   go_ret
   exact Fin HQ ⟨rfl, Hdr.out⟩

set_option maxRecDepth 100000 in
set_option maxHeartbeats 3200000 in
theorem beaten15_any (w : World) (b : Nat) (T : Th) (F : List Bool) (l : List Int) (RL : List (List Int)) (M : List Nat) (vm : Value) (h : NR w b T l RL) (hm : RdMk w vm M) (hv : NVal T F RL M) (q : Int) (h0 : 0 ≤ q) (hq : q < T.foes.length) (s : Int) :
  Calls Tryz.prog 118 #[.pointer (some ⟨b, 0, none⟩), vm, .int .i64 q, .int .i64 s] w (Dr w ((row RL q).any (ppB T M s))) := by
 refine dr_of ?_
 have H := hid h
 have Hm := hid hm
 have Hv := hid hv
 have hqr : q.toNat < RL.length := by have := hv.nR; omega
 have hqr2 : q < (RL.length : Int) := by have := hv.nR; omega
 have hqf : q.toNat < T.foes.length := by omega
 have Hrow : Hid (row RL q = RL[q.toNat]) := hid (row_at h0 hqr2)
 have Hrl : Hid (∀ r ∈ RL[q.toNat], 0 ≤ r ∧ r < (T.rules.length : Int)) := hid (hv.rl _ hqr)
 have Hbody : Hid (∀ r (h : r < T.rules.length), ∀ x ∈ T.rules[r].body, 0 ≤ x ∧ x < (M.length : Int)) := hid (fun r h x hx => by rw [hv.nM]; exact hv.body r h x hx)
 have H8 := hid hv.m8
 have Hbl := hid hv.bl
 clear h hm hv
 refine post_gen fun Q HQ => ?_
 go_enter Tryz.func118, Tryz.ntmps118
 have Hs : Hid (((row RL q).any (ppB T M s)) = RL[q.toNat].any (ppB T M s)) := hid (by rw [Hrow.out])
 rw [Hs.out] at HQ
 go_wp2
 generalize hL : RL[q.toNat] = L at *
 have HL := hid hL
 clear hL
 go_loopw [9] (fun v9 wr => ∃ i : Nat, i ≤ L.length ∧ v9 = .int .i64 i ∧ Hid ((L.take i).any (ppB T M s) = false) ∧ Drew w wr) (fun v9 _ => L.length - (intOf v9).toNat)
 case atStart => exact ⟨0, Nat.zero_le _, rfl, hid (by simp), Drew.refl w⟩
 case round =>
  obtain ⟨i, hi, rfl, hno, hdr⟩ := hrel
  have Hdr := hid hdr
  obtain ⟨AF, cF, AR, cR, AB, cB, Al, cl, ARu, cRu, c1, c2, c3, c4, c5, hF, hR, hB, hl, hRu⟩ := (H.out.ext hdr.below).cells
  obtain ⟨adQ, LB, LC, rfl, pq, l1, l2, hrow⟩ := hRu.atRow hqr
  rw [HL.out] at pq l1 l2 hrow
  clear hdr
  by_cases hlt : i < L.length
  ·have Hi := hid (any_take_succ (p := ppB T M s) hlt)
   have Hhit := hid (any_hit (p := ppB T M s) hlt)
   obtain ⟨adL, rfl, pl⟩ := hrow.at1 hlt
   obtain ⟨hr0, hr1⟩ := Hrl.out _ (List.getElem_mem hlt)
   obtain ⟨r, Hr⟩ : ∃ r, Hid (L[i] = r) := ⟨_, hid rfl⟩
   rw [Hr.out] at pl hr0 hr1
   have hrl : r.toNat < T.rules.length := by omega
   have HbR := hid (Hbody.out _ hrl)
   have Hbo := hid (bodyAt_at hrl)
   obtain ⟨adR, C, cC, rfl, p0, p1, p2, d1, d2, hbody⟩ := hR.atRule hrl
   generalize T.rules[r.toNat].body = bo at *
   have hbi : r.toNat < T.beats.length := by rw [Hbl.out]; exact hrl
   have hbi2 : r < (T.beats.length : Int) := by rw [Hbl.out]; exact hr1
   have Hbe : Hid (row T.beats r = T.beats[r.toNat]) := hid (row_at hr0 hbi2)
   obtain ⟨adB, BB, cBB, rfl, pb, b1, b2, hbeat⟩ := hB.atRow hbi
   generalize T.beats[r.toNat] = be at *
   have Hst := hid (support15_same _ b T l RL (H.out.ext Hdr.out.below) r hr0 hr1)
   have Hall := hid (all15_any wr vm (.slice C bo.length cC) M bo (Hm.out.ext (scR_mono _) Hdr.out.below) ⟨C, cC, rfl, d1, d2, hbody⟩ H8.out HbR.out 3 2 (by decide) (by decide))
   have Hin : Hid (∀ n, Calls Tryz.prog 23 #[.slice BB be.length cBB, .int .i64 s] (wr.drewN n) (fun e w' => e = .returned (.bool (memB be s)) ∧ w' = wr.drewN n)) := hid fun n => in15_same _ _ be s (Rd.ext (scR_mono _) (⟨BB, cBB, rfl, b1, b2, hbeat⟩ : RdI wr (.slice BB be.length cBB) be) (ext_drewN wr n))
   have Hp : Hid (ppB T M s r = (supB T r && (memB be s && allM M 2 bo))) := hid (by rw [← Hbo.out, ← Hbe.out]; rfl)
   clear hF hR hB hl hRu hrow hbody hbeat
   cases hs : supB T r with
   | false =>
    have Hp2 : Hid (ppB T M s r = false) := hid (by rw [Hp.out, hs]; rfl)
    rw [hs] at Hst
    clear hs
    go_wp2_with (first | (go_at_call 117; refine Hst.out.mono ?_; rintro e w' ⟨rfl, hw9⟩; rw [hw9]; clear hw9 w'))
    go_roundw
    case rel => exact ⟨i + 1, by omega, by go_num, hid (by rw [Hi.out, hno.out, Hr.out, Hp2.out]; rfl), Hdr.out⟩
    case measure => simp [intOf]; omega
   | true =>
    rw [hs] at Hst
    cases ha : allM M 2 bo with
    | false =>
     have Hp2 : Hid (ppB T M s r = false) := hid (by rw [Hp.out, hs, ha]; simp)
     rw [ha] at Hall
     clear hs ha
     go_wp2_with (first | (go_at_call 117; refine Hst.out.mono ?_; rintro e w' ⟨rfl, hw9⟩; rw [hw9]; clear hw9 w') | (go_at_call 115; refine Hall.out.mono ?_; rintro e w' ⟨rfl, m9, rfl⟩))
     go_roundw
     case rel => exact ⟨i + 1, by omega, by go_num, hid (by rw [Hi.out, hno.out, Hr.out, Hp2.out]; rfl), Hdr.out.step _⟩
     case measure => simp [intOf]; omega
    | true =>
     rw [ha] at Hall
     cases hb : memB be s with
     | false =>
      have Hp2 : Hid (ppB T M s r = false) := hid (by rw [Hp.out, hs, ha, hb]; simp)
      rw [hb] at Hin
      clear hs ha hb
      go_wp2_with (first | (go_at_call 117; refine Hst.out.mono ?_; rintro e w' ⟨rfl, hw9⟩; rw [hw9]; clear hw9 w') | (go_at_call 115; refine Hall.out.mono ?_; rintro e w' ⟨rfl, m9, rfl⟩) | (go_at_call 23; refine (Hin.out _).mono ?_; rintro e w' ⟨rfl, hw9⟩; rw [hw9]; clear hw9 w'))
      go_roundw
      case rel => exact ⟨i + 1, by omega, by go_num, hid (by rw [Hi.out, hno.out, Hr.out, Hp2.out]; rfl), Hdr.out.step _⟩
      case measure => simp [intOf]; omega
     | true =>
      have Hp2 : Hid (ppB T M s r = true) := hid (by rw [Hp.out, hs, ha, hb]; rfl)
      have Hany : Hid (L.any (ppB T M s) = true) := hid (Hhit.out (by rw [Hr.out, Hp2.out]))
      rw [Hany.out] at HQ
      rw [hb] at Hin
      clear hs ha hb
      go_wp2_with (first | (go_at_call 117; refine Hst.out.mono ?_; rintro e w' ⟨rfl, hw9⟩; rw [hw9]; clear hw9 w') | (go_at_call 115; refine Hall.out.mono ?_; rintro e w' ⟨rfl, m9, rfl⟩) | (go_at_call 23; refine (Hin.out _).mono ?_; rintro e w' ⟨rfl, hw9⟩; rw [hw9]; clear hw9 w'))
      go_ret
      exact Fin HQ ⟨rfl, Hdr.out.step _⟩
  ·have Hany : Hid (L.any (ppB T M s) = false) := hid (by rw [← any_take_all (show L.length ≤ i by omega), hno.out])
   rw [Hany.out] at HQ
   clear hF hR hB hl hRu hrow
   go_wp2
   go_ret
   exact Fin HQ ⟨rfl, Hdr.out⟩

set_option maxRecDepth 100000 in
set_option maxHeartbeats 3200000 in
theorem stands15_any (w : World) (b : Nat) (T : Th) (F : List Bool) (l : List Int) (RL : List (List Int)) (M : List Nat) (vm : Value) (h : NR w b T l RL) (hm : RdMk w vm M) (hv : NVal T F RL M) (q : Int) (h0 : 0 ≤ q) (hq : q < T.foes.length) (s : Int) (hs0 : 0 ≤ s) (hs1 : s < T.rules.length) :
  Calls Tryz.prog 119 #[.pointer (some ⟨b, 0, none⟩), vm, .int .i64 q, .int .i64 s] w (Dr w (wholeB T M 2 s && !(row RL q).any (mpB T M s))) := by
 refine dr_of ?_
 have H := hid h
 have Hm := hid hm
 have Hv := hid hv
 have hqr : q.toNat < RL.length := by have := hv.nR; omega
 have hqr2 : q < (RL.length : Int) := by have := hv.nR; omega
 have hqf : q.toNat < T.foes.length := by omega
 have Hrow : Hid (row RL q = RL[q.toNat]) := hid (row_at h0 hqr2)
 have Hrl : Hid (∀ r ∈ RL[q.toNat], 0 ≤ r ∧ r < (T.rules.length : Int)) := hid (hv.rl _ hqr)
 have Hbody : Hid (∀ r (h : r < T.rules.length), ∀ x ∈ T.rules[r].body, 0 ≤ x ∧ x < (M.length : Int)) := hid (fun r h x hx => by rw [hv.nM]; exact hv.body r h x hx)
 have H8 := hid hv.m8
 have Hbl := hid hv.bl
 clear h hm hv
 refine post_gen fun Q HQ => ?_
 go_enter Tryz.func119, Tryz.ntmps119
 have hsl : s.toNat < T.rules.length := by omega
 have HbS := hid (Hbody.out _ hsl)
 have Hs : Hid ((wholeB T M 2 s && !(row RL q).any (mpB T M s)) = (allM M 2 T.rules[s.toNat].body && !RL[q.toNat].any (mpB T M s))) := hid (by rw [Hrow.out, ← bodyAt_at hsl]; rfl)
 rw [Hs.out] at HQ
 obtain ⟨AF, cF, AR, cR, AB, cB, Al, cl, ARu, cRu, c1, c2, c3, c4, c5, hF, hR, hB, hl, hRu⟩ := H.out.cells
 obtain ⟨adR, C, cC, rfl, p0, p1, p2, d1, d2, hbody⟩ := hR.atRule hsl
 generalize T.rules[s.toNat].body = bo at *
 have Hall := hid (all15_any w vm (.slice C bo.length cC) M bo Hm.out ⟨C, cC, rfl, d1, d2, hbody⟩ H8.out HbS.out 3 2 (by decide) (by decide))
 clear hF hR hB hl hRu hbody
 cases ha : allM M 2 bo with
 | false =>
  rw [ha] at Hall HQ
  clear ha
  go_wp2_with (go_at_call 115; refine Hall.out.mono ?_; rintro e w' ⟨rfl, m, rfl⟩)
  go_ret
  exact Fin HQ ⟨rfl, _, rfl⟩
 | true =>
 rw [ha] at Hall HQ
 clear ha
 go_wp2_with (go_at_call 115; refine Hall.out.mono ?_; rintro e w' ⟨rfl, m, rfl⟩)
 clear c1 c2 c3 c4 c5 Hall p0 p1 p2
 generalize hL : RL[q.toNat] = L at *
 have HL := hid hL
 clear hL
 go_loopw [9] (fun v9 wr => ∃ i : Nat, i ≤ L.length ∧ v9 = .int .i64 i ∧ Hid ((L.take i).any (mpB T M s) = false) ∧ Drew w wr) (fun v9 _ => L.length - (intOf v9).toNat)
 case atStart => exact ⟨0, Nat.zero_le _, rfl, hid (by simp), ⟨m, rfl⟩⟩
 case round =>
  obtain ⟨i, hi, rfl, hno, hdr⟩ := hrel
  have Hdr := hid hdr
  obtain ⟨AF, cF, AR, cR, AB, cB, Al, cl, ARu, cRu, c1, c2, c3, c4, c5, hF, hR, hB, hl, hRu⟩ := (H.out.ext hdr.below).cells
  obtain ⟨adQ, LB, LC, rfl, pq, l1, l2, hrow⟩ := hRu.atRow hqr
  rw [HL.out] at pq l1 l2 hrow
  clear hdr
  by_cases hlt : i < L.length
  ·have Hi := hid (any_take_succ (p := mpB T M s) hlt)
   have Hhit := hid (any_hit (p := mpB T M s) hlt)
   obtain ⟨adL, rfl, pl⟩ := hrow.at1 hlt
   obtain ⟨hr0, hr1⟩ := Hrl.out _ (List.getElem_mem hlt)
   obtain ⟨r, Hr⟩ : ∃ r, Hid (L[i] = r) := ⟨_, hid rfl⟩
   rw [Hr.out] at pl hr0 hr1
   have hrl : r.toNat < T.rules.length := by omega
   have HbR := hid (Hbody.out _ hrl)
   have Hbo := hid (bodyAt_at hrl)
   obtain ⟨adR, C, cC, rfl, p0, p1, p2, d1, d2, hbody⟩ := hR.atRule hrl
   generalize T.rules[r.toNat].body = bo at *
   have hbi : r.toNat < T.beats.length := by rw [Hbl.out]; exact hrl
   have hbi2 : r < (T.beats.length : Int) := by rw [Hbl.out]; exact hr1
   have Hbe : Hid (row T.beats r = T.beats[r.toNat]) := hid (row_at hr0 hbi2)
   obtain ⟨adB, BB, cBB, rfl, pb, b1, b2, hbeat⟩ := hB.atRow hbi
   generalize T.beats[r.toNat] = be at *
   have Hst := hid (support15_same _ b T l RL (H.out.ext Hdr.out.below) r hr0 hr1)
   have Hall := hid (any15_any wr vm (.slice C bo.length cC) M bo (Hm.out.ext (scR_mono _) Hdr.out.below) ⟨C, cC, rfl, d1, d2, hbody⟩ H8.out HbR.out 4 3 (by decide) (by decide))
   have Hin : Hid (∀ n, Calls Tryz.prog 23 #[.slice BB be.length cBB, .int .i64 s] (wr.drewN n) (fun e w' => e = .returned (.bool (memB be s)) ∧ w' = wr.drewN n)) := hid fun n => in15_same _ _ be s (Rd.ext (scR_mono _) (⟨BB, cBB, rfl, b1, b2, hbeat⟩ : RdI wr (.slice BB be.length cBB) be) (ext_drewN wr n))
   have Hp : Hid (mpB T M s r = (supB T r && (memB be s && !anyM M 3 bo))) := hid (by rw [← Hbo.out, ← Hbe.out]; rfl)
   clear hF hR hB hl hRu hrow hbody hbeat
   cases hs : supB T r with
   | false =>
    have Hp2 : Hid (mpB T M s r = false) := hid (by rw [Hp.out, hs]; rfl)
    rw [hs] at Hst
    clear hs
    go_wp2_with (first | (go_at_call 117; refine Hst.out.mono ?_; rintro e w' ⟨rfl, hw9⟩; rw [hw9]; clear hw9 w'))
    go_roundw
    case rel => exact ⟨i + 1, by omega, by go_num, hid (by rw [Hi.out, hno.out, Hr.out, Hp2.out]; rfl), Hdr.out⟩
    case measure => simp [intOf]; omega
   | true =>
    rw [hs] at Hst
    cases ha : anyM M 3 bo with
    | true =>
     have Hp2 : Hid (mpB T M s r = false) := hid (by rw [Hp.out, hs, ha]; simp)
     rw [ha] at Hall
     clear hs ha
     go_wp2_with (first | (go_at_call 117; refine Hst.out.mono ?_; rintro e w' ⟨rfl, hw9⟩; rw [hw9]; clear hw9 w') | (go_at_call 116; refine Hall.out.mono ?_; rintro e w' ⟨rfl, m9, rfl⟩))
     go_roundw
     case rel => exact ⟨i + 1, by omega, by go_num, hid (by rw [Hi.out, hno.out, Hr.out, Hp2.out]; rfl), Hdr.out.step _⟩
     case measure => simp [intOf]; omega
    | false =>
     rw [ha] at Hall
     cases hb : memB be s with
     | false =>
      have Hp2 : Hid (mpB T M s r = false) := hid (by rw [Hp.out, hs, ha, hb]; simp)
      rw [hb] at Hin
      clear hs ha hb
      go_wp2_with (first | (go_at_call 117; refine Hst.out.mono ?_; rintro e w' ⟨rfl, hw9⟩; rw [hw9]; clear hw9 w') | (go_at_call 116; refine Hall.out.mono ?_; rintro e w' ⟨rfl, m9, rfl⟩) | (go_at_call 23; refine (Hin.out _).mono ?_; rintro e w' ⟨rfl, hw9⟩; rw [hw9]; clear hw9 w'))
      go_roundw
      case rel => exact ⟨i + 1, by omega, by go_num, hid (by rw [Hi.out, hno.out, Hr.out, Hp2.out]; rfl), Hdr.out.step _⟩
      case measure => simp [intOf]; omega
     | true =>
      have Hp2 : Hid (mpB T M s r = true) := hid (by rw [Hp.out, hs, ha, hb]; rfl)
      have Hany : Hid (L.any (mpB T M s) = true) := hid (Hhit.out (by rw [Hr.out, Hp2.out]))
      rw [Hany.out] at HQ
      rw [hb] at Hin
      clear hs ha hb
      go_wp2_with (first | (go_at_call 117; refine Hst.out.mono ?_; rintro e w' ⟨rfl, hw9⟩; rw [hw9]; clear hw9 w') | (go_at_call 116; refine Hall.out.mono ?_; rintro e w' ⟨rfl, m9, rfl⟩) | (go_at_call 23; refine (Hin.out _).mono ?_; rintro e w' ⟨rfl, hw9⟩; rw [hw9]; clear hw9 w'))
      go_ret
      exact Fin HQ ⟨rfl, Hdr.out.step _⟩
  ·have Hany : Hid (L.any (mpB T M s) = false) := hid (by rw [← any_take_all (show L.length ≤ i by omega), hno.out])
   rw [Hany.out] at HQ
   clear hF hR hB hl hRu hrow
   go_wp2
   go_ret
   exact Fin HQ ⟨rfl, Hdr.out⟩

end Go.Proofs.Lx
