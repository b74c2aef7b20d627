/- Parts of the proof: Vb, Vc. Contract of theory.knots' visit: the walk. -/
import Derived.Test.YtbidjiopnddldaaGreatP3
namespace Go.Proofs.Lx
open Go Go.RowKit Go.Proofs.Tj
set_option linter.unusedSimpArgs false
set_option linter.unusedVariables false

/-- What is asked of 'next': it answers a row that was there, and turns nothing. -/
def Nexts (W0 : World) (n : Nat) (gf : Nat) (caps : Array Value) (adjI : Nat → List Int) : Prop :=
 ∀ x, x < n → ∀ w1, Below W0.heap.size W0 w1 → Calls Tryz.prog gf ((#[Value.int .i64 (x : Int)] : Array Value) ++ caps) w1 (Ret fun r w2 => RdI W0 r (adjI x) ∧ Below w1.heap.size w1 w2)
def adjN (adjI : Nat → List Int) (x : Nat) : List Nat := (adjI x).map Int.toNat
def AdjOk (n : Nat) (adjI : Nat → List Int) : Prop := ∀ x, x < n → ∀ y ∈ adjI x, 0 ≤ y ∧ y < n

def Visits (W0 : World) (n : Nat) (gf : Nat) (caps : Array Value) (adjI : Nat → List Int) (b gI gL gO gF base : Nat) (m : Nat) : Prop :=
 ∀ (w : World) (s : TS) (sv : Value) (v : Nat) (gs : List Nat), KN W0 n (.func (.func gf) #[] caps) b gI gL gO gF base s sv w → Inv n (adjN adjI) gs s → (∀ g ∈ gs, Leads (adjN adjI) g v) → s.idx v = 0 → v < n → n - s.cnt ≤ m →
  Calls Tryz.prog 130 #[.pointer (some ⟨b, 0, none⟩), .int .i64 (v : Int)] w (Ret fun v0 w' => v0 = .tuple #[] ∧ ∃ s' sv', KN W0 n (.func (.func gf) #[] caps) b gI gL gO gF base s' sv' w' ∧ Post n (adjN adjI) gs v s s')

theorem enter_inv_cnt {n : Nat} {adj : Nat → List Nat} {gs : List Nat} {s : TS} (h : Inv n adj gs s) : s.cnt ≤ n := by rw [h.cnt_eq]; exact visN_le n _
theorem Inv.cnt_lt {n : Nat} {adj : Nat → List Nat} {gs : List Nat} {v : Nat} {s : TS} (h : Inv n adj gs s) (hr : ∀ g ∈ gs, Leads adj g v) (hv : s.idx v = 0) (hn : v < n) : s.cnt + 1 ≤ n := by
 have := (begin0 h hr hv hn).inv.cnt_eq
 have h2 := visN_le n (enter s v).idx
 have h3 : (enter s v).cnt = s.cnt + 1 := rfl
 omega

set_option maxRecDepth 100000 in
set_option maxHeartbeats 60000000 in
theorem visit_step (W0 : World) (n : Nat) (gf : Nat) (caps : Array Value) (adjI : Nat → List Int) (b gI gL gO gF base : Nat) (m : Nat) (hn : n ≤ 4096) (hgf : Enters Tryz.prog gf) (hnext : Nexts W0 n gf caps adjI) (hadj : AdjOk n adjI)
  (IH : ∀ m', m' < m → Visits W0 n gf caps adjI b gI gL gO gF base m') : Visits W0 n gf caps adjI b gI gL gO gF base m := by
 intro w s sv v gs h hinv hreach hs0 hv hm
 have hgo : ∀ args w, (callFunc gf args).run Tryz.prog w = .ok (.enter gf args) w := hgf
 have hcn := Inv.cnt_lt hinv hreach hs0 hv
 have hsl : s.stk.length ≤ 4096 := by have := hinv.kn_le; omega
 have HL := hid (begin0 hinv hreach hs0 hv)
 have Hnext := hid hnext
 have Hadj := hid hadj
 have HIH := hid IH
 have Hinv := hid hinv
 have Hs0 := hid hs0
 have Hreach := hid hreach
 clear hinv hreach hs0 hnext hadj IH hgf
 have e6 := h.cell 6
 have f6 := h.free 6
 simp only [List.getElem?_toArray, List.getElem?_cons_zero, List.getElem?_cons_succ] at e6
 refine post_gen fun Q HQ => ?_
 go_enter Tryz.func130, Tryz.ntmps130
 go_wp2
 have h1 := h.put_cnt (s.cnt + 1)
 clear h e6 f6
 rw [show ((s.cnt + 1 : Nat) : Int) = (s.cnt : Int) + 1 from by omega] at h1
 generalize w.setCell ⟨b, 6, none⟩ (.int .i64 ((s.cnt : Int) + 1)) = w1 at *
 have e1 := h1.cell 1; have e2 := h1.cell 2; have e6 := h1.cell 6
 simp only [List.getElem?_toArray, List.getElem?_cons_zero, List.getElem?_cons_succ] at e1 e2 e6
 have aI := h1.aI.free v; have aL := h1.aL.free v
 have cI := h1.cI hv; have cL := h1.cL hv
 have d11 := h1.d1.1
 go_region
 have h2 := ((h1.put_idx v (s.cnt + 1)).put_low v (s.cnt + 1)).drew
 clear h1 e1 e2 e6 aI aL cI cL
 rw [show ((s.cnt + 1 : Nat) : Int) = (s.cnt : Int) + 1 from by omega] at h2
 generalize ((w1.setCell ⟨gI, v, none⟩ (.int .i64 ((s.cnt : Int) + 1))).setCell ⟨gL, v, none⟩ (.int .i64 ((s.cnt : Int) + 1))).drew = w2 at *
 go_wp2
 refine visit_R2 W0 w2 n _ b gI gL gO gF base s sv v hv hn hsl h2 _ Q _ _ _ _ _ _ _ _ _ _ _ _ _ _ _ _ _ _ _ _ _ _ _ _ _ _ _ _ _ _ _ _ _ _ _ _ _ _ _ _ _ _ _ _ _ _ _ _ _ _ _ _ _ _ _ _ _ _ _ _ _ _ _ _ _ _ _ _ _ _ _ _ _ _ _ _ _ _ _ _ _ _ _ _ _ _ _ _ _ _ _ _ _ _ _ _ _ _ _ _ _ _ _ _ _ _ _ _ _ _ _ _ _ _ _ _ _ _ _ _ _ _ _ _ _ _ _ _ _ _ _ _ _ _ _ _ _ _ _ _ _ _ _ _ _ _ _ _ _ _ _ _ _ _ _ _ _ _ _ _ _ _ _ _ _ _ _ _ _ _ _ _ _ _ _ _ _ _ _ _ _ _ _ _ _ _ _ ?_
 intro x34 x35 x36 x37 x38 x39 x40 x41 x42 x43 x44 x45 x46 x47 x48 x49 wc sv' h3
 go_step
 as_aux_lemma =>
  clear h2 d11
  have e0 := h3.cell 0
  simp only [List.getElem?_toArray, List.getElem?_cons_zero] at e0
  have hnx := Hnext.out v hv wc h3.old
  go_wp2_with fail
  refine hnx.mono ?_
  rintro e w3 ⟨_, rfl, ⟨A, cA, rfl, hcA, hbA, hrA⟩, hb3⟩
  have h4 := h3.ext hb3
  clear h3 hb3 hnx e0
  go_wp2
  obtain ⟨l, Hl⟩ : ∃ l, Hid (l = adjI v) := ⟨_, rfl⟩
  rw [← Hl.out] at hrA hcA hbA ⊢
  have Hadjl : Hid (adjN adjI v = l.map Int.toNat) := by rw [Hl.out]; rfl
  have Hin : Hid (∀ i (h : i < l.length), 0 ≤ l[i] ∧ l[i] < n) := by
   intro i hi
   have := Hadj.out v hv l[i] (by rw [← Hl.out]; exact List.getElem_mem hi)
   exact this
  go_loopw [57] (fun v57 wr => ∃ (j : Nat) (c : TS) (svj : Value), j ≤ l.length ∧ v57 = .int .i64 j ∧ KN W0 n (.func (.func gf) #[] caps) b gI gL gO gF base c svj wr ∧ LI n (adjN adjI) gs v s j c) (fun v57 _ => l.length - (intOf v57).toNat)
  case atStart => exact ⟨0, _, _, Nat.zero_le _, rfl, h4, HL.out⟩
  case round =>
   clear h4 HL
   obtain ⟨j, c, svj, hj, rfl, hk, hli⟩ := hrel
   by_cases hjl : j < l.length
   ·obtain ⟨ad, rfl, hcell⟩ := (hrA.ext (scR_mono _) hk.old).at1 hjl
    obtain ⟨hx0, hxn⟩ := Hin.out j hjl
    obtain ⟨u, hu⟩ := Int.eq_ofNat_of_zero_le hx0
    have Hu : Hid ((adjN adjI v)[j]'(by rw [Hadjl.out]; simpa using hjl) = u) := by
     have : ∀ (q : List Nat) (e : q = l.map Int.toNat) (hq : j < q.length), q[j] = u := by
      rintro q rfl hq; simp [hu]
     exact this _ Hadjl.out _
    have hun : u < n := by omega
    rw [hu] at hcell
    have hjl' : j < (adjN adjI v).length := by rw [Hadjl.out]; simpa using hjl
    have e1 := hk.cell 1; have e2 := hk.cell 2; have e3 := hk.cell 3
    simp only [List.getElem?_toArray, List.getElem?_cons_zero, List.getElem?_cons_succ] at e1 e2 e3
    have cIu := hk.cI hun
    have hci : c.idx u ≤ n := Nat.le_trans (hli.inv.idx_le u) (enter_inv_cnt hli.inv)
    have Hli := hid hli
    clear hli hu hx0 hxn
    by_cases h0 : c.idx u = 0
    ·have hb0 : ((c.idx u : Int) == 0) = true := by simp [h0]
     have H0 := hid h0
     clear h0
     have hcall := HIH.out (n - c.cnt) (by have := Hli.out.grow; omega) wr c svj u (v :: gs) hk Hli.out.inv (by have := Hli.out.pre hjl'; rw [Hu.out] at this; exact this) H0.out hun (Nat.le_refl _)
     go_wp2_with fail
     refine hcall.mono ?_
     rintro e w5 ⟨_, rfl, rfl, c1, sv1, hk1, hpost⟩
     have Hpost := hid hpost
     clear hpost hcall hk e1 e2 e3 cIu hb0 hcell
     have e2 := hk1.cell 2
     simp only [List.getElem?_toArray, List.getElem?_cons_zero, List.getElem?_cons_succ] at e2
     have cLv := hk1.cL hv
     have cLu := hk1.cL hun
     have fL := hk1.aL.free v
     go_wp2_with fail
     as_aux_lemma =>
      go_region
      go_wp2
      go_roundw
      case rel =>
       have hk5 := (hk1.put_low v (min (c1.low v) (c1.low u))).drew
       refine ⟨j + 1, _, sv1, by omega, by go_num, ?_, Hli.out.stepA hjl' (by rw [Hu.out]; exact H0.out) (by rw [Hu.out]; exact Hpost.out)⟩
       rw [Hu.out, show (if c1.low u < c1.low v then (c1.low u : Int) else (c1.low v : Int)) = ((min (c1.low v) (c1.low u) : Nat) : Int) from by split <;> omega]
       exact hk5
      case measure => simp [intOf]; omega
    ·have hb0 : ((c.idx u : Int) == 0) = false := by simp [h0]
     have H0 := hid h0
     clear h0
     have cOu := hk.cO hun
     cases hon : c.on u with
     | true =>
      rw [hon] at cOu
      have cLv := hk.cL hv
      have fL := hk.aL.free v
      go_wp2_with fail
      as_aux_lemma =>
       go_region
       go_wp2
       go_roundw
       case rel =>
        have hk5 := (hk.put_low v (min (c.low v) (c.idx u))).drew
        refine ⟨j + 1, _, svj, by omega, by go_num, ?_, Hli.out.stepB hjl' (by rw [Hu.out]; exact H0.out) (by rw [Hu.out]; exact hon)⟩
        rw [Hu.out, show (if c.idx u < c.low v then (c.idx u : Int) else (c.low v : Int)) = ((min (c.low v) (c.idx u) : Nat) : Int) from by split <;> omega]
        exact hk5
       case measure => simp [intOf]; omega
     | false =>
      rw [hon] at cOu
      have Hon := hid hon
      clear hon
      go_wp2
      go_roundw
      case rel =>
       refine ⟨j + 1, c, svj, by omega, by go_num, hk, Hli.out.stepC hjl' ?_ ?_⟩
       ·rw [Hu.out]; exact H0.out
       ·rw [Hu.out]; exact Hon.out
      case measure => simp [intOf]; omega
   ·have hjl2 : j = l.length := by omega
    subst hjl2
    have e1 := hk.cell 1; have e2 := hk.cell 2
    simp only [List.getElem?_toArray, List.getElem?_cons_zero, List.getElem?_cons_succ] at e1 e2
    have cLv := hk.cL hv
    have cIv := hk.cI hv
    have Hli : Hid (LI n (adjN adjI) gs v s (adjN adjI v).length c) := by rw [Hadjl.out, List.length_map]; exact hli
    clear hli
    by_cases hne : c.low v = c.idx v
    ·have Hne := hid hne
     clear hne
     have hb1 : ((c.low v : Int) != (c.idx v : Int)) = false := by simp [Hne.out]
     go_wp2_with fail
     go_region
     obtain ⟨xs, hxs, _, _⟩ := Hli.out.stk
     have Hxs := hid hxs
     have hstl : c.stk.length + c.kn ≤ n := by have := Hli.out.inv.kn_le; have := enter_inv_cnt Hli.out.inv; omega
     have hsz : s.stk.length + (v :: xs).length + c.kn ≤ n := by rw [hxs, List.length_append] at hstl; exact hstl
     have Hnd : Hid (v ∉ xs) := by
      have hp := Hli.out.inv.sorted
      rw [hxs, List.pairwise_append] at hp
      intro hm
      have := List.rel_of_pairwise_cons hp.2.1 hm
      omega
     have hkd := hk.drew
     clear hxs hk e1 e2 cLv cIv hb1 hstl
     go_wp2
     go_loopg [6] (v :: xs).length (fun gk v6 w6 => ∃ (ws zs : List Nat) (svk : Value) (t : Int), Hid (v :: xs = ws ++ zs) ∧ v6 = .int .i64 t ∧ Hid (t = v ↔ ws = []) ∧ Hid (ws.length = gk) ∧ KN W0 n (.func (.func gf) #[] caps) b gI gL gO gF base (offs c (s.stk ++ ws) zs) svk w6)
     case atStart => exact ⟨v :: xs, [], svj, -1, by simp [Hid], rfl, ⟨fun h => by omega, fun h => by simp at h⟩, rfl, hkd.congr (by rw [show c = ⟨c.idx, c.low, c.on, c.of, c.stk, c.cnt, c.kn⟩ from rfl]; simp only [offs, List.not_mem_nil, if_false]; rw [Hxs.out])⟩
     case round =>
      clear hkd
      obtain ⟨ws, zs, svk, t, hws, rfl, htv, hgk, hk⟩ := hrel
      rcases List.eq_nil_or_concat ws with hnil | ⟨ws', u, hcc⟩
      ·have Hnil := hid hnil
       have htv' := htv.out.2 hnil
       have hb1 : ((t : Int) != (v : Int)) = false := by simp [htv']
       clear hnil htv'
       have e7 : wr.cell? ⟨b, 7, none⟩ = some (.int .i64 (c.kn : Int)) := hk.cell 7
       have f7 := hk.free 7
       go_wp2
       go_returns
       have hk9 := hk.put_kn (c.kn + 1)
       rw [show ((c.kn + 1 : Nat) : Int) = (c.kn : Int) + 1 from by omega] at hk9
       refine Fin HQ ⟨rfl, popped c s.stk (v :: xs), svk, hk9.congr ?_, Hli.out.pop Hne.out Hxs.out⟩
       have h1 := hws.out
       rw [Hnil.out, List.nil_append] at h1
       rw [Hnil.out, List.append_nil, ← h1]; rfl
      ·rw [List.concat_eq_append] at hcc
       have Hcc := hid hcc
       have hst := hk.stk
       have hun : u < n := by
        refine Hli.out.inv.vis_lt u (Hli.out.inv.stk_vis u ?_)
        rw [Hxs.out, hws.out, hcc]; simp
       have hgk2 : gk = ws'.length + 1 := by rw [← hgk.out, hcc]; simp
       have hst2 : wr.ownsRow base 3 1 svk ((s.stk ++ ws').length + 1) (((s.stk ++ ws').map fun (x : Nat) => Value.int .i64 (x : Int)) ++ [.int .i64 (u : Int)]) := by
        have := hst
        simp only [offs, hcc] at this
        simpa [Nat.add_assoc] using this
       obtain ⟨g, cap, rfl, hgb, hkc, hcm, hcell, hpop⟩ := own_last hst2
       have hlen : (s.stk ++ ws').length + c.kn ≤ n := by
        have h1 := congrArg List.length hws.out
        rw [hcc] at h1
        simp only [List.length_append, List.length_cons, List.length_nil] at h1 hsz ⊢
        omega
       have hb1 : ((t : Int) != (v : Int)) = true := by
        have : ¬ t = v := fun h => by have := htv.out.1 h; rw [hcc] at this; simp at this
        simp [this]
       have Hpop := hid hpop
       obtain ⟨K, HK⟩ : ∃ K, Hid (K = (s.stk ++ ws').length) := ⟨_, rfl⟩
       rw [← HK.out] at hkc hcell hpop hlen Hpop
       have e4 : wr.cell? ⟨b, 4, none⟩ = some (.slice (some ⟨g, 0, none⟩) (K + 1) cap) := by rw [HK.out]; exact hk.cell 4
       have hk' := hk
       clear hst hst2 hcc hpop
       rw [← HK.out] at hk'
       go_wp2_with fail
       go_region
       have hk1 := hk'.drew
       clear e4 hcell hk hk' hb1
       generalize wr.drew = w7 at *
       as_aux_lemma =>
        have e3 := hk1.cell 3; have e4 := hk1.cell 4
        simp only [List.getElem?_toArray, List.getElem?_cons_zero, List.getElem?_cons_succ] at e3 e4
        have f4 := hk1.free 4
        have cOu := hk1.cO hun
        have fO := hk1.aO.free u
        have hOb := hk1.d3.2.1
        have Hpop7 : Hid (w7.ownsRow base 3 1 (.slice (some ⟨g, 0, none⟩) K cap) K ((s.stk ++ ws').map fun (x : Nat) => Value.int .i64 (x : Int))) := by
         have hst2 : w7.ownsRow base 3 1 (.slice (some ⟨g, 0, none⟩) (K + 1) cap) (s.stk ++ ws).length ((s.stk ++ ws).map fun (x : Nat) => Value.int .i64 (x : Int)) := hk1.stk
         rw [Hcc.out, ← List.append_assoc, List.map_append, List.length_append, ← HK.out] at hst2
         obtain ⟨g2, cap2, h2, _, _, _, _, hp⟩ := own_last hst2
         injection h2 with h3 _ h4
         injection h3 with h5
         injection h5 with h6
         subst h6; subst h4; exact hp
        go_wp2_with fail
        go_region
        have hk2 := ((hk1.put_stk (s.stk ++ ws') (.slice (some ⟨g, 0, none⟩) K cap) (by rw [← HK.out]; exact Hpop7.out)).put_on u false).drew
        clear e3 e4 f4 cOu fO hOb hk1 Hpop7
        generalize ((w7.setCell ⟨b, 4, none⟩ (.slice (some ⟨g, 0, none⟩) K cap)).setCell ⟨gO, u, none⟩ (.bool false)).drew = w8 at *
        as_aux_lemma =>
         have e5 := hk2.cell 5
         simp only [List.getElem?_toArray, List.getElem?_cons_zero, List.getElem?_cons_succ] at e5
         have e7 : w8.cell? ⟨b, 7, none⟩ = some (.int .i64 (c.kn : Int)) := hk2.cell 7
         have cFu := hk2.cF hun
         have fF := hk2.aF.free u
         go_wp2_with fail
         go_region
         have hk3 := (hk2.put_of u c.kn).drew
         go_wp2
         go_roundg ws'.length
         case measure => omega
         case rel =>
          refine ⟨ws', u :: zs, _, (u : Int), ?_, rfl, ?_, rfl, hk3.congr ?_⟩
          ·show v :: xs = ws' ++ u :: zs
           have := hws.out; rw [Hcc.out] at this; simpa using this
          ·have h1 := hws.out
           rw [Hcc.out] at h1
           constructor
           ·intro h2
            have h3 : u = v := by omega
            cases ws' with
            | nil => rfl
            | cons y r =>
             exfalso
             simp at h1
             refine Hnd.out ?_
             rw [h1.2, h3]; simp
           ·intro h2
            subst h2
            simp at h1; omega
          ·rw [← offs_step]; rfl
    ·have Hne := hid hne
     have hb1 : ((c.low v : Int) != (c.idx v : Int)) = true := by simp; omega
     clear hne
     go_wp2_with fail
     as_aux_lemma =>
      go_region
      go_wp2
      go_returns
      exact Fin HQ ⟨rfl, c, svj, hk.drew, Hli.out.keep Hne.out⟩
end Go.Proofs.Lx

namespace Go.Proofs.Lx
open Go Go.RowKit Go.Proofs.Tj
set_option linter.unusedSimpArgs false
set_option linter.unusedVariables false

theorem visit_any (W0 : World) (n : Nat) (gf : Nat) (caps : Array Value) (adjI : Nat → List Int) (b gI gL gO gF base : Nat) (hn : n ≤ 4096) (hgf : Enters Tryz.prog gf) (hnext : Nexts W0 n gf caps adjI) (hadj : AdjOk n adjI) :
  ∀ m, Visits W0 n gf caps adjI b gI gL gO gF base m := by
 intro m
 induction m using Nat.strongRecOn with
 | _ m ih => exact visit_step W0 n gf caps adjI b gI gL gO gF base m hn hgf hnext hadj ih

theorem tab_zero {α : Type} (n : Nat) (z : α) : tab n (fun _ => z) = List.replicate n z := by
 apply List.ext_getElem <;> simp [tab]
theorem madeI_at {w : World} {n g : Nat} (hg : g = w.heap.size) : Arr (fun x : Nat => Value.int .i64 (x : Int)) 3 (w.alloc (.cells (madeCells #[.int .i64 0] n) 3)) g (tab n fun _ => 0) := by
 subst hg; rw [tab_zero]; exact made_arr (fun x : Nat => Value.int .i64 (x : Int)) 0 3 w n
theorem madeB_at {w : World} {n g : Nat} (hg : g = w.heap.size) : Arr Value.bool 4 (w.alloc (.cells (madeCells #[.bool false] n) 4)) g (tab n fun _ => false) := by
 subst hg; rw [tab_zero]; exact made_arr Value.bool false 4 w n
/-- Four new blocks, one of bools. -/
theorem kn_start {W0 : World} {n : Nat} {fv : Value} {X0 X1 X2 X3 : Obj} (iI iL iO iF : Nat) (h4 : iI < 4 ∧ iL < 4 ∧ iO < 4 ∧ iF < 4) (hd : iI ≠ iL ∧ iI ≠ iO ∧ iI ≠ iF ∧ iL ≠ iO ∧ iL ≠ iF ∧ iO ≠ iF)
  (hX : ∀ k, k < 4 → ([X0, X1, X2, X3] : List Obj)[k]? = some (if k = iO then .cells (madeCells #[.bool false] n) 4 else .cells (madeCells #[.int .i64 0] n) 3)) :
  KN W0 n fv (W0.heap.size + 4) (W0.heap.size + iI) (W0.heap.size + iL) (W0.heap.size + iO) (W0.heap.size + iF) (W0.heap.size + 5) Tj.blank (.slice none 0 0)
   (((((W0.alloc X0).alloc X1).alloc X2).alloc X3).alloc (.cells #[fv, .slice (some ⟨W0.heap.size + iI, 0, none⟩) n n, .slice (some ⟨W0.heap.size + iL, 0, none⟩) n n, .slice (some ⟨W0.heap.size + iO, 0, none⟩) n n, .slice none 0 0, .slice (some ⟨W0.heap.size + iF, 0, none⟩) n n, .int .i64 0, .int .i64 0] 146)).drew := by
 have hb : ∀ k, k < 4 → ((((W0.alloc X0).alloc X1).alloc X2).alloc X3).heap[W0.heap.size + k]? = some (if k = iO then .cells (madeCells #[.bool false] n) 4 else .cells (madeCells #[.int .i64 0] n) 3) := by
  intro k hk
  rw [← hX k hk]
  show ((((W0.heap.push X0).push X1).push X2).push X3)[W0.heap.size + k]? = _
  simp only [Array.getElem?_push, Array.size_push]
  rcases (show k = 0 ∨ k = 1 ∨ k = 2 ∨ k = 3 by omega) with rfl | rfl | rfl | rfl
  ·rw [if_neg (by omega), if_neg (by omega), if_neg (by omega), if_pos (by omega)]; rfl
  ·rw [if_neg (by omega), if_neg (by omega), if_pos (by omega)]; rfl
  ·rw [if_neg (by omega), if_pos (by omega)]; rfl
  ·rw [if_pos (by omega)]; rfl
 have hI : ∀ k, k < 4 → k ≠ iO → Arr (fun x : Nat => Value.int .i64 (x : Int)) 3 ((((W0.alloc X0).alloc X1).alloc X2).alloc X3) (W0.heap.size + k) (tab n fun _ => 0) := by
  intro k hk hne
  have h1 := madeI_at (w := W0) (n := n) rfl
  unfold Arr at h1 ⊢
  rw [heap_alloc_new] at h1
  rw [hb k hk, if_neg hne]; exact h1
 have hB : Arr Value.bool 4 ((((W0.alloc X0).alloc X1).alloc X2).alloc X3) (W0.heap.size + iO) (tab n fun _ => false) := by
  have h1 := madeB_at (w := W0) (n := n) rfl
  unfold Arr at h1 ⊢
  rw [heap_alloc_new] at h1
  rw [hb iO h4.2.2.1, if_pos rfl]; exact h1
 have hs : ((((W0.alloc X0).alloc X1).alloc X2).alloc X3).heap.size = W0.heap.size + 4 := by simp
 have ho : Below W0.heap.size W0 ((((W0.alloc X0).alloc X1).alloc X2).alloc X3) := (((ext_alloc W0 X0).alloc (by simp) X1).alloc (by simp; omega) X2).alloc (by simp; omega) X3
 have a1 := hI iI h4.1 hd.2.1
 have a2 := hI iL h4.2.1 hd.2.2.2.1
 have a4 := hI iF h4.2.2.2 (Ne.symm hd.2.2.2.2.2)
 generalize ((((W0.alloc X0).alloc X1).alloc X2).alloc X3) = w4 at *
 obtain ⟨d1, d2, d3, d4, d5, d6⟩ := hd
 obtain ⟨l1, l2, l3, l4⟩ := h4
 refine ⟨?_, (a1.alloc _).drew, (a2.alloc _).drew, (hB.alloc _).drew, (a4.alloc _).drew, World.ownsRow_nil _ _ _ _, (ho.alloc (by omega) _).drew, by omega, by omega, by omega, by omega, by omega, ?_, ⟨by omega, by omega, by omega, by omega⟩, ⟨by omega, by omega, by omega⟩, ⟨by omega, by omega, by omega⟩⟩
 ·show (w4.alloc _).heap[W0.heap.size + 4]? = _
  rw [← hs]; exact heap_alloc_new w4 _
 ·show _ ≤ (w4.alloc _).heap.size
  simp; omega

set_option maxRecDepth 100000 in
set_option maxHeartbeats 30000000 in
theorem knot_any (W0 : World) (n : Nat) (gf : Nat) (caps : Array Value) (adjI : Nat → List Int) (hn : n ≤ 4096) (hgf : Enters Tryz.prog gf) (hnext : Nexts W0 n gf caps adjI) (hadj : AdjOk n adjI) :
  Calls Tryz.prog 106 #[.int .i64 (n : Int), .func (.func gf) #[] caps] W0 (Ret fun v0 w' => ∃ b gI gL gO gF base s sv, v0 = .pointer (some ⟨b, 0, none⟩) ∧ KN W0 n (.func (.func gf) #[] caps) b gI gL gO gF base s sv w' ∧ Inv n (adjN adjI) [] s ∧ ∀ x, x < n → s.idx x ≠ 0) := by
 have hmI := mkI (n : Int) (by omega) (by omega)
 have hmB := mkB (n : Int) (by omega) (by omega)
 rw [Int.toNat_natCast] at hmI hmB
 have Hv := hid (fun b gI gL gO gF base m => visit_any W0 n gf caps adjI b gI gL gO gF base hn hgf hnext hadj m)
 clear hnext hadj hgf
 refine post_gen fun Q HQ => ?_
 go_enter Tryz.func106, Tryz.ntmps106
 go_wp2
 go_cut [5] (fun v5 wx => ∃ b gI gL gO gF base, v5 = .pointer (some ⟨b, 0, none⟩) ∧ KN W0 n (.func (.func gf) #[] caps) b gI gL gO gF base Tj.blank (.slice none 0 0) wx)
 case first =>
  go_region
  all_goals
   go_wp2_with fail
   go_meet
   first
    | exact ⟨_, _, _, _, _, _, rfl, kn_start 0 1 2 3 (by decide) (by decide) (by intro k hk; rcases (show k = 0 ∨ k = 1 ∨ k = 2 ∨ k = 3 by omega) with rfl | rfl | rfl | rfl <;> rfl)⟩
    | exact ⟨_, _, _, _, _, _, rfl, kn_start 0 1 3 2 (by decide) (by decide) (by intro k hk; rcases (show k = 0 ∨ k = 1 ∨ k = 2 ∨ k = 3 by omega) with rfl | rfl | rfl | rfl <;> rfl)⟩
    | exact ⟨_, _, _, _, _, _, rfl, kn_start 0 2 1 3 (by decide) (by decide) (by intro k hk; rcases (show k = 0 ∨ k = 1 ∨ k = 2 ∨ k = 3 by omega) with rfl | rfl | rfl | rfl <;> rfl)⟩
    | exact ⟨_, _, _, _, _, _, rfl, kn_start 0 2 3 1 (by decide) (by decide) (by intro k hk; rcases (show k = 0 ∨ k = 1 ∨ k = 2 ∨ k = 3 by omega) with rfl | rfl | rfl | rfl <;> rfl)⟩
    | exact ⟨_, _, _, _, _, _, rfl, kn_start 0 3 1 2 (by decide) (by decide) (by intro k hk; rcases (show k = 0 ∨ k = 1 ∨ k = 2 ∨ k = 3 by omega) with rfl | rfl | rfl | rfl <;> rfl)⟩
    | exact ⟨_, _, _, _, _, _, rfl, kn_start 0 3 2 1 (by decide) (by decide) (by intro k hk; rcases (show k = 0 ∨ k = 1 ∨ k = 2 ∨ k = 3 by omega) with rfl | rfl | rfl | rfl <;> rfl)⟩
    | exact ⟨_, _, _, _, _, _, rfl, kn_start 1 0 2 3 (by decide) (by decide) (by intro k hk; rcases (show k = 0 ∨ k = 1 ∨ k = 2 ∨ k = 3 by omega) with rfl | rfl | rfl | rfl <;> rfl)⟩
    | exact ⟨_, _, _, _, _, _, rfl, kn_start 1 0 3 2 (by decide) (by decide) (by intro k hk; rcases (show k = 0 ∨ k = 1 ∨ k = 2 ∨ k = 3 by omega) with rfl | rfl | rfl | rfl <;> rfl)⟩
    | exact ⟨_, _, _, _, _, _, rfl, kn_start 1 2 0 3 (by decide) (by decide) (by intro k hk; rcases (show k = 0 ∨ k = 1 ∨ k = 2 ∨ k = 3 by omega) with rfl | rfl | rfl | rfl <;> rfl)⟩
    | exact ⟨_, _, _, _, _, _, rfl, kn_start 1 2 3 0 (by decide) (by decide) (by intro k hk; rcases (show k = 0 ∨ k = 1 ∨ k = 2 ∨ k = 3 by omega) with rfl | rfl | rfl | rfl <;> rfl)⟩
    | exact ⟨_, _, _, _, _, _, rfl, kn_start 1 3 0 2 (by decide) (by decide) (by intro k hk; rcases (show k = 0 ∨ k = 1 ∨ k = 2 ∨ k = 3 by omega) with rfl | rfl | rfl | rfl <;> rfl)⟩
    | exact ⟨_, _, _, _, _, _, rfl, kn_start 1 3 2 0 (by decide) (by decide) (by intro k hk; rcases (show k = 0 ∨ k = 1 ∨ k = 2 ∨ k = 3 by omega) with rfl | rfl | rfl | rfl <;> rfl)⟩
    | exact ⟨_, _, _, _, _, _, rfl, kn_start 2 0 1 3 (by decide) (by decide) (by intro k hk; rcases (show k = 0 ∨ k = 1 ∨ k = 2 ∨ k = 3 by omega) with rfl | rfl | rfl | rfl <;> rfl)⟩
    | exact ⟨_, _, _, _, _, _, rfl, kn_start 2 0 3 1 (by decide) (by decide) (by intro k hk; rcases (show k = 0 ∨ k = 1 ∨ k = 2 ∨ k = 3 by omega) with rfl | rfl | rfl | rfl <;> rfl)⟩
    | exact ⟨_, _, _, _, _, _, rfl, kn_start 2 1 0 3 (by decide) (by decide) (by intro k hk; rcases (show k = 0 ∨ k = 1 ∨ k = 2 ∨ k = 3 by omega) with rfl | rfl | rfl | rfl <;> rfl)⟩
    | exact ⟨_, _, _, _, _, _, rfl, kn_start 2 1 3 0 (by decide) (by decide) (by intro k hk; rcases (show k = 0 ∨ k = 1 ∨ k = 2 ∨ k = 3 by omega) with rfl | rfl | rfl | rfl <;> rfl)⟩
    | exact ⟨_, _, _, _, _, _, rfl, kn_start 2 3 0 1 (by decide) (by decide) (by intro k hk; rcases (show k = 0 ∨ k = 1 ∨ k = 2 ∨ k = 3 by omega) with rfl | rfl | rfl | rfl <;> rfl)⟩
    | exact ⟨_, _, _, _, _, _, rfl, kn_start 2 3 1 0 (by decide) (by decide) (by intro k hk; rcases (show k = 0 ∨ k = 1 ∨ k = 2 ∨ k = 3 by omega) with rfl | rfl | rfl | rfl <;> rfl)⟩
    | exact ⟨_, _, _, _, _, _, rfl, kn_start 3 0 1 2 (by decide) (by decide) (by intro k hk; rcases (show k = 0 ∨ k = 1 ∨ k = 2 ∨ k = 3 by omega) with rfl | rfl | rfl | rfl <;> rfl)⟩
    | exact ⟨_, _, _, _, _, _, rfl, kn_start 3 0 2 1 (by decide) (by decide) (by intro k hk; rcases (show k = 0 ∨ k = 1 ∨ k = 2 ∨ k = 3 by omega) with rfl | rfl | rfl | rfl <;> rfl)⟩
    | exact ⟨_, _, _, _, _, _, rfl, kn_start 3 1 0 2 (by decide) (by decide) (by intro k hk; rcases (show k = 0 ∨ k = 1 ∨ k = 2 ∨ k = 3 by omega) with rfl | rfl | rfl | rfl <;> rfl)⟩
    | exact ⟨_, _, _, _, _, _, rfl, kn_start 3 1 2 0 (by decide) (by decide) (by intro k hk; rcases (show k = 0 ∨ k = 1 ∨ k = 2 ∨ k = 3 by omega) with rfl | rfl | rfl | rfl <;> rfl)⟩
    | exact ⟨_, _, _, _, _, _, rfl, kn_start 3 2 0 1 (by decide) (by decide) (by intro k hk; rcases (show k = 0 ∨ k = 1 ∨ k = 2 ∨ k = 3 by omega) with rfl | rfl | rfl | rfl <;> rfl)⟩
    | exact ⟨_, _, _, _, _, _, rfl, kn_start 3 2 1 0 (by decide) (by decide) (by intro k hk; rcases (show k = 0 ∨ k = 1 ∨ k = 2 ∨ k = 3 by omega) with rfl | rfl | rfl | rfl <;> rfl)⟩
 case rest =>
  obtain ⟨b, gI, gL, gO, gF, base, rfl, hk⟩ := hcut
  go_wp2
  go_loopw [19] (fun v19 wr => ∃ (k : Nat) (c : TS) (svc : Value), k ≤ n ∧ v19 = .int .i64 k ∧ KN W0 n (.func (.func gf) #[] caps) b gI gL gO gF base c svc wr ∧ Hid (Inv n (adjN adjI) [] c ∧ ∀ x, x < k → c.idx x ≠ 0)) (fun v19 _ => n - (intOf v19).toNat)
  case atStart => exact ⟨0, _, _, Nat.zero_le _, rfl, hk, inv_blank _ _, fun x hx => absurd hx (by omega)⟩
  case round =>
   clear hk
   obtain ⟨k, c, svc, hkn, rfl, hk, hinv⟩ := hrel
   by_cases hlt : k < n
   ·have e1 := hk.cell 1
    simp only [List.getElem?_toArray, List.getElem?_cons_zero, List.getElem?_cons_succ] at e1
    have cI := hk.cI hlt
    have hci : c.idx k ≤ n := Nat.le_trans (hinv.out.1.idx_le k) (enter_inv_cnt hinv.out.1)
    by_cases h0 : c.idx k = 0
    ·have hb0 : ((c.idx k : Int) == 0) = true := by simp [h0]
     have H0 := hid h0
     clear h0
     have hcall := Hv.out b gI gL gO gF base n wr c svc k [] hk hinv.out.1 (fun g hg => by cases hg) H0.out hlt (by omega)
     go_wp2_with fail
     refine hcall.mono ?_
     rintro e w5 ⟨_, rfl, rfl, c1, sv1, hk1, hpost⟩
     have Hpost := hid hpost
     clear hpost hcall hk e1 cI hb0
     go_wp2
     go_roundw
     case rel =>
      refine ⟨k + 1, c1, sv1, by omega, by go_num, hk1, Hpost.out.inv, fun x hx => ?_⟩
      by_cases e : x = k
      ·subst e; exact Hpost.out.vis
      ·have h1 := hinv.out.2 x (by omega)
       rw [(Hpost.out.old x h1).1]; exact h1
     case measure => simp [intOf]; omega
    ·have hb0 : ((c.idx k : Int) == 0) = false := by simp [h0]
     have H0 := hid h0
     clear h0
     go_wp2
     go_roundw
     case rel =>
      refine ⟨k + 1, c, svc, by omega, by go_num, hk, hinv.out.1, fun x hx => ?_⟩
      by_cases e : x = k
      ·subst e; exact H0.out
      ·exact hinv.out.2 x (by omega)
     case measure => simp [intOf]; omega
   ·go_wp2
    go_ret
    exact Fin HQ ⟨b, gI, gL, gO, gF, base, c, svc, rfl, hk, hinv.out.1, fun x hx => hinv.out.2 x (by omega)⟩
end Go.Proofs.Lx
