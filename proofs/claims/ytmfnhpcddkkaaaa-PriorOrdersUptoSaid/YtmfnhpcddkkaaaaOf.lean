/- Contract of prior.Cycle. -/
import Derived.Test.YtmfnhpcddkkaaaaOe
import Derived.Deep.LoopGhost
import Derived.WalkMore
namespace Go.Proofs.Lx
open Go Go.RowKit Go.Proofs.Tj
set_option linter.unusedSimpArgs false
set_option linter.unusedVariables false

/-- What Cycle keeps in memory. -/
structure CS (w : World) (B : List (List Int)) (n : Nat) (st nx : Nat → Nat) (way fin : List Nat) (v7 : Value) (wr : World) : Prop where
  wy : Tj.Way B st nx way fin
  aS : ArrI wr w.heap.size n fun q => (st q : Int)
  aN : ArrI wr (w.heap.size + 1) n fun q => (nx q : Int)
  own : wr.ownsRow (w.heap.size + 2) 3 1 v7 way.length (intN way)
  old : Below w.heap.size w wr

section
variable {w wr wr' : World} {B : List (List Int)} {n : Nat} {st nx : Nat → Nat} {way fin way' fin' : List Nat} {v7 v7' : Value}
theorem CS.ext (h : CS w B n st nx way fin v7 wr) (hb : Below wr.heap.size wr wr') : CS w B n st nx way fin v7 wr' :=
  ⟨h.wy, Arr.ext h.aS hb, Arr.ext h.aN hb, h.own.kept (row := none) ⟨hb.os, hb.tape, hb.output, hb.size, fun k hk _ => hb.block k hk⟩ (by cases v7.ownBlock <;> simp), ext_trans h.old hb⟩
theorem CS.setS (h : CS w B n st nx way fin v7 wr) (k v : Nat) (hw : Tj.Way B (fun q => if q = k then v else st q) nx way' fin') (ho : wr.ownsRow (w.heap.size + 2) 3 1 v7' way'.length (intN way')) :
    CS w B n (fun q => if q = k then v else st q) nx way' fin' v7' (wr.setCell ⟨w.heap.size, k, none⟩ (.int .i64 (v : Int))) := by
  refine ⟨hw, ?_, Arr.other h.aN (by dsimp only; omega) _, ho.kept (grown_set wr w.heap.size k _) (.inr (fun e => by have := (ho.lt _ e).1; omega)), h.old.setCell (Nat.le_refl _) _⟩
  have := h.aS.put k (v : Int)
  have e : tabI n (fun q => if q = k then (v : Int) else (st q : Int)) = tabI n (fun q => ((if q = k then v else st q : Nat) : Int)) := tabI_congr fun q _ => by split <;> rfl
  unfold ArrI at this ⊢
  rwa [e] at this
theorem CS.setN (h : CS w B n st nx way fin v7 wr) (k v : Nat) (hw : Tj.Way B st (fun q => if q = k then v else nx q) way fin) :
    CS w B n st (fun q => if q = k then v else nx q) way fin v7 (wr.setCell ⟨w.heap.size + 1, k, none⟩ (.int .i64 (v : Int))) := by
  refine ⟨hw, Arr.other h.aS (by dsimp only; omega) _, ?_, h.own.kept (grown_set wr (w.heap.size + 1) k _) (.inr (fun e => by have := (h.own.lt _ e).1; omega)), h.old.setCell (by dsimp only; omega) _⟩
  have := h.aN.put k (v : Int)
  have e : tabI n (fun q => if q = k then (v : Int) else (nx q : Int)) = tabI n (fun q => ((if q = k then v else nx q : Nat) : Int)) := tabI_congr fun q _ => by split <;> rfl
  unfold ArrI at this ⊢
  rwa [e] at this
theorem CS.own2 (h : CS w B n st nx way fin v7 wr) {W : World} (hW : Below wr.heap.size wr W) (x k : Nat) (a b : Value) :
    ((W.setCell ⟨w.heap.size + 1, x, none⟩ a).setCell ⟨w.heap.size, k, none⟩ b).ownsRow (w.heap.size + 2) 3 1 v7 way.length (intN way) := by
  have h1 := (h.ext hW).own
  have hne : ∀ g, g < w.heap.size + 2 → v7.ownBlock ≠ some g := fun g hg e => by have := (h1.lt g e).1; omega
  exact (h1.kept (grown_set W (w.heap.size + 1) x a) (.inr (hne _ (by omega)))).kept (grown_set _ w.heap.size k b) (.inr (hne _ (by omega)))
theorem CS.own1 (h : CS w B n st nx way fin v7 wr) {W : World} (hW : Below wr.heap.size wr W) (x : Nat) (a : Value) :
    (W.setCell ⟨w.heap.size + 1, x, none⟩ a).ownsRow (w.heap.size + 2) 3 1 v7 way.length (intN way) := by
  have h1 := (h.ext hW).own
  exact h1.kept (grown_set W (w.heap.size + 1) x a) (.inr (fun e => by have := (h1.lt _ e).1; omega))
theorem CS.take (h : CS w B n st nx way fin v7 wr) {W w3 : World} {o : Obj} (hW : Below wr.heap.size wr W) (x z k : Nat) (hw : Tj.Way B (fun q => if q = k then 1 else st q) (fun q => if q = x then z else nx q) (way ++ [k]) fin)
    (ho : w3.ownsRow (w.heap.size + 2) 3 1 v7' (way ++ [k]).length (intN (way ++ [k])))
    (hg : (((W.setCell ⟨w.heap.size + 1, x, none⟩ (.int .i64 (z : Int))).setCell ⟨w.heap.size, k, none⟩ (.int .i64 1)).alloc o).grownBy w3 v7.ownBlock) :
    CS w B n (fun q => if q = k then 1 else st q) (fun q => if q = x then z else nx q) (way ++ [k]) fin v7' w3 := by
  have hne : ∀ g, v7.ownBlock = some g → w.heap.size + 2 ≤ g := fun g e => (h.own.lt g e).1
  have h0 := h.ext hW
  have hbN := lt_of_block h0.aN
  have key : ∀ g, g < w.heap.size + 2 → w3.heap[g]? = ((W.setCell ⟨w.heap.size + 1, x, none⟩ (.int .i64 (z : Int))).setCell ⟨w.heap.size, k, none⟩ (.int .i64 1)).heap[g]? := fun g hgl => by
    rw [hg.block g (by simp; omega) (fun e => by have := hne g e.symm; omega)]
    exact heap_alloc_old _ _ (by simp; omega)
  have eS : tabI n (fun q => if q = k then (1 : Int) else (st q : Int)) = tabI n (fun q => ((if q = k then 1 else st q : Nat) : Int)) := tabI_congr fun q _ => by split <;> rfl
  have eN : tabI n (fun q => if q = x then (z : Int) else (nx q : Int)) = tabI n (fun q => ((if q = x then z else nx q : Nat) : Int)) := tabI_congr fun q _ => by split <;> rfl
  refine ⟨hw, ?_, ?_, ho, ?_⟩
  · have h1 : ArrI (W.setCell ⟨w.heap.size + 1, x, none⟩ (.int .i64 (z : Int))) w.heap.size n _ := Arr.other h0.aS (by dsimp only; omega) _
    have h2 := h1.put k 1
    unfold ArrI at h2 ⊢
    rw [eS] at h2
    exact (key _ (by omega)).trans h2
  · have h1 := h0.aN.put x (z : Int)
    unfold ArrI at h1 ⊢
    rw [eN] at h1
    exact (key _ (by omega)).trans (Arr.other h1 (by dsimp only; omega) _)
  · have h1 : Below w.heap.size w ((W.setCell ⟨w.heap.size + 1, x, none⟩ (.int .i64 (z : Int))).setCell ⟨w.heap.size, k, none⟩ (.int .i64 1)) := (h0.old.setCell (by dsimp only; omega) _).setCell (Nat.le_refl _) _
    have hsz := hg.size
    rw [World.size_alloc] at hsz
    have := h1.size
    exact ⟨hg.os.trans h1.os, hg.tape.trans h1.tape, hg.output.trans h1.output, by omega, fun g hgl => (key g (by omega)).trans (h1.block g hgl)⟩
theorem CS.clearWay {A : Option Addr} {c : Nat} (h : CS w B n st nx [] fin (.slice A 0 c) wr) : CS w B n st nx [] fin (.slice none 0 0) wr :=
  ⟨h.wy, h.aS, h.aN, World.ownsRow_nil _ _ _ _, h.old⟩
theorem CS.st2 (h : CS w B n st nx [] fin v7 wr) (hL : B.length = n) {x : Nat} (hx : x < n) (h0 : st x ≠ 0) : st x = 2 := by
  have h1 := h.wy.le2 x (by omega)
  have h2 := (h.wy.opn x (by omega)).1
  rcases (by omega : st x = 1 ∨ st x = 2) with e | e
  · exact absurd (h2 e) (by simp)
  · exact e
end

set_option maxRecDepth 100000 in
set_option maxHeartbeats 3200000 in
theorem cycle_any (w : World) (v : Value) (B : List (List Int)) (hB : RdLL w v B) (hn : B.length ≤ 1048576) (ht : total B ≤ 1048576) :
    Calls Try.prog 7 #[v] w (Ret fun r w' => ((∃ (L : List Nat) (s : Value), Ring B L ∧ ¬ Pot B ∧ r = .tuple #[s, .bool true] ∧ w'.ownsRow w.heap.size 3 1 s L.length (intN L)) ∨ (r = .tuple #[.slice none 0 0, .bool false] ∧ Pot B)) ∧ Below w.heap.size w w') := by
  obtain ⟨A, c, rfl, hc, hb, hr⟩ := hB
  obtain ⟨i0, hi, hz0, hz1, hz2⟩ := info_parts infoI
  have hmk := mkN B.length hn
  have Htot := hid ht
  have hnew := ArrI.new w B.length
  have hnew2 := ArrI.new (w.alloc (.cells (madeCells #[.int .i64 0] B.length) 3)) B.length
  have hn0 := Arr.alloc hnew (.cells (madeCells #[.int .i64 0] B.length) 3)
  rw [World.size_alloc] at hnew2
  have hbl0 := (ext_alloc w (.cells (madeCells #[.int .i64 0] B.length) 3)).alloc (by simp) (.cells (madeCells #[.int .i64 0] B.length) 3)
  have Hst0 : Hid (∃ st : Nat → Nat, ∃ nx : Nat → Nat, ∃ fin : List Nat, CS w B B.length st nx [] fin (.slice none 0 0) ((w.alloc (.cells (madeCells #[.int .i64 0] B.length) 3)).alloc (.cells (madeCells #[.int .i64 0] B.length) 3)) ∧ ∀ x, x < 0 → st x = 2) :=
    ⟨_, _, [], ⟨Tj.Way.start B, hn0, hnew2, World.ownsRow_nil _ _ _ _, hbl0⟩, fun x h => absurd h (by omega)⟩
  generalize hL : B.length = n at *
  have HL := hid hL
  clear hL ht hnew hnew2 hn0 hbl0
  refine post_gen fun Q HQ => ?_
  go_enter Try.func7, Try.ntmps7
  go_wp2
  go_loopg [18] n (fun g v18 wr => ∃ i : Nat, i + g = n ∧ v18 = .int .i64 i ∧ ∃ st nx fin, CS w B n st nx [] fin (.slice none 0 0) wr ∧ Hid (∀ x, x < i → st x = 2))
  case atStart =>
    obtain ⟨st, nx, fin, h1, h2⟩ := Hst0.out
    exact ⟨0, by omega, rfl, st, nx, fin, h1, h2⟩
  case round =>
    clear Hst0
    obtain ⟨i, hig, rfl, st, nx, fin, hcs, hdone⟩ := hrel
    by_cases hlt : i < n
    · have hiB : i < B.length := by rw [HL.out]; exact hlt
      have cS := hcs.aS.at hlt
      have HiB := hid hiB
      have hb1 := ext_alloc wr (.cells #[.int .i64 (i : Int)] 3)
      have hcs1 := hcs.ext hb1
      have cS1 := hcs1.aS.at hlt
      have fS1 := Arr.free hcs1.aS i
      have Hown1 : Hid ((wr.alloc (.cells #[.int .i64 (i : Int)] 3)).ownsRow (w.heap.size + 2) 3 1 (.slice (some ⟨wr.heap.size, 0, none⟩) 1 1) [i].length (intN [i])) := by
        refine hid ⟨by simp, .inr ⟨wr.heap.size, 1, _, rfl, ?_, heap_alloc_new wr _, Nat.le_refl _, by unfold maxLen; omega, rfl, rfl⟩⟩
        have := lt_of_block hcs.aN
        omega
      by_cases hf : st i = 0
      · have hf1 : (st i : Int) = 0 := by omega
        rw [hf1] at cS1
        have hway := hcs.wy.push (k := i) hiB hf (fun x hx => by simp at hx)
        have Hcs2 := hid (hcs1.setS i 1 hway Hown1.out)
        have Hlt2 : Hid (∀ x, x < i → (fun q => if q = i then 1 else st q) x = 2) := hid fun x hx => by show (if x = i then 1 else st x) = 2; rw [if_neg (by omega)]; exact hdone.out x hx
        clear hcs hcs1 hway hdone cS hf1 hf
        have Hnz : Hid ((fun q => if q = i then 1 else st q) i ≠ 0) := hid (by simp)
        generalize (fun q => if q = i then 1 else st q) = st1 at *
        go_wp2
        go_step3
        go_wp2
        go_step3
        go_wp2
        obtain ⟨g0, rfl⟩ : ∃ g0 : Nat, g0 = gk := ⟨_, rfl⟩
        go_loopg [7] (2 * n + 1) (fun g v7 wr => ∃ st nx way fin A7 c7, v7 = .slice A7 way.length c7 ∧ CS w B n st nx way fin v7 wr ∧ Hid (∀ x, x < i → st x = 2) ∧ Hid (st i ≠ 0) ∧ 2 * fresh n st + way.length ≤ g)
        case atStart =>
          refine ⟨_, _, _, _, _, _, rfl, Hcs2.out, Hlt2, Hnz, ?_⟩
          have := fresh_bound n st1
          simp; omega
        case round =>
          clear Hcs2 Hlt2 Hnz
          obtain ⟨st, nx, way, fin, A7, c7, rfl, hcs, hlti, hnz, hmu⟩ := hrel
          by_cases hw0 : way = []
          · subst hw0
            have Hd : Hid (∀ x, x < i + 1 → st x = 2) := hid fun x hx => by
              by_cases e : x = i
              · subst e; exact hcs.st2 HL.out hlt hnz.out
              · exact hlti.out x (by omega)
            have Hcs := hid hcs
            clear hcs
            go_wp2
            try simp only [Exit.noGoto_normal, Exit.noGoto_exit]
            go_wp2
            go_roundg (g0 - 1)
            case measure => omega
            case rel => exact ⟨i + 1, by omega, by go_num, st, nx, fin, Hcs.out.clearWay, Hd⟩
          · obtain ⟨m, hm⟩ : ∃ m, way.length = m + 1 := ⟨way.length - 1, by have := List.length_pos_iff.2 hw0; omega⟩
            have hmn : m + 1 ≤ n := by have := nodup_len hcs.wy.nd hcs.wy.wlt; rw [HL.out] at this; omega
            obtain ⟨x, hx⟩ : ∃ x, way.getLast? = some x := ⟨_, List.getLast?_eq_some_getLast hw0⟩
            have hxm : way[m]'(by omega) = x := by
              rw [List.getLast?_eq_getElem?, List.getElem?_eq_getElem (by omega)] at hx
              simp only [Option.some.injEq] at hx
              rw [← hx]; congr 1; omega
            have hxB := hcs.wy.wlt x (List.mem_of_getLast? hx)
            have hxn : x < n := by rw [← HL.out]; exact hxB
            obtain ⟨g7, cap', e, hg7, hcx⟩ := own_at hcs.own (i := m) (by omega) (by simp; omega)
            cases e
            have ex : (intN way)[m]'(by simp; omega) = .int .i64 (x : Int) := by simp [hxm]
            rw [ex] at hcx
            obtain ⟨adB, C, cC, rfl, p0, h1, h2, hrow⟩ := hr.atRow hxB
            have Hrow : Hid (B.getD x [] = B[x]) := hid (by simp [hxB])
            have HX := hid (And.intro hx (And.intro hxm hxB))
            generalize B[x] = row at *
            clear hx hxm hxB ex hw0
            obtain ⟨wo, rfl⟩ : ∃ wo : World, wo = wr := ⟨_, rfl⟩
            rw [hm]
            rw [hm] at hcs hmu
            have Hmu := hid hmu
            clear hmu
            go_wp2
            obtain ⟨g1, rfl⟩ : ∃ g1 : Nat, g1 = gk := ⟨_, rfl⟩
            go_loopg [7] row.length (fun g v7 wr => v7 = .slice (some ⟨g7, 0, none⟩) (m + 1) c7 ∧ ∃ nx, CS w B n st nx way fin (.slice (some ⟨g7, 0, none⟩) (m + 1) c7) wr ∧ row.length ≤ nx x + g)
            case atStart => exact ⟨rfl, nx, hcs, by omega⟩
            case round =>
              clear hcs hcx
              obtain ⟨rfl, nx, hcs, hmi⟩ := hrel
              have cN := hcs.aN.at hxn
              have fN := Arr.free hcs.aN x
              have p := cell_ext hcs.old p0
              have hlb := lt_of_block hcs.aN
              by_cases hlt2 : nx x < row.length
              · obtain ⟨ad2, rfl, hcell⟩ := (hrow.ext (scR_mono _) hcs.old).at1 hlt2
                obtain ⟨y, Hy⟩ : ∃ y, Hid (row[nx x] = y) := ⟨_, hid rfl⟩
                rw [Hy.out] at hcell
                have hlast : way.getLast? = some x := HX.out.1
                have Hpass : Hid ((∀ k : Nat, k < B.length → y = (k : Int) → st k = 2) → Tj.Way B st (fun q => if q = x then nx x + 1 else nx q) way fin) := hid fun h => hcs.wy.pass hlast (by rw [Hrow.out]; exact hlt2) (fun k hk e => h k hk (by
                  rw [Hrow.out, List.getD_eq_getElem?_getD, List.getElem?_eq_getElem hlt2, Option.getD_some, Hy.out] at e; exact e))
                have Hy2 : Hid ((B.getD x []).getD (nx x) (-1) = y) := hid (by rw [Hrow.out, List.getD_eq_getElem?_getD, List.getElem?_eq_getElem hlt2, Option.getD_some, Hy.out])
                have Hlt2 : Hid (nx x < (B.getD x []).length) := hid (by rw [Hrow.out]; exact hlt2)
                obtain ⟨z, Hz⟩ : ∃ z, Hid (nx x = z) := ⟨_, hid rfl⟩
                have Hcs := hid hcs
                rw [Hz.out] at cN hcell hlt2
                have hzl : z ≤ 140737488355328 := by omega
                clear hlast hcs
                by_cases hv : 0 ≤ y ∧ y < n
                · obtain ⟨k, rfl⟩ := Int.eq_ofNat_of_zero_le hv.1
                  have hk : k < n := by omega
                  have hkB : k < B.length := by rw [HL.out]; exact hk
                  have cS := Hcs.out.aS.at hk
                  have fS := Arr.free Hcs.out.aS k
                  have hk2 := Hcs.out.wy.le2 k hkB
                  have HkB := hid hkB
                  rcases (by omega : st k = 2 ∨ st k = 1 ∨ st k = 0) with e | e | e
                  · have Hw := hid (Hpass.out (fun k' _ e' => by have : k' = k := by omega
                                                                 rw [this]; exact e))
                    rw [e] at cS
                    clear e hkB Hpass
                    go_wp2
                    go_quiet (fail)
                    go_wp2
                    go_quiet (fail)
                    go_wp2
                    go_roundg (gk - 1)
                    case measure => omega
                    case rel =>
                      refine ⟨rfl, _, ((Hcs.out.ext (below_drewN (Below.refl _ _) _)).setN x (z + 1) (by rw [← Hz.out]; exact Hw.out)), ?_⟩
                      rw [if_pos rfl]; have := Hz.out; omega
                  · have hEdge : EdgeB B x k := ⟨HX.out.2.2, hkB, by
                      have h9 := Hy2.out
                      rw [List.getD_eq_getElem?_getD, List.getElem?_eq_getElem Hlt2.out, Option.getD_some] at h9
                      rw [← h9]; exact List.getElem_mem _⟩
                    have hnp := Hcs.out.wy.ring HX.out.1 hEdge e
                    obtain ⟨a, ha, hak⟩ := List.getElem_of_mem ((Hcs.out.wy.opn k hkB).1 e)
                    have hring : ∀ a (ha : a < way.length), way[a] = k → Ring B (way.drop a) := fun a ha hak => way_ring Hcs.out.wy HX.out.1 hEdge ha hak
                    rw [e, show ((1 : Nat) : Int) = 1 from rfl] at cS
                    have Hret := hid (And.intro hnp hring)
                    have Hwl : Hid (way.length ≤ 1048576) := hid (by omega)
                    have hcsx := idxOf_cases (k : Int) (ints way)
                    have Hkin : Hid ((k : Int) ∈ ints way) := hid (List.mem_map.2 ⟨k, by rw [← hak]; exact List.getElem_mem _, rfl⟩)
                    clear e hkB Hpass hnp hring hEdge hak
                    generalize hr9 : idxOf (fun y => (k : Int) == y) (ints way) = r at *
                    have Hr9 := hid hr9
                    clear hr9
                    have Hob : Hid (Below w.heap.size w wr) := hid Hcs.out.old
                    have hwl2 : (ints way).length = m + 1 := by rw [List.length_map]; exact hm
                    have Hwl2 := hid hwl2
                    rcases hcsx with ⟨_, hno⟩ | ⟨a', ha', rfl, hak'⟩
                    · exfalso
                      obtain ⟨b, hb9, e9⟩ := List.getElem_of_mem Hkin.out
                      exact hno b hb9 e9
                    have ha2 : a' < m + 1 := by rw [← hwl2]; exact ha'
                    have hal : a' < way.length := by rw [hm]; exact ha2
                    have h9 : ((way[a'] : Nat) : Int) = (k : Int) := by simpa using hak'
                    have h8 : way[a'] = k := by omega
                    have Hak : Hid (∃ h : a' < way.length, way[a'] = k) := hid ⟨hal, h8⟩
                    have hc7 : m + 1 ≤ c7 := by
                      rcases Hcs.out.own.2 with ⟨e, _⟩ | ⟨g, cp, cur, e, _, _, h, _⟩
                      · cases e
                      · simp only [Value.slice.injEq] at e
                        omega
                    have hc8 : a' < c7 := by omega
                    have hc9 : ¬ c7 = a' := by omega
                    have hc10 : ¬ c7 ≤ a' := by omega
                    clear hak' hwl2 ha' h9 h8
                    go_wp2
                    go_quiet (fail)
                    go_wp2
                    go_quiet (fail)
                    go_wp2_with (first | (go_at_call 11; go_in) | (go_at_call 12; refine (index_any _ _ (ints way) (k : Int) (own_ints (Hcs.out.own1 (below_drewN (Below.refl _ _) _) x _) (by have := Hwl.out; omega))).mono ?_; rw [Hr9.out]; rintro e w5 ⟨_, rfl, rfl, rfl⟩))
                    have hrdd : ∀ q, RdI ((wr.drewN q).setCell ⟨w.heap.size + 1, x, none⟩ (.int .i64 ((z : Int) + 1))) (.slice (some ⟨g7, a', none⟩) (m + 1 - a') (c7 - a')) ((ints way).drop a') := fun q => by
                      have h9 := rd_drop (own_ints (Hcs.out.own1 (below_drewN (Below.refl _ _) q) x (.int .i64 ((z : Int) + 1))) (by have := Hwl.out; omega)) (i := a') (by omega)
                      rwa [add_plain] at h9
                    refine (cloneI_any _ _ _ (hrdd _) (by have := Hwl2.out; rw [List.length_drop]; omega)).mono ?_
                    rintro e w6 ⟨s, rfl, hown6, hb6⟩
                    have hbW := ext_trans ((below_drewN Hob.out _).setCell (by dsimp only; omega) _) hb6
                    have hown6' := own_mono hown6 (base' := w.heap.size) (by simp [heap_drewN]; omega)
                    obtain ⟨hk1, hk2'⟩ := Hak.out
                    have Hfin := hid (And.intro hown6' (And.intro hbW (Hret.out.2 a' hk1 hk2')))
                    clear hown6 hown6' hb6 hbW hrdd
                    go_wp2
                    try rw [Exit.noGoto_ret]
                    go_ret2
                    refine Fin HQ ⟨.inl ⟨way.drop a', s, Hfin.out.2.2, Hret.out.1, rfl, ?_⟩, Hfin.out.2.1⟩
                    have h9 := Hfin.out.1
                    rw [← List.map_drop, List.map_map, List.length_map] at h9
                    exact h9
                  · have hw := Hcs.out.wy.take HX.out.1 Hlt2.out hkB Hy2.out e
                    have hfr := fresh_take hk e 1 (by omega)
                    have Hw := hid hw
                    rw [e] at cS
                    have hki : k ≠ i := fun e2 => by subst e2; exact hnz.out e
                    have Hlti2 : Hid (∀ x, x < i → (if x = k then 1 else st x) = 2) := hid fun x' hx' => by
                      by_cases e2 : x' = k
                      · subst e2; have := hlti.out x' hx'; omega
                      · rw [if_neg e2]; exact hlti.out x' hx'
                    have Hfr := hid hfr
                    clear e hkB Hpass hw hfr
                    go_wp2
                    go_quiet (fail)
                    go_wp2
                    go_quiet (fail)
                    have hown9 : ∀ q, (((wr.drewN q).setCell ⟨w.heap.size + 1, x, none⟩ (.int .i64 ((z : Int) + 1))).setCell ⟨w.heap.size, k, none⟩ (.int .i64 1)).ownsRow (w.heap.size + 2) 3 1 (.slice (some ⟨g7, 0, none⟩) (m + 1) c7) (m + 1) (intN way) := fun q => by
                      have h9 := Hcs.out.own2 (below_drewN (Below.refl _ _) q) x k (.int .i64 ((z : Int) + 1)) (.int .i64 1)
                      rw [hm] at h9; exact h9
                    have hnew9 : ∀ q, ∀ j u, [Value.int .i64 (k : Int)][j]? = some u → ((((wr.drewN q).setCell ⟨w.heap.size + 1, x, none⟩ (.int .i64 ((z : Int) + 1))).setCell ⟨w.heap.size, k, none⟩ (.int .i64 1)).alloc (.cells #[.int .i64 (k : Int)] 3)).cell? ((⟨wr.heap.size, 0, none⟩ : Addr).add j) = some u := fun q => by
                      have h9 := cell_one_new (((wr.drewN q).setCell ⟨w.heap.size + 1, x, none⟩ (.int .i64 ((z : Int) + 1))).setCell ⟨w.heap.size, k, none⟩ (.int .i64 1)) (.int .i64 (k : Int)) 3
                      simp only [World.size_setCell, heap_drewN] at h9
                      exact h9
                    have Hown9 := hid hown9
                    have Hnew9 := hid hnew9
                    have hlb2 : w.heap.size + 2 ≤ wr.heap.size := by omega
                    clear hown9 hnew9
                    go_wp2_with (first | (go_at_call 11; go_in) | (at_builtin; refine wpList_append_own _ rfl _ _ 24 rfl (w.heap.size + 2) 3 i0 (.int .i64 0) 1 8 Try.underlying24 hi hz0 hz1 hz2 rfl (by decide) _ (m + 1) _ rfl ((Hown9.out _).alloc _) ⟨wr.heap.size, 0, none⟩ 1 1 [.int .i64 (k : Int)] rfl rfl (Hnew9.out _) (fun u hu => by simp at hu; subst hu; rfl) (by unfold maxLen; omega) (by omega) (by simp [heap_drewN]; omega) ?_; intro v' w3 hown3 hgrow3 hnil3))
                    go_roundg (g1 - 1)
                    case measure => have := Hmu.out; omega
                    case rel =>
                      have ho : w3.ownsRow (w.heap.size + 2) 3 1 v' (way ++ [k]).length (intN (way ++ [k])) := by
                        rw [List.length_append, List.length_singleton, hm, intN, List.map_append]
                        exact hown3
                      have hv' : ∃ A c, v' = .slice A (way ++ [k]).length c := by
                        obtain ⟨A, c, e, _⟩ := own_ints ho (by rw [List.length_append, List.length_singleton]; omega)
                        exact ⟨A, c, by rw [e, List.length_map]⟩
                      obtain ⟨A8, c8, hv8⟩ := hv'
                      have hw9 := Hw.out
                      rw [Hz.out] at hw9
                      have hcs9 := Hcs.out.take (below_drewN (Below.refl _ _) _) x (z + 1) k hw9 ho hgrow3
                      refine ⟨_, _, _, fin, A8, c8, hv8, hcs9, Hlti2, ?_, ?_⟩
                      · refine hid ?_
                        have := hnz.out
                        show (if i = k then 1 else st i) ≠ 0
                        split <;> omega
                      · have h8 := Hfr.out
                        have h7 := Hmu.out
                        rw [List.length_append, List.length_singleton, hm]; omega
                · have Hw := hid (Hpass.out (fun k' hk' e' => absurd ⟨by omega, by rw [HL.out] at hk'; omega⟩ hv))
                  by_cases h0 : 0 ≤ y
                  · have hge : ¬ y < (n : Int) := fun h => hv ⟨h0, h⟩
                    clear hv Hpass
                    go_wp2
                    go_quiet (fail)
                    go_wp2
                    go_quiet (fail)
                    go_wp2
                    go_roundg (gk - 1)
                    case measure => omega
                    case rel =>
                      refine ⟨rfl, _, ((Hcs.out.ext (below_drewN (Below.refl _ _) _)).setN x (z + 1) (by rw [← Hz.out]; exact Hw.out)), ?_⟩
                      rw [if_pos rfl]; have := Hz.out; omega
                  · clear hv Hpass
                    go_wp2
                    go_quiet (fail)
                    go_wp2
                    go_quiet (fail)
                    go_wp2
                    go_roundg (gk - 1)
                    case measure => omega
                    case rel =>
                      refine ⟨rfl, _, ((Hcs.out.ext (below_drewN (Below.refl _ _) _)).setN x (z + 1) (by rw [← Hz.out]; exact Hw.out)), ?_⟩
                      rw [if_pos rfl]; have := Hz.out; omega
              · have hlast : way.getLast? = some x := HX.out.1
                have hpop := hcs.wy.pop hlast (by rw [Hrow.out]; omega)
                have hdl : way = way.dropLast ++ [x] := by
                  have h9 := List.dropLast_concat_getLast (l := way) (by intro e; rw [e] at hm; simp at hm)
                  have h8 : way.getLast (by intro e; rw [e] at hm; simp at hm) = x := by
                    rw [List.getLast?_eq_some_getLast (by intro e; rw [e] at hm; simp at hm)] at hlast
                    simpa using hlast
                  rw [h8] at h9; exact h9.symm
                have hdll : way.dropLast.length = m := by rw [List.length_dropLast]; omega
                have hc7 : m + 1 ≤ c7 := by
                  rcases hcs.own.2 with ⟨e, _⟩ | ⟨g, cp, cur, e, _, _, h, _⟩
                  · cases e
                  · simp only [Value.slice.injEq] at e
                    omega
                have hc8 : ¬ c7 = 0 := by omega
                have hst1 : st x = 1 := (hcs.wy.opn x HX.out.2.2).2 (List.mem_of_getLast? hlast)
                have hfr := fresh_le (n := n) (st := st) (k := x) (v := 2) (by omega) (by omega)
                have hown' : ∀ W, Below wr.heap.size wr W → W.ownsRow (w.heap.size + 2) 3 1 (.slice (some ⟨g7, 0, none⟩) m c7) way.dropLast.length (intN way.dropLast) := fun W hW => by
                  have h9 := (hcs.ext hW).own
                  rw [hm, hdl, intN, List.map_append] at h9
                  rw [hdll]
                  exact ownsRow_pop (by rw [List.length_map, hdll, Nat.mul_one]) h9
                have Hlti2 : Hid (∀ x', x' < i → (if x' = x then 2 else st x') = 2) := hid fun x' hx' => by
                  by_cases e2 : x' = x
                  · rw [if_pos e2]
                  · rw [if_neg e2]; exact hlti.out x' hx'
                have Hnz2 : Hid ((if i = x then 2 else st i) ≠ 0) := hid (by have := hnz.out; split <;> omega)
                have fS := Arr.free hcs.aS x
                have cS := hcs.aS.at hxn
                have Hcs := hid hcs
                have Hp := hid (And.intro hpop (And.intro hown' (And.intro hdll hfr)))
                clear hcs hlast hpop hdl hdll hown' hfr hst1
                generalize hz : nx x = z at *
                clear hz
                go_wp2
                go_quiet (fail)
                go_wp2
                go_roundg (g1 - 1)
                case measure => have := Hmu.out; omega
                case rel =>
                  have hb9 := below_drewN (Below.refl wr.heap.size wr)
                  refine ⟨_, nx, _, _, some ⟨g7, 0, none⟩, c7, by rw [Hp.out.2.2.1], (Hcs.out.ext (hb9 _)).setS x 2 Hp.out.1 (Hp.out.2.1 _ (hb9 _)), Hlti2, Hnz2, ?_⟩
                  · rw [Hp.out.2.2.1, Hp.out.2.2.2]; have := Hmu.out; omega
      · have hne : ((st i : Int) != 0) = true := by simp; omega
        have Hd : Hid (∀ x, x < i + 1 → st x = 2) := hid fun x hx => by
          by_cases e : x = i
          · subst e; exact hcs.st2 HL.out hlt hf
          · exact hdone.out x (by omega)
        have Hcs1 := hid hcs1
        have Hf := hid hf
        clear hcs hcs1 hdone cS hf
        go_wp2
        go_step3
        go_wp2
        rw [Exit.noGoto_exit]
        go_wp2
        go_roundg (gk - 1)
        case measure => omega
        case rel => exact ⟨i + 1, by omega, by go_num, st, nx, fin, Hcs1.out, Hd⟩
    · have Hd : Hid (Pot B) := hid (hcs.wy.free fun x hx => hdone.out x (by rw [HL.out] at hx; omega))
      have Ho := hid hcs.old
      clear hcs hdone
      go_wp2
      go_ret2
      exact Fin HQ ⟨.inr ⟨rfl, Hd.out⟩, Ho.out⟩
end Go.Proofs.Lx
