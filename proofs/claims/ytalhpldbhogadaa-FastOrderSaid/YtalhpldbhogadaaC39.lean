/- Parts of the proof: Wg, Wi, Wj, Wk. FastRuns: the walk. -/
import Derived.Test.YtalhpldbhogadaaC31
import Derived.Deep.RegionHeld3
import Derived.Test.YtalhpldbhogadaaC37
import Derived.Test.YtalhpldbhogadaaC38
namespace Go.Proofs.Lx
open Go Go.RowKit Go.Proofs.Tj
set_option linter.unusedSimpArgs false
set_option linter.unusedVariables false
theorem sameIx (w : World) (v1 v2 : Value) (X : List Int) (h1 : RdI w v1 X) (h2 : RdI w v2 X) :
    Calls Try.prog 35 #[v1, v2] w (Ret fun v w' => v = .bool true ∧ Below w.heap.size w w') :=
  (sameI_self w v1 v2 X h1 h2).mono fun e w' ⟨h1, m, h2⟩ => ⟨_, h1, rfl, by rw [h2]; exact ext_drewN w m⟩
set_option maxRecDepth 100000 in
set_option maxHeartbeats 3200000 in
theorem lawRuns16_any (w : World) (V vl : Value) (T : Th) (l : List Int) (hT : RdTh w V T) (hS : Small T) (hl : RdI w vl l) (hl8 : l.length * 8 ≤ 140737488355328) :
    Calls Try.prog 10 #[V, vl] w (Ret fun v w' => v = .bool true ∧ Below w.heap.size w w') := by
  have HT := hid hT
  have Hl := hid hl
  obtain ⟨vF, vR, vB, rfl, hF, hR, hB⟩ := hT
  obtain ⟨W1, HW1⟩ : ∃ W1, Hid (W1 = w.alloc (.cells #[.int .i64 T.lits, vF, vR, vB] 25)) := ⟨_, hid rfl⟩
  have hb1 : Below w.heap.size w W1 := by rw [HW1.out]; exact ext_alloc _ _
  have Hbox : Hid (∀ W, Below W1.heap.size W1 W → W.cell? ⟨w.heap.size, 0, none⟩ = some (.int .i64 T.lits) ∧ W.cell? ⟨w.heap.size, 1, none⟩ = some vF ∧ W.cell? ⟨w.heap.size, 2, none⟩ = some vR ∧ W.cell? ⟨w.heap.size, 3, none⟩ = some vB) := hid fun W h => by rw [HW1.out] at h; exact box4 h
  have Hc1 := hid (copyTh_any W1 _ T (HT.out.ext hb1) hS)
  have Hci : Hid (∀ W, Below W1.heap.size W1 W → Calls Try.prog 29 #[vl] W (Ret fun r w' => RdI w' r l ∧ Below W.heap.size W w')) := hid fun W h =>
    (copyI_any W vl l (Hl.out.ext (scR_mono _) (ext_trans hb1 h)) hl8).mono fun e w' h => h.mono fun v w' ⟨h1, h2⟩ => ⟨own_rdI h1 (by omega), h2⟩
  have Hrun : Hid (∀ W V' l', RdTh W V' T → RdI W l' l → Calls Try.prog 36 #[V', l'] W (Ret (MkPost W (solX T l) (givenErr T l)))) := hid fun W V' l' h1 h2 =>
    (frunTop_any W V' l' T l h1 h2).mono fun e w' h => h.mono fun v w' h => FRunPost.marks h
  have Hcn : Hid (∀ W V' l', RdTh W V' T → RdI W l' l → Calls Try.prog 37 #[V', l'] W (Ret (CountFlat W (solX T l) (givenErr T l)))) := hid fun W V' l' h1 h2 =>
    (fcounted_any W V' l' T l h1 h2).mono fun e w' h => h.mono fun v w' h => CountPost.flat h
  have Hrr : Hid (∀ W V' l', RdTh W V' T → RdI W l' l → Calls Try.prog 38 #[V', l'] W (Ret (MkPost W (solX T l) (givenErr T l)))) := hid fun W V' l' h1 h2 =>
    (run16_any W V' l' T l h1 h2).mono fun e w' h => h.mono fun v w' h => FRunPost.marks h
  have Htot : Hid (∀ W v, RdMk W v (solX T l) → Calls Try.prog 40 #[v] W (Ret fun v w' => v = .int .i64 (totalN (solX T l) : Int) ∧ Below W.heap.size W w')) := hid fun W v h => total_any W v _ h solX_lt
  unfold MkPost at Hrun Hrr
  unfold CountFlat at Hcn
  have Hnum := hid num16_any
  have Hworks := hid works_any
  have Hb1 := hid hb1
  clear hF hR hB hl
  generalize givenErr T l = c at *
  generalize hX : solX T l = X at *
  clear hX
  generalize totalN X = z at *
  have hcc : (c != c) = false := by simp
  have hzz : ((z : Int) != (z : Int)) = false := by simp
  refine post_gen fun Q HQ => ?_
  go_enter Try.func10, Try.ntmps10
  obtain ⟨a0, a1, a2, a3⟩ := Hbox.out W1 (ext_refl W1)
  rw [HW1.out] at a0 a1 a2 a3
  go_wp2_with fail
  rw [← HW1.out]
  refine Hc1.out.mono ?_
  rintro e w2 ⟨V2, rfl, hV2, hb2⟩
  have Hq := hid (Hci.out w2 hb2)
  clear Hc1 a0 a1 a2 a3
  go_wp2_with fail
  refine Hq.out.mono ?_
  rintro e w3 ⟨l2, rfl, hl2, hb3⟩
  have hb23 := ext_trans hb2 hb3
  obtain ⟨uF, uR, uB, rfl, gF, gR, gB⟩ := hV2
  have HV2 : Hid (RdTh w2 (.agg #[.int .i64 T.lits, uF, uR, uB]) T) := hid ⟨_, _, _, rfl, gF, gR, gB⟩
  obtain ⟨AF2, cF2, rfl, _⟩ := gF
  obtain ⟨AR2, cR2, rfl, _⟩ := gR
  obtain ⟨AB2, cB2, rfl, _⟩ := gB
  generalize T.foes.length = n1 at *
  generalize T.rules.length = n2 at *
  generalize T.beats.length = n3 at *
  obtain ⟨W5, HW5⟩ : ∃ W5, Hid (W5 = w3.alloc (.cells #[.int .i64 T.lits, (.slice AF2 n1 cF2), (.slice AR2 n2 cR2), (.slice AB2 n3 cB2)] 25)) := ⟨_, hid rfl⟩
  have hb5 : Below w3.heap.size w3 W5 := by rw [HW5.out]; exact ext_alloc _ _
  have Hbox2 : Hid (∀ W, Below W5.heap.size W5 W → W.cell? ⟨w3.heap.size, 0, none⟩ = some (.int .i64 T.lits) ∧ W.cell? ⟨w3.heap.size, 1, none⟩ = some (.slice AF2 n1 cF2) ∧ W.cell? ⟨w3.heap.size, 2, none⟩ = some (.slice AR2 n2 cR2) ∧ W.cell? ⟨w3.heap.size, 3, none⟩ = some (.slice AB2 n3 cB2)) := hid fun W h => by rw [HW5.out] at h; exact box4 h
  have HR : Hid (∀ W, Below W5.heap.size W5 W → RdTh W (.agg #[.int .i64 T.lits, (.slice AF2 n1 cF2), (.slice AR2 n2 cR2), (.slice AB2 n3 cB2)]) T ∧ RdI W l2 l ∧ RdTh W (.agg #[.int .i64 T.lits, vF, vR, vB]) T ∧ RdI W vl l ∧ Below W1.heap.size W1 W) := hid fun W h => by
    have h1 := ext_trans hb5 h
    have h2 := ext_trans hb3 h1
    have h4 := ext_trans hb2 h2
    have h5 := ext_trans Hb1.out h4
    exact ⟨HV2.out.ext h2, hl2.ext (scR_mono _) h1, HT.out.ext h5, Hl.out.ext (scR_mono _) h5, h4⟩
  clear Hq hb2 hb3 hb5 hb23 hb1 hl2
  obtain ⟨a0, a1, a2, a3⟩ := Hbox2.out W5 (ext_refl W5)
  rw [HW5.out] at a0 a1 a2 a3
  go_wp2_with fail
  rw [← HW5.out]
  have hr6 := HR.out W5 (ext_refl W5)
  have hB6 := Hbox2.out W5 (ext_refl W5)
  have Hc6 := hid (Hrun.out W5 _ _ hr6.1 hr6.2.1)
  obtain ⟨a0, a1, a2, a3⟩ := hB6
  clear hr6
  refine Hc6.out.mono ?_
  rintro e w6 ⟨_, rfl, xa, rfl, ha6, hb6⟩
  have hq6 := ext_trans (ext_refl W5) hb6
  clear Hc6 a0 a1 a2 a3
  have Ha6 := hid ha6; clear ha6
  have hr7 := HR.out w6 hq6
  have hB7 := Hbox2.out w6 hq6
  have Hc7 := hid (Hcn.out w6 _ _ hr7.1 hr7.2.1)
  obtain ⟨a0, a1, a2, a3⟩ := hB7
  clear hr7
  go_wp2_with fail
  refine Hc7.out.mono ?_
  rintro e w7 ⟨_, rfl, xb, u, rfl, hb7x, hu, hb7⟩
  have Hu := hid hu; clear hu
  obtain ⟨W8, HW8⟩ : ∃ W8, Hid (W8 = w7.alloc (.cells #[.int .i64 (z : Int), .int .i64 u] 62)) := ⟨_, hid rfl⟩
  have hb8 : Below w7.heap.size w7 W8 := by rw [HW8.out]; exact ext_alloc _ _
  have Hcb : Hid (∀ W, Below W8.heap.size W8 W → W.cell? ⟨w7.heap.size, 0, none⟩ = some (.int .i64 (z : Int)) ∧ W.cell? ⟨w7.heap.size, 1, none⟩ = some (.int .i64 u)) := hid fun W h => by
    have h0 : W.heap[w7.heap.size]? = some (.cells #[.int .i64 (z : Int), .int .i64 u] 62 (0, 0)) := by
      rw [h.block _ (by rw [HW8.out]; simp), HW8.out, heap_alloc_new]
    exact ⟨cell_of_row _ _ 0 _ _ _ h0, cell_of_row _ _ 1 _ _ _ h0⟩
  have hq7 := ext_trans hq6 (ext_trans hb7 hb8)
  clear Hc7 a0 a1 a2 a3
  have Hb7 := hid (And.intro hb7x hb8); clear hb7x
  have hr8 := HR.out W8 hq7
  have hB8 := Hbox.out W8 hr8.2.2.2.2
  have Hc8 := hid (Hrr.out W8 _ _ hr8.2.2.1 hr8.2.2.2.1)
  obtain ⟨a0, a1, a2, a3⟩ := hB8
  rw [HW8.out] at a0 a1 a2 a3
  clear hr8
  go_wp2_with fail
  rw [← HW8.out]
  refine Hc8.out.mono ?_
  rintro e w8 ⟨_, rfl, xd, rfl, hd, hbd⟩
  have hq8 := ext_trans hq7 hbd
  clear Hc8 a0 a1 a2 a3
  have Hd := hid hd; clear hd
  have e6 : Below w6.heap.size w6 w8 := ext_trans hb7 (ext_trans hb8 hbd)
  have HsA : Hid (∀ W, Below w8.heap.size w8 W → Calls Try.prog 23 #[xa, xd] W (Ret fun v w' => v = .bool true ∧ Below w8.heap.size w8 w')) := hid fun W hW =>
    (sameMx W xa xd X (Ha6.out.ext (scR_mono _) (ext_trans e6 hW)) (Hd.out.ext (scR_mono _) hW)).mono fun e w' h => h.mono fun v w' ⟨h1, h2⟩ => ⟨h1, ext_trans hW h2⟩
  have HsB : Hid (∀ W, Below w8.heap.size w8 W → Calls Try.prog 23 #[xb, xd] W (Ret fun v w' => v = .bool true ∧ Below w8.heap.size w8 w')) := hid fun W hW =>
    (sameMx W xb xd X (Hb7.out.1.ext (scR_mono _) (ext_trans Hb7.out.2 (ext_trans hbd hW))) (Hd.out.ext (scR_mono _) hW)).mono fun e w' h => h.mono fun v w' ⟨h1, h2⟩ => ⟨h1, ext_trans hW h2⟩
  have HsC : Hid (∀ W, Below w8.heap.size w8 W → Calls Try.prog 40 #[xd] W (Ret fun v w' => v = .int .i64 (z : Int) ∧ Below w8.heap.size w8 w')) := hid fun W hW =>
    (Htot.out W xd (Hd.out.ext (scR_mono _) hW)).mono fun e w' h => h.mono fun v w' ⟨h1, h2⟩ => ⟨h1, ext_trans hW h2⟩
  have Hcb8 : Hid (∀ W, Below w8.heap.size w8 W → W.cell? ⟨w7.heap.size, 0, none⟩ = some (.int .i64 (z : Int)) ∧ W.cell? ⟨w7.heap.size, 1, none⟩ = some (.int .i64 u)) := hid fun W h => Hcb.out W (ext_trans hbd h)
  obtain ⟨d0, d1⟩ := Hcb8.out w8 (ext_refl _)
  have h88 : Below w8.heap.size w8 w8 := ext_refl _
  have HQ8 := hid hq8
  clear hb7 hb8 hq6 hq7 e6 hb6 hbd hq8
  go_wp2_with fail
  rename_i KA aA KB aB
  have HKA := hid aA
  have HKB := hid aB
  clear aA aB
  have HK : Hid (∀ (x37 x38 x39 x40 x41 x42 x43 x44 x45 x46 x47 x48 x49 x50 x51 x52 x53 x54 x55 x56 x57 x58 x59 x60 x61 x62 x63 x64 : Value) (w11 : World), Below w8.heap.size w8 w11 → KB ⟨#[Value.agg #[Value.int IntKind.i64 T.lits, vF, vR, vB], vl, Value.pointer (some ⟨w.heap.size, 0, none⟩), undef, Value.bool false, Value.pointer (some ⟨w3.heap.size, 0, none⟩), l2, xa, Value.int IntKind.i64 c, xb, Value.pointer (some ⟨w7.heap.size, 0, none⟩), Value.int IntKind.i64 c, xd, Value.int IntKind.i64 c, Value.agg #[Value.int IntKind.i64 T.lits, vF, vR, vB], Value.agg #[Value.int IntKind.i64 T.lits, Value.slice AF2 n1 cF2, Value.slice AR2 n2 cR2, Value.slice AB2 n3 cB2], vl, l2, Value.tuple #[xa, Value.int IntKind.i64 c], Value.agg #[Value.int IntKind.i64 T.lits, Value.slice AF2 n1 cF2, Value.slice AR2 n2 cR2, Value.slice AB2 n3 cB2], l2, Value.tuple #[xa, Value.int IntKind.i64 c], xa, Value.int IntKind.i64 c, Value.tuple #[xb, Value.agg #[Value.int IntKind.i64 (z : Int), Value.int IntKind.i64 u], Value.int IntKind.i64 c], Value.agg #[Value.int IntKind.i64 T.lits, Value.slice AF2 n1 cF2, Value.slice AR2 n2 cR2, Value.slice AB2 n3 cB2], l2, Value.tuple #[xb, Value.agg #[Value.int IntKind.i64 (z : Int), Value.int IntKind.i64 u], Value.int IntKind.i64 c], xb, Value.agg #[Value.int IntKind.i64 (z : Int), Value.int IntKind.i64 u], Value.int IntKind.i64 c, Value.tuple #[xd, Value.int IntKind.i64 c], Value.agg #[Value.int IntKind.i64 T.lits, vF, vR, vB], vl, Value.tuple #[xd, Value.int IntKind.i64 c], xd, Value.int IntKind.i64 c, x37, x38, x39, x40, x41, x42, x43, x44, x45, x46, x47, x48, x49, x50, x51, x52, x53, x54, x55, x56, x57, x58, x59, x60, x61, x62, x63, x64, Value.bool false, undef, undef, undef, undef, undef, undef, undef, undef, undef, undef, undef, undef, undef, undef, undef, undef, undef, undef, undef], []⟩ w11) := hid (by
    intro x37 x38 x39 x40 x41 x42 x43 x44 x45 x46 x47 x48 x49 x50 x51 x52 x53 x54 x55 x56 x57 x58 x59 x60 x61 x62 x63 x64 w11 hb11
    refine HKB.out _ _ ?_
    have hq11 := ext_trans HQ8.out hb11
    obtain ⟨k0, k1⟩ := Hcb8.out w11 hb11
    clear HsA HsB HsC d0 d1 h88 HKB
    by_cases h : c = 0
    · subst h
      have hr := HR.out w11 hq11
      obtain ⟨a0, a1, a2, a3⟩ := Hbox2.out w11 hq11
      obtain ⟨b0, b1, b2, b3⟩ := Hbox.out w11 hr.2.2.2.2
      have Hs4 := hid (sameTh_self w11 _ _ T hr.1 hr.2.2.1)
      clear hr
      go_wp2_with fail
      refine HKA.out _ _ ?_
      go_wp2_with fail
      refine Hs4.out.mono ?_
      rintro e w14 ⟨_, rfl, rfl, hb14⟩
      have hq14 := ext_trans hq11 hb14
      have hr := HR.out w14 hq14
      have Hs5 := hid (sameIx w14 _ _ l hr.2.1 hr.2.2.2.1)
      clear a0 a1 a2 a3 b0 b1 b2 b3 Hs4 hr
      go_wp2_with fail
      refine Hs5.out.mono ?_
      rintro e w15 ⟨_, rfl, rfl, hb15⟩
      have hq15 := ext_trans hq14 hb15
      have Hal := hid (Hworks.out w15)
      clear Hs5
      go_wp2_with fail
      refine Hal.out.mono ?_
      rintro e w17 ⟨_, rfl, rfl, hb17⟩
      have hq17 := ext_trans hq15 hb17
      have hfin := (HR.out w17 hq17).2.2.2.2
      go_wp2_with fail
      go_ret
      exact Fin HQ ⟨rfl, ext_trans Hb1.out hfin⟩
    · have hne : (c != 0) = true := by simp [h]
      obtain rfl := Hu.out h
      have Hal := hid (Hworks.out w11)
      go_wp2_with fail
      refine HKA.out _ _ ?_
      go_wp2_with fail
      refine Hal.out.mono ?_
      rintro e w17 ⟨_, rfl, rfl, hb17⟩
      have hq17 := ext_trans hq11 hb17
      have hfin := (HR.out w17 hq17).2.2.2.2
      go_wp2_with fail
      go_ret
      exact Fin HQ ⟨rfl, ext_trans Hb1.out hfin⟩)
  clear HKA HKB HR Hbox2 Hbox Hworks HQ HQ8 Hu Hb1 HV2 Hb7 Hd Ha6 Hcb HT Hl Hrun Hcn Hrr Htot Hci HW1 HW5 HW8 hS hl8
  have HsAB : Hid (∀ W x, (x = xa ∨ x = xb) → Below w8.heap.size w8 W → Calls Try.prog 23 #[x, xd] W (Ret fun v w' => v = .bool true ∧ Below w8.heap.size w8 w')) := hid fun W x hx hW => by
    rcases hx with rfl | rfl
    · exact HsA.out W hW
    · exact HsB.out W hW
  clear HsA HsB
  have hdr : Below w8.heap.size w8 w8.drew := (ext_refl w8).drew
  clear d0 d1 h88
  go_region_held3 (fun W' : World => W'.cell? ⟨w7.heap.size, 0, none⟩ = some (.int .i64 (z : Int)) ∧ Below w8.heap.size w8 W')
    (exact ⟨(Hcb8.out _ (by assumption)).1, by assumption⟩)
    (first
    | (go_at_call 39; refine (Hnum.out _ _).mono ?_; rintro e w' ⟨_, rfl, rfl, hw9⟩; rw [hw9]; clear hw9 w')
    | (go_at_call 23; refine (HsAB.out _ _ (by first | exact .inl rfl | exact .inr rfl) (by first | assumption | exact (by assumption : _ ∧ Below w8.heap.size w8 _).2)).mono ?_; rintro e w9 ⟨_, rfl, rfl, hb9⟩)
    | (go_at_call 40; refine (HsC.out _ (by first | assumption | exact (by assumption : _ ∧ Below w8.heap.size w8 _).2)).mono ?_; rintro e w11 ⟨_, rfl, rfl, hb11⟩))
  all_goals
    show KB _ _
    exact HK.out _ _ _ _ _ _ _ _ _ _ _ _ _ _ _ _ _ _ _ _ _ _ _ _ _ _ _ _ _ (by first | assumption | exact (by assumption : _ ∧ Below w8.heap.size w8 _).2)
end Go.Proofs.Lx

namespace Go.Proofs.Lx
open Go Go.RowKit Go.Proofs.Tj
set_option linter.unusedSimpArgs false
set_option linter.unusedVariables false
def pairR : World → Nat × Nat → List Value → Prop := fun _ x cs => cs = [.int .i64 (x.1 : Int), .int .i64 (x.2 : Int)]
theorem pairR_mono : MonoR pairR := fun _ _ _ _ _ h => h
abbrev RdPr := Rd 2 pairR
theorem RdC.atPair {w : World} {A : Option Addr} {L : List (Nat × Nat)} (h : RdC 2 pairR w A L) {k q t : Nat} (hk : L[k]? = some (q, t)) : ∃ ad, A = some ad ∧ w.cell? (ad.add (k * 2)) = some (.int .i64 (q : Int)) ∧ w.cell? ⟨(ad.add (k * 2)).block, (ad.add (k * 2)).off + 1, none⟩ = some (.int .i64 (t : Int)) := by
  obtain ⟨hlt, e⟩ := List.getElem?_eq_some_iff.1 hk
  obtain ⟨ad, cs, hA, rfl, hl, hc⟩ := h k hlt
  rw [e] at hc
  have c0 := hc 0 _ rfl
  have c1 := hc 1 _ rfl
  rw [Nat.add_zero] at c0
  rw [add_field _ _ _ (by omega)] at c1
  exact ⟨ad, hA, c0, c1⟩
theorem own_pairs {w : World} {base eI : Nat} {v : Value} {L : List (Nat × Nat)} (h : w.ownsRow base eI 2 v L.length (toldV L)) (hl : L.length ≤ 140737488355328) : RdPr w v L := by
  rcases h.2 with ⟨rfl, h0⟩ | ⟨gg, cap, cur, rfl, _, _, hc, _⟩
  · exact ⟨none, 0, by rw [h0], by omega, hl, fun i hi => absurd hi (by omega)⟩
  · refine ⟨_, cap, rfl, hc, hl, fun i hi => ⟨_, _, rfl, rfl, rfl, fun j u hu => ?_⟩⟩
    obtain ⟨e0, e1⟩ := toldV_at L i _ _ (List.getElem?_eq_getElem hi)
    have hcl := fun k x hx => h.cells (g := gg) rfl k x hx
    match j, hu with
    | 0, hu =>
      simp at hu; subst hu
      have := hcl (2 * i) _ e0
      rwa [show i * 2 + 0 = 2 * i by omega]
    | 1, hu =>
      simp at hu; subst hu
      have := hcl (2 * i + 1) _ e1
      rwa [show i * 2 + 1 = 2 * i + 1 by omega]
def OrderPost (w : World) (T : Th) (l : List Int) (r : Value) (w' : World) : Prop :=
  ∃ v, r = .tuple #[v, .int .i64 (givenErr T l)] ∧ (givenErr T l = 0 → ∃ D, FRes T l D ∧ w'.ownsRow w.heap.size 112 2 v D.told.length (toldV D.told)) ∧ (givenErr T l ≠ 0 → v = .slice none 0 0) ∧ Below w.heap.size w w'
set_option maxHeartbeats 1600000 in
theorem forder_any (w : World) (V vl : Value) (T : Th) (l : List Int) (hT : RdTh w V T) (hl : RdI w vl l) :
    Calls Try.prog 43 #[V, vl] w (Ret (OrderPost w T l)) := by
  have HT := hid hT
  have Hl := hid hl
  obtain ⟨vF, vR, vB, rfl, hF, hR, hB⟩ := hT
  obtain ⟨AL, cL, rfl, _⟩ := hl
  generalize l.length = nl at *
  have hA := allocs [.cells #[.int .i64 T.lits, vF, vR, vB] 25, .cells #[.slice AL nl cL] 26] w
  obtain ⟨W1, HW1⟩ : ∃ W1, Hid (W1 = (w.alloc (.cells #[.int .i64 T.lits, vF, vR, vB] 25)).alloc (.cells #[.slice AL nl cL] 26)) := ⟨_, hid rfl⟩
  have e1 : [Obj.cells #[.int .i64 T.lits, vF, vR, vB] 25, .cells #[.slice AL nl cL] 26].foldl World.alloc w = W1 := HW1.out.symm
  rw [e1] at hA
  obtain ⟨hsz, hat, hbel⟩ := hA
  have hsz : W1.heap.size = w.heap.size + 2 := hsz
  have hg := fgiven_any W1 (.agg #[.int .i64 T.lits, vF, vR, vB]) (.slice (some ⟨w.heap.size + 1, 0, none⟩) 1 1) T [l] (HT.out.ext hbel) (rd_row1 (hat 1 _ rfl) (Hl.out.ext (scR_mono _) hbel))
  rw [givenErrs_one] at hg
  have Hg := hid hg
  have Hrun : Hid (givenErr T l = 0 → ∀ W, Below W1.heap.size W1 W → Calls Try.prog 71 #[.agg #[.int .i64 T.lits, vF, vR, vB], .slice AL nl cL] W (Ret (RunRes W T l))) := hid fun h W hb => frun_any W _ _ T l (HT.out.ext (ext_trans hbel hb)) (Hl.out.ext (scR_mono _) (ext_trans hbel hb)) (givenErr_ok.1 h).1 (givenErr_ok.1 h).2
  have Hbox : Hid (∀ W, Below W1.heap.size W1 W → W.cell? ⟨w.heap.size, 0, none⟩ = some (.int .i64 T.lits) ∧ W.cell? ⟨w.heap.size, 1, none⟩ = some vF ∧ W.cell? ⟨w.heap.size, 2, none⟩ = some vR ∧ W.cell? ⟨w.heap.size, 3, none⟩ = some vB) := hid fun W hb => by
    have h0 : W.heap[w.heap.size]? = some (.cells #[.int .i64 T.lits, vF, vR, vB] 25 (0, 0)) := (hb.block _ (by omega)).trans (hat 0 _ rfl)
    exact ⟨cell_of_row _ _ 0 _ _ _ h0, cell_of_row _ _ 1 _ _ _ h0, cell_of_row _ _ 2 _ _ _ h0, cell_of_row _ _ 3 _ _ _ h0⟩
  have Hbel := hid hbel
  clear hF hR hB hg hat hsz hbel e1
  unfold OrderPost
  obtain ⟨c, Hc⟩ : ∃ c, Hid (givenErr T l = c) := ⟨_, hid rfl⟩
  rw [Hc.out] at Hg Hrun ⊢
  refine post_gen fun Q HQ => ?_
  go_enter Try.func43, Try.ntmps43
  go_wp2_with fail
  rw [← HW1.out]
  refine Hg.out.mono ?_
  rintro e w2 ⟨_, rfl, rfl, hb2⟩
  have Hb2 := hid hb2
  by_cases h : c = 0
  · subst h
    obtain ⟨b0, b1, b2, b3⟩ := Hbox.out w2 hb2
    have hq := hid (Hrun.out rfl w2 hb2)
    clear hb2
    go_wp2_with fail
    refine hq.out.mono ?_
    rintro e w3 ⟨_, rfl, hres⟩
    obtain ⟨b, D, vM, vT, rfl, he, hfr, S, hfe⟩ := hres.flat
    have hb3 := hid (ext_trans Hb2.out he.bel)
    have c5 := he.c5
    have He := hid he
    have Hfr := hid hfr
    clear hres he hfr hfe hq
    go_wp2_with fail
    go_ret2
    exact Fin HQ ⟨_, rfl, fun _ => ⟨D, Hfr.out, own_lower He.out.tow (ext_trans Hbel.out Hb2.out).size⟩, fun k => absurd rfl k, ext_trans Hbel.out hb3.out⟩
  · have hne : (c != 0) = true := by simp [h]
    have Hne := hid h
    clear h hb2
    go_wp2_with fail
    go_ret2
    exact Fin HQ ⟨_, rfl, fun k => absurd k Hne.out, fun _ => rfl, ext_trans Hbel.out Hb2.out⟩
end Go.Proofs.Lx

namespace Go.Proofs.Lx
open Go Go.RowKit Go.Proofs.Tj
set_option linter.unusedSimpArgs false
set_option linter.unusedVariables false
def upM (M : List Nat) (x : Nat × Nat) : List Nat := M.set x.1 (M.getD x.1 0 ||| 2 ^ (x.2 - 1))
def mkT (n : Nat) (L : List (Nat × Nat)) : List Nat := L.foldl upM (List.replicate n 0)
theorem mkT_snoc (n : Nat) (L : List (Nat × Nat)) (x : Nat × Nat) : mkT n (L ++ [x]) = upM (mkT n L) x := by unfold mkT; rw [List.foldl_append]; rfl
structure MkIn (n : Nat) (M : List Nat) (L : List (Nat × Nat)) : Prop where
  len : M.length = n
  has : ∀ q k, q < n → k < 4 → (hasM M k (q : Int) = true ↔ (q, k + 1) ∈ L)
  lt : ∀ x ∈ M, x < 256
theorem MkIn.up {n : Nat} {M : List Nat} {L : List (Nat × Nat)} (h : MkIn n M L) {q t : Nat} (hq : q < n) (h1 : 1 ≤ t) (h4 : t ≤ 4) : MkIn n (upM M (q, t)) (L ++ [(q, t)]) := by
  have hqM : q < M.length := by rw [h.len]; exact hq
  have hg : ∀ a, a < n → (upM M (q, t)).getD a 0 = if a = q then M.getD q 0 ||| 2 ^ (t - 1) else M.getD a 0 := fun a ha => by
    unfold upM
    rw [List.getD_eq_getElem?_getD, List.getElem?_set, List.getD_eq_getElem?_getD, List.getD_eq_getElem?_getD]
    by_cases e : a = q
    · subst e; rw [if_pos rfl, if_pos rfl, if_pos hqM]; rfl
    · rw [if_neg (fun k => e k.symm), if_neg e]
  refine ⟨by unfold upM; rw [List.length_set, h.len], fun a k ha hk => ?_, fun x hx => ?_⟩
  · have h2 := h.has a k ha hk
    unfold hasM at *
    rw [Int.toNat_natCast] at *
    rw [hg a ha, List.mem_append, List.mem_singleton, ← h2]
    by_cases e : a = q
    · subst e
      rw [if_pos rfl, Nat.testBit_or, Bool.or_eq_true, Nat.testBit_two_pow]
      refine or_congr Iff.rfl ?_
      rw [decide_eq_true_eq]
      constructor
      · intro e; rw [Prod.mk.injEq]; exact ⟨rfl, by omega⟩
      · intro e; have := (Prod.mk.inj e).2; omega
    · rw [if_neg e]
      refine ⟨.inl, fun k => k.elim id fun k => absurd (Prod.mk.inj k).1 e⟩
  · unfold upM at hx
    rcases List.mem_or_eq_of_mem_set hx with hx | rfl
    · exact h.lt x hx
    · refine Nat.or_lt_two_pow (n := 8) ?_ (Nat.pow_lt_pow_right (by omega) (by omega))
      rw [List.getD_eq_getElem?_getD, List.getElem?_eq_getElem hqM]
      exact h.lt _ (List.getElem_mem hqM)
theorem mkT_in {n : Nat} {L : List (Nat × Nat)} (hm : ∀ q t, (q, t) ∈ L → q < n ∧ 1 ≤ t ∧ t ≤ 4) : ∀ i, i ≤ L.length → MkIn n (mkT n (L.take i)) (L.take i)
  | 0, _ => by
    refine ⟨by simp [mkT], fun q k hq hk => ?_, fun x hx => ?_⟩
    · have : (List.replicate n 0).getD q 0 = 0 := by rw [List.getD_eq_getElem?_getD]; simp [hq]
      show ((List.replicate n 0).getD q 0).testBit k = true ↔ (q, k + 1) ∈ ([] : List (Nat × Nat))
      rw [this]; simp
    · unfold mkT at hx
      have := List.eq_of_mem_replicate hx; omega
  | i + 1, hi => by
    have ih := mkT_in hm i (by omega)
    have hlt : i < L.length := by omega
    obtain ⟨x, hx⟩ : ∃ x, L[i] = x := ⟨_, rfl⟩
    obtain ⟨q, t⟩ := x
    obtain ⟨h1, h2, h3⟩ := hm q t (by rw [← hx]; exact List.getElem_mem hlt)
    rw [List.take_succ_eq_append_getElem hlt, hx, mkT_snoc]
    exact ih.up h1 h2 h3
theorem NR.tr {w w' : World} {b g : Nat} {e : TypeId} {X : List Nat} {T : Th} {l : List Int} {RL : List (List Int)} (h : NR w b T l RL) (ha : Arr (fun x : Nat => Value.int .u8 (x : Int)) e w g X) (hk : ∀ k, k ≠ g → w'.heap[k]? = w.heap[k]?) : NR w' b T l RL := by
  have ha : w.heap[g]? = some (.cells (X.map fun x : Nat => Value.int .u8 (x : Int)).toArray e (0, 0)) := ha
  have hc : ∀ a v, (∀ x, v ≠ Value.int .u8 x) → w.cell? a = some v → w'.cell? a = some v := fun a v hv hcl => by
    by_cases hb : a.block = g
    · exfalso
      unfold World.cell? at hcl
      rw [hb, ha] at hcl
      dsimp only at hcl
      split at hcl
      · cases hcl
      · rw [List.getElem?_toArray, List.getElem?_map] at hcl
        cases hx : X[a.off]? with
        | none => rw [hx] at hcl; cases hcl
        | some x => rw [hx] at hcl; exact hv _ (Option.some.inj hcl).symm
    · exact (World.cell?_of_block (hk _ hb)).trans hcl
  have h1 : ∀ {v : Value} {xs : List Int}, RdI w v xs → RdI w' v xs := fun {v xs} ⟨A, c, e, h1, h2, h3⟩ => ⟨A, c, e, h1, h2, fun i hi => by
    obtain ⟨ad, cs, hA, hr, hl, hcs⟩ := h3 i hi
    refine ⟨ad, cs, hA, hr, hl, fun j u hu => hc _ _ (fun x hx => ?_) (hcs j u hu)⟩
    subst hx
    have hr : cs = [Value.int .i64 xs[i]] := hr
    rw [hr] at hu
    match j, hu with
    | 0, hu => simp at hu⟩
  have h2 : ∀ {v : Value} {xs : List (List Int)}, RdLL w v xs → RdLL w' v xs := fun {v xs} ⟨A, c, e, k1, k2, h3⟩ => ⟨A, c, e, k1, k2, fun i hi => by
    obtain ⟨ad, cs, hA, hr, hl, hcs⟩ := h3 i hi
    obtain ⟨v2, rfl, hv2⟩ := hr
    refine ⟨ad, [v2], hA, ⟨v2, rfl, h1 hv2⟩, rfl, fun j u hu => hc _ _ (fun x hx => ?_) (hcs j u hu)⟩
    subst hx
    obtain ⟨A2, c2, rfl, _⟩ := hv2
    match j, hu with
    | 0, hu => simp at hu⟩
  obtain ⟨vF, vR, vB, vl, vRu, hh, g1, g2, g3, g4, g5⟩ := h.ex
  refine ⟨vF, vR, vB, vl, vRu, ?_, h2 g1, ?_, h2 g3, h1 g4, h2 g5⟩
  · rw [hk b ?_]; · exact hh
    intro e2
    rw [e2, ha] at hh
    have := (Obj.cells.inj (Option.some.inj hh)).1
    have h0 := congrArg (fun (a : Array Value) => a[0]?) this
    simp at h0
  · obtain ⟨A, c, e, k1, k2, h3⟩ := g2
    refine ⟨A, c, e, k1, k2, fun i hi => ?_⟩
    obtain ⟨ad, cs, hA, hr, hl, hcs⟩ := h3 i hi
    obtain ⟨v2, rfl, hv2⟩ := hr
    refine ⟨ad, _, hA, ⟨v2, rfl, h1 hv2⟩, rfl, fun j u hu => hc _ _ (fun x hx => ?_) (hcs j u hu)⟩
    subst hx
    obtain ⟨A2, c2, rfl, _⟩ := hv2
    match j, hu with
    | 0, hu => simp at hu
    | 1, hu => simp at hu
    | 2, hu => simp at hu
end Go.Proofs.Lx

namespace Go.Proofs.Lx
open Go Go.RowKit Go.Proofs.Tj
set_option linter.unusedSimpArgs false
set_option linter.unusedVariables false
set_option maxRecDepth 100000 in
set_option maxHeartbeats 3200000 in
theorem isorder_any (w : World) (V vl vp : Value) (T : Th) (l : List Int) (L : List (Nat × Nat)) (hT : RdTh w V T) (hl : RdI w vl l) (hp : RdPr w vp L) (hwf : WfTh T) (hr : risB l T.lits = true) (hlen : L.length = totalN (solveM T l)) (hnd : L.Nodup) (hm : ∀ q t, (q, t) ∈ L → q < T.foes.length ∧ 1 ≤ t ∧ t ≤ 4)
    (hord : ∀ (i q tag : Nat), L[i]? = some (q, tag) → ∀ M : List Nat, (∀ q' t', (q', t') ∈ L.take i → hasM M (t' - 1) (q' : Int) = true) → cnd T (factsB T.foes.length l) (rulesRows T.rules T.foes.length T.rules.length) M (tag - 1) (q : Int) = true) :
    Calls Try.prog 44 #[V, vl, vp] w (Ret fun v w' => v = .bool true ∧ Below w.heap.size w w') := by
  have hfl := hwf.fl
  have h4 : T.foes.length ≤ 4096 := by have := hwf.l1; omega
  have HT := hid hT
  have Hl := hid hl
  have hc : givenErr T l = 0 := givenErr_ok.2 ⟨hwf, hr⟩
  obtain ⟨vF, vR, vB, rfl, hF, hR, hB⟩ := hT
  obtain ⟨AP, cP, rfl, hcP, hbP, hrP⟩ := hp
  have Hpr : Hid (∀ W, Below w.heap.size w W → ∀ (i q t : Nat), L[i]? = some (q, t) → ∃ ad, AP = some ad ∧ W.cell? (ad.add (i * 2)) = some (.int .i64 (q : Int)) ∧ W.cell? ⟨(ad.add (i * 2)).block, (ad.add (i * 2)).off + 1, none⟩ = some (.int .i64 (t : Int))) := hid fun W hW i q t hi => (hrP.ext pairR_mono hW).atPair hi
  have HM := hid (mkT_in hm)
  have Hmem := hid hm
  have Hord := hid hord
  have Hnot : Hid (∀ (i q t : Nat), L[i]? = some (q, t) → (q, t) ∉ L.take i) := hid fun i q t hi => not_before hnd hi (Nat.le_refl _)
  have Hwh : Hid (∀ (W : World) (b : Nat) (vm : Value) (M : List Nat), NR W b T l (rulesRows T.rules T.foes.length T.rules.length) → RdMk W vm M → M.length = T.foes.length → (∀ x ∈ M, x < 256) → ∀ q : Nat, q < T.foes.length → ∀ k, k < 4 → Calls Try.prog 63 #[.pointer (some ⟨b, 0, none⟩), vm, .int .i64 ((k + 1 : Nat) : Int), .int .i64 (q : Int)] W (Dr W (cnd T (factsB T.foes.length l) (rulesRows T.rules T.foes.length T.rules.length) M k (q : Int)))) := hid fun W b vm M h1 h2 h3 h4 q hq k hk =>
    wholds15_any W b T l _ M vm h1 h2 (nval hwf l M h3 h4) (q : Int) (by omega) (by omega) ((k + 1 : Nat) : Int) k hk (by omega)
  obtain ⟨W1, HW1⟩ : ∃ W1, Hid (W1 = w.alloc (.cells #[.int .i64 T.lits, vF, vR, vB] 25)) := ⟨_, hid rfl⟩
  have hb1 : Below w.heap.size w W1 := by rw [HW1.out]; exact ext_alloc _ _
  have Hbox : Hid (∀ W, Below W1.heap.size W1 W → W.cell? ⟨w.heap.size, 0, none⟩ = some (.int .i64 (T.foes.length : Int)) ∧ W.cell? ⟨w.heap.size, 1, none⟩ = some vF ∧ W.cell? ⟨w.heap.size, 2, none⟩ = some vR ∧ W.cell? ⟨w.heap.size, 3, none⟩ = some vB) := hid fun W h => by rw [HW1.out] at h; have := box4 h; rw [hfl]; exact this
  have HT2 : Hid (RdTh w (.agg #[.int .i64 (T.foes.length : Int), vF, vR, vB]) T) := hid (by rw [hfl]; exact HT.out)
  have Hrd : Hid (∀ W, Below W1.heap.size W1 W → RdTh W (.agg #[.int .i64 (T.foes.length : Int), vF, vR, vB]) T ∧ RdI W vl l) := hid fun W h => ⟨HT2.out.ext (ext_trans hb1 h), Hl.out.ext (scR_mono _) (ext_trans hb1 h)⟩
  have Hrr : Hid (∀ W V' l', RdTh W V' T → RdI W l' l → Calls Try.prog 38 #[V', l'] W (Ret (MkPost W (solX T l) (givenErr T l)))) := hid fun W V' l' h1 h2 =>
    (run16_any W V' l' T l h1 h2).mono fun e w' h => h.mono fun v w' h => FRunPost.marks h
  have Htot : Hid (∀ W v, RdMk W v (solX T l) → Calls Try.prog 40 #[v] W (Ret fun v w' => v = .int .i64 (totalN (solX T l) : Int) ∧ Below W.heap.size W w')) := hid fun W v h => total_any W v _ h solX_lt
  have hz : totalN (solX T l) = L.length := by unfold solX; rw [if_pos hc, hlen]
  rw [hc] at Hrr
  rw [hz] at Htot
  have Hnw : Hid (∀ W, Below W1.heap.size W1 W → Calls Try.prog 62 #[.agg #[.int .i64 (T.foes.length : Int), vF, vR, vB], vl] W (Ret fun r w' => ∃ b, r = .pointer (some ⟨b, 0, none⟩) ∧ NR w' b T l (rulesRows T.rules T.foes.length T.rules.length) ∧ Below W.heap.size W w')) := hid fun W h => newWorld15_any W _ vl T l (Hrd.out W h).1 hwf (Hrd.out W h).2
  unfold MkPost at Hrr
  have Hb1 := hid hb1
  rw [← hfl] at HW1 ⊢
  clear hF hR hB hl hc hz hrP hb1 HT hord hm hwf hr hlen hnd hfl
  obtain ⟨i0, hi, hz0, hz1, hz2⟩ := info_parts infoM
  have hmk : ∀ W : World, (Instr.makeSlice 28 (.int .i64 (T.foes.length : Int)) (.int .i64 (T.foes.length : Int))).run Try.prog W = .ok (.slice (some ⟨W.heap.size, 0, none⟩) T.foes.length T.foes.length) (W.alloc (.cells (madeCells #[.int .u8 0] T.foes.length) 33)) := fun W => run_make_row' _ _ _ 1 Try.underlying28 infoM rfl .i64 .i64 T.foes.length (by omega) (by omega) W
  generalize hnn : T.foes.length = n at *
  have Hnn := hid hnn
  clear hnn
  generalize hll : L.length = nl at *
  have Hll := hid hll
  clear hll
  refine post_gen fun Q HQ => ?_
  go_enter Try.func44, Try.ntmps44
  obtain ⟨a0, a1, a2, a3⟩ := Hbox.out W1 (ext_refl W1)
  rw [HW1.out] at a0 a1 a2 a3
  have Hc := hid (Hrr.out W1 _ _ (Hrd.out W1 (ext_refl _)).1 (Hrd.out W1 (ext_refl _)).2)
  go_wp2_with fail
  rw [← HW1.out]
  refine Hc.out.mono ?_
  rintro e w2 ⟨_, rfl, xa, rfl, ha, hb2⟩
  clear Hc a0 a1 a2 a3
  have Ht := hid (Htot.out w2 xa ha)
  clear ha
  go_wp2_with fail
  refine Ht.out.mono ?_
  rintro e w3 ⟨_, rfl, rfl, hb3⟩
  have hb13 := ext_trans hb2 hb3
  clear Ht
  obtain ⟨a0, a1, a2, a3⟩ := Hbox.out w3 hb13
  have hw4 := hid (ext_trans hb13 (ext_alloc w3 (.cells (madeCells #[.int .u8 0] n) 33)))
  have hb4 := Hbox.out _ hw4.out
  obtain ⟨W4, HW4⟩ : ∃ W4, Hid (W4 = w3.alloc (.cells (madeCells #[.int .u8 0] n) 33)) := ⟨_, hid rfl⟩
  have Hc := hid (Hnw.out _ hw4.out)
  rw [← HW4.out] at hb4 hw4 Hc
  have hzz : ((nl : Int) != (nl : Int)) = false := by simp
  obtain ⟨g0, g1, g2, g3⟩ := hb4
  rw [HW4.out] at g0 g1 g2 g3
  go_wp2_with fail
  rw [← HW4.out]
  refine Hc.out.mono ?_
  rintro e w5 ⟨_, rfl, b, rfl, hnr, hb5⟩
  have harr : Arr (fun x : Nat => Value.int .u8 (x : Int)) 33 w5 w3.heap.size (mkT n (L.take 0)) := by
    have h0 := made_arr (fun x : Nat => Value.int .u8 (x : Int)) 0 33 w3 n
    have h1 : Arr (fun x : Nat => Value.int .u8 (x : Int)) 33 W4 w3.heap.size (List.replicate n 0) := by rw [HW4.out]; exact h0
    exact h1.ext hb5
  have hb35 : Below w3.heap.size w3 w5 := by
    have h0 : Below w3.heap.size w3 W4 := by rw [HW4.out]; exact ext_alloc _ _
    exact ext_trans h0 hb5
  have Hst := hid (And.intro harr (And.intro hnr hb35))
  have HB13 := hid hb13
  clear harr hnr hb35 hb5 Hc hw4 g0 g1 g2 g3 a0 a1 a2 a3 hb13 hb2 hb3 HW4 HW1 Hrr Htot Hnw hmk hi hz0 hz1 hz2
  go_wp2
  go_loopw [11] (fun v11 wr => ∃ i : Nat, i ≤ nl ∧ v11 = .int .i64 i ∧ Arr (fun x : Nat => Value.int .u8 (x : Int)) 33 wr w3.heap.size (mkT n (L.take i)) ∧ NR wr b T l (rulesRows T.rules n T.rules.length) ∧ Below w3.heap.size w3 wr) (fun v11 _ => nl - (intOf v11).toNat)
  case atStart => exact ⟨0, Nat.zero_le _, rfl, Hst.out⟩
  case round =>
    clear Hst
    obtain ⟨i, hi, rfl, harr, hnr, hbl⟩ := hrel
    have hbW := ext_trans HB13.out hbl
    by_cases hlt : i < nl
    · have hil : i < L.length := by rw [Hll.out]; exact hlt
      obtain ⟨q, t, hqt⟩ : ∃ q t, L[i]? = some (q, t) := ⟨L[i].1, L[i].2, by rw [List.getElem?_eq_getElem hil]⟩
      obtain ⟨hqn, ht1, ht4⟩ := Hmem.out q t (List.mem_of_getElem? hqt)
      obtain ⟨k, rfl⟩ : ∃ k, t = k + 1 := ⟨t - 1, by omega⟩
      obtain ⟨ad, rfl, hcq, hct⟩ := Hpr.out wr (ext_trans Hb1.out hbW) i q (k + 1) hqt
      obtain ⟨b0, b1, b2, b3⟩ := Hbox.out wr hbW
      have hin := HM.out i (by omega)
      have hnew : mkT n (L.take (i + 1)) = upM (mkT n (L.take i)) (q, k + 1) := by
        have e : L.take (i + 1) = L.take i ++ [(q, k + 1)] := by rw [List.take_add_one, hqt]; rfl
        rw [e, mkT_snoc]
      have hcd := Hord.out i q (k + 1) hqt (mkT n (L.take i)) (fun q' t' hm' => by
        obtain ⟨a1, a2, a3⟩ := Hmem.out q' t' (List.mem_of_mem_take hm')
        have := (hin.has q' (t' - 1) a1 (by omega)).2 (by rw [show t' - 1 + 1 = t' by omega]; exact hm')
        exact this)
      have hno : hasM (mkT n (L.take i)) k (q : Int) = false := by
        rw [Bool.eq_false_iff]; intro hh
        exact Hnot.out i q (k + 1) hqt ((hin.has q k hqn (by omega)).1 hh)
      generalize mkT n (L.take i) = M at *
      have Hnew := hid hnew
      have hqM : q < M.length := by rw [hin.len]; exact hqn
      have hx8 : M[q] < 256 := hin.lt _ (List.getElem_mem hqM)
      have hgd : M.getD q 0 = M[q] := by simp [hqM]
      have hcell := harr.cell (i := q) hqM
      have hfr := harr.free q
      have hno2 : M[q].testBit k = false := by unfold hasM at hno; rw [Int.toNat_natCast, hgd] at hno; exact hno
      have Hup : Hid (upM M (q, k + 1) = M.set q (M[q] ||| 2 ^ k)) := hid (by show M.set q (M.getD q 0 ||| 2 ^ (k + 1 - 1)) = _; rw [hgd]; rfl)
      have hk4 : k < 4 := by omega
      have Hholds : Hid (Calls Try.prog 63 #[.pointer (some ⟨b, 0, none⟩), .slice (some ⟨w3.heap.size, 0, none⟩) n n, .int .i64 ((k + 1 : Nat) : Int), .int .i64 (q : Int)] wr.drew (fun e w' => e = .returned (.bool true) ∧ ∃ m, w' = wr.drew.drewN m)) := hid (by
        have hrm : RdMk wr.drew (.slice (some ⟨w3.heap.size, 0, none⟩) n n) M := by
          have := harr.drew.reads (by rw [hin.len]; omega) n (by rw [hin.len]; exact Nat.le_refl _)
          rw [hin.len] at this; exact this
        have := Hwh.out wr.drew b _ M (hnr.ext (ext_refl wr).drew) hrm hin.len hin.lt q hqn k hk4
        rw [show cnd T (factsB n l) (rulesRows T.rules n T.rules.length) M k (q : Int) = true from hcd] at this
        exact this)
      generalize hX : M[q] = x at *
      have HHas : Hid (∀ W, Calls Try.prog 73 #[.int .u8 (x : Int), .int .i64 ((k + 1 : Nat) : Int)] W (fun e w' => e = .returned (.bool false) ∧ w' = W)) := hid fun W => by
        have := has16_plain x hx8 ((k + 1 : Nat) : Int) k hk4 (by omega) W
        rw [hno2] at this; exact this
      have HBit := hid (fun W => bit15_plain ((k : Int) + 1) k hk4 rfl W)
      have hor := bit_or x hx8 k hk4
      have Hin := hid hin
      have Harr := hid harr
      have Hnr := hid hnr
      clear hin harr hnr hnew hcd hno hno2 hgd hX hqM hqt
      generalize hzz2 : 2 ^ k = z at *
      clear hzz2
      go_wp2
      go_region
      go_wp2_with (first
        | (go_at_call 73; refine (HHas.out _).mono ?_; rintro e w' ⟨rfl, rfl⟩)
        | (go_at_call 63; refine Hholds.out.mono ?_; rintro e w' ⟨rfl, m9, rfl⟩))
      go_region_with (go_at_call 74; refine (HBit.out _).mono ?_; rintro e w' ⟨rfl, rfl⟩)
      all_goals
        go_wp2_with fail
        go_roundw
        case rel =>
          refine ⟨i + 1, by omega, by go_num, ?_, ?_, ?_⟩
          · rw [Hnew.out, Hup.out]
            exact (Arr.drewN Harr.out _).set q _
          · exact (Hnr.out.ext (ext_drewN wr _)).tr (Arr.drewN Harr.out _) fun j hj => heap_setCell_other _ _ j _ (by simpa using hj)
          · exact (below_drewN hbl _).setCell (Nat.le_refl _) _
        case measure => simp [intOf]; omega
    · go_wp2
      go_ret
      exact Fin HQ ⟨rfl, ext_trans Hb1.out hbW⟩
set_option maxHeartbeats 1600000 in
theorem lawOrder_any (w : World) (V vl : Value) (T : Th) (l : List Int) (hT : RdTh w V T) (hl : RdI w vl l) :
    Calls Try.prog 14 #[V, vl] w (Ret fun v w' => v = .bool true ∧ Below w.heap.size w w') := by
  have HT := hid hT
  have Hl := hid hl
  obtain ⟨vF, vR, vB, rfl, hF, hR, hB⟩ := hT
  obtain ⟨W1, HW1⟩ : ∃ W1, Hid (W1 = w.alloc (.cells #[.int .i64 T.lits, vF, vR, vB] 25)) := ⟨_, hid rfl⟩
  have hb1 : Below w.heap.size w W1 := by rw [HW1.out]; exact ext_alloc _ _
  have Hbox : Hid (∀ W, Below W1.heap.size W1 W → W.cell? ⟨w.heap.size, 0, none⟩ = some (.int .i64 T.lits) ∧ W.cell? ⟨w.heap.size, 1, none⟩ = some vF ∧ W.cell? ⟨w.heap.size, 2, none⟩ = some vR ∧ W.cell? ⟨w.heap.size, 3, none⟩ = some vB) := hid fun W h => by rw [HW1.out] at h; exact box4 h
  have Hrd : Hid (∀ W, Below W1.heap.size W1 W → RdTh W (.agg #[.int .i64 T.lits, vF, vR, vB]) T ∧ RdI W vl l) := hid fun W h => ⟨HT.out.ext (ext_trans hb1 h), Hl.out.ext (scR_mono _) (ext_trans hb1 h)⟩
  have Hw := hid works_any
  have Hnum := hid num16_any
  have Ho : Hid (∀ W V' l', RdTh W V' T → RdI W l' l → Calls Try.prog 43 #[V', l'] W (Ret (OrderPost W T l))) := hid fun W V' l' h1 h2 => forder_any W V' l' T l h1 h2
  have Hrr : Hid (∀ W V' l', RdTh W V' T → RdI W l' l → Calls Try.prog 38 #[V', l'] W (Ret (MkPost W (solX T l) (givenErr T l)))) := hid fun W V' l' h1 h2 =>
    (run16_any W V' l' T l h1 h2).mono fun e w' h => h.mono fun v w' h => FRunPost.marks h
  have His : Hid (givenErr T l = 0 → ∀ W V' l' vp D, RdTh W V' T → RdI W l' l → FRes T l D → RdPr W vp D.told → Calls Try.prog 44 #[V', l', vp] W (Ret fun v w' => v = .bool true ∧ Below W.heap.size W w')) := hid fun hc W V' l' vp D h1 h2 h3 h4 =>
    isorder_any W V' l' vp T l D.told h1 h2 h4 (givenErr_ok.1 hc).1 (givenErr_ok.1 hc).2 h3.len h3.ti.nd h3.ti.mem h3.ord
  have Hlen : Hid (givenErr T l = 0 → ∀ D, FRes T l D → D.told.length ≤ 140737488355328) := hid fun hc D h => by
    have h1 := told_length_le h.ti
    have := (givenErr_ok.1 hc).1.fl; have := (givenErr_ok.1 hc).1.l1; omega
  unfold MkPost at Hrr
  unfold OrderPost at Ho
  have Hb1 := hid hb1
  clear hF hR hB hl hb1
  generalize givenErr T l = c at *
  generalize solX T l = Y at *
  have hcc : (c == c) = true := by simp
  have hcn : (c != c) = false := by simp
  refine post_gen fun Q HQ => ?_
  go_enter Try.func14, Try.ntmps14
  have hb2 := ext_refl W1
  obtain ⟨a0, a1, a2, a3⟩ := Hbox.out W1 hb2
  rw [HW1.out] at a0 a1 a2 a3
  have Hc := hid (Ho.out W1 _ _ (Hrd.out W1 hb2).1 (Hrd.out W1 hb2).2)
  go_wp2_with fail
  rw [← HW1.out]
  refine Hc.out.mono ?_
  rintro e w3 ⟨_, rfl, xa, rfl, ha, hz, hb3⟩
  have hb13 := ext_trans hb2 hb3
  clear Hc a0 a1 a2 a3
  have Ha := hid ha; clear ha
  have Hz := hid hz; clear hz
  obtain ⟨a0, a1, a2, a3⟩ := Hbox.out w3 hb13
  have Hc := hid (Hrr.out w3 _ _ (Hrd.out w3 hb13).1 (Hrd.out w3 hb13).2)
  go_wp2_with fail
  refine Hc.out.mono ?_
  rintro e w4 ⟨_, rfl, xb, rfl, hb, hb4⟩
  have hb14 := ext_trans hb13 hb4
  clear Hc a0 a1 a2 a3 hb
  by_cases h : c = 0
  · subst h
    obtain ⟨D, hD, hown⟩ := Ha.out rfl
    have hpr := (own_pairs hown (Hlen.out rfl D hD)).ext pairR_mono hb4
    obtain ⟨a0, a1, a2, a3⟩ := Hbox.out w4 hb14
    have Hc := hid (His.out rfl w4 _ _ xa D (Hrd.out w4 hb14).1 (Hrd.out w4 hb14).2 hD hpr)
    clear hpr hown hD
    go_wp2_with (go_at_call 39; refine (Hnum.out _ _).mono ?_; rintro e w' ⟨_, rfl, rfl, hw9⟩; rw [hw9]; clear hw9 w')
    refine Hc.out.mono ?_
    rintro e w5 ⟨_, rfl, rfl, hb5⟩
    have hb15 := ext_trans hb14 hb5
    go_wp2_with fail
    refine (Hw.out w5).mono ?_
    rintro e w6 ⟨_, rfl, rfl, hb6⟩
    go_wp2_with fail
    go_ret
    exact Fin HQ ⟨rfl, ext_trans Hb1.out (ext_trans hb15 hb6)⟩
  · have hne : (c != 0) = true := by simp [h]
    obtain rfl := Hz.out h
    go_wp2_with (go_at_call 39; refine (Hnum.out _ _).mono ?_; rintro e w' ⟨_, rfl, rfl, hw9⟩; rw [hw9]; clear hw9 w')
    refine (Hw.out w4).mono ?_
    rintro e w6 ⟨_, rfl, rfl, hb6⟩
    go_wp2_with fail
    go_ret
    exact Fin HQ ⟨rfl, ext_trans Hb1.out (ext_trans hb14 hb6)⟩
end Go.Proofs.Lx
