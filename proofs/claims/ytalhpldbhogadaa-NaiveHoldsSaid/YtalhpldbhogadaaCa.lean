/- Contracts of small library functions: slices.IndexFunc, ContainsFunc, Index, Contains over []int; cmp.Less, BinarySearch. No condition but what each says. -/
import Derived.Test.YtalhpldbhogadaaProg
import Derived.Test.YtalhpldbhogadaaLa
namespace Go.Proofs.Lx
open Go Go.RowKit

def idxOf (p : Int → Bool) (xs : List Int) : Int := match xs.findIdx? p with | some i => i | none => -1
theorem idxOf_nonneg (p : Int → Bool) (xs : List Int) : decide (0 ≤ idxOf p xs) = xs.any p := by
  unfold idxOf
  cases h : xs.findIdx? p with
  | none =>
    rw [List.findIdx?_eq_none_iff] at h
    simp only [Int.reduceNeg, show ¬ ((0 : Int) ≤ -1) by decide, decide_false]
    symm
    rw [List.any_eq_false]
    exact fun x hx => by simp [h x hx]
  | some i =>
    rw [List.findIdx?_eq_some_iff_getElem] at h
    obtain ⟨hi, hp, _⟩ := h
    simp only [Int.natCast_nonneg, decide_true]
    symm
    rw [List.any_eq_true]
    exact ⟨xs[i], List.getElem_mem hi, hp⟩

/-- What a function value over an int does: it answers p and turns nothing that is there. -/
def FunB (P : Program) (w : World) (g : Nat) (caps : Array Value) (p : Int → Bool) (x : Int) : Prop :=
  ∀ w1, Below w.heap.size w w1 → Calls P g ((#[Value.int .i64 x] : Array Value) ++ caps) w1 (Ret fun v w2 => v = .bool (p x) ∧ Below w1.heap.size w1 w2)

theorem indexFunc (w : World) (v : Value) (xs : List Int) (g : Nat) (caps : Array Value) (p : Int → Bool)
   (hg : Enters Try.prog g) (hv : RdI w v xs) (hf : ∀ x ∈ xs, FunB Try.prog w g caps p x) :
   Calls Try.prog 157 #[v, .func (.func g) #[] caps] w (Ret fun v w' => v = .int .i64 (idxOf p xs) ∧ Below w.heap.size w w') := by
  obtain ⟨A, c, rfl, hc, hb, hr⟩ := hv
  have hgo : ∀ args w, (callFunc g args).run Try.prog w = .ok (.enter g args) w := hg
  have Hf := hid hf
  clear hf
  go_enter Try.func157, Try.ntmps157
  go_wp2
  go_loopw [8] (fun v8 wr => ∃ k : Nat, k ≤ xs.length ∧ v8 = .int .i64 k ∧ Hid (∀ i (h : i < xs.length), i < k → p xs[i] = false) ∧ Below w.heap.size w wr) (fun v8 _ => xs.length - (intOf v8).toNat)
  case atStart => exact ⟨0, Nat.zero_le _, rfl, fun i h hk => absurd hk (by omega), Below.refl _ _⟩
  case round =>
    obtain ⟨k, hk, rfl, hno, hbl⟩ := hrel
    by_cases hlt : k < xs.length
    · obtain ⟨ad, rfl, hcell⟩ := (hr.ext (scR_mono _) hbl).at1 hlt
      have hfk := Hf.out xs[k] (List.getElem_mem hlt) wr hbl
      go_wp2_with fail
      refine hfk.mono ?_
      rintro e w2 ⟨_, rfl, rfl, hb2⟩
      clear hfk
      cases hp : p xs[k] with
      | true =>
        have Hp := hid hp
        clear hp
        go_wp2
        go_ret
        refine ⟨_, rfl, ?_, hbl.trans (hb2.mono hbl.size)⟩
        have : xs.findIdx? p = some k := by
          rw [List.findIdx?_eq_some_iff_getElem]
          exact ⟨hlt, Hp.out, fun j hj => by simp [hno.out j (by omega) hj]⟩
        simp [idxOf, this]
      | false =>
        have Hp := hid hp
        clear hp
        go_wp2
        go_roundw
        case rel =>
          refine ⟨k + 1, by omega, by go_num, ?_, hbl.trans (hb2.mono hbl.size)⟩
          intro i h hi
          by_cases e : i = k
          · subst e; exact Hp.out
          · exact hno.out i h (by omega)
        case measure => simp [intOf]; omega
    · go_wp2
      go_ret
      refine ⟨_, rfl, ?_, hbl⟩
      have : xs.findIdx? p = none := by
        rw [List.findIdx?_eq_none_iff]
        intro x hx
        obtain ⟨i, hi, rfl⟩ := List.getElem_of_mem hx
        exact hno.out i hi (by omega)
      simp [idxOf, this]

theorem containsFunc (w : World) (v : Value) (xs : List Int) (g : Nat) (caps : Array Value) (p : Int → Bool)
   (hg : Enters Try.prog g) (hv : RdI w v xs) (hf : ∀ x ∈ xs, FunB Try.prog w g caps p x) :
   Calls Try.prog 122 #[v, .func (.func g) #[] caps] w (Ret fun v w' => v = .bool (xs.any p) ∧ Below w.heap.size w w') := by
  have Hf := hid hf
  clear hf
  go_enter Try.func122, Try.ntmps122
  go_wp2_with fail
  refine (indexFunc w v xs g caps p hg hv Hf.out).mono ?_
  rintro e w2 ⟨_, rfl, rfl, hb2⟩
  have hi := idxOf_nonneg p xs
  generalize idxOf p xs = r at *
  have Hi := hid hi
  clear hi
  go_wp2
  go_ret
  exact ⟨_, rfl, by rw [← Hi.out]; rfl, hb2⟩

theorem index_any (w : World) (v : Value) (xs : List Int) (x : Int) (hv : RdI w v xs) :
   Calls Try.prog 164 #[v, .int .i64 x] w (Ret fun v w' => v = .int .i64 (idxOf (fun y => x == y) xs) ∧ w' = w) := by
  obtain ⟨A, c, rfl, hc, hb, hr⟩ := hv
  go_enter Try.func164, Try.ntmps164
  go_wp2
  go_loop [8] (fun v8 => ∃ k : Nat, k ≤ xs.length ∧ v8 = .int .i64 k ∧ Hid (∀ i (h : i < xs.length), i < k → (x == xs[i]) = false)) (fun v8 => xs.length - (intOf v8).toNat)
  case atStart => exact ⟨0, Nat.zero_le _, rfl, fun i h hk => absurd hk (by omega)⟩
  case round =>
    obtain ⟨k, hk, rfl, hno⟩ := hrel
    by_cases hlt : k < xs.length
    · obtain ⟨ad, rfl, hcell⟩ := hr.at1 hlt
      cases hp : (x == xs[k]) with
      | true =>
        go_wp2
        go_ret
        refine ⟨_, rfl, ?_, rfl⟩
        have : xs.findIdx? (fun y => x == y) = some k := by
          rw [List.findIdx?_eq_some_iff_getElem]
          exact ⟨hlt, hp, fun j hj => by simp only [hno.out j (by omega) hj]; simp⟩
        simp [idxOf, this]
      | false =>
        go_wp2
        go_round
        case rel =>
          refine ⟨k + 1, by omega, by go_num, ?_⟩
          intro i h hi
          by_cases e : i = k
          · subst e; exact hp
          · exact hno.out i h (by omega)
        case measure => simp [intOf]; omega
    · go_wp2
      go_ret
      refine ⟨_, rfl, ?_, rfl⟩
      have : xs.findIdx? (fun y => x == y) = none := by
        rw [List.findIdx?_eq_none_iff]
        intro y hx
        obtain ⟨i, hi, rfl⟩ := List.getElem_of_mem hx
        exact hno.out i hi (by omega)
      simp [idxOf, this]

theorem contains_any (w : World) (v : Value) (xs : List Int) (x : Int) (hv : RdI w v xs) :
   Calls Try.prog 154 #[v, .int .i64 x] w (Ret fun v w' => v = .bool (memB xs x) ∧ w' = w) := by
  go_enter Try.func154, Try.ntmps154
  go_wp2_with fail
  refine (index_any w v xs x hv).mono ?_
  rintro e w2 ⟨_, rfl, rfl, rfl⟩
  have hi := idxOf_nonneg (fun y => x == y) xs
  generalize idxOf (fun y => x == y) xs = r at *
  have Hi := hid hi
  clear hi
  go_wp2
  go_ret
  exact ⟨_, rfl, by rw [memB, List.contains_eq_any_beq, ← Hi.out]; rfl, rfl⟩

theorem cmpIsNaN_any (x : Int) (w : World) : Calls Try.prog 168 #[.int .i64 x] w (Ret fun v w' => v = .bool false ∧ w' = w) := by
  go_enter Try.func168, Try.ntmps168
  go_wp2
  go_ret
  exact ⟨_, rfl, by simp, rfl⟩
theorem isNaN_any (x : Int) (w : World) : Calls Try.prog 167 #[.int .i64 x] w (Ret fun v w' => v = .bool false ∧ w' = w) := by
  go_enter Try.func167, Try.ntmps167
  go_wp2
  go_ret
  exact ⟨_, rfl, by simp, rfl⟩
theorem less_any (x y : Int) (w : World) : Calls Try.prog 166 #[.int .i64 x, .int .i64 y] w (Ret fun v w' => v = .bool (decide (x < y)) ∧ w' = w) := by
  go_enter Try.func166, Try.ntmps166
  go_wp2_with (go_at_call 168; refine (cmpIsNaN_any _ _).mono ?_; rintro e w' ⟨_, rfl, rfl, rfl⟩)
  go_ret
  exact ⟨_, rfl, by simp, rfl⟩
end Go.Proofs.Lx
