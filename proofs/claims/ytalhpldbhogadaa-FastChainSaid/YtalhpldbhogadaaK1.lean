/- Parts of the proof: Xa, Xb, Xc, Xd. Plain: a chain of defeasible rules, begun at either end: what it comes to, from a fact and from none. No condition but the length. -/
import Derived.Test.YtalhpldbhogadaaB42
import Derived.Test.YtalhpldbhogadaaL3
import Derived.Test.YtalhpldbhogadaaB36
import Derived.Test.YtalhpldbhogadaaB46
import Derived.Deep.RegionLaw
import Derived.Maps.AppendAt
import Derived.Deep.DeepCutAuto
namespace Go.Proofs.Lx
open Go Go.RowKit Go.Proofs.Tj
set_option linter.unusedSimpArgs false
set_option linter.unusedVariables false
/-- The body of the i-th rule. -/
def chIx (n : Nat) (bk : Bool) (i : Nat) : Nat := if bk then n - 2 - i else i
def chRule (n : Nat) (bk : Bool) (i : Nat) : Rule := ⟨2, (chIx n bk i : Int) + 1, [(chIx n bk i : Int)]⟩
def chTh (n : Nat) (bk : Bool) : Th := ⟨(n : Int), List.replicate n [], (List.range (n - 1)).map (chRule n bk), List.replicate (n - 1) []⟩
section
variable {n : Nat} {bk : Bool}
theorem chIx_lt {i : Nat} (hi : i < n - 1) : chIx n bk i + 1 < n := by unfold chIx; split <;> omega
theorem chIx_on {q : Nat} (hq : q + 1 < n) : ∃ i, i < n - 1 ∧ chIx n bk i = q := by
  cases bk
  · exact ⟨q, by omega, rfl⟩
  · exact ⟨n - 2 - q, by omega, by simp [chIx]; omega⟩
theorem ch_foes (q : Int) : row (chTh n bk).foes q = [] := by
  simp only [row, chTh, List.getD_eq_getElem?_getD, List.getElem?_replicate]
  split <;> rfl
theorem ch_beats (x : Nat) : beatsAt (chTh n bk) x = [] := by
  simp only [beatsAt, chTh, List.getD_eq_getElem?_getD, List.getElem?_replicate]
  split <;> rfl
theorem ch_rule {i : Nat} (hi : i < n - 1) : (chTh n bk).rules.getD i default = chRule n bk i := by
  simp [chTh, hi]
theorem ch_flen : (chTh n bk).foes.length = n := by simp [chTh]
theorem ch_rlen : (chTh n bk).rules.length = n - 1 := by simp [chTh]
theorem ch_pairs : pairCount (chTh n bk) = 0 := by
  have key : ∀ k, k ≤ n → pSum (chTh n bk).rules (chTh n bk).foes k = 0 := by
    intro k hk
    have hz : ∀ q ∈ List.range k, pRow (chTh n bk).rules ((chTh n bk).foes.getD q []) q ((chTh n bk).foes.getD q []).length = 0 := by
      intro q hq
      have e : (chTh n bk).foes.getD q [] = [] := by have := List.mem_range.1 hq; simp [chTh, show q < n by omega]
      rw [e]; simp [pRow]
    have hs : ∀ l : List Nat, (l.map fun _ => 0).sum = 0 := by
      intro l
      induction l with
      | nil => rfl
      | cons x l ih => rw [List.map_cons, List.sum_cons, ih]
    unfold pSum
    rw [List.map_congr_left (g := fun _ => 0) hz]
    exact hs _
  rw [pairCount, ch_flen]
  exact key n (Nat.le_refl _)
theorem ch_body : bodyN (chTh n bk) = n - 1 := by
  have hs : ∀ l : List Nat, ((l.map (chRule n bk)).map fun r => r.body.length).sum = l.length := by
    intro l
    induction l with
    | nil => rfl
    | cons x l ih => rw [List.map_cons, List.map_cons, List.sum_cons, ih, List.length_cons]; simp [chRule]; omega
  have := hs (List.range (n - 1))
  rw [List.length_range] at this
  exact this
theorem ch_wf (h0 : 0 < n) (h1 : n ≤ 301) : WfTh (chTh n bk) := by
  have hfo : foesAll (chTh n bk) = true := by
    rw [foesAll, List.all_eq_true]
    intro q hq
    have hq' : q < n := by rw [List.mem_range, ch_flen] at hq; exact hq
    have e : (chTh n bk).foes.getD q [] = [] := by simp [chTh, hq']
    rw [foesOk, e]; rfl
  refine ⟨by simp [chTh], by simp [chTh]; omega, by simp [chTh], hfo, by rw [ch_rlen]; omega, ?_, by rw [ch_pairs]; omega, by simp [chTh], ?_, ?_⟩
  · intro r hr
    obtain ⟨i, hi, rfl⟩ := List.mem_map.1 hr
    have hi := List.mem_range.1 hi
    have hx := chIx_lt (n := n) (bk := bk) hi
    have hris : risB [(chIx n bk i : Int)] (n : Int) = true := by
      rw [risB_true]
      intro j hj
      have : j = 0 := by simpa using hj
      subst this
      simp [risOk]; omega
    unfold chRule chTh
    generalize chIx n bk i = x at *
    unfold ruleOk
    dsimp only
    rw [hris]
    simp; omega
  · rw [beatsAll, List.all_eq_true]
    intro r hr
    have hr' : r < n - 1 := by simpa [chTh] using hr
    have e : (chTh n bk).beats.getD r [] = [] := by simp [chTh, hr']
    rw [beatsOk, e]; rfl
  · intro x y _ _ h1 _
    induction h1 with
    | refl => rfl
    | step _ hz _ => rw [adjN, ch_beats] at hz; simp at hz
theorem ch_heads {q : Nat} (hq : q < n) {r : Int} : r ∈ row (rulesRows (chTh n bk).rules (chTh n bk).foes.length (chTh n bk).rules.length) (q : Int) ↔ ∃ i : Nat, i < n - 1 ∧ r = i ∧ chIx n bk i + 1 = q := by
  rw [mem_heads (by rw [ch_flen]; exact hq), ch_rlen]
  constructor
  · rintro ⟨i, hi, rfl, h⟩
    rw [ch_rule hi] at h
    exact ⟨i, hi, rfl, by simp only [chRule] at h; omega⟩
  · rintro ⟨i, hi, rfl, h⟩
    exact ⟨i, hi, rfl, by rw [ch_rule hi]; simp only [chRule]; omega⟩
theorem ch_kind {i : Nat} (hi : i < n - 1) : strictB (chTh n bk) (i : Int) = false ∧ supB (chTh n bk) (i : Int) = true ∧ bodyAt (chTh n bk) (i : Int) = [(chIx n bk i : Int)] := by
  have h := ch_rule (n := n) (bk := bk) hi
  simp only [strictB, supB, kindAt, bodyAt, Int.toNat_natCast, h, chRule]
  exact ⟨rfl, rfl, trivial⟩
variable {l : List Int}
theorem ch_bit {k : Nat} (hk : k < 4) {q : Nat} (hq : q < n) (h : cnd (chTh n bk) (factsB (chTh n bk).foes.length l) (rulesRows (chTh n bk).rules (chTh n bk).foes.length (chTh n bk).rules.length) (solveM (chTh n bk) l) k (q : Int) = true) : ((solveM (chTh n bk) l)[q]'(by rw [solve_length, ch_flen]; exact hq)).testBit k = true := by
  have h2 := solve_shut (chTh n bk) l hk (q := q) (by rw [ch_flen]; exact hq) h
  have hq2 : q < (solveM (chTh n bk) l).length := by rw [solve_length, ch_flen]; exact hq
  unfold hasM at h2
  simpa [hq2] using h2
theorem ch_fact {q : Nat} (hq : q < n) : (factsB (chTh n bk).foes.length l).getD (q : Int).toNat false = memB l (q : Int) := by
  rw [List.getD_eq_getElem?_getD, List.getElem?_eq_getElem (by simp [factsB, ch_flen]; exact hq)]; simp [factsB]
theorem ch_m1 {q : Nat} (hq : q < n) (hf : memB l (q : Int) = false) : ((solveM (chTh n bk) l)[q]'(by rw [solve_length, ch_flen]; exact hq)).testBit 1 = true := by
  refine ch_bit (by omega) hq ?_
  rw [minusD_iff]
  refine ⟨by rw [ch_fact hq]; exact hf, fun r hr hs => ?_⟩
  obtain ⟨i, hi, rfl, _⟩ := (ch_heads hq).1 hr
  rw [(ch_kind hi).1] at hs; cases hs
theorem has_bit {T : Th} {k q : Nat} (hq : q < (solveM T l).length) : hasM (solveM T l) k (q : Int) = (solveM T l)[q].testBit k := by
  unfold hasM; simp [hq]
theorem ch_none : ∀ q (hq : q < n), ((solveM (chTh n bk) [])[q]'(by rw [solve_length, ch_flen]; exact hq)).testBit 3 = true
  | 0, hq => by
    refine ch_bit (by omega) hq ?_
    rw [minusP_iff, has_bit (by rw [solve_length, ch_flen]; exact hq)]
    refine ⟨ch_m1 hq rfl, .inl fun r hr _ => ?_⟩
    obtain ⟨i, hi, rfl, h⟩ := (ch_heads hq).1 hr
    omega
  | q + 1, hq => by
    have ih := ch_none q (by omega)
    refine ch_bit (by omega) hq ?_
    rw [minusP_iff, has_bit (by rw [solve_length, ch_flen]; exact hq)]
    refine ⟨ch_m1 hq rfl, .inl fun r hr _ => ?_⟩
    obtain ⟨i, hi, rfl, h⟩ := (ch_heads hq).1 hr
    refine some_true.2 ⟨(chIx n bk i : Int), by rw [(ch_kind hi).2.2]; simp, ?_⟩
    obtain rfl : chIx n bk i = q := by omega
    rw [has_bit (by rw [solve_length, ch_flen]; omega)]; exact ih
theorem ch_solve0 : solveM (chTh n bk) [] = List.replicate n 10 := by
  apply List.ext_getElem
  · rw [solve_length, ch_flen, List.length_replicate]
  · intro q h1 h2
    have hq : q < n := by rwa [List.length_replicate] at h2
    have e1 := ch_m1 (l := []) (bk := bk) hq rfl
    have e3 := ch_none (bk := bk) q hq
    rw [List.getElem_replicate]
    rcases solve_six (chTh n bk) [] q h1 with e | e | e | e | e | e <;> rw [e] at e1 e3 ⊢
    all_goals first | rfl | exact absurd e1 (by decide) | exact absurd e3 (by decide)
theorem mem0 {q : Nat} (h : 0 < q) : memB [(0 : Int)] (q : Int) = false := by rw [memB_false]; simp; omega
theorem ch_some : ∀ q (hq : q < n), ((solveM (chTh n bk) [0])[q]'(by rw [solve_length, ch_flen]; exact hq)).testBit 2 = true
  | 0, hq => by
    refine ch_bit (by omega) hq ?_
    rw [plusP_iff, has_bit (by rw [solve_length, ch_flen]; exact hq)]
    refine .inl (ch_bit (by omega) hq ?_)
    rw [plusD_iff]
    exact .inl (by rw [ch_fact hq]; rfl)
  | q + 1, hq => by
    have ih := ch_some q (by omega)
    obtain ⟨i, hi, e⟩ := chIx_on (bk := bk) hq
    refine ch_bit (by omega) hq ?_
    rw [plusP_iff]
    refine .inr ⟨⟨(i : Int), (ch_heads hq).2 ⟨i, hi, rfl, by omega⟩, (ch_kind hi).2.1, whole_true.2 fun x hx => ?_⟩, fun f hf => ?_, fun f hf => ?_⟩
    · rw [(ch_kind hi).2.2] at hx
      rw [List.mem_singleton.1 hx, e, has_bit (by rw [solve_length, ch_flen]; omega)]
      exact ih
    · rw [ch_foes] at hf; simp at hf
    · rw [ch_foes] at hf; simp at hf
theorem ch_solve1 (h0 : 0 < n) : solveM (chTh n bk) [0] = 5 :: List.replicate (n - 1) 6 := by
  apply List.ext_getElem
  · rw [solve_length, ch_flen]; simp; omega
  · intro q h1 h2
    have hq : q < n := by rw [solve_length, ch_flen] at h1; exact h1
    have e2 := ch_some (bk := bk) q hq
    by_cases hz : q = 0
    · subst hz
      have e0 : ((solveM (chTh n bk) [0])[0]'h1).testBit 0 = true := ch_bit (by omega) hq (by rw [plusD_iff]; exact .inl (by rw [ch_fact hq]; rfl))
      simp only [List.getElem_cons_zero]
      rcases solve_six (chTh n bk) [0] 0 h1 with e | e | e | e | e | e <;> rw [e] at e0 e2 ⊢
      all_goals first | rfl | exact absurd e0 (by decide) | exact absurd e2 (by decide)
    · obtain ⟨q, rfl⟩ : ∃ x, q = x + 1 := ⟨q - 1, by omega⟩
      have e1 := ch_m1 (l := [0]) (bk := bk) hq (mem0 (by omega))
      rw [List.getElem_cons_succ, List.getElem_replicate]
      rcases solve_six (chTh n bk) [0] (q + 1) h1 with e | e | e | e | e | e <;> rw [e] at e1 e2 ⊢
      all_goals first | rfl | exact absurd e1 (by decide) | exact absurd e2 (by decide)
theorem total_rep (n x : Nat) : totalN (List.replicate n x) = n * tagsN x := by
  unfold totalN
  induction n with
  | zero => simp
  | succ n ih => rw [List.replicate_succ, List.map_cons, List.sum_cons, ih]; rw [Nat.succ_mul]; omega
end
/-- The facts, and the marks that it comes to. -/
def chF (fact : Bool) : List Int := if fact then [0] else []
def chM (n : Nat) (fact : Bool) : List Nat := if fact then 5 :: List.replicate (n - 1) 6 else List.replicate n 10
theorem ch_given {n : Nat} {bk : Bool} (h0 : 0 < n) (h1 : n ≤ 301) (fact : Bool) : givenErr (chTh n bk) (chF fact) = 0 := by
  refine givenErr_ok.2 ⟨ch_wf h0 h1, ?_⟩
  cases fact
  · rfl
  · show risB [(0 : Int)] (n : Int) = true
    rw [risB_true]
    intro j hj
    have : j = 0 := by simpa [chF] using hj
    subst this
    simp [risOk]; omega
theorem ch_solve {n : Nat} {bk : Bool} (h0 : 0 < n) (fact : Bool) : solveM (chTh n bk) (chF fact) = chM n fact := by
  cases fact
  · exact ch_solve0
  · exact ch_solve1 h0
theorem chM_total {n : Nat} (h0 : 0 < n) (fact : Bool) : totalN (chM n fact) = 2 * n := by
  cases fact
  · show totalN (List.replicate n 10) = _
    rw [total_rep, show tagsN 10 = 2 by decide]; omega
  · have : totalN (chM n true) = tagsN 5 + totalN (List.replicate (n - 1) 6) := by simp [totalN, chM]
    rw [this, total_rep, show tagsN 6 = 2 by decide, show tagsN 5 = 2 by decide]; omega
end Go.Proofs.Lx

namespace Go.Proofs.Lx
open Go Go.RowKit
set_option linter.unusedSimpArgs false
set_option linter.unusedVariables false

theorem infoRu : (Try.prog.info? 37).map (fun i => (i.zero, i.size, i.bytes)) = some (some (.agg #[.int .i64 0, .int .i64 0, .slice none 0 0]), 3, 40) := by kernel_rfl
theorem own_formC {w : World} {base e size n : Nat} {v : Value} {xs : List Value} (h : w.ownsRow base e size v (n + 1) xs) : ∃ g c, v = .slice (some ⟨g, 0, none⟩) (n + 1) c := by
  rcases h.2 with ⟨_, h⟩ | ⟨g, c, _, rfl, _⟩
  · omega
  · exact ⟨g, c, rfl⟩
/-- The chain's rules as they are built: their cells; each body in a block of its own. -/
structure RC (w0 wr : World) (n : Nat) (bk : Bool) (b gF gB : Nat) (v : Value) (k : Nat) (cs : List Value) : Prop where
  box : wr.heap[b]? = some (.cells #[.int .i64 (n : Int), .slice (some ⟨gF, 0, none⟩) n n, v, .slice (some ⟨gB, 0, none⟩) (n - 1) (n - 1)] 25 (0, 0))
  bF : wr.heap[gF]? = some (.cells (madeCells #[Value.slice none 0 0] n) 26 (0, 0))
  bB : wr.heap[gB]? = some (.cells (madeCells #[Value.slice none 0 0] (n - 1)) 26 (0, 0))
  own : wr.ownsRow (w0.heap.size + 3) 37 3 v k cs
  ne : b ≠ gF ∧ b ≠ gB ∧ w0.heap.size ≤ b ∧ w0.heap.size ≤ gF ∧ w0.heap.size ≤ gB ∧ b < w0.heap.size + 3 ∧ gF < w0.heap.size + 3 ∧ gB < w0.heap.size + 3
  el : ∀ i, i < k → ∃ g, cs[i * 3]? = some (.int .i64 2) ∧ cs[i * 3 + 1]? = some (.int .i64 ((chIx n bk i : Int) + 1)) ∧ cs[i * 3 + 2]? = some (.slice (some ⟨g, 0, none⟩) 1 1) ∧ wr.heap[g]? = some (.cells #[.int .i64 (chIx n bk i : Int)] 3 (0, 0)) ∧ w0.heap.size + 3 ≤ g ∧ v.ownBlock ≠ some g
  old : Below w0.heap.size w0 wr
  sz : w0.heap.size + 3 ≤ wr.heap.size
theorem RC.start0 (w : World) (n : Nat) (bk : Bool) : RC w ((((w.alloc (.cells (madeCells #[Value.slice none 0 0] n) 26)).alloc (.cells (madeCells #[Value.slice none 0 0] (n - 1)) 26)).alloc (.cells #[.int .i64 (n : Int), .slice (some ⟨w.heap.size, 0, none⟩) n n, .slice none 0 0, .slice (some ⟨w.heap.size + 1, 0, none⟩) (n - 1) (n - 1)] 25)).drew) n bk (w.heap.size + 1 + 1) (w.heap.size) (w.heap.size + 1) (.slice none 0 0) 0 [] := by
  obtain ⟨h0, h1, h2, h3⟩ := alloc3 w (.cells (madeCells #[Value.slice none 0 0] n) 26) (.cells (madeCells #[Value.slice none 0 0] (n - 1)) 26) (.cells #[.int .i64 (n : Int), .slice (some ⟨w.heap.size, 0, none⟩) n n, .slice none 0 0, .slice (some ⟨w.heap.size + 1, 0, none⟩) (n - 1) (n - 1)] 25)
  exact ⟨h3, h1, h2, World.ownsRow_nil _ _ _ _, by omega, fun i hi => absurd hi (by omega), Below.drew (Below.alloc (Below.alloc (ext_alloc w _) (by simp) _) (by simp only [World.size_alloc]; omega) _), by rw [h0]; exact Nat.le_refl _⟩
theorem RC.start1 (w : World) (n : Nat) (bk : Bool) : RC w ((((w.alloc (.cells (madeCells #[Value.slice none 0 0] n) 26)).alloc (.cells #[.int .i64 (n : Int), .slice (some ⟨w.heap.size, 0, none⟩) n n, .slice none 0 0, .slice (some ⟨w.heap.size + 1 + 1, 0, none⟩) (n - 1) (n - 1)] 25)).alloc (.cells (madeCells #[Value.slice none 0 0] (n - 1)) 26)).drew) n bk (w.heap.size + 1) (w.heap.size) (w.heap.size + 1 + 1) (.slice none 0 0) 0 [] := by
  obtain ⟨h0, h1, h2, h3⟩ := alloc3 w (.cells (madeCells #[Value.slice none 0 0] n) 26) (.cells #[.int .i64 (n : Int), .slice (some ⟨w.heap.size, 0, none⟩) n n, .slice none 0 0, .slice (some ⟨w.heap.size + 1 + 1, 0, none⟩) (n - 1) (n - 1)] 25) (.cells (madeCells #[Value.slice none 0 0] (n - 1)) 26)
  exact ⟨h2, h1, h3, World.ownsRow_nil _ _ _ _, by omega, fun i hi => absurd hi (by omega), Below.drew (Below.alloc (Below.alloc (ext_alloc w _) (by simp) _) (by simp only [World.size_alloc]; omega) _), by rw [h0]; exact Nat.le_refl _⟩
theorem RC.start2 (w : World) (n : Nat) (bk : Bool) : RC w ((((w.alloc (.cells (madeCells #[Value.slice none 0 0] (n - 1)) 26)).alloc (.cells (madeCells #[Value.slice none 0 0] n) 26)).alloc (.cells #[.int .i64 (n : Int), .slice (some ⟨w.heap.size + 1, 0, none⟩) n n, .slice none 0 0, .slice (some ⟨w.heap.size, 0, none⟩) (n - 1) (n - 1)] 25)).drew) n bk (w.heap.size + 1 + 1) (w.heap.size + 1) (w.heap.size) (.slice none 0 0) 0 [] := by
  obtain ⟨h0, h1, h2, h3⟩ := alloc3 w (.cells (madeCells #[Value.slice none 0 0] (n - 1)) 26) (.cells (madeCells #[Value.slice none 0 0] n) 26) (.cells #[.int .i64 (n : Int), .slice (some ⟨w.heap.size + 1, 0, none⟩) n n, .slice none 0 0, .slice (some ⟨w.heap.size, 0, none⟩) (n - 1) (n - 1)] 25)
  exact ⟨h3, h2, h1, World.ownsRow_nil _ _ _ _, by omega, fun i hi => absurd hi (by omega), Below.drew (Below.alloc (Below.alloc (ext_alloc w _) (by simp) _) (by simp only [World.size_alloc]; omega) _), by rw [h0]; exact Nat.le_refl _⟩
theorem RC.start3 (w : World) (n : Nat) (bk : Bool) : RC w ((((w.alloc (.cells (madeCells #[Value.slice none 0 0] (n - 1)) 26)).alloc (.cells #[.int .i64 (n : Int), .slice (some ⟨w.heap.size + 1 + 1, 0, none⟩) n n, .slice none 0 0, .slice (some ⟨w.heap.size, 0, none⟩) (n - 1) (n - 1)] 25)).alloc (.cells (madeCells #[Value.slice none 0 0] n) 26)).drew) n bk (w.heap.size + 1) (w.heap.size + 1 + 1) (w.heap.size) (.slice none 0 0) 0 [] := by
  obtain ⟨h0, h1, h2, h3⟩ := alloc3 w (.cells (madeCells #[Value.slice none 0 0] (n - 1)) 26) (.cells #[.int .i64 (n : Int), .slice (some ⟨w.heap.size + 1 + 1, 0, none⟩) n n, .slice none 0 0, .slice (some ⟨w.heap.size, 0, none⟩) (n - 1) (n - 1)] 25) (.cells (madeCells #[Value.slice none 0 0] n) 26)
  exact ⟨h2, h3, h1, World.ownsRow_nil _ _ _ _, by omega, fun i hi => absurd hi (by omega), Below.drew (Below.alloc (Below.alloc (ext_alloc w _) (by simp) _) (by simp only [World.size_alloc]; omega) _), by rw [h0]; exact Nat.le_refl _⟩
theorem RC.start4 (w : World) (n : Nat) (bk : Bool) : RC w ((((w.alloc (.cells #[.int .i64 (n : Int), .slice (some ⟨w.heap.size + 1, 0, none⟩) n n, .slice none 0 0, .slice (some ⟨w.heap.size + 1 + 1, 0, none⟩) (n - 1) (n - 1)] 25)).alloc (.cells (madeCells #[Value.slice none 0 0] n) 26)).alloc (.cells (madeCells #[Value.slice none 0 0] (n - 1)) 26)).drew) n bk (w.heap.size) (w.heap.size + 1) (w.heap.size + 1 + 1) (.slice none 0 0) 0 [] := by
  obtain ⟨h0, h1, h2, h3⟩ := alloc3 w (.cells #[.int .i64 (n : Int), .slice (some ⟨w.heap.size + 1, 0, none⟩) n n, .slice none 0 0, .slice (some ⟨w.heap.size + 1 + 1, 0, none⟩) (n - 1) (n - 1)] 25) (.cells (madeCells #[Value.slice none 0 0] n) 26) (.cells (madeCells #[Value.slice none 0 0] (n - 1)) 26)
  exact ⟨h1, h2, h3, World.ownsRow_nil _ _ _ _, by omega, fun i hi => absurd hi (by omega), Below.drew (Below.alloc (Below.alloc (ext_alloc w _) (by simp) _) (by simp only [World.size_alloc]; omega) _), by rw [h0]; exact Nat.le_refl _⟩
theorem RC.start5 (w : World) (n : Nat) (bk : Bool) : RC w ((((w.alloc (.cells #[.int .i64 (n : Int), .slice (some ⟨w.heap.size + 1 + 1, 0, none⟩) n n, .slice none 0 0, .slice (some ⟨w.heap.size + 1, 0, none⟩) (n - 1) (n - 1)] 25)).alloc (.cells (madeCells #[Value.slice none 0 0] (n - 1)) 26)).alloc (.cells (madeCells #[Value.slice none 0 0] n) 26)).drew) n bk (w.heap.size) (w.heap.size + 1 + 1) (w.heap.size + 1) (.slice none 0 0) 0 [] := by
  obtain ⟨h0, h1, h2, h3⟩ := alloc3 w (.cells #[.int .i64 (n : Int), .slice (some ⟨w.heap.size + 1 + 1, 0, none⟩) n n, .slice none 0 0, .slice (some ⟨w.heap.size + 1, 0, none⟩) (n - 1) (n - 1)] 25) (.cells (madeCells #[Value.slice none 0 0] (n - 1)) 26) (.cells (madeCells #[Value.slice none 0 0] n) 26)
  exact ⟨h1, h3, h2, World.ownsRow_nil _ _ _ _, by omega, fun i hi => absurd hi (by omega), Below.drew (Below.alloc (Below.alloc (ext_alloc w _) (by simp) _) (by simp only [World.size_alloc]; omega) _), by rw [h0]; exact Nat.le_refl _⟩

section
variable {w0 wr w' : World} {n b gF gB k : Nat} {bk : Bool} {v v' : Value} {cs : List Value}
theorem RC.own2 (h : RC w0 wr n bk b gF gB v k cs) (A C : Obj) : ((wr.alloc A).alloc C).ownsRow (w0.heap.size + 3) 37 3 v k cs := (h.own.alloc A).alloc C
theorem RC.blocks2 (h : RC w0 wr n bk b gF gB v k cs) {A C : Obj} (hg : ((wr.alloc A).alloc C).grownBy w' v.ownBlock) (g : Nat) (hgl : g < wr.heap.size) (hne : g < w0.heap.size + 3) : w'.heap[g]? = wr.heap[g]? := by
  rw [hg.block g (by show g < ((wr.alloc A).alloc C).heap.size; simp; omega) (fun e => by have := (h.own.lt g e.symm).1; omega)]
  show ((wr.alloc A).alloc C).heap[g]? = _
  rw [Below.heap_alloc _ _ _ (by simp; omega), Below.heap_alloc _ _ _ hgl]
theorem RC.append (h : RC w0 wr n bk b gF gB v k cs) (hk : k < n - 1) {o : Nat}
    (hown : w'.ownsRow (w0.heap.size + 3) 37 3 v' (k + 1) (cs ++ [.int .i64 2, .int .i64 ((chIx n bk k : Int) + 1), .slice (some ⟨wr.heap.size, 0, none⟩) 1 1]))
    (hg : (((wr.alloc (.cells #[.int .i64 (chIx n bk k : Int)] 3)).alloc (.cells #[.int .i64 2, .int .i64 ((chIx n bk k : Int) + 1), .slice (some ⟨wr.heap.size, 0, none⟩) 1 1] 37))).grownBy w' v.ownBlock)
    (hat : v'.ownBlock = v.ownBlock ∨ v'.ownBlock = some o) (ho : o = wr.heap.size + 2) :
    RC w0 (w'.setCell ⟨b, 2, none⟩ v') n bk b gF gB v' (k + 1) (cs ++ [.int .i64 2, .int .i64 ((chIx n bk k : Int) + 1), .slice (some ⟨wr.heap.size, 0, none⟩) 1 1]) := by
  have hne := h.ne
  have hlb := lt_of_block h.box
  have hlF := lt_of_block h.bF
  have hlB := lt_of_block h.bB
  have hlen : cs.length = k * 3 := h.own.1
  have hvl : ∀ g, v.ownBlock = some g → w0.heap.size + 3 ≤ g ∧ g < wr.heap.size := fun g e => h.own.lt g e
  have kb := (h.blocks2 hg b hlb (by omega)).trans h.box
  have hs0 := h.old.size
  have hs3 := h.sz
  have hsz : wr.heap.size + 2 ≤ w'.heap.size := by have := hg.size; simpa using this
  refine ⟨?_, ?_, ?_, ?_, hne, fun i hi => ?_, ?_, by simp only [World.size_setCell]; omega⟩
  · rw [heap_setCell_same w' b 2 _ _ _ kb]; rfl
  · rw [heap_setCell_other w' _ gF _ (by dsimp only; omega)]
    exact (h.blocks2 hg gF hlF (by omega)).trans h.bF
  · rw [heap_setCell_other w' _ gB _ (by dsimp only; omega)]
    exact (h.blocks2 hg gB hlB (by omega)).trans h.bB
  · exact hown.kept (row := some b) ⟨rfl, rfl, rfl, by simp, fun g _ hgb => heap_setCell_other w' _ g _ (fun e => hgb (by rw [e]))⟩ (.inr (fun e => by have := (hown.lt b e).1; omega))
  · by_cases e : i = k
    · subst e
      refine ⟨wr.heap.size, ?_, ?_, ?_, ?_, by omega, fun e => ?_⟩
      · rw [List.getElem?_append_right (by omega), hlen]; simp
      · rw [List.getElem?_append_right (by omega), hlen, show i * 3 + 1 - i * 3 = 1 by omega]; rfl
      · rw [List.getElem?_append_right (by omega), hlen, show i * 3 + 2 - i * 3 = 2 by omega]; rfl
      · rw [heap_setCell_other w' _ _ _ (by dsimp only; omega)]
        rw [hg.block wr.heap.size (by show _ < ((wr.alloc _).alloc _).heap.size; simp; omega) (fun e => by have := (hvl _ e.symm).2; omega)]
        show ((wr.alloc _).alloc _).heap[wr.heap.size]? = _
        rw [Below.heap_alloc _ _ _ (by simp), heap_alloc_new]
      · rcases hat with h9 | h9
        · rw [h9] at e; have := (hvl _ e).2; omega
        · rw [h9] at e; cases e; omega
    · obtain ⟨g, h1, h2, h3, h4, h5, h6⟩ := h.el i (by omega)
      have hgl := lt_of_block h4
      refine ⟨g, ?_, ?_, ?_, ?_, h5, fun e9 => ?_⟩
      · rw [List.getElem?_append_left (by omega)]; exact h1
      · rw [List.getElem?_append_left (by omega)]; exact h2
      · rw [List.getElem?_append_left (by omega)]; exact h3
      · rw [heap_setCell_other w' _ _ _ (by dsimp only; omega)]
        rw [hg.block g (by show _ < ((wr.alloc _).alloc _).heap.size; simp; omega) (fun e9 => h6 e9.symm)]
        show ((wr.alloc _).alloc _).heap[g]? = _
        rw [Below.heap_alloc _ _ _ (by simp; omega), Below.heap_alloc _ _ _ hgl]; exact h4
      · rcases hat with h9 | h9
        · rw [h9] at e9; exact h6 e9
        · rw [h9] at e9; cases e9; omega
  · refine Below.setCell ⟨hg.os.trans h.old.os, hg.tape.trans h.old.tape, hg.output.trans h.old.output, by omega, fun g hgl => (h.blocks2 hg g (by omega) (by omega)).trans (h.old.block g hgl)⟩ (by dsimp only; omega) _
theorem rd_lit1x {α : Type} {R : World → α → List Value → Prop} {W : World} {g n : Nat} {e : TypeId} {cur : Array Value} {xs : List α} (hh : W.heap[g]? = some (.cells cur e (0, 0))) (hn : n = xs.length) (hb : xs.length ≤ 140737488355328)
    (hr : ∀ i (h : i < xs.length), ∃ v, cur[i]? = some v ∧ R W xs[i] [v]) : Rd 1 R W (.slice (some ⟨g, 0, none⟩) n n) xs := rd_lit1 hh hn hb hr
theorem rd_nilsC {W : World} {g n : Nat} (hh : W.heap[g]? = some (.cells (madeCells #[Value.slice none 0 0] n) 26 (0, 0))) (hn : n ≤ 301) : RdLL W (.slice (some ⟨g, 0, none⟩) n n) (List.replicate n []) := by
  refine rd_lit1 hh (by simp) (by simp; omega) fun i hi => ?_
  have hi' : i < n := by simpa using hi
  refine ⟨.slice none 0 0, ?_, _, rfl, ?_⟩
  · rw [← Array.getElem?_toList, toList_madeCells_one, List.getElem?_replicate, if_pos hi']
  · rw [List.getElem_replicate]; exact Rd.nil
theorem RC.theory {gv cv : Nat} (h : RC w0 wr n bk b gF gB (.slice (some ⟨gv, 0, none⟩) (n - 1) cv) (n - 1) cs) (hn : n ≤ 301) {W : World} (hW : Below wr.heap.size wr W) (hcv : n - 1 ≤ cv) :
    RdTh W (.agg #[.int .i64 (n : Int), .slice (some ⟨gF, 0, none⟩) n n, .slice (some ⟨gv, 0, none⟩) (n - 1) cv, .slice (some ⟨gB, 0, none⟩) (n - 1) (n - 1)]) (chTh n bk) := by
  have hne := h.ne
  refine ⟨_, _, _, rfl, rd_nilsC ((hW.block gF (lt_of_block h.bF)).trans h.bF) hn, ?_, rd_nilsC ((hW.block gB (lt_of_block h.bB)).trans h.bB) (by omega)⟩
  refine ⟨some ⟨gv, 0, none⟩, cv, by simp [chTh], by simp [chTh]; omega, by simp [chTh]; omega, fun i hi => ?_⟩
  have hi' : i < n - 1 := by simpa [chTh] using hi
  obtain ⟨g, h1, h2, h3, h4, h5, h6⟩ := h.el i hi'
  have hgv := h.own.lt gv rfl
  have cell : ∀ j u, cs[j]? = some u → W.cell? ((⟨gv, 0, none⟩ : Addr).add j) = some u := fun j u hu => by
    have h9 := h.own.cells (g := gv) rfl j u hu
    rw [add_plain] at h9 ⊢
    rw [← h9]
    exact World.cell?_of_block (hW.block gv hgv.2)
  refine ⟨_, [.int .i64 2, .int .i64 ((chIx n bk i : Int) + 1), .slice (some ⟨g, 0, none⟩) 1 1], rfl, ?_, rfl, fun j u hu => ?_⟩
  · refine ⟨.slice (some ⟨g, 0, none⟩) 1 1, ?_, ?_⟩
    · simp only [chTh, List.getElem_map, List.getElem_range, chRule]
    · simp only [chTh, List.getElem_map, List.getElem_range, chRule]
      exact rd_int1 ((hW.block g (lt_of_block h4)).trans h4)
  · match j, hu with
    | 0, hu => simp at hu; subst hu; exact cell _ _ h1
    | 1, hu => simp at hu; subst hu; exact cell _ _ h2
    | 2, hu => simp at hu; subst hu; exact cell _ _ h3
end
end Go.Proofs.Lx

namespace Go.Proofs.Lx
open Go Go.RowKit Go.Proofs.Tj
set_option linter.unusedSimpArgs false
set_option linter.unusedVariables false
/-- Counted's answer for a chain. -/
theorem fchain (w : World) (V vl : Value) (n : Nat) (bk fact : Bool) (h0 : 0 < n) (h1 : n ≤ 301) (hT : RdTh w V (chTh n bk)) (hl : RdI w vl (chF fact)) :
    Calls Try.prog 37 #[V, vl] w (Ret fun r w' => ∃ A cap, ∃ u : Nat, r = .tuple #[.slice A n cap, .agg #[.int .i64 (2 * (n : Int)), .int .i64 (u : Int)], .int .i64 0] ∧ RdMk w' (.slice A n cap) (chM n fact) ∧ (u : Int) ≤ 4 * ((n : Int) + n - 1) ∧ Below w.heap.size w w') := by
  refine (fcounted_any w V vl _ _ hT hl).mono fun e w' h => h.mono ?_
  rintro _ w' ⟨v, q, u, rfl, h1', h2, hb⟩
  have hc := ch_given (bk := bk) h0 h1 fact
  obtain ⟨ho, rfl, S, D, ⟨rfl, k, rfl, k1, k2⟩, rfl⟩ := h1' hc
  obtain ⟨hwf, hr⟩ := givenErr_ok.1 hc
  obtain ⟨hfl, _⟩ := facts_nat hwf hr
  obtain ⟨c, e, hle⟩ := lin_upd hwf hfl k1 k2
  rw [ch_pairs, ch_body, ch_flen] at hle
  have hlen : (solveM (chTh n bk) (chF fact)).length = n := by rw [solve_length, ch_flen]
  have hm := own_marks ho (by omega)
  rw [ch_solve h0] at hm hlen
  obtain ⟨A, cap, rfl, h3⟩ := hm
  rw [ch_solve h0, chM_total h0, hc, e]
  refine ⟨A, cap, c, by rw [hlen]; rfl, ?_, by omega, hb⟩
  rw [hlen] at h3
  exact ⟨A, cap, by rw [hlen], by rw [hlen]; exact h3⟩
end Go.Proofs.Lx

namespace Go.Proofs.Lx
open Go Go.RowKit Go.Proofs.Tj
set_option linter.unusedSimpArgs false
set_option linter.unusedVariables false
theorem chM_at {n : Nat} {fact : Bool} {W : World} {A : Option Addr} {cap : Nat} (h0 : 0 < n) (h : RdMk W (.slice A n cap) (chM n fact)) : ∀ k, k < n → ∃ ad, A = some ad ∧ W.cell? (ad.add k) = some (.int .u8 (if fact then (if k = 0 then 5 else 6) else 10)) := by
  intro k hk
  obtain ⟨A', c', e, _, _, hr⟩ := h
  have eA : A = A' := by injection e
  rw [← eA] at hr
  have hl : (chM n fact).length = n := by cases fact <;> simp [chM]; omega
  obtain ⟨ad, e1, e2⟩ := hr.at1 (k := k) (by rw [hl]; exact hk)
  refine ⟨ad, e1, ?_⟩
  rw [e2]
  cases fact
  · simp [chM]
  · match k with
    | 0 => simp [chM]
    | k + 1 => simp [chM]
set_option maxRecDepth 100000 in
set_option maxHeartbeats 3200000 in
theorem lawChain_any (w : World) (a0 : Int) (fact bk : Bool) (wa : (Lit.int .i64 a0).wf = true) :
    Calls Try.prog 12 #[.int .i64 a0, .bool fact, .bool bk] w (Ret fun v w' => v = .bool true ∧ Below w.heap.size w w') := by
  have Hw := hid works_any
  have hbd : -9223372036854775808 ≤ a0 ∧ a0 ≤ 9223372036854775807 := by simpa [Lit.wf, IntKind.min, IntKind.max, IntKind.signed, IntKind.bits] using wa
  have hr : -300 < a0.tmod 300 ∧ a0.tmod 300 < 300 := by
    have h1 := Int.natAbs_tmod a0 300
    have h2 := Nat.mod_lt a0.natAbs (show 0 < (300 : Int).natAbs by decide)
    rw [← h1] at h2
    have h3 : (300 : Int).natAbs = 300 := by decide
    omega
  have hr2 : 0 ≤ (a0.tmod 300 + 300).tmod 300 ∧ (a0.tmod 300 + 300).tmod 300 < 300 := by
    have := Int.tmod_eq_emod_of_nonneg (a := a0.tmod 300 + 300) (b := 300) (by omega)
    rw [this]; omega
  obtain ⟨i0, hi, hz0, hz1, hz2⟩ := info_parts2 infoRu
  have Hfc := hid (fun W V vl n h0 h1 hT hl => fchain W V vl n bk fact h0 h1 hT hl)
  refine post_gen fun Q HQ => ?_
  go_enter Try.func12, Try.ntmps12
  go_wp2_with fail
  refine (Hw.out w).mono ?_
  rintro e w2 ⟨_, rfl, rfl, hb2⟩
  go_wp2_with fail
  obtain ⟨n, e, hn2, hn3⟩ : ∃ n : Nat, 2 + a0.tmod 300 % 300 = (n : Int) ∧ 2 ≤ n ∧ n ≤ 301 := ⟨(2 + a0.tmod 300 % 300).toNat, by omega, by omega, by omega⟩
  rw [e]
  clear e hr hr2 hbd wa
  have hmk := mkL n (by omega) (by omega)
  rw [Int.toNat_natCast] at hmk
  have hmk2 := mkL ((n : Int) - 1) (by omega) (by omega)
  rw [show ((n : Int) - 1).toNat = n - 1 by omega] at hmk2
  go_cut [7] (fun v7 wx => ∃ b gF gB, v7 = .pointer (some ⟨b, 0, none⟩) ∧ RC w2 wx n bk b gF gB (.slice none 0 0) 0 [])
  case first =>
    go_region
    all_goals
      go_wp2_with fail
      go_meet
      first
        | exact ⟨_, _, _, rfl, RC.start0 _ _ _⟩
        | exact ⟨_, _, _, rfl, RC.start1 _ _ _⟩
        | exact ⟨_, _, _, rfl, RC.start2 _ _ _⟩
        | exact ⟨_, _, _, rfl, RC.start3 _ _ _⟩
        | exact ⟨_, _, _, rfl, RC.start4 _ _ _⟩
        | exact ⟨_, _, _, rfl, RC.start5 _ _ _⟩
  case rest =>
    obtain ⟨b, gF, gB, rfl, hrg⟩ := hcut
    clear hmk hmk2
    have Hb2 := hid hb2
    clear hb2
    go_wp2
    go_loopw [8] (fun v8 wr => ∃ (k : Nat) (v : Value) (cs : List Value), k ≤ n - 1 ∧ v8 = .int .i64 k ∧ RC w2 wr n bk b gF gB v k cs) (fun v8 _ => n - (intOf v8).toNat)
    case atStart => exact ⟨0, _, _, Nat.zero_le _, rfl, hrg⟩
    case round =>
      clear hrg
      obtain ⟨k, v, cs, hk, rfl, hrg⟩ := hrel
      by_cases hlt : k < n - 1
      · have hix := chIx_lt (n := n) (bk := bk) hlt
        have hif : bk = false → (k : Int) = (chIx n bk k : Int) := fun e => by subst e; rfl
        have hit : bk = true → (n : Int) - 2 - k = (chIx n bk k : Int) := fun e => by subst e; simp [chIx]; omega
        have Hrg := hid hrg
        clear hrg
        have Haft : Hid (∀ (cA cC : Array Value) (w' : World), ((wr.alloc (.cells cA 3)).alloc (.cells cC 37)).grownBy w' v.ownBlock → w'.frozen? ⟨b, 2, none⟩ = false ∧ w'.cell? ⟨b, 2, none⟩ = some v) := by
          refine hid fun cA cC w' hg => ?_
          have h9 := (Hrg.out.blocks2 hg b (lt_of_block Hrg.out.box) (by have := Hrg.out.ne; omega)).trans Hrg.out.box
          exact ⟨frozen_of_row w' b 2 _ _ h9, by rw [cell_of_row w' b 2 _ _ _ h9]; rfl⟩
        have Hnew : Hid (∀ (y : Int) cA, ∀ j u, [Value.int .i64 2, Value.int .i64 (y + 1), Value.slice (some ⟨wr.heap.size, 0, none⟩) 1 1][j]? = some u → ((wr.alloc (.cells cA 3)).alloc (.cells #[.int .i64 2, .int .i64 (y + 1), .slice (some ⟨wr.heap.size, 0, none⟩) 1 1] 37)).cell? ((⟨wr.heap.size + 1, 0, none⟩ : Addr).add j) = some u) := by
          refine hid fun y cA j u hu => ?_
          have hb9 : ((wr.alloc (.cells cA 3)).alloc (.cells #[.int .i64 2, .int .i64 (y + 1), .slice (some ⟨wr.heap.size, 0, none⟩) 1 1] 37)).heap[wr.heap.size + 1]? = some (.cells #[.int .i64 2, .int .i64 (y + 1), .slice (some ⟨wr.heap.size, 0, none⟩) 1 1] 37 (0, 0)) := by
            have := heap_alloc_new (wr.alloc (.cells cA 3)) (.cells #[.int .i64 2, .int .i64 (y + 1), .slice (some ⟨wr.heap.size, 0, none⟩) 1 1] 37)
            rw [World.size_alloc] at this; exact this
          rw [add_plain, cell_of_row _ _ j _ _ _ hb9]
          simpa using hu
        cases bk with
        | false =>
          clear hit
          have hE := hif rfl
          have hEb : (chIx n false k : Int) < n := by omega
          have hc2 : wr.cell? ⟨b, 2, none⟩ = some v := by rw [cell_of_row wr b 2 _ _ _ Hrg.out.box]; rfl
          have HE := hid hE
          have Hlt := hid hlt
          clear hE hif hix hEb
          go_wp2_with (at_builtin; refine wpList_append_own_at _ rfl _ _ 23 rfl (w2.heap.size + 3) 37 i0 _ 3 40 Try.underlying23 hi hz0 hz1 hz2 rfl (by decide) v k cs rfl (Hrg.out.own2 _ _) ⟨wr.heap.size + 1, 0, none⟩ 1 1 [.int .i64 2, .int .i64 ((k : Int) + 1), .slice (some ⟨wr.heap.size, 0, none⟩) 1 1] rfl rfl (Hnew.out _ _) (by intro u hu; simp at hu; rcases hu with rfl | rfl | rfl <;> rfl) (by unfold maxLen; omega) (by omega) (by have := Hrg.out.sz; simp; omega) ?_; intro v' w' hown hgrow hnil hat; obtain ⟨gn, cn, rfl⟩ := own_formC hown; obtain ⟨hqF, hq2⟩ := Haft.out _ _ w' hgrow)
          go_roundw
          case rel =>
            rw [HE.out] at hown hgrow
            have hh := Hrg.out.append Hlt.out hown hgrow hat (by simp)
            exact ⟨k + 1, _, _, by have := Hlt.out; omega, by go_num, hh⟩
          case measure => have := Hlt.out; simp [intOf]; omega
        | true =>
          clear hif
          have hE := hit rfl
          have hEb : (chIx n true k : Int) < n := by omega
          have hc2 : wr.cell? ⟨b, 2, none⟩ = some v := by rw [cell_of_row wr b 2 _ _ _ Hrg.out.box]; rfl
          have HE := hid hE
          have Hlt := hid hlt
          clear hE hit hix hEb
          go_wp2_with (at_builtin; refine wpList_append_own_at _ rfl _ _ 23 rfl (w2.heap.size + 3) 37 i0 _ 3 40 Try.underlying23 hi hz0 hz1 hz2 rfl (by decide) v k cs rfl (Hrg.out.own2 _ _) ⟨wr.heap.size + 1, 0, none⟩ 1 1 [.int .i64 2, .int .i64 (((n : Int) - 2 - k) + 1), .slice (some ⟨wr.heap.size, 0, none⟩) 1 1] rfl rfl (Hnew.out _ _) (by intro u hu; simp at hu; rcases hu with rfl | rfl | rfl <;> rfl) (by unfold maxLen; omega) (by omega) (by have := Hrg.out.sz; simp; omega) ?_; intro v' w' hown hgrow hnil hat; obtain ⟨gn, cn, rfl⟩ := own_formC hown; obtain ⟨hqF, hq2⟩ := Haft.out _ _ w' hgrow)
          go_roundw
          case rel =>
            rw [HE.out] at hown hgrow
            have hh := Hrg.out.append Hlt.out hown hgrow hat (by simp)
            exact ⟨k + 1, _, _, by have := Hlt.out; omega, by go_num, hh⟩
          case measure => have := Hlt.out; simp [intOf]; omega
      · obtain rfl : k = n - 1 := by omega
        obtain ⟨gv, cv, hv, hcv⟩ : ∃ gv cv, v = .slice (some ⟨gv, 0, none⟩) (n - 1) cv ∧ n - 1 ≤ cv := by
          rcases hrg.own.2 with ⟨h, _⟩ | ⟨g, c, _, e, _, _, h, _⟩
          · omega
          · exact ⟨g, _, e, h⟩
        subst hv
        have Hth : Hid (∀ W, Below wr.heap.size wr W → RdTh W (.agg #[.int .i64 (n : Int), .slice (some ⟨gF, 0, none⟩) n n, .slice (some ⟨gv, 0, none⟩) (n - 1) cv, .slice (some ⟨gB, 0, none⟩) (n - 1) (n - 1)]) (chTh n bk)) := hid fun W hW => hrg.theory hn3 hW hcv
        have Hbox : Hid (∀ W, Below wr.heap.size wr W → W.cell? ⟨b, 0, none⟩ = some (.int .i64 (n : Int)) ∧ W.cell? ⟨b, 1, none⟩ = some (.slice (some ⟨gF, 0, none⟩) n n) ∧ W.cell? ⟨b, 2, none⟩ = some (.slice (some ⟨gv, 0, none⟩) (n - 1) cv) ∧ W.cell? ⟨b, 3, none⟩ = some (.slice (some ⟨gB, 0, none⟩) (n - 1) (n - 1))) := hid fun W hW => by
          have h0 := (hW.block b (lt_of_block hrg.box)).trans hrg.box
          exact ⟨cell_of_row W b 0 _ _ _ h0, cell_of_row W b 1 _ _ _ h0, cell_of_row W b 2 _ _ _ h0, cell_of_row W b 3 _ _ _ h0⟩
        have Hold := hid hrg.old
        clear hrg hlt hk hcv
        cases fact with
        | false =>
          have hfx : RdI wr (.slice none 0 0) (chF false) := Rd.nil
          have hbx : Below wr.heap.size wr wr := ext_refl _
          obtain ⟨c0, c1, c2, c3⟩ := Hbox.out _ hbx
          have hc := hid (Hfc.out _ _ _ n (by omega) hn3 (Hth.out _ hbx) hfx)
          have Hbx := hid hbx
          clear hbx hfx
          go_wp2_with fail
          refine hc.out.mono ?_
          rintro e w3 ⟨_, rfl, A, cap, u, rfl, hrd, hu, hb3⟩
          have hb13 := ext_trans (ext_trans Hb2.out Hold.out) (ext_trans Hbx.out hb3)
          have Hx : Hid (∀ W, Below w3.heap.size w3 W → ∀ k, k < n → ∃ ad, A = some ad ∧ W.cell? (ad.add k) = some (.int .u8 (if false then (if k = 0 then 5 else 6) else 10))) := hid fun W hW => chM_at (by omega) (hrd.ext (scR_mono _) hW)
          have Hb13 := hid hb13
          clear hb13 hrd hb3 c0 c1 c2 c3 hc
          have hu2 : u ≤ 5000 := by omega
          go_wp2_with fail
          go_loopw [14] (fun v14 w6 => ∃ k : Nat, k ≤ n ∧ v14 = .int .i64 (k : Int) ∧ Below w3.heap.size w3 w6) (fun v14 _ => n - (intOf v14).toNat)
          case atStart => exact ⟨0, Nat.zero_le _, rfl, ext_alloc _ _⟩
          case round =>
            obtain ⟨q, hq, rfl, hbl⟩ := hrel
            by_cases hlq : q < n
            · obtain ⟨ad, rfl, hcx⟩ := Hx.out _ hbl q hlq
              simp only [Bool.false_eq_true, if_false] at hcx
              go_wp2_with fail
              go_roundw
              case rel => exact ⟨q + 1, by omega, by go_num, hbl⟩
              case measure => simp [intOf]; omega
            · obtain rfl : q = n := by omega
              go_wp2_with fail
              go_ret
              exact Fin HQ ⟨rfl, ext_trans Hb13.out hbl⟩
        | true =>
          have hfx : RdI (wr.alloc (.cells #[.int .i64 0] 3)) (.slice (some ⟨wr.heap.size, 0, none⟩) 1 1) (chF true) := rd_int1 (heap_alloc_new _ _)
          have hbx : Below wr.heap.size wr (wr.alloc (.cells #[.int .i64 0] 3)) := ext_alloc _ _
          obtain ⟨c0, c1, c2, c3⟩ := Hbox.out _ hbx
          have hc := hid (Hfc.out _ _ _ n (by omega) hn3 (Hth.out _ hbx) hfx)
          have Hbx := hid hbx
          clear hbx hfx
          go_wp2_with fail
          refine hc.out.mono ?_
          rintro e w3 ⟨_, rfl, A, cap, u, rfl, hrd, hu, hb3⟩
          have hb13 := ext_trans (ext_trans Hb2.out Hold.out) (ext_trans Hbx.out hb3)
          have Hx : Hid (∀ W, Below w3.heap.size w3 W → ∀ k, k < n → ∃ ad, A = some ad ∧ W.cell? (ad.add k) = some (.int .u8 (if true then (if k = 0 then 5 else 6) else 10))) := hid fun W hW => chM_at (by omega) (hrd.ext (scR_mono _) hW)
          have Hb13 := hid hb13
          clear hb13 hrd hb3 c0 c1 c2 c3 hc
          have hu2 : u ≤ 5000 := by omega
          go_wp2_with fail
          go_loopw [14] (fun v14 w6 => ∃ k : Nat, k ≤ n ∧ v14 = .int .i64 (k : Int) ∧ Below w3.heap.size w3 w6) (fun v14 _ => n - (intOf v14).toNat)
          case atStart => exact ⟨0, Nat.zero_le _, rfl, ext_alloc _ _⟩
          case round =>
            obtain ⟨q, hq, rfl, hbl⟩ := hrel
            by_cases hlq : q < n
            · obtain ⟨ad, rfl, hcx⟩ := Hx.out _ hbl q hlq
              simp only [if_true] at hcx
              by_cases hq0 : q = 0
              · rw [if_pos hq0] at hcx
                have hq1 : q < 1 := by omega
                clear hq0
                go_wp2_with fail
                go_roundw
                case rel => exact ⟨q + 1, by omega, by go_num, hbl⟩
                case measure => simp [intOf]; omega
              · rw [if_neg hq0] at hcx
                have hq1 : (q : Int) ≠ 0 := by omega
                go_wp2_with fail
                go_roundw
                case rel => exact ⟨q + 1, by omega, by go_num, hbl⟩
                case measure => simp [intOf]; omega
            · obtain rfl : q = n := by omega
              go_wp2_with fail
              go_ret
              exact Fin HQ ⟨rfl, ext_trans Hb13.out hbl⟩
end Go.Proofs.Lx
