/- Parts of the proof: Xu, Di. Plain: what delta's outer and cut leave, in closed form, is a cut of the theory. No condition. -/
import Derived.Test.YtbidjiopnddldaaGreatE12
import Derived.Test.YtbidjiopnddldaaGreatE13
import Derived.Test.YtbidjiopnddldaaGreatE6
import Derived.Test.YtbidjiopnddldaaGreatE5
namespace Go.Proofs.Lx
open Go Go.RowKit Go.Proofs.Tj
set_option linter.unusedSimpArgs false
set_option linter.unusedVariables false
theorem mem_pickD {p : Nat → Bool} {n : Nat} {y : Int} : y ∈ pickL p n ↔ ∃ x : Nat, x < n ∧ y = x ∧ p x = true := by
 unfold pickL
 rw [List.mem_map]
 constructor
 ·rintro ⟨x, hx, rfl⟩
  rw [List.mem_filter, List.mem_range] at hx
  exact ⟨x, hx.1, rfl, hx.2⟩
 ·rintro ⟨x, h1, rfl, h2⟩
  exact ⟨x, List.mem_filter.2 ⟨List.mem_range.2 h1, h2⟩, rfl⟩
theorem pickD_sorted (p : Nat → Bool) (n : Nat) : (pickL p n).Pairwise (· < ·) := by
 unfold pickL
 rw [List.pairwise_map]
 refine List.Pairwise.imp ?_ (List.Pairwise.filter p List.pairwise_lt_range)
 intro a b h; omega
/-- A list, sorted. -/
def srt (l : List Int) : List Int := l.mergeSort fun x y => decide (x ≤ y)
theorem mem_srt {l : List Int} {x : Int} : x ∈ srt l ↔ x ∈ l := List.mem_mergeSort
theorem srt_length (l : List Int) : (srt l).length = l.length := List.length_mergeSort l
/-- A number's place in a list; 0 where it is not in it. -/
def ixD (D : List Int) (x : Int) : Int := if x ∈ D then ((D.idxOf x : Nat) : Int) else 0
/-- The literals of a part: the cone's, and those that stand in the bodies of the first k rules. -/
def outL (T : Th) (cone : List Int) (k : Nat) : List Int := (T.rules.take k).foldl (fun D r => if memB cone r.head = true then addAll D r.body else D) cone
theorem outL_zero (T : Th) (cone : List Int) : outL T cone 0 = cone := by simp [outL]
theorem outL_succ {T : Th} {cone : List Int} {k : Nat} (hk : k < T.rules.length) : outL T cone (k + 1) = if memB cone T.rules[k].head = true then addAll (outL T cone k) T.rules[k].body else outL T cone k := by
 unfold outL
 rw [List.take_succ_eq_append_getElem hk, List.foldl_append]
 rfl
theorem outL_pre (T : Th) (cone : List Int) : ∀ k, k ≤ T.rules.length → ∃ E, outL T cone k = cone ++ E
 | 0, _ => ⟨[], by rw [outL_zero]; simp⟩
 | k + 1, hk => by
  obtain ⟨E, hE⟩ := outL_pre T cone k (by omega)
  rw [outL_succ (by omega)]
  split
  ·obtain ⟨E2, hE2⟩ := addAll_pre (T.rules[k]'(by omega)).body (outL T cone k)
   exact ⟨E ++ E2, by rw [hE2, hE, List.append_assoc]⟩
  ·exact ⟨E, hE⟩
theorem outL_body {T : Th} {cone : List Int} : ∀ {k i : Nat}, k ≤ T.rules.length → i < k → memB cone (T.rules.getD i default).head = true → ∀ y ∈ (T.rules.getD i default).body, y ∈ outL T cone k
 | 0, i, _, hi, _, _, _ => by omega
 | k + 1, i, hk, hi, hc, y, hy => by
  have hkl : k < T.rules.length := by omega
  rw [outL_succ hkl]
  by_cases e : i = k
  ·subst e
   have e2 : T.rules.getD i default = T.rules[i] := by simp [hkl]
   rw [e2] at hc hy
   rw [if_pos hc]
   exact mem_addAll.2 (.inr hy)
  ·have := outL_body (k := k) (by omega) (by omega) hc y hy
   split
   ·exact mem_addAll.2 (.inl this)
   ·exact this
theorem outL_ok {T : Th} {cone : List Int} (hwf : WfTh T) (hc : DOk T.foes.length cone) : ∀ {k : Nat}, k ≤ T.rules.length → DOk T.foes.length (outL T cone k)
 | 0, _ => by rw [outL_zero]; exact hc
 | k + 1, hk => by
  have hkl : k < T.rules.length := by omega
  rw [outL_succ hkl]
  split
  ·refine (outL_ok hwf hc (by omega)).addAll fun x hx => ?_
   have h1 := hwf.ru _ (List.getElem_mem hkl)
   simp only [ruleOk, Bool.and_eq_true, decide_eq_true_eq] at h1
   obtain ⟨a, ha, rfl⟩ := List.getElem_of_mem hx
   have := (risB_spec h1.2).1 a ha
   rw [← hwf.fl] at this
   exact this
  ·exact outL_ok hwf hc (by omega)
/-- The rules that are moved, of the first k. -/
def mvL (T : Th) (cone : List Int) (k : Nat) : List Nat := (List.range k).filter fun i => memB cone (T.rules.getD i default).head
theorem mvL_succ (T : Th) (cone : List Int) (k : Nat) : mvL T cone (k + 1) = mvL T cone k ++ if memB cone (T.rules.getD k default).head = true then [k] else [] := by
 unfold mvL
 rw [List.range_succ, List.filter_append]
 simp only [List.filter_cons, List.filter_nil]
theorem mem_mvL {T : Th} {cone : List Int} {k i : Nat} : i ∈ mvL T cone k ↔ i < k ∧ memB cone (T.rules.getD i default).head = true := by
 unfold mvL
 rw [List.mem_filter, List.mem_range]
theorem mvL_nd (T : Th) (cone : List Int) (k : Nat) : (mvL T cone k).Nodup := List.nodup_range.filter _
theorem mvL_len (T : Th) (cone : List Int) (k : Nat) : (mvL T cone k).length ≤ k := by
 unfold mvL
 have := List.length_filter_le (fun i => memB cone (T.rules.getD i default).head) (List.range k)
 simpa using this
/-- A rule that is moved. -/
def movR (T : Th) (D : List Int) (i : Nat) : Rule := ⟨(T.rules.getD i default).kind, ixD D (T.rules.getD i default).head, srt ((T.rules.getD i default).body.map (ixD D))⟩
def movRs (T : Th) (D cone : List Int) (k : Nat) : List Rule := (mvL T cone k).map (movR T D)
theorem movRs_succ (T : Th) (D cone : List Int) (k : Nat) : movRs T D cone (k + 1) = if memB cone (T.rules.getD k default).head = true then movRs T D cone k ++ [movR T D k] else movRs T D cone k := by
 unfold movRs
 rw [mvL_succ]
 split <;> simp
/-- What the outer literals that have come say. -/
def sayAll (S : List Nat) (D : List Int) (n : Nat) (vis : List Nat) : List Rule := vis.reverse.flatMap fun j => if n ≤ j then sayRs (S.getD (D.getD j 0).toNat 0) j else []
def sayFacts (S : List Nat) (D : List Int) (n : Nat) (vis : List Nat) : List Int := vis.reverse.flatMap fun j => if n ≤ j then sayFs (S.getD (D.getD j 0).toNat 0) j else []
theorem sayAll_cons (S : List Nat) (D : List Int) (n j : Nat) (vis : List Nat) : sayAll S D n (j :: vis) = sayAll S D n vis ++ if n ≤ j then sayRs (S.getD (D.getD j 0).toNat 0) j else [] := by
 simp [sayAll]
theorem sayFacts_cons (S : List Nat) (D : List Int) (n j : Nat) (vis : List Nat) : sayFacts S D n (j :: vis) = sayFacts S D n vis ++ if n ≤ j then sayFs (S.getD (D.getD j 0).toNat 0) j else [] := by
 simp [sayFacts]
/-- The facts that lie in the cone. -/
def inFacts (D cone F : List Int) : List Int := (F.filter fun q => memB cone q).map (ixD D)
/-- The foes of a part. -/
def cutFoes (T : Th) (D : List Int) (n : Nat) : List (List Int) := (List.range D.length).map fun j => if j < n then (row T.foes (D.getD j 0)).map (ixD D) else []
section
variable {T : Th} {D cone : List Int}
theorem olNd {n : Nat} (hD : DOk n D) : (D.map Int.toNat).Nodup := by
 rw [List.nodup_iff_pairwise_ne, List.pairwise_map]
 refine (List.nodup_iff_pairwise_ne.1 hD.nd).imp_of_mem fun {a b} ha hb hne e => hne ?_
 have := (hD.rg a ha).1
 have := (hD.rg b hb).1
 omega
theorem olIdx {n : Nat} (hD : DOk n D) {y : Int} (hy : y ∈ D) : (D.map Int.toNat).idxOf y.toNat = D.idxOf y := by
 have hi := List.idxOf_lt_length_of_mem hy
 have hi2 : D.idxOf y < (D.map Int.toNat).length := by simpa using hi
 have := idx_of (olNd hD) hi2
 rw [List.getElem_map, List.getElem_idxOf] at this
 exact this
theorem ixD_of {n : Nat} (hD : DOk n D) {y : Int} (hy : y ∈ D) : ixD D y = (((D.map Int.toNat).idxOf y.toNat : Nat) : Int) := by
 unfold ixD
 rw [if_pos hy, olIdx hD hy]
theorem mem_coneL {o : List Int} {q : Nat} : (q : Int) ∈ coneL T o ↔ q < T.foes.length ∧ InCone T o q := by
 unfold coneL
 rw [mem_pickD]
 constructor
 ·rintro ⟨x, hx, e, h⟩
  have : q = x := by omega
  subst this
  exact ⟨hx, by simpa using h⟩
 ·rintro ⟨h1, h2⟩
  exact ⟨q, h1, rfl, by simpa using h2⟩
theorem coneL_ok (T : Th) (o : List Int) : DOk T.foes.length (coneL T o) := by
 refine ⟨?_, fun x hx => ?_⟩
 ·unfold coneL
  exact List.nodup_iff_pairwise_ne.2 ((pickD_sorted _ _).imp fun h => by omega)
 ·unfold coneL at hx
  obtain ⟨y, h1, rfl, _⟩ := mem_pickD.1 hx
  omega
end
section
variable {T : Th} {o F : List Int} {S : List Nat}
/-- What cut leaves. -/
theorem cut_of (hwf : WfTh T) {D : List Int} (hDe : D = outL T (coneL T o) T.rules.length) {vis : List Nat} (hvis : ∀ j, j ∈ vis ↔ j < D.length) {BE : List (List Int)} {l : List Int} (hF : ∀ x ∈ F, 0 ≤ x)
  (hBE : ∀ k (h : k < (mvL T (coneL T o) T.rules.length).length) (x : Int), x ∈ BE.getD k [] ↔ x ∈ (beatsAt T (mvL T (coneL T o) T.rules.length)[k]).map (ixD ((mvL T (coneL T o) T.rules.length).map fun (i : Nat) => (i : Int))))
  (hl : ∀ x : Int, x ∈ l ↔ x ∈ sayFacts S D (coneL T o).length vis ++ inFacts D (coneL T o) F) :
  Cut T ⟨D.length, cutFoes T D (coneL T o).length, movRs T D (coneL T o) T.rules.length ++ sayAll S D (coneL T o).length vis, BE⟩ F l o S (D.map Int.toNat) (coneL T o).length (mvL T (coneL T o) T.rules.length) := by
 have hD : DOk T.foes.length D := by rw [hDe]; exact outL_ok hwf (coneL_ok T o) (Nat.le_refl _)
 obtain ⟨E, hE⟩ := outL_pre T (coneL T o) T.rules.length (Nat.le_refl _)
 rw [← hDe] at hE
 have hnl : (coneL T o).length ≤ D.length := by rw [hE, List.length_append]; omega
 have hcD : ∀ x ∈ coneL T o, x ∈ D := fun x hx => by rw [hE]; exact List.mem_append_left _ hx
 have hhead : ∀ i q : Nat, i < T.rules.length → (T.rules.getD i default).head = (q : Int) → InCone T o q → memB (coneL T o) (T.rules.getD i default).head = true := fun i q h1 h2 h3 => by
  have h4 := hwf.ru _ (List.getElem_mem h1)
  have e : T.rules.getD i default = T.rules[i] := by simp [h1]
  rw [← e] at h4
  simp only [ruleOk, Bool.and_eq_true, decide_eq_true_eq] at h4
  rw [memB_true, h2]
  refine mem_coneL.2 ⟨?_, h3⟩
  have := hwf.fl
  omega
 have hhead2 : ∀ i : Nat, memB (coneL T o) (T.rules.getD i default).head = true → ∃ q : Nat, (T.rules.getD i default).head = (q : Int) ∧ InCone T o q := fun i h => by
  rw [memB_true] at h
  have h0 := (coneL_ok T o).rg _ h
  obtain ⟨q, hq⟩ := Int.eq_ofNat_of_zero_le h0.1
  rw [hq] at h
  exact ⟨q, hq, (mem_coneL.1 h).2⟩
 have hbod : ∀ i : Nat, i < T.rules.length → memB (coneL T o) (T.rules.getD i default).head = true → ∀ y ∈ (T.rules.getD i default).body, y ∈ D := fun i h1 h2 y hy => by
  rw [hDe]; exact outL_body (Nat.le_refl _) h1 h2 y hy
 have hgD : ∀ j (h : j < D.length), D.getD j 0 = D[j] := fun j h => by simp [h]
 have hol : ∀ j (h : j < (D.map Int.toNat).length), (((D.map Int.toNat)[j] : Nat) : Int) = D[j]'(by simpa using h) := fun j h => by
  rw [List.getElem_map]
  exact Int.toNat_of_nonneg (hD.rg _ (List.getElem_mem _)).1
 have hcj : ∀ j (h : j < D.length), j < (coneL T o).length → D[j] ∈ coneL T o := fun j h hj => by
  have : D[j] = (coneL T o)[j] := by simp only [hE]; exact List.getElem_append_left hj
  rw [this]; exact List.getElem_mem hj
 have hlen : (movRs T D (coneL T o) T.rules.length).length = (mvL T (coneL T o) T.rules.length).length := by simp [movRs]
 have hmv : ∀ k (h : k < (mvL T (coneL T o) T.rules.length).length), (movRs T D (coneL T o) T.rules.length ++ sayAll S D (coneL T o).length vis).getD k default = movR T D (mvL T (coneL T o) T.rules.length)[k] := fun k h => by
  rw [List.getD_eq_getElem?_getD, List.getElem?_append_left (by rw [hlen]; exact h)]
  simp [movRs, h]
 have hsay : ∀ r, r ∈ sayAll S D (coneL T o).length vis ↔ ∃ j, j < D.length ∧ (coneL T o).length ≤ j ∧ r ∈ sayRs (S.getD (D.getD j 0).toNat 0) j := fun r => by
  unfold sayAll
  rw [List.mem_flatMap]
  constructor
  ·rintro ⟨j, hj, hr⟩
   rw [List.mem_reverse, hvis] at hj
   by_cases h : (coneL T o).length ≤ j
   ·rw [if_pos h] at hr; exact ⟨j, hj, h, hr⟩
   ·rw [if_neg h] at hr; cases hr
  ·rintro ⟨j, hj, h, hr⟩
   exact ⟨j, by rw [List.mem_reverse, hvis]; exact hj, by rw [if_pos h]; exact hr⟩
 have hsayf : ∀ x, x ∈ sayFacts S D (coneL T o).length vis ↔ ∃ j, j < D.length ∧ (coneL T o).length ≤ j ∧ x ∈ sayFs (S.getD (D.getD j 0).toNat 0) j := fun r => by
  unfold sayFacts
  rw [List.mem_flatMap]
  constructor
  ·rintro ⟨j, hj, hr⟩
   rw [List.mem_reverse, hvis] at hj
   by_cases h : (coneL T o).length ≤ j
   ·rw [if_pos h] at hr; exact ⟨j, hj, h, hr⟩
   ·rw [if_neg h] at hr; cases hr
  ·rintro ⟨j, hj, h, hr⟩
   exact ⟨j, by rw [List.mem_reverse, hvis]; exact hj, by rw [if_pos h]; exact hr⟩
 have hex : ∀ r, r ∈ sayAll S D (coneL T o).length vis → ∃ k, k < (movRs T D (coneL T o) T.rules.length ++ sayAll S D (coneL T o).length vis).length ∧ (movRs T D (coneL T o) T.rules.length ++ sayAll S D (coneL T o).length vis).getD k default = r := fun r hr => by
  obtain ⟨k, hk, e⟩ := List.getElem_of_mem hr
  refine ⟨(movRs T D (coneL T o) T.rules.length).length + k, by rw [List.length_append]; omega, ?_⟩
  rw [List.getD_eq_getElem?_getD, List.getElem?_append_right (by omega)]
  simp [hk, e]
 have hgo : ∀ j (hj : j < (D.map Int.toNat).length), (D.map Int.toNat)[j] = (D.getD j 0).toNat := fun j hj => by rw [List.getElem_map, hgD j (by simpa using hj)]
 refine ⟨olNd hD, fun q hq => ?_, by simpa using hnl, fun q => ?_, fun i q h1 h2 h3 y hy => ?_, by simp [cutFoes], fun j hj hjn => ?_, fun j hj => ?_, mvL_nd _ _ _, fun i => ?_, by simp [hlen], fun k hk => ?_, fun k h1 h2 => ?_, fun j hj hjn h0 h1 => ?_, fun j hj hjn h0 h1 => ?_, fun j hj hjn h0 h1 h2 => ?_, fun k hk x => ?_, fun j hj => ?_⟩
 ·obtain ⟨x, hx, rfl⟩ := List.mem_map.1 hq
  have := hD.rg x hx
  omega
 ·rw [← List.map_take]
  have e : D.take (coneL T o).length = coneL T o := by rw [hE]; simp
  rw [e, List.mem_map]
  constructor
  ·rintro ⟨x, hx, rfl⟩
   have := ((coneL_ok T o).rg x hx).1
   refine mem_coneL.1 ?_
   rw [Int.toNat_of_nonneg this]; exact hx
  ·intro h
   exact ⟨(q : Int), mem_coneL.2 h, by simp⟩
 ·exact List.mem_map.2 ⟨(y : Int), hbod i h1 (hhead i q h1 h2 h3) _ hy, by simp⟩
 ·have hjD : j < D.length := by simpa using hj
  simp only [row, Int.toNat_natCast, cutFoes]
  rw [List.getD_eq_getElem?_getD, List.getElem?_map, List.getElem?_range hjD]
  simp only [Option.map_some, Option.getD_some, if_pos hjn, hgD j hjD]
  rw [List.getElem_map]
  refine List.map_congr_left fun f hf => ixD_of hD (hcD f ?_)
  have hc := hcj j hjD hjn
  have h0 := (hD.rg _ (List.getElem_mem hjD))
  obtain ⟨q, hq⟩ := Int.eq_ofNat_of_zero_le h0.1
  rw [hq] at hc hf
  have hf' : f ∈ row T.foes (q : Int) := by simpa [row] using hf
  have hc2 := mem_coneL.1 hc
  rw [row_nat _ _ hc2.1] at hf'
  obtain ⟨y, hy, rfl, _⟩ := foe_in hwf hc2.1 hf'
  refine mem_coneL.2 ⟨hy, .foe hc2.2 ?_⟩
  rw [row_nat _ _ hc2.1]; exact hf'
 ·simp only [row, Int.toNat_natCast, cutFoes]
  by_cases hjD : j < D.length
  ·rw [List.getD_eq_getElem?_getD, List.getElem?_map, List.getElem?_range hjD]
   simp only [Option.map_some, Option.getD_some]
   rw [if_neg (by omega)]
  ·rw [List.getD_eq_getElem?_getD, List.getElem?_eq_none (by simp; omega)]
   rfl
 ·rw [mem_mvL]
  constructor
  ·rintro ⟨h1, h2⟩
   exact ⟨h1, hhead2 i h2⟩
  ·rintro ⟨h1, q, h2, h3⟩
   exact ⟨h1, hhead i q h1 h2 h3⟩
 ·have hm := mem_mvL.1 (List.getElem_mem hk)
  dsimp only
  rw [hmv k hk]
  refine ⟨rfl, ixD_of hD (hcD _ (memB_true.1 hm.2)), fun x => ?_⟩
  simp only [movR]
  rw [mem_srt, List.mem_map]
  constructor
  ·rintro ⟨y, hy, rfl⟩
   exact ⟨y, hy, ixD_of hD (hbod _ hm.1 hm.2 y hy)⟩
  ·rintro ⟨y, hy, rfl⟩
   exact ⟨y, hy, ixD_of hD (hbod _ hm.1 hm.2 y hy)⟩
 ·dsimp only at h2 ⊢
  have h3 : k - (movRs T D (coneL T o) T.rules.length).length < (sayAll S D (coneL T o).length vis).length := by rw [List.length_append] at h2; omega
  have e : (movRs T D (coneL T o) T.rules.length ++ sayAll S D (coneL T o).length vis).getD k default = (sayAll S D (coneL T o).length vis)[k - (movRs T D (coneL T o) T.rules.length).length] := by
   rw [List.getD_eq_getElem?_getD, List.getElem?_append_right (by omega)]
   simp [h3]
  obtain ⟨j, hj, hjn, hr⟩ := (hsay _).1 (List.getElem_mem h3)
  rw [e]
  refine ⟨j, by simpa using hj, hjn, ?_⟩
  have e2 : (D.map Int.toNat)[j]'(by simpa using hj) = (D.getD j 0).toNat := by rw [List.getElem_map, hgD j hj]
  rw [e2]
  generalize (sayAll S D (coneL T o).length vis)[k - (movRs T D (coneL T o) T.rules.length).length] = r at hr ⊢
  unfold sayRs at hr
  unfold SayR hasM
  simp only [Int.toNat_natCast]
  generalize S.getD (D.getD j 0).toNat 0 = m at hr ⊢
  cases h0 : m.testBit 0 <;> cases h1 : m.testBit 1 <;> cases h2 : m.testBit 2 <;> cases h3 : m.testBit 3 <;> simp [h0, h1, h2, h3] at hr <;> (try rcases hr with rfl | rfl) <;> (try subst hr) <;> simp [h0, h1, h2, h3]
 ·refine hex _ ((hsay _).2 ⟨j, by simpa using hj, hjn, ?_⟩)
  rw [hgo j hj] at h0 h1
  unfold hasM at h0 h1
  simp only [Int.toNat_natCast] at h0 h1
  unfold sayRs; rw [h0, h1]; simp
 ·refine hex _ ((hsay _).2 ⟨j, by simpa using hj, hjn, ?_⟩)
  rw [hgo j hj] at h0 h1
  unfold hasM at h0 h1
  simp only [Int.toNat_natCast] at h0 h1
  unfold sayRs; rw [h0, h1]; simp
 ·refine hex _ ((hsay _).2 ⟨j, by simpa using hj, hjn, ?_⟩)
  rw [hgo j hj] at h0 h1 h2
  unfold hasM at h0 h1 h2
  simp only [Int.toNat_natCast] at h0 h1 h2
  unfold sayRs; rw [h0, h1, h2]; simp
 ·have hm := mem_mvL.1 (List.getElem_mem hk)
  have hmD : DOk T.rules.length ((mvL T (coneL T o) T.rules.length).map fun (i : Nat) => (i : Int)) := by
   refine ⟨?_, fun y hy => ?_⟩
   ·rw [List.nodup_iff_pairwise_ne, List.pairwise_map]
    exact (List.nodup_iff_pairwise_ne.1 (mvL_nd T (coneL T o) T.rules.length)).imp fun h e => h (by omega)
   ·obtain ⟨i, hi, rfl⟩ := List.mem_map.1 hy
    have := (mem_mvL.1 hi).1
    omega
  have hmap : ((mvL T (coneL T o) T.rules.length).map fun (i : Nat) => (i : Int)).map Int.toNat = mvL T (coneL T o) T.rules.length := by
   rw [List.map_map]
   conv => rhs; rw [← List.map_id (mvL T (coneL T o) T.rules.length)]
   exact List.map_congr_left fun i _ => by simp
  have hix : ∀ y ∈ beatsAt T (mvL T (coneL T o) T.rules.length)[k], ixD ((mvL T (coneL T o) T.rules.length).map fun (i : Nat) => (i : Int)) y = (((mvL T (coneL T o) T.rules.length).idxOf y.toNat : Nat) : Int) := fun y hy => by
   obtain ⟨hy0, hyn, hyf⟩ := beats_in hwf hm.1 hy
   obtain ⟨z, rfl⟩ := Int.eq_ofNat_of_zero_le hy0
   have hz : z < T.rules.length := by omega
   obtain ⟨q, hq, hqc⟩ := hhead2 _ hm.2
   have hzm : z ∈ mvL T (coneL T o) T.rules.length := by
    have hfo := memB_true.1 hyf
    have e3 : headOf T (((mvL T (coneL T o) T.rules.length)[k] : Nat) : Int) = (q : Int) := by simpa [headOf] using hq
    rw [e3] at hfo
    have hc2 := mem_coneL.1 (by rw [← hq]; exact memB_true.1 hm.2 : (q : Int) ∈ coneL T o)
    have hf0 := hfo
    rw [row_nat _ _ hc2.1] at hf0
    obtain ⟨y2, hy2, e4, _⟩ := foe_in hwf hc2.1 hf0
    have e5 : (T.rules.getD z default).head = (y2 : Int) := by simpa [headOf] using e4
    refine mem_mvL.2 ⟨hz, hhead z y2 hz e5 (.foe hqc ?_)⟩
    rw [← e4]; exact hfo
   rw [ixD_of hmD (List.mem_map.2 ⟨z, hzm, rfl⟩), hmap]
  have e : beatsAt (⟨D.length, cutFoes T D (coneL T o).length, movRs T D (coneL T o) T.rules.length ++ sayAll S D (coneL T o).length vis, BE⟩ : Th) k = BE.getD k [] := rfl
  rw [e, hBE k hk, List.mem_map]
  constructor
  ·rintro ⟨y, hy, rfl⟩
   exact ⟨y, hy, hix y hy⟩
  ·rintro ⟨y, hy, rfl⟩
   exact ⟨y, hy, hix y hy⟩
 ·have hjD : j < D.length := by simpa using hj
  rw [hl, List.mem_append, hsayf]
  constructor
  ·rintro (⟨j', h1, h2, h3⟩ | h)
   ·right
    unfold sayFs at h3
    by_cases hb : (S.getD (D.getD j' 0).toNat 0).testBit 0 = true
    ·rw [if_pos hb, List.mem_singleton] at h3
     have : j = j' := by omega
     subst this
     refine ⟨h2, ?_⟩
     rw [hgo j hj]
     unfold hasM; simp only [Int.toNat_natCast]; exact hb
    ·rw [if_neg hb] at h3; cases h3
   ·left
    unfold inFacts at h
    rw [List.mem_map] at h
    obtain ⟨q, hq, e⟩ := h
    rw [List.mem_filter] at hq
    have hqc := memB_true.1 hq.2
    have hqD := hcD q hqc
    unfold ixD at e
    rw [if_pos hqD] at e
    have e2 : D.idxOf q = j := by omega
    have hlt : D.idxOf q < (coneL T o).length := by rw [hE, List.idxOf_append, if_pos hqc]; exact List.idxOf_lt_length_of_mem hqc
    refine ⟨by omega, ?_⟩
    rw [hol j hj]
    have : D[j] = q := by
     have h9 := List.getElem_idxOf (List.idxOf_lt_length_of_mem hqD)
     simp only [e2] at h9; exact h9
    rw [this]; exact hq.1
  ·rintro (⟨h1, h2⟩ | ⟨h1, h2⟩)
   ·right
    rw [hol j hj] at h2
    unfold inFacts
    rw [List.mem_map]
    have hc := hcj j hjD h1
    refine ⟨D[j], List.mem_filter.2 ⟨h2, memB_true.2 hc⟩, ?_⟩
    unfold ixD
    rw [if_pos (hcD _ hc)]
    have h9 := List.idxOf_lt_length_of_mem (hcD _ hc)
    have h8 := List.getElem_idxOf h9
    have : D.idxOf D[j] = j := by
     rcases Nat.lt_trichotomy (D.idxOf D[j]) j with h | h | h
     ·exact absurd h8 (List.pairwise_iff_getElem.1 (List.nodup_iff_pairwise_ne.1 hD.nd) _ _ h9 hjD h)
     ·exact h
     ·exact absurd h8.symm (List.pairwise_iff_getElem.1 (List.nodup_iff_pairwise_ne.1 hD.nd) _ _ hjD h9 h)
    rw [this]
   ·left
    refine ⟨j, hjD, h1, ?_⟩
    rw [hgo j hj] at h2
    unfold hasM at h2; simp only [Int.toNat_natCast] at h2
    unfold sayFs; rw [if_pos h2]; exact List.mem_singleton.2 rfl
end
end Go.Proofs.Lx

namespace Go.Proofs.Lx
open Go Go.RowKit
set_option linter.unusedVariables false
set_option linter.unusedSimpArgs false
/-- Rows of ints in the array g; all else that was there in W1 is as it was. -/
structure HX (W1 w : World) (g : Nat) (vs : List Value) (xss : List (List Int)) : Prop where
 rows : Rows w g W1.heap.size 36 3 vs xss
 os : w.os = W1.os
 tape : w.tape = W1.tape
 output : w.output = W1.output
 sz : W1.heap.size ≤ w.heap.size
 old : ∀ k, k < W1.heap.size → k ≠ g → w.heap[k]? = W1.heap[k]?
section
variable {W1 w w' : World} {g : Nat} {vs : List Value} {xss : List (List Int)}
theorem HX.start {w : World} {g n : Nat} (h : w.heap[g]? = some (.cells (List.replicate n (Value.slice none 0 0)).toArray 36 (0, 0))) : HX w w g (List.replicate n (.slice none 0 0)) (List.replicate n []) :=
 ⟨Rows.made w g _ _ _ n (lt_of_block h) h, rfl, rfl, rfl, Nat.le_refl _, fun _ _ _ => rfl⟩
theorem HX.ext (h : HX W1 w g vs xss) (hb : Below w.heap.size w w') : HX W1 w' g vs xss :=
 ⟨h.rows.ext hb, hb.os.trans h.os, hb.tape.trans h.tape, hb.output.trans h.output, Nat.le_trans h.sz hb.size, fun k h1 h2 => (hb.block k (Nat.lt_of_lt_of_le h1 h.sz)).trans (h.old k h1 h2)⟩
/-- A block that holds no cells turns. -/
theorem HX.other (h : HX W1 w g vs xss) {r : Nat} (hg : w.grownBy w' (some r)) (hr : W1.heap.size ≤ r) (hc : ∀ c e f, w.heap[r]? ≠ some (.cells c e f)) : HX W1 w' g vs xss := by
 refine ⟨⟨(hg.block g h.rows.lt fun e => ?_).trans h.rows.blk, h.rows.len, fun q h1 h2 => (h.rows.own q h1 h2).kept hg (.inr fun e => ?_), h.rows.ne, h.rows.hg⟩, hg.os.trans h.os, hg.tape.trans h.tape, hg.output.trans h.output, Nat.le_trans h.sz hg.size, fun k h1 h2 => (hg.block k (Nat.lt_of_lt_of_le h1 h.sz) fun e => ?_).trans (h.old k h1 h2)⟩
 ·injection e with e; subst e; exact hc _ _ _ h.rows.blk
 ·rcases (h.rows.own q h1 h2).2 with ⟨e2, _⟩ | ⟨g2, c2, u2, e2, _, e3, _⟩
  ·rw [e2] at e; simp [Value.ownBlock] at e
  ·rw [e2] at e
   have : g2 = r := by simpa [Value.ownBlock] using e
   subst this; exact hc _ _ _ e3
 ·injection e with e; omega
theorem HX.append (h : HX W1 w g vs xss) {A : Obj} {q : Nat} (hq : q < vs.length) (hq' : q < xss.length) {v' : Value} {x : Int} (hgr : ((w.alloc A).drew).grownBy w' vs[q].ownBlock)
  (ho : w'.ownsRow W1.heap.size 3 1 v' (xss[q].length + 1) (intsV xss[q] ++ [.int .i64 x])) (hat : v'.ownBlock = vs[q].ownBlock ∨ v'.ownBlock = some ((w.alloc A).drew).heap.size) :
  HX W1 (w'.setCell ⟨g, q, none⟩ v') g (vs.set q v') (xss.set q (xss[q] ++ [x])) := by
 have h2 := h.ext ((ext_alloc w A).drew)
 have hsz := hgr.size
 have h1 := h.sz
 have hs := h2.sz
 refine ⟨h2.rows.append hs hq hq' hgr ho (hat.imp id fun e => ⟨_, e, Nat.le_refl _⟩), hgr.os.trans h2.os, hgr.tape.trans h2.tape, hgr.output.trans h2.output, by rw [World.size_setCell]; omega, fun k hk hne => ?_⟩
 rw [heap_setCell_other _ _ _ _ (by dsimp only; omega)]
 rw [hgr.block k (by omega) (fun e => by have := ((h2.rows.own q hq hq').lt _ e.symm).1; omega)]
 exact h2.old k hk hne
/-- Behind the growth of a row: older blocks, and the rows' array. -/
theorem HX.after (h : HX W1 w g vs xss) {A : Obj} {q : Nat} (hq : q < vs.length) (hgr : ((w.alloc A).drew).grownBy w' vs[q].ownBlock) :
  (∀ k, k < W1.heap.size → k ≠ g → w'.heap[k]? = W1.heap[k]?) ∧ w'.cell? ⟨g, q, none⟩ = some vs[q] ∧ w'.frozen? ⟨g, q, none⟩ = false := by
 have hq' : q < xss.length := by rw [← h.rows.len]; exact hq
 have h2 := h.ext ((ext_alloc w A).drew)
 have hs := h2.sz
 have ho := h2.rows.own q hq hq'
 have hg := (hgr.block g h2.rows.lt fun e => by have := (ho.lt _ e.symm).1; have := h.rows.hg; omega).trans h2.rows.blk
 refine ⟨fun k hk hne => ?_, ?_, frozen_of_row w' g q _ _ hg⟩
 ·rw [hgr.block k (by omega) (fun e => by have := (ho.lt _ e.symm).1; omega)]
  exact h2.old k hk hne
 ·rw [cell_of_row w' g q _ _ _ hg]; simp [hq]
/-- A row is sorted where it lies. -/
theorem HX.sorted (h : HX W1 w g vs xss) {q : Nat} (hq : q < vs.length) (hq' : q < xss.length) {ys : List Int} (hl : ys.length = xss[q].length) (hgr : w.grownBy w' vs[q].ownBlock) (ho : w'.ownsRow W1.heap.size 3 1 vs[q] xss[q].length (intsV ys)) :
  HX W1 w' g vs (xss.set q ys) := by
 have hb := (h.rows.own q hq hq').lt
 have hsz := h.sz
 refine ⟨⟨(hgr.block g h.rows.lt fun e => by have := (hb _ e.symm).1; have := h.rows.hg; omega).trans h.rows.blk, by rw [List.length_set]; exact h.rows.len, fun r h1 h2 => ?_, h.rows.ne, h.rows.hg⟩, hgr.os.trans h.os, hgr.tape.trans h.tape, hgr.output.trans h.output, Nat.le_trans h.sz hgr.size, fun k h1 h2 => (hgr.block k (by omega) fun e => by have := (hb _ e.symm).1; omega).trans (h.old k h1 h2)⟩
 rw [List.length_set] at h2
 by_cases e : q = r
 ·subst e
  simp only [List.getElem_set_self]
  rw [hl]; exact ho
 ·simp only [List.getElem_set_ne e]
  exact (h.rows.own r h1 h2).kept hgr (h.rows.ne r q h1 hq (Ne.symm e))
/-- How the rows read in every world that has their blocks. -/
theorem HX.reads (h : HX W1 w g vs xss) (hl : xss.length ≤ 140737488355328) (hx : ∀ q (h : q < xss.length), xss[q].length ≤ 140737488355328) (c : Nat) (hc : xss.length ≤ c) {W : World} (hg : W.heap[g]? = w.heap[g]?) (hk : ∀ k, W1.heap.size ≤ k → k < w.heap.size → W.heap[k]? = w.heap[k]?) :
  RdLL W (.slice (some ⟨g, 0, none⟩) xss.length c) xss := by
 have hR : Rows W g W1.heap.size 36 3 vs xss := ⟨hg.trans h.rows.blk, h.rows.len, fun q h1 h2 => own_heap (h.rows.own q h1 h2) fun k k1 k2 => hk k k1 k2, h.rows.ne, h.rows.hg⟩
 exact hR.reads hl hx c hc
end
theorem IM.lookx {w : World} {b : Nat} {l : List Int} (h : IM w b l) {s : Int} (hw : (Lit.int .i64 s).wf = true) :
  (Instr.lookup 129 (.map (some b)) (.int .i64 s) false).run Tryz.prog w = .ok (.int .i64 (ixD l s)) w := by
 rw [h.look hw]
 congr 2
 unfold ixD
 split <;> simp
/-- All but the box p is as it was. -/
structure Kp (p : Nat) (a b : World) : Prop where
 os : b.os = a.os
 tape : b.tape = a.tape
 output : b.output = a.output
 sz : a.heap.size ≤ b.heap.size
 old : ∀ k, k < a.heap.size → k ≠ p → b.heap[k]? = a.heap[k]?
theorem Kp.refl (p : Nat) (a : World) : Kp p a a := ⟨rfl, rfl, rfl, Nat.le_refl _, fun _ _ _ => rfl⟩
theorem Kp.trans {p : Nat} {a b c : World} (h : Kp p a b) (k : Kp p b c) : Kp p a c := ⟨k.os.trans h.os, k.tape.trans h.tape, k.output.trans h.output, Nat.le_trans h.sz k.sz, fun j h1 h2 => (k.old j (Nat.lt_of_lt_of_le h1 h.sz) h2).trans (h.old j h1 h2)⟩
theorem Kp.below {p : Nat} {a b : World} (h : Below a.heap.size a b) : Kp p a b := ⟨h.os, h.tape, h.output, h.size, fun k h1 _ => h.block k h1⟩
theorem Kp.grown {p : Nat} {a b c : World} {row : Option Nat} (h : Kp p a b) (hg : b.grownBy c row) (hr : ∀ k, row = some k → a.heap.size ≤ k ∨ k = p) : Kp p a c :=
 ⟨hg.os.trans h.os, hg.tape.trans h.tape, hg.output.trans h.output, Nat.le_trans h.sz hg.size, fun k h1 h2 => (hg.block k (Nat.lt_of_lt_of_le h1 h.sz) fun e => by rcases hr k e.symm with h9 | h9 <;> omega).trans (h.old k h1 h2)⟩
theorem Kp.set {p : Nat} {a b : World} (h : Kp p a b) {x : Addr} (hx : x.block = p ∨ a.heap.size ≤ x.block) (v : Value) : Kp p a (b.setCell x v) :=
 ⟨h.os, h.tape, h.output, by rw [World.size_setCell]; exact h.sz, fun k h1 h2 => by rw [heap_setCell_other _ _ _ _ (by rcases hx with h9 | h9 <;> omega)]; exact h.old k h1 h2⟩
/-- Behind a box above B: all below B is as it was. -/
theorem Kp.low {p : Nat} {a b : World} (h : Kp p a b) {B : Nat} (hB : B ≤ a.heap.size) (hp : B ≤ p) : Below B a b := ⟨h.os, h.tape, h.output, h.sz, fun k hk => h.old k (by omega) (by omega)⟩
/-- A block that holds cells is none that a map's or a range's is. -/
theorem IM.noCells {w : World} {b : Nat} {l : List Int} (h : IM w b l) : ∀ c e f, w.heap[b]? ≠ some (.cells c e f) := by
 obtain ⟨hl, D, h1, es, clock, hb, F, hs, hD⟩ := h
 intro c e f h9
 rw [hb] at h9; cases h9
theorem RG.noCells {w : World} {b r cnt : Nat} {l : List Int} {vis : List Nat} (h : RG w b r l vis cnt) : ∀ c e f, w.heap[r]? ≠ some (.cells c e f) := by
 obtain ⟨hl, hn, hv, D, left, h1, ⟨es, clock, since, seen, c0, hb, F, hs, hD, hr, rest⟩, h3⟩ := h
 intro c e f h9
 rw [hr] at h9; cases h9
theorem own_ne_map {w : World} {base e size n g : Nat} {v : Value} {xs : List Value} (h : w.ownsRow base e size v n xs) (hg : ∀ c e f, w.heap[g]? ≠ some (.cells c e f)) : v.ownBlock ≠ some g := by
 intro hb
 rcases h.2 with ⟨rfl, _⟩ | ⟨k, cap, cur, rfl, _, h3, _⟩
 ·simp [Value.ownBlock] at hb
 ·have : k = g := by simpa [Value.ownBlock] using hb
  subst this
  exact hg _ _ _ h3
def dF : Code → Code
 | .seq a _ => a
 | c => c
def dS : Code → Code
 | .seq _ b => b
 | c => c
def dB : Code → Code
 | .block _ b => b
 | c => c
def dL : Code → Code
 | .loop b => b
 | c => c
def dT : Code → Code
 | .cond _ a _ => a
 | c => c
end Go.Proofs.Lx
