/- Parts of the proof: Io. delta's Add, Drop, Set: one contract each, whatever they answer. -/
import Derived.Test.YtbidjiopnddldaaGreatP31
namespace Go.Proofs.Lx
open Go Go.RowKit Go.Proofs.Tj
set_option linter.unusedSimpArgs false
set_option linter.unusedVariables false
/-- A call that may turn an engine to other facts: what is answered, the engine, all else. -/
def CallD (w w' : World) (x : Nat) (vM : Value) (T : Th) (Ft : Nat → Prop) (r : Value) (err : Int) (ch : List (Int × Nat × Nat)) (G' U' : List Int) : Prop :=
 ∃ v, r = .tuple #[v, .int .i64 err] ∧ w'.ownsRow w.heap.size 60 3 v ch.length (chV ch) ∧
  EngD w' x vM T G' (solveM T G') U' (fun g => Ft g ∨ (w.heap.size ≤ g ∧ g < w'.heap.size)) ∧ Alt x vM w w' ∧ risB G' T.lits = true
theorem alt_below {x : Nat} {vM : Value} {w w' : World} (h : Below w.heap.size w w') : Alt x vM w w' := ⟨h.os, h.tape, h.output, h.size, fun k h1 _ _ => h.block k h1⟩
theorem CallD.refused {w w' : World} {x : Nat} {vM : Value} {T : Th} {G U : List Int} {Ft : Nat → Prop} (h : EngD w x vM T G (solveM T G) U Ft) (hG : risB G T.lits = true) (hb : Below w.heap.size w w') (err : Int) : CallD w w' x vM T Ft (.tuple #[.slice none 0 0, .int .i64 err]) err [] G U :=
 ⟨_, rfl, World.ownsRow_nil _ _ _ _, (h.ext hb).more (fun g hg => .inl hg) (fun g hg => by rcases hg with h9 | h9; exact Nat.lt_of_lt_of_le (h.ft g h9) hb.size; exact h9.2), alt_below hb, hG⟩
theorem CallD.turned {w w' : World} {x : Nat} {vM v : Value} {T : Th} {G F o : List Int} {Ft : Nat → Prop} (h : Turn w w' x vM T G F o Ft v) (hF : risB F T.lits = true) : CallD w w' x vM T Ft (.tuple #[v, .int .i64 0]) 0 (chL (solveM T G) (solveM T F) (coneL T o)) F (coneL T o) :=
 ⟨v, rfl, h.1, h.2.1, h.2.2, hF⟩
def addE (T : Th) (G : List Int) (q : Int) : Int := if q < 0 ∨ T.lits ≤ q then 1 else if q ∈ G then 181 else 0
def dropE (T : Th) (G : List Int) (q : Int) : Int := if q < 0 ∨ T.lits ≤ q then 1 else if q ∈ G then 0 else 181
def setE (T : Th) (F : List Int) : Int := if risB F T.lits = true then 0 else 181
/-- The facts, what is told and what is touched behind a call with an error e. -/
def nxG (e : Int) (F G : List Int) : List Int := if e = 0 then F else G
noncomputable def nxC (e : Int) (T : Th) (F G o : List Int) : List (Int × Nat × Nat) := if e = 0 then chL (solveM T G) (solveM T F) (coneL T o) else []
noncomputable def nxU (e : Int) (T : Th) (o U : List Int) : List Int := if e = 0 then coneL T o else U
section
variable (w : World) (x : Nat) (vM : Value) (T : Th) (G U : List Int) (Ft : Nat → Prop) (h : EngD w x vM T G (solveM T G) U Ft) (hwf : WfTh T) (hG : risB G T.lits = true)
include h hwf hG
theorem addD_any (q : Int) : Calls Tryz.prog 14 #[.pointer (some ⟨x, 0, none⟩), .int .i64 q] w (Ret fun r w' => CallD w w' x vM T Ft r (addE T G q) (nxC (addE T G q) T (addL G q) G [q]) (nxG (addE T G q) (addL G q) G) (nxU (addE T G q) T [q] U)) := by
 unfold addE
 by_cases h1 : q < 0 ∨ T.lits ≤ q
 ·rw [if_pos h1]
  refine (addD_arg w x vM T G _ U Ft h q h1).mono fun e w' hr0 => hr0.mono fun r w' hr => ?_
  obtain ⟨rfl, rfl⟩ := hr
  exact CallD.refused h hG (ext_refl _) 1
 ·rw [if_neg h1]
  by_cases h2 : q ∈ G
  ·rw [if_pos h2]
   refine (addD_fact w x vM T G _ U Ft h hG q (by omega) (by omega) h2).mono fun e w' hr0 => hr0.mono fun r w' hr => ?_
   obtain ⟨rfl, rfl⟩ := hr
   exact CallD.refused h hG (ext_refl _) 181
  ·rw [if_neg h2]
   refine (addD_ok w x vM T G U Ft h hwf hG q (by omega) (by omega) h2).mono fun e w' hr0 => hr0.mono fun r w' hr => ?_
   obtain ⟨v, rfl, ht⟩ := hr
   exact CallD.turned ht (add_ris hG ⟨by omega, by omega⟩ h2)
theorem dropD_any (q : Int) : Calls Tryz.prog 16 #[.pointer (some ⟨x, 0, none⟩), .int .i64 q] w (Ret fun r w' => CallD w w' x vM T Ft r (dropE T G q) (nxC (dropE T G q) T (dropL G q) G [q]) (nxG (dropE T G q) (dropL G q) G) (nxU (dropE T G q) T [q] U)) := by
 unfold dropE
 by_cases h1 : q < 0 ∨ T.lits ≤ q
 ·rw [if_pos h1]
  refine (dropD_arg w x vM T G _ U Ft h q h1).mono fun e w' hr0 => hr0.mono fun r w' hr => ?_
  obtain ⟨rfl, rfl⟩ := hr
  exact CallD.refused h hG (ext_refl _) 1
 ·rw [if_neg h1]
  by_cases h2 : q ∈ G
  ·rw [if_pos h2]
   refine (dropD_ok w x vM T G U Ft h hwf hG q (by omega) (by omega) h2).mono fun e w' hr0 => hr0.mono fun r w' hr => ?_
   obtain ⟨v, rfl, ht⟩ := hr
   exact CallD.turned ht (drop_ris hG)
  ·rw [if_neg h2]
   refine (dropD_fact w x vM T G _ U Ft h hG q (by omega) (by omega) h2).mono fun e w' hr0 => hr0.mono fun r w' hr => ?_
   obtain ⟨rfl, rfl⟩ := hr
   exact CallD.refused h hG (ext_refl _) 181
theorem setD_any (vF : Value) (F : List Int) (hF : RdI w vF F) : Calls Tryz.prog 18 #[.pointer (some ⟨x, 0, none⟩), vF] w (Ret fun r w' => CallD w w' x vM T Ft r (setE T F) (nxC (setE T F) T F G (notIn F G ++ notIn G F)) (nxG (setE T F) F G) (nxU (setE T F) T (notIn F G ++ notIn G F) U)) := by
 unfold setE
 by_cases h1 : risB F T.lits = true
 ·rw [if_pos h1]
  refine (setD_ok w x vM vF T G F U Ft h hwf hG hF h1).mono fun e w' hr0 => hr0.mono fun r w' hr => ?_
  obtain ⟨v, rfl, ht⟩ := hr
  exact CallD.turned ht h1
 ·rw [if_neg h1]
  refine (setD_fact w x vM vF T G F _ U Ft h hF h1).mono fun e w' hr0 => hr0.mono fun r w' hr => ?_
  obtain ⟨rfl, hb⟩ := hr
  exact CallD.refused h hG hb 181
end
end Go.Proofs.Lx
