/-
  No cell of these rows narrows 'for every input' (looked for: loops, veiled, ifaces, maps, wideKeys, modest, calm, conditions, laid).
  DERIVED. THE GIVEN ROWS OF THIS SEAT. 4 by the template 'for every input the law returns true; each argument reads behind the call as it read before'; 0 by the template 'total and deterministic' (their statements: YtbidjiopnddldaaGreatTotals.lean).
  GIVEN WITH THE SEED: the statements are not yours to turn. If you find one false, say at which input.
  Laid BY PROGRAM, IN A SANDBOX (cutbox-rows.mjs): the forced cells as the released guide's own fill.sh prints them over the translation be68fa0de1276f06… (all of the seat's roots in one cut). By AI agents, Wed Nov 11 2026. No macro, syntax, notation, axiom, sorry.
-/
import Derived.Test.YtbidjiopnddldaaGreatChecked
import GoSem.Claim
import GoSem.ClaimJoined
import GoSem.ClaimMapViews
import Derived.JoinedTies
import Derived.KernelRfl
namespace Go.Proofs.YtbidjiopnddldaaGreat
/- THE CELL 'sum', in the pinned program and in every row, IS THE sha256 OF THE DUMP (.gsa) THAT YtbidjiopnddldaaGreatProg.lean LOADS. Nothing in Lean hashes anything: it is a label: what it is worth is what the hold of that sum in a sandbox is worth. -/
noncomputable def Tryz.pinned : Pinned := { name := "ytbidjiopnddldaagreat", sum := "be68fa0de1276f06a03b4d9e6780ed23374bface1ed1d29dbaded8c63f013c65", checked := Tryz.checked }
namespace Rows
def none {H : Type} : Left H := { results := [], args := [] }

/-- 'lexpriorlaw19.DeltaCone': WHATEVER THE INPUT: true; the input reads as it did. -/
def deltaConeSpec : ChangeSpec := { name := "deltaCone", fn := fun _ => fun
  | [d1, d2] => { results := [.lit (.bool true)], args := [d1, d2] }
  | _ => none }
def deltaConeRow : OpenClaim := { program := "ytbidjiopnddldaagreat", sum := "be68fa0de1276f06a03b4d9e6780ed23374bface1ed1d29dbaded8c63f013c65", func := "lexprior/lexpriorlaw19.DeltaCone", spec := "deltaCone", inPlace := ["slices.overlaps[int]"], unfollowed := true, recurses := true, apart := false }
def DeltaConeSaid : Prop := deltaConeRow.holds Tryz.pinned (OpenSpec.ofChange deltaConeSpec)

/-- ITS FALSE NEIGHBOUR: 'it returns false'. Refute it at one input. -/
def deltaConeWrong : ChangeSpec := { name := "deltaCone", fn := fun _ => fun
  | [d1, d2] => { results := [.lit (.bool false)], args := [d1, d2] }
  | _ => none }
def DeltaConeWrongFalsely : Prop := deltaConeRow.holds Tryz.pinned (OpenSpec.ofChange deltaConeWrong)

/-- 'lexpriorlaw19.DeltaBack': WHATEVER THE INPUT: true; the input reads as it did. -/
def deltaBackSpec : ChangeSpec := { name := "deltaBack", fn := fun _ => fun
  | [d1, d2, d3, d4] => { results := [.lit (.bool true)], args := [d1, d2, d3, d4] }
  | _ => none }
def deltaBackRow : OpenClaim := { program := "ytbidjiopnddldaagreat", sum := "be68fa0de1276f06a03b4d9e6780ed23374bface1ed1d29dbaded8c63f013c65", func := "lexprior/lexpriorlaw19.DeltaBack", spec := "deltaBack", inPlace := ["slices.overlaps[int]"], unfollowed := true, recurses := true, apart := false }
def DeltaBackSaid : Prop := deltaBackRow.holds Tryz.pinned (OpenSpec.ofChange deltaBackSpec)

/-- ITS FALSE NEIGHBOUR: 'it returns false'. Refute it at one input. -/
def deltaBackWrong : ChangeSpec := { name := "deltaBack", fn := fun _ => fun
  | [d1, d2, d3, d4] => { results := [.lit (.bool false)], args := [d1, d2, d3, d4] }
  | _ => none }
def DeltaBackWrongFalsely : Prop := deltaBackRow.holds Tryz.pinned (OpenSpec.ofChange deltaBackWrong)

/-- 'lexpriorlaw19.DeltaPlays': WHATEVER THE INPUT: true; the input reads as it did. -/
def deltaPlaysSpec : ChangeSpec := { name := "deltaPlays", fn := fun _ => fun
  | [d1, d2] => { results := [.lit (.bool true)], args := [d1, d2] }
  | _ => none }
def deltaPlaysRow : OpenClaim := { program := "ytbidjiopnddldaagreat", sum := "be68fa0de1276f06a03b4d9e6780ed23374bface1ed1d29dbaded8c63f013c65", func := "lexprior/lexpriorlaw19.DeltaPlays", spec := "deltaPlays", inPlace := ["slices.overlaps[int]"], unfollowed := true, recurses := true, apart := false }
def DeltaPlaysSaid : Prop := deltaPlaysRow.holds Tryz.pinned (OpenSpec.ofChange deltaPlaysSpec)

/-- ITS FALSE NEIGHBOUR: 'it returns false'. Refute it at one input. -/
def deltaPlaysWrong : ChangeSpec := { name := "deltaPlays", fn := fun _ => fun
  | [d1, d2] => { results := [.lit (.bool false)], args := [d1, d2] }
  | _ => none }
def DeltaPlaysWrongFalsely : Prop := deltaPlaysRow.holds Tryz.pinned (OpenSpec.ofChange deltaPlaysWrong)

/-- 'lexpriorlaw19.DeltaOwn': WHATEVER THE INPUT: true; the input reads as it did. -/
def deltaOwnSpec : ChangeSpec := { name := "deltaOwn", fn := fun _ => fun
  | [d1, d2] => { results := [.lit (.bool true)], args := [d1, d2] }
  | _ => none }
def deltaOwnRow : OpenClaim := { program := "ytbidjiopnddldaagreat", sum := "be68fa0de1276f06a03b4d9e6780ed23374bface1ed1d29dbaded8c63f013c65", func := "lexprior/lexpriorlaw19.DeltaOwn", spec := "deltaOwn", inPlace := ["slices.overlaps[int]"], unfollowed := true, recurses := true, apart := false }
def DeltaOwnSaid : Prop := deltaOwnRow.holds Tryz.pinned (OpenSpec.ofChange deltaOwnSpec)

/-- ITS FALSE NEIGHBOUR: 'it returns false'. Refute it at one input. -/
def deltaOwnWrong : ChangeSpec := { name := "deltaOwn", fn := fun _ => fun
  | [d1, d2] => { results := [.lit (.bool false)], args := [d1, d2] }
  | _ => none }
def DeltaOwnWrongFalsely : Prop := deltaOwnRow.holds Tryz.pinned (OpenSpec.ofChange deltaOwnWrong)

/- THE SECOND FORM. 'bulk': how many values and letters a reading holds, each counted each time it is reached (what is shared counts as often as it is met; a slice's spare places count too). A statement '..UptoSaid' is the law's where the arguments, and the package variables that the reading takes, are together of bulk at most 1048576: NARROWER than '..Said'. Prove '..Said' where nothing that the law and all that it calls make is longer than what came in: it says more and counts as full. Else prove '..UptoSaid'. A law counts once. -/
mutual
def uptoBulk {H : Type} : DataW H → Nat
  | .lit (.string bytes) => bytes.length + 1
  | .lit _ => 1
  | .nil => 1
  | .ptr d => uptoBulk d + 1
  | .slice elems spare => uptoBulkAll elems + uptoBulkAll spare + 1
  | .agg parts => uptoBulkAll parts + 1
  | .iface _ d => uptoBulk d + 1
  | .map entries => uptoBulkEntries entries + 1
  | .held _ => 1
def uptoBulkAll {H : Type} : List (DataW H) → Nat
  | [] => 0
  | d :: r => uptoBulk d + uptoBulkAll r
def uptoBulkEntries {H : Type} : List (Lit × DataW H) → Nat
  | [] => 0
  | x :: r => uptoBulkEntry x + uptoBulkEntries r
def uptoBulkEntry {H : Type} : Lit × DataW H → Nat
  | (.string bytes, d) => bytes.length + uptoBulk d + 1
  | (_, d) => uptoBulk d + 1
 end
def uptoSmall : (H : Type) → List (DataW H) → Bool := fun _ ds => decide (uptoBulkAll ds ≤ 1048576)
def OpenSpec.upto (s : _root_.Go.ChangeSpec) : _root_.Go.OpenSpec := { _root_.Go.OpenSpec.ofChange s with cond := some uptoSmall }

/-- 'lexpriorlaw19.DeltaCone', WHERE WHAT IT READS IS OF BULK AT MOST 1048576: true; the input reads as it did. -/
def deltaConeUptoRow : OpenClaim := { program := "ytbidjiopnddldaagreat", sum := "be68fa0de1276f06a03b4d9e6780ed23374bface1ed1d29dbaded8c63f013c65", func := "lexprior/lexpriorlaw19.DeltaCone", spec := "deltaCone", inPlace := ["slices.overlaps[int]"], unfollowed := true, recurses := true, apart := false, narrowed := true }
def DeltaConeUptoSaid : Prop := deltaConeUptoRow.holds Tryz.pinned (OpenSpec.upto deltaConeSpec)

/-- 'lexpriorlaw19.DeltaBack', WHERE WHAT IT READS IS OF BULK AT MOST 1048576: true; the input reads as it did. -/
def deltaBackUptoRow : OpenClaim := { program := "ytbidjiopnddldaagreat", sum := "be68fa0de1276f06a03b4d9e6780ed23374bface1ed1d29dbaded8c63f013c65", func := "lexprior/lexpriorlaw19.DeltaBack", spec := "deltaBack", inPlace := ["slices.overlaps[int]"], unfollowed := true, recurses := true, apart := false, narrowed := true }
def DeltaBackUptoSaid : Prop := deltaBackUptoRow.holds Tryz.pinned (OpenSpec.upto deltaBackSpec)

/-- 'lexpriorlaw19.DeltaPlays', WHERE WHAT IT READS IS OF BULK AT MOST 1048576: true; the input reads as it did. -/
def deltaPlaysUptoRow : OpenClaim := { program := "ytbidjiopnddldaagreat", sum := "be68fa0de1276f06a03b4d9e6780ed23374bface1ed1d29dbaded8c63f013c65", func := "lexprior/lexpriorlaw19.DeltaPlays", spec := "deltaPlays", inPlace := ["slices.overlaps[int]"], unfollowed := true, recurses := true, apart := false, narrowed := true }
def DeltaPlaysUptoSaid : Prop := deltaPlaysUptoRow.holds Tryz.pinned (OpenSpec.upto deltaPlaysSpec)

/-- 'lexpriorlaw19.DeltaOwn', WHERE WHAT IT READS IS OF BULK AT MOST 1048576: true; the input reads as it did. -/
def deltaOwnUptoRow : OpenClaim := { program := "ytbidjiopnddldaagreat", sum := "be68fa0de1276f06a03b4d9e6780ed23374bface1ed1d29dbaded8c63f013c65", func := "lexprior/lexpriorlaw19.DeltaOwn", spec := "deltaOwn", inPlace := ["slices.overlaps[int]"], unfollowed := true, recurses := true, apart := false, narrowed := true }
def DeltaOwnUptoSaid : Prop := deltaOwnUptoRow.holds Tryz.pinned (OpenSpec.upto deltaOwnSpec)

end Rows
end Go.Proofs.YtbidjiopnddldaaGreat
