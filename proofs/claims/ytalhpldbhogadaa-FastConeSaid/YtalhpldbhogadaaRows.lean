/-
  No cell of these rows narrows 'for every input' (looked for: loops, veiled, ifaces, maps, wideKeys, modest, calm, conditions, laid).
  DERIVED. THE GIVEN ROWS OF THIS SEAT. 16 by the template 'for every input the law returns true; each argument reads behind the call as it read before'; 0 by the template 'total and deterministic' (their statements: YtalhpldbhogadaaTotals.lean).
  GIVEN WITH THE SEED: the statements are not yours to turn. If you find one false, say at which input.
  Laid BY PROGRAM, IN A SANDBOX (cutbox-rows.mjs): the forced cells as the released guide's own fill.sh prints them over the translation 636633790736cea6… (all of the seat's roots in one cut). By AI agents, Wed Nov 11 2026. No macro, syntax, notation, axiom, sorry.
-/
import Derived.Test.YtalhpldbhogadaaChecked
import GoSem.Claim
import GoSem.ClaimJoined
import GoSem.ClaimMapViews
import Derived.JoinedTies
import Derived.KernelRfl
namespace Go.Proofs.Ytalhpldbhogadaa
/- THE CELL 'sum', in the pinned program and in every row, IS THE sha256 OF THE DUMP (.gsa) THAT YtalhpldbhogadaaProg.lean LOADS. Nothing in Lean hashes anything: it is a label: what it is worth is what the hold of that sum in a sandbox is worth. -/
noncomputable def Try.pinned : Pinned := { name := "ytalhpldbhogadaa", sum := "636633790736cea6b35be7ae13024b79039fd749c8f8e89d3858c7d6deb60683", checked := Try.checked }
namespace Rows
def none {H : Type} : Left H := { results := [], args := [] }

/-- 'lexpriorlaw15.NaiveCoherent': WHATEVER THE INPUT: true; the input reads as it did. -/
def naiveCoherentSpec : ChangeSpec := { name := "naiveCoherent", fn := fun _ => fun
  | [d1, d2] => { results := [.lit (.bool true)], args := [d1, d2] }
  | _ => none }
def naiveCoherentRow : OpenClaim := { program := "ytalhpldbhogadaa", sum := "636633790736cea6b35be7ae13024b79039fd749c8f8e89d3858c7d6deb60683", func := "lexprior/lexpriorlaw15.NaiveCoherent", spec := "naiveCoherent", unfollowed := true, recurses := true, apart := false }
def NaiveCoherentSaid : Prop := naiveCoherentRow.holds Try.pinned (OpenSpec.ofChange naiveCoherentSpec)

/-- ITS FALSE NEIGHBOUR: 'it returns false'. Refute it at one input. -/
def naiveCoherentWrong : ChangeSpec := { name := "naiveCoherent", fn := fun _ => fun
  | [d1, d2] => { results := [.lit (.bool false)], args := [d1, d2] }
  | _ => none }
def NaiveCoherentWrongFalsely : Prop := naiveCoherentRow.holds Try.pinned (OpenSpec.ofChange naiveCoherentWrong)

/-- 'lexpriorlaw15.NaiveConsistent': WHATEVER THE INPUT: true; the input reads as it did. -/
def naiveConsistentSpec : ChangeSpec := { name := "naiveConsistent", fn := fun _ => fun
  | [d1, d2] => { results := [.lit (.bool true)], args := [d1, d2] }
  | _ => none }
def naiveConsistentRow : OpenClaim := { program := "ytalhpldbhogadaa", sum := "636633790736cea6b35be7ae13024b79039fd749c8f8e89d3858c7d6deb60683", func := "lexprior/lexpriorlaw15.NaiveConsistent", spec := "naiveConsistent", unfollowed := true, recurses := true, apart := false }
def NaiveConsistentSaid : Prop := naiveConsistentRow.holds Try.pinned (OpenSpec.ofChange naiveConsistentSpec)

/-- ITS FALSE NEIGHBOUR: 'it returns false'. Refute it at one input. -/
def naiveConsistentWrong : ChangeSpec := { name := "naiveConsistent", fn := fun _ => fun
  | [d1, d2] => { results := [.lit (.bool false)], args := [d1, d2] }
  | _ => none }
def NaiveConsistentWrongFalsely : Prop := naiveConsistentRow.holds Try.pinned (OpenSpec.ofChange naiveConsistentWrong)

/-- 'lexpriorlaw15.NaiveLoops': WHATEVER THE INPUT: true; the input reads as it did. -/
def naiveLoopsSpec : ChangeSpec := { name := "naiveLoops", fn := fun _ => fun
  | [d] => { results := [.lit (.bool true)], args := [d] }
  | _ => none }
def naiveLoopsRow : OpenClaim := { program := "ytalhpldbhogadaa", sum := "636633790736cea6b35be7ae13024b79039fd749c8f8e89d3858c7d6deb60683", func := "lexprior/lexpriorlaw15.NaiveLoops", spec := "naiveLoops", unfollowed := true, recurses := true, apart := false }
def NaiveLoopsSaid : Prop := naiveLoopsRow.holds Try.pinned (OpenSpec.ofChange naiveLoopsSpec)

/-- ITS FALSE NEIGHBOUR: 'it returns false'. Refute it at one input. -/
def naiveLoopsWrong : ChangeSpec := { name := "naiveLoops", fn := fun _ => fun
  | [d] => { results := [.lit (.bool false)], args := [d] }
  | _ => none }
def NaiveLoopsWrongFalsely : Prop := naiveLoopsRow.holds Try.pinned (OpenSpec.ofChange naiveLoopsWrong)

/-- 'lexpriorlaw15.NaiveLeast': WHATEVER THE INPUT: true; the input reads as it did. -/
def naiveLeastSpec : ChangeSpec := { name := "naiveLeast", fn := fun _ => fun
  | [d1, d2, d3, d4] => { results := [.lit (.bool true)], args := [d1, d2, d3, d4] }
  | _ => none }
def naiveLeastRow : OpenClaim := { program := "ytalhpldbhogadaa", sum := "636633790736cea6b35be7ae13024b79039fd749c8f8e89d3858c7d6deb60683", func := "lexprior/lexpriorlaw15.NaiveLeast", spec := "naiveLeast", unfollowed := true, recurses := true, apart := false }
def NaiveLeastSaid : Prop := naiveLeastRow.holds Try.pinned (OpenSpec.ofChange naiveLeastSpec)

/-- ITS FALSE NEIGHBOUR: 'it returns false'. Refute it at one input. -/
def naiveLeastWrong : ChangeSpec := { name := "naiveLeast", fn := fun _ => fun
  | [d1, d2, d3, d4] => { results := [.lit (.bool false)], args := [d1, d2, d3, d4] }
  | _ => none }
def NaiveLeastWrongFalsely : Prop := naiveLeastRow.holds Try.pinned (OpenSpec.ofChange naiveLeastWrong)

/-- 'lexpriorlaw15.NaiveOwn': WHATEVER THE INPUT: true; the input reads as it did. -/
def naiveOwnSpec : ChangeSpec := { name := "naiveOwn", fn := fun _ => fun
  | [d1, d2, d3] => { results := [.lit (.bool true)], args := [d1, d2, d3] }
  | _ => none }
def naiveOwnRow : OpenClaim := { program := "ytalhpldbhogadaa", sum := "636633790736cea6b35be7ae13024b79039fd749c8f8e89d3858c7d6deb60683", func := "lexprior/lexpriorlaw15.NaiveOwn", spec := "naiveOwn", unfollowed := true, recurses := true, apart := false }
def NaiveOwnSaid : Prop := naiveOwnRow.holds Try.pinned (OpenSpec.ofChange naiveOwnSpec)

/-- ITS FALSE NEIGHBOUR: 'it returns false'. Refute it at one input. -/
def naiveOwnWrong : ChangeSpec := { name := "naiveOwn", fn := fun _ => fun
  | [d1, d2, d3] => { results := [.lit (.bool false)], args := [d1, d2, d3] }
  | _ => none }
def NaiveOwnWrongFalsely : Prop := naiveOwnRow.holds Try.pinned (OpenSpec.ofChange naiveOwnWrong)

/-- 'lexpriorlaw15.NaiveHolds': WHATEVER THE INPUT: true; the input reads as it did. -/
def naiveHoldsSpec : ChangeSpec := { name := "naiveHolds", fn := fun _ => fun
  | [d1, d2, d3, d4, d5] => { results := [.lit (.bool true)], args := [d1, d2, d3, d4, d5] }
  | _ => none }
def naiveHoldsRow : OpenClaim := { program := "ytalhpldbhogadaa", sum := "636633790736cea6b35be7ae13024b79039fd749c8f8e89d3858c7d6deb60683", func := "lexprior/lexpriorlaw15.NaiveHolds", spec := "naiveHolds", unfollowed := true, recurses := true, apart := false }
def NaiveHoldsSaid : Prop := naiveHoldsRow.holds Try.pinned (OpenSpec.ofChange naiveHoldsSpec)

/-- ITS FALSE NEIGHBOUR: 'it returns false'. Refute it at one input. -/
def naiveHoldsWrong : ChangeSpec := { name := "naiveHolds", fn := fun _ => fun
  | [d1, d2, d3, d4, d5] => { results := [.lit (.bool false)], args := [d1, d2, d3, d4, d5] }
  | _ => none }
def NaiveHoldsWrongFalsely : Prop := naiveHoldsRow.holds Try.pinned (OpenSpec.ofChange naiveHoldsWrong)

/-- 'lexpriorlaw15.NaiveRounds': WHATEVER THE INPUT: true; the input reads as it did. -/
def naiveRoundsSpec : ChangeSpec := { name := "naiveRounds", fn := fun _ => fun
  | [d1, d2, d3] => { results := [.lit (.bool true)], args := [d1, d2, d3] }
  | _ => none }
def naiveRoundsRow : OpenClaim := { program := "ytalhpldbhogadaa", sum := "636633790736cea6b35be7ae13024b79039fd749c8f8e89d3858c7d6deb60683", func := "lexprior/lexpriorlaw15.NaiveRounds", spec := "naiveRounds", unfollowed := true, recurses := true, apart := false }
def NaiveRoundsSaid : Prop := naiveRoundsRow.holds Try.pinned (OpenSpec.ofChange naiveRoundsSpec)

/-- ITS FALSE NEIGHBOUR: 'it returns false'. Refute it at one input. -/
def naiveRoundsWrong : ChangeSpec := { name := "naiveRounds", fn := fun _ => fun
  | [d1, d2, d3] => { results := [.lit (.bool false)], args := [d1, d2, d3] }
  | _ => none }
def NaiveRoundsWrongFalsely : Prop := naiveRoundsRow.holds Try.pinned (OpenSpec.ofChange naiveRoundsWrong)

/-- 'lexpriorlaw16.FastRuns': WHATEVER THE INPUT: true; the input reads as it did. -/
def fastRunsSpec : ChangeSpec := { name := "fastRuns", fn := fun _ => fun
  | [d1, d2] => { results := [.lit (.bool true)], args := [d1, d2] }
  | _ => none }
def fastRunsRow : OpenClaim := { program := "ytalhpldbhogadaa", sum := "636633790736cea6b35be7ae13024b79039fd749c8f8e89d3858c7d6deb60683", func := "lexprior/lexpriorlaw16.FastRuns", spec := "fastRuns", unfollowed := true, recurses := true, apart := false }
def FastRunsSaid : Prop := fastRunsRow.holds Try.pinned (OpenSpec.ofChange fastRunsSpec)

/-- ITS FALSE NEIGHBOUR: 'it returns false'. Refute it at one input. -/
def fastRunsWrong : ChangeSpec := { name := "fastRuns", fn := fun _ => fun
  | [d1, d2] => { results := [.lit (.bool false)], args := [d1, d2] }
  | _ => none }
def FastRunsWrongFalsely : Prop := fastRunsRow.holds Try.pinned (OpenSpec.ofChange fastRunsWrong)

/-- 'lexpriorlaw16.FastSound': WHATEVER THE INPUT: true; the input reads as it did. -/
def fastSoundSpec : ChangeSpec := { name := "fastSound", fn := fun _ => fun
  | [d1, d2] => { results := [.lit (.bool true)], args := [d1, d2] }
  | _ => none }
def fastSoundRow : OpenClaim := { program := "ytalhpldbhogadaa", sum := "636633790736cea6b35be7ae13024b79039fd749c8f8e89d3858c7d6deb60683", func := "lexprior/lexpriorlaw16.FastSound", spec := "fastSound", unfollowed := true, recurses := true, apart := false }
def FastSoundSaid : Prop := fastSoundRow.holds Try.pinned (OpenSpec.ofChange fastSoundSpec)

/-- ITS FALSE NEIGHBOUR: 'it returns false'. Refute it at one input. -/
def fastSoundWrong : ChangeSpec := { name := "fastSound", fn := fun _ => fun
  | [d1, d2] => { results := [.lit (.bool false)], args := [d1, d2] }
  | _ => none }
def FastSoundWrongFalsely : Prop := fastSoundRow.holds Try.pinned (OpenSpec.ofChange fastSoundWrong)

/-- 'lexpriorlaw16.FastChain': WHATEVER THE INPUT: true; the input reads as it did. -/
def fastChainSpec : ChangeSpec := { name := "fastChain", fn := fun _ => fun
  | [d1, d2, d3] => { results := [.lit (.bool true)], args := [d1, d2, d3] }
  | _ => none }
def fastChainRow : OpenClaim := { program := "ytalhpldbhogadaa", sum := "636633790736cea6b35be7ae13024b79039fd749c8f8e89d3858c7d6deb60683", func := "lexprior/lexpriorlaw16.FastChain", spec := "fastChain", unfollowed := true, recurses := true, apart := false }
def FastChainSaid : Prop := fastChainRow.holds Try.pinned (OpenSpec.ofChange fastChainSpec)

/-- ITS FALSE NEIGHBOUR: 'it returns false'. Refute it at one input. -/
def fastChainWrong : ChangeSpec := { name := "fastChain", fn := fun _ => fun
  | [d1, d2, d3] => { results := [.lit (.bool false)], args := [d1, d2, d3] }
  | _ => none }
def FastChainWrongFalsely : Prop := fastChainRow.holds Try.pinned (OpenSpec.ofChange fastChainWrong)

/-- 'lexpriorlaw16.FastTurned': WHATEVER THE INPUT: true; the input reads as it did. -/
def fastTurnedSpec : ChangeSpec := { name := "fastTurned", fn := fun _ => fun
  | [d1, d2, d3, d4] => { results := [.lit (.bool true)], args := [d1, d2, d3, d4] }
  | _ => none }
def fastTurnedRow : OpenClaim := { program := "ytalhpldbhogadaa", sum := "636633790736cea6b35be7ae13024b79039fd749c8f8e89d3858c7d6deb60683", func := "lexprior/lexpriorlaw16.FastTurned", spec := "fastTurned", unfollowed := true, recurses := true, apart := false }
def FastTurnedSaid : Prop := fastTurnedRow.holds Try.pinned (OpenSpec.ofChange fastTurnedSpec)

/-- ITS FALSE NEIGHBOUR: 'it returns false'. Refute it at one input. -/
def fastTurnedWrong : ChangeSpec := { name := "fastTurned", fn := fun _ => fun
  | [d1, d2, d3, d4] => { results := [.lit (.bool false)], args := [d1, d2, d3, d4] }
  | _ => none }
def FastTurnedWrongFalsely : Prop := fastTurnedRow.holds Try.pinned (OpenSpec.ofChange fastTurnedWrong)

/-- 'lexpriorlaw16.FastOrder': WHATEVER THE INPUT: true; the input reads as it did. -/
def fastOrderSpec : ChangeSpec := { name := "fastOrder", fn := fun _ => fun
  | [d1, d2] => { results := [.lit (.bool true)], args := [d1, d2] }
  | _ => none }
def fastOrderRow : OpenClaim := { program := "ytalhpldbhogadaa", sum := "636633790736cea6b35be7ae13024b79039fd749c8f8e89d3858c7d6deb60683", func := "lexprior/lexpriorlaw16.FastOrder", spec := "fastOrder", unfollowed := true, recurses := true, apart := false }
def FastOrderSaid : Prop := fastOrderRow.holds Try.pinned (OpenSpec.ofChange fastOrderSpec)

/-- ITS FALSE NEIGHBOUR: 'it returns false'. Refute it at one input. -/
def fastOrderWrong : ChangeSpec := { name := "fastOrder", fn := fun _ => fun
  | [d1, d2] => { results := [.lit (.bool false)], args := [d1, d2] }
  | _ => none }
def FastOrderWrongFalsely : Prop := fastOrderRow.holds Try.pinned (OpenSpec.ofChange fastOrderWrong)

/-- 'lexpriorlaw16.FastLinear': WHATEVER THE INPUT: true; the input reads as it did. -/
def fastLinearSpec : ChangeSpec := { name := "fastLinear", fn := fun _ => fun
  | [d1, d2] => { results := [.lit (.bool true)], args := [d1, d2] }
  | _ => none }
def fastLinearRow : OpenClaim := { program := "ytalhpldbhogadaa", sum := "636633790736cea6b35be7ae13024b79039fd749c8f8e89d3858c7d6deb60683", func := "lexprior/lexpriorlaw16.FastLinear", spec := "fastLinear", unfollowed := true, recurses := true, apart := false }
def FastLinearSaid : Prop := fastLinearRow.holds Try.pinned (OpenSpec.ofChange fastLinearSpec)

/-- ITS FALSE NEIGHBOUR: 'it returns false'. Refute it at one input. -/
def fastLinearWrong : ChangeSpec := { name := "fastLinear", fn := fun _ => fun
  | [d1, d2] => { results := [.lit (.bool false)], args := [d1, d2] }
  | _ => none }
def FastLinearWrongFalsely : Prop := fastLinearRow.holds Try.pinned (OpenSpec.ofChange fastLinearWrong)

/-- 'lexpriorlaw16.FastAsks': WHATEVER THE INPUT: true; the input reads as it did. -/
def fastAsksSpec : ChangeSpec := { name := "fastAsks", fn := fun _ => fun
  | [d1, d2, d3, d4, d5] => { results := [.lit (.bool true)], args := [d1, d2, d3, d4, d5] }
  | _ => none }
def fastAsksRow : OpenClaim := { program := "ytalhpldbhogadaa", sum := "636633790736cea6b35be7ae13024b79039fd749c8f8e89d3858c7d6deb60683", func := "lexprior/lexpriorlaw16.FastAsks", spec := "fastAsks", unfollowed := true, recurses := true, apart := false }
def FastAsksSaid : Prop := fastAsksRow.holds Try.pinned (OpenSpec.ofChange fastAsksSpec)

/-- ITS FALSE NEIGHBOUR: 'it returns false'. Refute it at one input. -/
def fastAsksWrong : ChangeSpec := { name := "fastAsks", fn := fun _ => fun
  | [d1, d2, d3, d4, d5] => { results := [.lit (.bool false)], args := [d1, d2, d3, d4, d5] }
  | _ => none }
def FastAsksWrongFalsely : Prop := fastAsksRow.holds Try.pinned (OpenSpec.ofChange fastAsksWrong)

/-- 'lexpriorlaw16.FastCone': WHATEVER THE INPUT: true; the input reads as it did. -/
def fastConeSpec : ChangeSpec := { name := "fastCone", fn := fun _ => fun
  | [d1, d2, d3] => { results := [.lit (.bool true)], args := [d1, d2, d3] }
  | _ => none }
def fastConeRow : OpenClaim := { program := "ytalhpldbhogadaa", sum := "636633790736cea6b35be7ae13024b79039fd749c8f8e89d3858c7d6deb60683", func := "lexprior/lexpriorlaw16.FastCone", spec := "fastCone", unfollowed := true, recurses := true, apart := false }
def FastConeSaid : Prop := fastConeRow.holds Try.pinned (OpenSpec.ofChange fastConeSpec)

/-- ITS FALSE NEIGHBOUR: 'it returns false'. Refute it at one input. -/
def fastConeWrong : ChangeSpec := { name := "fastCone", fn := fun _ => fun
  | [d1, d2, d3] => { results := [.lit (.bool false)], args := [d1, d2, d3] }
  | _ => none }
def FastConeWrongFalsely : Prop := fastConeRow.holds Try.pinned (OpenSpec.ofChange fastConeWrong)

/-- 'lexpriorlaw16.FastNaive': WHATEVER THE INPUT: true; the input reads as it did. -/
def fastNaiveSpec : ChangeSpec := { name := "fastNaive", fn := fun _ => fun
  | [d1, d2] => { results := [.lit (.bool true)], args := [d1, d2] }
  | _ => none }
def fastNaiveRow : OpenClaim := { program := "ytalhpldbhogadaa", sum := "636633790736cea6b35be7ae13024b79039fd749c8f8e89d3858c7d6deb60683", func := "lexprior/lexpriorlaw16.FastNaive", spec := "fastNaive", unfollowed := true, recurses := true, apart := false }
def FastNaiveSaid : Prop := fastNaiveRow.holds Try.pinned (OpenSpec.ofChange fastNaiveSpec)

/-- ITS FALSE NEIGHBOUR: 'it returns false'. Refute it at one input. -/
def fastNaiveWrong : ChangeSpec := { name := "fastNaive", fn := fun _ => fun
  | [d1, d2] => { results := [.lit (.bool false)], args := [d1, d2] }
  | _ => none }
def FastNaiveWrongFalsely : Prop := fastNaiveRow.holds Try.pinned (OpenSpec.ofChange fastNaiveWrong)

/- THE SECOND FORM. 'bulk': how many values and letters a reading holds, each counted each time it is reached (what is shared counts as often as it is met; a slice's spare places count too). A statement '..UptoSaid' is the law's where the arguments, and the package variables that the reading takes, are together of bulk at most 1048576: NARROWER than '..Said'. Prove '..Said' where nothing that the law and all that it calls make is longer than what came in: it says more and counts as full. Else prove '..UptoSaid'. A law counts once. -/
mutual
def uptoBulk {H : Type} : DataW H → Nat
  | .lit (.string bytes) => bytes.length + 1
  | .lit _ => 1
  | .nil => 1
  | .ptr d => uptoBulk d + 1
  | .slice elems spare => uptoBulkAll elems + uptoBulkAll spare + 1
  | .agg parts => uptoBulkAll parts + 1
  | .iface _ d => uptoBulk d + 1
  | .map entries => uptoBulkEntries entries + 1
  | .held _ => 1
def uptoBulkAll {H : Type} : List (DataW H) → Nat
  | [] => 0
  | d :: r => uptoBulk d + uptoBulkAll r
def uptoBulkEntries {H : Type} : List (Lit × DataW H) → Nat
  | [] => 0
  | x :: r => uptoBulkEntry x + uptoBulkEntries r
def uptoBulkEntry {H : Type} : Lit × DataW H → Nat
  | (.string bytes, d) => bytes.length + uptoBulk d + 1
  | (_, d) => uptoBulk d + 1
 end
def uptoSmall : (H : Type) → List (DataW H) → Bool := fun _ ds => decide (uptoBulkAll ds ≤ 1048576)
def OpenSpec.upto (s : _root_.Go.ChangeSpec) : _root_.Go.OpenSpec := { _root_.Go.OpenSpec.ofChange s with cond := some uptoSmall }

/-- 'lexpriorlaw15.NaiveCoherent', WHERE WHAT IT READS IS OF BULK AT MOST 1048576: true; the input reads as it did. -/
def naiveCoherentUptoRow : OpenClaim := { program := "ytalhpldbhogadaa", sum := "636633790736cea6b35be7ae13024b79039fd749c8f8e89d3858c7d6deb60683", func := "lexprior/lexpriorlaw15.NaiveCoherent", spec := "naiveCoherent", unfollowed := true, recurses := true, apart := false, narrowed := true }
def NaiveCoherentUptoSaid : Prop := naiveCoherentUptoRow.holds Try.pinned (OpenSpec.upto naiveCoherentSpec)

/-- 'lexpriorlaw15.NaiveConsistent', WHERE WHAT IT READS IS OF BULK AT MOST 1048576: true; the input reads as it did. -/
def naiveConsistentUptoRow : OpenClaim := { program := "ytalhpldbhogadaa", sum := "636633790736cea6b35be7ae13024b79039fd749c8f8e89d3858c7d6deb60683", func := "lexprior/lexpriorlaw15.NaiveConsistent", spec := "naiveConsistent", unfollowed := true, recurses := true, apart := false, narrowed := true }
def NaiveConsistentUptoSaid : Prop := naiveConsistentUptoRow.holds Try.pinned (OpenSpec.upto naiveConsistentSpec)

/-- 'lexpriorlaw15.NaiveLoops', WHERE WHAT IT READS IS OF BULK AT MOST 1048576: true; the input reads as it did. -/
def naiveLoopsUptoRow : OpenClaim := { program := "ytalhpldbhogadaa", sum := "636633790736cea6b35be7ae13024b79039fd749c8f8e89d3858c7d6deb60683", func := "lexprior/lexpriorlaw15.NaiveLoops", spec := "naiveLoops", unfollowed := true, recurses := true, apart := false, narrowed := true }
def NaiveLoopsUptoSaid : Prop := naiveLoopsUptoRow.holds Try.pinned (OpenSpec.upto naiveLoopsSpec)

/-- 'lexpriorlaw15.NaiveLeast', WHERE WHAT IT READS IS OF BULK AT MOST 1048576: true; the input reads as it did. -/
def naiveLeastUptoRow : OpenClaim := { program := "ytalhpldbhogadaa", sum := "636633790736cea6b35be7ae13024b79039fd749c8f8e89d3858c7d6deb60683", func := "lexprior/lexpriorlaw15.NaiveLeast", spec := "naiveLeast", unfollowed := true, recurses := true, apart := false, narrowed := true }
def NaiveLeastUptoSaid : Prop := naiveLeastUptoRow.holds Try.pinned (OpenSpec.upto naiveLeastSpec)

/-- 'lexpriorlaw15.NaiveOwn', WHERE WHAT IT READS IS OF BULK AT MOST 1048576: true; the input reads as it did. -/
def naiveOwnUptoRow : OpenClaim := { program := "ytalhpldbhogadaa", sum := "636633790736cea6b35be7ae13024b79039fd749c8f8e89d3858c7d6deb60683", func := "lexprior/lexpriorlaw15.NaiveOwn", spec := "naiveOwn", unfollowed := true, recurses := true, apart := false, narrowed := true }
def NaiveOwnUptoSaid : Prop := naiveOwnUptoRow.holds Try.pinned (OpenSpec.upto naiveOwnSpec)

/-- 'lexpriorlaw15.NaiveHolds', WHERE WHAT IT READS IS OF BULK AT MOST 1048576: true; the input reads as it did. -/
def naiveHoldsUptoRow : OpenClaim := { program := "ytalhpldbhogadaa", sum := "636633790736cea6b35be7ae13024b79039fd749c8f8e89d3858c7d6deb60683", func := "lexprior/lexpriorlaw15.NaiveHolds", spec := "naiveHolds", unfollowed := true, recurses := true, apart := false, narrowed := true }
def NaiveHoldsUptoSaid : Prop := naiveHoldsUptoRow.holds Try.pinned (OpenSpec.upto naiveHoldsSpec)

/-- 'lexpriorlaw15.NaiveRounds', WHERE WHAT IT READS IS OF BULK AT MOST 1048576: true; the input reads as it did. -/
def naiveRoundsUptoRow : OpenClaim := { program := "ytalhpldbhogadaa", sum := "636633790736cea6b35be7ae13024b79039fd749c8f8e89d3858c7d6deb60683", func := "lexprior/lexpriorlaw15.NaiveRounds", spec := "naiveRounds", unfollowed := true, recurses := true, apart := false, narrowed := true }
def NaiveRoundsUptoSaid : Prop := naiveRoundsUptoRow.holds Try.pinned (OpenSpec.upto naiveRoundsSpec)

/-- 'lexpriorlaw16.FastRuns', WHERE WHAT IT READS IS OF BULK AT MOST 1048576: true; the input reads as it did. -/
def fastRunsUptoRow : OpenClaim := { program := "ytalhpldbhogadaa", sum := "636633790736cea6b35be7ae13024b79039fd749c8f8e89d3858c7d6deb60683", func := "lexprior/lexpriorlaw16.FastRuns", spec := "fastRuns", unfollowed := true, recurses := true, apart := false, narrowed := true }
def FastRunsUptoSaid : Prop := fastRunsUptoRow.holds Try.pinned (OpenSpec.upto fastRunsSpec)

/-- 'lexpriorlaw16.FastSound', WHERE WHAT IT READS IS OF BULK AT MOST 1048576: true; the input reads as it did. -/
def fastSoundUptoRow : OpenClaim := { program := "ytalhpldbhogadaa", sum := "636633790736cea6b35be7ae13024b79039fd749c8f8e89d3858c7d6deb60683", func := "lexprior/lexpriorlaw16.FastSound", spec := "fastSound", unfollowed := true, recurses := true, apart := false, narrowed := true }
def FastSoundUptoSaid : Prop := fastSoundUptoRow.holds Try.pinned (OpenSpec.upto fastSoundSpec)

/-- 'lexpriorlaw16.FastChain', WHERE WHAT IT READS IS OF BULK AT MOST 1048576: true; the input reads as it did. -/
def fastChainUptoRow : OpenClaim := { program := "ytalhpldbhogadaa", sum := "636633790736cea6b35be7ae13024b79039fd749c8f8e89d3858c7d6deb60683", func := "lexprior/lexpriorlaw16.FastChain", spec := "fastChain", unfollowed := true, recurses := true, apart := false, narrowed := true }
def FastChainUptoSaid : Prop := fastChainUptoRow.holds Try.pinned (OpenSpec.upto fastChainSpec)

/-- 'lexpriorlaw16.FastTurned', WHERE WHAT IT READS IS OF BULK AT MOST 1048576: true; the input reads as it did. -/
def fastTurnedUptoRow : OpenClaim := { program := "ytalhpldbhogadaa", sum := "636633790736cea6b35be7ae13024b79039fd749c8f8e89d3858c7d6deb60683", func := "lexprior/lexpriorlaw16.FastTurned", spec := "fastTurned", unfollowed := true, recurses := true, apart := false, narrowed := true }
def FastTurnedUptoSaid : Prop := fastTurnedUptoRow.holds Try.pinned (OpenSpec.upto fastTurnedSpec)

/-- 'lexpriorlaw16.FastOrder', WHERE WHAT IT READS IS OF BULK AT MOST 1048576: true; the input reads as it did. -/
def fastOrderUptoRow : OpenClaim := { program := "ytalhpldbhogadaa", sum := "636633790736cea6b35be7ae13024b79039fd749c8f8e89d3858c7d6deb60683", func := "lexprior/lexpriorlaw16.FastOrder", spec := "fastOrder", unfollowed := true, recurses := true, apart := false, narrowed := true }
def FastOrderUptoSaid : Prop := fastOrderUptoRow.holds Try.pinned (OpenSpec.upto fastOrderSpec)

/-- 'lexpriorlaw16.FastLinear', WHERE WHAT IT READS IS OF BULK AT MOST 1048576: true; the input reads as it did. -/
def fastLinearUptoRow : OpenClaim := { program := "ytalhpldbhogadaa", sum := "636633790736cea6b35be7ae13024b79039fd749c8f8e89d3858c7d6deb60683", func := "lexprior/lexpriorlaw16.FastLinear", spec := "fastLinear", unfollowed := true, recurses := true, apart := false, narrowed := true }
def FastLinearUptoSaid : Prop := fastLinearUptoRow.holds Try.pinned (OpenSpec.upto fastLinearSpec)

/-- 'lexpriorlaw16.FastAsks', WHERE WHAT IT READS IS OF BULK AT MOST 1048576: true; the input reads as it did. -/
def fastAsksUptoRow : OpenClaim := { program := "ytalhpldbhogadaa", sum := "636633790736cea6b35be7ae13024b79039fd749c8f8e89d3858c7d6deb60683", func := "lexprior/lexpriorlaw16.FastAsks", spec := "fastAsks", unfollowed := true, recurses := true, apart := false, narrowed := true }
def FastAsksUptoSaid : Prop := fastAsksUptoRow.holds Try.pinned (OpenSpec.upto fastAsksSpec)

/-- 'lexpriorlaw16.FastCone', WHERE WHAT IT READS IS OF BULK AT MOST 1048576: true; the input reads as it did. -/
def fastConeUptoRow : OpenClaim := { program := "ytalhpldbhogadaa", sum := "636633790736cea6b35be7ae13024b79039fd749c8f8e89d3858c7d6deb60683", func := "lexprior/lexpriorlaw16.FastCone", spec := "fastCone", unfollowed := true, recurses := true, apart := false, narrowed := true }
def FastConeUptoSaid : Prop := fastConeUptoRow.holds Try.pinned (OpenSpec.upto fastConeSpec)

/-- 'lexpriorlaw16.FastNaive', WHERE WHAT IT READS IS OF BULK AT MOST 1048576: true; the input reads as it did. -/
def fastNaiveUptoRow : OpenClaim := { program := "ytalhpldbhogadaa", sum := "636633790736cea6b35be7ae13024b79039fd749c8f8e89d3858c7d6deb60683", func := "lexprior/lexpriorlaw16.FastNaive", spec := "fastNaive", unfollowed := true, recurses := true, apart := false, narrowed := true }
def FastNaiveUptoSaid : Prop := fastNaiveUptoRow.holds Try.pinned (OpenSpec.upto fastNaiveSpec)

end Rows
end Go.Proofs.Ytalhpldbhogadaa
