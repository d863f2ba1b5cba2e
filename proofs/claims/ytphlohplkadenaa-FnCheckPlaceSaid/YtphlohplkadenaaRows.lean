/-
  No cell of these rows narrows 'for every input' (looked for: loops, veiled, ifaces, maps, wideKeys, modest, calm, conditions, laid).
  DERIVED. THE GIVEN ROWS OF THIS SEAT. 12 by the template 'for every input the law returns true; each argument reads behind the call as it read before'; 0 by the template 'total and deterministic' (their statements: YtphlohplkadenaaTotals.lean).
  GIVEN WITH THE SEED: the statements are not yours to turn. If you find one false, say at which input.
  Laid BY PROGRAM, IN A SANDBOX (cutbox-rows.mjs): the forced cells as the released guide's own fill.sh prints them over the translation a1d9dd21580cee08… (all of the seat's roots in one cut). By AI agents, Wed Nov 11 2026. No macro, syntax, notation, axiom, sorry.
-/
import Derived.Test.YtphlohplkadenaaChecked
import GoSem.Claim
import GoSem.ClaimJoined
import GoSem.ClaimMapViews
import Derived.JoinedTies
import Derived.KernelRfl
namespace Go.Proofs.Ytphlohplkadenaa
/- THE CELL 'sum', in the pinned program and in every row, IS THE sha256 OF THE DUMP (.gsa) THAT YtphlohplkadenaaProg.lean LOADS. Nothing in Lean hashes anything: it is a label: what it is worth is what the hold of that sum in a sandbox is worth. -/
noncomputable def Try.pinned : Pinned := { name := "ytphlohplkadenaa", sum := "a1d9dd21580cee084bf86b2c74a702d5933427a64f70b37bb4d64f9e9f4c63d3", checked := Try.checked }
namespace Rows
def none {H : Type} : Left H := { results := [], args := [] }

/-- 'laws.FnCheckPlace': WHATEVER THE INPUT: true; the input reads as it did. -/
def fnCheckPlaceSpec : ChangeSpec := { name := "fnCheckPlace", fn := fun _ => fun
  | [d1, d2] => { results := [.lit (.bool true)], args := [d1, d2] }
  | _ => none }
def fnCheckPlaceRow : OpenClaim := { program := "ytphlohplkadenaa", sum := "a1d9dd21580cee084bf86b2c74a702d5933427a64f70b37bb4d64f9e9f4c63d3", func := "loop.example/g01130/laws.FnCheckPlace", spec := "fnCheckPlace", unfollowed := true, recurses := true, apart := false }
def FnCheckPlaceSaid : Prop := fnCheckPlaceRow.holds Try.pinned (OpenSpec.ofChange fnCheckPlaceSpec)

/-- ITS FALSE NEIGHBOUR: 'it returns false'. Refute it at one input. -/
def fnCheckPlaceWrong : ChangeSpec := { name := "fnCheckPlace", fn := fun _ => fun
  | [d1, d2] => { results := [.lit (.bool false)], args := [d1, d2] }
  | _ => none }
def FnCheckPlaceWrongFalsely : Prop := fnCheckPlaceRow.holds Try.pinned (OpenSpec.ofChange fnCheckPlaceWrong)

/-- 'laws.FnExactValidWeighting': WHATEVER THE INPUT: true; the input reads as it did. -/
def fnExactValidWeightingSpec : ChangeSpec := { name := "fnExactValidWeighting", fn := fun _ => fun
  | [d] => { results := [.lit (.bool true)], args := [d] }
  | _ => none }
def fnExactValidWeightingRow : OpenClaim := { program := "ytphlohplkadenaa", sum := "a1d9dd21580cee084bf86b2c74a702d5933427a64f70b37bb4d64f9e9f4c63d3", func := "loop.example/g01130/laws.FnExactValidWeighting", spec := "fnExactValidWeighting", unfollowed := true, recurses := true, apart := false }
def FnExactValidWeightingSaid : Prop := fnExactValidWeightingRow.holds Try.pinned (OpenSpec.ofChange fnExactValidWeightingSpec)

/-- ITS FALSE NEIGHBOUR: 'it returns false'. Refute it at one input. -/
def fnExactValidWeightingWrong : ChangeSpec := { name := "fnExactValidWeighting", fn := fun _ => fun
  | [d] => { results := [.lit (.bool false)], args := [d] }
  | _ => none }
def FnExactValidWeightingWrongFalsely : Prop := fnExactValidWeightingRow.holds Try.pinned (OpenSpec.ofChange fnExactValidWeightingWrong)

/-- 'laws.FnExactMirrorWeighting': WHATEVER THE INPUT: true; the input reads as it did. -/
def fnExactMirrorWeightingSpec : ChangeSpec := { name := "fnExactMirrorWeighting", fn := fun _ => fun
  | [d] => { results := [.lit (.bool true)], args := [d] }
  | _ => none }
def fnExactMirrorWeightingRow : OpenClaim := { program := "ytphlohplkadenaa", sum := "a1d9dd21580cee084bf86b2c74a702d5933427a64f70b37bb4d64f9e9f4c63d3", func := "loop.example/g01130/laws.FnExactMirrorWeighting", spec := "fnExactMirrorWeighting", unfollowed := true, recurses := true, apart := false }
def FnExactMirrorWeightingSaid : Prop := fnExactMirrorWeightingRow.holds Try.pinned (OpenSpec.ofChange fnExactMirrorWeightingSpec)

/-- ITS FALSE NEIGHBOUR: 'it returns false'. Refute it at one input. -/
def fnExactMirrorWeightingWrong : ChangeSpec := { name := "fnExactMirrorWeighting", fn := fun _ => fun
  | [d] => { results := [.lit (.bool false)], args := [d] }
  | _ => none }
def FnExactMirrorWeightingWrongFalsely : Prop := fnExactMirrorWeightingRow.holds Try.pinned (OpenSpec.ofChange fnExactMirrorWeightingWrong)

/-- 'laws.FnExactScaleWeighting': WHATEVER THE INPUT: true; the input reads as it did. -/
def fnExactScaleWeightingSpec : ChangeSpec := { name := "fnExactScaleWeighting", fn := fun _ => fun
  | [d1, d2] => { results := [.lit (.bool true)], args := [d1, d2] }
  | _ => none }
def fnExactScaleWeightingRow : OpenClaim := { program := "ytphlohplkadenaa", sum := "a1d9dd21580cee084bf86b2c74a702d5933427a64f70b37bb4d64f9e9f4c63d3", func := "loop.example/g01130/laws.FnExactScaleWeighting", spec := "fnExactScaleWeighting", unfollowed := true, recurses := true, apart := false }
def FnExactScaleWeightingSaid : Prop := fnExactScaleWeightingRow.holds Try.pinned (OpenSpec.ofChange fnExactScaleWeightingSpec)

/-- ITS FALSE NEIGHBOUR: 'it returns false'. Refute it at one input. -/
def fnExactScaleWeightingWrong : ChangeSpec := { name := "fnExactScaleWeighting", fn := fun _ => fun
  | [d1, d2] => { results := [.lit (.bool false)], args := [d1, d2] }
  | _ => none }
def FnExactScaleWeightingWrongFalsely : Prop := fnExactScaleWeightingRow.holds Try.pinned (OpenSpec.ofChange fnExactScaleWeightingWrong)

/-- 'laws.FnExactValidPermuting': WHATEVER THE INPUT: true; the input reads as it did. -/
def fnExactValidPermutingSpec : ChangeSpec := { name := "fnExactValidPermuting", fn := fun _ => fun
  | [d] => { results := [.lit (.bool true)], args := [d] }
  | _ => none }
def fnExactValidPermutingRow : OpenClaim := { program := "ytphlohplkadenaa", sum := "a1d9dd21580cee084bf86b2c74a702d5933427a64f70b37bb4d64f9e9f4c63d3", func := "loop.example/g01130/laws.FnExactValidPermuting", spec := "fnExactValidPermuting", unfollowed := true, recurses := true, apart := false }
def FnExactValidPermutingSaid : Prop := fnExactValidPermutingRow.holds Try.pinned (OpenSpec.ofChange fnExactValidPermutingSpec)

/-- ITS FALSE NEIGHBOUR: 'it returns false'. Refute it at one input. -/
def fnExactValidPermutingWrong : ChangeSpec := { name := "fnExactValidPermuting", fn := fun _ => fun
  | [d] => { results := [.lit (.bool false)], args := [d] }
  | _ => none }
def FnExactValidPermutingWrongFalsely : Prop := fnExactValidPermutingRow.holds Try.pinned (OpenSpec.ofChange fnExactValidPermutingWrong)

/-- 'laws.FnExactIsCheckPlace': WHATEVER THE INPUT: true; the input reads as it did. -/
def fnExactIsCheckPlaceSpec : ChangeSpec := { name := "fnExactIsCheckPlace", fn := fun _ => fun
  | [d1, d2] => { results := [.lit (.bool true)], args := [d1, d2] }
  | _ => none }
def fnExactIsCheckPlaceRow : OpenClaim := { program := "ytphlohplkadenaa", sum := "a1d9dd21580cee084bf86b2c74a702d5933427a64f70b37bb4d64f9e9f4c63d3", func := "loop.example/g01130/laws.FnExactIsCheckPlace", spec := "fnExactIsCheckPlace", unfollowed := true, recurses := true, apart := false }
def FnExactIsCheckPlaceSaid : Prop := fnExactIsCheckPlaceRow.holds Try.pinned (OpenSpec.ofChange fnExactIsCheckPlaceSpec)

/-- ITS FALSE NEIGHBOUR: 'it returns false'. Refute it at one input. -/
def fnExactIsCheckPlaceWrong : ChangeSpec := { name := "fnExactIsCheckPlace", fn := fun _ => fun
  | [d1, d2] => { results := [.lit (.bool false)], args := [d1, d2] }
  | _ => none }
def FnExactIsCheckPlaceWrongFalsely : Prop := fnExactIsCheckPlaceRow.holds Try.pinned (OpenSpec.ofChange fnExactIsCheckPlaceWrong)

/-- 'laws.FnExactUnseenPairs': WHATEVER THE INPUT: true; the input reads as it did. -/
def fnExactUnseenPairsSpec : ChangeSpec := { name := "fnExactUnseenPairs", fn := fun _ => fun
  | [d1, d2, d3] => { results := [.lit (.bool true)], args := [d1, d2, d3] }
  | _ => none }
def fnExactUnseenPairsRow : OpenClaim := { program := "ytphlohplkadenaa", sum := "a1d9dd21580cee084bf86b2c74a702d5933427a64f70b37bb4d64f9e9f4c63d3", func := "loop.example/g01130/laws.FnExactUnseenPairs", spec := "fnExactUnseenPairs", unfollowed := true, recurses := true, apart := false }
def FnExactUnseenPairsSaid : Prop := fnExactUnseenPairsRow.holds Try.pinned (OpenSpec.ofChange fnExactUnseenPairsSpec)

/-- ITS FALSE NEIGHBOUR: 'it returns false'. Refute it at one input. -/
def fnExactUnseenPairsWrong : ChangeSpec := { name := "fnExactUnseenPairs", fn := fun _ => fun
  | [d1, d2, d3] => { results := [.lit (.bool false)], args := [d1, d2, d3] }
  | _ => none }
def FnExactUnseenPairsWrongFalsely : Prop := fnExactUnseenPairsRow.holds Try.pinned (OpenSpec.ofChange fnExactUnseenPairsWrong)

/-- 'laws.FnExactWeightCatches': WHATEVER THE INPUT: true; the input reads as it did. -/
def fnExactWeightCatchesSpec : ChangeSpec := { name := "fnExactWeightCatches", fn := fun _ => fun
  | [d1, d2] => { results := [.lit (.bool true)], args := [d1, d2] }
  | _ => none }
def fnExactWeightCatchesRow : OpenClaim := { program := "ytphlohplkadenaa", sum := "a1d9dd21580cee084bf86b2c74a702d5933427a64f70b37bb4d64f9e9f4c63d3", func := "loop.example/g01130/laws.FnExactWeightCatches", spec := "fnExactWeightCatches", unfollowed := true, recurses := true, apart := false }
def FnExactWeightCatchesSaid : Prop := fnExactWeightCatchesRow.holds Try.pinned (OpenSpec.ofChange fnExactWeightCatchesSpec)

/-- ITS FALSE NEIGHBOUR: 'it returns false'. Refute it at one input. -/
def fnExactWeightCatchesWrong : ChangeSpec := { name := "fnExactWeightCatches", fn := fun _ => fun
  | [d1, d2] => { results := [.lit (.bool false)], args := [d1, d2] }
  | _ => none }
def FnExactWeightCatchesWrongFalsely : Prop := fnExactWeightCatchesRow.holds Try.pinned (OpenSpec.ofChange fnExactWeightCatchesWrong)

/-- 'laws.FnExactPermutingOf': WHATEVER THE INPUT: true; the input reads as it did. -/
def fnExactPermutingOfSpec : ChangeSpec := { name := "fnExactPermutingOf", fn := fun _ => fun
  | [d] => { results := [.lit (.bool true)], args := [d] }
  | _ => none }
def fnExactPermutingOfRow : OpenClaim := { program := "ytphlohplkadenaa", sum := "a1d9dd21580cee084bf86b2c74a702d5933427a64f70b37bb4d64f9e9f4c63d3", func := "loop.example/g01130/laws.FnExactPermutingOf", spec := "fnExactPermutingOf", unfollowed := true, recurses := true, apart := false }
def FnExactPermutingOfSaid : Prop := fnExactPermutingOfRow.holds Try.pinned (OpenSpec.ofChange fnExactPermutingOfSpec)

/-- ITS FALSE NEIGHBOUR: 'it returns false'. Refute it at one input. -/
def fnExactPermutingOfWrong : ChangeSpec := { name := "fnExactPermutingOf", fn := fun _ => fun
  | [d] => { results := [.lit (.bool false)], args := [d] }
  | _ => none }
def FnExactPermutingOfWrongFalsely : Prop := fnExactPermutingOfRow.holds Try.pinned (OpenSpec.ofChange fnExactPermutingOfWrong)

/-- 'laws.FnExactWeightChain': WHATEVER THE INPUT: true; the input reads as it did. -/
def fnExactWeightChainSpec : ChangeSpec := { name := "fnExactWeightChain", fn := fun _ => fun
  | [d] => { results := [.lit (.bool true)], args := [d] }
  | _ => none }
def fnExactWeightChainRow : OpenClaim := { program := "ytphlohplkadenaa", sum := "a1d9dd21580cee084bf86b2c74a702d5933427a64f70b37bb4d64f9e9f4c63d3", func := "loop.example/g01130/laws.FnExactWeightChain", spec := "fnExactWeightChain", unfollowed := true, recurses := true, apart := false }
def FnExactWeightChainSaid : Prop := fnExactWeightChainRow.holds Try.pinned (OpenSpec.ofChange fnExactWeightChainSpec)

/-- ITS FALSE NEIGHBOUR: 'it returns false'. Refute it at one input. -/
def fnExactWeightChainWrong : ChangeSpec := { name := "fnExactWeightChain", fn := fun _ => fun
  | [d] => { results := [.lit (.bool false)], args := [d] }
  | _ => none }
def FnExactWeightChainWrongFalsely : Prop := fnExactWeightChainRow.holds Try.pinned (OpenSpec.ofChange fnExactWeightChainWrong)

/-- 'laws.FnExactPermutingChain': WHATEVER THE INPUT: true; the input reads as it did. -/
def fnExactPermutingChainSpec : ChangeSpec := { name := "fnExactPermutingChain", fn := fun _ => fun
  | [d] => { results := [.lit (.bool true)], args := [d] }
  | _ => none }
def fnExactPermutingChainRow : OpenClaim := { program := "ytphlohplkadenaa", sum := "a1d9dd21580cee084bf86b2c74a702d5933427a64f70b37bb4d64f9e9f4c63d3", func := "loop.example/g01130/laws.FnExactPermutingChain", spec := "fnExactPermutingChain", unfollowed := true, recurses := true, apart := false }
def FnExactPermutingChainSaid : Prop := fnExactPermutingChainRow.holds Try.pinned (OpenSpec.ofChange fnExactPermutingChainSpec)

/-- ITS FALSE NEIGHBOUR: 'it returns false'. Refute it at one input. -/
def fnExactPermutingChainWrong : ChangeSpec := { name := "fnExactPermutingChain", fn := fun _ => fun
  | [d] => { results := [.lit (.bool false)], args := [d] }
  | _ => none }
def FnExactPermutingChainWrongFalsely : Prop := fnExactPermutingChainRow.holds Try.pinned (OpenSpec.ofChange fnExactPermutingChainWrong)

/-- 'laws.FnExactKnownChain': WHATEVER THE INPUT: true; the input reads as it did. -/
def fnExactKnownChainSpec : ChangeSpec := { name := "fnExactKnownChain", fn := fun _ => fun
  | [d1, d2] => { results := [.lit (.bool true)], args := [d1, d2] }
  | _ => none }
def fnExactKnownChainRow : OpenClaim := { program := "ytphlohplkadenaa", sum := "a1d9dd21580cee084bf86b2c74a702d5933427a64f70b37bb4d64f9e9f4c63d3", func := "loop.example/g01130/laws.FnExactKnownChain", spec := "fnExactKnownChain", unfollowed := true, recurses := true, apart := false }
def FnExactKnownChainSaid : Prop := fnExactKnownChainRow.holds Try.pinned (OpenSpec.ofChange fnExactKnownChainSpec)

/-- ITS FALSE NEIGHBOUR: 'it returns false'. Refute it at one input. -/
def fnExactKnownChainWrong : ChangeSpec := { name := "fnExactKnownChain", fn := fun _ => fun
  | [d1, d2] => { results := [.lit (.bool false)], args := [d1, d2] }
  | _ => none }
def FnExactKnownChainWrongFalsely : Prop := fnExactKnownChainRow.holds Try.pinned (OpenSpec.ofChange fnExactKnownChainWrong)

/- THE SECOND FORM. 'bulk': how many values and letters a reading holds, each counted each time it is reached (what is shared counts as often as it is met; a slice's spare places count too). A statement '..UptoSaid' is the law's where the arguments, and the package variables that the reading takes, are together of bulk at most 1048576: NARROWER than '..Said'. Prove '..Said' where nothing that the law and all that it calls make is longer than what came in: it says more and counts as full. Else prove '..UptoSaid'. A law counts once. -/
mutual
def uptoBulk {H : Type} : DataW H → Nat
  | .lit (.string bytes) => bytes.length + 1
  | .lit _ => 1
  | .nil => 1
  | .ptr d => uptoBulk d + 1
  | .slice elems spare => uptoBulkAll elems + uptoBulkAll spare + 1
  | .agg parts => uptoBulkAll parts + 1
  | .iface _ d => uptoBulk d + 1
  | .map entries => uptoBulkEntries entries + 1
  | .held _ => 1
def uptoBulkAll {H : Type} : List (DataW H) → Nat
  | [] => 0
  | d :: r => uptoBulk d + uptoBulkAll r
def uptoBulkEntries {H : Type} : List (Lit × DataW H) → Nat
  | [] => 0
  | x :: r => uptoBulkEntry x + uptoBulkEntries r
def uptoBulkEntry {H : Type} : Lit × DataW H → Nat
  | (.string bytes, d) => bytes.length + uptoBulk d + 1
  | (_, d) => uptoBulk d + 1
 end
def uptoSmall : (H : Type) → List (DataW H) → Bool := fun _ ds => decide (uptoBulkAll ds ≤ 1048576)
def OpenSpec.upto (s : _root_.Go.ChangeSpec) : _root_.Go.OpenSpec := { _root_.Go.OpenSpec.ofChange s with cond := some uptoSmall }

/-- 'laws.FnCheckPlace', WHERE WHAT IT READS IS OF BULK AT MOST 1048576: true; the input reads as it did. -/
def fnCheckPlaceUptoRow : OpenClaim := { program := "ytphlohplkadenaa", sum := "a1d9dd21580cee084bf86b2c74a702d5933427a64f70b37bb4d64f9e9f4c63d3", func := "loop.example/g01130/laws.FnCheckPlace", spec := "fnCheckPlace", unfollowed := true, recurses := true, apart := false, narrowed := true }
def FnCheckPlaceUptoSaid : Prop := fnCheckPlaceUptoRow.holds Try.pinned (OpenSpec.upto fnCheckPlaceSpec)

/-- 'laws.FnExactValidWeighting', WHERE WHAT IT READS IS OF BULK AT MOST 1048576: true; the input reads as it did. -/
def fnExactValidWeightingUptoRow : OpenClaim := { program := "ytphlohplkadenaa", sum := "a1d9dd21580cee084bf86b2c74a702d5933427a64f70b37bb4d64f9e9f4c63d3", func := "loop.example/g01130/laws.FnExactValidWeighting", spec := "fnExactValidWeighting", unfollowed := true, recurses := true, apart := false, narrowed := true }
def FnExactValidWeightingUptoSaid : Prop := fnExactValidWeightingUptoRow.holds Try.pinned (OpenSpec.upto fnExactValidWeightingSpec)

/-- 'laws.FnExactMirrorWeighting', WHERE WHAT IT READS IS OF BULK AT MOST 1048576: true; the input reads as it did. -/
def fnExactMirrorWeightingUptoRow : OpenClaim := { program := "ytphlohplkadenaa", sum := "a1d9dd21580cee084bf86b2c74a702d5933427a64f70b37bb4d64f9e9f4c63d3", func := "loop.example/g01130/laws.FnExactMirrorWeighting", spec := "fnExactMirrorWeighting", unfollowed := true, recurses := true, apart := false, narrowed := true }
def FnExactMirrorWeightingUptoSaid : Prop := fnExactMirrorWeightingUptoRow.holds Try.pinned (OpenSpec.upto fnExactMirrorWeightingSpec)

/-- 'laws.FnExactScaleWeighting', WHERE WHAT IT READS IS OF BULK AT MOST 1048576: true; the input reads as it did. -/
def fnExactScaleWeightingUptoRow : OpenClaim := { program := "ytphlohplkadenaa", sum := "a1d9dd21580cee084bf86b2c74a702d5933427a64f70b37bb4d64f9e9f4c63d3", func := "loop.example/g01130/laws.FnExactScaleWeighting", spec := "fnExactScaleWeighting", unfollowed := true, recurses := true, apart := false, narrowed := true }
def FnExactScaleWeightingUptoSaid : Prop := fnExactScaleWeightingUptoRow.holds Try.pinned (OpenSpec.upto fnExactScaleWeightingSpec)

/-- 'laws.FnExactValidPermuting', WHERE WHAT IT READS IS OF BULK AT MOST 1048576: true; the input reads as it did. -/
def fnExactValidPermutingUptoRow : OpenClaim := { program := "ytphlohplkadenaa", sum := "a1d9dd21580cee084bf86b2c74a702d5933427a64f70b37bb4d64f9e9f4c63d3", func := "loop.example/g01130/laws.FnExactValidPermuting", spec := "fnExactValidPermuting", unfollowed := true, recurses := true, apart := false, narrowed := true }
def FnExactValidPermutingUptoSaid : Prop := fnExactValidPermutingUptoRow.holds Try.pinned (OpenSpec.upto fnExactValidPermutingSpec)

/-- 'laws.FnExactIsCheckPlace', WHERE WHAT IT READS IS OF BULK AT MOST 1048576: true; the input reads as it did. -/
def fnExactIsCheckPlaceUptoRow : OpenClaim := { program := "ytphlohplkadenaa", sum := "a1d9dd21580cee084bf86b2c74a702d5933427a64f70b37bb4d64f9e9f4c63d3", func := "loop.example/g01130/laws.FnExactIsCheckPlace", spec := "fnExactIsCheckPlace", unfollowed := true, recurses := true, apart := false, narrowed := true }
def FnExactIsCheckPlaceUptoSaid : Prop := fnExactIsCheckPlaceUptoRow.holds Try.pinned (OpenSpec.upto fnExactIsCheckPlaceSpec)

/-- 'laws.FnExactUnseenPairs', WHERE WHAT IT READS IS OF BULK AT MOST 1048576: true; the input reads as it did. -/
def fnExactUnseenPairsUptoRow : OpenClaim := { program := "ytphlohplkadenaa", sum := "a1d9dd21580cee084bf86b2c74a702d5933427a64f70b37bb4d64f9e9f4c63d3", func := "loop.example/g01130/laws.FnExactUnseenPairs", spec := "fnExactUnseenPairs", unfollowed := true, recurses := true, apart := false, narrowed := true }
def FnExactUnseenPairsUptoSaid : Prop := fnExactUnseenPairsUptoRow.holds Try.pinned (OpenSpec.upto fnExactUnseenPairsSpec)

/-- 'laws.FnExactWeightCatches', WHERE WHAT IT READS IS OF BULK AT MOST 1048576: true; the input reads as it did. -/
def fnExactWeightCatchesUptoRow : OpenClaim := { program := "ytphlohplkadenaa", sum := "a1d9dd21580cee084bf86b2c74a702d5933427a64f70b37bb4d64f9e9f4c63d3", func := "loop.example/g01130/laws.FnExactWeightCatches", spec := "fnExactWeightCatches", unfollowed := true, recurses := true, apart := false, narrowed := true }
def FnExactWeightCatchesUptoSaid : Prop := fnExactWeightCatchesUptoRow.holds Try.pinned (OpenSpec.upto fnExactWeightCatchesSpec)

/-- 'laws.FnExactPermutingOf', WHERE WHAT IT READS IS OF BULK AT MOST 1048576: true; the input reads as it did. -/
def fnExactPermutingOfUptoRow : OpenClaim := { program := "ytphlohplkadenaa", sum := "a1d9dd21580cee084bf86b2c74a702d5933427a64f70b37bb4d64f9e9f4c63d3", func := "loop.example/g01130/laws.FnExactPermutingOf", spec := "fnExactPermutingOf", unfollowed := true, recurses := true, apart := false, narrowed := true }
def FnExactPermutingOfUptoSaid : Prop := fnExactPermutingOfUptoRow.holds Try.pinned (OpenSpec.upto fnExactPermutingOfSpec)

/-- 'laws.FnExactWeightChain', WHERE WHAT IT READS IS OF BULK AT MOST 1048576: true; the input reads as it did. -/
def fnExactWeightChainUptoRow : OpenClaim := { program := "ytphlohplkadenaa", sum := "a1d9dd21580cee084bf86b2c74a702d5933427a64f70b37bb4d64f9e9f4c63d3", func := "loop.example/g01130/laws.FnExactWeightChain", spec := "fnExactWeightChain", unfollowed := true, recurses := true, apart := false, narrowed := true }
def FnExactWeightChainUptoSaid : Prop := fnExactWeightChainUptoRow.holds Try.pinned (OpenSpec.upto fnExactWeightChainSpec)

/-- 'laws.FnExactPermutingChain', WHERE WHAT IT READS IS OF BULK AT MOST 1048576: true; the input reads as it did. -/
def fnExactPermutingChainUptoRow : OpenClaim := { program := "ytphlohplkadenaa", sum := "a1d9dd21580cee084bf86b2c74a702d5933427a64f70b37bb4d64f9e9f4c63d3", func := "loop.example/g01130/laws.FnExactPermutingChain", spec := "fnExactPermutingChain", unfollowed := true, recurses := true, apart := false, narrowed := true }
def FnExactPermutingChainUptoSaid : Prop := fnExactPermutingChainUptoRow.holds Try.pinned (OpenSpec.upto fnExactPermutingChainSpec)

/-- 'laws.FnExactKnownChain', WHERE WHAT IT READS IS OF BULK AT MOST 1048576: true; the input reads as it did. -/
def fnExactKnownChainUptoRow : OpenClaim := { program := "ytphlohplkadenaa", sum := "a1d9dd21580cee084bf86b2c74a702d5933427a64f70b37bb4d64f9e9f4c63d3", func := "loop.example/g01130/laws.FnExactKnownChain", spec := "fnExactKnownChain", unfollowed := true, recurses := true, apart := false, narrowed := true }
def FnExactKnownChainUptoSaid : Prop := fnExactKnownChainUptoRow.holds Try.pinned (OpenSpec.upto fnExactKnownChainSpec)

end Rows
end Go.Proofs.Ytphlohplkadenaa
