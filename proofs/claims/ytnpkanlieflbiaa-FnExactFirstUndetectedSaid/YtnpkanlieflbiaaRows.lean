/-
  No cell of these rows narrows 'for every input' (looked for: loops, veiled, ifaces, maps, wideKeys, modest, calm, conditions, laid).
  DERIVED. THE GIVEN ROWS OF THIS SEAT. 10 by the template 'for every input the law returns true; each argument reads behind the call as it read before'; 0 by the template 'total and deterministic' (their statements: YtnpkanlieflbiaaTotals.lean).
  GIVEN WITH THE SEED: the statements are not yours to turn. If you find one false, say at which input.
  Laid BY PROGRAM, IN A SANDBOX (cutbox-rows.mjs): the forced cells as the released guide's own fill.sh prints them over the translation 04cc076860a0333b… (all of the seat's roots in one cut). By AI agents, Wed Nov 11 2026. No macro, syntax, notation, axiom, sorry.
-/
import Derived.Test.YtnpkanlieflbiaaChecked
import GoSem.Claim
import GoSem.ClaimJoined
import GoSem.ClaimMapViews
import Derived.JoinedTies
import Derived.KernelRfl
namespace Go.Proofs.Ytnpkanlieflbiaa
/- THE CELL 'sum', in the pinned program and in every row, IS THE sha256 OF THE DUMP (.gsa) THAT YtnpkanlieflbiaaProg.lean LOADS. Nothing in Lean hashes anything: it is a label: what it is worth is what the hold of that sum in a sandbox is worth. -/
noncomputable def Try.pinned : Pinned := { name := "ytnpkanlieflbiaa", sum := "04cc076860a0333b41a089466c0c6b4bd34d74642adf7d5e27c7967337b3cd8f", checked := Try.checked }
namespace Rows
def none {H : Type} : Left H := { results := [], args := [] }

/-- 'laws.FnExactWeightChain': WHATEVER THE INPUT: true; the input reads as it did. -/
def fnExactWeightChainSpec : ChangeSpec := { name := "fnExactWeightChain", fn := fun _ => fun
  | [d] => { results := [.lit (.bool true)], args := [d] }
  | _ => none }
def fnExactWeightChainRow : OpenClaim := { program := "ytnpkanlieflbiaa", sum := "04cc076860a0333b41a089466c0c6b4bd34d74642adf7d5e27c7967337b3cd8f", func := "loop.example/g01130/laws.FnExactWeightChain", spec := "fnExactWeightChain", unfollowed := true, recurses := true, plainKeys := false, apart := false }
def FnExactWeightChainSaid : Prop := fnExactWeightChainRow.holds Try.pinned (OpenSpec.ofChange fnExactWeightChainSpec)

/-- ITS FALSE NEIGHBOUR: 'it returns false'. Refute it at one input. -/
def fnExactWeightChainWrong : ChangeSpec := { name := "fnExactWeightChain", fn := fun _ => fun
  | [d] => { results := [.lit (.bool false)], args := [d] }
  | _ => none }
def FnExactWeightChainWrongFalsely : Prop := fnExactWeightChainRow.holds Try.pinned (OpenSpec.ofChange fnExactWeightChainWrong)

/-- 'laws.FnExactPermutingChain': WHATEVER THE INPUT: true; the input reads as it did. -/
def fnExactPermutingChainSpec : ChangeSpec := { name := "fnExactPermutingChain", fn := fun _ => fun
  | [d] => { results := [.lit (.bool true)], args := [d] }
  | _ => none }
def fnExactPermutingChainRow : OpenClaim := { program := "ytnpkanlieflbiaa", sum := "04cc076860a0333b41a089466c0c6b4bd34d74642adf7d5e27c7967337b3cd8f", func := "loop.example/g01130/laws.FnExactPermutingChain", spec := "fnExactPermutingChain", unfollowed := true, recurses := true, plainKeys := false, apart := false }
def FnExactPermutingChainSaid : Prop := fnExactPermutingChainRow.holds Try.pinned (OpenSpec.ofChange fnExactPermutingChainSpec)

/-- ITS FALSE NEIGHBOUR: 'it returns false'. Refute it at one input. -/
def fnExactPermutingChainWrong : ChangeSpec := { name := "fnExactPermutingChain", fn := fun _ => fun
  | [d] => { results := [.lit (.bool false)], args := [d] }
  | _ => none }
def FnExactPermutingChainWrongFalsely : Prop := fnExactPermutingChainRow.holds Try.pinned (OpenSpec.ofChange fnExactPermutingChainWrong)

/-- 'laws.FnExactKnownChain': WHATEVER THE INPUT: true; the input reads as it did. -/
def fnExactKnownChainSpec : ChangeSpec := { name := "fnExactKnownChain", fn := fun _ => fun
  | [d1, d2] => { results := [.lit (.bool true)], args := [d1, d2] }
  | _ => none }
def fnExactKnownChainRow : OpenClaim := { program := "ytnpkanlieflbiaa", sum := "04cc076860a0333b41a089466c0c6b4bd34d74642adf7d5e27c7967337b3cd8f", func := "loop.example/g01130/laws.FnExactKnownChain", spec := "fnExactKnownChain", unfollowed := true, recurses := true, plainKeys := false, apart := false }
def FnExactKnownChainSaid : Prop := fnExactKnownChainRow.holds Try.pinned (OpenSpec.ofChange fnExactKnownChainSpec)

/-- ITS FALSE NEIGHBOUR: 'it returns false'. Refute it at one input. -/
def fnExactKnownChainWrong : ChangeSpec := { name := "fnExactKnownChain", fn := fun _ => fun
  | [d1, d2] => { results := [.lit (.bool false)], args := [d1, d2] }
  | _ => none }
def FnExactKnownChainWrongFalsely : Prop := fnExactKnownChainRow.holds Try.pinned (OpenSpec.ofChange fnExactKnownChainWrong)

/-- 'laws.FnUnseen': WHATEVER THE INPUT: true; the input reads as it did. -/
def fnUnseenSpec : ChangeSpec := { name := "fnUnseen", fn := fun _ => fun
  | [d1, d2] => { results := [.lit (.bool true)], args := [d1, d2] }
  | _ => none }
def fnUnseenRow : OpenClaim := { program := "ytnpkanlieflbiaa", sum := "04cc076860a0333b41a089466c0c6b4bd34d74642adf7d5e27c7967337b3cd8f", func := "loop.example/g01130/laws.FnUnseen", spec := "fnUnseen", unfollowed := true, recurses := true, plainKeys := false, apart := false }
def FnUnseenSaid : Prop := fnUnseenRow.holds Try.pinned (OpenSpec.ofChange fnUnseenSpec)

/-- ITS FALSE NEIGHBOUR: 'it returns false'. Refute it at one input. -/
def fnUnseenWrong : ChangeSpec := { name := "fnUnseen", fn := fun _ => fun
  | [d1, d2] => { results := [.lit (.bool false)], args := [d1, d2] }
  | _ => none }
def FnUnseenWrongFalsely : Prop := fnUnseenRow.holds Try.pinned (OpenSpec.ofChange fnUnseenWrong)

/-- 'laws.FnPlaced': WHATEVER THE INPUT: true; the input reads as it did. -/
def fnPlacedSpec : ChangeSpec := { name := "fnPlaced", fn := fun _ => fun
  | [d1, d2] => { results := [.lit (.bool true)], args := [d1, d2] }
  | _ => none }
def fnPlacedRow : OpenClaim := { program := "ytnpkanlieflbiaa", sum := "04cc076860a0333b41a089466c0c6b4bd34d74642adf7d5e27c7967337b3cd8f", func := "loop.example/g01130/laws.FnPlaced", spec := "fnPlaced", unfollowed := true, recurses := true, plainKeys := false, apart := false }
def FnPlacedSaid : Prop := fnPlacedRow.holds Try.pinned (OpenSpec.ofChange fnPlacedSpec)

/-- ITS FALSE NEIGHBOUR: 'it returns false'. Refute it at one input. -/
def fnPlacedWrong : ChangeSpec := { name := "fnPlaced", fn := fun _ => fun
  | [d1, d2] => { results := [.lit (.bool false)], args := [d1, d2] }
  | _ => none }
def FnPlacedWrongFalsely : Prop := fnPlacedRow.holds Try.pinned (OpenSpec.ofChange fnPlacedWrong)

/-- 'laws.FnExactEvenChain': WHATEVER THE INPUT: true; the input reads as it did. -/
def fnExactEvenChainSpec : ChangeSpec := { name := "fnExactEvenChain", fn := fun _ => fun
  | [d1, d2, d3, d4] => { results := [.lit (.bool true)], args := [d1, d2, d3, d4] }
  | _ => none }
def fnExactEvenChainRow : OpenClaim := { program := "ytnpkanlieflbiaa", sum := "04cc076860a0333b41a089466c0c6b4bd34d74642adf7d5e27c7967337b3cd8f", func := "loop.example/g01130/laws.FnExactEvenChain", spec := "fnExactEvenChain", unfollowed := true, recurses := true, plainKeys := false, apart := false }
def FnExactEvenChainSaid : Prop := fnExactEvenChainRow.holds Try.pinned (OpenSpec.ofChange fnExactEvenChainSpec)

/-- ITS FALSE NEIGHBOUR: 'it returns false'. Refute it at one input. -/
def fnExactEvenChainWrong : ChangeSpec := { name := "fnExactEvenChain", fn := fun _ => fun
  | [d1, d2, d3, d4] => { results := [.lit (.bool false)], args := [d1, d2, d3, d4] }
  | _ => none }
def FnExactEvenChainWrongFalsely : Prop := fnExactEvenChainRow.holds Try.pinned (OpenSpec.ofChange fnExactEvenChainWrong)

/-- 'laws.FnExactJoinChains': WHATEVER THE INPUT: true; the input reads as it did. -/
def fnExactJoinChainsSpec : ChangeSpec := { name := "fnExactJoinChains", fn := fun _ => fun
  | [d1, d2] => { results := [.lit (.bool true)], args := [d1, d2] }
  | _ => none }
def fnExactJoinChainsRow : OpenClaim := { program := "ytnpkanlieflbiaa", sum := "04cc076860a0333b41a089466c0c6b4bd34d74642adf7d5e27c7967337b3cd8f", func := "loop.example/g01130/laws.FnExactJoinChains", spec := "fnExactJoinChains", unfollowed := true, recurses := true, plainKeys := false, apart := false }
def FnExactJoinChainsSaid : Prop := fnExactJoinChainsRow.holds Try.pinned (OpenSpec.ofChange fnExactJoinChainsSpec)

/-- ITS FALSE NEIGHBOUR: 'it returns false'. Refute it at one input. -/
def fnExactJoinChainsWrong : ChangeSpec := { name := "fnExactJoinChains", fn := fun _ => fun
  | [d1, d2] => { results := [.lit (.bool false)], args := [d1, d2] }
  | _ => none }
def FnExactJoinChainsWrongFalsely : Prop := fnExactJoinChainsRow.holds Try.pinned (OpenSpec.ofChange fnExactJoinChainsWrong)

/-- 'laws.FnExactFirstUndetected': WHATEVER THE INPUT: true; the input reads as it did. -/
def fnExactFirstUndetectedSpec : ChangeSpec := { name := "fnExactFirstUndetected", fn := fun _ => fun
  | [d1, d2] => { results := [.lit (.bool true)], args := [d1, d2] }
  | _ => none }
def fnExactFirstUndetectedRow : OpenClaim := { program := "ytnpkanlieflbiaa", sum := "04cc076860a0333b41a089466c0c6b4bd34d74642adf7d5e27c7967337b3cd8f", func := "loop.example/g01130/laws.FnExactFirstUndetected", spec := "fnExactFirstUndetected", unfollowed := true, recurses := true, plainKeys := false, apart := false }
def FnExactFirstUndetectedSaid : Prop := fnExactFirstUndetectedRow.holds Try.pinned (OpenSpec.ofChange fnExactFirstUndetectedSpec)

/-- ITS FALSE NEIGHBOUR: 'it returns false'. Refute it at one input. -/
def fnExactFirstUndetectedWrong : ChangeSpec := { name := "fnExactFirstUndetected", fn := fun _ => fun
  | [d1, d2] => { results := [.lit (.bool false)], args := [d1, d2] }
  | _ => none }
def FnExactFirstUndetectedWrongFalsely : Prop := fnExactFirstUndetectedRow.holds Try.pinned (OpenSpec.ofChange fnExactFirstUndetectedWrong)

/-- 'laws.FnExactLeastDistance': WHATEVER THE INPUT: true; the input reads as it did. -/
def fnExactLeastDistanceSpec : ChangeSpec := { name := "fnExactLeastDistance", fn := fun _ => fun
  | [d] => { results := [.lit (.bool true)], args := [d] }
  | _ => none }
def fnExactLeastDistanceRow : OpenClaim := { program := "ytnpkanlieflbiaa", sum := "04cc076860a0333b41a089466c0c6b4bd34d74642adf7d5e27c7967337b3cd8f", func := "loop.example/g01130/laws.FnExactLeastDistance", spec := "fnExactLeastDistance", unfollowed := true, recurses := true, plainKeys := false, apart := false }
def FnExactLeastDistanceSaid : Prop := fnExactLeastDistanceRow.holds Try.pinned (OpenSpec.ofChange fnExactLeastDistanceSpec)

/-- ITS FALSE NEIGHBOUR: 'it returns false'. Refute it at one input. -/
def fnExactLeastDistanceWrong : ChangeSpec := { name := "fnExactLeastDistance", fn := fun _ => fun
  | [d] => { results := [.lit (.bool false)], args := [d] }
  | _ => none }
def FnExactLeastDistanceWrongFalsely : Prop := fnExactLeastDistanceRow.holds Try.pinned (OpenSpec.ofChange fnExactLeastDistanceWrong)

/-- 'laws.FnDistances': WHATEVER THE INPUT: true; the input reads as it did. -/
def fnDistancesSpec : ChangeSpec := { name := "fnDistances", fn := fun _ => fun
  | [d1, d2] => { results := [.lit (.bool true)], args := [d1, d2] }
  | _ => none }
def fnDistancesRow : OpenClaim := { program := "ytnpkanlieflbiaa", sum := "04cc076860a0333b41a089466c0c6b4bd34d74642adf7d5e27c7967337b3cd8f", func := "loop.example/g01130/laws.FnDistances", spec := "fnDistances", unfollowed := true, recurses := true, plainKeys := false, apart := false }
def FnDistancesSaid : Prop := fnDistancesRow.holds Try.pinned (OpenSpec.ofChange fnDistancesSpec)

/-- ITS FALSE NEIGHBOUR: 'it returns false'. Refute it at one input. -/
def fnDistancesWrong : ChangeSpec := { name := "fnDistances", fn := fun _ => fun
  | [d1, d2] => { results := [.lit (.bool false)], args := [d1, d2] }
  | _ => none }
def FnDistancesWrongFalsely : Prop := fnDistancesRow.holds Try.pinned (OpenSpec.ofChange fnDistancesWrong)

/- THE SECOND FORM. 'bulk': how many values and letters a reading holds, each counted each time it is reached (what is shared counts as often as it is met; a slice's spare places count too). A statement '..UptoSaid' is the law's where the arguments, and the package variables that the reading takes, are together of bulk at most 1048576: NARROWER than '..Said'. Prove '..Said' where nothing that the law and all that it calls make is longer than what came in: it says more and counts as full. Else prove '..UptoSaid'. A law counts once. -/
mutual
def uptoBulk {H : Type} : DataW H → Nat
  | .lit (.string bytes) => bytes.length + 1
  | .lit _ => 1
  | .nil => 1
  | .ptr d => uptoBulk d + 1
  | .slice elems spare => uptoBulkAll elems + uptoBulkAll spare + 1
  | .agg parts => uptoBulkAll parts + 1
  | .iface _ d => uptoBulk d + 1
  | .map entries => uptoBulkEntries entries + 1
  | .held _ => 1
def uptoBulkAll {H : Type} : List (DataW H) → Nat
  | [] => 0
  | d :: r => uptoBulk d + uptoBulkAll r
def uptoBulkEntries {H : Type} : List (Lit × DataW H) → Nat
  | [] => 0
  | x :: r => uptoBulkEntry x + uptoBulkEntries r
def uptoBulkEntry {H : Type} : Lit × DataW H → Nat
  | (.string bytes, d) => bytes.length + uptoBulk d + 1
  | (_, d) => uptoBulk d + 1
 end
def uptoSmall : (H : Type) → List (DataW H) → Bool := fun _ ds => decide (uptoBulkAll ds ≤ 1048576)
def OpenSpec.upto (s : _root_.Go.ChangeSpec) : _root_.Go.OpenSpec := { _root_.Go.OpenSpec.ofChange s with cond := some uptoSmall }

/-- 'laws.FnExactWeightChain', WHERE WHAT IT READS IS OF BULK AT MOST 1048576: true; the input reads as it did. -/
def fnExactWeightChainUptoRow : OpenClaim := { program := "ytnpkanlieflbiaa", sum := "04cc076860a0333b41a089466c0c6b4bd34d74642adf7d5e27c7967337b3cd8f", func := "loop.example/g01130/laws.FnExactWeightChain", spec := "fnExactWeightChain", unfollowed := true, recurses := true, plainKeys := false, apart := false, narrowed := true }
def FnExactWeightChainUptoSaid : Prop := fnExactWeightChainUptoRow.holds Try.pinned (OpenSpec.upto fnExactWeightChainSpec)

/-- 'laws.FnExactPermutingChain', WHERE WHAT IT READS IS OF BULK AT MOST 1048576: true; the input reads as it did. -/
def fnExactPermutingChainUptoRow : OpenClaim := { program := "ytnpkanlieflbiaa", sum := "04cc076860a0333b41a089466c0c6b4bd34d74642adf7d5e27c7967337b3cd8f", func := "loop.example/g01130/laws.FnExactPermutingChain", spec := "fnExactPermutingChain", unfollowed := true, recurses := true, plainKeys := false, apart := false, narrowed := true }
def FnExactPermutingChainUptoSaid : Prop := fnExactPermutingChainUptoRow.holds Try.pinned (OpenSpec.upto fnExactPermutingChainSpec)

/-- 'laws.FnExactKnownChain', WHERE WHAT IT READS IS OF BULK AT MOST 1048576: true; the input reads as it did. -/
def fnExactKnownChainUptoRow : OpenClaim := { program := "ytnpkanlieflbiaa", sum := "04cc076860a0333b41a089466c0c6b4bd34d74642adf7d5e27c7967337b3cd8f", func := "loop.example/g01130/laws.FnExactKnownChain", spec := "fnExactKnownChain", unfollowed := true, recurses := true, plainKeys := false, apart := false, narrowed := true }
def FnExactKnownChainUptoSaid : Prop := fnExactKnownChainUptoRow.holds Try.pinned (OpenSpec.upto fnExactKnownChainSpec)

/-- 'laws.FnUnseen', WHERE WHAT IT READS IS OF BULK AT MOST 1048576: true; the input reads as it did. -/
def fnUnseenUptoRow : OpenClaim := { program := "ytnpkanlieflbiaa", sum := "04cc076860a0333b41a089466c0c6b4bd34d74642adf7d5e27c7967337b3cd8f", func := "loop.example/g01130/laws.FnUnseen", spec := "fnUnseen", unfollowed := true, recurses := true, plainKeys := false, apart := false, narrowed := true }
def FnUnseenUptoSaid : Prop := fnUnseenUptoRow.holds Try.pinned (OpenSpec.upto fnUnseenSpec)

/-- 'laws.FnPlaced', WHERE WHAT IT READS IS OF BULK AT MOST 1048576: true; the input reads as it did. -/
def fnPlacedUptoRow : OpenClaim := { program := "ytnpkanlieflbiaa", sum := "04cc076860a0333b41a089466c0c6b4bd34d74642adf7d5e27c7967337b3cd8f", func := "loop.example/g01130/laws.FnPlaced", spec := "fnPlaced", unfollowed := true, recurses := true, plainKeys := false, apart := false, narrowed := true }
def FnPlacedUptoSaid : Prop := fnPlacedUptoRow.holds Try.pinned (OpenSpec.upto fnPlacedSpec)

/-- 'laws.FnExactEvenChain', WHERE WHAT IT READS IS OF BULK AT MOST 1048576: true; the input reads as it did. -/
def fnExactEvenChainUptoRow : OpenClaim := { program := "ytnpkanlieflbiaa", sum := "04cc076860a0333b41a089466c0c6b4bd34d74642adf7d5e27c7967337b3cd8f", func := "loop.example/g01130/laws.FnExactEvenChain", spec := "fnExactEvenChain", unfollowed := true, recurses := true, plainKeys := false, apart := false, narrowed := true }
def FnExactEvenChainUptoSaid : Prop := fnExactEvenChainUptoRow.holds Try.pinned (OpenSpec.upto fnExactEvenChainSpec)

/-- 'laws.FnExactJoinChains', WHERE WHAT IT READS IS OF BULK AT MOST 1048576: true; the input reads as it did. -/
def fnExactJoinChainsUptoRow : OpenClaim := { program := "ytnpkanlieflbiaa", sum := "04cc076860a0333b41a089466c0c6b4bd34d74642adf7d5e27c7967337b3cd8f", func := "loop.example/g01130/laws.FnExactJoinChains", spec := "fnExactJoinChains", unfollowed := true, recurses := true, plainKeys := false, apart := false, narrowed := true }
def FnExactJoinChainsUptoSaid : Prop := fnExactJoinChainsUptoRow.holds Try.pinned (OpenSpec.upto fnExactJoinChainsSpec)

/-- 'laws.FnExactFirstUndetected', WHERE WHAT IT READS IS OF BULK AT MOST 1048576: true; the input reads as it did. -/
def fnExactFirstUndetectedUptoRow : OpenClaim := { program := "ytnpkanlieflbiaa", sum := "04cc076860a0333b41a089466c0c6b4bd34d74642adf7d5e27c7967337b3cd8f", func := "loop.example/g01130/laws.FnExactFirstUndetected", spec := "fnExactFirstUndetected", unfollowed := true, recurses := true, plainKeys := false, apart := false, narrowed := true }
def FnExactFirstUndetectedUptoSaid : Prop := fnExactFirstUndetectedUptoRow.holds Try.pinned (OpenSpec.upto fnExactFirstUndetectedSpec)

/-- 'laws.FnExactLeastDistance', WHERE WHAT IT READS IS OF BULK AT MOST 1048576: true; the input reads as it did. -/
def fnExactLeastDistanceUptoRow : OpenClaim := { program := "ytnpkanlieflbiaa", sum := "04cc076860a0333b41a089466c0c6b4bd34d74642adf7d5e27c7967337b3cd8f", func := "loop.example/g01130/laws.FnExactLeastDistance", spec := "fnExactLeastDistance", unfollowed := true, recurses := true, plainKeys := false, apart := false, narrowed := true }
def FnExactLeastDistanceUptoSaid : Prop := fnExactLeastDistanceUptoRow.holds Try.pinned (OpenSpec.upto fnExactLeastDistanceSpec)

/-- 'laws.FnDistances', WHERE WHAT IT READS IS OF BULK AT MOST 1048576: true; the input reads as it did. -/
def fnDistancesUptoRow : OpenClaim := { program := "ytnpkanlieflbiaa", sum := "04cc076860a0333b41a089466c0c6b4bd34d74642adf7d5e27c7967337b3cd8f", func := "loop.example/g01130/laws.FnDistances", spec := "fnDistances", unfollowed := true, recurses := true, plainKeys := false, apart := false, narrowed := true }
def FnDistancesUptoSaid : Prop := fnDistancesUptoRow.holds Try.pinned (OpenSpec.upto fnDistancesSpec)

end Rows
end Go.Proofs.Ytnpkanlieflbiaa
