/-
  No cell of these rows narrows 'for every input' (looked for: loops, veiled, ifaces, maps, wideKeys, modest, calm, conditions, laid).
  DERIVED. THE GIVEN ROWS OF THIS SEAT. 12 by the template 'for every input the law returns true; each argument reads behind the call as it read before'; 0 by the template 'total and deterministic' (their statements: YtcjmkiedcmlpcaaTotals.lean).
  GIVEN WITH THE SEED: the statements are not yours to turn. If you find one false, say at which input.
  Laid BY PROGRAM, IN A SANDBOX (cutbox-rows.mjs): the forced cells as the released guide's own fill.sh prints them over the translation ef930f17236fac3f… (all of the seat's roots in one cut). By AI agents, Wed Nov 11 2026. No macro, syntax, notation, axiom, sorry.
-/
import Derived.Test.YtcjmkiedcmlpcaaChecked
import GoSem.Claim
import GoSem.ClaimJoined
import GoSem.ClaimMapViews
import Derived.JoinedTies
import Derived.KernelRfl
namespace Go.Proofs.Ytcjmkiedcmlpcaa
/- THE CELL 'sum', in the pinned program and in every row, IS THE sha256 OF THE DUMP (.gsa) THAT YtcjmkiedcmlpcaaProg.lean LOADS. Nothing in Lean hashes anything: it is a label: what it is worth is what the hold of that sum in a sandbox is worth. -/
noncomputable def Try.pinned : Pinned := { name := "ytcjmkiedcmlpcaa", sum := "ef930f17236fac3f89ede346af6ac7eed9da92f99be8e26830b00d1c48935338", checked := Try.checked }
namespace Rows
def none {H : Type} : Left H := { results := [], args := [] }

/-- 'laws.FnExactValidChain': WHATEVER THE INPUT: true; the input reads as it did. -/
def fnExactValidChainSpec : ChangeSpec := { name := "fnExactValidChain", fn := fun _ => fun
  | [d] => { results := [.lit (.bool true)], args := [d] }
  | _ => none }
def fnExactValidChainRow : OpenClaim := { program := "ytcjmkiedcmlpcaa", sum := "ef930f17236fac3f89ede346af6ac7eed9da92f99be8e26830b00d1c48935338", func := "loop.example/g01130/laws.FnExactValidChain", spec := "fnExactValidChain", unfollowed := true, recurses := true, plainKeys := false, apart := false }
def FnExactValidChainSaid : Prop := fnExactValidChainRow.holds Try.pinned (OpenSpec.ofChange fnExactValidChainSpec)

/-- ITS FALSE NEIGHBOUR: 'it returns false'. Refute it at one input. -/
def fnExactValidChainWrong : ChangeSpec := { name := "fnExactValidChain", fn := fun _ => fun
  | [d] => { results := [.lit (.bool false)], args := [d] }
  | _ => none }
def FnExactValidChainWrongFalsely : Prop := fnExactValidChainRow.holds Try.pinned (OpenSpec.ofChange fnExactValidChainWrong)

/-- 'laws.FnExactCountWords': WHATEVER THE INPUT: true; the input reads as it did. -/
def fnExactCountWordsSpec : ChangeSpec := { name := "fnExactCountWords", fn := fun _ => fun
  | [d] => { results := [.lit (.bool true)], args := [d] }
  | _ => none }
def fnExactCountWordsRow : OpenClaim := { program := "ytcjmkiedcmlpcaa", sum := "ef930f17236fac3f89ede346af6ac7eed9da92f99be8e26830b00d1c48935338", func := "loop.example/g01130/laws.FnExactCountWords", spec := "fnExactCountWords", unfollowed := true, recurses := true, plainKeys := false, apart := false }
def FnExactCountWordsSaid : Prop := fnExactCountWordsRow.holds Try.pinned (OpenSpec.ofChange fnExactCountWordsSpec)

/-- ITS FALSE NEIGHBOUR: 'it returns false'. Refute it at one input. -/
def fnExactCountWordsWrong : ChangeSpec := { name := "fnExactCountWords", fn := fun _ => fun
  | [d] => { results := [.lit (.bool false)], args := [d] }
  | _ => none }
def FnExactCountWordsWrongFalsely : Prop := fnExactCountWordsRow.holds Try.pinned (OpenSpec.ofChange fnExactCountWordsWrong)

/-- 'laws.FnPlaced': WHATEVER THE INPUT: true; the input reads as it did. -/
def fnPlacedSpec : ChangeSpec := { name := "fnPlaced", fn := fun _ => fun
  | [d1, d2] => { results := [.lit (.bool true)], args := [d1, d2] }
  | _ => none }
def fnPlacedRow : OpenClaim := { program := "ytcjmkiedcmlpcaa", sum := "ef930f17236fac3f89ede346af6ac7eed9da92f99be8e26830b00d1c48935338", func := "loop.example/g01130/laws.FnPlaced", spec := "fnPlaced", unfollowed := true, recurses := true, plainKeys := false, apart := false }
def FnPlacedSaid : Prop := fnPlacedRow.holds Try.pinned (OpenSpec.ofChange fnPlacedSpec)

/-- ITS FALSE NEIGHBOUR: 'it returns false'. Refute it at one input. -/
def fnPlacedWrong : ChangeSpec := { name := "fnPlaced", fn := fun _ => fun
  | [d1, d2] => { results := [.lit (.bool false)], args := [d1, d2] }
  | _ => none }
def FnPlacedWrongFalsely : Prop := fnPlacedRow.holds Try.pinned (OpenSpec.ofChange fnPlacedWrong)

/-- 'laws.FnExactEvenChain': WHATEVER THE INPUT: true; the input reads as it did. -/
def fnExactEvenChainSpec : ChangeSpec := { name := "fnExactEvenChain", fn := fun _ => fun
  | [d1, d2, d3, d4] => { results := [.lit (.bool true)], args := [d1, d2, d3, d4] }
  | _ => none }
def fnExactEvenChainRow : OpenClaim := { program := "ytcjmkiedcmlpcaa", sum := "ef930f17236fac3f89ede346af6ac7eed9da92f99be8e26830b00d1c48935338", func := "loop.example/g01130/laws.FnExactEvenChain", spec := "fnExactEvenChain", unfollowed := true, recurses := true, plainKeys := false, apart := false }
def FnExactEvenChainSaid : Prop := fnExactEvenChainRow.holds Try.pinned (OpenSpec.ofChange fnExactEvenChainSpec)

/-- ITS FALSE NEIGHBOUR: 'it returns false'. Refute it at one input. -/
def fnExactEvenChainWrong : ChangeSpec := { name := "fnExactEvenChain", fn := fun _ => fun
  | [d1, d2, d3, d4] => { results := [.lit (.bool false)], args := [d1, d2, d3, d4] }
  | _ => none }
def FnExactEvenChainWrongFalsely : Prop := fnExactEvenChainRow.holds Try.pinned (OpenSpec.ofChange fnExactEvenChainWrong)

/-- 'laws.FnExactWordAt': WHATEVER THE INPUT: true; the input reads as it did. -/
def fnExactWordAtSpec : ChangeSpec := { name := "fnExactWordAt", fn := fun _ => fun
  | [d1, d2] => { results := [.lit (.bool true)], args := [d1, d2] }
  | _ => none }
def fnExactWordAtRow : OpenClaim := { program := "ytcjmkiedcmlpcaa", sum := "ef930f17236fac3f89ede346af6ac7eed9da92f99be8e26830b00d1c48935338", func := "loop.example/g01130/laws.FnExactWordAt", spec := "fnExactWordAt", unfollowed := true, recurses := true, plainKeys := false, apart := false }
def FnExactWordAtSaid : Prop := fnExactWordAtRow.holds Try.pinned (OpenSpec.ofChange fnExactWordAtSpec)

/-- ITS FALSE NEIGHBOUR: 'it returns false'. Refute it at one input. -/
def fnExactWordAtWrong : ChangeSpec := { name := "fnExactWordAt", fn := fun _ => fun
  | [d1, d2] => { results := [.lit (.bool false)], args := [d1, d2] }
  | _ => none }
def FnExactWordAtWrongFalsely : Prop := fnExactWordAtRow.holds Try.pinned (OpenSpec.ofChange fnExactWordAtWrong)

/-- 'laws.FnExactJoinChains': WHATEVER THE INPUT: true; the input reads as it did. -/
def fnExactJoinChainsSpec : ChangeSpec := { name := "fnExactJoinChains", fn := fun _ => fun
  | [d1, d2] => { results := [.lit (.bool true)], args := [d1, d2] }
  | _ => none }
def fnExactJoinChainsRow : OpenClaim := { program := "ytcjmkiedcmlpcaa", sum := "ef930f17236fac3f89ede346af6ac7eed9da92f99be8e26830b00d1c48935338", func := "loop.example/g01130/laws.FnExactJoinChains", spec := "fnExactJoinChains", unfollowed := true, recurses := true, plainKeys := false, apart := false }
def FnExactJoinChainsSaid : Prop := fnExactJoinChainsRow.holds Try.pinned (OpenSpec.ofChange fnExactJoinChainsSpec)

/-- ITS FALSE NEIGHBOUR: 'it returns false'. Refute it at one input. -/
def fnExactJoinChainsWrong : ChangeSpec := { name := "fnExactJoinChains", fn := fun _ => fun
  | [d1, d2] => { results := [.lit (.bool false)], args := [d1, d2] }
  | _ => none }
def FnExactJoinChainsWrongFalsely : Prop := fnExactJoinChainsRow.holds Try.pinned (OpenSpec.ofChange fnExactJoinChainsWrong)

/-- 'laws.FnExactUndetectedAt': WHATEVER THE INPUT: true; the input reads as it did. -/
def fnExactUndetectedAtSpec : ChangeSpec := { name := "fnExactUndetectedAt", fn := fun _ => fun
  | [d1, d2, d3] => { results := [.lit (.bool true)], args := [d1, d2, d3] }
  | _ => none }
def fnExactUndetectedAtRow : OpenClaim := { program := "ytcjmkiedcmlpcaa", sum := "ef930f17236fac3f89ede346af6ac7eed9da92f99be8e26830b00d1c48935338", func := "loop.example/g01130/laws.FnExactUndetectedAt", spec := "fnExactUndetectedAt", unfollowed := true, recurses := true, plainKeys := false, apart := false }
def FnExactUndetectedAtSaid : Prop := fnExactUndetectedAtRow.holds Try.pinned (OpenSpec.ofChange fnExactUndetectedAtSpec)

/-- ITS FALSE NEIGHBOUR: 'it returns false'. Refute it at one input. -/
def fnExactUndetectedAtWrong : ChangeSpec := { name := "fnExactUndetectedAt", fn := fun _ => fun
  | [d1, d2, d3] => { results := [.lit (.bool false)], args := [d1, d2, d3] }
  | _ => none }
def FnExactUndetectedAtWrongFalsely : Prop := fnExactUndetectedAtRow.holds Try.pinned (OpenSpec.ofChange fnExactUndetectedAtWrong)

/-- 'laws.FnExactUndetectedIn': WHATEVER THE INPUT: true; the input reads as it did. -/
def fnExactUndetectedInSpec : ChangeSpec := { name := "fnExactUndetectedIn", fn := fun _ => fun
  | [d1, d2] => { results := [.lit (.bool true)], args := [d1, d2] }
  | _ => none }
def fnExactUndetectedInRow : OpenClaim := { program := "ytcjmkiedcmlpcaa", sum := "ef930f17236fac3f89ede346af6ac7eed9da92f99be8e26830b00d1c48935338", func := "loop.example/g01130/laws.FnExactUndetectedIn", spec := "fnExactUndetectedIn", unfollowed := true, recurses := true, plainKeys := false, apart := false }
def FnExactUndetectedInSaid : Prop := fnExactUndetectedInRow.holds Try.pinned (OpenSpec.ofChange fnExactUndetectedInSpec)

/-- ITS FALSE NEIGHBOUR: 'it returns false'. Refute it at one input. -/
def fnExactUndetectedInWrong : ChangeSpec := { name := "fnExactUndetectedIn", fn := fun _ => fun
  | [d1, d2] => { results := [.lit (.bool false)], args := [d1, d2] }
  | _ => none }
def FnExactUndetectedInWrongFalsely : Prop := fnExactUndetectedInRow.holds Try.pinned (OpenSpec.ofChange fnExactUndetectedInWrong)

/-- 'laws.FnExactIsCaught': WHATEVER THE INPUT: true; the input reads as it did. -/
def fnExactIsCaughtSpec : ChangeSpec := { name := "fnExactIsCaught", fn := fun _ => fun
  | [d1, d2] => { results := [.lit (.bool true)], args := [d1, d2] }
  | _ => none }
def fnExactIsCaughtRow : OpenClaim := { program := "ytcjmkiedcmlpcaa", sum := "ef930f17236fac3f89ede346af6ac7eed9da92f99be8e26830b00d1c48935338", func := "loop.example/g01130/laws.FnExactIsCaught", spec := "fnExactIsCaught", unfollowed := true, recurses := true, plainKeys := false, apart := false }
def FnExactIsCaughtSaid : Prop := fnExactIsCaughtRow.holds Try.pinned (OpenSpec.ofChange fnExactIsCaughtSpec)

/-- ITS FALSE NEIGHBOUR: 'it returns false'. Refute it at one input. -/
def fnExactIsCaughtWrong : ChangeSpec := { name := "fnExactIsCaught", fn := fun _ => fun
  | [d1, d2] => { results := [.lit (.bool false)], args := [d1, d2] }
  | _ => none }
def FnExactIsCaughtWrongFalsely : Prop := fnExactIsCaughtRow.holds Try.pinned (OpenSpec.ofChange fnExactIsCaughtWrong)

/-- 'laws.FnExactFirstUndetected': WHATEVER THE INPUT: true; the input reads as it did. -/
def fnExactFirstUndetectedSpec : ChangeSpec := { name := "fnExactFirstUndetected", fn := fun _ => fun
  | [d1, d2] => { results := [.lit (.bool true)], args := [d1, d2] }
  | _ => none }
def fnExactFirstUndetectedRow : OpenClaim := { program := "ytcjmkiedcmlpcaa", sum := "ef930f17236fac3f89ede346af6ac7eed9da92f99be8e26830b00d1c48935338", func := "loop.example/g01130/laws.FnExactFirstUndetected", spec := "fnExactFirstUndetected", unfollowed := true, recurses := true, plainKeys := false, apart := false }
def FnExactFirstUndetectedSaid : Prop := fnExactFirstUndetectedRow.holds Try.pinned (OpenSpec.ofChange fnExactFirstUndetectedSpec)

/-- ITS FALSE NEIGHBOUR: 'it returns false'. Refute it at one input. -/
def fnExactFirstUndetectedWrong : ChangeSpec := { name := "fnExactFirstUndetected", fn := fun _ => fun
  | [d1, d2] => { results := [.lit (.bool false)], args := [d1, d2] }
  | _ => none }
def FnExactFirstUndetectedWrongFalsely : Prop := fnExactFirstUndetectedRow.holds Try.pinned (OpenSpec.ofChange fnExactFirstUndetectedWrong)

/-- 'laws.FnExactLeastDistance': WHATEVER THE INPUT: true; the input reads as it did. -/
def fnExactLeastDistanceSpec : ChangeSpec := { name := "fnExactLeastDistance", fn := fun _ => fun
  | [d] => { results := [.lit (.bool true)], args := [d] }
  | _ => none }
def fnExactLeastDistanceRow : OpenClaim := { program := "ytcjmkiedcmlpcaa", sum := "ef930f17236fac3f89ede346af6ac7eed9da92f99be8e26830b00d1c48935338", func := "loop.example/g01130/laws.FnExactLeastDistance", spec := "fnExactLeastDistance", unfollowed := true, recurses := true, plainKeys := false, apart := false }
def FnExactLeastDistanceSaid : Prop := fnExactLeastDistanceRow.holds Try.pinned (OpenSpec.ofChange fnExactLeastDistanceSpec)

/-- ITS FALSE NEIGHBOUR: 'it returns false'. Refute it at one input. -/
def fnExactLeastDistanceWrong : ChangeSpec := { name := "fnExactLeastDistance", fn := fun _ => fun
  | [d] => { results := [.lit (.bool false)], args := [d] }
  | _ => none }
def FnExactLeastDistanceWrongFalsely : Prop := fnExactLeastDistanceRow.holds Try.pinned (OpenSpec.ofChange fnExactLeastDistanceWrong)

/-- 'laws.FnDistances': WHATEVER THE INPUT: true; the input reads as it did. -/
def fnDistancesSpec : ChangeSpec := { name := "fnDistances", fn := fun _ => fun
  | [d1, d2] => { results := [.lit (.bool true)], args := [d1, d2] }
  | _ => none }
def fnDistancesRow : OpenClaim := { program := "ytcjmkiedcmlpcaa", sum := "ef930f17236fac3f89ede346af6ac7eed9da92f99be8e26830b00d1c48935338", func := "loop.example/g01130/laws.FnDistances", spec := "fnDistances", unfollowed := true, recurses := true, plainKeys := false, apart := false }
def FnDistancesSaid : Prop := fnDistancesRow.holds Try.pinned (OpenSpec.ofChange fnDistancesSpec)

/-- ITS FALSE NEIGHBOUR: 'it returns false'. Refute it at one input. -/
def fnDistancesWrong : ChangeSpec := { name := "fnDistances", fn := fun _ => fun
  | [d1, d2] => { results := [.lit (.bool false)], args := [d1, d2] }
  | _ => none }
def FnDistancesWrongFalsely : Prop := fnDistancesRow.holds Try.pinned (OpenSpec.ofChange fnDistancesWrong)

/- THE SECOND FORM. 'bulk': how many values and letters a reading holds, each counted each time it is reached (what is shared counts as often as it is met; a slice's spare places count too). A statement '..UptoSaid' is the law's where the arguments, and the package variables that the reading takes, are together of bulk at most 1048576: NARROWER than '..Said'. Prove '..Said' where nothing that the law and all that it calls make is longer than what came in: it says more and counts as full. Else prove '..UptoSaid'. A law counts once. -/
mutual
def uptoBulk {H : Type} : DataW H → Nat
  | .lit (.string bytes) => bytes.length + 1
  | .lit _ => 1
  | .nil => 1
  | .ptr d => uptoBulk d + 1
  | .slice elems spare => uptoBulkAll elems + uptoBulkAll spare + 1
  | .agg parts => uptoBulkAll parts + 1
  | .iface _ d => uptoBulk d + 1
  | .map entries => uptoBulkEntries entries + 1
  | .held _ => 1
def uptoBulkAll {H : Type} : List (DataW H) → Nat
  | [] => 0
  | d :: r => uptoBulk d + uptoBulkAll r
def uptoBulkEntries {H : Type} : List (Lit × DataW H) → Nat
  | [] => 0
  | x :: r => uptoBulkEntry x + uptoBulkEntries r
def uptoBulkEntry {H : Type} : Lit × DataW H → Nat
  | (.string bytes, d) => bytes.length + uptoBulk d + 1
  | (_, d) => uptoBulk d + 1
 end
def uptoSmall : (H : Type) → List (DataW H) → Bool := fun _ ds => decide (uptoBulkAll ds ≤ 1048576)
def OpenSpec.upto (s : _root_.Go.ChangeSpec) : _root_.Go.OpenSpec := { _root_.Go.OpenSpec.ofChange s with cond := some uptoSmall }

/-- 'laws.FnExactValidChain', WHERE WHAT IT READS IS OF BULK AT MOST 1048576: true; the input reads as it did. -/
def fnExactValidChainUptoRow : OpenClaim := { program := "ytcjmkiedcmlpcaa", sum := "ef930f17236fac3f89ede346af6ac7eed9da92f99be8e26830b00d1c48935338", func := "loop.example/g01130/laws.FnExactValidChain", spec := "fnExactValidChain", unfollowed := true, recurses := true, plainKeys := false, apart := false, narrowed := true }
def FnExactValidChainUptoSaid : Prop := fnExactValidChainUptoRow.holds Try.pinned (OpenSpec.upto fnExactValidChainSpec)

/-- 'laws.FnExactCountWords', WHERE WHAT IT READS IS OF BULK AT MOST 1048576: true; the input reads as it did. -/
def fnExactCountWordsUptoRow : OpenClaim := { program := "ytcjmkiedcmlpcaa", sum := "ef930f17236fac3f89ede346af6ac7eed9da92f99be8e26830b00d1c48935338", func := "loop.example/g01130/laws.FnExactCountWords", spec := "fnExactCountWords", unfollowed := true, recurses := true, plainKeys := false, apart := false, narrowed := true }
def FnExactCountWordsUptoSaid : Prop := fnExactCountWordsUptoRow.holds Try.pinned (OpenSpec.upto fnExactCountWordsSpec)

/-- 'laws.FnPlaced', WHERE WHAT IT READS IS OF BULK AT MOST 1048576: true; the input reads as it did. -/
def fnPlacedUptoRow : OpenClaim := { program := "ytcjmkiedcmlpcaa", sum := "ef930f17236fac3f89ede346af6ac7eed9da92f99be8e26830b00d1c48935338", func := "loop.example/g01130/laws.FnPlaced", spec := "fnPlaced", unfollowed := true, recurses := true, plainKeys := false, apart := false, narrowed := true }
def FnPlacedUptoSaid : Prop := fnPlacedUptoRow.holds Try.pinned (OpenSpec.upto fnPlacedSpec)

/-- 'laws.FnExactEvenChain', WHERE WHAT IT READS IS OF BULK AT MOST 1048576: true; the input reads as it did. -/
def fnExactEvenChainUptoRow : OpenClaim := { program := "ytcjmkiedcmlpcaa", sum := "ef930f17236fac3f89ede346af6ac7eed9da92f99be8e26830b00d1c48935338", func := "loop.example/g01130/laws.FnExactEvenChain", spec := "fnExactEvenChain", unfollowed := true, recurses := true, plainKeys := false, apart := false, narrowed := true }
def FnExactEvenChainUptoSaid : Prop := fnExactEvenChainUptoRow.holds Try.pinned (OpenSpec.upto fnExactEvenChainSpec)

/-- 'laws.FnExactWordAt', WHERE WHAT IT READS IS OF BULK AT MOST 1048576: true; the input reads as it did. -/
def fnExactWordAtUptoRow : OpenClaim := { program := "ytcjmkiedcmlpcaa", sum := "ef930f17236fac3f89ede346af6ac7eed9da92f99be8e26830b00d1c48935338", func := "loop.example/g01130/laws.FnExactWordAt", spec := "fnExactWordAt", unfollowed := true, recurses := true, plainKeys := false, apart := false, narrowed := true }
def FnExactWordAtUptoSaid : Prop := fnExactWordAtUptoRow.holds Try.pinned (OpenSpec.upto fnExactWordAtSpec)

/-- 'laws.FnExactJoinChains', WHERE WHAT IT READS IS OF BULK AT MOST 1048576: true; the input reads as it did. -/
def fnExactJoinChainsUptoRow : OpenClaim := { program := "ytcjmkiedcmlpcaa", sum := "ef930f17236fac3f89ede346af6ac7eed9da92f99be8e26830b00d1c48935338", func := "loop.example/g01130/laws.FnExactJoinChains", spec := "fnExactJoinChains", unfollowed := true, recurses := true, plainKeys := false, apart := false, narrowed := true }
def FnExactJoinChainsUptoSaid : Prop := fnExactJoinChainsUptoRow.holds Try.pinned (OpenSpec.upto fnExactJoinChainsSpec)

/-- 'laws.FnExactUndetectedAt', WHERE WHAT IT READS IS OF BULK AT MOST 1048576: true; the input reads as it did. -/
def fnExactUndetectedAtUptoRow : OpenClaim := { program := "ytcjmkiedcmlpcaa", sum := "ef930f17236fac3f89ede346af6ac7eed9da92f99be8e26830b00d1c48935338", func := "loop.example/g01130/laws.FnExactUndetectedAt", spec := "fnExactUndetectedAt", unfollowed := true, recurses := true, plainKeys := false, apart := false, narrowed := true }
def FnExactUndetectedAtUptoSaid : Prop := fnExactUndetectedAtUptoRow.holds Try.pinned (OpenSpec.upto fnExactUndetectedAtSpec)

/-- 'laws.FnExactUndetectedIn', WHERE WHAT IT READS IS OF BULK AT MOST 1048576: true; the input reads as it did. -/
def fnExactUndetectedInUptoRow : OpenClaim := { program := "ytcjmkiedcmlpcaa", sum := "ef930f17236fac3f89ede346af6ac7eed9da92f99be8e26830b00d1c48935338", func := "loop.example/g01130/laws.FnExactUndetectedIn", spec := "fnExactUndetectedIn", unfollowed := true, recurses := true, plainKeys := false, apart := false, narrowed := true }
def FnExactUndetectedInUptoSaid : Prop := fnExactUndetectedInUptoRow.holds Try.pinned (OpenSpec.upto fnExactUndetectedInSpec)

/-- 'laws.FnExactIsCaught', WHERE WHAT IT READS IS OF BULK AT MOST 1048576: true; the input reads as it did. -/
def fnExactIsCaughtUptoRow : OpenClaim := { program := "ytcjmkiedcmlpcaa", sum := "ef930f17236fac3f89ede346af6ac7eed9da92f99be8e26830b00d1c48935338", func := "loop.example/g01130/laws.FnExactIsCaught", spec := "fnExactIsCaught", unfollowed := true, recurses := true, plainKeys := false, apart := false, narrowed := true }
def FnExactIsCaughtUptoSaid : Prop := fnExactIsCaughtUptoRow.holds Try.pinned (OpenSpec.upto fnExactIsCaughtSpec)

/-- 'laws.FnExactFirstUndetected', WHERE WHAT IT READS IS OF BULK AT MOST 1048576: true; the input reads as it did. -/
def fnExactFirstUndetectedUptoRow : OpenClaim := { program := "ytcjmkiedcmlpcaa", sum := "ef930f17236fac3f89ede346af6ac7eed9da92f99be8e26830b00d1c48935338", func := "loop.example/g01130/laws.FnExactFirstUndetected", spec := "fnExactFirstUndetected", unfollowed := true, recurses := true, plainKeys := false, apart := false, narrowed := true }
def FnExactFirstUndetectedUptoSaid : Prop := fnExactFirstUndetectedUptoRow.holds Try.pinned (OpenSpec.upto fnExactFirstUndetectedSpec)

/-- 'laws.FnExactLeastDistance', WHERE WHAT IT READS IS OF BULK AT MOST 1048576: true; the input reads as it did. -/
def fnExactLeastDistanceUptoRow : OpenClaim := { program := "ytcjmkiedcmlpcaa", sum := "ef930f17236fac3f89ede346af6ac7eed9da92f99be8e26830b00d1c48935338", func := "loop.example/g01130/laws.FnExactLeastDistance", spec := "fnExactLeastDistance", unfollowed := true, recurses := true, plainKeys := false, apart := false, narrowed := true }
def FnExactLeastDistanceUptoSaid : Prop := fnExactLeastDistanceUptoRow.holds Try.pinned (OpenSpec.upto fnExactLeastDistanceSpec)

/-- 'laws.FnDistances', WHERE WHAT IT READS IS OF BULK AT MOST 1048576: true; the input reads as it did. -/
def fnDistancesUptoRow : OpenClaim := { program := "ytcjmkiedcmlpcaa", sum := "ef930f17236fac3f89ede346af6ac7eed9da92f99be8e26830b00d1c48935338", func := "loop.example/g01130/laws.FnDistances", spec := "fnDistances", unfollowed := true, recurses := true, plainKeys := false, apart := false, narrowed := true }
def FnDistancesUptoSaid : Prop := fnDistancesUptoRow.holds Try.pinned (OpenSpec.upto fnDistancesSpec)

end Rows
end Go.Proofs.Ytcjmkiedcmlpcaa
