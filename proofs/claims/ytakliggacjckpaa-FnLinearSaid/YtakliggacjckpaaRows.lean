/-
  No cell of these rows narrows 'for every input' (looked for: loops, veiled, ifaces, maps, wideKeys, modest, calm, conditions, laid).
  DERIVED. THE GIVEN ROWS OF THIS SEAT. 12 by the template 'for every input the law returns true; each argument reads behind the call as it read before'; 0 by the template 'total and deterministic' (their statements: YtakliggacjckpaaTotals.lean).
  GIVEN WITH THE SEED: the statements are not yours to turn. If you find one false, say at which input.
  Laid BY PROGRAM, IN A SANDBOX (cutbox-rows.mjs): the forced cells as the released guide's own fill.sh prints them over the translation cd3566cb2e184524… (all of the seat's roots in one cut). By AI agents, Wed Nov 11 2026. No macro, syntax, notation, axiom, sorry.
-/
import Derived.Test.YtakliggacjckpaaChecked
import GoSem.Claim
import GoSem.ClaimJoined
import GoSem.ClaimMapViews
import Derived.JoinedTies
import Derived.KernelRfl
namespace Go.Proofs.Ytakliggacjckpaa
/- THE CELL 'sum', in the pinned program and in every row, IS THE sha256 OF THE DUMP (.gsa) THAT YtakliggacjckpaaProg.lean LOADS. Nothing in Lean hashes anything: it is a label: what it is worth is what the hold of that sum in a sandbox is worth. -/
noncomputable def Try.pinned : Pinned := { name := "ytakliggacjckpaa", sum := "cd3566cb2e184524424b2db2591ad6cd219501caf283708b868743c460d3c819", checked := Try.checked }
namespace Rows
def none {H : Type} : Left H := { results := [], args := [] }

/-- 'laws.FnLinear': WHATEVER THE INPUT: true; the input reads as it did. -/
def fnLinearSpec : ChangeSpec := { name := "fnLinear", fn := fun _ => fun
  | [d1, d2] => { results := [.lit (.bool true)], args := [d1, d2] }
  | _ => none }
def fnLinearRow : OpenClaim := { program := "ytakliggacjckpaa", sum := "cd3566cb2e184524424b2db2591ad6cd219501caf283708b868743c460d3c819", func := "loop.example/g01130/laws.FnLinear", spec := "fnLinear", unfollowed := true, recurses := true, apart := false }
def FnLinearSaid : Prop := fnLinearRow.holds Try.pinned (OpenSpec.ofChange fnLinearSpec)

/-- ITS FALSE NEIGHBOUR: 'it returns false'. Refute it at one input. -/
def fnLinearWrong : ChangeSpec := { name := "fnLinear", fn := fun _ => fun
  | [d1, d2] => { results := [.lit (.bool false)], args := [d1, d2] }
  | _ => none }
def FnLinearWrongFalsely : Prop := fnLinearRow.holds Try.pinned (OpenSpec.ofChange fnLinearWrong)

/-- 'laws.FnExactIsQuasigroup': WHATEVER THE INPUT: true; the input reads as it did. -/
def fnExactIsQuasigroupSpec : ChangeSpec := { name := "fnExactIsQuasigroup", fn := fun _ => fun
  | [d] => { results := [.lit (.bool true)], args := [d] }
  | _ => none }
def fnExactIsQuasigroupRow : OpenClaim := { program := "ytakliggacjckpaa", sum := "cd3566cb2e184524424b2db2591ad6cd219501caf283708b868743c460d3c819", func := "loop.example/g01130/laws.FnExactIsQuasigroup", spec := "fnExactIsQuasigroup", apart := false }
def FnExactIsQuasigroupSaid : Prop := fnExactIsQuasigroupRow.holds Try.pinned (OpenSpec.ofChange fnExactIsQuasigroupSpec)

/-- ITS FALSE NEIGHBOUR: 'it returns false'. Refute it at one input. -/
def fnExactIsQuasigroupWrong : ChangeSpec := { name := "fnExactIsQuasigroup", fn := fun _ => fun
  | [d] => { results := [.lit (.bool false)], args := [d] }
  | _ => none }
def FnExactIsQuasigroupWrongFalsely : Prop := fnExactIsQuasigroupRow.holds Try.pinned (OpenSpec.ofChange fnExactIsQuasigroupWrong)

/-- 'laws.FnExactSwapClashes': WHATEVER THE INPUT: true; the input reads as it did. -/
def fnExactSwapClashesSpec : ChangeSpec := { name := "fnExactSwapClashes", fn := fun _ => fun
  | [d] => { results := [.lit (.bool true)], args := [d] }
  | _ => none }
def fnExactSwapClashesRow : OpenClaim := { program := "ytakliggacjckpaa", sum := "cd3566cb2e184524424b2db2591ad6cd219501caf283708b868743c460d3c819", func := "loop.example/g01130/laws.FnExactSwapClashes", spec := "fnExactSwapClashes", apart := false }
def FnExactSwapClashesSaid : Prop := fnExactSwapClashesRow.holds Try.pinned (OpenSpec.ofChange fnExactSwapClashesSpec)

/-- ITS FALSE NEIGHBOUR: 'it returns false'. Refute it at one input. -/
def fnExactSwapClashesWrong : ChangeSpec := { name := "fnExactSwapClashes", fn := fun _ => fun
  | [d] => { results := [.lit (.bool false)], args := [d] }
  | _ => none }
def FnExactSwapClashesWrongFalsely : Prop := fnExactSwapClashesRow.holds Try.pinned (OpenSpec.ofChange fnExactSwapClashesWrong)

/-- 'laws.FnExactChainClashes': WHATEVER THE INPUT: true; the input reads as it did. -/
def fnExactChainClashesSpec : ChangeSpec := { name := "fnExactChainClashes", fn := fun _ => fun
  | [d] => { results := [.lit (.bool true)], args := [d] }
  | _ => none }
def fnExactChainClashesRow : OpenClaim := { program := "ytakliggacjckpaa", sum := "cd3566cb2e184524424b2db2591ad6cd219501caf283708b868743c460d3c819", func := "loop.example/g01130/laws.FnExactChainClashes", spec := "fnExactChainClashes", apart := false }
def FnExactChainClashesSaid : Prop := fnExactChainClashesRow.holds Try.pinned (OpenSpec.ofChange fnExactChainClashesSpec)

/-- ITS FALSE NEIGHBOUR: 'it returns false'. Refute it at one input. -/
def fnExactChainClashesWrong : ChangeSpec := { name := "fnExactChainClashes", fn := fun _ => fun
  | [d] => { results := [.lit (.bool false)], args := [d] }
  | _ => none }
def FnExactChainClashesWrongFalsely : Prop := fnExactChainClashesRow.holds Try.pinned (OpenSpec.ofChange fnExactChainClashesWrong)

/-- 'laws.FnExactLinearTable': WHATEVER THE INPUT: true; the input reads as it did. -/
def fnExactLinearTableSpec : ChangeSpec := { name := "fnExactLinearTable", fn := fun _ => fun
  | [d1, d2, d3, d4] => { results := [.lit (.bool true)], args := [d1, d2, d3, d4] }
  | _ => none }
def fnExactLinearTableRow : OpenClaim := { program := "ytakliggacjckpaa", sum := "cd3566cb2e184524424b2db2591ad6cd219501caf283708b868743c460d3c819", func := "loop.example/g01130/laws.FnExactLinearTable", spec := "fnExactLinearTable", unfollowed := true, recurses := true, apart := false }
def FnExactLinearTableSaid : Prop := fnExactLinearTableRow.holds Try.pinned (OpenSpec.ofChange fnExactLinearTableSpec)

/-- ITS FALSE NEIGHBOUR: 'it returns false'. Refute it at one input. -/
def fnExactLinearTableWrong : ChangeSpec := { name := "fnExactLinearTable", fn := fun _ => fun
  | [d1, d2, d3, d4] => { results := [.lit (.bool false)], args := [d1, d2, d3, d4] }
  | _ => none }
def FnExactLinearTableWrongFalsely : Prop := fnExactLinearTableRow.holds Try.pinned (OpenSpec.ofChange fnExactLinearTableWrong)

/-- 'laws.FnExactCountTotally': WHATEVER THE INPUT: true; the input reads as it did. -/
def fnExactCountTotallySpec : ChangeSpec := { name := "fnExactCountTotally", fn := fun _ => fun
  | [d] => { results := [.lit (.bool true)], args := [d] }
  | _ => none }
def fnExactCountTotallyRow : OpenClaim := { program := "ytakliggacjckpaa", sum := "cd3566cb2e184524424b2db2591ad6cd219501caf283708b868743c460d3c819", func := "loop.example/g01130/laws.FnExactCountTotally", spec := "fnExactCountTotally", unfollowed := true, recurses := true, apart := false }
def FnExactCountTotallySaid : Prop := fnExactCountTotallyRow.holds Try.pinned (OpenSpec.ofChange fnExactCountTotallySpec)

/-- ITS FALSE NEIGHBOUR: 'it returns false'. Refute it at one input. -/
def fnExactCountTotallyWrong : ChangeSpec := { name := "fnExactCountTotally", fn := fun _ => fun
  | [d] => { results := [.lit (.bool false)], args := [d] }
  | _ => none }
def FnExactCountTotallyWrongFalsely : Prop := fnExactCountTotallyRow.holds Try.pinned (OpenSpec.ofChange fnExactCountTotallyWrong)

/-- 'laws.FnExactIsTotally': WHATEVER THE INPUT: true; the input reads as it did. -/
def fnExactIsTotallySpec : ChangeSpec := { name := "fnExactIsTotally", fn := fun _ => fun
  | [d] => { results := [.lit (.bool true)], args := [d] }
  | _ => none }
def fnExactIsTotallyRow : OpenClaim := { program := "ytakliggacjckpaa", sum := "cd3566cb2e184524424b2db2591ad6cd219501caf283708b868743c460d3c819", func := "loop.example/g01130/laws.FnExactIsTotally", spec := "fnExactIsTotally", apart := false }
def FnExactIsTotallySaid : Prop := fnExactIsTotallyRow.holds Try.pinned (OpenSpec.ofChange fnExactIsTotallySpec)

/-- ITS FALSE NEIGHBOUR: 'it returns false'. Refute it at one input. -/
def fnExactIsTotallyWrong : ChangeSpec := { name := "fnExactIsTotally", fn := fun _ => fun
  | [d] => { results := [.lit (.bool false)], args := [d] }
  | _ => none }
def FnExactIsTotallyWrongFalsely : Prop := fnExactIsTotallyRow.holds Try.pinned (OpenSpec.ofChange fnExactIsTotallyWrong)

/-- 'laws.FnExactProductTable': WHATEVER THE INPUT: true; the input reads as it did. -/
def fnExactProductTableSpec : ChangeSpec := { name := "fnExactProductTable", fn := fun _ => fun
  | [d1, d2] => { results := [.lit (.bool true)], args := [d1, d2] }
  | _ => none }
def fnExactProductTableRow : OpenClaim := { program := "ytakliggacjckpaa", sum := "cd3566cb2e184524424b2db2591ad6cd219501caf283708b868743c460d3c819", func := "loop.example/g01130/laws.FnExactProductTable", spec := "fnExactProductTable", unfollowed := true, recurses := true, apart := false }
def FnExactProductTableSaid : Prop := fnExactProductTableRow.holds Try.pinned (OpenSpec.ofChange fnExactProductTableSpec)

/-- ITS FALSE NEIGHBOUR: 'it returns false'. Refute it at one input. -/
def fnExactProductTableWrong : ChangeSpec := { name := "fnExactProductTable", fn := fun _ => fun
  | [d1, d2] => { results := [.lit (.bool false)], args := [d1, d2] }
  | _ => none }
def FnExactProductTableWrongFalsely : Prop := fnExactProductTableRow.holds Try.pinned (OpenSpec.ofChange fnExactProductTableWrong)

/-- 'laws.FnTurned': WHATEVER THE INPUT: true; the input reads as it did. -/
def fnTurnedSpec : ChangeSpec := { name := "fnTurned", fn := fun _ => fun
  | [d1, d2] => { results := [.lit (.bool true)], args := [d1, d2] }
  | _ => none }
def fnTurnedRow : OpenClaim := { program := "ytakliggacjckpaa", sum := "cd3566cb2e184524424b2db2591ad6cd219501caf283708b868743c460d3c819", func := "loop.example/g01130/laws.FnTurned", spec := "fnTurned", apart := false }
def FnTurnedSaid : Prop := fnTurnedRow.holds Try.pinned (OpenSpec.ofChange fnTurnedSpec)

/-- ITS FALSE NEIGHBOUR: 'it returns false'. Refute it at one input. -/
def fnTurnedWrong : ChangeSpec := { name := "fnTurned", fn := fun _ => fun
  | [d1, d2] => { results := [.lit (.bool false)], args := [d1, d2] }
  | _ => none }
def FnTurnedWrongFalsely : Prop := fnTurnedRow.holds Try.pinned (OpenSpec.ofChange fnTurnedWrong)

/-- 'laws.FnExactZeroDiagonal': WHATEVER THE INPUT: true; the input reads as it did. -/
def fnExactZeroDiagonalSpec : ChangeSpec := { name := "fnExactZeroDiagonal", fn := fun _ => fun
  | [d] => { results := [.lit (.bool true)], args := [d] }
  | _ => none }
def fnExactZeroDiagonalRow : OpenClaim := { program := "ytakliggacjckpaa", sum := "cd3566cb2e184524424b2db2591ad6cd219501caf283708b868743c460d3c819", func := "loop.example/g01130/laws.FnExactZeroDiagonal", spec := "fnExactZeroDiagonal", unfollowed := true, recurses := true, apart := false }
def FnExactZeroDiagonalSaid : Prop := fnExactZeroDiagonalRow.holds Try.pinned (OpenSpec.ofChange fnExactZeroDiagonalSpec)

/-- ITS FALSE NEIGHBOUR: 'it returns false'. Refute it at one input. -/
def fnExactZeroDiagonalWrong : ChangeSpec := { name := "fnExactZeroDiagonal", fn := fun _ => fun
  | [d] => { results := [.lit (.bool false)], args := [d] }
  | _ => none }
def FnExactZeroDiagonalWrongFalsely : Prop := fnExactZeroDiagonalRow.holds Try.pinned (OpenSpec.ofChange fnExactZeroDiagonalWrong)

/-- 'laws.FnExactRenameTable': WHATEVER THE INPUT: true; the input reads as it did. -/
def fnExactRenameTableSpec : ChangeSpec := { name := "fnExactRenameTable", fn := fun _ => fun
  | [d1, d2, d3, d4] => { results := [.lit (.bool true)], args := [d1, d2, d3, d4] }
  | _ => none }
def fnExactRenameTableRow : OpenClaim := { program := "ytakliggacjckpaa", sum := "cd3566cb2e184524424b2db2591ad6cd219501caf283708b868743c460d3c819", func := "loop.example/g01130/laws.FnExactRenameTable", spec := "fnExactRenameTable", apart := false }
def FnExactRenameTableSaid : Prop := fnExactRenameTableRow.holds Try.pinned (OpenSpec.ofChange fnExactRenameTableSpec)

/-- ITS FALSE NEIGHBOUR: 'it returns false'. Refute it at one input. -/
def fnExactRenameTableWrong : ChangeSpec := { name := "fnExactRenameTable", fn := fun _ => fun
  | [d1, d2, d3, d4] => { results := [.lit (.bool false)], args := [d1, d2, d3, d4] }
  | _ => none }
def FnExactRenameTableWrongFalsely : Prop := fnExactRenameTableRow.holds Try.pinned (OpenSpec.ofChange fnExactRenameTableWrong)

/-- 'laws.FnExactTurnTable': WHATEVER THE INPUT: true; the input reads as it did. -/
def fnExactTurnTableSpec : ChangeSpec := { name := "fnExactTurnTable", fn := fun _ => fun
  | [d1, d2] => { results := [.lit (.bool true)], args := [d1, d2] }
  | _ => none }
def fnExactTurnTableRow : OpenClaim := { program := "ytakliggacjckpaa", sum := "cd3566cb2e184524424b2db2591ad6cd219501caf283708b868743c460d3c819", func := "loop.example/g01130/laws.FnExactTurnTable", spec := "fnExactTurnTable", apart := false }
def FnExactTurnTableSaid : Prop := fnExactTurnTableRow.holds Try.pinned (OpenSpec.ofChange fnExactTurnTableSpec)

/-- ITS FALSE NEIGHBOUR: 'it returns false'. Refute it at one input. -/
def fnExactTurnTableWrong : ChangeSpec := { name := "fnExactTurnTable", fn := fun _ => fun
  | [d1, d2] => { results := [.lit (.bool false)], args := [d1, d2] }
  | _ => none }
def FnExactTurnTableWrongFalsely : Prop := fnExactTurnTableRow.holds Try.pinned (OpenSpec.ofChange fnExactTurnTableWrong)

/- THE SECOND FORM. 'bulk': how many values and letters a reading holds, each counted each time it is reached (what is shared counts as often as it is met; a slice's spare places count too). A statement '..UptoSaid' is the law's where the arguments, and the package variables that the reading takes, are together of bulk at most 1048576: NARROWER than '..Said'. Prove '..Said' where nothing that the law and all that it calls make is longer than what came in: it says more and counts as full. Else prove '..UptoSaid'. A law counts once. -/
mutual
def uptoBulk {H : Type} : DataW H → Nat
  | .lit (.string bytes) => bytes.length + 1
  | .lit _ => 1
  | .nil => 1
  | .ptr d => uptoBulk d + 1
  | .slice elems spare => uptoBulkAll elems + uptoBulkAll spare + 1
  | .agg parts => uptoBulkAll parts + 1
  | .iface _ d => uptoBulk d + 1
  | .map entries => uptoBulkEntries entries + 1
  | .held _ => 1
def uptoBulkAll {H : Type} : List (DataW H) → Nat
  | [] => 0
  | d :: r => uptoBulk d + uptoBulkAll r
def uptoBulkEntries {H : Type} : List (Lit × DataW H) → Nat
  | [] => 0
  | x :: r => uptoBulkEntry x + uptoBulkEntries r
def uptoBulkEntry {H : Type} : Lit × DataW H → Nat
  | (.string bytes, d) => bytes.length + uptoBulk d + 1
  | (_, d) => uptoBulk d + 1
 end
def uptoSmall : (H : Type) → List (DataW H) → Bool := fun _ ds => decide (uptoBulkAll ds ≤ 1048576)
def OpenSpec.upto (s : _root_.Go.ChangeSpec) : _root_.Go.OpenSpec := { _root_.Go.OpenSpec.ofChange s with cond := some uptoSmall }

/-- 'laws.FnLinear', WHERE WHAT IT READS IS OF BULK AT MOST 1048576: true; the input reads as it did. -/
def fnLinearUptoRow : OpenClaim := { program := "ytakliggacjckpaa", sum := "cd3566cb2e184524424b2db2591ad6cd219501caf283708b868743c460d3c819", func := "loop.example/g01130/laws.FnLinear", spec := "fnLinear", unfollowed := true, recurses := true, apart := false, narrowed := true }
def FnLinearUptoSaid : Prop := fnLinearUptoRow.holds Try.pinned (OpenSpec.upto fnLinearSpec)

/-- 'laws.FnExactIsQuasigroup', WHERE WHAT IT READS IS OF BULK AT MOST 1048576: true; the input reads as it did. -/
def fnExactIsQuasigroupUptoRow : OpenClaim := { program := "ytakliggacjckpaa", sum := "cd3566cb2e184524424b2db2591ad6cd219501caf283708b868743c460d3c819", func := "loop.example/g01130/laws.FnExactIsQuasigroup", spec := "fnExactIsQuasigroup", apart := false, narrowed := true }
def FnExactIsQuasigroupUptoSaid : Prop := fnExactIsQuasigroupUptoRow.holds Try.pinned (OpenSpec.upto fnExactIsQuasigroupSpec)

/-- 'laws.FnExactSwapClashes', WHERE WHAT IT READS IS OF BULK AT MOST 1048576: true; the input reads as it did. -/
def fnExactSwapClashesUptoRow : OpenClaim := { program := "ytakliggacjckpaa", sum := "cd3566cb2e184524424b2db2591ad6cd219501caf283708b868743c460d3c819", func := "loop.example/g01130/laws.FnExactSwapClashes", spec := "fnExactSwapClashes", apart := false, narrowed := true }
def FnExactSwapClashesUptoSaid : Prop := fnExactSwapClashesUptoRow.holds Try.pinned (OpenSpec.upto fnExactSwapClashesSpec)

/-- 'laws.FnExactChainClashes', WHERE WHAT IT READS IS OF BULK AT MOST 1048576: true; the input reads as it did. -/
def fnExactChainClashesUptoRow : OpenClaim := { program := "ytakliggacjckpaa", sum := "cd3566cb2e184524424b2db2591ad6cd219501caf283708b868743c460d3c819", func := "loop.example/g01130/laws.FnExactChainClashes", spec := "fnExactChainClashes", apart := false, narrowed := true }
def FnExactChainClashesUptoSaid : Prop := fnExactChainClashesUptoRow.holds Try.pinned (OpenSpec.upto fnExactChainClashesSpec)

/-- 'laws.FnExactLinearTable', WHERE WHAT IT READS IS OF BULK AT MOST 1048576: true; the input reads as it did. -/
def fnExactLinearTableUptoRow : OpenClaim := { program := "ytakliggacjckpaa", sum := "cd3566cb2e184524424b2db2591ad6cd219501caf283708b868743c460d3c819", func := "loop.example/g01130/laws.FnExactLinearTable", spec := "fnExactLinearTable", unfollowed := true, recurses := true, apart := false, narrowed := true }
def FnExactLinearTableUptoSaid : Prop := fnExactLinearTableUptoRow.holds Try.pinned (OpenSpec.upto fnExactLinearTableSpec)

/-- 'laws.FnExactCountTotally', WHERE WHAT IT READS IS OF BULK AT MOST 1048576: true; the input reads as it did. -/
def fnExactCountTotallyUptoRow : OpenClaim := { program := "ytakliggacjckpaa", sum := "cd3566cb2e184524424b2db2591ad6cd219501caf283708b868743c460d3c819", func := "loop.example/g01130/laws.FnExactCountTotally", spec := "fnExactCountTotally", unfollowed := true, recurses := true, apart := false, narrowed := true }
def FnExactCountTotallyUptoSaid : Prop := fnExactCountTotallyUptoRow.holds Try.pinned (OpenSpec.upto fnExactCountTotallySpec)

/-- 'laws.FnExactIsTotally', WHERE WHAT IT READS IS OF BULK AT MOST 1048576: true; the input reads as it did. -/
def fnExactIsTotallyUptoRow : OpenClaim := { program := "ytakliggacjckpaa", sum := "cd3566cb2e184524424b2db2591ad6cd219501caf283708b868743c460d3c819", func := "loop.example/g01130/laws.FnExactIsTotally", spec := "fnExactIsTotally", apart := false, narrowed := true }
def FnExactIsTotallyUptoSaid : Prop := fnExactIsTotallyUptoRow.holds Try.pinned (OpenSpec.upto fnExactIsTotallySpec)

/-- 'laws.FnExactProductTable', WHERE WHAT IT READS IS OF BULK AT MOST 1048576: true; the input reads as it did. -/
def fnExactProductTableUptoRow : OpenClaim := { program := "ytakliggacjckpaa", sum := "cd3566cb2e184524424b2db2591ad6cd219501caf283708b868743c460d3c819", func := "loop.example/g01130/laws.FnExactProductTable", spec := "fnExactProductTable", unfollowed := true, recurses := true, apart := false, narrowed := true }
def FnExactProductTableUptoSaid : Prop := fnExactProductTableUptoRow.holds Try.pinned (OpenSpec.upto fnExactProductTableSpec)

/-- 'laws.FnTurned', WHERE WHAT IT READS IS OF BULK AT MOST 1048576: true; the input reads as it did. -/
def fnTurnedUptoRow : OpenClaim := { program := "ytakliggacjckpaa", sum := "cd3566cb2e184524424b2db2591ad6cd219501caf283708b868743c460d3c819", func := "loop.example/g01130/laws.FnTurned", spec := "fnTurned", apart := false, narrowed := true }
def FnTurnedUptoSaid : Prop := fnTurnedUptoRow.holds Try.pinned (OpenSpec.upto fnTurnedSpec)

/-- 'laws.FnExactZeroDiagonal', WHERE WHAT IT READS IS OF BULK AT MOST 1048576: true; the input reads as it did. -/
def fnExactZeroDiagonalUptoRow : OpenClaim := { program := "ytakliggacjckpaa", sum := "cd3566cb2e184524424b2db2591ad6cd219501caf283708b868743c460d3c819", func := "loop.example/g01130/laws.FnExactZeroDiagonal", spec := "fnExactZeroDiagonal", unfollowed := true, recurses := true, apart := false, narrowed := true }
def FnExactZeroDiagonalUptoSaid : Prop := fnExactZeroDiagonalUptoRow.holds Try.pinned (OpenSpec.upto fnExactZeroDiagonalSpec)

/-- 'laws.FnExactRenameTable', WHERE WHAT IT READS IS OF BULK AT MOST 1048576: true; the input reads as it did. -/
def fnExactRenameTableUptoRow : OpenClaim := { program := "ytakliggacjckpaa", sum := "cd3566cb2e184524424b2db2591ad6cd219501caf283708b868743c460d3c819", func := "loop.example/g01130/laws.FnExactRenameTable", spec := "fnExactRenameTable", apart := false, narrowed := true }
def FnExactRenameTableUptoSaid : Prop := fnExactRenameTableUptoRow.holds Try.pinned (OpenSpec.upto fnExactRenameTableSpec)

/-- 'laws.FnExactTurnTable', WHERE WHAT IT READS IS OF BULK AT MOST 1048576: true; the input reads as it did. -/
def fnExactTurnTableUptoRow : OpenClaim := { program := "ytakliggacjckpaa", sum := "cd3566cb2e184524424b2db2591ad6cd219501caf283708b868743c460d3c819", func := "loop.example/g01130/laws.FnExactTurnTable", spec := "fnExactTurnTable", apart := false, narrowed := true }
def FnExactTurnTableUptoSaid : Prop := fnExactTurnTableUptoRow.holds Try.pinned (OpenSpec.upto fnExactTurnTableSpec)

end Rows
end Go.Proofs.Ytakliggacjckpaa
