/-
  No cell of these rows narrows 'for every input' (looked for: loops, veiled, ifaces, maps, wideKeys, modest, calm, conditions, laid).
  DERIVED. THE GIVEN ROWS OF THIS SEAT. 12 by the template 'for every input the law returns true; each argument reads behind the call as it read before'; 0 by the template 'total and deterministic' (their statements: YtmgfbmpiaanhkaaTotals.lean).
  GIVEN WITH THE SEED: the statements are not yours to turn. If you find one false, say at which input.
  Laid BY PROGRAM, IN A SANDBOX (cutbox-rows.mjs): the forced cells as the released guide's own fill.sh prints them over the translation 773b0c588775690d… (all of the seat's roots in one cut). By AI agents, Wed Nov 11 2026. No macro, syntax, notation, axiom, sorry.
-/
import Derived.Test.YtmgfbmpiaanhkaaChecked
import GoSem.Claim
import GoSem.ClaimJoined
import GoSem.ClaimMapViews
import Derived.JoinedTies
import Derived.KernelRfl
namespace Go.Proofs.Ytmgfbmpiaanhkaa
/- THE CELL 'sum', in the pinned program and in every row, IS THE sha256 OF THE DUMP (.gsa) THAT YtmgfbmpiaanhkaaProg.lean LOADS. Nothing in Lean hashes anything: it is a label: what it is worth is what the hold of that sum in a sandbox is worth. -/
noncomputable def Try.pinned : Pinned := { name := "ytmgfbmpiaanhkaa", sum := "773b0c588775690deadf9500d9f0a703388dcf7f2c4bfd7ef3b0babb597bdab1", checked := Try.checked }
namespace Rows
def none {H : Type} : Left H := { results := [], args := [] }

/-- 'laws.FnExactIsWordOf': WHATEVER THE INPUT: true; the input reads as it did. -/
def fnExactIsWordOfSpec : ChangeSpec := { name := "fnExactIsWordOf", fn := fun _ => fun
  | [d1, d2] => { results := [.lit (.bool true)], args := [d1, d2] }
  | _ => none }
def fnExactIsWordOfRow : OpenClaim := { program := "ytmgfbmpiaanhkaa", sum := "773b0c588775690deadf9500d9f0a703388dcf7f2c4bfd7ef3b0babb597bdab1", func := "loop.example/g01130/laws.FnExactIsWordOf", spec := "fnExactIsWordOf", inPlace := ["internal/bytealg.IndexByteString"], apart := false }
def FnExactIsWordOfSaid : Prop := fnExactIsWordOfRow.holds Try.pinned (OpenSpec.ofChange fnExactIsWordOfSpec)

/-- ITS FALSE NEIGHBOUR: 'it returns false'. Refute it at one input. -/
def fnExactIsWordOfWrong : ChangeSpec := { name := "fnExactIsWordOf", fn := fun _ => fun
  | [d1, d2] => { results := [.lit (.bool false)], args := [d1, d2] }
  | _ => none }
def FnExactIsWordOfWrongFalsely : Prop := fnExactIsWordOfRow.holds Try.pinned (OpenSpec.ofChange fnExactIsWordOfWrong)

/-- 'laws.FnInverses': WHATEVER THE INPUT: true; the input reads as it did. -/
def fnInversesSpec : ChangeSpec := { name := "fnInverses", fn := fun _ => fun
  | [d1, d2] => { results := [.lit (.bool true)], args := [d1, d2] }
  | _ => none }
def fnInversesRow : OpenClaim := { program := "ytmgfbmpiaanhkaa", sum := "773b0c588775690deadf9500d9f0a703388dcf7f2c4bfd7ef3b0babb597bdab1", func := "loop.example/g01130/laws.FnInverses", spec := "fnInverses", apart := false }
def FnInversesSaid : Prop := fnInversesRow.holds Try.pinned (OpenSpec.ofChange fnInversesSpec)

/-- ITS FALSE NEIGHBOUR: 'it returns false'. Refute it at one input. -/
def fnInversesWrong : ChangeSpec := { name := "fnInverses", fn := fun _ => fun
  | [d1, d2] => { results := [.lit (.bool false)], args := [d1, d2] }
  | _ => none }
def FnInversesWrongFalsely : Prop := fnInversesRow.holds Try.pinned (OpenSpec.ofChange fnInversesWrong)

/-- 'laws.FnExactIsOrder': WHATEVER THE INPUT: true; the input reads as it did. -/
def fnExactIsOrderSpec : ChangeSpec := { name := "fnExactIsOrder", fn := fun _ => fun
  | [d] => { results := [.lit (.bool true)], args := [d] }
  | _ => none }
def fnExactIsOrderRow : OpenClaim := { program := "ytmgfbmpiaanhkaa", sum := "773b0c588775690deadf9500d9f0a703388dcf7f2c4bfd7ef3b0babb597bdab1", func := "loop.example/g01130/laws.FnExactIsOrder", spec := "fnExactIsOrder", apart := false }
def FnExactIsOrderSaid : Prop := fnExactIsOrderRow.holds Try.pinned (OpenSpec.ofChange fnExactIsOrderSpec)

/-- ITS FALSE NEIGHBOUR: 'it returns false'. Refute it at one input. -/
def fnExactIsOrderWrong : ChangeSpec := { name := "fnExactIsOrder", fn := fun _ => fun
  | [d] => { results := [.lit (.bool false)], args := [d] }
  | _ => none }
def FnExactIsOrderWrongFalsely : Prop := fnExactIsOrderRow.holds Try.pinned (OpenSpec.ofChange fnExactIsOrderWrong)

/-- 'laws.FnExactWordRemainder': WHATEVER THE INPUT: true; the input reads as it did. -/
def fnExactWordRemainderSpec : ChangeSpec := { name := "fnExactWordRemainder", fn := fun _ => fun
  | [d1, d2, d3] => { results := [.lit (.bool true)], args := [d1, d2, d3] }
  | _ => none }
def fnExactWordRemainderRow : OpenClaim := { program := "ytmgfbmpiaanhkaa", sum := "773b0c588775690deadf9500d9f0a703388dcf7f2c4bfd7ef3b0babb597bdab1", func := "loop.example/g01130/laws.FnExactWordRemainder", spec := "fnExactWordRemainder", inPlace := ["internal/bytealg.IndexByteString"], apart := false }
def FnExactWordRemainderSaid : Prop := fnExactWordRemainderRow.holds Try.pinned (OpenSpec.ofChange fnExactWordRemainderSpec)

/-- ITS FALSE NEIGHBOUR: 'it returns false'. Refute it at one input. -/
def fnExactWordRemainderWrong : ChangeSpec := { name := "fnExactWordRemainder", fn := fun _ => fun
  | [d1, d2, d3] => { results := [.lit (.bool false)], args := [d1, d2, d3] }
  | _ => none }
def FnExactWordRemainderWrongFalsely : Prop := fnExactWordRemainderRow.holds Try.pinned (OpenSpec.ofChange fnExactWordRemainderWrong)

/-- 'laws.FnExactWordOf': WHATEVER THE INPUT: true; the input reads as it did. -/
def fnExactWordOfSpec : ChangeSpec := { name := "fnExactWordOf", fn := fun _ => fun
  | [d1, d2] => { results := [.lit (.bool true)], args := [d1, d2] }
  | _ => none }
def fnExactWordOfRow : OpenClaim := { program := "ytmgfbmpiaanhkaa", sum := "773b0c588775690deadf9500d9f0a703388dcf7f2c4bfd7ef3b0babb597bdab1", func := "loop.example/g01130/laws.FnExactWordOf", spec := "fnExactWordOf", unfollowed := true, recurses := true, apart := false }
def FnExactWordOfSaid : Prop := fnExactWordOfRow.holds Try.pinned (OpenSpec.ofChange fnExactWordOfSpec)

/-- ITS FALSE NEIGHBOUR: 'it returns false'. Refute it at one input. -/
def fnExactWordOfWrong : ChangeSpec := { name := "fnExactWordOf", fn := fun _ => fun
  | [d1, d2] => { results := [.lit (.bool false)], args := [d1, d2] }
  | _ => none }
def FnExactWordOfWrongFalsely : Prop := fnExactWordOfRow.holds Try.pinned (OpenSpec.ofChange fnExactWordOfWrong)

/-- 'laws.FnExactDigitsOf': WHATEVER THE INPUT: true; the input reads as it did. -/
def fnExactDigitsOfSpec : ChangeSpec := { name := "fnExactDigitsOf", fn := fun _ => fun
  | [d1, d2] => { results := [.lit (.bool true)], args := [d1, d2] }
  | _ => none }
def fnExactDigitsOfRow : OpenClaim := { program := "ytmgfbmpiaanhkaa", sum := "773b0c588775690deadf9500d9f0a703388dcf7f2c4bfd7ef3b0babb597bdab1", func := "loop.example/g01130/laws.FnExactDigitsOf", spec := "fnExactDigitsOf", inPlace := ["internal/bytealg.IndexByteString"], apart := false }
def FnExactDigitsOfSaid : Prop := fnExactDigitsOfRow.holds Try.pinned (OpenSpec.ofChange fnExactDigitsOfSpec)

/-- ITS FALSE NEIGHBOUR: 'it returns false'. Refute it at one input. -/
def fnExactDigitsOfWrong : ChangeSpec := { name := "fnExactDigitsOf", fn := fun _ => fun
  | [d1, d2] => { results := [.lit (.bool false)], args := [d1, d2] }
  | _ => none }
def FnExactDigitsOfWrongFalsely : Prop := fnExactDigitsOfRow.holds Try.pinned (OpenSpec.ofChange fnExactDigitsOfWrong)

/-- 'laws.FnExactInverseOrder': WHATEVER THE INPUT: true; the input reads as it did. -/
def fnExactInverseOrderSpec : ChangeSpec := { name := "fnExactInverseOrder", fn := fun _ => fun
  | [d] => { results := [.lit (.bool true)], args := [d] }
  | _ => none }
def fnExactInverseOrderRow : OpenClaim := { program := "ytmgfbmpiaanhkaa", sum := "773b0c588775690deadf9500d9f0a703388dcf7f2c4bfd7ef3b0babb597bdab1", func := "loop.example/g01130/laws.FnExactInverseOrder", spec := "fnExactInverseOrder", apart := false }
def FnExactInverseOrderSaid : Prop := fnExactInverseOrderRow.holds Try.pinned (OpenSpec.ofChange fnExactInverseOrderSpec)

/-- ITS FALSE NEIGHBOUR: 'it returns false'. Refute it at one input. -/
def fnExactInverseOrderWrong : ChangeSpec := { name := "fnExactInverseOrder", fn := fun _ => fun
  | [d] => { results := [.lit (.bool false)], args := [d] }
  | _ => none }
def FnExactInverseOrderWrongFalsely : Prop := fnExactInverseOrderRow.holds Try.pinned (OpenSpec.ofChange fnExactInverseOrderWrong)

/-- 'laws.FnExactComposeOrders': WHATEVER THE INPUT: true; the input reads as it did. -/
def fnExactComposeOrdersSpec : ChangeSpec := { name := "fnExactComposeOrders", fn := fun _ => fun
  | [d1, d2] => { results := [.lit (.bool true)], args := [d1, d2] }
  | _ => none }
def fnExactComposeOrdersRow : OpenClaim := { program := "ytmgfbmpiaanhkaa", sum := "773b0c588775690deadf9500d9f0a703388dcf7f2c4bfd7ef3b0babb597bdab1", func := "loop.example/g01130/laws.FnExactComposeOrders", spec := "fnExactComposeOrders", apart := false }
def FnExactComposeOrdersSaid : Prop := fnExactComposeOrdersRow.holds Try.pinned (OpenSpec.ofChange fnExactComposeOrdersSpec)

/-- ITS FALSE NEIGHBOUR: 'it returns false'. Refute it at one input. -/
def fnExactComposeOrdersWrong : ChangeSpec := { name := "fnExactComposeOrders", fn := fun _ => fun
  | [d1, d2] => { results := [.lit (.bool false)], args := [d1, d2] }
  | _ => none }
def FnExactComposeOrdersWrongFalsely : Prop := fnExactComposeOrdersRow.holds Try.pinned (OpenSpec.ofChange fnExactComposeOrdersWrong)

/-- 'laws.FnWords': WHATEVER THE INPUT: true; the input reads as it did. -/
def fnWordsSpec : ChangeSpec := { name := "fnWords", fn := fun _ => fun
  | [d1, d2] => { results := [.lit (.bool true)], args := [d1, d2] }
  | _ => none }
def fnWordsRow : OpenClaim := { program := "ytmgfbmpiaanhkaa", sum := "773b0c588775690deadf9500d9f0a703388dcf7f2c4bfd7ef3b0babb597bdab1", func := "loop.example/g01130/laws.FnWords", spec := "fnWords", inPlace := ["internal/bytealg.IndexByteString"], unfollowed := true, recurses := true, apart := false }
def FnWordsSaid : Prop := fnWordsRow.holds Try.pinned (OpenSpec.ofChange fnWordsSpec)

/-- ITS FALSE NEIGHBOUR: 'it returns false'. Refute it at one input. -/
def fnWordsWrong : ChangeSpec := { name := "fnWords", fn := fun _ => fun
  | [d1, d2] => { results := [.lit (.bool false)], args := [d1, d2] }
  | _ => none }
def FnWordsWrongFalsely : Prop := fnWordsRow.holds Try.pinned (OpenSpec.ofChange fnWordsWrong)

/-- 'laws.FnExactCyclesOf': WHATEVER THE INPUT: true; the input reads as it did. -/
def fnExactCyclesOfSpec : ChangeSpec := { name := "fnExactCyclesOf", fn := fun _ => fun
  | [d] => { results := [.lit (.bool true)], args := [d] }
  | _ => none }
def fnExactCyclesOfRow : OpenClaim := { program := "ytmgfbmpiaanhkaa", sum := "773b0c588775690deadf9500d9f0a703388dcf7f2c4bfd7ef3b0babb597bdab1", func := "loop.example/g01130/laws.FnExactCyclesOf", spec := "fnExactCyclesOf", apart := false }
def FnExactCyclesOfSaid : Prop := fnExactCyclesOfRow.holds Try.pinned (OpenSpec.ofChange fnExactCyclesOfSpec)

/-- ITS FALSE NEIGHBOUR: 'it returns false'. Refute it at one input. -/
def fnExactCyclesOfWrong : ChangeSpec := { name := "fnExactCyclesOf", fn := fun _ => fun
  | [d] => { results := [.lit (.bool false)], args := [d] }
  | _ => none }
def FnExactCyclesOfWrongFalsely : Prop := fnExactCyclesOfRow.holds Try.pinned (OpenSpec.ofChange fnExactCyclesOfWrong)

/-- 'laws.FnOrders': WHATEVER THE INPUT: true; the input reads as it did. -/
def fnOrdersSpec : ChangeSpec := { name := "fnOrders", fn := fun _ => fun
  | [d1, d2] => { results := [.lit (.bool true)], args := [d1, d2] }
  | _ => none }
def fnOrdersRow : OpenClaim := { program := "ytmgfbmpiaanhkaa", sum := "773b0c588775690deadf9500d9f0a703388dcf7f2c4bfd7ef3b0babb597bdab1", func := "loop.example/g01130/laws.FnOrders", spec := "fnOrders", apart := false }
def FnOrdersSaid : Prop := fnOrdersRow.holds Try.pinned (OpenSpec.ofChange fnOrdersSpec)

/-- ITS FALSE NEIGHBOUR: 'it returns false'. Refute it at one input. -/
def fnOrdersWrong : ChangeSpec := { name := "fnOrders", fn := fun _ => fun
  | [d1, d2] => { results := [.lit (.bool false)], args := [d1, d2] }
  | _ => none }
def FnOrdersWrongFalsely : Prop := fnOrdersRow.holds Try.pinned (OpenSpec.ofChange fnOrdersWrong)

/-- 'laws.FnExactPowerOrder': WHATEVER THE INPUT: true; the input reads as it did. -/
def fnExactPowerOrderSpec : ChangeSpec := { name := "fnExactPowerOrder", fn := fun _ => fun
  | [d1, d2] => { results := [.lit (.bool true)], args := [d1, d2] }
  | _ => none }
def fnExactPowerOrderRow : OpenClaim := { program := "ytmgfbmpiaanhkaa", sum := "773b0c588775690deadf9500d9f0a703388dcf7f2c4bfd7ef3b0babb597bdab1", func := "loop.example/g01130/laws.FnExactPowerOrder", spec := "fnExactPowerOrder", apart := false }
def FnExactPowerOrderSaid : Prop := fnExactPowerOrderRow.holds Try.pinned (OpenSpec.ofChange fnExactPowerOrderSpec)

/-- ITS FALSE NEIGHBOUR: 'it returns false'. Refute it at one input. -/
def fnExactPowerOrderWrong : ChangeSpec := { name := "fnExactPowerOrder", fn := fun _ => fun
  | [d1, d2] => { results := [.lit (.bool false)], args := [d1, d2] }
  | _ => none }
def FnExactPowerOrderWrongFalsely : Prop := fnExactPowerOrderRow.holds Try.pinned (OpenSpec.ofChange fnExactPowerOrderWrong)

/- THE SECOND FORM. 'bulk': how many values and letters a reading holds, each counted each time it is reached (what is shared counts as often as it is met; a slice's spare places count too). A statement '..UptoSaid' is the law's where the arguments, and the package variables that the reading takes, are together of bulk at most 1048576: NARROWER than '..Said'. Prove '..Said' where nothing that the law and all that it calls make is longer than what came in: it says more and counts as full. Else prove '..UptoSaid'. A law counts once. -/
mutual
def uptoBulk {H : Type} : DataW H → Nat
  | .lit (.string bytes) => bytes.length + 1
  | .lit _ => 1
  | .nil => 1
  | .ptr d => uptoBulk d + 1
  | .slice elems spare => uptoBulkAll elems + uptoBulkAll spare + 1
  | .agg parts => uptoBulkAll parts + 1
  | .iface _ d => uptoBulk d + 1
  | .map entries => uptoBulkEntries entries + 1
  | .held _ => 1
def uptoBulkAll {H : Type} : List (DataW H) → Nat
  | [] => 0
  | d :: r => uptoBulk d + uptoBulkAll r
def uptoBulkEntries {H : Type} : List (Lit × DataW H) → Nat
  | [] => 0
  | x :: r => uptoBulkEntry x + uptoBulkEntries r
def uptoBulkEntry {H : Type} : Lit × DataW H → Nat
  | (.string bytes, d) => bytes.length + uptoBulk d + 1
  | (_, d) => uptoBulk d + 1
 end
def uptoSmall : (H : Type) → List (DataW H) → Bool := fun _ ds => decide (uptoBulkAll ds ≤ 1048576)
def OpenSpec.upto (s : _root_.Go.ChangeSpec) : _root_.Go.OpenSpec := { _root_.Go.OpenSpec.ofChange s with cond := some uptoSmall }

/-- 'laws.FnExactIsWordOf', WHERE WHAT IT READS IS OF BULK AT MOST 1048576: true; the input reads as it did. -/
def fnExactIsWordOfUptoRow : OpenClaim := { program := "ytmgfbmpiaanhkaa", sum := "773b0c588775690deadf9500d9f0a703388dcf7f2c4bfd7ef3b0babb597bdab1", func := "loop.example/g01130/laws.FnExactIsWordOf", spec := "fnExactIsWordOf", inPlace := ["internal/bytealg.IndexByteString"], apart := false, narrowed := true }
def FnExactIsWordOfUptoSaid : Prop := fnExactIsWordOfUptoRow.holds Try.pinned (OpenSpec.upto fnExactIsWordOfSpec)

/-- 'laws.FnInverses', WHERE WHAT IT READS IS OF BULK AT MOST 1048576: true; the input reads as it did. -/
def fnInversesUptoRow : OpenClaim := { program := "ytmgfbmpiaanhkaa", sum := "773b0c588775690deadf9500d9f0a703388dcf7f2c4bfd7ef3b0babb597bdab1", func := "loop.example/g01130/laws.FnInverses", spec := "fnInverses", apart := false, narrowed := true }
def FnInversesUptoSaid : Prop := fnInversesUptoRow.holds Try.pinned (OpenSpec.upto fnInversesSpec)

/-- 'laws.FnExactIsOrder', WHERE WHAT IT READS IS OF BULK AT MOST 1048576: true; the input reads as it did. -/
def fnExactIsOrderUptoRow : OpenClaim := { program := "ytmgfbmpiaanhkaa", sum := "773b0c588775690deadf9500d9f0a703388dcf7f2c4bfd7ef3b0babb597bdab1", func := "loop.example/g01130/laws.FnExactIsOrder", spec := "fnExactIsOrder", apart := false, narrowed := true }
def FnExactIsOrderUptoSaid : Prop := fnExactIsOrderUptoRow.holds Try.pinned (OpenSpec.upto fnExactIsOrderSpec)

/-- 'laws.FnExactWordRemainder', WHERE WHAT IT READS IS OF BULK AT MOST 1048576: true; the input reads as it did. -/
def fnExactWordRemainderUptoRow : OpenClaim := { program := "ytmgfbmpiaanhkaa", sum := "773b0c588775690deadf9500d9f0a703388dcf7f2c4bfd7ef3b0babb597bdab1", func := "loop.example/g01130/laws.FnExactWordRemainder", spec := "fnExactWordRemainder", inPlace := ["internal/bytealg.IndexByteString"], apart := false, narrowed := true }
def FnExactWordRemainderUptoSaid : Prop := fnExactWordRemainderUptoRow.holds Try.pinned (OpenSpec.upto fnExactWordRemainderSpec)

/-- 'laws.FnExactWordOf', WHERE WHAT IT READS IS OF BULK AT MOST 1048576: true; the input reads as it did. -/
def fnExactWordOfUptoRow : OpenClaim := { program := "ytmgfbmpiaanhkaa", sum := "773b0c588775690deadf9500d9f0a703388dcf7f2c4bfd7ef3b0babb597bdab1", func := "loop.example/g01130/laws.FnExactWordOf", spec := "fnExactWordOf", unfollowed := true, recurses := true, apart := false, narrowed := true }
def FnExactWordOfUptoSaid : Prop := fnExactWordOfUptoRow.holds Try.pinned (OpenSpec.upto fnExactWordOfSpec)

/-- 'laws.FnExactDigitsOf', WHERE WHAT IT READS IS OF BULK AT MOST 1048576: true; the input reads as it did. -/
def fnExactDigitsOfUptoRow : OpenClaim := { program := "ytmgfbmpiaanhkaa", sum := "773b0c588775690deadf9500d9f0a703388dcf7f2c4bfd7ef3b0babb597bdab1", func := "loop.example/g01130/laws.FnExactDigitsOf", spec := "fnExactDigitsOf", inPlace := ["internal/bytealg.IndexByteString"], apart := false, narrowed := true }
def FnExactDigitsOfUptoSaid : Prop := fnExactDigitsOfUptoRow.holds Try.pinned (OpenSpec.upto fnExactDigitsOfSpec)

/-- 'laws.FnExactInverseOrder', WHERE WHAT IT READS IS OF BULK AT MOST 1048576: true; the input reads as it did. -/
def fnExactInverseOrderUptoRow : OpenClaim := { program := "ytmgfbmpiaanhkaa", sum := "773b0c588775690deadf9500d9f0a703388dcf7f2c4bfd7ef3b0babb597bdab1", func := "loop.example/g01130/laws.FnExactInverseOrder", spec := "fnExactInverseOrder", apart := false, narrowed := true }
def FnExactInverseOrderUptoSaid : Prop := fnExactInverseOrderUptoRow.holds Try.pinned (OpenSpec.upto fnExactInverseOrderSpec)

/-- 'laws.FnExactComposeOrders', WHERE WHAT IT READS IS OF BULK AT MOST 1048576: true; the input reads as it did. -/
def fnExactComposeOrdersUptoRow : OpenClaim := { program := "ytmgfbmpiaanhkaa", sum := "773b0c588775690deadf9500d9f0a703388dcf7f2c4bfd7ef3b0babb597bdab1", func := "loop.example/g01130/laws.FnExactComposeOrders", spec := "fnExactComposeOrders", apart := false, narrowed := true }
def FnExactComposeOrdersUptoSaid : Prop := fnExactComposeOrdersUptoRow.holds Try.pinned (OpenSpec.upto fnExactComposeOrdersSpec)

/-- 'laws.FnWords', WHERE WHAT IT READS IS OF BULK AT MOST 1048576: true; the input reads as it did. -/
def fnWordsUptoRow : OpenClaim := { program := "ytmgfbmpiaanhkaa", sum := "773b0c588775690deadf9500d9f0a703388dcf7f2c4bfd7ef3b0babb597bdab1", func := "loop.example/g01130/laws.FnWords", spec := "fnWords", inPlace := ["internal/bytealg.IndexByteString"], unfollowed := true, recurses := true, apart := false, narrowed := true }
def FnWordsUptoSaid : Prop := fnWordsUptoRow.holds Try.pinned (OpenSpec.upto fnWordsSpec)

/-- 'laws.FnExactCyclesOf', WHERE WHAT IT READS IS OF BULK AT MOST 1048576: true; the input reads as it did. -/
def fnExactCyclesOfUptoRow : OpenClaim := { program := "ytmgfbmpiaanhkaa", sum := "773b0c588775690deadf9500d9f0a703388dcf7f2c4bfd7ef3b0babb597bdab1", func := "loop.example/g01130/laws.FnExactCyclesOf", spec := "fnExactCyclesOf", apart := false, narrowed := true }
def FnExactCyclesOfUptoSaid : Prop := fnExactCyclesOfUptoRow.holds Try.pinned (OpenSpec.upto fnExactCyclesOfSpec)

/-- 'laws.FnOrders', WHERE WHAT IT READS IS OF BULK AT MOST 1048576: true; the input reads as it did. -/
def fnOrdersUptoRow : OpenClaim := { program := "ytmgfbmpiaanhkaa", sum := "773b0c588775690deadf9500d9f0a703388dcf7f2c4bfd7ef3b0babb597bdab1", func := "loop.example/g01130/laws.FnOrders", spec := "fnOrders", apart := false, narrowed := true }
def FnOrdersUptoSaid : Prop := fnOrdersUptoRow.holds Try.pinned (OpenSpec.upto fnOrdersSpec)

/-- 'laws.FnExactPowerOrder', WHERE WHAT IT READS IS OF BULK AT MOST 1048576: true; the input reads as it did. -/
def fnExactPowerOrderUptoRow : OpenClaim := { program := "ytmgfbmpiaanhkaa", sum := "773b0c588775690deadf9500d9f0a703388dcf7f2c4bfd7ef3b0babb597bdab1", func := "loop.example/g01130/laws.FnExactPowerOrder", spec := "fnExactPowerOrder", apart := false, narrowed := true }
def FnExactPowerOrderUptoSaid : Prop := fnExactPowerOrderUptoRow.holds Try.pinned (OpenSpec.upto fnExactPowerOrderSpec)

end Rows
end Go.Proofs.Ytmgfbmpiaanhkaa
