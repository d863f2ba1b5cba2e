/- Digits and words: the walks of both sides' functions over symbols. -/
import Derived.Test.YtphlohplkadenaaA5
import Derived.Test.YtphlohplkadenaaH1
import Derived.Lib.Bytealg
namespace Go.Proofs.Ytphlohplkadenaa
open Go.RowKit
set_option linter.unusedVariables false

def dig (c : Int) : Int := if 48 ≤ c ∧ c ≤ 57 then c - 48 else if 65 ≤ c ∧ c ≤ 90 then c - 55 else -1
theorem dig_bd (c : Int) : -1 ≤ dig c ∧ dig c ≤ 35 := by unfold dig; (repeat' split) <;> omega

abbrev symbols : ByteArray := { data := #[48, 49, 50, 51, 52, 53, 54, 55, 56, 57, 65, 66, 67, 68, 69, 70, 71, 72, 73, 74, 75, 76, 77, 78, 79, 80, 81, 82, 83, 84, 85, 86, 87, 88, 89, 90] }
theorem index_dig : ∀ n : Nat, n < 256 → Lib.indexByte symbols.data.toList n.toUInt8 = dig n := by decide +kernel
def digitsL (s : ByteArray) (k : Nat) : List Int := (List.range k).map fun i => dig (byt s i)
theorem digitsL_length (s : ByteArray) (k : Nat) : (digitsL s k).length = k := by simp [digitsL]
theorem digitsL_succ (s : ByteArray) (k : Nat) : digitsL s (k + 1) = digitsL s k ++ [dig (byt s k)] := by simp [digitsL, List.range_succ]
theorem nth_digitsL {s : ByteArray} {k i : Nat} (h : i < k) : nth (digitsL s k) i = dig (byt s i) := by
  rw [nth_eq (by simpa [digitsL_length] using h)]; simp [digitsL]

end Go.Proofs.Ytphlohplkadenaa
