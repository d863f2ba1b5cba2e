/- Powers; validity of weightings, walked. -/
import Derived.Test.YthomdggbmjknnaaS1
namespace Go.Proofs.Ythomdggbmjknnaa
open Go.RowKit
set_option linter.unusedVariables false

theorem powB_le' {b : Int} {k : Nat} (h : b ^ k ≤ 1000000000000000) : powB b k = true := by simpa [powB] using h
theorem manyB_no {base : Int} {n : Nat} (h : inB base 2 36 = false) : manyB base n = false := by simp [manyB, h]
theorem manyB_len {base : Int} {n : Nat} (h : inB n 1 20 = false) : manyB base n = false := by simp [manyB, h]
theorem manyB_pow {base : Int} {n : Nat} {b : Bool} (h1 : inB base 2 36 = true) (h2 : inB n 1 20 = true) (h : powB base n = b) : manyB base n = b := by simp [manyB, h1, h2, h]
end Go.Proofs.Ythomdggbmjknnaa
