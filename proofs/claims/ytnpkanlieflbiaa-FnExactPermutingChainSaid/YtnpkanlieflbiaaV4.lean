/- Weightings turned round, and times a number. -/
import Derived.Test.YtnpkanlieflbiaaV3
import Derived.Test.YtnpkanlieflbiaaF2
namespace Go.Proofs.Ytnpkanlieflbiaa
open Go.RowKit
set_option linter.unusedVariables false

def Wgt.zero : Wgt := ⟨0, 0, 0, []⟩
def mirW (x : Wgt) : Wgt := ⟨x.base, x.modulus, x.target, x.weights.reverse⟩
def mirV (x : Wgt) : Wgt := if vW x then mirW x else Wgt.zero
theorem mirV_no {x : Wgt} (h : vW x = false) : mirV x = Wgt.zero := by simp [mirV, h]
theorem mirV_yes {x : Wgt} (h : vW x = true) : mirV x = mirW x := by simp [mirV, h]
theorem mirV_sz (x : Wgt) : szW (mirV x) ≤ szW x := by
  unfold mirV
  split
  · simp [mirW, szW]
  · simp [Wgt.zero, szW]
theorem take_reverse {xs : List Int} {k : Nat} (h : k < xs.length) : xs.reverse.take (k + 1) = xs.reverse.take k ++ [nth xs (xs.length - 1 - k)] := by
  rw [take_nth (by simpa using h)]
  congr 2
  rw [nth_eq (by simpa using h), nth_eq (by omega), List.getElem_reverse]

end Go.Proofs.Ytnpkanlieflbiaa
