/- Totally antisymmetric quasigroups by search: evaluated. -/
import Derived.Test.YthomdggbmjknnaaSk5
namespace Go.Proofs.Ythomdggbmjknnaa
open Go.RowKit
set_option linter.unusedVariables false

theorem ct1 : (srchE 1 false 1 (zeros 1) fun r => seekE 1 stpCE 1 0 (unsetT 1) fun q => decide ((r.cnt : Int) = q.s)) = true := by kernel_rfl
theorem ct2 : (srchE 2 false 4 (zeros 2) fun r => seekE 2 stpCE 4 0 (unsetT 2) fun q => decide ((r.cnt : Int) = q.s)) = true := by kernel_rfl
theorem ct3 : (srchE 3 false 9 (zeros 3) fun r => seekE 3 stpCE 9 0 (unsetT 3) fun q => decide ((r.cnt : Int) = q.s)) = true := by kernel_rfl
set_option maxRecDepth 1000000 in
theorem ct4 : (srchE 4 false 16 (zeros 4) fun r => seekE 4 stpCE 16 0 (unsetT 4) fun q => decide ((r.cnt : Int) = q.s)) = true := by kernel_rfl
end Go.Proofs.Ythomdggbmjknnaa
