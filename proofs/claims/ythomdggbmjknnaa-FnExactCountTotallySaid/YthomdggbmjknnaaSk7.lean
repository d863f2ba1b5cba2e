/- Totally antisymmetric quasigroups by search: evaluated: the first ones. -/
import Derived.Test.YthomdggbmjknnaaSk5
namespace Go.Proofs.Ythomdggbmjknnaa
open Go.RowKit
set_option linter.unusedVariables false

theorem ft1 : (srchE 1 true 1 (zeros 1) fun r => seekE 1 stpFE 1 [] (unsetT 1) fun q => (decide (q.stop = decide (0 < r.cnt)) && decide (q.s = if 0 < r.cnt then r.found else []))) = true := by kernel_rfl
theorem ft2 : (srchE 2 true 4 (zeros 2) fun r => seekE 2 stpFE 4 [] (unsetT 2) fun q => (decide (q.stop = decide (0 < r.cnt)) && decide (q.s = if 0 < r.cnt then r.found else []))) = true := by kernel_rfl
theorem ft3 : (srchE 3 true 9 (zeros 3) fun r => seekE 3 stpFE 9 [] (unsetT 3) fun q => (decide (q.stop = decide (0 < r.cnt)) && decide (q.s = if 0 < r.cnt then r.found else []))) = true := by kernel_rfl
theorem ft4 : (srchE 4 true 16 (zeros 4) fun r => seekE 4 stpFE 16 [] (unsetT 4) fun q => (decide (q.stop = decide (0 < r.cnt)) && decide (q.s = if 0 < r.cnt then r.found else []))) = true := by kernel_rfl
set_option maxRecDepth 1000000 in
theorem ft5 : (srchE 5 true 25 (zeros 5) fun r => seekE 5 stpFE 25 [] (unsetT 5) fun q => (decide (q.stop = decide (0 < r.cnt)) && decide (q.s = if 0 < r.cnt then r.found else []))) = true := by kernel_rfl
set_option maxRecDepth 1000000 in
theorem fc1 : (srchE 1 true 1 (zeros 1) fun r => decide (cntL List.length r.found ≤ 1296)) = true := by kernel_rfl
set_option maxRecDepth 1000000 in
theorem fc2 : (srchE 2 true 4 (zeros 2) fun r => decide (cntL List.length r.found ≤ 1296)) = true := by kernel_rfl
set_option maxRecDepth 1000000 in
theorem fc3 : (srchE 3 true 9 (zeros 3) fun r => decide (cntL List.length r.found ≤ 1296)) = true := by kernel_rfl
set_option maxRecDepth 1000000 in
theorem fc4 : (srchE 4 true 16 (zeros 4) fun r => decide (cntL List.length r.found ≤ 1296)) = true := by kernel_rfl
set_option maxRecDepth 1000000 in
theorem fc5 : (srchE 5 true 25 (zeros 5) fun r => decide (cntL List.length r.found ≤ 1296)) = true := by kernel_rfl
end Go.Proofs.Ythomdggbmjknnaa
