/- The laws' small functions over [][][]int64. Printed by gen_h.py. -/
import Derived.Test.YthomdggbmjknnaaH2
namespace Go.Proofs.Ythomdggbmjknnaa
open Go.RowKit
set_option linter.unusedVariables false

/-! ### Int64SSS -/
end Go.Proofs.Ythomdggbmjknnaa
