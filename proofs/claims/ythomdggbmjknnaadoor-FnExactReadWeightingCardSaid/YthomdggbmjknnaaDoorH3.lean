/- The laws' small functions over [][][]int64. Printed by gen_h.py. -/
import Derived.Test.YthomdggbmjknnaaDoorH2
namespace Go.Proofs.YthomdggbmjknnaaDoor
open Go.RowKit
set_option linter.unusedVariables false

/-! ### Int64SSS -/
end Go.Proofs.YthomdggbmjknnaaDoor
