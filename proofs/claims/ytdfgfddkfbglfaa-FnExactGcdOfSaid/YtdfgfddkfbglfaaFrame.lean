/- What the frame of every law's proof wants: two closed facts of the program, and how arguments that came in are read. -/
import Derived.Test.YtdfgfddkfbglfaaRows
import Derived.Test.YtdfgfddkfbglfaaBase
import Derived.ProofKit
import Derived.OpenShut
import Derived.ShutString
import Derived.ChangeOld
import Derived.Deep.Matrix
namespace Go.Proofs.Ytdfgfddkfbglfaa
open Go.ChangeShapes Go.WideShapes Go.ChangeAt Go.RowKit

theorem own : ownKnob Try.prog.godebug = none := by kernel_rfl
theorem laidOut : laidOutB Try.prog = true := by kernel_rfl

end Go.Proofs.Ytdfgfddkfbglfaa
