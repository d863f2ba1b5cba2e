/- The walks of the laws of this seat: each returns true. -/
import Derived.Test.YtakliggacjckpaaA4
namespace Go.Proofs.Ytakliggacjckpaa
open Go.RowKit
set_option linter.unusedVariables false
def gcdOk (a b : Int) : Bool := inB a 0 1000000000000000 && inB b 0 1000000000000000
def gcdVal (a b : Int) : Int := if gcdOk a b then (Nat.gcd a.toNat b.toNat : Nat) else 0
theorem gcd_no {a b : Int} (h : gcdOk a b = false) : gcdVal a b = 0 := by simp [gcdVal, h]
theorem below_drewN (w : World) (n : Nat) : Below w.heap.size w (w.drewN n) := ⟨rfl, rfl, rfl, Nat.le_refl _, fun _ _ => rfl⟩
end Go.Proofs.Ytakliggacjckpaa
