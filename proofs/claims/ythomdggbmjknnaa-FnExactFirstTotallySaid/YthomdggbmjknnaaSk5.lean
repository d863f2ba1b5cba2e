/- Totally antisymmetric quasigroups by search: CountTotally and FirstTotally on both sides. -/
import Derived.Test.YthomdggbmjknnaaSk4
import Derived.Test.YthomdggbmjknnaaB2
namespace Go.Proofs.Ythomdggbmjknnaa
open Go.RowKit
set_option linter.unusedVariables false

/-! ### What both find -/
def unsetT (n : Nat) : T2 := tab n fun _ _ => -1
def stpC (s : Int) (_ : T2) : Int × Bool := (wrap64 (s + 1), false)
def stpF (_ : T2) (t : T2) : T2 × Bool := (t, true)
def ctR (n : Nat) : Int := ((srch n false (n * n) (zeros n)).cnt : Nat)
def ctR' (n : Nat) : Int := (seekF n stpC (n * n) 0 (unsetT n)).s
def ftR (n : Nat) : SS := srch n true (n * n) (zeros n)
def ftR' (n : Nat) : KS T2 := seekF n stpF (n * n) [] (unsetT n)
def ctOk (n : Int) : Bool := inB n 1 4
def ctV (n : Int) : Int := if ctOk n then ctR n.toNat else 0
def ftOk (n : Int) : Bool := inB n 1 5 && decide (0 < (ftR n.toNat).cnt)
def ftV (n : Int) : T2 := if ftOk n then (ftR n.toNat).found else []

def stpCE {β : Type} (s : Int) (_ : T2) (k : Int → Bool → β) : β := fI2 (wrap64 (s + 1)) fun s => k s false
def stpFE {β : Type} (_ : T2) (t : T2) (k : T2 → Bool → β) : β := k t true
theorem ct_eval (n : Nat) : decide (ctR n = ctR' n) = srchE n false (n * n) (zeros n) fun r => seekE n stpCE (n * n) 0 (unsetT n) fun q => decide ((r.cnt : Int) = q.s) := by
  rw [srchE_eq, seekE_eq n (stp := stpCE) (st := stpC) (fun s t k => by unfold stpCE; rw [fI2_eq]; rfl)]
  rfl
theorem ft_eval (n : Nat) : (decide ((ftR' n).stop = decide (0 < (ftR n).cnt)) && (decide ((ftR' n).s = if 0 < (ftR n).cnt then (ftR n).found else []))) = srchE n true (n * n) (zeros n) fun r => seekE n stpFE (n * n) [] (unsetT n) fun q => (decide (q.stop = decide (0 < r.cnt)) && decide (q.s = if 0 < r.cnt then r.found else [])) := by
  rw [srchE_eq, seekE_eq n (stp := stpFE) (st := stpF) (fun s t k => rfl)]
  rfl
end Go.Proofs.Ythomdggbmjknnaa
