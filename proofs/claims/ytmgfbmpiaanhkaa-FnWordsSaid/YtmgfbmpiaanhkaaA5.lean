/- The walks of the laws of this seat: each returns true. -/
import Derived.Test.YtmgfbmpiaanhkaaA4
namespace Go.Proofs.Ytmgfbmpiaanhkaa
open Go.RowKit
set_option linter.unusedVariables false
def gcdOk (a b : Int) : Bool := inB a 0 1000000000000000 && inB b 0 1000000000000000
def gcdVal (a b : Int) : Int := if gcdOk a b then (Nat.gcd a.toNat b.toNat : Nat) else 0
theorem gcd_no {a b : Int} (h : gcdOk a b = false) : gcdVal a b = 0 := by simp [gcdVal, h]
theorem implGcdOf (a b : Int) (w : World) :
    Calls Try.prog 20 #[.int .i64 a, .int .i64 b] w fun e w' => e = .returned (.tuple #[.int .i64 (gcdVal a b), .bool (gcdOk a b)]) ∧ ∃ n, w.drewN n = w' := by
  cases h1 : inB a 0 1000000000000000
  · have hr := Lib.hid (show gcdOk a b = false by simp [gcdOk, h1])
    go_enter Try.func20, Try.ntmps20
    go_wp2_with (go_at_call 52; refine (implIn _ _ _ _ (by assumption) _).mono ?_; rintro e w' ⟨rfl, rfl⟩)
    go_ret2
    exact ⟨ret_ib (gcd_no hr.out).symm hr.out.symm, 0, rfl⟩
  · cases h2 : inB b 0 1000000000000000
    · have hr := Lib.hid (show gcdOk a b = false by simp [gcdOk, h2])
      go_enter Try.func20, Try.ntmps20
      go_wp2_with (go_at_call 52; refine (implIn _ _ _ _ (by assumption) _).mono ?_; rintro e w' ⟨rfl, rfl⟩)
      go_ret2
      exact ⟨ret_ib (gcd_no hr.out).symm hr.out.symm, 0, rfl⟩
    · obtain ⟨a, rfl⟩ := Int.eq_ofNat_of_zero_le (inB_true.1 h1).1
      obtain ⟨b, rfl⟩ := Int.eq_ofNat_of_zero_le (inB_true.1 h2).1
      have hr := Lib.hid (show gcdOk a b = true by simp [gcdOk, h1, h2])
      go_enter Try.func20, Try.ntmps20
      go_wp2_with (first | (go_at_call 52; refine (implIn _ _ _ _ (by assumption) _).mono ?_; rintro e w' ⟨rfl, rfl⟩) | (go_at_call 53; refine (implGcd a b _).mono ?_; rintro e w' ⟨rfl, n, rfl⟩))
      go_ret2
      exact ⟨ret_ib (by simp [gcdVal, hr.out]) hr.out.symm, _, rfl⟩
theorem below_drewN (w : World) (n : Nat) : Below w.heap.size w (w.drewN n) := ⟨rfl, rfl, rfl, Nat.le_refl _, fun _ _ => rfl⟩
end Go.Proofs.Ytmgfbmpiaanhkaa
