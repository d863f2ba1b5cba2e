/- The walks of the laws of this seat: each returns true. -/
import Derived.Test.YtdfgfddkfbglfaaA4
namespace Go.Proofs.Ytdfgfddkfbglfaa
open Go.RowKit
set_option linter.unusedVariables false
theorem law3 (w : World) : Calls Try.prog 3 #[] w fun e w' => e = .returned (.bool true) ∧ Below w.heap.size w w' := by
  go_enter Try.func3, Try.ntmps3
  go_wp2
  go_ret
  exact ⟨rfl, Below.refl _ _⟩
theorem law4 (s : ByteArray) (hs : s.size ≤ maxLen) (w : World) : Calls Try.prog 4 #[.string s] w fun e w' => e = .returned (.bool true) ∧ Below w.heap.size w w' := by
  have hs0 := hs
  unfold maxLen at hs
  by_cases h : 1048576 < s.size
  · go_enter Try.func4, Try.ntmps4
    go_wp2
    go_ret
    exact ⟨rfl, Below.refl _ _⟩
  · go_enter Try.func4, Try.ntmps4
    go_wp2_with (first | (go_at_call 10; refine (specIsName s hs0 _).mono ?_; rintro e w' ⟨rfl, rfl⟩) | (go_at_call 11; refine (implIsName s hs0 _).mono ?_; rintro e w' ⟨rfl, rfl⟩))
    go_ret
    exact ⟨rfl, Below.refl _ _⟩
theorem law5 (n : Int) (w : World) : Calls Try.prog 5 #[.int .i64 n] w fun e w' => e = .returned (.bool true) ∧ Below w.heap.size w w' := by
  go_enter Try.func5, Try.ntmps5
  go_wp2_with (first | (go_at_call 12; refine (specSymbolOf n _).mono ?_; rintro e w' ⟨rfl, hb⟩) | (go_at_call 13; refine (implSymbolOf n _).mono ?_; rintro e w' ⟨rfl, rfl⟩))
  all_goals go_ret
  all_goals exact ⟨rfl, by assumption⟩
theorem law6 (a m : Int) (w : World) : Calls Try.prog 6 #[.int .i64 a, .int .i64 m] w fun e w' => e = .returned (.bool true) ∧ Below w.heap.size w w' := by
  go_enter Try.func6, Try.ntmps6
  go_wp2_with (first | (go_at_call 14; refine (specRemainderOf a m _).mono ?_; rintro e w' ⟨rfl, rfl⟩) | (go_at_call 15; refine (implRemainderOf a m _).mono ?_; rintro e w' ⟨rfl, rfl⟩))
  all_goals go_ret
  all_goals exact ⟨rfl, Below.refl _ _⟩
theorem law7 (n : Int) (s : ByteArray) (hs : s.size ≤ maxLen) (w : World) : Calls Try.prog 7 #[.int .i64 n, .string s] w fun e w' => e = .returned (.bool true) ∧ Below w.heap.size w w' := by
  have hs0 := hs
  unfold maxLen at hs
  by_cases h : 1048576 < s.size
  · go_enter Try.func7, Try.ntmps7
    go_wp2
    go_ret
    exact ⟨rfl, Below.refl _ _⟩
  · go_enter Try.func7, Try.ntmps7
    go_wp2_with (first | (go_at_call 16; refine (specCheckOf n s hs0 _).mono ?_; rintro e w' ⟨rfl, rfl⟩) | (go_at_call 17; refine (implCheckOf n s hs0 _).mono ?_; rintro e w' ⟨rfl, rfl⟩))
    all_goals go_ret
    all_goals exact ⟨rfl, Below.refl _ _⟩
theorem law8 (a m : Int) (w : World) : Calls Try.prog 8 #[.int .i64 a, .int .i64 m] w fun e w' => e = .returned (.bool true) ∧ Below w.heap.size w w' := by
  go_enter Try.func8, Try.ntmps8
  go_wp2_with (first | (go_at_call 18; refine (specInverseOf a m _).mono ?_; rintro e w' ⟨rfl, rfl⟩) | (go_at_call 19; refine (implInverseOf a m _).mono ?_; rintro e w' ⟨rfl, rfl⟩))
  go_ret
  exact ⟨rfl, Below.refl _ _⟩
def gcdOk (a b : Int) : Bool := inB a 0 1000000000000000 && inB b 0 1000000000000000
def gcdVal (a b : Int) : Int := if gcdOk a b then (Nat.gcd a.toNat b.toNat : Nat) else 0
theorem gcd_no {a b : Int} (h : gcdOk a b = false) : gcdVal a b = 0 := by simp [gcdVal, h]
theorem specGcdOf (a b : Int) (w : World) :
    Calls Try.prog 20 #[.int .i64 a, .int .i64 b] w fun e w' => e = .returned (.tuple #[.int .i64 (gcdVal a b), .bool (gcdOk a b)]) ∧ w = w' := by
  cases h1 : inB a 0 1000000000000000
  · have hr := Lib.hid (show gcdOk a b = false by simp [gcdOk, h1])
    go_enter Try.func20, Try.ntmps20
    go_wp2_with (go_at_call 22; refine (specIn _ _ _ _ (by assumption) _).mono ?_; rintro e w' ⟨rfl, rfl⟩)
    go_ret2
    exact ⟨ret_ib (gcd_no hr.out).symm hr.out.symm, rfl⟩
  · cases h2 : inB b 0 1000000000000000
    · have hr := Lib.hid (show gcdOk a b = false by simp [gcdOk, h2])
      go_enter Try.func20, Try.ntmps20
      go_wp2_with (go_at_call 22; refine (specIn _ _ _ _ (by assumption) _).mono ?_; rintro e w' ⟨rfl, rfl⟩)
      go_ret2
      exact ⟨ret_ib (gcd_no hr.out).symm hr.out.symm, rfl⟩
    · obtain ⟨a, rfl⟩ := Int.eq_ofNat_of_zero_le (inB_true.1 h1).1
      obtain ⟨b, rfl⟩ := Int.eq_ofNat_of_zero_le (inB_true.1 h2).1
      have hr := Lib.hid (show gcdOk a b = true by simp [gcdOk, h1, h2])
      go_enter Try.func20, Try.ntmps20
      go_wp2_with (first | (go_at_call 22; refine (specIn _ _ _ _ (by assumption) _).mono ?_; rintro e w' ⟨rfl, rfl⟩) | (go_at_call 28; refine (specGcd a b _).mono ?_; rintro e w' ⟨rfl, rfl⟩))
      go_ret2
      exact ⟨ret_ib (by simp [gcdVal, hr.out]) hr.out.symm, rfl⟩
theorem implGcdOf (a b : Int) (w : World) :
    Calls Try.prog 21 #[.int .i64 a, .int .i64 b] w fun e w' => e = .returned (.tuple #[.int .i64 (gcdVal a b), .bool (gcdOk a b)]) ∧ ∃ n, w.drewN n = w' := by
  cases h1 : inB a 0 1000000000000000
  · have hr := Lib.hid (show gcdOk a b = false by simp [gcdOk, h1])
    go_enter Try.func21, Try.ntmps21
    go_wp2_with (go_at_call 24; refine (implIn _ _ _ _ (by assumption) _).mono ?_; rintro e w' ⟨rfl, rfl⟩)
    go_ret2
    exact ⟨ret_ib (gcd_no hr.out).symm hr.out.symm, 0, rfl⟩
  · cases h2 : inB b 0 1000000000000000
    · have hr := Lib.hid (show gcdOk a b = false by simp [gcdOk, h2])
      go_enter Try.func21, Try.ntmps21
      go_wp2_with (go_at_call 24; refine (implIn _ _ _ _ (by assumption) _).mono ?_; rintro e w' ⟨rfl, rfl⟩)
      go_ret2
      exact ⟨ret_ib (gcd_no hr.out).symm hr.out.symm, 0, rfl⟩
    · obtain ⟨a, rfl⟩ := Int.eq_ofNat_of_zero_le (inB_true.1 h1).1
      obtain ⟨b, rfl⟩ := Int.eq_ofNat_of_zero_le (inB_true.1 h2).1
      have hr := Lib.hid (show gcdOk a b = true by simp [gcdOk, h1, h2])
      go_enter Try.func21, Try.ntmps21
      go_wp2_with (first | (go_at_call 24; refine (implIn _ _ _ _ (by assumption) _).mono ?_; rintro e w' ⟨rfl, rfl⟩) | (go_at_call 29; refine (implGcd a b _).mono ?_; rintro e w' ⟨rfl, n, rfl⟩))
      go_ret2
      exact ⟨ret_ib (by simp [gcdVal, hr.out]) hr.out.symm, _, rfl⟩
theorem below_drewN (w : World) (n : Nat) : Below w.heap.size w (w.drewN n) := ⟨rfl, rfl, rfl, Nat.le_refl _, fun _ _ => rfl⟩
theorem law9 (a m : Int) (w : World) : Calls Try.prog 9 #[.int .i64 a, .int .i64 m] w fun e w' => e = .returned (.bool true) ∧ Below w.heap.size w w' := by
  go_enter Try.func9, Try.ntmps9
  go_wp2_with (first | (go_at_call 20; refine (specGcdOf a m _).mono ?_; rintro e w' ⟨rfl, rfl⟩) | (go_at_call 21; refine (implGcdOf a m _).mono ?_; rintro e w' ⟨rfl, n, rfl⟩))
  go_ret
  exact ⟨rfl, below_drewN _ _⟩
end Go.Proofs.Ytdfgfddkfbglfaa
