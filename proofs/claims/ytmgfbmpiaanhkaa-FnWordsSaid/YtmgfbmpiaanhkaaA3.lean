/- The walks: inverses, checks, symbols. -/
import Derived.Test.YtmgfbmpiaanhkaaA2
import Derived.Handy
namespace Go.Proofs.Ytmgfbmpiaanhkaa
open Go.RowKit
set_option linter.unusedVariables false

theorem find_range {p : Nat → Bool} {n k : Nat} (hk : k < n) (h : ∀ j, j < k → p j = false) (hp : p k = true) : (List.range n).find? p = some k := by
  rw [List.find?_range_eq_some]
  exact ⟨hp, List.mem_range.2 hk, fun j hj => by simp [h j hj]⟩
theorem find_range_none {p : Nat → Bool} {n : Nat} (h : ∀ j, j < n → p j = false) : (List.range n).find? p = none := by
  rw [List.find?_eq_none]
  intro x hx; simp [h x (List.mem_range.1 hx)]

/-- The least x below m with a * x % m = 1. -/
def inv (a : Int) (m : Nat) : Option Nat := (List.range m).find? fun x => decide (a * x % m = 1)
def invOk (a m : Int) : Bool := inB m 2 1000 && inB a 0 (m - 1) && (inv a m.toNat).isSome
def invVal (a m : Int) : Int := if invOk a m then ((inv a m.toNat).getD 0 : Nat) else 0
theorem inv_hit {a : Int} {m k : Nat} (h1 : inB m 2 1000 = true) (h2 : inB a 0 (m - 1) = true) (hk : k < m) (h : ∀ j : Nat, j < k → ¬ a * j % m = 1) (hp : a * k % m = 1) : invOk a m = true ∧ invVal a m = k := by
  have e : inv a m = some k := by
    exact find_range hk (fun j hj => by simpa using h j hj) (by simpa using hp)
  have e1 : invOk a m = true := by simp [invOk, h1, h2, e]
  exact ⟨e1, by simp [invVal, e1, e]⟩
theorem inv_miss {a : Int} {m : Nat} (h : ∀ j : Nat, j < m → ¬ a * j % m = 1) : invOk a m = false ∧ invVal a m = 0 := by
  have e : inv a m = none := by
    exact find_range_none (fun j hj => by simpa using h j hj)
  have e1 : invOk a m = false := by simp [invOk, e]
  exact ⟨e1, by simp [invVal, e1]⟩
theorem ret_ib {x y : Int} {a b : Bool} (h1 : x = y) (h2 : a = b) : Ending.returned (.tuple #[.int .i64 x, .bool a]) = .returned (.tuple #[.int .i64 y, .bool b]) := by rw [h1, h2]
theorem mul_bd {a k m : Int} (h1 : 0 ≤ a) (h2 : a ≤ 999) (h3 : 0 ≤ k) (h4 : k ≤ 999) : 0 ≤ a * k ∧ a * k ≤ 998001 :=
  ⟨Int.mul_nonneg h1 h3, by have := Int.mul_le_mul h2 h4 h3 (by omega); omega⟩

theorem implInverseOf (a m : Int) (w : World) :
    Calls Try.prog 19 #[.int .i64 a, .int .i64 m] w fun e w' => e = .returned (.tuple #[.int .i64 (invVal a m), .bool (invOk a m)]) ∧ w = w' := by
  cases h1 : inB m 2 1000
  · have hr := Lib.hid (show invOk a m = false ∧ invVal a m = 0 by have e : invOk a m = false := by simp [invOk, h1]
                                                                   exact ⟨e, by simp [invVal, e]⟩)
    go_enter Try.func19, Try.ntmps19
    go_wp2_with (go_at_call 52; refine (implIn _ _ _ _ (by assumption) _).mono ?_; rintro e w' ⟨rfl, rfl⟩)
    go_ret2
    exact ⟨ret_ib hr.out.2.symm hr.out.1.symm, rfl⟩
  · have hm := inB_true.1 h1
    cases h2 : inB a 0 (m - 1)
    · have hr := Lib.hid (show invOk a m = false ∧ invVal a m = 0 by have e : invOk a m = false := by simp [invOk, h2]
                                                                     exact ⟨e, by simp [invVal, e]⟩)
      go_enter Try.func19, Try.ntmps19
      go_wp2_with (go_at_call 52; refine (implIn _ _ _ _ (by assumption) _).mono ?_; rintro e w' ⟨rfl, rfl⟩)
      go_ret2
      exact ⟨ret_ib hr.out.2.symm hr.out.1.symm, rfl⟩
    · have ha := inB_true.1 h2
      obtain ⟨m, rfl⟩ := Int.eq_ofNat_of_zero_le (show 0 ≤ m by omega)
      go_enter Try.func19, Try.ntmps19
      go_wp2_with (go_at_call 52; refine (implIn _ _ _ _ (by assumption) _).mono ?_; rintro e w' ⟨rfl, rfl⟩)
      go_loop [18] (fun x => ∃ k : Nat, k ≤ m ∧ x = .int .i64 k ∧ Hid (∀ j : Nat, j < k → ¬ a * j % m = 1)) (fun x => m - (intOf x).toNat)
      case atStart => exact ⟨0, Nat.zero_le _, rfl, Lib.hid fun _ h => absurd h (Nat.not_lt_zero _)⟩
      case round =>
        obtain ⟨k, hk, rfl, hno⟩ := hrel
        by_cases hlt : k < m
        · have hp := @mul_bd a k m (by omega) (by omega) (by omega) (by omega)
          by_cases hh : a * k % m = 1
          · have hr := Lib.hid (inv_hit h1 h2 hlt hno.out hh)
            have hb : (a * k % m == 1) = true := by simp [hh]
            clear hh
            go_wp2
            go_ret2
            exact ⟨ret_ib hr.out.2.symm hr.out.1.symm, rfl⟩
          · have hb : (a * k % m == 1) = false := by simp [hh]
            have hno' := Lib.hid (show ∀ j : Nat, j < k + 1 → ¬ a * j % m = 1 from fun j hj => by
              rcases Nat.lt_succ_iff_lt_or_eq.1 hj with h | rfl
              · exact hno.out j h
              · exact hh)
            clear hh
            go_wp2
            go_round
            case rel => exact ⟨k + 1, by omega, by go_num, hno'⟩
            case measure => simp [intOf]; omega
        · obtain rfl : k = m := by omega
          have hr := Lib.hid (inv_miss hno.out)
          go_wp2
          go_ret2
          exact ⟨ret_ib hr.out.2.symm hr.out.1.symm, rfl⟩
end Go.Proofs.Ytmgfbmpiaanhkaa
