/- Inverses and common divisors, plainly. Nothing here walks. -/
import Derived.Test.YtakliggacjckpaaA5
namespace Go.Proofs.Ytakliggacjckpaa
open Go.RowKit
set_option linter.unusedVariables false

theorem bezout (a b : Nat) : ∃ x y : Int, (a : Int) * x + (b : Int) * y = (Nat.gcd a b : Nat) := by
  induction a, b using Nat.gcd.induction with
  | H0 n => exact ⟨0, 1, by simp⟩
  | H1 m n hm ih =>
    obtain ⟨x, y, h⟩ := ih
    rw [Nat.gcd_rec m n]
    refine ⟨y - (n / m : Nat) * x, x, ?_⟩
    rw [← h]
    have e : ((n % m : Nat) : Int) = (n : Int) - (m : Int) * (n / m : Nat) := by
      have := Nat.div_add_mod n m
      rw [← Int.natCast_mul]; omega
    rw [e, Int.sub_mul, Int.mul_sub, ← Int.mul_assoc]
    omega
theorem unit_iff {a m : Nat} (hm : 2 ≤ m) : (∃ x : Nat, x < m ∧ (a : Int) * x % m = 1) ↔ Nat.gcd a m = 1 := by
  constructor
  · rintro ⟨x, hx, h⟩
    have h1 : (a * x) % m = 1 := by
      have : ((a * x % m : Nat) : Int) = 1 := by rw [Int.natCast_emod, Int.natCast_mul]; exact h
      omega
    have h2 := Nat.div_add_mod (a * x) m
    rw [h1] at h2
    have h3 : Nat.gcd a m ∣ 1 := by
      have d1 : Nat.gcd a m ∣ a * x := Nat.dvd_trans (Nat.gcd_dvd_left a m) (Nat.dvd_mul_right a x)
      have d2 : Nat.gcd a m ∣ m * (a * x / m) := Nat.dvd_trans (Nat.gcd_dvd_right a m) (Nat.dvd_mul_right m _)
      rw [← h2] at d1
      exact (Nat.dvd_add_right d2).1 d1
    exact Nat.dvd_one.1 h3
  · intro h
    obtain ⟨x, y, hxy⟩ := bezout a m
    rw [h] at hxy
    have hm' : (0 : Int) < m := by omega
    have h1 := Int.emod_nonneg x (show (m : Int) ≠ 0 by omega)
    have h2 := Int.emod_lt_of_pos x hm'
    refine ⟨(x % m).toNat, by omega, ?_⟩
    rw [show (((x % m).toNat : Nat) : Int) = x % m by omega, Int.mul_emod, Int.emod_emod, ← Int.mul_emod]
    have e : (a : Int) * x = 1 + m * (-y) := by rw [Int.mul_neg]; omega
    rw [e, Int.add_mul_emod_self_left]
    exact Int.emod_eq_of_lt (by omega) (by omega)
theorem inv_isSome {a : Int} {m : Nat} : (inv a m).isSome = true ↔ ∃ x : Nat, x < m ∧ a * x % m = 1 := by
  unfold inv
  rw [List.find?_isSome]
  simp [List.mem_range]
theorem invOk_iff {a m : Nat} (hm : 2 ≤ m) (hm2 : m ≤ 1000) (ha : a < m) : invOk a m = true ↔ Nat.gcd a m = 1 := by
  unfold invOk
  rw [show inB (m : Int) 2 1000 = true from inB_true.2 (by omega), show inB (a : Int) 0 ((m : Int) - 1) = true from inB_true.2 (by omega)]
  simp only [Bool.true_and, Int.toNat_natCast]
  rw [inv_isSome, unit_iff hm]
theorem invVal_ok {a m : Nat} (hm : 2 ≤ m) (hm2 : m ≤ 1000) (ha : a < m) (h : invOk a m = true) : ∃ x : Nat, invVal a m = x ∧ x < m ∧ (a : Int) * x % m = 1 := by
  have h0 := h
  unfold invOk at h
  rw [show inB (m : Int) 2 1000 = true from inB_true.2 (by omega), show inB (a : Int) 0 ((m : Int) - 1) = true from inB_true.2 (by omega)] at h
  simp only [Bool.true_and, Int.toNat_natCast] at h
  obtain ⟨x, hx⟩ := Option.isSome_iff_exists.1 h
  refine ⟨x, ?_, ?_⟩
  · unfold invVal; rw [if_pos h0, Int.toNat_natCast, hx]; rfl
  · unfold inv at hx
    have h1 := List.mem_of_find?_eq_some hx
    have h2 := List.find?_some hx
    exact ⟨List.mem_range.1 h1, by simpa using h2⟩
end Go.Proofs.Ytakliggacjckpaa
