/- The walks: inverses, checks, symbols. -/
import Derived.Test.YtakliggacjckpaaA2
import Derived.Handy
namespace Go.Proofs.Ytakliggacjckpaa
open Go.RowKit
set_option linter.unusedVariables false

theorem find_range {p : Nat → Bool} {n k : Nat} (hk : k < n) (h : ∀ j, j < k → p j = false) (hp : p k = true) : (List.range n).find? p = some k := by
  rw [List.find?_range_eq_some]
  exact ⟨hp, List.mem_range.2 hk, fun j hj => by simp [h j hj]⟩
theorem find_range_none {p : Nat → Bool} {n : Nat} (h : ∀ j, j < n → p j = false) : (List.range n).find? p = none := by
  rw [List.find?_eq_none]
  intro x hx; simp [h x (List.mem_range.1 hx)]

/-- The least x below m with a * x % m = 1. -/
def inv (a : Int) (m : Nat) : Option Nat := (List.range m).find? fun x => decide (a * x % m = 1)
def invOk (a m : Int) : Bool := inB m 2 1000 && inB a 0 (m - 1) && (inv a m.toNat).isSome
def invVal (a m : Int) : Int := if invOk a m then ((inv a m.toNat).getD 0 : Nat) else 0
theorem inv_hit {a : Int} {m k : Nat} (h1 : inB m 2 1000 = true) (h2 : inB a 0 (m - 1) = true) (hk : k < m) (h : ∀ j : Nat, j < k → ¬ a * j % m = 1) (hp : a * k % m = 1) : invOk a m = true ∧ invVal a m = k := by
  have e : inv a m = some k := by
    exact find_range hk (fun j hj => by simpa using h j hj) (by simpa using hp)
  have e1 : invOk a m = true := by simp [invOk, h1, h2, e]
  exact ⟨e1, by simp [invVal, e1, e]⟩
theorem inv_miss {a : Int} {m : Nat} (h : ∀ j : Nat, j < m → ¬ a * j % m = 1) : invOk a m = false ∧ invVal a m = 0 := by
  have e : inv a m = none := by
    exact find_range_none (fun j hj => by simpa using h j hj)
  have e1 : invOk a m = false := by simp [invOk, e]
  exact ⟨e1, by simp [invVal, e1]⟩
theorem ret_ib {x y : Int} {a b : Bool} (h1 : x = y) (h2 : a = b) : Ending.returned (.tuple #[.int .i64 x, .bool a]) = .returned (.tuple #[.int .i64 y, .bool b]) := by rw [h1, h2]
theorem mul_bd {a k m : Int} (h1 : 0 ≤ a) (h2 : a ≤ 999) (h3 : 0 ≤ k) (h4 : k ≤ 999) : 0 ≤ a * k ∧ a * k ≤ 998001 :=
  ⟨Int.mul_nonneg h1 h3, by have := Int.mul_le_mul h2 h4 h3 (by omega); omega⟩

end Go.Proofs.Ytakliggacjckpaa
