/- Validity of chains, walked: spec. -/
import Derived.Test.YthomdggbmjknnaaD1
namespace Go.Proofs.Ythomdggbmjknnaa
open Go.RowKit
set_option linter.unusedVariables false

theorem wrap_in {z : Int} (h : -9223372036854775808 ≤ z ∧ z ≤ 9223372036854775807) : wrap64 z = z := by unfold wrap64; omega
/-- How many words, at most one more than allowed. -/
def capP (b : Int) (k : Nat) : Int := if b ^ k < 1000000000000001 then b ^ k else 1000000000000001
theorem capP_zero (b : Int) : capP b 0 = 1 := by simp [capP]
theorem capP_bd {b : Int} (hb : 1 ≤ b) (k : Nat) : 1 ≤ capP b k ∧ capP b k ≤ 1000000000000001 := by
  have := pow_ge1 hb k
  unfold capP; split <;> omega
theorem capP_succ {b : Int} (hb : 1 ≤ b) (k : Nat) : (if capP b k * b < 1000000000000001 then capP b k * b else 1000000000000001) = capP b (k + 1) := by
  have h1 := pow_ge1 hb k
  unfold capP
  by_cases h : b ^ k < 1000000000000001
  · rw [if_pos h, Int.pow_succ]
  · rw [if_neg h]
    have h2 := pow_up hb k
    rw [if_neg (show ¬ b ^ (k + 1) < 1000000000000001 by omega)]
    have h3 := Int.mul_le_mul_of_nonneg_left hb (show (0 : Int) ≤ 1000000000000001 by omega)
    rw [if_neg (by omega)]
theorem capP_le {b : Int} (n : Nat) : powB b n = decide (capP b n ≤ 1000000000000000) := by
  unfold powB capP
  split
  · rfl
  · rename_i h
    rw [Bool.eq_iff_iff]; simp; omega
theorem plsC_no {x : Chn} {k : Nat} (hk : k < x.places.length) (h : inB (nth x.places k) 0 ((x.tables.length : Int) - 1) = false) : vC x = false := by
  have : plsC x = false := allIn_no hk h
  simp [vC, this]
theorem tabIn_cell_no {states base : Int} {t : List (List Int)} {j d : Nat} (hj : j < t.length) (hd : d < (nth t j).length) (h : inB (nth (nth t j) d) 0 (states - 1) = false) : tabIn states base t = false := by
  refine tabIn_row_no hj ?_
  have : allIn (nth t j) 0 (states - 1) = false := allIn_no hd h
  simp [rowIn, this]

end Go.Proofs.Ythomdggbmjknnaa
