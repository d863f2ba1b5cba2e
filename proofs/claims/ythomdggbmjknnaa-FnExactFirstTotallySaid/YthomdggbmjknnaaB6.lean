/- ProductTable. -/
import Derived.Test.YthomdggbmjknnaaB3
import Derived.Test.YthomdggbmjknnaaB4
namespace Go.Proofs.Ythomdggbmjknnaa
open Go.RowKit
set_option linter.unusedVariables false

def proF (s t : List (List Int)) (i k : Nat) : Int := nth (nth s (i / t.length)) (k / t.length) * t.length + nth (nth t (i % t.length)) (k % t.length)
def proOk (s t : List (List Int)) : Bool := isQ s && (isQ t && decide (s.length * t.length ≤ 36))
def proT (s t : List (List Int)) : List (List Int) := tab (s.length * t.length) (proF s t)
def proV (s t : List (List Int)) : List (List Int) := if proOk s t then proT s t else []
theorem proV_no {s t : List (List Int)} (h : proOk s t = false) : proV s t = [] := by simp [proV, h]
theorem proV_yes {s t : List (List Int)} (h : proOk s t = true) : proV s t = proT s t := by simp [proV, h]
theorem proV_cnt (s t : List (List Int)) : cntL List.length (proV s t) ≤ 1296 := by
  unfold proV
  split
  · rename_i h
    simp only [proOk, Bool.and_eq_true, decide_eq_true_eq] at h
    exact sq_cnt (tab_sq _ _) h.2.2
  · simp [cntL]

theorem div_lt_of {i m n : Nat} (hm : 0 < m) (h : i < n * m) : i / m < n := (Nat.div_lt_iff_lt_mul hm).2 h
theorem pro_mul {z : Int} {n m : Nat} (h0 : 0 ≤ z) (h1 : z < n) (hm : m ≤ 36) (hn : n ≤ 36) : 0 ≤ z * m ∧ z * m ≤ 1296 := by
  refine ⟨Int.mul_nonneg h0 (by omega), ?_⟩
  have h4 : z * (m : Int) ≤ 36 * 36 := Int.mul_le_mul (by omega) (by omega) (by omega) (by omega)
  omega

end Go.Proofs.Ythomdggbmjknnaa
