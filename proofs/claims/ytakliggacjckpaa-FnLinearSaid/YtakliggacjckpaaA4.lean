/- The walks: checks, symbols. -/
import Derived.Test.YtakliggacjckpaaA3
import Derived.Test.YtakliggacjckpaaLaws
namespace Go.Proofs.Ytakliggacjckpaa
open Go.RowKit
set_option linter.unusedVariables false

def chk (n : Int) (s : ByteArray) (k : Nat) : Int := (List.range k).foldl (fun acc i => (139 * acc + byt s i + 11) % 32749) n
theorem chk_succ (n : Int) (s : ByteArray) (k : Nat) : chk n s (k + 1) = (139 * chk n s k + byt s k + 11) % 32749 := by simp [chk, List.range_succ]
theorem chk_bd {n : Int} (h : 0 ≤ n ∧ n ≤ 32748) (s : ByteArray) (k : Nat) : 0 ≤ chk n s k ∧ chk n s k ≤ 32748 := by
  cases k with
  | zero => simpa [chk] using h
  | succ k => rw [chk_succ]; omega

/-- The symbol of a digit. -/
def symN (n : Nat) : UInt8 := if n < 10 then (48 + n).toUInt8 else (55 + n).toUInt8
theorem symN_toNat {n : Nat} (h : n < 36) : (symN n).toNat = if n < 10 then 48 + n else 55 + n := by
  unfold symN; split <;> simp [Nat.toUInt8, UInt8.toNat_ofNat'] <;> omega
theorem symAll : ∀ n : Nat, n < 36 → (({ data := #[48, 49, 50, 51, 52, 53, 54, 55, 56, 57, 65, 66, 67, 68, 69, 70, 71, 72, 73, 74, 75, 76, 77, 78, 79, 80, 81, 82, 83, 84, 85, 86, 87, 88, 89, 90] } : ByteArray).extract n (n + 1)).data.toList = [symN n] := by decide +kernel
theorem ba_ext {a b : ByteArray} (h : a.data.toList = b.data.toList) : a = b := by
  cases a; cases b; simp at h ⊢; exact h
theorem ret_sb {x y : ByteArray} {a b : Bool} (h1 : x = y) (h2 : a = b) : Ending.returned (.tuple #[.string x, .bool a]) = .returned (.tuple #[.string y, .bool b]) := by rw [h1, h2]
end Go.Proofs.Ytakliggacjckpaa
