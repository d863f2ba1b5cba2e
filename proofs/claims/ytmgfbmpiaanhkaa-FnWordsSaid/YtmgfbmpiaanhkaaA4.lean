/- The walks: checks, symbols. -/
import Derived.Test.YtmgfbmpiaanhkaaA3
import Derived.Test.YtmgfbmpiaanhkaaLaws
namespace Go.Proofs.Ytmgfbmpiaanhkaa
open Go.RowKit
set_option linter.unusedVariables false

def chk (n : Int) (s : ByteArray) (k : Nat) : Int := (List.range k).foldl (fun acc i => (139 * acc + byt s i + 11) % 32749) n
theorem chk_succ (n : Int) (s : ByteArray) (k : Nat) : chk n s (k + 1) = (139 * chk n s k + byt s k + 11) % 32749 := by simp [chk, List.range_succ]
theorem chk_bd {n : Int} (h : 0 ≤ n ∧ n ≤ 32748) (s : ByteArray) (k : Nat) : 0 ≤ chk n s k ∧ chk n s k ≤ 32748 := by
  cases k with
  | zero => simpa [chk] using h
  | succ k => rw [chk_succ]; omega

/-- The symbol of a digit. -/
def symN (n : Nat) : UInt8 := if n < 10 then (48 + n).toUInt8 else (55 + n).toUInt8
theorem symN_toNat {n : Nat} (h : n < 36) : (symN n).toNat = if n < 10 then 48 + n else 55 + n := by
  unfold symN; split <;> simp [Nat.toUInt8, UInt8.toNat_ofNat'] <;> omega
theorem specSymbol (n : Nat) (h : n < 36) (w : World) :
    Calls Try.prog 80 #[.int .i64 n] w fun e w' => e = .returned (.int .u8 (symN n).toNat) ∧ w = w' := by
  have hs := symN_toNat h
  by_cases h1 : n < 10
  · have hs := Lib.hid (show ((symN n).toNat : Int) = 48 + n by rw [if_pos h1] at hs; omega)
    go_enter Try.func80, Try.ntmps80
    go_wp2
    go_ret
    exact ⟨ret_int hs.out.symm, rfl⟩
  · have hs := Lib.hid (show ((symN n).toNat : Int) = 65 + n - 10 by rw [if_neg h1] at hs; omega)
    go_enter Try.func80, Try.ntmps80
    go_wp2
    go_ret
    exact ⟨ret_int hs.out.symm, rfl⟩
theorem symAll : ∀ n : Nat, n < 36 → (({ data := #[48, 49, 50, 51, 52, 53, 54, 55, 56, 57, 65, 66, 67, 68, 69, 70, 71, 72, 73, 74, 75, 76, 77, 78, 79, 80, 81, 82, 83, 84, 85, 86, 87, 88, 89, 90] } : ByteArray).extract n (n + 1)).data.toList = [symN n] := by decide +kernel
theorem ba_ext {a b : ByteArray} (h : a.data.toList = b.data.toList) : a = b := by
  cases a; cases b; simp at h ⊢; exact h
theorem ret_sb {x y : ByteArray} {a b : Bool} (h1 : x = y) (h2 : a = b) : Ending.returned (.tuple #[.string x, .bool a]) = .returned (.tuple #[.string y, .bool b]) := by rw [h1, h2]
theorem implSymbolOf (n : Int) (w : World) :
    Calls Try.prog 41 #[.int .i64 n] w fun e w' => e = .returned (.tuple #[.string (if inB n 0 35 then ⟨#[symN n.toNat]⟩ else ⟨#[]⟩), .bool (inB n 0 35)]) ∧ w = w' := by
  cases h1 : inB n 0 35
  · go_enter Try.func41, Try.ntmps41
    go_wp2_with (go_at_call 52; refine (implIn _ _ _ _ (by assumption) _).mono ?_; rintro e w' ⟨rfl, rfl⟩)
    go_ret2
    exact ⟨rfl, rfl⟩
  · have h := inB_true.1 h1
    obtain ⟨n, rfl⟩ := Int.eq_ofNat_of_zero_le h.1
    go_enter Try.func41, Try.ntmps41
    go_wp2_with (go_at_call 52; refine (implIn _ _ _ _ (by assumption) _).mono ?_; rintro e w' ⟨rfl, rfl⟩)
    go_ret2
    refine ⟨?_, rfl⟩
    exact ret_sb (ba_ext (symAll n (by omega))) rfl
end Go.Proofs.Ytmgfbmpiaanhkaa
