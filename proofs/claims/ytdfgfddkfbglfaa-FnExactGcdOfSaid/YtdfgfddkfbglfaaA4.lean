/- The walks: checks, symbols. -/
import Derived.Test.YtdfgfddkfbglfaaA3
import Derived.Test.YtdfgfddkfbglfaaLaws
namespace Go.Proofs.Ytdfgfddkfbglfaa
open Go.RowKit
set_option linter.unusedVariables false

def chk (n : Int) (s : ByteArray) (k : Nat) : Int := (List.range k).foldl (fun acc i => (139 * acc + byt s i + 11) % 32749) n
theorem chk_succ (n : Int) (s : ByteArray) (k : Nat) : chk n s (k + 1) = (139 * chk n s k + byt s k + 11) % 32749 := by simp [chk, List.range_succ]
theorem chk_bd {n : Int} (h : 0 ≤ n ∧ n ≤ 32748) (s : ByteArray) (k : Nat) : 0 ≤ chk n s k ∧ chk n s k ≤ 32748 := by
  cases k with
  | zero => simpa [chk] using h
  | succ k => rw [chk_succ]; omega

theorem specCheck (n : Int) (h : 0 ≤ n ∧ n ≤ 32748) (s : ByteArray) (hs : s.size ≤ maxLen) (w : World) :
    Calls Try.prog 27 #[.int .i64 n, .string s] w fun e w' => e = .returned (.int .i64 (chk n s s.size)) ∧ w = w' := by
  unfold maxLen at hs
  go_enter Try.func27, Try.ntmps27
  go_wp2
  go_loop [0, 5] (fun x i => ∃ k : Nat, k ≤ s.size ∧ i = .int .i64 k ∧ x = .int .i64 (chk n s k)) (fun _ i => s.size - (intOf i).toNat)
  case atStart => exact ⟨0, Nat.zero_le _, rfl, rfl⟩
  case round =>
    obtain ⟨k, hk, rfl, rfl⟩ := hrel
    have hb := get_bt s
    have hc := chk_bd h s k
    have hd := byt_bd s k
    have hn := Lib.hid (chk_succ n s k)
    by_cases hlt : k < s.size
    · go_wp2
      go_round
      case rel => exact ⟨k + 1, by omega, by go_num, by rw [hn.out]⟩
      case measure => simp [intOf]; omega
    · obtain rfl : k = s.size := by omega
      go_wp2
      go_ret
      exact ⟨rfl, rfl⟩
theorem specCheckOf (n : Int) (s : ByteArray) (hs : s.size ≤ maxLen) (w : World) :
    Calls Try.prog 16 #[.int .i64 n, .string s] w fun e w' => e = .returned (.tuple #[.int .i64 (if inB n 0 32748 then chk n s s.size else 0), .bool (inB n 0 32748)]) ∧ w = w' := by
  cases h1 : inB n 0 32748
  · go_enter Try.func16, Try.ntmps16
    go_wp2_with (go_at_call 22; refine (specIn _ _ _ _ (by assumption) _).mono ?_; rintro e w' ⟨rfl, rfl⟩)
    go_ret2
    exact ⟨rfl, rfl⟩
  · have hn := inB_true.1 h1
    go_enter Try.func16, Try.ntmps16
    go_wp2_with (first | (go_at_call 22; refine (specIn _ _ _ _ (by assumption) _).mono ?_; rintro e w' ⟨rfl, rfl⟩) | (go_at_call 27; refine (specCheck n hn s hs _).mono ?_; rintro e w' ⟨rfl, rfl⟩))
    go_ret2
    exact ⟨rfl, rfl⟩
theorem implCheckOf (n : Int) (s : ByteArray) (hs : s.size ≤ maxLen) (w : World) :
    Calls Try.prog 17 #[.int .i64 n, .string s] w fun e w' => e = .returned (.tuple #[.int .i64 (if inB n 0 32748 then chk n s s.size else 0), .bool (inB n 0 32748)]) ∧ w = w' := by
  cases h1 : inB n 0 32748
  · go_enter Try.func17, Try.ntmps17
    go_wp2_with (go_at_call 24; refine (implIn _ _ _ _ (by assumption) _).mono ?_; rintro e w' ⟨rfl, rfl⟩)
    go_ret2
    exact ⟨rfl, rfl⟩
  · have h := inB_true.1 h1
    unfold maxLen at hs
    go_enter Try.func17, Try.ntmps17
    go_wp2_with (go_at_call 24; refine (implIn _ _ _ _ (by assumption) _).mono ?_; rintro e w' ⟨rfl, rfl⟩)
    go_loop [0, 12] (fun x i => ∃ k : Nat, k ≤ s.size ∧ i = .int .i64 k ∧ x = .int .i64 (chk n s k)) (fun _ i => s.size - (intOf i).toNat)
    case atStart => exact ⟨0, Nat.zero_le _, rfl, rfl⟩
    case round =>
      obtain ⟨k, hk, rfl, rfl⟩ := hrel
      have hb := get_bt s
      have hc := chk_bd h s k
      have hd := byt_bd s k
      have hn := Lib.hid (chk_succ n s k)
      by_cases hlt : k < s.size
      · go_wp2
        go_round
        case rel => exact ⟨k + 1, by omega, by go_num, by rw [hn.out]⟩
        case measure => simp [intOf]; omega
      · obtain rfl : k = s.size := by omega
        go_wp2
        go_ret2
        exact ⟨rfl, rfl⟩
/-- The symbol of a digit. -/
def symN (n : Nat) : UInt8 := if n < 10 then (48 + n).toUInt8 else (55 + n).toUInt8
theorem symN_toNat {n : Nat} (h : n < 36) : (symN n).toNat = if n < 10 then 48 + n else 55 + n := by
  unfold symN; split <;> simp [Nat.toUInt8, UInt8.toNat_ofNat'] <;> omega
theorem specSymbol (n : Nat) (h : n < 36) (w : World) :
    Calls Try.prog 23 #[.int .i64 n] w fun e w' => e = .returned (.int .u8 (symN n).toNat) ∧ w = w' := by
  have hs := symN_toNat h
  by_cases h1 : n < 10
  · have hs := Lib.hid (show ((symN n).toNat : Int) = 48 + n by rw [if_pos h1] at hs; omega)
    go_enter Try.func23, Try.ntmps23
    go_wp2
    go_ret
    exact ⟨ret_int hs.out.symm, rfl⟩
  · have hs := Lib.hid (show ((symN n).toNat : Int) = 65 + n - 10 by rw [if_neg h1] at hs; omega)
    go_enter Try.func23, Try.ntmps23
    go_wp2
    go_ret
    exact ⟨ret_int hs.out.symm, rfl⟩
theorem symAll : ∀ n : Nat, n < 36 → (({ data := #[48, 49, 50, 51, 52, 53, 54, 55, 56, 57, 65, 66, 67, 68, 69, 70, 71, 72, 73, 74, 75, 76, 77, 78, 79, 80, 81, 82, 83, 84, 85, 86, 87, 88, 89, 90] } : ByteArray).extract n (n + 1)).data.toList = [symN n] := by decide +kernel
theorem ba_ext {a b : ByteArray} (h : a.data.toList = b.data.toList) : a = b := by
  cases a; cases b; simp at h ⊢; exact h
theorem ret_sb {x y : ByteArray} {a b : Bool} (h1 : x = y) (h2 : a = b) : Ending.returned (.tuple #[.string x, .bool a]) = .returned (.tuple #[.string y, .bool b]) := by rw [h1, h2]
theorem specSymbolOf (n : Int) (w : World) :
    Calls Try.prog 12 #[.int .i64 n] w fun e w' => e = .returned (.tuple #[.string (if inB n 0 35 then ⟨#[symN n.toNat]⟩ else ⟨#[]⟩), .bool (inB n 0 35)]) ∧ Below w.heap.size w w' := by
  cases h1 : inB n 0 35
  · go_enter Try.func12, Try.ntmps12
    go_wp2_with (go_at_call 22; refine (specIn _ _ _ _ (by assumption) _).mono ?_; rintro e w' ⟨rfl, rfl⟩)
    go_ret2
    exact ⟨rfl, Below.refl _ _⟩
  · have h := inB_true.1 h1
    obtain ⟨n, rfl⟩ := Int.eq_ofNat_of_zero_le h.1
    go_enter Try.func12, Try.ntmps12
    go_wp2_with (first | (go_at_call 22; refine (specIn _ _ _ _ (by assumption) _).mono ?_; rintro e w' ⟨rfl, rfl⟩) | (go_at_call 23; refine (specSymbol n (by omega) _).mono ?_; rintro e w' ⟨rfl, rfl⟩) | (refine wpList_str rfl (.tmp 9) 34 9 5 rfl Try.underlying34 Try.underlying5 Try.underlying9 rfl rd_one ?_))
    go_ret2
    exact ⟨rfl, (Below.refl _ _).alloc (Nat.le_refl _) _⟩
theorem implSymbolOf (n : Int) (w : World) :
    Calls Try.prog 13 #[.int .i64 n] w fun e w' => e = .returned (.tuple #[.string (if inB n 0 35 then ⟨#[symN n.toNat]⟩ else ⟨#[]⟩), .bool (inB n 0 35)]) ∧ w = w' := by
  cases h1 : inB n 0 35
  · go_enter Try.func13, Try.ntmps13
    go_wp2_with (go_at_call 24; refine (implIn _ _ _ _ (by assumption) _).mono ?_; rintro e w' ⟨rfl, rfl⟩)
    go_ret2
    exact ⟨rfl, rfl⟩
  · have h := inB_true.1 h1
    obtain ⟨n, rfl⟩ := Int.eq_ofNat_of_zero_le h.1
    go_enter Try.func13, Try.ntmps13
    go_wp2_with (go_at_call 24; refine (implIn _ _ _ _ (by assumption) _).mono ?_; rintro e w' ⟨rfl, rfl⟩)
    go_ret2
    refine ⟨?_, rfl⟩
    exact ret_sb (ba_ext (symAll n (by omega))) rfl
end Go.Proofs.Ytdfgfddkfbglfaa
