/- The walks of the seat's functions with loops. -/
import Derived.Test.YtdfgfddkfbglfaaA1
namespace Go.Proofs.Ytdfgfddkfbglfaa
open Go.RowKit
set_option linter.unusedVariables false

theorem specRemainderOf (a m : Int) (w : World) :
    Calls Try.prog 14 #[.int .i64 a, .int .i64 m] w fun e w' => e = .returned (.tuple #[.int .i64 (if inB a (-1000000000000000) 1000000000000000 && inB m 1 1000000000000000 then a % m else 0), .bool (inB a (-1000000000000000) 1000000000000000 && inB m 1 1000000000000000)]) ∧ w = w' := by
  cases h1 : inB a (-1000000000000000) 1000000000000000
  · go_enter Try.func14, Try.ntmps14
    go_wp2_with (go_at_call 22; refine (specIn _ _ _ _ (by assumption) _).mono ?_; rintro e w' ⟨rfl, rfl⟩)
    go_ret2
    exact ⟨rfl, rfl⟩
  · cases h2 : inB m 1 1000000000000000
    · go_enter Try.func14, Try.ntmps14
      go_wp2_with (go_at_call 22; refine (specIn _ _ _ _ (by assumption) _).mono ?_; rintro e w' ⟨rfl, rfl⟩)
      go_ret2
      exact ⟨rfl, rfl⟩
    · obtain ⟨hm, hm2⟩ := inB_true.1 h2
      go_enter Try.func14, Try.ntmps14
      go_wp2_with (first | (go_at_call 22; refine (specIn _ _ _ _ (by assumption) _).mono ?_; rintro e w' ⟨rfl, rfl⟩) | (go_at_call 25; refine (specMod a m hm hm2 _).mono ?_; rintro e w' ⟨rfl, rfl⟩))
      go_ret2
      exact ⟨rfl, rfl⟩

theorem specGcd (a0 b0 : Nat) (w : World) :
    Calls Try.prog 28 #[.int .i64 a0, .int .i64 b0] w fun e w' => e = .returned (.int .i64 (Nat.gcd a0 b0 : Nat)) ∧ w = w' := by
  go_enter Try.func28, Try.ntmps28
  go_wp2
  go_loop [0, 1] (fun x y => ∃ a b : Nat, x = .int .i64 a ∧ y = .int .i64 b ∧ Hid (Nat.gcd a b = Nat.gcd a0 b0)) (fun _ y => (intOf y).toNat)
  case atStart => exact ⟨a0, b0, rfl, rfl, Lib.hid rfl⟩
  case round =>
    obtain ⟨a, b, rfl, rfl, hg⟩ := hrel
    by_cases h0 : 0 < b
    · go_wp2
      go_round
      case rel => exact ⟨b, a % b, rfl, by go_num, Lib.hid (by rw [← hg.out, Nat.gcd_comm a b, Nat.gcd_rec b a, Nat.gcd_comm])⟩
      case measure => simp [intOf]; have := Nat.mod_lt a h0; omega
    · obtain rfl : b = 0 := by omega
      go_wp2
      go_ret
      exact ⟨ret_int (by have := hg.out; rw [Nat.gcd_zero_right] at this; rw [← this]), rfl⟩
theorem ret_bool {a b : Bool} (h : a = b) : Ending.returned (.bool a) = .returned (.bool b) := by rw [h]
theorem implGcd (a0 b0 : Nat) (w : World) :
    Calls Try.prog 29 #[.int .i64 a0, .int .i64 b0] w fun e w' => e = .returned (.int .i64 (Nat.gcd a0 b0 : Nat)) ∧ ∃ n, w.drewN n = w' := by
  go_enter Try.func29, Try.ntmps29
  go_wp2
  go_loopw [0, 1] (fun x y wr => ∃ a b n : Nat, x = .int .i64 a ∧ y = .int .i64 b ∧ Hid (Nat.gcd a b = Nat.gcd a0 b0) ∧ w.drewN n = wr) (fun _ y _ => (intOf y).toNat)
  case atStart => exact ⟨a0, b0, 0, rfl, rfl, Lib.hid rfl, rfl⟩
  case round =>
    obtain ⟨a, b, n, rfl, rfl, hg, rfl⟩ := hrel
    by_cases h0 : 0 < b
    · go_wp2
      go_region
      go_wp2
      go_roundw
      case rel => exact ⟨b, a % b, n + 1, rfl, by go_num, Lib.hid (by rw [← hg.out, Nat.gcd_comm a b, Nat.gcd_rec b a, Nat.gcd_comm]), rfl⟩
      case measure => simp [intOf]; have := Nat.mod_lt a h0; omega
    · obtain rfl : b = 0 := by omega
      go_wp2
      go_ret
      exact ⟨ret_int (by have := hg.out; rw [Nat.gcd_zero_right] at this; rw [← this]), n, rfl⟩

/-- The bytes of a string, as numbers. -/
def byt (s : ByteArray) (i : Nat) : Int := if h : i < s.size then ((s[i]'h).toNat : Int) else 0
theorem byt_eq {s : ByteArray} {i : Nat} (h : i < s.size) : ((s[i]'h).toNat : Int) = byt s i := by unfold byt; rw [dif_pos h]
theorem byt_bd (s : ByteArray) (i : Nat) : 0 ≤ byt s i ∧ byt s i ≤ 255 := by
  unfold byt; split
  · have := (s[i]).toNat_lt; omega
  · omega

def okByte (c : Int) : Bool := decide (97 ≤ c) && decide (c ≤ 122)
def okTo (s : ByteArray) (k : Nat) : Bool := (List.range k).all fun i => okByte (byt s i)
theorem okTo_succ (s : ByteArray) (k : Nat) : okTo s (k + 1) = (okTo s k && okByte (byt s k)) := by simp [okTo, List.range_succ]
theorem okTo_false {s : ByteArray} {k n : Nat} (hk : k < n) (h : okByte (byt s k) = false) : okTo s n = false := by
  unfold okTo
  rw [List.all_eq_false]
  exact ⟨k, List.mem_range.2 hk, by simp [h]⟩
def isName (s : ByteArray) : Bool := okTo s s.size && decide (1 ≤ s.size) && decide (s.size ≤ 8)
theorem isName_no {s : ByteArray} {k : Nat} (hk : k < s.size) (h : okByte (byt s k) = false) : isName s = false := by simp [isName, okTo_false hk h]
theorem isName_end {s : ByteArray} (h : okTo s s.size = true) : isName s = (decide (1 ≤ s.size) && decide (s.size ≤ 8)) := by simp [isName, h]
theorem get_bt (s : ByteArray) : ∀ (n : Nat) (h : n < s.size), ((s[n]'h).toNat : Int) = byt s n := fun _ h => byt_eq h

theorem implIsName (s : ByteArray) (hs : s.size ≤ maxLen) (w : World) :
    Calls Try.prog 11 #[.string s] w fun e w' => e = .returned (.bool (isName s)) ∧ w = w' := by
  unfold maxLen at hs
  go_enter Try.func11, Try.ntmps11
  go_wp2
  go_loop [6] (fun i => ∃ k : Nat, k ≤ s.size ∧ i = .int .i64 k ∧ okTo s k = true) (fun i => s.size - (intOf i).toNat)
  case atStart => exact ⟨0, Nat.zero_le _, rfl, rfl⟩
  case round =>
    obtain ⟨k, hk, rfl, hok⟩ := hrel
    have Hok := Lib.hid hok; clear hok
    have hb := get_bt s
    by_cases hlt : k < s.size
    · by_cases h1 : 97 ≤ byt s k
      · by_cases h2 : byt s k ≤ 122
        · go_wp2
          go_round
          case rel => exact ⟨k + 1, by omega, by go_num, by rw [okTo_succ, Hok.out]; simp [okByte, h1, h2]⟩
          case measure => simp [intOf]; omega
        · have hf := Lib.hid (isName_no hlt (by simp [okByte]; omega))
          go_wp2
          go_ret
          exact ⟨by rw [hf.out]; rfl, rfl⟩
      · have hf := Lib.hid (isName_no hlt (by simp [okByte]; omega))
        go_wp2
        go_ret
        exact ⟨by rw [hf.out]; rfl, rfl⟩
    · obtain rfl : k = s.size := by omega
      have hf := Lib.hid (isName_end Hok.out)
      by_cases h1 : 1 ≤ s.size
      · by_cases h2 : s.size ≤ 8
        · go_wp2
          go_ret
          refine ⟨ret_bool ?_, rfl⟩; rw [hf.out, Bool.eq_iff_iff]; simp; omega
        · go_wp2
          go_ret
          refine ⟨ret_bool ?_, rfl⟩; rw [hf.out, Bool.eq_iff_iff]; simp; omega
      · go_wp2
        go_ret
        refine ⟨ret_bool ?_, rfl⟩; rw [hf.out, Bool.eq_iff_iff]; simp; omega
theorem specIsName (s : ByteArray) (hs : s.size ≤ maxLen) (w : World) :
    Calls Try.prog 10 #[.string s] w fun e w' => e = .returned (.bool (isName s)) ∧ w = w' := by
  unfold maxLen at hs
  go_enter Try.func10, Try.ntmps10
  go_wp2
  go_loop [3] (fun i => ∃ k : Nat, k ≤ s.size ∧ i = .int .i64 k ∧ okTo s k = true) (fun i => s.size - (intOf i).toNat)
  case atStart => exact ⟨0, Nat.zero_le _, rfl, rfl⟩
  case round =>
    obtain ⟨k, hk, rfl, hok⟩ := hrel
    have Hok := Lib.hid hok; clear hok
    have hb := get_bt s
    by_cases hlt : k < s.size
    · by_cases h1 : 97 ≤ byt s k
      · by_cases h2 : byt s k ≤ 122
        · go_wp2
          go_round
          case rel => exact ⟨k + 1, by omega, by go_num, by rw [okTo_succ, Hok.out]; simp [okByte, h1, h2]⟩
          case measure => simp [intOf]; omega
        · have hf := Lib.hid (isName_no hlt (by simp [okByte]; omega))
          go_wp2
          go_ret
          exact ⟨by rw [hf.out]; rfl, rfl⟩
      · have hf := Lib.hid (isName_no hlt (by simp [okByte]; omega))
        go_wp2
        go_ret
        exact ⟨by rw [hf.out]; rfl, rfl⟩
    · obtain rfl : k = s.size := by omega
      have hf := Lib.hid (isName_end Hok.out)
      by_cases h1 : 1 ≤ s.size
      · by_cases h2 : s.size ≤ 8
        · go_wp2
          go_ret
          refine ⟨ret_bool ?_, rfl⟩; rw [hf.out, Bool.eq_iff_iff]; simp; omega
        · go_wp2
          go_ret
          refine ⟨ret_bool ?_, rfl⟩; rw [hf.out, Bool.eq_iff_iff]; simp; omega
      · go_wp2
        go_ret
        refine ⟨ret_bool ?_, rfl⟩; rw [hf.out, Bool.eq_iff_iff]; simp; omega
end Go.Proofs.Ytdfgfddkfbglfaa
