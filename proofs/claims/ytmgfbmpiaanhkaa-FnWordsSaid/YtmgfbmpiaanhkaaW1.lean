/- Digits and words: the walks of both sides' functions over symbols. -/
import Derived.Test.YtmgfbmpiaanhkaaA5
import Derived.Test.YtmgfbmpiaanhkaaH1
import Derived.Lib.Bytealg
namespace Go.Proofs.Ytmgfbmpiaanhkaa
open Go.RowKit
set_option linter.unusedVariables false

def dig (c : Int) : Int := if 48 ≤ c ∧ c ≤ 57 then c - 48 else if 65 ≤ c ∧ c ≤ 90 then c - 55 else -1
theorem dig_bd (c : Int) : -1 ≤ dig c ∧ dig c ≤ 35 := by unfold dig; (repeat' split) <;> omega

theorem specDigit (c : Int) (h1 : 0 ≤ c) (h2 : c ≤ 255) (w : World) :
    Calls Try.prog 58 #[.int .u8 c] w fun e w' => e = .returned (.int .i64 (dig c)) ∧ w = w' := by
  go_enter Try.func58, Try.ntmps58
  go_wp2
  all_goals go_ret
  all_goals (refine ⟨ret_int' ?_, rfl⟩; unfold dig; (repeat' split) <;> omega)

abbrev symbols : ByteArray := { data := #[48, 49, 50, 51, 52, 53, 54, 55, 56, 57, 65, 66, 67, 68, 69, 70, 71, 72, 73, 74, 75, 76, 77, 78, 79, 80, 81, 82, 83, 84, 85, 86, 87, 88, 89, 90] }
theorem index_dig : ∀ n : Nat, n < 256 → Lib.indexByte symbols.data.toList n.toUInt8 = dig n := by decide +kernel
theorem sliteIndexByte (s : ByteArray) (c : Int) (w : World) :
    Calls Try.prog 83 #[.string s, .int .u8 c] w fun e w' => e = .returned (.int .i64 (Lib.indexByte s.data.toList c.toNat.toUInt8)) ∧ w = w' := by
  go_enter Try.func83, Try.ntmps83
  go_wp2
  rw [run_callFunc_extern Try.func85 (by kernel_rfl) (by kernel_rfl) (by kernel_rfl) (e := Extern.BytealgIndexByte.indexByte) (by kernel_rfl), Lib.run_indexByteString]
  simp only [Result.andThen]
  rw [Oper.upon_value]
  go_wp2
  go_ret
  exact ⟨rfl, rfl⟩
theorem strIndexByte (c : Int) (h1 : 0 ≤ c) (h2 : c ≤ 255) (w : World) :
    Calls Try.prog 78 #[.string symbols, .int .u8 c] w fun e w' => e = .returned (.int .i64 (dig c)) ∧ w = w' := by
  obtain ⟨n, rfl⟩ := Int.eq_ofNat_of_zero_le h1
  have hd := Lib.hid (index_dig n (by omega))
  go_enter Try.func78, Try.ntmps78
  go_wp2_with (go_at_call 83; refine (sliteIndexByte _ _ _).mono ?_; rintro e w' ⟨rfl, rfl⟩)
  go_ret
  exact ⟨ret_int' hd.out, rfl⟩

def digitsL (s : ByteArray) (k : Nat) : List Int := (List.range k).map fun i => dig (byt s i)
theorem digitsL_length (s : ByteArray) (k : Nat) : (digitsL s k).length = k := by simp [digitsL]
theorem digitsL_succ (s : ByteArray) (k : Nat) : digitsL s (k + 1) = digitsL s k ++ [dig (byt s k)] := by simp [digitsL, List.range_succ]
theorem nth_digitsL {s : ByteArray} {k i : Nat} (h : i < k) : nth (digitsL s k) i = dig (byt s i) := by
  rw [nth_eq (by simpa [digitsL_length] using h)]; simp [digitsL]

theorem specDigits (s : ByteArray) (hs : s.size ≤ 1048576) (w : World) :
    Calls Try.prog 66 #[.string s] w fun e w' => ∃ v, e = .returned v ∧ Fresh OI w w' v (digitsL s s.size) := by
  go_enter Try.func66, Try.ntmps66
  go_wp2
  go_loopw [3, 4] (fun v i wr => ∃ k : Nat, k ≤ s.size ∧ i = .int .i64 k ∧ Fresh OI w wr v (digitsL s k)) (fun _ i _ => s.size - (intOf i).toNat)
  case atStart => exact ⟨0, Nat.zero_le _, rfl, Fresh.empty (Below.refl _ _)⟩
  case round =>
    obtain ⟨k, hk, rfl, hf⟩ := hrel
    have hb := get_bt s
    have hd := byt_bd s k
    have hl := digitsL_length s k
    have hl2 := Lib.hid hl; clear hl
    have hn := Lib.hid (digitsL_succ s k)
    by_cases hlt : k < s.size
    · go_wp2_with (first
        | (go_at_call 58; refine (specDigit _ (by omega) (by omega) _).mono ?_; rintro e w' ⟨rfl, rfl⟩)
        | (at_builtin; refine wpList_pushF rfl (.tmp 12) (.tmp 17) 29 rfl (fun _ => rfl) Try.underlying29 infoI64 rfl hf (dig (byt s k)) (by rw [hl2.out]; omega) (by rw [hl2.out]; unfold maxLen; omega) rfl rfl ?_; intro v1 w1 hf1))
      go_roundw
      case rel => exact ⟨k + 1, by omega, by go_num, by rw [hn.out]; assumption⟩
      case measure => simp [intOf]; omega
    · obtain rfl : k = s.size := by omega
      go_wp2
      go_ret
      exact ⟨_, rfl, hf⟩
end Go.Proofs.Ytmgfbmpiaanhkaa
