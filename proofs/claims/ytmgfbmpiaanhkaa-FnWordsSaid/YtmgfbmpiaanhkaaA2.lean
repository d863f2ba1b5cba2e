/- The walks of the seat's functions with loops. -/
import Derived.Test.YtmgfbmpiaanhkaaA1
namespace Go.Proofs.Ytmgfbmpiaanhkaa
open Go.RowKit
set_option linter.unusedVariables false

theorem ret_bool {a b : Bool} (h : a = b) : Ending.returned (.bool a) = .returned (.bool b) := by rw [h]
theorem implGcd (a0 b0 : Nat) (w : World) :
    Calls Try.prog 53 #[.int .i64 a0, .int .i64 b0] w fun e w' => e = .returned (.int .i64 (Nat.gcd a0 b0 : Nat)) ∧ ∃ n, w.drewN n = w' := by
  go_enter Try.func53, Try.ntmps53
  go_wp2
  go_loopw [0, 1] (fun x y wr => ∃ a b n : Nat, x = .int .i64 a ∧ y = .int .i64 b ∧ Hid (Nat.gcd a b = Nat.gcd a0 b0) ∧ w.drewN n = wr) (fun _ y _ => (intOf y).toNat)
  case atStart => exact ⟨a0, b0, 0, rfl, rfl, Lib.hid rfl, rfl⟩
  case round =>
    obtain ⟨a, b, n, rfl, rfl, hg, rfl⟩ := hrel
    by_cases h0 : 0 < b
    · go_wp2
      go_region
      go_wp2
      go_roundw
      case rel => exact ⟨b, a % b, n + 1, rfl, by go_num, Lib.hid (by rw [← hg.out, Nat.gcd_comm a b, Nat.gcd_rec b a, Nat.gcd_comm]), rfl⟩
      case measure => simp [intOf]; have := Nat.mod_lt a h0; omega
    · obtain rfl : b = 0 := by omega
      go_wp2
      go_ret
      exact ⟨ret_int (by have := hg.out; rw [Nat.gcd_zero_right] at this; rw [← this]), n, rfl⟩

/-- The bytes of a string, as numbers. -/
def byt (s : ByteArray) (i : Nat) : Int := if h : i < s.size then ((s[i]'h).toNat : Int) else 0
theorem byt_eq {s : ByteArray} {i : Nat} (h : i < s.size) : ((s[i]'h).toNat : Int) = byt s i := by unfold byt; rw [dif_pos h]
theorem byt_bd (s : ByteArray) (i : Nat) : 0 ≤ byt s i ∧ byt s i ≤ 255 := by
  unfold byt; split
  · have := (s[i]).toNat_lt; omega
  · omega

def okByte (c : Int) : Bool := decide (97 ≤ c) && decide (c ≤ 122)
def okTo (s : ByteArray) (k : Nat) : Bool := (List.range k).all fun i => okByte (byt s i)
theorem okTo_succ (s : ByteArray) (k : Nat) : okTo s (k + 1) = (okTo s k && okByte (byt s k)) := by simp [okTo, List.range_succ]
theorem okTo_false {s : ByteArray} {k n : Nat} (hk : k < n) (h : okByte (byt s k) = false) : okTo s n = false := by
  unfold okTo
  rw [List.all_eq_false]
  exact ⟨k, List.mem_range.2 hk, by simp [h]⟩
def isName (s : ByteArray) : Bool := okTo s s.size && decide (1 ≤ s.size) && decide (s.size ≤ 8)
theorem isName_no {s : ByteArray} {k : Nat} (hk : k < s.size) (h : okByte (byt s k) = false) : isName s = false := by simp [isName, okTo_false hk h]
theorem isName_end {s : ByteArray} (h : okTo s s.size = true) : isName s = (decide (1 ≤ s.size) && decide (s.size ≤ 8)) := by simp [isName, h]
theorem get_bt (s : ByteArray) : ∀ (n : Nat) (h : n < s.size), ((s[n]'h).toNat : Int) = byt s n := fun _ h => byt_eq h

end Go.Proofs.Ytmgfbmpiaanhkaa
