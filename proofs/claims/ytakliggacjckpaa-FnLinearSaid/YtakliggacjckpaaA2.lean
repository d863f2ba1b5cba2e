/- The walks of the seat's functions with loops. -/
import Derived.Test.YtakliggacjckpaaA1
namespace Go.Proofs.Ytakliggacjckpaa
open Go.RowKit
set_option linter.unusedVariables false

theorem ret_bool {a b : Bool} (h : a = b) : Ending.returned (.bool a) = .returned (.bool b) := by rw [h]
/-- The bytes of a string, as numbers. -/
def byt (s : ByteArray) (i : Nat) : Int := if h : i < s.size then ((s[i]'h).toNat : Int) else 0
theorem byt_eq {s : ByteArray} {i : Nat} (h : i < s.size) : ((s[i]'h).toNat : Int) = byt s i := by unfold byt; rw [dif_pos h]
theorem byt_bd (s : ByteArray) (i : Nat) : 0 ≤ byt s i ∧ byt s i ≤ 255 := by
  unfold byt; split
  · have := (s[i]).toNat_lt; omega
  · omega

def okByte (c : Int) : Bool := decide (97 ≤ c) && decide (c ≤ 122)
def okTo (s : ByteArray) (k : Nat) : Bool := (List.range k).all fun i => okByte (byt s i)
theorem okTo_succ (s : ByteArray) (k : Nat) : okTo s (k + 1) = (okTo s k && okByte (byt s k)) := by simp [okTo, List.range_succ]
theorem okTo_false {s : ByteArray} {k n : Nat} (hk : k < n) (h : okByte (byt s k) = false) : okTo s n = false := by
  unfold okTo
  rw [List.all_eq_false]
  exact ⟨k, List.mem_range.2 hk, by simp [h]⟩
def isName (s : ByteArray) : Bool := okTo s s.size && decide (1 ≤ s.size) && decide (s.size ≤ 8)
theorem isName_no {s : ByteArray} {k : Nat} (hk : k < s.size) (h : okByte (byt s k) = false) : isName s = false := by simp [isName, okTo_false hk h]
theorem isName_end {s : ByteArray} (h : okTo s s.size = true) : isName s = (decide (1 ≤ s.size) && decide (s.size ≤ 8)) := by simp [isName, h]
theorem get_bt (s : ByteArray) : ∀ (n : Nat) (h : n < s.size), ((s[n]'h).toNat : Int) = byt s n := fun _ h => byt_eq h

end Go.Proofs.Ytakliggacjckpaa
