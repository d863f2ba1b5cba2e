/- Digits and words: the walks of both sides' functions over symbols. -/
import Derived.Test.YtnpkanlieflbiaaA1
import Derived.Test.YtnpkanlieflbiaaH1
import Derived.Lib.Bytealg
namespace Go.Proofs.Ytnpkanlieflbiaa
open Go.RowKit
set_option linter.unusedVariables false

def dig (c : Int) : Int := if 48 ≤ c ∧ c ≤ 57 then c - 48 else if 65 ≤ c ∧ c ≤ 90 then c - 55 else -1
theorem dig_bd (c : Int) : -1 ≤ dig c ∧ dig c ≤ 35 := by unfold dig; (repeat' split) <;> omega

abbrev symbols : ByteArray := { data := #[48, 49, 50, 51, 52, 53, 54, 55, 56, 57, 65, 66, 67, 68, 69, 70, 71, 72, 73, 74, 75, 76, 77, 78, 79, 80, 81, 82, 83, 84, 85, 86, 87, 88, 89, 90] }
theorem index_dig : ∀ n : Nat, n < 256 → Lib.indexByte symbols.data.toList n.toUInt8 = dig n := by decide +kernel
def digitsL (s : ByteArray) (k : Nat) : List Int := (List.range k).map fun i => dig (byt s i)
theorem digitsL_length (s : ByteArray) (k : Nat) : (digitsL s k).length = k := by simp [digitsL]
theorem digitsL_succ (s : ByteArray) (k : Nat) : digitsL s (k + 1) = digitsL s k ++ [dig (byt s k)] := by simp [digitsL, List.range_succ]
theorem nth_digitsL {s : ByteArray} {k i : Nat} (h : i < k) : nth (digitsL s k) i = dig (byt s i) := by
  rw [nth_eq (by simpa [digitsL_length] using h)]; simp [digitsL]

end Go.Proofs.Ytnpkanlieflbiaa
/- Words over a base: both sides' functions. -/
namespace Go.Proofs.Ytnpkanlieflbiaa
open Go.RowKit
set_option linter.unusedVariables false

def digOk (s : ByteArray) (base : Int) (k : Nat) : Bool := (List.range k).all fun i => inB (dig (byt s i)) 0 (base - 1)
theorem digOk_succ (s : ByteArray) (base : Int) (k : Nat) : digOk s base (k + 1) = (digOk s base k && inB (dig (byt s k)) 0 (base - 1)) := by simp [digOk, List.range_succ]
theorem digOk_no {s : ByteArray} {base : Int} {k n : Nat} (hk : k < n) (h : inB (dig (byt s k)) 0 (base - 1) = false) : digOk s base n = false := by
  unfold digOk
  rw [List.all_eq_false]
  exact ⟨k, List.mem_range.2 hk, by simp [h]⟩
theorem digOk_at {s : ByteArray} {base : Int} {k n : Nat} (hk : k < n) (h : digOk s base n = true) : inB (dig (byt s k)) 0 (base - 1) = true := by
  unfold digOk at h
  rw [List.all_eq_true] at h
  exact h k (List.mem_range.2 hk)
/-- Whether a text is a word over a base. -/
def isWord (s : ByteArray) (base : Int) : Bool := inB base 2 36 && decide (s.size ≤ 20) && digOk s base s.size
theorem isWord_base {s : ByteArray} {base : Int} (h : inB base 2 36 = false) : isWord s base = false := by simp [isWord, h]
theorem isWord_size {s : ByteArray} {base : Int} (h : ¬ s.size ≤ 20) : isWord s base = false := by simp [isWord, h]
theorem isWord_dig {s : ByteArray} {base : Int} {k : Nat} (hk : k < s.size) (h : inB (dig (byt s k)) 0 (base - 1) = false) : isWord s base = false := by simp [isWord, digOk_no hk h]
theorem isWord_ok {s : ByteArray} {base : Int} (h1 : inB base 2 36 = true) (h2 : s.size ≤ 20) (h3 : digOk s base s.size = true) : isWord s base = true := by simp [isWord, h1, h2, h3]
theorem isWord_true {s : ByteArray} {base : Int} (h : isWord s base = true) : (2 ≤ base ∧ base ≤ 36) ∧ s.size ≤ 20 ∧ digOk s base s.size = true := by
  simp only [isWord, Bool.and_eq_true, decide_eq_true_eq] at h
  exact ⟨inB_true.1 h.1.1, h.1.2, h.2⟩

theorem specBase (n : Int) (b : Bool) (hb : inB n 2 36 = b) (w : World) :
    Calls Try.prog 132 #[.int .i64 n] w fun e w' => e = .returned (.bool b) ∧ w = w' := by
  go_enter Try.func132, Try.ntmps132
  go_wp2_with (go_at_call 73; refine (specIn _ _ _ _ (by assumption) _).mono ?_; rintro e w' ⟨rfl, rfl⟩)
  go_ret
  exact ⟨rfl, rfl⟩
theorem implBase (n : Int) (b : Bool) (hb : inB n 2 36 = b) (w : World) :
    Calls Try.prog 118 #[.int .i64 n] w fun e w' => e = .returned (.bool b) ∧ w = w' := by
  go_enter Try.func118, Try.ntmps118
  go_wp2_with (go_at_call 78; refine (implIn _ _ _ _ (by assumption) _).mono ?_; rintro e w' ⟨rfl, rfl⟩)
  go_ret
  exact ⟨rfl, rfl⟩

/-- The bound that the code reckons: it wraps round at the least base alone. -/
theorem wrap_pred {base : Int} (h : inB base 2 36 = true) : wrap64 (base - 1) = base - 1 := by
  have := inB_true.1 h
  exact IntWalk.wrap64_in _ (by omega)

/-- The digits of a word; none of another text. -/
def digitsOf (s : ByteArray) (base : Int) : List Int := if isWord s base then digitsL s s.size else []
theorem digitsOf_no {s : ByteArray} {base : Int} (h : isWord s base = false) : digitsOf s base = [] := by simp [digitsOf, h]
theorem digitsOf_yes {s : ByteArray} {base : Int} (h : isWord s base = true) : digitsOf s base = digitsL s s.size := by simp [digitsOf, h]

end Go.Proofs.Ytnpkanlieflbiaa
