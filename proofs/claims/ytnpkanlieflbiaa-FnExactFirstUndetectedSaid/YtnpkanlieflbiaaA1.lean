/- The walks of the seat's small integer functions. -/
import Derived.Test.YtnpkanlieflbiaaRows
import Derived.Test.YtnpkanlieflbiaaBase
import Derived.WalkLawsBesides
import Derived.WalkSpells
import Derived.Deep.QuietTactic
import Derived.BigQuiet
import Derived.Deep.LoopGhost
import Derived.Outline
import Derived.Handy
import Derived.Test.YtnpkanlieflbiaaLaws
namespace Go.Proofs.Ytnpkanlieflbiaa
open Go.RowKit
set_option linter.unusedVariables false

def inB (n lo hi : Int) : Bool := decide (lo ≤ n) && decide (n ≤ hi)
theorem inB_true {n lo hi : Int} : inB n lo hi = true ↔ lo ≤ n ∧ n ≤ hi := by simp [inB]
theorem inB_false {n lo hi : Int} : inB n lo hi = false ↔ n < lo ∨ hi < n := by simp [inB]; omega

theorem specIn (n lo hi : Int) (b : Bool) (hb : inB n lo hi = b) (w : World) :
    Calls Try.prog 73 #[.int .i64 n, .int .i64 lo, .int .i64 hi] w fun e w' => e = .returned (.bool b) ∧ w = w' := by
  cases b
  · by_cases h1 : lo ≤ n
    · have h2 : ¬ n ≤ hi := by have := inB_false.1 hb; omega
      clear hb
      go_enter Try.func73, Try.ntmps73
      go_wp2
      go_ret
      exact ⟨rfl, rfl⟩
    · clear hb
      go_enter Try.func73, Try.ntmps73
      go_wp2
      go_ret
      exact ⟨rfl, rfl⟩
  · obtain ⟨h1, h2⟩ := inB_true.1 hb
    clear hb
    go_enter Try.func73, Try.ntmps73
    go_wp2
    go_ret
    exact ⟨rfl, rfl⟩
theorem implIn (n lo hi : Int) (b : Bool) (hb : inB n lo hi = b) (w : World) :
    Calls Try.prog 78 #[.int .i64 n, .int .i64 lo, .int .i64 hi] w fun e w' => e = .returned (.bool b) ∧ w = w' := by
  cases b
  · by_cases h1 : lo ≤ n
    · have h2 : ¬ n ≤ hi := by have := inB_false.1 hb; omega
      clear hb
      go_enter Try.func78, Try.ntmps78
      go_wp2
      go_ret
      exact ⟨rfl, rfl⟩
    · clear hb
      go_enter Try.func78, Try.ntmps78
      go_wp2
      go_ret
      exact ⟨rfl, rfl⟩
  · obtain ⟨h1, h2⟩ := inB_true.1 hb
    clear hb
    go_enter Try.func78, Try.ntmps78
    go_wp2
    go_ret
    exact ⟨rfl, rfl⟩

theorem tmod_bd (a m : Int) (hm : 1 ≤ m) : -m < a.tmod m ∧ a.tmod m < m := by
  have h1 := Int.tmod_lt_of_pos a (show 0 < m by omega)
  have h2 := Int.tmod_lt_of_pos (-a) (show 0 < m by omega)
  rw [Int.neg_tmod] at h2
  omega
theorem tmod_emod' (a m : Int) : a.tmod m % m = a % m := by
  rw [Int.tmod_def]; exact Int.sub_mul_emod_self_left _ _ _
theorem ret_int {k : IntKind} {a b : Int} (h : a = b) : Ending.returned (.int k a) = .returned (.int k b) := by rw [h]
theorem rest_eq (a m : Int) : (a.tmod m + m) % m = a % m := by
  rw [Int.add_emod_right]
  exact tmod_emod' _ _
theorem mod_eq (a m : Int) (hm : 1 ≤ m) : (if a.tmod m < 0 then a.tmod m + m else a.tmod m) = a % m := by
  have hb := tmod_bd a m hm
  have h1 : a.tmod m % m = a % m := tmod_emod' _ _
  split
  · rw [← h1, ← Int.add_emod_right, Int.emod_eq_of_lt (by omega) (by omega)]
  · rw [← h1, Int.emod_eq_of_lt (by omega) (by omega)]

end Go.Proofs.Ytnpkanlieflbiaa
/- The walks of the seat's functions with loops. -/
namespace Go.Proofs.Ytnpkanlieflbiaa
open Go.RowKit
set_option linter.unusedVariables false

theorem ret_bool {a b : Bool} (h : a = b) : Ending.returned (.bool a) = .returned (.bool b) := by rw [h]
/-- The bytes of a string, as numbers. -/
def byt (s : ByteArray) (i : Nat) : Int := if h : i < s.size then ((s[i]'h).toNat : Int) else 0
theorem byt_eq {s : ByteArray} {i : Nat} (h : i < s.size) : ((s[i]'h).toNat : Int) = byt s i := by unfold byt; rw [dif_pos h]
theorem byt_bd (s : ByteArray) (i : Nat) : 0 ≤ byt s i ∧ byt s i ≤ 255 := by
  unfold byt; split
  · have := (s[i]).toNat_lt; omega
  · omega

def okByte (c : Int) : Bool := decide (97 ≤ c) && decide (c ≤ 122)
def okTo (s : ByteArray) (k : Nat) : Bool := (List.range k).all fun i => okByte (byt s i)
theorem okTo_succ (s : ByteArray) (k : Nat) : okTo s (k + 1) = (okTo s k && okByte (byt s k)) := by simp [okTo, List.range_succ]
theorem okTo_false {s : ByteArray} {k n : Nat} (hk : k < n) (h : okByte (byt s k) = false) : okTo s n = false := by
  unfold okTo
  rw [List.all_eq_false]
  exact ⟨k, List.mem_range.2 hk, by simp [h]⟩
def isName (s : ByteArray) : Bool := okTo s s.size && decide (1 ≤ s.size) && decide (s.size ≤ 8)
theorem isName_no {s : ByteArray} {k : Nat} (hk : k < s.size) (h : okByte (byt s k) = false) : isName s = false := by simp [isName, okTo_false hk h]
theorem isName_end {s : ByteArray} (h : okTo s s.size = true) : isName s = (decide (1 ≤ s.size) && decide (s.size ≤ 8)) := by simp [isName, h]
theorem get_bt (s : ByteArray) : ∀ (n : Nat) (h : n < s.size), ((s[n]'h).toNat : Int) = byt s n := fun _ h => byt_eq h

end Go.Proofs.Ytnpkanlieflbiaa
/- The walks: inverses, checks, symbols. -/
namespace Go.Proofs.Ytnpkanlieflbiaa
open Go.RowKit
set_option linter.unusedVariables false

theorem find_range {p : Nat → Bool} {n k : Nat} (hk : k < n) (h : ∀ j, j < k → p j = false) (hp : p k = true) : (List.range n).find? p = some k := by
  rw [List.find?_range_eq_some]
  exact ⟨hp, List.mem_range.2 hk, fun j hj => by simp [h j hj]⟩
theorem find_range_none {p : Nat → Bool} {n : Nat} (h : ∀ j, j < n → p j = false) : (List.range n).find? p = none := by
  rw [List.find?_eq_none]
  intro x hx; simp [h x (List.mem_range.1 hx)]

/-- The least x below m with a * x % m = 1. -/
def inv (a : Int) (m : Nat) : Option Nat := (List.range m).find? fun x => decide (a * x % m = 1)
def invOk (a m : Int) : Bool := inB m 2 1000 && inB a 0 (m - 1) && (inv a m.toNat).isSome
def invVal (a m : Int) : Int := if invOk a m then ((inv a m.toNat).getD 0 : Nat) else 0
theorem inv_hit {a : Int} {m k : Nat} (h1 : inB m 2 1000 = true) (h2 : inB a 0 (m - 1) = true) (hk : k < m) (h : ∀ j : Nat, j < k → ¬ a * j % m = 1) (hp : a * k % m = 1) : invOk a m = true ∧ invVal a m = k := by
  have e : inv a m = some k := by
    exact find_range hk (fun j hj => by simpa using h j hj) (by simpa using hp)
  have e1 : invOk a m = true := by simp [invOk, h1, h2, e]
  exact ⟨e1, by simp [invVal, e1, e]⟩
theorem inv_miss {a : Int} {m : Nat} (h : ∀ j : Nat, j < m → ¬ a * j % m = 1) : invOk a m = false ∧ invVal a m = 0 := by
  have e : inv a m = none := by
    exact find_range_none (fun j hj => by simpa using h j hj)
  have e1 : invOk a m = false := by simp [invOk, e]
  exact ⟨e1, by simp [invVal, e1]⟩
theorem ret_ib {x y : Int} {a b : Bool} (h1 : x = y) (h2 : a = b) : Ending.returned (.tuple #[.int .i64 x, .bool a]) = .returned (.tuple #[.int .i64 y, .bool b]) := by rw [h1, h2]
theorem mul_bd {a k m : Int} (h1 : 0 ≤ a) (h2 : a ≤ 999) (h3 : 0 ≤ k) (h4 : k ≤ 999) : 0 ≤ a * k ∧ a * k ≤ 998001 :=
  ⟨Int.mul_nonneg h1 h3, by have := Int.mul_le_mul h2 h4 h3 (by omega); omega⟩

end Go.Proofs.Ytnpkanlieflbiaa
/- The walks: checks, symbols. -/
namespace Go.Proofs.Ytnpkanlieflbiaa
open Go.RowKit
set_option linter.unusedVariables false

def chk (n : Int) (s : ByteArray) (k : Nat) : Int := (List.range k).foldl (fun acc i => (139 * acc + byt s i + 11) % 32749) n
theorem chk_succ (n : Int) (s : ByteArray) (k : Nat) : chk n s (k + 1) = (139 * chk n s k + byt s k + 11) % 32749 := by simp [chk, List.range_succ]
theorem chk_bd {n : Int} (h : 0 ≤ n ∧ n ≤ 32748) (s : ByteArray) (k : Nat) : 0 ≤ chk n s k ∧ chk n s k ≤ 32748 := by
  cases k with
  | zero => simpa [chk] using h
  | succ k => rw [chk_succ]; omega

/-- The symbol of a digit. -/
def symN (n : Nat) : UInt8 := if n < 10 then (48 + n).toUInt8 else (55 + n).toUInt8
theorem symN_toNat {n : Nat} (h : n < 36) : (symN n).toNat = if n < 10 then 48 + n else 55 + n := by
  unfold symN; split <;> simp [Nat.toUInt8, UInt8.toNat_ofNat'] <;> omega
theorem specSymbol (n : Nat) (h : n < 36) (w : World) :
    Calls Try.prog 168 #[.int .i64 n] w fun e w' => e = .returned (.int .u8 (symN n).toNat) ∧ w = w' := by
  have hs := symN_toNat h
  by_cases h1 : n < 10
  · have hs := Lib.hid (show ((symN n).toNat : Int) = 48 + n by rw [if_pos h1] at hs; omega)
    go_enter Try.func168, Try.ntmps168
    go_wp2
    go_ret
    exact ⟨ret_int hs.out.symm, rfl⟩
  · have hs := Lib.hid (show ((symN n).toNat : Int) = 65 + n - 10 by rw [if_neg h1] at hs; omega)
    go_enter Try.func168, Try.ntmps168
    go_wp2
    go_ret
    exact ⟨ret_int hs.out.symm, rfl⟩
theorem symAll : ∀ n : Nat, n < 36 → (({ data := #[48, 49, 50, 51, 52, 53, 54, 55, 56, 57, 65, 66, 67, 68, 69, 70, 71, 72, 73, 74, 75, 76, 77, 78, 79, 80, 81, 82, 83, 84, 85, 86, 87, 88, 89, 90] } : ByteArray).extract n (n + 1)).data.toList = [symN n] := by decide +kernel
theorem ba_ext {a b : ByteArray} (h : a.data.toList = b.data.toList) : a = b := by
  cases a; cases b; simp at h ⊢; exact h
theorem ret_sb {x y : ByteArray} {a b : Bool} (h1 : x = y) (h2 : a = b) : Ending.returned (.tuple #[.string x, .bool a]) = .returned (.tuple #[.string y, .bool b]) := by rw [h1, h2]
end Go.Proofs.Ytnpkanlieflbiaa
/- The walks of the laws of this seat: each returns true. -/
namespace Go.Proofs.Ytnpkanlieflbiaa
open Go.RowKit
set_option linter.unusedVariables false
def gcdOk (a b : Int) : Bool := inB a 0 1000000000000000 && inB b 0 1000000000000000
def gcdVal (a b : Int) : Int := if gcdOk a b then (Nat.gcd a.toNat b.toNat : Nat) else 0
theorem gcd_no {a b : Int} (h : gcdOk a b = false) : gcdVal a b = 0 := by simp [gcdVal, h]
theorem below_drewN (w : World) (n : Nat) : Below w.heap.size w (w.drewN n) := ⟨rfl, rfl, rfl, Nat.le_refl _, fun _ _ => rfl⟩
end Go.Proofs.Ytnpkanlieflbiaa
