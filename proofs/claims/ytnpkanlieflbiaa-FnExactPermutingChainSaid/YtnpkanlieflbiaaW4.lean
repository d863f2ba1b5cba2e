/- Words from digits, remainders of words: the functions that the laws call. -/
import Derived.Test.YtnpkanlieflbiaaW3
namespace Go.Proofs.Ytnpkanlieflbiaa
open Go.RowKit
set_option linter.unusedVariables false

theorem slContainsFunc {P : Nat → Prop} {v : Value} {xs : List Int} {w : World} (h : RdI P w v xs) (g : Nat) (cap : Array Value) (p : Int → Bool)
    (hp : ∀ x, x ∈ xs → Calls Try.prog g (#[.int .i64 x] ++ cap) w fun e w' => e = .returned (.bool (p x)) ∧ w = w')
    (hg : ∀ (args : Array Value) (w : World), (callFunc g args).run Try.prog w = .ok (.enter g args) w) (b : Bool) (hb : xs.any p = b) :
    Calls Try.prog 119 #[v, .func (.func g) #[] cap] w fun e w' => e = .returned (.bool b) ∧ w = w' := by
  have hr := Lib.hid ((firstIdx_any xs p).trans hb)
  go_enter Try.func119, Try.ntmps119
  go_wp2_with (go_at_call 162; refine (slIndexFunc h g cap p hp hg).mono ?_; rintro e w' ⟨rfl, rfl⟩)
  go_ret
  exact ⟨ret_bool hr.out, rfl⟩

def isDigits (xs : List Int) (base : Int) : Bool := inB base 2 36 && decide (xs.length ≤ 20) && allIn xs 0 (base - 1)
theorem isDigits_base {xs : List Int} {base : Int} (h : inB base 2 36 = false) : isDigits xs base = false := by simp [isDigits, h]
theorem isDigits_len {xs : List Int} {base : Int} (h : ¬ xs.length ≤ 20) : isDigits xs base = false := by simp [isDigits, h]
theorem isDigits_all {xs : List Int} {base : Int} {b : Bool} (h1 : inB base 2 36 = true) (h2 : xs.length ≤ 20) (h : allIn xs 0 (base - 1) = b) : isDigits xs base = b := by simp [isDigits, h1, h2, h]
def wordOfV (xs : List Int) (base : Int) : ByteArray := if isDigits xs base then wordS xs else ⟨#[]⟩
theorem wordOfV_no {xs : List Int} {base : Int} (h : isDigits xs base = false) : wordOfV xs base = ⟨#[]⟩ := by simp [wordOfV, h]
theorem wordOfV_yes {xs : List Int} {base : Int} (h : isDigits xs base = true) : wordOfV xs base = wordS xs := by simp [wordOfV, h]

theorem any_allIn (xs : List Int) (lo hi : Int) : (xs.any fun d => !inB d lo hi) = !allIn xs lo hi := by
  simp [allIn, List.any_eq_not_all_not]

/-- The remainder of the number of a word's first k digits. -/
def wrem (s : ByteArray) (base m : Int) (k : Nat) : Int := (List.range k).foldl (fun acc i => (acc * base + dig (byt s i)) % m) 0
theorem wrem_succ (s : ByteArray) (base m : Int) (k : Nat) : wrem s base m (k + 1) = (wrem s base m k * base + dig (byt s k)) % m := by simp [wrem, List.range_succ]
theorem wrem_bd {s : ByteArray} {base m : Int} (hm : 1 ≤ m) (hm2 : m ≤ 1000) (k : Nat) : 0 ≤ wrem s base m k ∧ wrem s base m k ≤ 999 := by
  cases k with
  | zero => simp [wrem]
  | succ k => rw [wrem_succ]; have h1 := Int.emod_nonneg (wrem s base m k * base + dig (byt s k)) (show m ≠ 0 by omega); have h2 := Int.emod_lt_of_pos (wrem s base m k * base + dig (byt s k)) (show 0 < m by omega); omega
def isRem (s : ByteArray) (base m : Int) : Bool := isWord s base && inB m 1 1000
def remV (s : ByteArray) (base m : Int) : Int := if isRem s base m then wrem s base m s.size else 0
theorem isRem_word {s : ByteArray} {base m : Int} (h : isWord s base = false) : isRem s base m = false ∧ remV s base m = 0 := by
  have : isRem s base m = false := by simp [isRem, h]
  exact ⟨this, by simp [remV, this]⟩
theorem isRem_mod {s : ByteArray} {base m : Int} (h : inB m 1 1000 = false) : isRem s base m = false ∧ remV s base m = 0 := by
  have : isRem s base m = false := by simp [isRem, h]
  exact ⟨this, by simp [remV, this]⟩
theorem isRem_yes {s : ByteArray} {base m : Int} (h1 : isWord s base = true) (h2 : inB m 1 1000 = true) : isRem s base m = true ∧ remV s base m = wrem s base m s.size := by
  have : isRem s base m = true := by simp [isRem, h1, h2]
  exact ⟨this, by simp [remV, this]⟩
theorem mul_bd2 {a k x y : Int} (h1 : 0 ≤ a) (h2 : a ≤ x) (h3 : 0 ≤ k) (h4 : k ≤ y) : 0 ≤ a * k ∧ a * k ≤ x * y :=
  ⟨Int.mul_nonneg h1 h3, Int.mul_le_mul h2 h4 h3 (by omega)⟩

end Go.Proofs.Ytnpkanlieflbiaa
