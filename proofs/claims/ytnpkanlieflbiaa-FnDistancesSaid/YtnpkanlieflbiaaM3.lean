/- Words and their digits, plainly: there and back. Nothing here walks. -/
import Derived.Test.YtnpkanlieflbiaaW1
namespace Go.Proofs.Ytnpkanlieflbiaa
open Go.RowKit
set_option linter.unusedVariables false

theorem wordS_size (xs : List Int) : (wordS xs).size = xs.length := by simp [wordS, ByteArray.size, syms]
theorem wordS_byt {xs : List Int} {i : Nat} (h : i < xs.length) : byt (wordS xs) i = ((symN (nth xs i).toNat).toNat : Int) := by
  have hs : i < (wordS xs).size := by rw [wordS_size]; exact h
  rw [← byt_eq hs]
  have e : (wordS xs)[i]'hs = symN (nth xs i).toNat := by
    show (syms xs).toArray[i]'_ = _
    rw [nth_eq h]
    simp [syms]
  rw [e]
theorem dig_sym {n : Nat} (h : n < 36) : dig ((symN n).toNat : Int) = n := by
  rw [symN_toNat h]
  unfold dig
  split <;> split <;> (try split) <;> omega
theorem dig_wordS {xs : List Int} (hx : ∀ i, i < xs.length → 0 ≤ nth xs i ∧ nth xs i < 36) {i : Nat} (h : i < xs.length) : dig (byt (wordS xs) i) = nth xs i := by
  rw [wordS_byt h, dig_sym (by have := hx i h; omega)]
  have := hx i h
  omega
theorem isWord_wordS {xs : List Int} {base : Int} (hb : 2 ≤ base ∧ base ≤ 36) (hl : xs.length ≤ 20) (hx : ∀ i, i < xs.length → 0 ≤ nth xs i ∧ nth xs i < base) : isWord (wordS xs) base = true := by
  unfold isWord
  rw [show inB base 2 36 = true from inB_true.2 hb, wordS_size]
  have : digOk (wordS xs) base xs.length = true := by
    unfold digOk
    rw [List.all_eq_true]
    intro i hi
    have hi := List.mem_range.1 hi
    rw [dig_wordS (fun i hi => by have := hx i hi; omega) hi]
    exact inB_true.2 (by have := hx i hi; omega)
  rw [this]
  simp [hl]
theorem digitsOf_wordS {xs : List Int} {base : Int} (hb : 2 ≤ base ∧ base ≤ 36) (hl : xs.length ≤ 20) (hx : ∀ i, i < xs.length → 0 ≤ nth xs i ∧ nth xs i < base) : digitsOf (wordS xs) base = xs := by
  unfold digitsOf
  rw [if_pos (isWord_wordS hb hl hx)]
  refine ext_nth (by simp [digitsL, wordS_size]) fun i hi => ?_
  have hi : i < xs.length := by simpa [digitsL, wordS_size] using hi
  unfold digitsL
  rw [nth_eq (by simp [wordS_size]; exact hi)]
  simp only [List.getElem_map, List.getElem_range]
  exact dig_wordS (fun i hi => by have := hx i hi; omega) hi
theorem isDigits_yes {xs : List Int} {base : Int} (hb : 2 ≤ base ∧ base ≤ 36) (hl : xs.length ≤ 20) (hx : ∀ i, i < xs.length → 0 ≤ nth xs i ∧ nth xs i < base) : isDigits xs base = true := by
  unfold isDigits
  rw [show inB base 2 36 = true from inB_true.2 hb, allIn_yes fun i hi => inB_true.2 (by have := hx i hi; omega)]
  simp [hl]
/-- The remainder of digits, symbol by symbol. -/
def wfold (xs : List Int) (base m : Int) (k : Nat) : Int := (List.range k).foldl (fun acc i => (acc * base + nth xs i) % m) 0
theorem wfold_succ (xs : List Int) (base m : Int) (k : Nat) : wfold xs base m (k + 1) = (wfold xs base m k * base + nth xs k) % m := by simp [wfold, List.range_succ]
theorem wfold_bd (xs : List Int) (base : Int) {m : Int} (hm : 1 ≤ m) (k : Nat) : 0 ≤ wfold xs base m k ∧ wfold xs base m k < m := by
  cases k with
  | zero => simp [wfold]; omega
  | succ k => rw [wfold_succ]; exact ⟨Int.emod_nonneg _ (by omega), Int.emod_lt_of_pos _ (by omega)⟩
theorem wrem_wordS {xs : List Int} (hx : ∀ i, i < xs.length → 0 ≤ nth xs i ∧ nth xs i < 36) (base m : Int) : wrem (wordS xs) base m (wordS xs).size = wfold xs base m xs.length := by
  rw [wordS_size]
  have h : ∀ k, k ≤ xs.length → wrem (wordS xs) base m k = wfold xs base m k := by
    intro k
    induction k with
    | zero => intro _; rfl
    | succ k ih =>
      intro hk
      rw [wfold_succ, ← ih (by omega), ← dig_wordS hx (show k < xs.length by omega)]
      simp [wrem, List.range_succ]
  exact h _ (Nat.le_refl _)
end Go.Proofs.Ytnpkanlieflbiaa
