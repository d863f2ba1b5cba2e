/- Quasigroups: SwapClashes, ChainClashes, IsTotally. -/
import Derived.Test.YthomdggbmjknnaaQ2
namespace Go.Proofs.Ythomdggbmjknnaa
open Go.RowKit
set_option linter.unusedVariables false

/-! ### Counts -/
/-- How many of the numbers below n have p. -/
def cntB (n : Nat) (p : Nat → Bool) : Nat := (List.range n).countP p
theorem cntB_zero (p : Nat → Bool) : cntB 0 p = 0 := rfl
theorem cntB_succ (n : Nat) (p : Nat → Bool) : cntB (n + 1) p = cntB n p + if p n then 1 else 0 := by
  unfold cntB
  rw [List.range_succ, List.countP_append]
  simp [List.countP_cons]
theorem cntB_le (n : Nat) (p : Nat → Bool) : cntB n p ≤ n := by
  unfold cntB; have := List.countP_le_length (p := p) (l := List.range n); simpa using this
def sumB (n : Nat) (f : Nat → Nat) : Nat := ((List.range n).map f).sum
theorem sumB_zero (f : Nat → Nat) : sumB 0 f = 0 := rfl
theorem sumB_succ (n : Nat) (f : Nat → Nat) : sumB (n + 1) f = sumB n f + f n := by simp [sumB, List.range_succ]
theorem sumB_congr {n : Nat} {f g : Nat → Nat} (h : ∀ i, i < n → f i = g i) : sumB n f = sumB n g := by
  induction n with
  | zero => rfl
  | succ n ih => rw [sumB_succ, sumB_succ, ih (fun i hi => h i (by omega)), h n (by omega)]
theorem sumB_add (n : Nat) (f g : Nat → Nat) : sumB n (fun i => f i + g i) = sumB n f + sumB n g := by
  induction n with
  | zero => rfl
  | succ n ih => rw [sumB_succ, sumB_succ, sumB_succ, ih]; omega
theorem sumB_le {n m : Nat} {f : Nat → Nat} (h : ∀ i, i < n → f i ≤ m) : sumB n f ≤ n * m := by
  induction n with
  | zero => simp [sumB]
  | succ n ih => rw [sumB_succ, Nat.succ_mul]; have := ih (fun i hi => h i (by omega)); have := h n (by omega); omega
theorem sumB_zero_of {n : Nat} {f : Nat → Nat} (h : ∀ i, i < n → f i = 0) : sumB n f = 0 := by
  induction n with
  | zero => rfl
  | succ n ih => rw [sumB_succ, ih (fun i hi => h i (by omega)), h n (by omega)]
/-- The pairs below n, told by the greater or the lesser first, are as many. -/
theorem pairs_swap (n : Nat) (p : Nat → Nat → Bool) : sumB n (fun x => cntB x fun y => p y x) = sumB n (fun x => cntB (n - (x + 1)) fun j => p x (x + 1 + j)) := by
  induction n with
  | zero => rfl
  | succ n ih =>
    rw [sumB_succ, ih, sumB_succ, show n + 1 - (n + 1) = 0 by omega, cntB_zero, Nat.add_zero]
    have e : sumB n (fun x => cntB (n + 1 - (x + 1)) fun j => p x (x + 1 + j)) = sumB n (fun x => (cntB (n - (x + 1)) fun j => p x (x + 1 + j)) + if p x n then 1 else 0) := by
      apply sumB_congr
      intro i hi
      rw [show n + 1 - (i + 1) = (n - (i + 1)) + 1 by omega, cntB_succ, show i + 1 + (n - (i + 1)) = n by omega]
    rw [e, sumB_add]
    congr 1
    have e2 : ∀ m, cntB m (fun y => p y n) = sumB m (fun x => if p x n then 1 else 0) := by
      intro m
      induction m with
      | zero => rfl
      | succ m ihm => rw [cntB_succ, sumB_succ, ihm]
    exact e2 n

/-- Whether x and y commute; whether their swap behind c has no effect. -/
def swapQ (t : List (List Int)) (x y : Nat) : Bool := nth (nth t x) y == nth (nth t y) x
def chainQ (t : List (List Int)) (c x y : Nat) : Bool := nth (nth t (nth (nth t c) x).toNat) y == nth (nth t (nth (nth t c) y).toNat) x
theorem swapQ_comm (t : List (List Int)) (x y : Nat) : swapQ t x y = swapQ t y x := by unfold swapQ; rw [Bool.eq_iff_iff]; simp only [beq_iff_eq]; exact eq_comm
theorem chainQ_comm (t : List (List Int)) (c x y : Nat) : chainQ t c x y = chainQ t c y x := by unfold chainQ; rw [Bool.eq_iff_iff]; simp only [beq_iff_eq]; exact eq_comm
def swapN (t : List (List Int)) : Nat := sumB t.length fun x => cntB x fun y => swapQ t x y
def chainN (t : List (List Int)) : Nat := sumB t.length fun c => sumB t.length fun x => cntB x fun y => chainQ t c x y
def swapN' (t : List (List Int)) : Nat := sumB t.length fun x => cntB (t.length - (x + 1)) fun j => swapQ t x (x + 1 + j)
def chainN' (t : List (List Int)) : Nat := sumB t.length fun c => sumB t.length fun x => cntB (t.length - (x + 1)) fun j => chainQ t c x (x + 1 + j)
theorem swapN_eq (t : List (List Int)) : swapN' t = swapN t := by
  unfold swapN swapN'
  rw [← pairs_swap t.length (fun x y => swapQ t x y)]
  exact sumB_congr fun x _ => congrArg (cntB x) (funext fun y => swapQ_comm t y x)
theorem chainN_eq (t : List (List Int)) : chainN' t = chainN t := by
  unfold chainN chainN'
  refine sumB_congr fun c _ => ?_
  rw [← pairs_swap t.length (fun x y => chainQ t c x y)]
  exact sumB_congr fun x _ => congrArg (cntB x) (funext fun y => chainQ_comm t c y x)
def swapV (t : List (List Int)) : Int := if isQ t then (swapN t : Int) else 0
def chainV (t : List (List Int)) : Int := if isQ t then (chainN t : Int) else 0
theorem swapV_no {t : List (List Int)} (h : isQ t = false) : swapV t = 0 := by simp [swapV, h]
theorem swapV_yes {t : List (List Int)} (h : isQ t = true) : swapV t = swapN t := by simp [swapV, h]
theorem chainV_no {t : List (List Int)} (h : isQ t = false) : chainV t = 0 := by simp [chainV, h]
theorem chainV_yes {t : List (List Int)} (h : isQ t = true) : chainV t = chainN t := by simp [chainV, h]
end Go.Proofs.Ythomdggbmjknnaa
