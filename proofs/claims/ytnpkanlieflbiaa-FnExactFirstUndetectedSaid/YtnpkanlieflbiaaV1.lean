/- Weightings, plainly: validity, unseen pairs, the sums that can be reached. Nothing here walks. -/
import Derived.Test.YtnpkanlieflbiaaC1
namespace Go.Proofs.Ytnpkanlieflbiaa
open Go.RowKit
set_option linter.unusedVariables false

structure Wgt where
  base : Int
  modulus : Int
  target : Int
  weights : List Int
structure Prm where
  base : Int
  target : Int
  orders : List (List Int)

def manyB (base : Int) (n : Nat) : Bool := inB base 2 36 && (inB n 1 20 && powB base n)
def vW (x : Wgt) : Bool := manyB x.base x.weights.length && (inB x.modulus 2 36 && (inB x.target 0 (x.modulus - 1) && allIn x.weights 0 (x.modulus - 1)))
structure VW (x : Wgt) : Prop where
  base : 2 ≤ x.base ∧ x.base ≤ 36
  modulus : 2 ≤ x.modulus ∧ x.modulus ≤ 36
  target : 0 ≤ x.target ∧ x.target < x.modulus
  len : 1 ≤ x.weights.length ∧ x.weights.length ≤ 20
  pow : x.base ^ x.weights.length ≤ 1000000000000000
  weight : ∀ i, i < x.weights.length → 0 ≤ nth x.weights i ∧ nth x.weights i < x.modulus
theorem vW_iff {x : Wgt} : vW x = true ↔ VW x := by
  constructor
  · intro h
    simp only [vW, manyB, Bool.and_eq_true, inB_true, powB, decide_eq_true_eq] at h
    obtain ⟨⟨h1, h2, h3⟩, h4, h5, h6⟩ := h
    exact ⟨h1, h4, by omega, by omega, h3, fun i hi => by have := allIn_at h6 hi; omega⟩
  · intro h
    simp only [vW, manyB, Bool.and_eq_true, inB_true, powB, decide_eq_true_eq]
    have h3 := h.target
    have h2 := h.len
    exact ⟨⟨h.base, by omega, h.pow⟩, h.modulus, by omega, allIn_iff.2 fun i hi => by have := h.weight i hi; omega⟩

/-! ### Unseen pairs -/
def b2n (b : Bool) : Nat := if b then 1 else 0
def zeroAt (m by_ d : Int) : Bool := decide (by_ * d % m = 0)
/-- Pairs of x, y below n, x not y, told by the difference. -/
def pairsN (m by_ : Int) (n : Nat) : Nat := sumN n fun x => sumN n fun y => b2n (decide (x ≠ y) && zeroAt m by_ ((x : Int) - y))
def diffN (m by_ : Int) (n k : Nat) : Nat := sumN k fun d => if d = 0 then 0 else 2 * (n - d) * b2n (zeroAt m by_ d)
theorem zeroAt_neg (m by_ d : Int) : zeroAt m by_ (-d) = zeroAt m by_ d := by
  unfold zeroAt
  rw [Int.mul_neg]
  congr 1
  rw [eq_iff_iff, ← Int.dvd_iff_emod_eq_zero, ← Int.dvd_iff_emod_eq_zero, Int.dvd_neg]
theorem sumN_rev (n : Nat) (f : Nat → Nat) : sumN n (fun i => f (n - i)) = sumN n fun i => f (i + 1) := by
  induction n generalizing f with
  | zero => rfl
  | succ n ih =>
    rw [sumN_succ (f := fun i => f (i + 1)), sumN_succ, ← ih]
    rw [show n + 1 - n = 1 by omega]
    have e : sumN n (fun i => f (n + 1 - i)) = sumN n fun i => f (n - i + 1) := sumN_congr fun i hi => by rw [show n + 1 - i = n - i + 1 by omega]
    rw [e, ih (fun i => f (i + 1))]
    have h2 : sumN n (fun i => f (i + 1 + 1)) + f 1 = sumN (n + 1) fun i => f (i + 1) := by
      clear e ih
      induction n with
      | zero => simp [sumN]
      | succ n ih2 => rw [sumN_succ, sumN_succ, ← ih2]; omega
    rw [h2, sumN_succ]
    rw [ih f]
theorem pairsN_succ (m by_ : Int) (n : Nat) : pairsN m by_ (n + 1) = pairsN m by_ n + 2 * sumN n fun i => b2n (zeroAt m by_ ((i : Int) + 1)) := by
  unfold pairsN
  rw [sumN_succ]
  have e1 : (sumN n fun x => sumN (n + 1) fun y => b2n (decide (x ≠ y) && zeroAt m by_ ((x : Int) - y))) = (sumN n fun x => sumN n fun y => b2n (decide (x ≠ y) && zeroAt m by_ ((x : Int) - y))) + sumN n fun x => b2n (zeroAt m by_ ((n : Int) - x)) := by
    rw [← sumN_add]
    refine sumN_congr fun x hx => ?_
    rw [sumN_succ]
    congr 1
    have : decide (x ≠ n) = true := by simp; omega
    rw [this, Bool.true_and, show (x : Int) - n = -((n : Int) - x) by omega, zeroAt_neg]
  have e2 : (sumN (n + 1) fun y => b2n (decide (n ≠ y) && zeroAt m by_ ((n : Int) - y))) = sumN n fun y => b2n (zeroAt m by_ ((n : Int) - y)) := by
    rw [sumN_succ]
    have : (decide (n ≠ n)) = false := by simp
    rw [this, Bool.false_and]
    simp only [b2n, Bool.false_eq_true, if_false, Nat.add_zero]
    refine sumN_congr fun y hy => ?_
    have : decide (n ≠ y) = true := by simp; omega
    rw [this, Bool.true_and]
  rw [e1, e2]
  have e3 : (sumN n fun x => b2n (zeroAt m by_ ((n : Int) - x))) = sumN n fun i => b2n (zeroAt m by_ ((i : Int) + 1)) := by
    have := sumN_rev n fun k => b2n (zeroAt m by_ (k : Int))
    rw [show (sumN n fun i => b2n (zeroAt m by_ ((i + 1 : Nat) : Int))) = sumN n fun i => b2n (zeroAt m by_ ((i : Int) + 1)) from rfl] at this
    rw [← this]
    exact sumN_congr fun x hx => by rw [show ((n - x : Nat) : Int) = (n : Int) - x by omega]
  rw [e3]
  omega
theorem diffN_succ (m by_ : Int) (n : Nat) : diffN m by_ (n + 1) (n + 1) = diffN m by_ n n + 2 * sumN n fun i => b2n (zeroAt m by_ ((i : Int) + 1)) := by
  have h : ∀ k, k ≤ n → diffN m by_ (n + 1) (k + 1) = diffN m by_ n (k + 1) + 2 * sumN k fun i => b2n (zeroAt m by_ ((i : Int) + 1)) := by
    intro k
    induction k with
    | zero => intro _; simp [diffN, sumN]
    | succ k ih =>
      intro hk
      have ih := ih (by omega)
      unfold diffN at ih ⊢
      rw [sumN_succ, ih, sumN_succ (n := k + 1), sumN_succ (n := k) (f := fun i => b2n (zeroAt m by_ ((i : Int) + 1)))]
      rw [if_neg (by omega), if_neg (by omega)]
      rw [show n + 1 - (k + 1) = (n - (k + 1)) + 1 by omega, show ((k + 1 : Nat) : Int) = (k : Int) + 1 by omega, Nat.mul_add, Nat.add_mul]
      omega
  have h1 := h n (Nat.le_refl _)
  rw [h1]
  congr 1
  unfold diffN
  rw [sumN_succ]
  by_cases e : n = 0
  · rw [if_pos e]; omega
  · rw [if_neg e, Nat.sub_self]; simp
theorem pairs_diff (m by_ : Int) (n : Nat) : pairsN m by_ n = diffN m by_ n n := by
  induction n with
  | zero => rfl
  | succ n ih => rw [pairsN_succ, diffN_succ, ih]

def byW (kind a b : Int) : Int := if kind = 0 then a else if kind = 1 ∨ kind = 2 then a - b else a + b
def phonN (m a b : Int) (k : Nat) : Nat := sumN k fun i => if (a * (i + 2) - a - b * (i + 2)) % m = 0 then 2 else 0
/-- How many pairs are unseen at a place. -/
def unsN (x : Wgt) (kind : Int) (place : Nat) : Nat :=
  if kind = 5 then phonN x.modulus (nth x.weights place) (nth x.weights (place + 1)) 8
  else diffN x.modulus (byW kind (nth x.weights place) (nth x.weights (place + errLen kind - 1))) x.base.toNat x.base.toNat

/-! ### The sums that can be reached -/
/-- Which sums the places before k, but for one, lead to. -/
def reachB (x : Wgt) (place : Nat) : Nat → Nat → Bool
  | 0, s => decide (s = 0)
  | k + 1, s => if k = place then reachB x place k s
    else (List.range x.modulus.toNat).any fun r => reachB x place k r && (List.range x.base.toNat).any fun d => decide (((r : Int) + nth x.weights k * d) % x.modulus = s)
def hitsN (x : Wgt) (place : Nat) (s : Int) (k : Nat) : Nat := sumN k fun d => if (s + nth x.weights place * d) % x.modulus = x.target then 1 else 0
/-- Whether a place is one for a check symbol. -/
def chkPl (x : Wgt) (place : Nat) : Bool := allB x.modulus.toNat fun s => !reachB x place x.weights.length s || decide (hitsN x place s x.base.toNat = 1)
def isCP (x : Wgt) (place : Int) : Bool := vW x && (inB place 0 ((x.weights.length : Int) - 1) && chkPl x place.toNat)

/-! ### Numbers put in order -/
def putS (n : Int) (st : Bool × List Int) (x : Int) : Bool × List Int :=
  if st.1 = false ∧ n ≤ x then (true, (if n < x then st.2 ++ [n] else st.2) ++ [x]) else (st.1, st.2 ++ [x])
def putTo (xs : List Int) (n : Int) (k : Nat) : Bool × List Int := (xs.take k).foldl (putS n) (false, [])
def putL (xs : List Int) (n : Int) : List Int := if (putTo xs n xs.length).1 then (putTo xs n xs.length).2 else (putTo xs n xs.length).2 ++ [n]
theorem putTo_zero (xs : List Int) (n : Int) : putTo xs n 0 = (false, []) := rfl
theorem putTo_succ {xs : List Int} {n : Int} {k : Nat} (h : k < xs.length) : putTo xs n (k + 1) = putS n (putTo xs n k) (nth xs k) := by
  unfold putTo; rw [take_nth h, List.foldl_append]; rfl
theorem putTo_len {xs : List Int} {n : Int} {k : Nat} (h : k ≤ xs.length) : (putTo xs n k).2.length ≤ k + 1 ∧ ((putTo xs n k).1 = false → (putTo xs n k).2.length = k) := by
  induction k with
  | zero => simp [putTo]
  | succ k ih =>
    have ih := ih (by omega)
    rw [putTo_succ (by omega), putS]
    by_cases h1 : (putTo xs n k).1 = false ∧ n ≤ nth xs k
    · rw [if_pos h1]
      have := ih.2 h1.1
      split <;> simp <;> omega
    · rw [if_neg h1]
      simp only [List.length_append, List.length_singleton]
      exact ⟨by omega, fun h2 => by have := ih.2 h2; omega⟩
theorem putTo_mem {xs : List Int} {n : Int} {k : Nat} (h : k ≤ xs.length) (z : Int) : z ∈ (putTo xs n k).2 ↔ z ∈ xs.take k ∨ ((putTo xs n k).1 = true ∧ z = n) := by
  induction k with
  | zero => simp [putTo]
  | succ k ih =>
    have ih := ih (by omega)
    rw [putTo_succ (by omega), putS, take_nth (by omega)]
    by_cases h1 : (putTo xs n k).1 = false ∧ n ≤ nth xs k
    · rw [if_pos h1]
      rw [h1.1] at ih
      simp only [List.mem_append, List.mem_singleton, true_and, Bool.false_eq_true, false_and, or_false] at ih ⊢
      by_cases h2 : n < nth xs k
      · rw [if_pos h2]
        simp only [List.mem_append, List.mem_singleton, ih]
        constructor <;> (intro h; rcases h with (h | h) | h <;> simp [h])
      · rw [if_neg h2, ih]
        have e : nth xs k = n := by omega
        rw [e]
        constructor
        · intro h; exact .inl h
        · rintro (h | h)
          · exact h
          · exact .inr h
    · rw [if_neg h1]
      simp only [List.mem_append, List.mem_singleton, ih]
      constructor <;> (intro h; rcases h with (h | h) | h <;> simp [h])
theorem putL_mem (xs : List Int) (n z : Int) : z ∈ putL xs n ↔ z ∈ xs ∨ z = n := by
  have h := putTo_mem (xs := xs) (n := n) (Nat.le_refl xs.length) z
  rw [List.take_length] at h
  unfold putL
  cases hd : (putTo xs n xs.length).1
  · rw [hd] at h
    simp only [Bool.false_eq_true, false_and, or_false] at h
    simp [h]
  · rw [hd] at h
    simp only [true_and] at h
    simpa using h
theorem putTo_up {xs : List Int} {n : Int} (hs : xs.Pairwise (· < ·)) {k : Nat} (h : k ≤ xs.length) :
    (putTo xs n k).2.Pairwise (· < ·) ∧ ((putTo xs n k).1 = false → ∀ z ∈ (putTo xs n k).2, z < n) ∧ ∀ z ∈ (putTo xs n k).2, ∀ j, k ≤ j → j < xs.length → z < nth xs j ∨ ((putTo xs n k).1 = true ∧ z = n ∧ n < nth xs j) := by
  have hlt : ∀ i j, i < j → j < xs.length → nth xs i < nth xs j := fun i j hij hj => by
    rw [nth_eq (by omega), nth_eq hj]; exact List.pairwise_iff_getElem.1 hs i j (by omega) hj hij
  induction k with
  | zero => simp [putTo]
  | succ k ih =>
    obtain ⟨i1, i2, i3⟩ := ih (by omega)
    rw [putTo_succ (by omega), putS]
    by_cases h1 : (putTo xs n k).1 = false ∧ n ≤ nth xs k
    · rw [if_pos h1]
      have i2 := i2 h1.1
      have i3' : ∀ z ∈ (putTo xs n k).2, ∀ j, k ≤ j → j < xs.length → z < nth xs j := fun z hz j hj hj2 => by
        rcases i3 z hz j hj hj2 with h | h
        · exact h
        · rw [h1.1] at h; exact absurd h.1 (by simp)
      by_cases h2 : n < nth xs k
      · rw [if_pos h2]
        refine ⟨?_, by simp, ?_⟩
        · rw [List.pairwise_append, List.pairwise_append]
          refine ⟨⟨i1, by simp, fun a ha b hb => ?_⟩, by simp, fun a ha b hb => ?_⟩
          · simp at hb; subst hb; exact i2 a ha
          · simp at hb; subst hb
            rcases List.mem_append.1 ha with h | h
            · exact i3' a h k (Nat.le_refl _) (by omega)
            · simp at h; omega
        · intro z hz j hj hj2
          have := hlt k j (by omega) hj2
          rcases List.mem_append.1 hz with h | h
          · rcases List.mem_append.1 h with h | h
            · exact .inl (i3' z h j (by omega) hj2)
            · simp at h; subst h; exact .inl (by omega)
          · simp at h; subst h; exact .inl this
      · rw [if_neg h2]
        have e : nth xs k = n := by omega
        refine ⟨?_, by simp, ?_⟩
        · rw [List.pairwise_append]
          refine ⟨i1, by simp, fun a ha b hb => ?_⟩
          simp at hb; subst hb
          exact i3' a ha k (Nat.le_refl _) (by omega)
        · intro z hz j hj hj2
          have := hlt k j (by omega) hj2
          rcases List.mem_append.1 hz with h | h
          · exact .inl (i3' z h j (by omega) hj2)
          · simp at h; subst h; exact .inl this
    · rw [if_neg h1]
      have hk2 : ∀ z ∈ (putTo xs n k).2, z < nth xs k := fun z hz => by
        rcases i3 z hz k (Nat.le_refl _) (by omega) with h | h
        · exact h
        · omega
      refine ⟨?_, ?_, ?_⟩
      · rw [List.pairwise_append]
        refine ⟨i1, by simp, fun a ha b hb => ?_⟩
        simp at hb; subst hb; exact hk2 a ha
      · intro hd z hz
        have : nth xs k < n := by
          rcases Int.lt_or_le (nth xs k) n with h | h
          · exact h
          · exact absurd ⟨hd, h⟩ h1
        rcases List.mem_append.1 hz with h | h
        · exact i2 hd z h
        · simp at h; subst h; exact this
      · intro z hz j hj hj2
        have := hlt k j (by omega) hj2
        rcases List.mem_append.1 hz with h | h
        · exact i3 z h j (by omega) hj2
        · simp at h; subst h; exact .inl this
theorem putL_up {xs : List Int} (n : Int) (hs : xs.Pairwise (· < ·)) : (putL xs n).Pairwise (· < ·) := by
  obtain ⟨h1, h2, _⟩ := putTo_up (n := n) hs (Nat.le_refl _)
  unfold putL
  cases hd : (putTo xs n xs.length).1
  · simp only [Bool.false_eq_true, if_false]
    rw [List.pairwise_append]
    refine ⟨h1, by simp, fun a ha b hb => ?_⟩
    simp at hb; subst hb; exact h2 hd a ha
  · simpa using h1
/-- Rising numbers from 0 on and below n are at most n. -/
theorem up_len {xs : List Int} (hs : xs.Pairwise (· < ·)) {n : Nat} (hb : ∀ z ∈ xs, 0 ≤ z ∧ z < n) : xs.length ≤ n := by
  have h : ∀ k, k < xs.length → (k : Int) ≤ nth xs k := by
    intro k
    induction k with
    | zero => intro hk; exact (hb _ (nth_mem hk)).1
    | succ k ih =>
      intro hk
      have h1 := ih (by omega)
      have h2 : nth xs k < nth xs (k + 1) := by
        rw [nth_eq (by omega), nth_eq hk]; exact List.pairwise_iff_getElem.1 hs k (k + 1) (by omega) hk (by omega)
      omega
  rcases Nat.eq_zero_or_pos xs.length with h0 | h0
  · omega
  · have h1 := h (xs.length - 1) (by omega)
    have h2 := (hb _ (nth_mem (show xs.length - 1 < xs.length by omega))).2
    omega
end Go.Proofs.Ytnpkanlieflbiaa
