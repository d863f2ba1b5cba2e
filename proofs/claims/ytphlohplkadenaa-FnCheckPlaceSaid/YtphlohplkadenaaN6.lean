/- Check places, plainly: the words of a weighting, by number. Nothing here walks. -/
import Derived.Test.YtphlohplkadenaaV1
namespace Go.Proofs.Ytphlohplkadenaa
open Go.RowKit
set_option linter.unusedVariables false

/-- The sum of word number X (its digits at all places but p), and what is left of the number. -/
def stS (x : Wgt) (p X : Nat) : Nat → Int × Nat
  | 0 => (0, X)
  | k + 1 => if k = p then stS x p X k else ((stS x p X k).1 + nth x.weights k * (((stS x p X k).2 % x.base.toNat : Nat) : Int), (stS x p X k).2 / x.base.toNat)
theorem stS_hit {x : Wgt} {p X k : Nat} (h : k = p) : stS x p X (k + 1) = stS x p X k := by rw [stS, if_pos h]
theorem stS_step {x : Wgt} {p X k : Nat} (h : k ≠ p) : stS x p X (k + 1) = ((stS x p X k).1 + nth x.weights k * (((stS x p X k).2 % x.base.toNat : Nat) : Int), (stS x p X k).2 / x.base.toNat) := by rw [stS, if_neg h]
def cnP (p k : Nat) : Nat := if p < k then k - 1 else k
theorem cnP_zero (p : Nat) : cnP p 0 = 0 := by simp [cnP]
theorem cnP_hit {p k : Nat} (h : k = p) : cnP p (k + 1) = cnP p k := by
  subst h; simp [cnP]
theorem cnP_step {p k : Nat} (h : k ≠ p) : cnP p (k + 1) = cnP p k + 1 := by
  unfold cnP
  by_cases h1 : p < k
  · rw [if_pos (by omega), if_pos h1]; omega
  · rw [if_neg (by omega), if_neg h1]
theorem st_rest (x : Wgt) (p X : Nat) : ∀ k, (stS x p X k).2 = X / x.base.toNat ^ cnP p k
  | 0 => by simp [stS, cnP_zero]
  | k + 1 => by
    by_cases h : k = p
    · rw [stS_hit h, cnP_hit h, st_rest x p X k]
    · rw [stS_step h, cnP_step h]
      show (stS x p X k).2 / _ = _
      rw [st_rest x p X k, Nat.pow_succ, Nat.div_div_eq_div_mul]
theorem st_sum (x : Wgt) (p : Nat) : ∀ (k c X : Nat), cnP p k ≤ c → (stS x p (X % x.base.toNat ^ c) k).1 = (stS x p X k).1
  | 0, _, _, _ => rfl
  | k + 1, c, X, hc => by
    by_cases h : k = p
    · rw [cnP_hit h] at hc
      rw [stS_hit h, stS_hit h, st_sum x p k c X hc]
    · rw [cnP_step h] at hc
      rw [stS_step h, stS_step h]
      show (stS x p _ k).1 + _ = (stS x p X k).1 + _
      rw [st_sum x p k c X (by omega), st_rest, st_rest]
      congr 3
      obtain ⟨d, rfl⟩ : ∃ d, c = cnP p k + 1 + d := ⟨c - (cnP p k + 1), by omega⟩
      generalize cnP p k = q
      generalize x.base.toNat = b
      rw [show b ^ (q + 1 + d) = b ^ q * b ^ (d + 1) by rw [← Nat.pow_add]; congr 1; omega, Nat.mod_mul_right_div_self]
      rw [Nat.pow_succ, Nat.mul_comm, Nat.mod_mul_right_mod]
theorem reach_iff {x : Wgt} (hb : 1 ≤ x.base) (hm : 1 ≤ x.modulus) (p : Nat) : ∀ (k s : Nat), reachB x p k s = true ↔ ∃ X, X < x.base.toNat ^ cnP p k ∧ (stS x p X k).1 % x.modulus = (s : Int)
  | 0, s => by
    show decide (s = 0) = true ↔ _
    rw [decide_eq_true_eq, cnP_zero]
    constructor
    · rintro rfl; exact ⟨0, by simp, by simp [stS]⟩
    · rintro ⟨X, _, h⟩; simp [stS] at h; omega
  | k + 1, s => by
    by_cases h : k = p
    · show (if k = p then _ else _) = true ↔ _
      rw [if_pos h, cnP_hit h, reach_iff hb hm p k s]
      simp only [stS_hit h]
    · show (if k = p then _ else _) = true ↔ _
      rw [if_neg h, cnP_step h]
      simp only [List.any_eq_true, List.mem_range, Bool.and_eq_true, decide_eq_true_eq]
      constructor
      · rintro ⟨r, hr, h1, d, hd, h2⟩
        obtain ⟨X, hX, h3⟩ := (reach_iff hb hm p k r).1 h1
        refine ⟨X + d * x.base.toNat ^ cnP p k, ?_, ?_⟩
        · have h4 : (d + 1) * x.base.toNat ^ cnP p k ≤ x.base.toNat * x.base.toNat ^ cnP p k := Nat.mul_le_mul_right _ hd
          rw [Nat.pow_succ, Nat.mul_comm (x.base.toNat ^ cnP p k)]
          rw [Nat.add_mul, Nat.one_mul] at h4
          omega
        · rw [stS_step h]
          show ((stS x p _ k).1 + _) % _ = _
          have hp : 0 < x.base.toNat ^ cnP p k := Nat.pos_of_ne_zero fun e => by rw [e] at hX; omega
          rw [st_rest, Nat.add_mul_div_right _ _ hp, Nat.div_eq_of_lt hX, Nat.zero_add, Nat.mod_eq_of_lt hd, ← st_sum x p k (cnP p k) (X + d * x.base.toNat ^ cnP p k) (Nat.le_refl _), Nat.add_mul_mod_self_right, Nat.mod_eq_of_lt hX]
          rw [← Int.emod_add_emod, h3]; exact h2
      · rintro ⟨X, hX, h1⟩
        rw [stS_step h] at h1
        have h0 := Int.emod_nonneg (stS x p X k).1 (show x.modulus ≠ 0 by omega)
        have h4 := Int.emod_lt_of_pos (stS x p X k).1 (show 0 < x.modulus by omega)
        have hp : 0 < x.base.toNat ^ cnP p k := Nat.pow_pos (by omega)
        refine ⟨((stS x p X k).1 % x.modulus).toNat, by omega, (reach_iff hb hm p k _).2 ⟨X % x.base.toNat ^ cnP p k, Nat.mod_lt _ hp, ?_⟩, (stS x p X k).2 % x.base.toNat, Nat.mod_lt _ (by omega), ?_⟩
        · rw [st_sum x p k _ X (Nat.le_refl _)]; omega
        · rw [show ((((stS x p X k).1 % x.modulus).toNat : Nat) : Int) = (stS x p X k).1 % x.modulus by omega, Int.emod_add_emod]; exact h1
theorem hitsN_mod (x : Wgt) (p : Nat) (s : Int) (k : Nat) : hitsN x p (s % x.modulus) k = hitsN x p s k := by
  unfold hitsN
  exact sumN_congr fun d _ => by rw [Int.emod_add_emod]
/-- A place is one for a check symbol exactly if each word's sum is made by one symbol. -/
theorem chkPl_words {x : Wgt} (hb : 1 ≤ x.base) (hm : 1 ≤ x.modulus) {p : Nat} (hp : p < x.weights.length) :
    chkPl x p = allB (x.base.toNat ^ (x.weights.length - 1)) fun X => decide (hitsN x p (stS x p X x.weights.length).1 x.base.toNat = 1) := by
  have hc : cnP p x.weights.length = x.weights.length - 1 := by simp [cnP, hp]
  rw [Bool.eq_iff_iff]
  unfold chkPl
  rw [allB_iff, allB_iff]
  constructor
  · intro h X hX
    have h0 := Int.emod_nonneg (stS x p X x.weights.length).1 (show x.modulus ≠ 0 by omega)
    have h4 := Int.emod_lt_of_pos (stS x p X x.weights.length).1 (show 0 < x.modulus by omega)
    have h1 := h ((stS x p X x.weights.length).1 % x.modulus).toNat (by omega)
    have e : ((((stS x p X x.weights.length).1 % x.modulus).toNat : Nat) : Int) = (stS x p X x.weights.length).1 % x.modulus := by omega
    rw [(reach_iff hb hm p x.weights.length _).2 ⟨X, by rw [hc]; exact hX, by omega⟩, e, hitsN_mod] at h1
    simpa using h1
  · intro h s hs
    cases hr : reachB x p x.weights.length s
    · rfl
    · obtain ⟨X, hX, h1⟩ := (reach_iff hb hm p x.weights.length s).1 hr
      rw [hc] at hX
      have h2 := h X hX
      rw [← hitsN_mod, h1] at h2
      simpa using h2
end Go.Proofs.Ytphlohplkadenaa
