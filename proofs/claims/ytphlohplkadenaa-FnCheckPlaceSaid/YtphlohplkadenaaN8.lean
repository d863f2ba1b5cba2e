/- The law of check places, walked: plain facts. -/
import Derived.Test.YtphlohplkadenaaN7
import Derived.Test.YtphlohplkadenaaN2
namespace Go.Proofs.Ytphlohplkadenaa
open Go.RowKit
set_option linter.unusedVariables false

theorem DW.take {x : Wgt} (h : DW x) : DW { x with weights := x.weights.take 3 } ∧ (x.weights.take 3).length ≤ 3 := by
  refine ⟨⟨h.base, h.modulus, h.target, ?_, fun i hi => ?_⟩, by simp; omega⟩
  · have := h.len; simp; omega
  · have hi2 : i < 3 ∧ i < x.weights.length := by simp at hi; omega
    show 0 ≤ nth (x.weights.take 3) i ∧ nth (x.weights.take 3) i < x.modulus
    rw [nth_take hi2.1]
    exact h.weight i hi2.2
theorem DW.vw {x : Wgt} (h : DW x) : vW x = true := by
  refine vW_iff.2 ⟨⟨h.base.1, by have := h.base; omega⟩, ⟨h.modulus.1, by have := h.modulus; omega⟩, h.target, ⟨h.len.1, by have := h.len; omega⟩, ?_, h.weight⟩
  obtain ⟨b, hb⟩ := Int.eq_ofNat_of_zero_le (show 0 ≤ x.base by have := h.base; omega)
  have h1 := h.base
  have h2 := h.len
  rw [hb] at h1 ⊢
  generalize x.weights.length = n at *
  have h3 : b ^ n ≤ 11 ^ 4 := Nat.le_trans (Nat.pow_le_pow_left (by omega) n) (Nat.pow_le_pow_right (by omega) h2.2)
  have h4 : ((b : Int) ^ n) = ((b ^ n : Nat) : Int) := by simp
  have h5 : (11 : Nat) ^ 4 = 14641 := by decide
  rw [h4]; omega
theorem RdI.take3 {P : Nat → Prop} {w : World} {a : Option Addr} {n c : Nat} {xs : List Int} (h : RdI P w (.slice a n c) xs) (hl : 3 < xs.length) : RdI P w (.slice a 3 c) (xs.take 3) := by
  obtain ⟨a1, c1, e, h1, h2, hrd⟩ := h
  simp only [Value.slice.injEq] at e
  obtain ⟨rfl, _, rfl⟩ := e
  have h3 : (xs.take 3).length = 3 := by simp; omega
  refine ⟨a, c, by rw [h3], by omega, h2, fun i hi => ?_⟩
  rw [h3] at hi
  obtain ⟨b, o, u, h4, h5, h6, h7⟩ := hrd i (by omega)
  exact ⟨b, o, u, h4, h5, h6, by rw [nth_take hi]; exact h7⟩
theorem st_bd {x : Wgt} (h : DW x) (p X : Nat) : ∀ k, k ≤ x.weights.length → 0 ≤ (stS x p X k).1 ∧ (stS x p X k).1 ≤ 200 * (k : Int) ∧ (stS x p X k).2 ≤ X
  | 0, _ => by simp [stS]
  | k + 1, hk => by
    obtain ⟨h1, h2, h3⟩ := st_bd h p X k (by omega)
    by_cases e : k = p
    · rw [stS_hit e]; exact ⟨h1, by omega, h3⟩
    · rw [stS_step e]
      have hw := h.weight k (by omega)
      have hm := h.modulus
      have hb := h.base
      have hq : (stS x p X k).2 % x.base.toNat < x.base.toNat := Nat.mod_lt _ (by omega)
      have h4 : 0 ≤ nth x.weights k * (((stS x p X k).2 % x.base.toNat : Nat) : Int) := Int.mul_nonneg hw.1 (by omega)
      have h5 : nth x.weights k * (((stS x p X k).2 % x.base.toNat : Nat) : Int) ≤ 12 * 10 := Int.mul_le_mul (by omega) (by omega) (by omega) (by omega)
      exact ⟨by show 0 ≤ _ + _; omega, by show _ + _ ≤ _; omega, Nat.le_trans (Nat.div_le_self _ _) h3⟩
end Go.Proofs.Ytphlohplkadenaa
