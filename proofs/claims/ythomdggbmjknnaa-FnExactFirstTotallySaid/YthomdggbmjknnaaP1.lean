/- Orders, plainly: no number twice, and each once. -/
import Derived.Test.YthomdggbmjknnaaO1
import Derived.ChangeBookTie2
namespace Go.Proofs.Ythomdggbmjknnaa
open Go.RowKit
set_option linter.unusedVariables false

theorem hasI_at {xs : List Int} {k j : Nat} (hj : j < k) (hk : k ≤ xs.length) : hasI (xs.take k) (nth xs j) = true :=
  hasI_iff.2 ⟨j, by rw [List.length_take]; omega, nth_take hj⟩
theorem ord_inj {xs : List Int} {n : Int} {m : Nat} (hm : m ≤ xs.length) (h : ordB xs n m = true) {i j : Nat} (hi : i < m) (hj : j < m) (e : nth xs i = nth xs j) : i = j := by
  rcases Nat.lt_trichotomy i j with hlt | rfl | hlt
  · have h1 := (ordB_at h hj).2
    rw [← e, hasI_at hlt (by omega)] at h1; cases h1
  · rfl
  · have h1 := (ordB_at h hi).2
    rw [e, hasI_at hlt (by omega)] at h1; cases h1
theorem ord_surj {xs : List Int} (h : ordB xs xs.length xs.length = true) {z : Nat} (hz : z < xs.length) : ∃ i, i < xs.length ∧ nth xs i = z := by
  have hlen : (xs.map Int.toNat).length = xs.length := by simp
  have hb : ∀ i, i < xs.length → 0 ≤ nth xs i ∧ nth xs i < xs.length := fun i hi => by have := (ordB_at h hi).1; omega
  have hnd : (xs.map Int.toNat).Nodup := by
    unfold List.Nodup
    rw [List.pairwise_iff_getElem]
    intro i j hi hj hij e
    rw [hlen] at hi hj
    rw [List.getElem_map, List.getElem_map, ← nth_eq hi, ← nth_eq hj] at e
    have b1 := hb i hi
    have b2 := hb j hj
    have := ord_inj (Nat.le_refl _) h hi hj (by omega)
    omega
  have hlt : ∀ x ∈ xs.map Int.toNat, x < xs.length := by
    intro x hx
    obtain ⟨y, hy, rfl⟩ := List.mem_map.1 hx
    obtain ⟨i, hi, rfl⟩ := List.mem_iff_getElem.1 hy
    rw [← nth_eq hi]
    have := hb i hi
    omega
  by_cases hm : z ∈ xs.map Int.toNat
  · obtain ⟨y, hy, e⟩ := List.mem_map.1 hm
    obtain ⟨i, hi, rfl⟩ := List.mem_iff_getElem.1 hy
    rw [← nth_eq hi] at e
    have := hb i hi
    exact ⟨i, hi, by omega⟩
  · have := nodup_lt_length xs.length (z :: xs.map Int.toNat) (List.nodup_cons.2 ⟨hm, hnd⟩) (fun x hx => by
      rcases List.mem_cons.1 hx with rfl | hx
      · exact hz
      · exact hlt x hx)
    simp only [List.length_cons, hlen] at this
    omega
end Go.Proofs.Ythomdggbmjknnaa
