/- The first places of the different keys, plainly. Nothing here walks. -/
import Derived.Test.YtnpkanlieflbiaaC8
namespace Go.Proofs.Ytnpkanlieflbiaa
open Go.RowKit
set_option linter.unusedVariables false

section fs
variable {α : Type} [DecidableEq α] [Inhabited α]
/-- Where each of the different ones among the first k stands first. -/
def fsTo (ws : List α) : Nat → List Int
  | 0 => []
  | k + 1 => if nth ws k ∈ ddTo ws k then fsTo ws k else fsTo ws k ++ [(k : Int)]
theorem fsTo_len (ws : List α) : ∀ k, (fsTo ws k).length = (ddTo ws k).length
  | 0 => rfl
  | k + 1 => by
    have ih := fsTo_len ws k
    by_cases h : nth ws k ∈ ddTo ws k
    · rw [fsTo, if_pos h, ddTo_yes h, ih]
    · rw [fsTo, if_neg h, ddTo_no h, List.length_append, List.length_append, ih]; rfl
theorem fsTo_bd (ws : List α) : ∀ k, ∀ j, j < (fsTo ws k).length → ∃ i : Nat, i < k ∧ nth (fsTo ws k) j = (i : Int) ∧ nth ws i = nth (ddTo ws k) j
  | 0, j, h => by simp [fsTo] at h
  | k + 1, j, h => by
    have hl := fsTo_len ws k
    by_cases hm : nth ws k ∈ ddTo ws k
    · have e1 : fsTo ws (k + 1) = fsTo ws k := by rw [fsTo, if_pos hm]
      have e2 := ddTo_yes hm
      rw [e1] at h ⊢
      rw [e2]
      obtain ⟨i, h1, h2, h3⟩ := fsTo_bd ws k j h
      exact ⟨i, by omega, h2, h3⟩
    · have e1 : fsTo ws (k + 1) = fsTo ws k ++ [(k : Int)] := by rw [fsTo, if_neg hm]
      have e2 := ddTo_no hm
      rw [e1] at h ⊢
      rw [e2]
      by_cases hj : j < (fsTo ws k).length
      · obtain ⟨i, h1, h2, h3⟩ := fsTo_bd ws k j hj
        exact ⟨i, by omega, by rw [nth_append_left hj]; exact h2, by rw [nth_append_left (by omega)]; exact h3⟩
      · obtain ⟨hje⟩ : Nonempty (j = (fsTo ws k).length) := ⟨by simp at h; omega⟩
        exact ⟨k, by omega, by rw [hje, nth_append_last], by rw [hje, hl, nth_append_last]⟩
theorem fsTo_yes {ws : List α} {k : Nat} (h : nth ws k ∈ ddTo ws k) : fsTo ws (k + 1) = fsTo ws k := by rw [fsTo, if_pos h]
theorem fsTo_no {ws : List α} {k : Nat} (h : nth ws k ∉ ddTo ws k) : fsTo ws (k + 1) = fsTo ws k ++ [(k : Int)] := by rw [fsTo, if_neg h]
end fs
end Go.Proofs.Ytnpkanlieflbiaa
