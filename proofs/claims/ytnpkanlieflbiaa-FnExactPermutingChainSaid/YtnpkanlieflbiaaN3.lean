/- What weights make of digits: impl.weighed, spec.l03Adds. -/
import Derived.Test.YtnpkanlieflbiaaC8
import Derived.Test.YtnpkanlieflbiaaB1
import Derived.Test.YtnpkanlieflbiaaV5
import Derived.Test.YtnpkanlieflbiaaJ2
namespace Go.Proofs.Ytnpkanlieflbiaa
open Go.RowKit
set_option linter.unusedVariables false

theorem weighL_succ (k : Nat) (wt : Int) : weighL (k + 1) wt = weighL k wt ++ [wt * (k : Int)] := by unfold weighL; rw [List.range_succ, List.map_append]; rfl
theorem weighL_len (k : Nat) (wt : Int) : (weighL k wt).length = k := by simp [weighL]
theorem weighL_at {k i : Nat} (wt : Int) (h : i < k) : nth (weighL k wt) i = wt * (i : Int) := by unfold weighL; rw [nth_range_map h]
theorem addsL_succ (k m : Nat) (wt : Int) : addsL (k + 1) m wt = addsL k m wt ++ [wt * (k : Int) % m] := by unfold addsL; rw [List.range_succ, List.map_append]; rfl
theorem addsL_len (k m : Nat) (wt : Int) : (addsL k m wt).length = k := by simp [addsL]
theorem prodFacts {wt d : Int} {m : Int} (hw : 0 ≤ wt) (hw2 : wt ≤ 36) (hd : 0 ≤ d) (hd2 : d ≤ 36) (hm : 1 ≤ m) :
    IntKind.i64.wrap (wt * d) = wt * d ∧ Int.tmod (wt * d) m = wt * d % m ∧ 0 ≤ wt * d ∧ wt * d ≤ 1296 ∧ IntKind.i64.wrap (wt * d % m) = wt * d % m := by
  have h1 : 0 ≤ wt * d := Int.mul_nonneg hw hd
  have h2 : wt * d ≤ 36 * 36 := Int.mul_le_mul (by omega) (by omega) (by omega) (by omega)
  have h3 := Int.emod_nonneg (wt * d) (show m ≠ 0 by omega)
  have h4 : wt * d % m ≤ wt * d := by
    have h5 := Int.mul_ediv_add_emod (wt * d) m
    have h6 : 0 ≤ m * (wt * d / m) := Int.mul_nonneg (by omega) (Int.ediv_nonneg h1 (by omega))
    omega
  exact ⟨IntWalk.i64_in _ (by omega), Int.tmod_eq_emod_of_nonneg h1, h1, by omega, IntWalk.i64_in _ (by omega)⟩

theorem implWeighed (b : Nat) (hb : b ≤ 36) (wt : Int) (hw : 0 ≤ wt) (hw2 : wt ≤ 36) (w : World) :
    Calls Try.prog 121 #[.int .i64 b, .int .i64 wt] w fun e w' => ∃ v, e = .returned v ∧ Fresh OI w w' v (weighL b wt) := by
  go_enter Try.func121, Try.ntmps121
  go_wp2
  go_loopw [5, 9] (fun ov iv wr => ∃ k : Nat, k ≤ b ∧ iv = .int .i64 k ∧ Fresh OI w wr ov (weighL k wt)) (fun _ iv _ => b - (intOf iv).toNat)
  case atStart => exact ⟨0, Nat.zero_le _, rfl, Fresh.empty (Below.refl _ _)⟩
  case round =>
    obtain ⟨k, hk, rfl, hf⟩ := hrel
    by_cases hlt : k < b
    · have hl2 := Lib.hid (show (weighL k wt).length ≤ 36 by rw [weighL_len]; omega)
      have hs := Lib.hid (weighL_succ k wt)
      obtain ⟨f1, f2, f3, f4, _⟩ := prodFacts (wt := wt) (d := (k : Int)) (m := 1) hw hw2 (by omega) (by omega) (by omega)
      clear f2
      go_wp2_with (at_builtin; refine wpList_pushF rfl _ _ 22 rfl (f := fI) (fun _ => rfl) Try.underlying22 infoI64 rfl hf (wt * (k : Int)) (by have := hl2.out; omega) (by have := hl2.out; unfold maxLen; omega) rfl rfl ?_; intro v1 w1 hf1)
      go_roundw
      case rel => exact ⟨k + 1, by omega, by go_num, by rw [hs.out]; exact hf1⟩
      case measure => simp [intOf]; omega
    · obtain rfl : k = b := by omega
      go_wp2
      go_ret
      exact ⟨_, rfl, hf⟩

theorem specAdds (b m : Nat) (hb : b ≤ 36) (hm : 1 ≤ m ∧ m ≤ 36) (wt : Int) (hw : 0 ≤ wt) (hw2 : wt ≤ 36) (w : World) :
    Calls Try.prog 117 #[.int .i64 wt, .int .i64 b, .int .i64 m] w fun e w' => ∃ v, e = .returned v ∧ Fresh OI w w' v (addsL b m wt) := by
  go_enter Try.func117, Try.ntmps117
  go_wp2
  go_loopw [7, 8] (fun ov iv wr => ∃ k : Nat, k ≤ b ∧ iv = .int .i64 k ∧ Fresh OI w wr ov (addsL k m wt)) (fun _ iv _ => b - (intOf iv).toNat)
  case atStart => exact ⟨0, Nat.zero_le _, rfl, Fresh.empty (Below.refl _ _)⟩
  case round =>
    obtain ⟨k, hk, rfl, hf⟩ := hrel
    by_cases hlt : k < b
    · have hl2 := Lib.hid (show (addsL k m wt).length ≤ 36 by rw [addsL_len]; omega)
      have hs := Lib.hid (addsL_succ k m wt)
      obtain ⟨f1, f2, f3, f4, f5⟩ := prodFacts (wt := wt) (d := (k : Int)) (m := (m : Int)) hw hw2 (by omega) (by omega) (by omega)
      have hm0 : ¬ m = 0 := by omega
      have hm1 : ¬ (m : Int) = 0 := by omega
      go_wp2_with (at_builtin; refine wpList_pushF rfl _ _ 22 rfl (f := fI) (fun _ => rfl) Try.underlying22 infoI64 rfl hf (wt * (k : Int) % (m : Int)) (by have := hl2.out; omega) (by have := hl2.out; unfold maxLen; omega) rfl rfl ?_; intro v1 w1 hf1)
      go_roundw
      case rel => exact ⟨k + 1, by omega, by go_num, by rw [hs.out]; exact hf1⟩
      case measure => simp [intOf]; omega
    · obtain rfl : k = b := by omega
      go_wp2
      go_ret
      exact ⟨_, rfl, hf⟩
end Go.Proofs.Ytnpkanlieflbiaa
