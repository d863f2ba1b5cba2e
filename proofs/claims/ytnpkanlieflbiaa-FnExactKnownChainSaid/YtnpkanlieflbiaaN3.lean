/- What weights make of digits: impl.weighed, spec.l03Adds. -/
import Derived.Test.YtnpkanlieflbiaaC8
import Derived.Test.YtnpkanlieflbiaaB1
import Derived.Test.YtnpkanlieflbiaaV4
import Derived.Test.YtnpkanlieflbiaaJ2
import Derived.Test.YtnpkanlieflbiaaF2
import Derived.Test.YtnpkanlieflbiaaS1
namespace Go.Proofs.Ytnpkanlieflbiaa
open Go.RowKit
set_option linter.unusedVariables false

theorem weighL_succ (k : Nat) (wt : Int) : weighL (k + 1) wt = weighL k wt ++ [wt * (k : Int)] := by unfold weighL; rw [List.range_succ, List.map_append]; rfl
theorem weighL_len (k : Nat) (wt : Int) : (weighL k wt).length = k := by simp [weighL]
theorem weighL_at {k i : Nat} (wt : Int) (h : i < k) : nth (weighL k wt) i = wt * (i : Int) := by unfold weighL; rw [nth_range_map h]
theorem addsL_succ (k m : Nat) (wt : Int) : addsL (k + 1) m wt = addsL k m wt ++ [wt * (k : Int) % m] := by unfold addsL; rw [List.range_succ, List.map_append]; rfl
theorem addsL_len (k m : Nat) (wt : Int) : (addsL k m wt).length = k := by simp [addsL]
theorem prodFacts {wt d : Int} {m : Int} (hw : 0 ≤ wt) (hw2 : wt ≤ 36) (hd : 0 ≤ d) (hd2 : d ≤ 36) (hm : 1 ≤ m) :
    IntKind.i64.wrap (wt * d) = wt * d ∧ Int.tmod (wt * d) m = wt * d % m ∧ 0 ≤ wt * d ∧ wt * d ≤ 1296 ∧ IntKind.i64.wrap (wt * d % m) = wt * d % m := by
  have h1 : 0 ≤ wt * d := Int.mul_nonneg hw hd
  have h2 : wt * d ≤ 36 * 36 := Int.mul_le_mul (by omega) (by omega) (by omega) (by omega)
  have h3 := Int.emod_nonneg (wt * d) (show m ≠ 0 by omega)
  have h4 : wt * d % m ≤ wt * d := by
    have h5 := Int.mul_ediv_add_emod (wt * d) m
    have h6 : 0 ≤ m * (wt * d / m) := Int.mul_nonneg (by omega) (Int.ediv_nonneg h1 (by omega))
    omega
  exact ⟨IntWalk.i64_in _ (by omega), Int.tmod_eq_emod_of_nonneg h1, h1, by omega, IntWalk.i64_in _ (by omega)⟩

theorem implWeighed (b : Nat) (hb : b ≤ 36) (wt : Int) (hw : 0 ≤ wt) (hw2 : wt ≤ 36) (w : World) :
    Calls Try.prog 121 #[.int .i64 b, .int .i64 wt] w fun e w' => ∃ v, e = .returned v ∧ Fresh OI w w' v (weighL b wt) := by
  go_enter Try.func121, Try.ntmps121
  go_wp2
  go_loopw [5, 9] (fun ov iv wr => ∃ k : Nat, k ≤ b ∧ iv = .int .i64 k ∧ Fresh OI w wr ov (weighL k wt)) (fun _ iv _ => b - (intOf iv).toNat)
  case atStart => exact ⟨0, Nat.zero_le _, rfl, Fresh.empty (Below.refl _ _)⟩
  case round =>
    obtain ⟨k, hk, rfl, hf⟩ := hrel
    by_cases hlt : k < b
    · have hl2 := Lib.hid (show (weighL k wt).length ≤ 36 by rw [weighL_len]; omega)
      have hs := Lib.hid (weighL_succ k wt)
      obtain ⟨f1, f2, f3, f4, _⟩ := prodFacts (wt := wt) (d := (k : Int)) (m := 1) hw hw2 (by omega) (by omega) (by omega)
      clear f2
      go_wp2_with (at_builtin; refine wpList_pushF rfl _ _ 22 rfl (f := fI) (fun _ => rfl) Try.underlying22 infoI64 rfl hf (wt * (k : Int)) (by have := hl2.out; omega) (by have := hl2.out; unfold maxLen; omega) rfl rfl ?_; intro v1 w1 hf1)
      go_roundw
      case rel => exact ⟨k + 1, by omega, by go_num, by rw [hs.out]; exact hf1⟩
      case measure => simp [intOf]; omega
    · obtain rfl : k = b := by omega
      go_wp2
      go_ret
      exact ⟨_, rfl, hf⟩

theorem specAdds (b m : Nat) (hb : b ≤ 36) (hm : 1 ≤ m ∧ m ≤ 36) (wt : Int) (hw : 0 ≤ wt) (hw2 : wt ≤ 36) (w : World) :
    Calls Try.prog 117 #[.int .i64 wt, .int .i64 b, .int .i64 m] w fun e w' => ∃ v, e = .returned v ∧ Fresh OI w w' v (addsL b m wt) := by
  go_enter Try.func117, Try.ntmps117
  go_wp2
  go_loopw [7, 8] (fun ov iv wr => ∃ k : Nat, k ≤ b ∧ iv = .int .i64 k ∧ Fresh OI w wr ov (addsL k m wt)) (fun _ iv _ => b - (intOf iv).toNat)
  case atStart => exact ⟨0, Nat.zero_le _, rfl, Fresh.empty (Below.refl _ _)⟩
  case round =>
    obtain ⟨k, hk, rfl, hf⟩ := hrel
    by_cases hlt : k < b
    · have hl2 := Lib.hid (show (addsL k m wt).length ≤ 36 by rw [addsL_len]; omega)
      have hs := Lib.hid (addsL_succ k m wt)
      obtain ⟨f1, f2, f3, f4, f5⟩ := prodFacts (wt := wt) (d := (k : Int)) (m := (m : Int)) hw hw2 (by omega) (by omega) (by omega)
      have hm0 : ¬ m = 0 := by omega
      have hm1 : ¬ (m : Int) = 0 := by omega
      go_wp2_with (at_builtin; refine wpList_pushF rfl _ _ 22 rfl (f := fI) (fun _ => rfl) Try.underlying22 infoI64 rfl hf (wt * (k : Int) % (m : Int)) (by have := hl2.out; omega) (by have := hl2.out; unfold maxLen; omega) rfl rfl ?_; intro v1 w1 hf1)
      go_roundw
      case rel => exact ⟨k + 1, by omega, by go_num, by rw [hs.out]; exact hf1⟩
      case measure => simp [intOf]; omega
    · obtain rfl : k = b := by omega
      go_wp2
      go_ret
      exact ⟨_, rfl, hf⟩
end Go.Proofs.Ytnpkanlieflbiaa
/- PermutingOf: impl. -/
namespace Go.Proofs.Ytnpkanlieflbiaa
open Go.RowKit
set_option linter.unusedVariables false

/-- The first k are turned into remainders. -/
def redTo (m : Int) (l : List Int) (k : Nat) : List Int := (l.take k).map (fun z => z % m) ++ l.drop k
theorem redTo_len (m : Int) (l : List Int) (k : Nat) : (redTo m l k).length = l.length := by simp [redTo]; omega
theorem redTo_nth (m : Int) (l : List Int) {k i : Nat} (hk : k ≤ l.length) (hi : i < l.length) : nth (redTo m l k) i = if i < k then nth l i % m else nth l i := by
  unfold redTo
  by_cases h : i < k
  · rw [nth_append_left (by simp; omega), nth_map (by simp; omega), nth_take h, if_pos h]
  · rw [if_neg h, nth_eq (by simp; omega), nth_eq hi, List.getElem_append_right (by simp; omega)]
    simp only [List.length_map, List.length_take, List.getElem_drop]
    congr 1
    omega
theorem redTo_step {m : Int} {l : List Int} {k : Nat} (h : k < l.length) : (redTo m l k).set k (nth l k % m) = redTo m l (k + 1) := by
  refine ext_nth (by rw [List.length_set, redTo_len, redTo_len]) fun i hi => ?_
  rw [List.length_set, redTo_len] at hi
  rw [nth_set (by rw [redTo_len]; exact h), redTo_nth m l (by omega) hi, redTo_nth m l (by omega) hi]
  by_cases e : k = i
  · subst e; rw [if_pos rfl, if_pos (by omega)]
  · rw [if_neg e]
    by_cases e2 : i < k
    · rw [if_pos e2, if_pos (by omega)]
    · rw [if_neg e2, if_neg (by omega)]
theorem redTo_all (b : Nat) (m : Int) (wt : Int) (n : Nat) (hn : (n : Int) = m) : redTo m (weighL b wt) b = addsL b n wt := by
  unfold redTo
  rw [List.take_of_length_le (by rw [weighL_len]; omega), List.drop_of_length_le (by rw [weighL_len]; omega), List.append_nil]
  unfold weighL addsL
  rw [List.map_map, hn]
  rfl

def Prm.zero : Prm := ⟨0, 0, []⟩
def pofW (x : Wgt) : Prm := ⟨x.base, x.target, x.weights.map (addsL x.base.toNat x.base.toNat)⟩
def pofOk (x : Wgt) : Bool := vW x && (decide (x.modulus = x.base) && vP (pofW x))
def pofV (x : Wgt) : Prm := if pofOk x then pofW x else Prm.zero
theorem pofV_no {x : Wgt} (h : pofOk x = false) : pofV x = Prm.zero := by simp [pofV, h]
theorem pofV_yes {x : Wgt} (h : pofOk x = true) : pofV x = pofW x := by simp [pofV, h]
theorem szP_pofW (x : Wgt) (hb : x.base ≤ 36) (hn : x.weights.length ≤ 20) : szP (pofW x) ≤ 2000 := by
  have h : ∀ (L : List Int), cntL List.length (L.map (addsL x.base.toNat x.base.toNat)) ≤ L.length * 36 := fun L => by
    induction L with
    | nil => simp [cntL]
    | cons a L ih =>
      have hl := addsL_len x.base.toNat x.base.toNat a
      simp [cntL] at ih ⊢
      omega
  have h2 := h x.weights
  have h3 := Nat.mul_le_mul_right 36 hn
  show (x.weights.map (addsL x.base.toNat x.base.toNat)).length + cntL List.length (x.weights.map (addsL x.base.toNat x.base.toNat)) ≤ 2000
  rw [List.length_map]
  omega


end Go.Proofs.Ytnpkanlieflbiaa
