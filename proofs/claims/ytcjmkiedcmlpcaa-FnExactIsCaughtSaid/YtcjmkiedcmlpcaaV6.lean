/- Unseen pairs, walked. -/
import Derived.Test.YtcjmkiedcmlpcaaV2
import Derived.Test.YtcjmkiedcmlpcaaW4
import Derived.Test.YtcjmkiedcmlpcaaF1
namespace Go.Proofs.Ytcjmkiedcmlpcaa
open Go.RowKit
set_option linter.unusedVariables false

theorem implErrorLength (kind : Int) (w : World) : Calls Try.prog 95 #[.int .i64 kind] w fun e w' => e = .returned (.int .i64 (errLen kind)) ∧ w = w' := by
  by_cases h0 : kind = 0
  · subst h0
    go_enter Try.func95, Try.ntmps95
    go_wp2
    go_ret
    exact ⟨rfl, rfl⟩
  by_cases h2 : kind = 2
  · subst h2
    go_enter Try.func95, Try.ntmps95
    go_wp2
    go_ret
    exact ⟨rfl, rfl⟩
  by_cases h4 : kind = 4
  · subst h4
    go_enter Try.func95, Try.ntmps95
    go_wp2
    go_ret
    exact ⟨rfl, rfl⟩
  have e : errLen kind = 2 := by simp [errLen, h0, h2, h4]
  rw [e]
  have b0 : (kind == 0) = false := by simpa using h0
  have b2 : (kind == 2) = false := by simpa using h2
  have b4 : (kind == 4) = false := by simpa using h4
  clear h0 h2 h4 e
  go_enter Try.func95, Try.ntmps95
  go_wp2
  go_ret
  exact ⟨rfl, rfl⟩
theorem implLastPlace (n : Nat) (hn : n ≤ 1048576) (kind : Int) (w : World) : Calls Try.prog 67 #[.int .i64 n, .int .i64 kind] w fun e w' => e = .returned (.int .i64 ((n : Int) - errLen kind)) ∧ w = w' := by
  have hb := errLen_bd kind
  go_enter Try.func67, Try.ntmps67
  go_wp2_with (go_at_call 95; refine (implErrorLength kind _).mono ?_; rintro e w' ⟨rfl, rfl⟩)
  go_ret
  exact ⟨rfl, rfl⟩
theorem implKindOk (kind base : Int) (b : Bool) (hb : kindOk kind base = b) (w : World) : Calls Try.prog 66 #[.int .i64 kind, .int .i64 base] w fun e w' => e = .returned (.bool b) ∧ w = w' := by
  have HB := Lib.hid hb; clear hb
  cases hin : inB kind 0 5
  · have hr := Lib.hid (show kindOk kind base = false by simp [kindOk, hin])
    go_enter Try.func66, Try.ntmps66
    go_wp2_with (go_at_call 53; refine (implIn _ _ _ _ (by assumption) _).mono ?_; rintro e w' ⟨rfl, rfl⟩)
    go_ret
    exact ⟨by rw [← HB.out, hr.out]; rfl, rfl⟩
  by_cases h5 : kind = 5
  · by_cases h10 : 10 ≤ base
    · have hr := Lib.hid (show kindOk kind base = true by simp [kindOk, hin, h10])
      have b5 : (kind != 5) = false := by simpa using h5
      have b6 : (kind == 5) = true := by simpa using h5
      clear h5
      go_enter Try.func66, Try.ntmps66
      go_wp2_with (go_at_call 53; refine (implIn _ _ _ _ (by assumption) _).mono ?_; rintro e w' ⟨rfl, rfl⟩)
      go_ret
      exact ⟨by rw [← HB.out, hr.out]; rfl, rfl⟩
    · have hr := Lib.hid (show kindOk kind base = false by simp [kindOk, h5, h10])
      have b5 : (kind != 5) = false := by simpa using h5
      have b6 : (kind == 5) = true := by simpa using h5
      clear h5
      go_enter Try.func66, Try.ntmps66
      go_wp2_with (go_at_call 53; refine (implIn _ _ _ _ (by assumption) _).mono ?_; rintro e w' ⟨rfl, rfl⟩)
      go_ret
      exact ⟨ret_bool' (by rw [← HB.out, hr.out]; first | rfl | (simp; omega)), rfl⟩
  · have hr := Lib.hid (show kindOk kind base = true by simp [kindOk, hin, h5])
    have b5 : (kind != 5) = true := by simpa using h5
    have b6 : (kind == 5) = false := by simpa using h5
    clear h5
    go_enter Try.func66, Try.ntmps66
    go_wp2_with (go_at_call 53; refine (implIn _ _ _ _ (by assumption) _).mono ?_; rintro e w' ⟨rfl, rfl⟩)
    go_ret
    exact ⟨by rw [← HB.out, hr.out]; rfl, rfl⟩

def clip (z : Int) : Int := if z < 0 then 0 else z
/-- How many places an error of a kind can be at. -/
def plcN (x : Wgt) (kind : Int) : Int := if kindOk kind x.base then clip ((x.weights.length : Int) - errLen kind + 1) else -1
theorem plcN_no {x : Wgt} {kind : Int} (h : kindOk kind x.base = false) : plcN x kind = -1 := by simp [plcN, h]
theorem plcN_yes {x : Wgt} {kind : Int} (h : kindOk kind x.base = true) : plcN x kind = clip ((x.weights.length : Int) - errLen kind + 1) := by simp [plcN, h]
theorem phonN_succ (m a b : Int) (k : Nat) : phonN m a b (k + 1) = phonN m a b k + if (a * (k + 2) - a - b * (k + 2)) % m = 0 then 2 else 0 := sumN_succ _ _
theorem phonN_le (m a b : Int) (k : Nat) : phonN m a b k ≤ 2 * k := by
  induction k with
  | zero => simp [phonN, sumN]
  | succ k ih => rw [phonN_succ]; split <;> omega
theorem unsN_phon {x : Wgt} {place : Nat} : unsN x 5 place = phonN x.modulus (nth x.weights place) (nth x.weights (place + 1)) 8 := by simp [unsN]
theorem wt_bd {a : Int} {m : Int} {d : Int} (h1 : 0 ≤ a) (h2 : a < m) (hm : m ≤ 36) (hd1 : 0 ≤ d) (hd2 : d ≤ 36) : 0 ≤ a * d ∧ a * d ≤ 36 * 36 :=
  ⟨Int.mul_nonneg h1 hd1, Int.mul_le_mul (by omega) hd2 hd1 (by omega)⟩
end Go.Proofs.Ytcjmkiedcmlpcaa
