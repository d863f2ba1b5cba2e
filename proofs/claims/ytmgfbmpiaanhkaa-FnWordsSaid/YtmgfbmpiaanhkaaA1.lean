/- The walks of the seat's small integer functions. -/
import Derived.Test.YtmgfbmpiaanhkaaRows
import Derived.Test.YtmgfbmpiaanhkaaBase
import Derived.WalkLawsBesides
import Derived.WalkSpells
import Derived.Deep.QuietTactic
import Derived.BigQuiet
import Derived.Deep.LoopGhost
import Derived.Outline
namespace Go.Proofs.Ytmgfbmpiaanhkaa
open Go.RowKit
set_option linter.unusedVariables false

def inB (n lo hi : Int) : Bool := decide (lo ≤ n) && decide (n ≤ hi)
theorem inB_true {n lo hi : Int} : inB n lo hi = true ↔ lo ≤ n ∧ n ≤ hi := by simp [inB]
theorem inB_false {n lo hi : Int} : inB n lo hi = false ↔ n < lo ∨ hi < n := by simp [inB]; omega

theorem specIn (n lo hi : Int) (b : Bool) (hb : inB n lo hi = b) (w : World) :
    Calls Try.prog 57 #[.int .i64 n, .int .i64 lo, .int .i64 hi] w fun e w' => e = .returned (.bool b) ∧ w = w' := by
  cases b
  · by_cases h1 : lo ≤ n
    · have h2 : ¬ n ≤ hi := by have := inB_false.1 hb; omega
      clear hb
      go_enter Try.func57, Try.ntmps57
      go_wp2
      go_ret
      exact ⟨rfl, rfl⟩
    · clear hb
      go_enter Try.func57, Try.ntmps57
      go_wp2
      go_ret
      exact ⟨rfl, rfl⟩
  · obtain ⟨h1, h2⟩ := inB_true.1 hb
    clear hb
    go_enter Try.func57, Try.ntmps57
    go_wp2
    go_ret
    exact ⟨rfl, rfl⟩
theorem implIn (n lo hi : Int) (b : Bool) (hb : inB n lo hi = b) (w : World) :
    Calls Try.prog 52 #[.int .i64 n, .int .i64 lo, .int .i64 hi] w fun e w' => e = .returned (.bool b) ∧ w = w' := by
  cases b
  · by_cases h1 : lo ≤ n
    · have h2 : ¬ n ≤ hi := by have := inB_false.1 hb; omega
      clear hb
      go_enter Try.func52, Try.ntmps52
      go_wp2
      go_ret
      exact ⟨rfl, rfl⟩
    · clear hb
      go_enter Try.func52, Try.ntmps52
      go_wp2
      go_ret
      exact ⟨rfl, rfl⟩
  · obtain ⟨h1, h2⟩ := inB_true.1 hb
    clear hb
    go_enter Try.func52, Try.ntmps52
    go_wp2
    go_ret
    exact ⟨rfl, rfl⟩

theorem tmod_bd (a m : Int) (hm : 1 ≤ m) : -m < a.tmod m ∧ a.tmod m < m := by
  have h1 := Int.tmod_lt_of_pos a (show 0 < m by omega)
  have h2 := Int.tmod_lt_of_pos (-a) (show 0 < m by omega)
  rw [Int.neg_tmod] at h2
  omega
theorem tmod_emod' (a m : Int) : a.tmod m % m = a % m := by
  rw [Int.tmod_def]; exact Int.sub_mul_emod_self_left _ _ _
theorem ret_int {k : IntKind} {a b : Int} (h : a = b) : Ending.returned (.int k a) = .returned (.int k b) := by rw [h]
theorem rest_eq (a m : Int) : (a.tmod m + m) % m = a % m := by
  rw [Int.add_emod_right]
  exact tmod_emod' _ _
theorem mod_eq (a m : Int) (hm : 1 ≤ m) : (if a.tmod m < 0 then a.tmod m + m else a.tmod m) = a % m := by
  have hb := tmod_bd a m hm
  have h1 : a.tmod m % m = a % m := tmod_emod' _ _
  split
  · rw [← h1, ← Int.add_emod_right, Int.emod_eq_of_lt (by omega) (by omega)]
  · rw [← h1, Int.emod_eq_of_lt (by omega) (by omega)]

theorem implRest (a m : Int) (hm : 1 ≤ m) (hm2 : m ≤ 1000000000000000) (w : World) :
    Calls Try.prog 54 #[.int .i64 a, .int .i64 m] w fun e w' => e = .returned (.int .i64 (a % m)) ∧ w = w' := by
  have hb := tmod_bd a m hm
  have hr := Lib.hid (rest_eq a m)
  go_enter Try.func54, Try.ntmps54
  go_wp2
  go_ret
  exact ⟨ret_int hr.out, rfl⟩
theorem implRemainderOf (a m : Int) (w : World) :
    Calls Try.prog 21 #[.int .i64 a, .int .i64 m] w fun e w' => e = .returned (.tuple #[.int .i64 (if inB a (-1000000000000000) 1000000000000000 && inB m 1 1000000000000000 then a % m else 0), .bool (inB a (-1000000000000000) 1000000000000000 && inB m 1 1000000000000000)]) ∧ w = w' := by
  cases h1 : inB a (-1000000000000000) 1000000000000000
  · go_enter Try.func21, Try.ntmps21
    go_wp2_with (go_at_call 52; refine (implIn _ _ _ _ h1 _).mono ?_; rintro e w' ⟨rfl, rfl⟩)
    go_ret2
    exact ⟨rfl, rfl⟩
  · cases h2 : inB m 1 1000000000000000
    · go_enter Try.func21, Try.ntmps21
      go_wp2_with (go_at_call 52; refine (implIn _ _ _ _ (by assumption) _).mono ?_; rintro e w' ⟨rfl, rfl⟩)
      go_ret2
      exact ⟨rfl, rfl⟩
    · obtain ⟨hm, hm2⟩ := inB_true.1 h2
      go_enter Try.func21, Try.ntmps21
      go_wp2_with (first | (go_at_call 52; refine (implIn _ _ _ _ (by assumption) _).mono ?_; rintro e w' ⟨rfl, rfl⟩) | (go_at_call 54; refine (implRest a m hm hm2 _).mono ?_; rintro e w' ⟨rfl, rfl⟩))
      go_ret2
      exact ⟨rfl, rfl⟩
end Go.Proofs.Ytmgfbmpiaanhkaa
