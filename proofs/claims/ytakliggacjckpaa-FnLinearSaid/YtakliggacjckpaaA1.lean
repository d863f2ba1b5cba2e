/- The walks of the seat's small integer functions. -/
import Derived.Test.YtakliggacjckpaaRows
import Derived.Test.YtakliggacjckpaaBase
import Derived.WalkLawsBesides
import Derived.WalkSpells
import Derived.Deep.QuietTactic
import Derived.BigQuiet
import Derived.Deep.LoopGhost
import Derived.Outline
namespace Go.Proofs.Ytakliggacjckpaa
open Go.RowKit
set_option linter.unusedVariables false

def inB (n lo hi : Int) : Bool := decide (lo ≤ n) && decide (n ≤ hi)
theorem inB_true {n lo hi : Int} : inB n lo hi = true ↔ lo ≤ n ∧ n ≤ hi := by simp [inB]
theorem inB_false {n lo hi : Int} : inB n lo hi = false ↔ n < lo ∨ hi < n := by simp [inB]; omega

theorem specIn (n lo hi : Int) (b : Bool) (hb : inB n lo hi = b) (w : World) :
    Calls Try.prog 56 #[.int .i64 n, .int .i64 lo, .int .i64 hi] w fun e w' => e = .returned (.bool b) ∧ w = w' := by
  cases b
  · by_cases h1 : lo ≤ n
    · have h2 : ¬ n ≤ hi := by have := inB_false.1 hb; omega
      clear hb
      go_enter Try.func56, Try.ntmps56
      go_wp2
      go_ret
      exact ⟨rfl, rfl⟩
    · clear hb
      go_enter Try.func56, Try.ntmps56
      go_wp2
      go_ret
      exact ⟨rfl, rfl⟩
  · obtain ⟨h1, h2⟩ := inB_true.1 hb
    clear hb
    go_enter Try.func56, Try.ntmps56
    go_wp2
    go_ret
    exact ⟨rfl, rfl⟩
theorem implIn (n lo hi : Int) (b : Bool) (hb : inB n lo hi = b) (w : World) :
    Calls Try.prog 48 #[.int .i64 n, .int .i64 lo, .int .i64 hi] w fun e w' => e = .returned (.bool b) ∧ w = w' := by
  cases b
  · by_cases h1 : lo ≤ n
    · have h2 : ¬ n ≤ hi := by have := inB_false.1 hb; omega
      clear hb
      go_enter Try.func48, Try.ntmps48
      go_wp2
      go_ret
      exact ⟨rfl, rfl⟩
    · clear hb
      go_enter Try.func48, Try.ntmps48
      go_wp2
      go_ret
      exact ⟨rfl, rfl⟩
  · obtain ⟨h1, h2⟩ := inB_true.1 hb
    clear hb
    go_enter Try.func48, Try.ntmps48
    go_wp2
    go_ret
    exact ⟨rfl, rfl⟩

theorem tmod_bd (a m : Int) (hm : 1 ≤ m) : -m < a.tmod m ∧ a.tmod m < m := by
  have h1 := Int.tmod_lt_of_pos a (show 0 < m by omega)
  have h2 := Int.tmod_lt_of_pos (-a) (show 0 < m by omega)
  rw [Int.neg_tmod] at h2
  omega
theorem tmod_emod' (a m : Int) : a.tmod m % m = a % m := by
  rw [Int.tmod_def]; exact Int.sub_mul_emod_self_left _ _ _
theorem ret_int {k : IntKind} {a b : Int} (h : a = b) : Ending.returned (.int k a) = .returned (.int k b) := by rw [h]
theorem rest_eq (a m : Int) : (a.tmod m + m) % m = a % m := by
  rw [Int.add_emod_right]
  exact tmod_emod' _ _
theorem mod_eq (a m : Int) (hm : 1 ≤ m) : (if a.tmod m < 0 then a.tmod m + m else a.tmod m) = a % m := by
  have hb := tmod_bd a m hm
  have h1 : a.tmod m % m = a % m := tmod_emod' _ _
  split
  · rw [← h1, ← Int.add_emod_right, Int.emod_eq_of_lt (by omega) (by omega)]
  · rw [← h1, Int.emod_eq_of_lt (by omega) (by omega)]

end Go.Proofs.Ytakliggacjckpaa
