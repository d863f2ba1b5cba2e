/- Powers; validity of weightings, walked. -/
import Derived.Test.YtnpkanlieflbiaaS1
namespace Go.Proofs.Ytnpkanlieflbiaa
open Go.RowKit
set_option linter.unusedVariables false

theorem powB_le' {b : Int} {k : Nat} (h : b ^ k ≤ 1000000000000000) : powB b k = true := by simpa [powB] using h
theorem implPowerOk (base : Int) (n : Nat) (hb : 2 ≤ base ∧ base ≤ 36) (hn : n ≤ 1048576) (b : Bool) (hB : powB base n = b) (w : World) :
    Calls Try.prog 79 #[.int .i64 base, .int .i64 n, .int .i64 1000000000000000] w fun e w' => e = .returned (.bool b) ∧ w = w' := by
  have HB := Lib.hid hB; clear hB
  go_enter Try.func79, Try.ntmps79
  go_wp2
  go_loop [7, 9] (fun o i => ∃ k : Nat, k ≤ n ∧ i = .int .i64 k ∧ o = .int .i64 (base ^ k) ∧ base ^ k ≤ 1000000000000000) (fun _ i => n - (intOf i).toNat)
  case atStart => exact ⟨0, Nat.zero_le _, rfl, by simp, by simp⟩
  case round =>
    obtain ⟨k, hk, rfl, rfl, hle⟩ := hrel
    have hp1 := pow_ge1 (show 1 ≤ base by omega) k
    have ht := pow_test (show 1 ≤ base by omega) k
    have hsu := Int.pow_succ base k
    have hq : Int.tdiv 1000000000000000 base = 1000000000000000 / base := Int.tdiv_eq_ediv_of_nonneg (by omega)
    have hq0 : 0 ≤ 1000000000000000 / base := Int.ediv_nonneg (by omega) (by omega)
    have hq1 : 1000000000000000 / base ≤ 1000000000000000 := Int.ediv_le_self _ (by omega)
    by_cases hlt : k < n
    · by_cases hst : base ^ (k + 1) ≤ 1000000000000000
      · have hnq : ¬ 1000000000000000 / base < base ^ k := fun h => ht.1 h hst
        have hm1 : base ^ k * base ≤ 1000000000000000 := by rw [← hsu]; exact hst
        have hm0 : 0 ≤ base ^ k * base := Int.mul_nonneg (by omega) (by omega)
        have Hsu := Lib.hid hsu
        clear ht hsu hst
        generalize hP : base ^ k = p at *
        have HP := Lib.hid hP
        clear hP
        go_wp2
        go_round
        case rel => exact ⟨k + 1, by omega, by go_num, by rw [Hsu.out], by rw [Hsu.out]; exact hm1⟩
        case measure => simp [intOf]; omega
      · have hnq : 1000000000000000 / base < base ^ k := ht.2 hst
        have hr := Lib.hid (powB_over (show 1 ≤ base by omega) hst hlt)
        clear ht hsu hst
        generalize hP : base ^ k = p at *
        have HP := Lib.hid hP
        clear hP
        go_wp2
        go_ret
        exact ⟨by rw [← HB.out, hr.out]; rfl, rfl⟩
    · obtain rfl : k = n := by omega
      have hr := Lib.hid (powB_le' hle)
      clear ht hsu
      generalize hP : base ^ k = p at *
      have HP := Lib.hid hP
      clear hP
      go_wp2
      go_ret
      exact ⟨by rw [← HB.out, hr.out]; rfl, rfl⟩

theorem manyB_no {base : Int} {n : Nat} (h : inB base 2 36 = false) : manyB base n = false := by simp [manyB, h]
theorem manyB_len {base : Int} {n : Nat} (h : inB n 1 20 = false) : manyB base n = false := by simp [manyB, h]
theorem manyB_pow {base : Int} {n : Nat} {b : Bool} (h1 : inB base 2 36 = true) (h2 : inB n 1 20 = true) (h : powB base n = b) : manyB base n = b := by simp [manyB, h1, h2, h]
theorem specMany (base : Int) (n : Nat) (hn : n ≤ 1048576) (b : Bool) (hB : manyB base n = b) (w : World) :
    Calls Try.prog 74 #[.int .i64 base, .int .i64 n] w fun e w' => e = .returned (.bool b) ∧ w = w' := by
  have HB := Lib.hid hB; clear hB
  cases hbase : inB base 2 36
  · have hr := Lib.hid (manyB_no (n := n) hbase)
    go_enter Try.func74, Try.ntmps74
    go_wp2_with (go_at_call 132; refine (specBase _ _ (by assumption) _).mono ?_; rintro e w' ⟨rfl, rfl⟩)
    go_ret
    exact ⟨by rw [← HB.out, hr.out]; rfl, rfl⟩
  · have hb := inB_true.1 hbase
    cases hin : inB n 1 20
    · have hr := Lib.hid (manyB_len (base := base) hin)
      have hd := inB_false.1 hin
      clear hin
      by_cases h1 : (n : Int) < 1
      · have h1' : n < 1 := by omega
        go_enter Try.func74, Try.ntmps74
        go_wp2_with (go_at_call 132; refine (specBase _ _ (by assumption) _).mono ?_; rintro e w' ⟨rfl, rfl⟩)
        go_ret
        exact ⟨by rw [← HB.out, hr.out]; rfl, rfl⟩
      · have h2' : 20 < n := by omega
        go_enter Try.func74, Try.ntmps74
        go_wp2_with (go_at_call 132; refine (specBase _ _ (by assumption) _).mono ?_; rintro e w' ⟨rfl, rfl⟩)
        go_ret
        exact ⟨by rw [← HB.out, hr.out]; rfl, rfl⟩
    · have hd := inB_true.1 hin
      have hd1 : 1 ≤ n := by omega
      have hd2 : n ≤ 20 := by omega
      have hmp := Lib.hid (fun b (h : powB base n = b) => manyB_pow hbase hin h)
      clear hin hd
      go_enter Try.func74, Try.ntmps74
      go_wp2_with (go_at_call 132; refine (specBase _ _ (by assumption) _).mono ?_; rintro e w' ⟨rfl, rfl⟩)
      clear hbase
      go_loop [5, 6] (fun o i => ∃ k : Nat, k ≤ n ∧ i = .int .i64 k ∧ o = .int .i64 (base ^ k) ∧ base ^ k ≤ 1000000000000000) (fun _ i => n - (intOf i).toNat)
      case atStart => exact ⟨0, Nat.zero_le _, rfl, by simp, by simp⟩
      case round =>
        obtain ⟨k, hk, rfl, rfl, hle⟩ := hrel
        have hp1 := pow_ge1 (show 1 ≤ base by omega) k
        have ht := pow_test (show 1 ≤ base by omega) k
        have hsu := Int.pow_succ base k
        have hq : Int.tdiv 1000000000000000 base = 1000000000000000 / base := Int.tdiv_eq_ediv_of_nonneg (by omega)
        have hq0 : 0 ≤ 1000000000000000 / base := Int.ediv_nonneg (by omega) (by omega)
        have hq1 : 1000000000000000 / base ≤ 1000000000000000 := Int.ediv_le_self _ (by omega)
        by_cases hlt : k < n
        · by_cases hst : base ^ (k + 1) ≤ 1000000000000000
          · have hnq : ¬ 1000000000000000 / base < base ^ k := fun h => ht.1 h hst
            have hm1 : base ^ k * base ≤ 1000000000000000 := by rw [← hsu]; exact hst
            have hm0 : 0 ≤ base ^ k * base := Int.mul_nonneg (by omega) (by omega)
            have Hsu := Lib.hid hsu
            clear ht hsu hst
            generalize hP : base ^ k = p at *
            have HP := Lib.hid hP
            clear hP
            go_wp2
            go_round
            case rel => exact ⟨k + 1, by omega, by go_num, by rw [Hsu.out], by rw [Hsu.out]; exact hm1⟩
            case measure => simp [intOf]; omega
          · have hnq : 1000000000000000 / base < base ^ k := ht.2 hst
            have hr := Lib.hid (hmp.out _ (powB_over (show 1 ≤ base by omega) hst hlt))
            clear ht hsu hst
            generalize hP : base ^ k = p at *
            have HP := Lib.hid hP
            clear hP
            go_wp2
            go_ret
            exact ⟨by rw [← HB.out, hr.out]; rfl, rfl⟩
        · obtain rfl : k = n := by omega
          have hr := Lib.hid (hmp.out _ (powB_le' hle))
          clear ht hsu
          generalize hP : base ^ k = p at *
          have HP := Lib.hid hP
          clear hP
          go_wp2
          go_ret
          exact ⟨by rw [← HB.out, hr.out]; rfl, rfl⟩
end Go.Proofs.Ytnpkanlieflbiaa
