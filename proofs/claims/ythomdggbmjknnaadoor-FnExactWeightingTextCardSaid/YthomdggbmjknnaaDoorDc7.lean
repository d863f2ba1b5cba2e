/- ListText: both functions whole. -/
import Derived.Test.YthomdggbmjknnaaDoorDc6
import Derived.Test.YthomdggbmjknnaaDoorA1
import Derived.Test.YthomdggbmjknnaaDoorW1
import Derived.Test.YthomdggbmjknnaaDoorH1
namespace Go.Proofs.YthomdggbmjknnaaDoor
open Go.RowKit
set_option linter.unusedVariables false

def ltOk (t : List Int) : Bool := decide (t.length ≤ 40) && allIn t (-1000000000000000) 1000000000000000
def ltS (t : List Int) : ByteArray := if ltOk t then ltV t else ⟨#[]⟩
theorem ltS_yes {t : List Int} (h : ltOk t = true) : ltS t = ltV t := by simp [ltS, h]
theorem ltS_no {t : List Int} (h : ltOk t = false) : ltS t = ⟨#[]⟩ := by simp [ltS, h]
theorem ltOk_in {t : List Int} (h : ltOk t = true) : t.length ≤ 40 ∧ ∀ i, i < t.length → -9223372036854775808 ≤ nth t i ∧ nth t i ≤ 9223372036854775807 := by
  simp only [ltOk, Bool.and_eq_true, decide_eq_true_eq] at h
  exact ⟨h.1, fun i hi => by have := allIn_at h.2 hi; omega⟩

theorem specL01List {P : Nat → Prop} {v : Value} {t : List Int} {w : World} (h : RdI P w v t) :
    Calls Tryd.prog 32 #[v] w fun e w' => e = .returned (.bool (ltOk t)) ∧ w = w' := by
  obtain ⟨a, c, rfl, h1, h2, hrd⟩ := h
  have Hrd := Lib.hid hrd
  clear hrd
  unfold maxLen at h2
  go_enter Tryd.func32, Tryd.ntmps32
  go_wp2
  go_loopw [3] (fun i wr => ∃ k : Nat, k ≤ t.length ∧ i = .int .i64 k ∧ Hid (∀ j, j < k → inB (nth t j) (-1000000000000000) 1000000000000000 = true) ∧ w = wr) (fun i _ => t.length - (intOf i).toNat)
  case atStart => exact ⟨0, Nat.zero_le _, rfl, Lib.hid (fun j hj => absurd hj (by omega)), rfl⟩
  case round =>
    obtain ⟨k, hk, rfl, hok, rfl⟩ := hrel
    by_cases hlt : k < t.length
    · obtain ⟨b, o, u, rfl, hPb, hc, rfl⟩ := Hrd.out k hlt
      cases hin : inB (nth t k) (-1000000000000000) 1000000000000000
      · have hv := Lib.hid (show ltOk t = false by simp [ltOk, allIn_no hlt hin])
        go_wp2_with (go_at_call 49; refine (specIn _ _ _ _ (by assumption) _).mono ?_; rintro e w' ⟨rfl, rfl⟩)
        go_ret
        exact ⟨by rw [hv.out]; rfl, rfl⟩
      · have Hin := Lib.hid hin
        go_wp2_with (go_at_call 49; refine (specIn _ _ _ _ (by assumption) _).mono ?_; rintro e w' ⟨rfl, rfl⟩)
        go_roundw
        case rel => exact ⟨k + 1, by omega, by go_num, Lib.hid (fun j hj => by rcases Nat.lt_succ_iff_lt_or_eq.1 hj with h | h; exact hok.out j h; rw [h]; exact Hin.out), trivial⟩
        case measure => simp [intOf]; omega
    · obtain rfl : k = t.length := by omega
      have hv := Lib.hid (show ltOk t = decide (t.length ≤ 40) by simp [ltOk, allIn_yes hok.out])
      by_cases h40 : t.length ≤ 40
      · go_wp2
        go_ret
        exact ⟨by rw [hv.out]; simp [h40]; omega, rfl⟩
      · go_wp2
        go_ret
        exact ⟨by rw [hv.out]; simp [h40]; omega, rfl⟩
theorem specListText {B : Nat} {v : Value} {t : List Int} {w : World} (h : RdI (· < B) w v t) (hB : B ≤ w.heap.size) :
    Calls Tryd.prog 11 #[v] w fun e w' => e = .returned (.tuple #[.string (ltS t), .bool (ltOk t)]) ∧ Below w.heap.size w w' := by
  have Hh := Lib.hid h
  clear h
  go_enter Tryd.func11, Tryd.ntmps11
  go_wp2_with fail
  refine (specL01List Hh.out).mono ?_
  rintro e w1 ⟨rfl, rfl⟩
  cases hq : ltOk t
  · have ht := Lib.hid (ltS_no hq)
    go_wp2_with fail
    go_ret2
    exact ⟨by rw [ht.out, hq]; rfl, Below.refl _ _⟩
  · have ht := Lib.hid (ltS_yes hq)
    have hi := Lib.hid (ltOk_in hq)
    go_wp2_with fail
    refine (specL01Text Hh.out hB hi.out.1 hi.out.2).mono ?_
    rintro e w2 ⟨rfl, hb2⟩
    go_wp2_with fail
    go_ret2
    exact ⟨by rw [ht.out, hq]; rfl, hb2⟩
theorem implListText1 (x : Int) (w : World) :
    Calls Tryd.prog 35 (#[.int .i64 x] ++ #[]) w fun e w' => e = .returned (.bool (!inB x (-1000000000000000) 1000000000000000)) ∧ w = w' := by
  cases hin : inB x (-1000000000000000) 1000000000000000
  all_goals
    go_enter Tryd.func35, Tryd.ntmps35
    go_wp2_with (go_at_call 36; refine (implIn _ _ _ _ (by assumption) _).mono ?_; rintro e w' ⟨rfl, rfl⟩)
    go_ret
    exact ⟨rfl, rfl⟩
theorem implListText {B : Nat} {v : Value} {t : List Int} {w : World} (h : RdI (· < B) w v t) (hB : B ≤ w.heap.size) (htab : Lib.TabIs Tryd.prog w "internal/strconv.uint64pow10" .u64 Lib.pow10Tab) :
    Calls Tryd.prog 13 #[v] w fun e w' => e = .returned (.tuple #[.string (ltS t), .bool (ltOk t)]) ∧ Below w.heap.size w w' := by
  have Hh := Lib.hid h
  have Ht := Lib.hid htab
  obtain ⟨a, c, rfl, h1, h2⟩ := Rd.isSlice' h
  clear h htab
  unfold maxLen at h2
  by_cases h40 : t.length ≤ 40
  rotate_left
  · have hq : ltOk t = false := by simp [ltOk, h40]
    have ht := Lib.hid (ltS_no hq)
    have Hq := Lib.hid hq
    clear hq
    go_enter Tryd.func13, Tryd.ntmps13
    go_wp2_with fail
    go_ret2
    exact ⟨by rw [ht.out, Hq.out]; rfl, Below.refl _ _⟩
  cases hall : allIn t (-1000000000000000) 1000000000000000
  · have hq : ltOk t = false := by simp [ltOk, hall]
    have ht := Lib.hid (ltS_no hq)
    have Hq := Lib.hid hq
    have hany := Lib.hid (show (t.any fun d => !inB d (-1000000000000000) 1000000000000000) = true by rw [any_allIn, hall]; rfl)
    clear hq hall
    go_enter Tryd.func13, Tryd.ntmps13
    go_wp2_with (go_at_call 34; refine (slContainsFunc Hh.out _ _ _ (fun x _ => implListText1 x _) (fun _ _ => by kernel_rfl) _ hany.out).mono ?_; rintro e w' ⟨rfl, rfl⟩)
    go_ret2
    exact ⟨by rw [ht.out, Hq.out]; rfl, Below.refl _ _⟩
  · have hq : ltOk t = true := by simp [ltOk, hall, h40]
    have ht := Lib.hid (ltS_yes hq)
    have hi := Lib.hid (ltOk_in hq)
    have Hq := Lib.hid hq
    have hany := Lib.hid (show (t.any fun d => !inB d (-1000000000000000) 1000000000000000) = false by rw [any_allIn, hall]; rfl)
    clear hq hall
    go_enter Tryd.func13, Tryd.ntmps13
    go_wp2_with (first
      | (go_at_call 34; refine (slContainsFunc Hh.out _ _ _ (fun x _ => implListText1 x _) (fun _ _ => by kernel_rfl) _ hany.out).mono ?_; rintro e w' ⟨rfl, rfl⟩)
      | (go_at_call 37; refine (implListText0 Hh.out hB hi.out.1 hi.out.2 Ht.out).mono ?_; rintro e w2 ⟨rfl, hb2⟩))
    go_ret2
    exact ⟨by rw [ht.out, Hq.out]; rfl, by assumption⟩
end Go.Proofs.YthomdggbmjknnaaDoor
