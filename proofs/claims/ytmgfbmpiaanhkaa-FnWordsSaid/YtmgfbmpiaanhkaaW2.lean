/- Words over a base: both sides' functions. -/
import Derived.Test.YtmgfbmpiaanhkaaW1
namespace Go.Proofs.Ytmgfbmpiaanhkaa
open Go.RowKit
set_option linter.unusedVariables false

def digOk (s : ByteArray) (base : Int) (k : Nat) : Bool := (List.range k).all fun i => inB (dig (byt s i)) 0 (base - 1)
theorem digOk_succ (s : ByteArray) (base : Int) (k : Nat) : digOk s base (k + 1) = (digOk s base k && inB (dig (byt s k)) 0 (base - 1)) := by simp [digOk, List.range_succ]
theorem digOk_no {s : ByteArray} {base : Int} {k n : Nat} (hk : k < n) (h : inB (dig (byt s k)) 0 (base - 1) = false) : digOk s base n = false := by
  unfold digOk
  rw [List.all_eq_false]
  exact ⟨k, List.mem_range.2 hk, by simp [h]⟩
theorem digOk_at {s : ByteArray} {base : Int} {k n : Nat} (hk : k < n) (h : digOk s base n = true) : inB (dig (byt s k)) 0 (base - 1) = true := by
  unfold digOk at h
  rw [List.all_eq_true] at h
  exact h k (List.mem_range.2 hk)
/-- Whether a text is a word over a base. -/
def isWord (s : ByteArray) (base : Int) : Bool := inB base 2 36 && decide (s.size ≤ 20) && digOk s base s.size
theorem isWord_base {s : ByteArray} {base : Int} (h : inB base 2 36 = false) : isWord s base = false := by simp [isWord, h]
theorem isWord_size {s : ByteArray} {base : Int} (h : ¬ s.size ≤ 20) : isWord s base = false := by simp [isWord, h]
theorem isWord_dig {s : ByteArray} {base : Int} {k : Nat} (hk : k < s.size) (h : inB (dig (byt s k)) 0 (base - 1) = false) : isWord s base = false := by simp [isWord, digOk_no hk h]
theorem isWord_ok {s : ByteArray} {base : Int} (h1 : inB base 2 36 = true) (h2 : s.size ≤ 20) (h3 : digOk s base s.size = true) : isWord s base = true := by simp [isWord, h1, h2, h3]
theorem isWord_true {s : ByteArray} {base : Int} (h : isWord s base = true) : (2 ≤ base ∧ base ≤ 36) ∧ s.size ≤ 20 ∧ digOk s base s.size = true := by
  simp only [isWord, Bool.and_eq_true, decide_eq_true_eq] at h
  exact ⟨inB_true.1 h.1.1, h.1.2, h.2⟩

theorem specBase (n : Int) (b : Bool) (hb : inB n 2 36 = b) (w : World) :
    Calls Try.prog 59 #[.int .i64 n] w fun e w' => e = .returned (.bool b) ∧ w = w' := by
  go_enter Try.func59, Try.ntmps59
  go_wp2_with (go_at_call 57; refine (specIn _ _ _ _ (by assumption) _).mono ?_; rintro e w' ⟨rfl, rfl⟩)
  go_ret
  exact ⟨rfl, rfl⟩
theorem implBase (n : Int) (b : Bool) (hb : inB n 2 36 = b) (w : World) :
    Calls Try.prog 62 #[.int .i64 n] w fun e w' => e = .returned (.bool b) ∧ w = w' := by
  go_enter Try.func62, Try.ntmps62
  go_wp2_with (go_at_call 52; refine (implIn _ _ _ _ (by assumption) _).mono ?_; rintro e w' ⟨rfl, rfl⟩)
  go_ret
  exact ⟨rfl, rfl⟩

/-- The bound that the code reckons: it wraps round at the least base alone. -/
theorem wrap_pred {base : Int} (h : inB base 2 36 = true) : wrap64 (base - 1) = base - 1 := by
  have := inB_true.1 h
  exact IntWalk.wrap64_in _ (by omega)

theorem specWord (s : ByteArray) (base : Int) (hs : s.size ≤ 1048576) (w : World) :
    Calls Try.prog 50 #[.string s, .int .i64 base] w fun e w' => e = .returned (.bool (isWord s base)) ∧ w = w' := by
  cases hbase : inB base 2 36
  · have hr := Lib.hid (isWord_base (s := s) hbase)
    go_enter Try.func50, Try.ntmps50
    go_wp2
    go_loop [5] (fun i => ∃ k : Nat, k ≤ s.size ∧ i = .int .i64 k) (fun i => s.size - (intOf i).toNat)
    case atStart => exact ⟨0, Nat.zero_le _, rfl⟩
    case round =>
      obtain ⟨k, hk, rfl⟩ := hrel
      have hb := get_bt s
      have hd := byt_bd s k
      by_cases hlt : k < s.size
      · cases hin : inB (dig (byt s k)) 0 (wrap64 (base - 1))
        · go_wp2_with (first
            | (go_at_call 58; refine (specDigit _ (by omega) (by omega) _).mono ?_; rintro e w' ⟨rfl, rfl⟩)
            | (go_at_call 57; refine (specIn _ _ _ _ (by assumption) _).mono ?_; rintro e w' ⟨rfl, rfl⟩))
          go_ret
          exact ⟨by rw [hr.out]; rfl, rfl⟩
        · go_wp2_with (first
            | (go_at_call 58; refine (specDigit _ (by omega) (by omega) _).mono ?_; rintro e w' ⟨rfl, rfl⟩)
            | (go_at_call 57; refine (specIn _ _ _ _ (by assumption) _).mono ?_; rintro e w' ⟨rfl, rfl⟩))
          go_round
          case rel => exact ⟨k + 1, by omega, by go_num⟩
          case measure => simp [intOf]; omega
      · obtain rfl : k = s.size := by omega
        go_wp2_with (go_at_call 59; refine (specBase _ _ (by assumption) _).mono ?_; rintro e w' ⟨rfl, rfl⟩)
        go_ret
        exact ⟨by rw [hr.out]; rfl, rfl⟩
  · have hbd := inB_true.1 hbase
    go_enter Try.func50, Try.ntmps50
    go_wp2
    go_loop [5] (fun i => ∃ k : Nat, k ≤ s.size ∧ i = .int .i64 k ∧ Hid (digOk s base k = true)) (fun i => s.size - (intOf i).toNat)
    case atStart => exact ⟨0, Nat.zero_le _, rfl, Lib.hid rfl⟩
    case round =>
      obtain ⟨k, hk, rfl, hok⟩ := hrel
      have hb := get_bt s
      have hd := byt_bd s k
      by_cases hlt : k < s.size
      · cases hin : inB (dig (byt s k)) 0 (base - 1)
        · have hr := Lib.hid (isWord_dig hlt hin)
          go_wp2_with (first
            | (go_at_call 58; refine (specDigit _ (by omega) (by omega) _).mono ?_; rintro e w' ⟨rfl, rfl⟩)
            | (go_at_call 57; refine (specIn _ _ _ _ (by assumption) _).mono ?_; rintro e w' ⟨rfl, rfl⟩))
          go_ret
          exact ⟨by rw [hr.out]; rfl, rfl⟩
        · have hok2 := Lib.hid (show digOk s base (k + 1) = true by rw [digOk_succ, hok.out, hin]; rfl)
          go_wp2_with (first
            | (go_at_call 58; refine (specDigit _ (by omega) (by omega) _).mono ?_; rintro e w' ⟨rfl, rfl⟩)
            | (go_at_call 57; refine (specIn _ _ _ _ (by assumption) _).mono ?_; rintro e w' ⟨rfl, rfl⟩))
          go_round
          case rel => exact ⟨k + 1, by omega, by go_num, hok2⟩
          case measure => simp [intOf]; omega
      · obtain rfl : k = s.size := by omega
        by_cases h20 : s.size ≤ 20
        · have hr := Lib.hid (isWord_ok hbase h20 hok.out)
          go_wp2_with (go_at_call 59; refine (specBase _ _ (by assumption) _).mono ?_; rintro e w' ⟨rfl, rfl⟩)
          go_ret
          refine ⟨ret_bool ?_, rfl⟩
          rw [hr.out, Bool.eq_iff_iff]; simp; omega
        · have hr := Lib.hid (isWord_size (base := base) h20)
          go_wp2_with (go_at_call 59; refine (specBase _ _ (by assumption) _).mono ?_; rintro e w' ⟨rfl, rfl⟩)
          go_ret
          refine ⟨ret_bool ?_, rfl⟩
          rw [hr.out, Bool.eq_iff_iff]; simp; omega

theorem specIsWordOf (s : ByteArray) (base : Int) (hs : s.size ≤ 1048576) (w : World) :
    Calls Try.prog 15 #[.string s, .int .i64 base] w fun e w' => e = .returned (.bool (isWord s base)) ∧ Below w.heap.size w w' := by
  go_enter Try.func15, Try.ntmps15
  go_wp2_with (go_at_call 50; refine (specWord s base hs _).mono ?_; rintro e w' ⟨rfl, rfl⟩)
  go_ret
  exact ⟨rfl, Below.refl _ _⟩

/-- The digits of a word; none of another text. -/
def digitsOf (s : ByteArray) (base : Int) : List Int := if isWord s base then digitsL s s.size else []
theorem digitsOf_no {s : ByteArray} {base : Int} (h : isWord s base = false) : digitsOf s base = [] := by simp [digitsOf, h]
theorem digitsOf_yes {s : ByteArray} {base : Int} (h : isWord s base = true) : digitsOf s base = digitsL s s.size := by simp [digitsOf, h]

theorem specDigitsOf (s : ByteArray) (base : Int) (hs : s.size ≤ 1048576) (w : World) :
    Calls Try.prog 31 #[.string s, .int .i64 base] w fun e w' => ∃ v, e = .returned (.tuple #[v, .bool (isWord s base)]) ∧ Fresh OI w w' v (digitsOf s base) := by
  cases hw : isWord s base
  · have hr := Lib.hid (digitsOf_no hw)
    go_enter Try.func31, Try.ntmps31
    go_wp2_with (go_at_call 50; refine (specWord s base hs _).mono ?_; rintro e w' ⟨rfl, rfl⟩)
    go_ret2
    exact ⟨_, rfl, by rw [hr.out]; exact Fresh.nil (Below.refl _ _)⟩
  · have hr := Lib.hid (digitsOf_yes hw)
    go_enter Try.func31, Try.ntmps31
    go_wp2_with (first | (go_at_call 50; refine (specWord s base hs _).mono ?_; rintro e w' ⟨rfl, rfl⟩) | (go_at_call 66; refine (specDigits s hs _).mono ?_; rintro e w1 ⟨v, rfl, hf⟩))
    go_ret2
    exact ⟨_, rfl, by rw [hr.out]; assumption⟩

theorem implDigitsOf0 (s : ByteArray) (base : Int) (w : World) (hs : s.size ≤ 1048576) :
    Calls Try.prog 51 #[.string s, .int .i64 base, .int .i64 20] w fun e w' => ∃ v, e = .returned (.tuple #[v, .bool (isWord s base)]) ∧ Fresh OI w w' v (digitsOf s base) := by
  cases hbase : inB base 2 36
  · have hw := Lib.hid (isWord_base (s := s) hbase)
    have hr := Lib.hid (digitsOf_no hw.out)
    go_enter Try.func51, Try.ntmps51
    go_wp2_with (go_at_call 62; refine (implBase _ _ (by assumption) _).mono ?_; rintro e w' ⟨rfl, rfl⟩)
    go_ret2
    exact ⟨_, by rw [hw.out]; rfl, by rw [hr.out]; exact Fresh.nil (Below.refl _ _)⟩
  · have hbd := inB_true.1 hbase
    by_cases h20 : s.size ≤ 20
    · go_enter Try.func51, Try.ntmps51
      go_wp2_with (go_at_call 62; refine (implBase _ _ (by assumption) _).mono ?_; rintro e w' ⟨rfl, rfl⟩)
      go_loopw [8, 23] (fun v i wr => ∃ k : Nat, k ≤ s.size ∧ i = .int .i64 k ∧ Fresh OI w wr v (digitsL s k) ∧ Hid (digOk s base k = true)) (fun _ i _ => s.size - (intOf i).toNat)
      case atStart => exact ⟨0, Nat.zero_le _, rfl, Fresh.empty (Below.refl _ _), Lib.hid rfl⟩
      case round =>
        obtain ⟨k, hk, rfl, hf, hok⟩ := hrel
        have hb := get_bt s
        have hd := byt_bd s k
        have hdd := dig_bd (byt s k)
        have hl2 := Lib.hid (digitsL_length s k)
        have hn := Lib.hid (digitsL_succ s k)
        by_cases hlt : k < s.size
        · cases hin : inB (dig (byt s k)) 0 (base - 1)
          · have hw := Lib.hid (isWord_dig hlt hin)
            have hr := Lib.hid (digitsOf_no hw.out)
            have hbel := Lib.hid hf.bel; clear hf
            go_wp2_with (first
              | (go_at_call 78; refine (strIndexByte _ (by omega) (by omega) _).mono ?_; rintro e w' ⟨rfl, rfl⟩)
              | (go_at_call 52; refine (implIn _ _ _ _ (by assumption) _).mono ?_; rintro e w' ⟨rfl, rfl⟩))
            go_ret2
            exact ⟨_, by rw [hw.out]; rfl, by rw [hr.out]; exact Fresh.nil hbel.out⟩
          · have hok2 := Lib.hid (show digOk s base (k + 1) = true by rw [digOk_succ, hok.out, hin]; rfl)
            go_wp2_with (first
              | (go_at_call 78; refine (strIndexByte _ (by omega) (by omega) _).mono ?_; rintro e w' ⟨rfl, rfl⟩)
              | (go_at_call 52; refine (implIn _ _ _ _ (by assumption) _).mono ?_; rintro e w' ⟨rfl, rfl⟩)
              | (at_builtin; refine wpList_pushF rfl (.tmp 35) (.tmp 37) 29 rfl (fun _ => rfl) Try.underlying29 infoI64 rfl hf (dig (byt s k)) (by rw [hl2.out]; omega) (by rw [hl2.out]; unfold maxLen; omega) rfl rfl ?_; intro v1 w1 hf1))
            go_roundw
            case rel => exact ⟨k + 1, by omega, by go_num, by rw [hn.out]; assumption, hok2⟩
            case measure => simp [intOf]; omega
        · obtain rfl : k = s.size := by omega
          have hw := Lib.hid (isWord_ok hbase h20 hok.out)
          have hr := Lib.hid (digitsOf_yes hw.out)
          go_wp2
          go_ret2
          exact ⟨_, by rw [hw.out]; rfl, by rw [hr.out]; exact hf⟩
    · have hw := Lib.hid (isWord_size (base := base) h20)
      have hr := Lib.hid (digitsOf_no hw.out)
      go_enter Try.func51, Try.ntmps51
      go_wp2_with (go_at_call 62; refine (implBase _ _ (by assumption) _).mono ?_; rintro e w' ⟨rfl, rfl⟩)
      go_ret2
      exact ⟨_, by rw [hw.out]; rfl, by rw [hr.out]; exact Fresh.nil (Below.refl _ _)⟩

theorem implDigitsOf (s : ByteArray) (base : Int) (w : World) (hs : s.size ≤ 1048576) :
    Calls Try.prog 32 #[.string s, .int .i64 base] w fun e w' => ∃ v, e = .returned (.tuple #[v, .bool (isWord s base)]) ∧ Fresh OI w w' v (digitsOf s base) := by
  go_enter Try.func32, Try.ntmps32
  go_wp2_with (go_at_call 51; refine (implDigitsOf0 s base _ hs).mono ?_; rintro e w1 ⟨v, rfl, hf⟩)
  go_ret2
  exact ⟨_, rfl, by assumption⟩
theorem implIsWordOf (s : ByteArray) (base : Int) (w : World) (hs : s.size ≤ 1048576) :
    Calls Try.prog 16 #[.string s, .int .i64 base] w fun e w' => e = .returned (.bool (isWord s base)) ∧ Below w.heap.size w w' := by
  go_enter Try.func16, Try.ntmps16
  go_wp2_with (go_at_call 51; refine (implDigitsOf0 s base _ hs).mono ?_; rintro e w1 ⟨v, rfl, hf⟩)
  go_ret
  exact ⟨rfl, Fresh.bel (by assumption)⟩
end Go.Proofs.Ytmgfbmpiaanhkaa
