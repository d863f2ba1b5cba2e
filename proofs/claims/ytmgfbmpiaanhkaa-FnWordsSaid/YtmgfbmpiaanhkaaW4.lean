/- Words from digits, remainders of words: the functions that the laws call. -/
import Derived.Test.YtmgfbmpiaanhkaaW3
namespace Go.Proofs.Ytmgfbmpiaanhkaa
open Go.RowKit
set_option linter.unusedVariables false

theorem slContainsFunc {P : Nat → Prop} {v : Value} {xs : List Int} {w : World} (h : RdI P w v xs) (g : Nat) (cap : Array Value) (p : Int → Bool)
    (hp : ∀ x, x ∈ xs → Calls Try.prog g (#[.int .i64 x] ++ cap) w fun e w' => e = .returned (.bool (p x)) ∧ w = w')
    (hg : ∀ (args : Array Value) (w : World), (callFunc g args).run Try.prog w = .ok (.enter g args) w) (b : Bool) (hb : xs.any p = b) :
    Calls Try.prog 63 #[v, .func (.func g) #[] cap] w fun e w' => e = .returned (.bool b) ∧ w = w' := by
  have hr := Lib.hid ((firstIdx_any xs p).trans hb)
  go_enter Try.func63, Try.ntmps63
  go_wp2_with (go_at_call 81; refine (slIndexFunc h g cap p hp hg).mono ?_; rintro e w' ⟨rfl, rfl⟩)
  go_ret
  exact ⟨ret_bool hr.out, rfl⟩

def isDigits (xs : List Int) (base : Int) : Bool := inB base 2 36 && decide (xs.length ≤ 20) && allIn xs 0 (base - 1)
theorem isDigits_base {xs : List Int} {base : Int} (h : inB base 2 36 = false) : isDigits xs base = false := by simp [isDigits, h]
theorem isDigits_len {xs : List Int} {base : Int} (h : ¬ xs.length ≤ 20) : isDigits xs base = false := by simp [isDigits, h]
theorem isDigits_all {xs : List Int} {base : Int} {b : Bool} (h1 : inB base 2 36 = true) (h2 : xs.length ≤ 20) (h : allIn xs 0 (base - 1) = b) : isDigits xs base = b := by simp [isDigits, h1, h2, h]
def wordOfV (xs : List Int) (base : Int) : ByteArray := if isDigits xs base then wordS xs else ⟨#[]⟩
theorem wordOfV_no {xs : List Int} {base : Int} (h : isDigits xs base = false) : wordOfV xs base = ⟨#[]⟩ := by simp [wordOfV, h]
theorem wordOfV_yes {xs : List Int} {base : Int} (h : isDigits xs base = true) : wordOfV xs base = wordS xs := by simp [wordOfV, h]

theorem specWordOf {B : Nat} {v : Value} {xs : List Int} {w : World} (h : RdI (· < B) w v xs) (hB : B ≤ w.heap.size) (base : Int) (hn : xs.length ≤ 1048576) :
    Calls Try.prog 29 #[v, .int .i64 base] w fun e w' => e = .returned (.tuple #[.string (wordOfV xs base), .bool (isDigits xs base)]) ∧ Below w.heap.size w w' := by
  cases hbase : inB base 2 36
  · have hw := Lib.hid (isDigits_base (xs := xs) hbase)
    have hv := Lib.hid (wordOfV_no hw.out)
    go_enter Try.func29, Try.ntmps29
    go_wp2_with (go_at_call 59; refine (specBase _ _ (by assumption) _).mono ?_; rintro e w' ⟨rfl, rfl⟩)
    go_ret2
    exact ⟨ret_sb hv.out.symm hw.out.symm, Below.refl _ _⟩
  · have hwr := Lib.hid (wrap_pred hbase)
    obtain ⟨a, c, rfl, h1, h2, _⟩ := id h
    unfold maxLen at h2
    by_cases h20 : xs.length ≤ 20
    · cases hall : allIn xs 0 (base - 1)
      · have hw := Lib.hid (isDigits_all hbase h20 hall)
        have hv := Lib.hid (wordOfV_no hw.out)
        have hbel := specBelow h base
        rw [hwr.out, hall] at hbel
        have Hbel := Lib.hid hbel; clear hbel
        go_enter Try.func29, Try.ntmps29
        go_wp2_with (first | (go_at_call 59; refine (specBase _ _ (by assumption) _).mono ?_; rintro e w' ⟨rfl, rfl⟩) | (go_at_call 60; refine (Calls.mono Hbel.out ?_); rintro e w' ⟨rfl, rfl⟩))
        go_ret2
        exact ⟨ret_sb hv.out.symm hw.out.symm, Below.refl _ _⟩
      · have hw := Lib.hid (isDigits_all hbase h20 hall)
        have hv := Lib.hid (wordOfV_yes hw.out)
        have hbd := inB_true.1 hbase
        have hat : ∀ i, i < xs.length → 0 ≤ nth xs i ∧ nth xs i < 36 := fun i hi => by have := allIn_at hall hi; omega
        have Hat := Lib.hid hat; clear hat
        have hbel := specBelow h base
        rw [hwr.out, hall] at hbel
        have Hbel := Lib.hid hbel; clear hbel
        go_enter Try.func29, Try.ntmps29
        go_wp2_with (first | (go_at_call 59; refine (specBase _ _ (by assumption) _).mono ?_; rintro e w' ⟨rfl, rfl⟩) | (go_at_call 60; refine (Calls.mono Hbel.out ?_); rintro e w' ⟨rfl, rfl⟩) | (go_at_call 61; refine (specFrom h (fun k hk => by omega) hn Hat.out).mono ?_; rintro e w1 ⟨rfl, hb1⟩))
        go_ret2
        exact ⟨ret_sb hv.out.symm hw.out.symm, by assumption⟩
    · have hw := Lib.hid (isDigits_len (base := base) h20)
      have hv := Lib.hid (wordOfV_no hw.out)
      go_enter Try.func29, Try.ntmps29
      go_wp2_with (go_at_call 59; refine (specBase _ _ (by assumption) _).mono ?_; rintro e w' ⟨rfl, rfl⟩)
      go_ret2
      exact ⟨ret_sb hv.out.symm hw.out.symm, Below.refl _ _⟩

theorem implWordOf1 (d base : Int) (b : Nat) (w : World) (hc : w.cell? ⟨b, 0, none⟩ = some (.int .i64 base)) (h : wrap64 (base - 1) = base - 1) :
    Calls Try.prog 64 #[.int .i64 d, .pointer (some ⟨b, 0, none⟩)] w fun e w' => e = .returned (.bool (!inB d 0 (base - 1))) ∧ w = w' := by
  have H := Lib.hid h; clear h
  cases hin : inB d 0 (base - 1)
  · have hin' : inB d 0 (wrap64 (base - 1)) = false := by rw [H.out]; exact hin
    clear hin
    go_enter Try.func64, Try.ntmps64
    go_wp2_with (go_at_call 52; refine (implIn _ _ _ _ (by first | assumption | (rw [← H.out]; assumption)) _).mono ?_; rintro e w' ⟨rfl, rfl⟩)
    go_ret
    exact ⟨rfl, rfl⟩
  · have hin' : inB d 0 (wrap64 (base - 1)) = true := by rw [H.out]; exact hin
    clear hin
    go_enter Try.func64, Try.ntmps64
    go_wp2_with (go_at_call 52; refine (implIn _ _ _ _ (by first | assumption | (rw [← H.out]; assumption)) _).mono ?_; rintro e w' ⟨rfl, rfl⟩)
    go_ret
    exact ⟨rfl, rfl⟩
theorem any_allIn (xs : List Int) (lo hi : Int) : (xs.any fun d => !inB d lo hi) = !allIn xs lo hi := by
  simp [allIn, List.any_eq_not_all_not]

theorem implWordOfX {B : Nat} {v : Value} {xs : List Int} {w : World} (h : RdI (· < B) w v xs) (hB : B ≤ w.heap.size) (base : Int) (hn : xs.length ≤ 1048576) :
    Calls Try.prog 30 #[v, .int .i64 base] w fun e w' => e = .returned (.tuple #[.string (wordOfV xs base), .bool (isDigits xs base)]) ∧ Below w.heap.size w w' := by
  have hmf : ∀ (fn : Fn) (first cap : Array Value) (w : World), (Instr.makeFunc fn first cap).run Try.prog w = .ok (.func fn first cap) w := fun _ _ _ _ => rfl
  cases hbase : inB base 2 36
  · have hw := Lib.hid (isDigits_base (xs := xs) hbase)
    have hv := Lib.hid (wordOfV_no hw.out)
    go_enter Try.func30, Try.ntmps30
    go_wp2_with (go_at_call 62; refine (implBase _ _ (by assumption) _).mono ?_; rintro e w' ⟨rfl, rfl⟩)
    go_ret2
    exact ⟨ret_sb hv.out.symm hw.out.symm, (Below.refl _ _).alloc (Nat.le_refl _) _⟩
  · have hwr := Lib.hid (wrap_pred hbase)
    obtain ⟨a, c, rfl, h1, h2, _⟩ := id h
    unfold maxLen at h2
    have hbW : Below w.heap.size w (w.alloc (.cells #[.int .i64 base] 2)) := (Below.refl _ _).alloc (Nat.le_refl _) _
    have hW := Lib.hid (RdI.ok.keep h fun k hk => hbW.block k (by omega))
    have HbW := Lib.hid hbW; clear hbW
    by_cases h20 : xs.length ≤ 20
    · have hp : ∀ x, x ∈ xs → Calls Try.prog 64 (#[.int .i64 x] ++ #[.pointer (some ⟨w.heap.size, 0, none⟩)]) (w.alloc (.cells #[.int .i64 base] 2)) fun e w' => e = .returned (.bool (!inB x 0 (base - 1))) ∧ (w.alloc (.cells #[.int .i64 base] 2)) = w' :=
        fun x _ => implWordOf1 x base w.heap.size _ (by simp) hwr.out
      have Hp := Lib.hid hp; clear hp
      cases hall : allIn xs 0 (base - 1)
      · have hw := Lib.hid (isDigits_all hbase h20 hall)
        have hv := Lib.hid (wordOfV_no hw.out)
        have hany := Lib.hid (show (xs.any fun d => !inB d 0 (base - 1)) = true by rw [any_allIn, hall]; rfl)
        go_enter Try.func30, Try.ntmps30
        go_wp2_with (first | (go_at_call 62; refine (implBase _ _ (by assumption) _).mono ?_; rintro e w' ⟨rfl, rfl⟩) | (go_at_call 63; refine (slContainsFunc hW.out _ _ _ Hp.out (fun _ _ => by kernel_rfl) _ hany.out).mono ?_; rintro e w' ⟨rfl, rfl⟩))
        go_ret2
        exact ⟨ret_sb hv.out.symm hw.out.symm, HbW.out⟩
      · have hw := Lib.hid (isDigits_all hbase h20 hall)
        have hv := Lib.hid (wordOfV_yes hw.out)
        have hbd := inB_true.1 hbase
        have hat : ∀ i, i < xs.length → 0 ≤ nth xs i ∧ nth xs i < 36 := fun i hi => by have := allIn_at hall hi; omega
        have Hat := Lib.hid hat; clear hat
        have hany := Lib.hid (show (xs.any fun d => !inB d 0 (base - 1)) = false by rw [any_allIn, hall]; rfl)
        go_enter Try.func30, Try.ntmps30
        go_wp2_with (first | (go_at_call 62; refine (implBase _ _ (by assumption) _).mono ?_; rintro e w' ⟨rfl, rfl⟩) | (go_at_call 63; refine (slContainsFunc hW.out _ _ _ Hp.out (fun _ _ => by kernel_rfl) _ hany.out).mono ?_; rintro e w' ⟨rfl, rfl⟩) | (go_at_call 65; refine (implWordOf hW.out (fun k hk => by simp; omega) hn Hat.out).mono ?_; rintro e w1 ⟨rfl, hb1⟩))
        go_ret2
        exact ⟨ret_sb hv.out.symm hw.out.symm, HbW.out.trans (Below.mono (by assumption) (by simp))⟩
    · have hw := Lib.hid (isDigits_len (base := base) h20)
      have hv := Lib.hid (wordOfV_no hw.out)
      go_enter Try.func30, Try.ntmps30
      go_wp2_with (go_at_call 62; refine (implBase _ _ (by assumption) _).mono ?_; rintro e w' ⟨rfl, rfl⟩)
      go_ret2
      exact ⟨ret_sb hv.out.symm hw.out.symm, HbW.out⟩

/-- The remainder of the number of a word's first k digits. -/
def wrem (s : ByteArray) (base m : Int) (k : Nat) : Int := (List.range k).foldl (fun acc i => (acc * base + dig (byt s i)) % m) 0
theorem wrem_succ (s : ByteArray) (base m : Int) (k : Nat) : wrem s base m (k + 1) = (wrem s base m k * base + dig (byt s k)) % m := by simp [wrem, List.range_succ]
theorem wrem_bd {s : ByteArray} {base m : Int} (hm : 1 ≤ m) (hm2 : m ≤ 1000) (k : Nat) : 0 ≤ wrem s base m k ∧ wrem s base m k ≤ 999 := by
  cases k with
  | zero => simp [wrem]
  | succ k => rw [wrem_succ]; have h1 := Int.emod_nonneg (wrem s base m k * base + dig (byt s k)) (show m ≠ 0 by omega); have h2 := Int.emod_lt_of_pos (wrem s base m k * base + dig (byt s k)) (show 0 < m by omega); omega
def isRem (s : ByteArray) (base m : Int) : Bool := isWord s base && inB m 1 1000
def remV (s : ByteArray) (base m : Int) : Int := if isRem s base m then wrem s base m s.size else 0
theorem isRem_word {s : ByteArray} {base m : Int} (h : isWord s base = false) : isRem s base m = false ∧ remV s base m = 0 := by
  have : isRem s base m = false := by simp [isRem, h]
  exact ⟨this, by simp [remV, this]⟩
theorem isRem_mod {s : ByteArray} {base m : Int} (h : inB m 1 1000 = false) : isRem s base m = false ∧ remV s base m = 0 := by
  have : isRem s base m = false := by simp [isRem, h]
  exact ⟨this, by simp [remV, this]⟩
theorem isRem_yes {s : ByteArray} {base m : Int} (h1 : isWord s base = true) (h2 : inB m 1 1000 = true) : isRem s base m = true ∧ remV s base m = wrem s base m s.size := by
  have : isRem s base m = true := by simp [isRem, h1, h2]
  exact ⟨this, by simp [remV, this]⟩
theorem mul_bd2 {a k x y : Int} (h1 : 0 ≤ a) (h2 : a ≤ x) (h3 : 0 ≤ k) (h4 : k ≤ y) : 0 ≤ a * k ∧ a * k ≤ x * y :=
  ⟨Int.mul_nonneg h1 h3, Int.mul_le_mul h2 h4 h3 (by omega)⟩

theorem specWordRemainder (s : ByteArray) (base m : Int) (hs : s.size ≤ 1048576) (w : World) :
    Calls Try.prog 27 #[.string s, .int .i64 base, .int .i64 m] w fun e w' => e = .returned (.tuple #[.int .i64 (remV s base m), .bool (isRem s base m)]) ∧ Below w.heap.size w w' := by
  cases hw : isWord s base
  · have hr := Lib.hid (isRem_word (m := m) hw)
    go_enter Try.func27, Try.ntmps27
    go_wp2_with (go_at_call 50; refine (specWord s base hs _).mono ?_; rintro e w' ⟨rfl, rfl⟩)
    go_ret2
    exact ⟨ret_ib hr.out.2.symm hr.out.1.symm, Below.refl _ _⟩
  · cases hm : inB m 1 1000
    · have hr := Lib.hid (isRem_mod (s := s) (base := base) hm)
      go_enter Try.func27, Try.ntmps27
      go_wp2_with (first | (go_at_call 50; refine (specWord s base hs _).mono ?_; rintro e w' ⟨rfl, rfl⟩) | (go_at_call 57; refine (specIn _ _ _ _ (by assumption) _).mono ?_; rintro e w' ⟨rfl, rfl⟩))
      go_ret2
      exact ⟨ret_ib hr.out.2.symm hr.out.1.symm, Below.refl _ _⟩
    · have hr := Lib.hid (isRem_yes hw hm)
      have hbd := (isWord_true hw).1
      have hmd := inB_true.1 hm
      go_enter Try.func27, Try.ntmps27
      go_wp2_with (first | (go_at_call 50; refine (specWord s base hs _).mono ?_; rintro e w' ⟨rfl, rfl⟩) | (go_at_call 57; refine (specIn _ _ _ _ (by assumption) _).mono ?_; rintro e w' ⟨rfl, rfl⟩))
      go_loop [8, 9] (fun x i => ∃ k : Nat, k ≤ s.size ∧ i = .int .i64 k ∧ x = .int .i64 (wrem s base m k)) (fun _ i => s.size - (intOf i).toNat)
      case atStart => exact ⟨0, Nat.zero_le _, rfl, rfl⟩
      case round =>
        obtain ⟨k, hk, rfl, rfl⟩ := hrel
        have hb := get_bt s
        have hd := byt_bd s k
        have hdd := dig_bd (byt s k)
        have hwb := @wrem_bd s base m hmd.1 hmd.2 k
        have hmul := mul_bd2 (show 0 ≤ base by omega) hbd.2 hwb.1 hwb.2
        have hn := Lib.hid (wrem_succ s base m k)
        have hnn := (isWord_true hw).2.2
        by_cases hlt : k < s.size
        · have hdp := (inB_true.1 (digOk_at hlt hnn)).1
          clear hnn
          go_wp2_with (go_at_call 58; refine (specDigit _ (by omega) (by omega) _).mono ?_; rintro e w' ⟨rfl, rfl⟩)
          go_round
          case rel => exact ⟨k + 1, by omega, by go_num, by rw [hn.out, Int.mul_comm]⟩
          case measure => simp [intOf]; omega
        · obtain rfl : k = s.size := by omega
          clear hnn
          go_wp2
          go_ret2
          exact ⟨ret_ib hr.out.2.symm hr.out.1.symm, Below.refl _ _⟩

theorem implWordRemainder (s : ByteArray) (base m : Int) (hs : s.size ≤ 1048576) (w : World) :
    Calls Try.prog 28 #[.string s, .int .i64 base, .int .i64 m] w fun e w' => e = .returned (.tuple #[.int .i64 (remV s base m), .bool (isRem s base m)]) ∧ Below w.heap.size w w' := by
  cases hw : isWord s base
  · have hr := Lib.hid (isRem_word (m := m) hw)
    go_enter Try.func28, Try.ntmps28
    go_wp2_with (go_at_call 32; refine (implDigitsOf s base _ hs).mono ?_; rintro e w1 ⟨v, rfl, hf⟩)
    go_ret2
    exact ⟨ret_ib hr.out.2.symm hr.out.1.symm, Fresh.bel (by assumption)⟩
  · cases hm : inB m 1 1000
    · have hr := Lib.hid (isRem_mod (s := s) (base := base) hm)
      go_enter Try.func28, Try.ntmps28
      go_wp2_with (first | (go_at_call 32; refine (implDigitsOf s base _ hs).mono ?_; rintro e w1 ⟨v, rfl, hf⟩) | (go_at_call 52; refine (implIn _ _ _ _ (by assumption) _).mono ?_; rintro e w' ⟨rfl, rfl⟩))
      go_ret2
      exact ⟨ret_ib hr.out.2.symm hr.out.1.symm, Fresh.bel (by assumption)⟩
    · have hr := Lib.hid (isRem_yes hw hm)
      have hbd := (isWord_true hw).1
      have hsz := (isWord_true hw).2.1
      have hmd := inB_true.1 hm
      go_enter Try.func28, Try.ntmps28
      go_wp2_with fail
      refine (implDigitsOf s base _ hs).mono ?_
      rintro e w1 ⟨v, rfl, hf⟩
      have Hf := Lib.hid hf; clear hf
      have hrd := Fresh.rd (Own.leads leaf.leads) (Own.ok oI.ok) Hf.out
      rw [digitsOf_yes hw] at hrd
      obtain ⟨a, c, rfl, h1, h2, hrd⟩ := hrd
      rw [digitsL_length] at h1 hrd ⊢
      have Hrd := Lib.hid hrd; clear hrd
      go_wp2_with (go_at_call 52; refine (implIn _ _ _ _ (by assumption) _).mono ?_; rintro e w' ⟨rfl, rfl⟩)
      go_loop [10, 28] (fun x i => ∃ k : Nat, k ≤ s.size ∧ i = .int .i64 k ∧ x = .int .i64 (wrem s base m k)) (fun _ i => s.size - (intOf i).toNat)
      case atStart => exact ⟨0, Nat.zero_le _, rfl, rfl⟩
      case round =>
        obtain ⟨k, hk, rfl, rfl⟩ := hrel
        have hdd := dig_bd (byt s k)
        have hwb := @wrem_bd s base m hmd.1 hmd.2 k
        have hmul := mul_bd2 hwb.1 hwb.2 (show 0 ≤ base by omega) hbd.2
        have hn := Lib.hid (wrem_succ s base m k)
        have hnn := (isWord_true hw).2.2
        by_cases hlt : k < s.size
        · have hdp := (inB_true.1 (digOk_at hlt hnn)).1
          obtain ⟨b, o, u, rfl, hPb, hc, rfl⟩ := Hrd.out k hlt
          rw [nth_digitsL hlt] at hc
          have hc1 : w1.cell? ⟨b, o + k, none⟩ = some (.int .i64 (dig (byt s k))) := hc
          clear hnn hc
          go_wp2
          go_round
          case rel => exact ⟨k + 1, by omega, by go_num, by rw [hn.out]⟩
          case measure => simp [intOf]; omega
        · obtain rfl : k = s.size := by omega
          clear hnn
          go_wp2
          go_ret2
          exact ⟨ret_ib hr.out.2.symm hr.out.1.symm, Hf.out.bel⟩
end Go.Proofs.Ytmgfbmpiaanhkaa
