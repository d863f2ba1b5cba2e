/- Digits and words: the walks of both sides' functions over symbols. -/
import Derived.Test.YtnpkanlieflbiaaA1
import Derived.Test.YtnpkanlieflbiaaH1
import Derived.Lib.Bytealg
namespace Go.Proofs.Ytnpkanlieflbiaa
open Go.RowKit
set_option linter.unusedVariables false

def dig (c : Int) : Int := if 48 ≤ c ∧ c ≤ 57 then c - 48 else if 65 ≤ c ∧ c ≤ 90 then c - 55 else -1
theorem dig_bd (c : Int) : -1 ≤ dig c ∧ dig c ≤ 35 := by unfold dig; (repeat' split) <;> omega

abbrev symbols : ByteArray := { data := #[48, 49, 50, 51, 52, 53, 54, 55, 56, 57, 65, 66, 67, 68, 69, 70, 71, 72, 73, 74, 75, 76, 77, 78, 79, 80, 81, 82, 83, 84, 85, 86, 87, 88, 89, 90] }
theorem index_dig : ∀ n : Nat, n < 256 → Lib.indexByte symbols.data.toList n.toUInt8 = dig n := by decide +kernel
def digitsL (s : ByteArray) (k : Nat) : List Int := (List.range k).map fun i => dig (byt s i)
theorem digitsL_length (s : ByteArray) (k : Nat) : (digitsL s k).length = k := by simp [digitsL]
theorem digitsL_succ (s : ByteArray) (k : Nat) : digitsL s (k + 1) = digitsL s k ++ [dig (byt s k)] := by simp [digitsL, List.range_succ]
theorem nth_digitsL {s : ByteArray} {k i : Nat} (h : i < k) : nth (digitsL s k) i = dig (byt s i) := by
  rw [nth_eq (by simpa [digitsL_length] using h)]; simp [digitsL]

end Go.Proofs.Ytnpkanlieflbiaa
/- Words over a base: both sides' functions. -/
namespace Go.Proofs.Ytnpkanlieflbiaa
open Go.RowKit
set_option linter.unusedVariables false

def digOk (s : ByteArray) (base : Int) (k : Nat) : Bool := (List.range k).all fun i => inB (dig (byt s i)) 0 (base - 1)
theorem digOk_succ (s : ByteArray) (base : Int) (k : Nat) : digOk s base (k + 1) = (digOk s base k && inB (dig (byt s k)) 0 (base - 1)) := by simp [digOk, List.range_succ]
theorem digOk_no {s : ByteArray} {base : Int} {k n : Nat} (hk : k < n) (h : inB (dig (byt s k)) 0 (base - 1) = false) : digOk s base n = false := by
  unfold digOk
  rw [List.all_eq_false]
  exact ⟨k, List.mem_range.2 hk, by simp [h]⟩
theorem digOk_at {s : ByteArray} {base : Int} {k n : Nat} (hk : k < n) (h : digOk s base n = true) : inB (dig (byt s k)) 0 (base - 1) = true := by
  unfold digOk at h
  rw [List.all_eq_true] at h
  exact h k (List.mem_range.2 hk)
/-- Whether a text is a word over a base. -/
def isWord (s : ByteArray) (base : Int) : Bool := inB base 2 36 && decide (s.size ≤ 20) && digOk s base s.size
theorem isWord_base {s : ByteArray} {base : Int} (h : inB base 2 36 = false) : isWord s base = false := by simp [isWord, h]
theorem isWord_size {s : ByteArray} {base : Int} (h : ¬ s.size ≤ 20) : isWord s base = false := by simp [isWord, h]
theorem isWord_dig {s : ByteArray} {base : Int} {k : Nat} (hk : k < s.size) (h : inB (dig (byt s k)) 0 (base - 1) = false) : isWord s base = false := by simp [isWord, digOk_no hk h]
theorem isWord_ok {s : ByteArray} {base : Int} (h1 : inB base 2 36 = true) (h2 : s.size ≤ 20) (h3 : digOk s base s.size = true) : isWord s base = true := by simp [isWord, h1, h2, h3]
theorem isWord_true {s : ByteArray} {base : Int} (h : isWord s base = true) : (2 ≤ base ∧ base ≤ 36) ∧ s.size ≤ 20 ∧ digOk s base s.size = true := by
  simp only [isWord, Bool.and_eq_true, decide_eq_true_eq] at h
  exact ⟨inB_true.1 h.1.1, h.1.2, h.2⟩

theorem specBase (n : Int) (b : Bool) (hb : inB n 2 36 = b) (w : World) :
    Calls Try.prog 132 #[.int .i64 n] w fun e w' => e = .returned (.bool b) ∧ w = w' := by
  go_enter Try.func132, Try.ntmps132
  go_wp2_with (go_at_call 73; refine (specIn _ _ _ _ (by assumption) _).mono ?_; rintro e w' ⟨rfl, rfl⟩)
  go_ret
  exact ⟨rfl, rfl⟩
theorem implBase (n : Int) (b : Bool) (hb : inB n 2 36 = b) (w : World) :
    Calls Try.prog 118 #[.int .i64 n] w fun e w' => e = .returned (.bool b) ∧ w = w' := by
  go_enter Try.func118, Try.ntmps118
  go_wp2_with (go_at_call 78; refine (implIn _ _ _ _ (by assumption) _).mono ?_; rintro e w' ⟨rfl, rfl⟩)
  go_ret
  exact ⟨rfl, rfl⟩

/-- The bound that the code reckons: it wraps round at the least base alone. -/
theorem wrap_pred {base : Int} (h : inB base 2 36 = true) : wrap64 (base - 1) = base - 1 := by
  have := inB_true.1 h
  exact IntWalk.wrap64_in _ (by omega)

/-- The digits of a word; none of another text. -/
def digitsOf (s : ByteArray) (base : Int) : List Int := if isWord s base then digitsL s s.size else []
theorem digitsOf_no {s : ByteArray} {base : Int} (h : isWord s base = false) : digitsOf s base = [] := by simp [digitsOf, h]
theorem digitsOf_yes {s : ByteArray} {base : Int} (h : isWord s base = true) : digitsOf s base = digitsL s s.size := by simp [digitsOf, h]

end Go.Proofs.Ytnpkanlieflbiaa
/- Words from digits, remainders of words. -/
namespace Go.Proofs.Ytnpkanlieflbiaa
open Go.RowKit
set_option linter.unusedVariables false

theorem infoU8 : (Try.prog.info? 5).map (fun i => (i.zero, i.size, i.bytes)) = some (some (.int .u8 0), 1, 1) := by kernel_rfl
abbrev OY := OwnY 5

/-- The word of digits. -/
def syms (xs : List Int) : List UInt8 := xs.map fun d => symN d.toNat
def wordS (xs : List Int) : ByteArray := ⟨(syms xs).toArray⟩
theorem syms_take_succ {xs : List Int} {k : Nat} (h : k < xs.length) : syms (xs.take (k + 1)) = syms (xs.take k) ++ [symN (nth xs k).toNat] := by
  rw [take_nth h]; simp [syms]
theorem syms_length (xs : List Int) : (syms xs).length = xs.length := by simp [syms]

theorem specFrom {P : Nat → Prop} {v : Value} {xs : List Int} {w : World} (h : RdI P w v xs) (hP : ∀ k, P k → k < w.heap.size) (hn : xs.length ≤ 1048576) (hx : ∀ i, i < xs.length → 0 ≤ nth xs i ∧ nth xs i < 36) :
    Calls Try.prog 153 #[v] w fun e w' => e = .returned (.string (wordS xs)) ∧ Below w.heap.size w w' := by
  obtain ⟨a, c, rfl, h1, h2, hrd⟩ := h
  have Hrd := Lib.hid hrd; clear hrd
  go_enter Try.func153, Try.ntmps153
  go_wp2
  go_loopw [3, 4] (fun v i wr => ∃ k : Nat, k ≤ xs.length ∧ i = .int .i64 k ∧ Fresh OY w wr v (syms (xs.take k))) (fun _ i _ => xs.length - (intOf i).toNat)
  case atStart => exact ⟨0, Nat.zero_le _, rfl, Fresh.empty (Below.refl _ _)⟩
  case round =>
    obtain ⟨k, hk, rfl, hf⟩ := hrel
    by_cases hlt : k < xs.length
    · obtain ⟨b, o, u, rfl, hPb, hc, rfl⟩ := Hrd.out k hlt
      have hc1 : _ = some (Value.int .i64 (nth xs k)) := (hf.bel.cell (hP b hPb)).trans hc
      obtain ⟨n, hn'⟩ := Int.eq_ofNat_of_zero_le (hx k hlt).1
      have hn36 := (hx k hlt).2
      have hs := Lib.hid (show syms (xs.take (k + 1)) = syms (xs.take k) ++ [symN n] by rw [syms_take_succ hlt, hn']; rfl)
      rw [hn'] at hc1 hn36
      have hl2 := Lib.hid (show (syms (xs.take k)).length ≤ 1048576 by rw [syms_length, List.length_take]; omega)
      clear hc hn'
      go_wp2_with (first
        | (go_at_call 168; refine (specSymbol n (by omega) _).mono ?_; rintro e w' ⟨rfl, rfl⟩)
        | (at_builtin; refine wpList_pushF rfl (.tmp 12) (.tmp 18) 50 rfl (f := fY) (fun _ => rfl) Try.underlying50 infoU8 rfl hf (symN n) (by have := hl2.out; omega) (by have := hl2.out; unfold maxLen; omega) rfl rfl ?_; intro v1 w1 hf1))
      go_roundw
      case rel => exact ⟨k + 1, by omega, by go_num, by rw [hs.out]; assumption⟩
      case measure => simp [intOf]; omega
    · obtain rfl : k = xs.length := by omega
      rw [List.take_length] at hf
      have hr := hf.rd (Own.leads leaf.leads) (Own.ok oY.ok)
      have hb := hf.bel
      go_wp2_with (refine wpList_str rfl (.tmp 20) 50 9 5 rfl Try.underlying50 Try.underlying5 Try.underlying9 rfl hr ?_)
      go_ret
      exact ⟨rfl, hb⟩

theorem symGet : ∀ n : Nat, n < 36 → symbols[n]? = some (symN n) := by decide +kernel
theorem symAt (n : Nat) (hn : n < 36) : ∀ h : n < symbols.size, ((symbols[n]'h).toNat : Int) = ((symN n).toNat : Int) := by
  intro h
  have := symGet n hn
  rw [getElem?_pos symbols n h] at this
  rw [Option.some.inj this]
theorem implWordOf {P : Nat → Prop} {v : Value} {xs : List Int} {w : World} (h : RdI P w v xs) (hP : ∀ k, P k → k < w.heap.size) (hn : xs.length ≤ 1048576) (hx : ∀ i, i < xs.length → 0 ≤ nth xs i ∧ nth xs i < 36) :
    Calls Try.prog 111 #[v] w fun e w' => e = .returned (.string (wordS xs)) ∧ Below w.heap.size w w' := by
  obtain ⟨a, c, rfl, h1, h2, hrd⟩ := h
  have Hrd := Lib.hid hrd; clear hrd
  go_enter Try.func111, Try.ntmps111
  go_wp2
  go_loopw [3, 9] (fun v i wr => ∃ k : Nat, k ≤ xs.length ∧ i = .int .i64 k ∧ Fresh OY w wr v (syms (xs.take k))) (fun _ i _ => xs.length - (intOf i).toNat)
  case atStart => exact ⟨0, Nat.zero_le _, rfl, Fresh.empty (Below.refl _ _)⟩
  case round =>
    obtain ⟨k, hk, rfl, hf⟩ := hrel
    by_cases hlt : k < xs.length
    · obtain ⟨b, o, u, rfl, hPb, hc, rfl⟩ := Hrd.out k hlt
      have hc1 : _ = some (Value.int .i64 (nth xs k)) := (hf.bel.cell (hP b hPb)).trans hc
      obtain ⟨n, hn'⟩ := Int.eq_ofNat_of_zero_le (hx k hlt).1
      have hn36 := (hx k hlt).2
      have hs := Lib.hid (show syms (xs.take (k + 1)) = syms (xs.take k) ++ [symN n] by rw [syms_take_succ hlt, hn']; rfl)
      rw [hn'] at hc1 hn36
      have hl2 := Lib.hid (show (syms (xs.take k)).length ≤ 1048576 by rw [syms_length, List.length_take]; omega)
      have hg := symAt n (by omega)
      clear hc hn'
      go_wp2_with (at_builtin; refine wpList_pushF rfl (.tmp 13) (.tmp 16) 50 rfl (f := fY) (fun _ => rfl) Try.underlying50 infoU8 rfl hf (symN n) (by have := hl2.out; omega) (by have := hl2.out; unfold maxLen; omega) rfl rfl ?_; intro v1 w1 hf1)
      go_roundw
      case rel => exact ⟨k + 1, by omega, by go_num, by rw [hs.out]; assumption⟩
      case measure => simp [intOf]; omega
    · obtain rfl : k = xs.length := by omega
      rw [List.take_length] at hf
      have hr := hf.rd (Own.leads leaf.leads) (Own.ok oY.ok)
      have hb := hf.bel
      go_wp2_with (refine wpList_str rfl (.tmp 19) 50 9 5 rfl Try.underlying50 Try.underlying5 Try.underlying9 rfl hr ?_)
      go_ret
      exact ⟨rfl, hb⟩

/-- All numbers of a list are from 0 on and below n. -/
def allIn (xs : List Int) (lo hi : Int) : Bool := xs.all fun x => inB x lo hi
theorem allIn_no {xs : List Int} {lo hi : Int} {k : Nat} (hk : k < xs.length) (h : inB (nth xs k) lo hi = false) : allIn xs lo hi = false := by
  unfold allIn; rw [List.all_eq_false]; exact ⟨nth xs k, nth_mem hk, by simp [h]⟩
theorem allIn_yes {xs : List Int} {lo hi : Int} (h : ∀ k, k < xs.length → inB (nth xs k) lo hi = true) : allIn xs lo hi = true := by
  unfold allIn; rw [List.all_eq_true]
  intro x hx
  obtain ⟨i, hi, rfl⟩ := List.mem_iff_getElem.1 hx
  rw [← nth_eq hi]; exact h i hi
theorem allIn_at {xs : List Int} {lo hi : Int} (h : allIn xs lo hi = true) {k : Nat} (hk : k < xs.length) : lo ≤ nth xs k ∧ nth xs k ≤ hi := by
  unfold allIn at h; rw [List.all_eq_true] at h
  exact inB_true.1 (h _ (nth_mem hk))

theorem specBelow {P : Nat → Prop} {v : Value} {xs : List Int} {w : World} (h : RdI P w v xs) (n : Int) :
    Calls Try.prog 116 #[v, .int .i64 n] w fun e w' => e = .returned (.bool (allIn xs 0 (wrap64 (n - 1)))) ∧ w = w' := by
  obtain ⟨a, c, rfl, h1, h2, hrd⟩ := h
  have Hrd := Lib.hid hrd; clear hrd
  unfold maxLen at h2
  go_enter Try.func116, Try.ntmps116
  go_wp2
  go_loop [5] (fun i => ∃ k : Nat, k ≤ xs.length ∧ i = .int .i64 k ∧ Hid (∀ j, j < k → inB (nth xs j) 0 (wrap64 (n - 1)) = true)) (fun i => xs.length - (intOf i).toNat)
  case atStart => exact ⟨0, Nat.zero_le _, rfl, Lib.hid fun _ h => absurd h (Nat.not_lt_zero _)⟩
  case round =>
    obtain ⟨k, hk, rfl, hok⟩ := hrel
    by_cases hlt : k < xs.length
    · obtain ⟨b, o, u, rfl, hPb, hc, rfl⟩ := Hrd.out k hlt
      have hc1 : w.cell? ⟨b, o + k, none⟩ = some (Value.int .i64 (nth xs k)) := hc
      clear hc
      cases hin : inB (nth xs k) 0 (wrap64 (n - 1))
      · have hr := Lib.hid (allIn_no hlt hin)
        go_wp2_with (go_at_call 73; refine (specIn _ _ _ _ (by assumption) _).mono ?_; rintro e w' ⟨rfl, rfl⟩)
        go_ret
        exact ⟨by rw [hr.out]; rfl, rfl⟩
      · have hok2 := Lib.hid (show ∀ j, j < k + 1 → inB (nth xs j) 0 (wrap64 (n - 1)) = true from fun j hj => by
          rcases Nat.lt_succ_iff_lt_or_eq.1 hj with h | rfl
          · exact hok.out j h
          · exact hin)
        go_wp2_with (go_at_call 73; refine (specIn _ _ _ _ (by assumption) _).mono ?_; rintro e w' ⟨rfl, rfl⟩)
        go_round
        case rel => exact ⟨k + 1, by omega, by go_num, hok2⟩
        case measure => simp [intOf]; omega
    · obtain rfl : k = xs.length := by omega
      have hr := Lib.hid (allIn_yes hok.out)
      go_wp2
      go_ret
      exact ⟨by rw [hr.out]; rfl, rfl⟩

/-- The index of the first of which p holds. -/
def firstIdx (xs : List Int) (p : Int → Bool) : Int := match (List.range xs.length).find? fun i => p (nth xs i) with
  | some i => i
  | none => -1
theorem firstIdx_hit {xs : List Int} {p : Int → Bool} {k : Nat} (hk : k < xs.length) (h : ∀ j, j < k → p (nth xs j) = false) (hp : p (nth xs k) = true) : firstIdx xs p = k := by
  unfold firstIdx; rw [find_range hk h hp]
theorem firstIdx_miss {xs : List Int} {p : Int → Bool} (h : ∀ j, j < xs.length → p (nth xs j) = false) : firstIdx xs p = -1 := by
  unfold firstIdx; rw [find_range_none h]
theorem firstIdx_any (xs : List Int) (p : Int → Bool) : decide (0 ≤ firstIdx xs p) = xs.any p := by
  unfold firstIdx
  cases h : (List.range xs.length).find? fun i => p (nth xs i) with
  | none =>
    rw [List.find?_eq_none] at h
    have : xs.any p = false := by
      rw [List.any_eq_false]
      intro x hx
      obtain ⟨i, hi, rfl⟩ := List.mem_iff_getElem.1 hx
      rw [← nth_eq hi]; exact h i (List.mem_range.2 hi)
    rw [this]; rfl
  | some i =>
    have h1 := List.find?_some h
    have h2 := List.mem_of_find?_eq_some h
    have : xs.any p = true := by
      rw [List.any_eq_true]
      exact ⟨nth xs i, nth_mem (List.mem_range.1 h2), h1⟩
    rw [this]
    show decide (0 ≤ (i : Int)) = true
    simp

theorem slIndexFunc {P : Nat → Prop} {v : Value} {xs : List Int} {w : World} (h : RdI P w v xs) (g : Nat) (cap : Array Value) (p : Int → Bool)
    (hp : ∀ x, x ∈ xs → Calls Try.prog g (#[.int .i64 x] ++ cap) w fun e w' => e = .returned (.bool (p x)) ∧ w = w')
    (hg : ∀ (args : Array Value) (w : World), (callFunc g args).run Try.prog w = .ok (.enter g args) w) :
    Calls Try.prog 162 #[v, .func (.func g) #[] cap] w fun e w' => e = .returned (.int .i64 (firstIdx xs p)) ∧ w = w' := by
  obtain ⟨a, c, rfl, h1, h2, hrd⟩ := h
  have Hrd := Lib.hid hrd; clear hrd
  have Hp := Lib.hid hp; clear hp
  unfold maxLen at h2
  go_enter Try.func162, Try.ntmps162
  go_wp2
  go_loop [8] (fun i => ∃ k : Nat, k ≤ xs.length ∧ i = .int .i64 k ∧ Hid (∀ j, j < k → p (nth xs j) = false)) (fun i => xs.length - (intOf i).toNat)
  case atStart => exact ⟨0, Nat.zero_le _, rfl, Lib.hid fun _ h => absurd h (Nat.not_lt_zero _)⟩
  case round =>
    obtain ⟨k, hk, rfl, hok⟩ := hrel
    by_cases hlt : k < xs.length
    · obtain ⟨b, o, u, rfl, hPb, hc, rfl⟩ := Hrd.out k hlt
      have hc1 : w.cell? ⟨b, o + k, none⟩ = some (Value.int .i64 (nth xs k)) := hc
      clear hc
      have hcl := Hp.out _ (nth_mem hlt)
      cases hin : p (nth xs k)
      · have hok2 := Lib.hid (show ∀ j, j < k + 1 → p (nth xs j) = false from fun j hj => by
          rcases Nat.lt_succ_iff_lt_or_eq.1 hj with h | rfl
          · exact hok.out j h
          · exact hin)
        rw [hin] at hcl
        have Hcl := Lib.hid hcl; clear hcl
        go_wp2_with (refine (Calls.mono Hcl.out ?_); rintro e w' ⟨rfl, rfl⟩)
        go_round
        case rel => exact ⟨k + 1, by omega, by go_num, hok2⟩
        case measure => simp [intOf]; omega
      · have hr := Lib.hid (firstIdx_hit hlt hok.out hin)
        rw [hin] at hcl
        have Hcl := Lib.hid hcl; clear hcl
        go_wp2_with (refine (Calls.mono Hcl.out ?_); rintro e w' ⟨rfl, rfl⟩)
        go_ret
        exact ⟨by rw [hr.out]; rfl, rfl⟩
    · obtain rfl : k = xs.length := by omega
      have hr := Lib.hid (firstIdx_miss hok.out)
      go_wp2
      go_ret
      exact ⟨by rw [hr.out]; rfl, rfl⟩
end Go.Proofs.Ytnpkanlieflbiaa
/- Words from digits, remainders of words: the functions that the laws call. -/
namespace Go.Proofs.Ytnpkanlieflbiaa
open Go.RowKit
set_option linter.unusedVariables false

theorem slContainsFunc {P : Nat → Prop} {v : Value} {xs : List Int} {w : World} (h : RdI P w v xs) (g : Nat) (cap : Array Value) (p : Int → Bool)
    (hp : ∀ x, x ∈ xs → Calls Try.prog g (#[.int .i64 x] ++ cap) w fun e w' => e = .returned (.bool (p x)) ∧ w = w')
    (hg : ∀ (args : Array Value) (w : World), (callFunc g args).run Try.prog w = .ok (.enter g args) w) (b : Bool) (hb : xs.any p = b) :
    Calls Try.prog 119 #[v, .func (.func g) #[] cap] w fun e w' => e = .returned (.bool b) ∧ w = w' := by
  have hr := Lib.hid ((firstIdx_any xs p).trans hb)
  go_enter Try.func119, Try.ntmps119
  go_wp2_with (go_at_call 162; refine (slIndexFunc h g cap p hp hg).mono ?_; rintro e w' ⟨rfl, rfl⟩)
  go_ret
  exact ⟨ret_bool hr.out, rfl⟩

def isDigits (xs : List Int) (base : Int) : Bool := inB base 2 36 && decide (xs.length ≤ 20) && allIn xs 0 (base - 1)
theorem isDigits_base {xs : List Int} {base : Int} (h : inB base 2 36 = false) : isDigits xs base = false := by simp [isDigits, h]
theorem isDigits_len {xs : List Int} {base : Int} (h : ¬ xs.length ≤ 20) : isDigits xs base = false := by simp [isDigits, h]
theorem isDigits_all {xs : List Int} {base : Int} {b : Bool} (h1 : inB base 2 36 = true) (h2 : xs.length ≤ 20) (h : allIn xs 0 (base - 1) = b) : isDigits xs base = b := by simp [isDigits, h1, h2, h]
def wordOfV (xs : List Int) (base : Int) : ByteArray := if isDigits xs base then wordS xs else ⟨#[]⟩
theorem wordOfV_no {xs : List Int} {base : Int} (h : isDigits xs base = false) : wordOfV xs base = ⟨#[]⟩ := by simp [wordOfV, h]
theorem wordOfV_yes {xs : List Int} {base : Int} (h : isDigits xs base = true) : wordOfV xs base = wordS xs := by simp [wordOfV, h]

theorem any_allIn (xs : List Int) (lo hi : Int) : (xs.any fun d => !inB d lo hi) = !allIn xs lo hi := by
  simp [allIn, List.any_eq_not_all_not]

/-- The remainder of the number of a word's first k digits. -/
def wrem (s : ByteArray) (base m : Int) (k : Nat) : Int := (List.range k).foldl (fun acc i => (acc * base + dig (byt s i)) % m) 0
theorem wrem_succ (s : ByteArray) (base m : Int) (k : Nat) : wrem s base m (k + 1) = (wrem s base m k * base + dig (byt s k)) % m := by simp [wrem, List.range_succ]
theorem wrem_bd {s : ByteArray} {base m : Int} (hm : 1 ≤ m) (hm2 : m ≤ 1000) (k : Nat) : 0 ≤ wrem s base m k ∧ wrem s base m k ≤ 999 := by
  cases k with
  | zero => simp [wrem]
  | succ k => rw [wrem_succ]; have h1 := Int.emod_nonneg (wrem s base m k * base + dig (byt s k)) (show m ≠ 0 by omega); have h2 := Int.emod_lt_of_pos (wrem s base m k * base + dig (byt s k)) (show 0 < m by omega); omega
def isRem (s : ByteArray) (base m : Int) : Bool := isWord s base && inB m 1 1000
def remV (s : ByteArray) (base m : Int) : Int := if isRem s base m then wrem s base m s.size else 0
theorem isRem_word {s : ByteArray} {base m : Int} (h : isWord s base = false) : isRem s base m = false ∧ remV s base m = 0 := by
  have : isRem s base m = false := by simp [isRem, h]
  exact ⟨this, by simp [remV, this]⟩
theorem isRem_mod {s : ByteArray} {base m : Int} (h : inB m 1 1000 = false) : isRem s base m = false ∧ remV s base m = 0 := by
  have : isRem s base m = false := by simp [isRem, h]
  exact ⟨this, by simp [remV, this]⟩
theorem isRem_yes {s : ByteArray} {base m : Int} (h1 : isWord s base = true) (h2 : inB m 1 1000 = true) : isRem s base m = true ∧ remV s base m = wrem s base m s.size := by
  have : isRem s base m = true := by simp [isRem, h1, h2]
  exact ⟨this, by simp [remV, this]⟩
theorem mul_bd2 {a k x y : Int} (h1 : 0 ≤ a) (h2 : a ≤ x) (h3 : 0 ≤ k) (h4 : k ≤ y) : 0 ≤ a * k ∧ a * k ≤ x * y :=
  ⟨Int.mul_nonneg h1 h3, Int.mul_le_mul h2 h4 h3 (by omega)⟩

end Go.Proofs.Ytnpkanlieflbiaa
