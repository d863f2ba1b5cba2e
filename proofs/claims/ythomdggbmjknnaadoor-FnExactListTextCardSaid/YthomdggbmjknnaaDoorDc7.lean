/- ListText: both functions whole. -/
import Derived.Test.YthomdggbmjknnaaDoorDc6
import Derived.Test.YthomdggbmjknnaaDoorA1
import Derived.Test.YthomdggbmjknnaaDoorH1
namespace Go.Proofs.YthomdggbmjknnaaDoor
open Go.RowKit
set_option linter.unusedVariables false

def allIn (xs : List Int) (lo hi : Int) : Bool := xs.all fun x => inB x lo hi
theorem allIn_no {xs : List Int} {lo hi : Int} {k : Nat} (hk : k < xs.length) (h : inB (nth xs k) lo hi = false) : allIn xs lo hi = false := by
  unfold allIn; rw [List.all_eq_false]; exact ⟨nth xs k, nth_mem hk, by simp [h]⟩
theorem allIn_yes {xs : List Int} {lo hi : Int} (h : ∀ k, k < xs.length → inB (nth xs k) lo hi = true) : allIn xs lo hi = true := by
  unfold allIn; rw [List.all_eq_true]
  intro x hx
  obtain ⟨i, hi, rfl⟩ := List.mem_iff_getElem.1 hx
  rw [← nth_eq hi]; exact h i hi
theorem allIn_at {xs : List Int} {lo hi : Int} (h : allIn xs lo hi = true) {k : Nat} (hk : k < xs.length) : lo ≤ nth xs k ∧ nth xs k ≤ hi := by
  unfold allIn at h; rw [List.all_eq_true] at h
  exact inB_true.1 (h _ (nth_mem hk))
def firstIdx (xs : List Int) (p : Int → Bool) : Int := match (List.range xs.length).find? fun i => p (nth xs i) with
  | some i => i
  | none => -1
theorem firstIdx_hit {xs : List Int} {p : Int → Bool} {k : Nat} (hk : k < xs.length) (h : ∀ j, j < k → p (nth xs j) = false) (hp : p (nth xs k) = true) : firstIdx xs p = k := by
  unfold firstIdx; rw [find_range hk h hp]
theorem firstIdx_miss {xs : List Int} {p : Int → Bool} (h : ∀ j, j < xs.length → p (nth xs j) = false) : firstIdx xs p = -1 := by
  unfold firstIdx; rw [find_range_none h]
theorem firstIdx_any (xs : List Int) (p : Int → Bool) : decide (0 ≤ firstIdx xs p) = xs.any p := by
  unfold firstIdx
  cases h : (List.range xs.length).find? fun i => p (nth xs i) with
  | none =>
    rw [List.find?_eq_none] at h
    have : xs.any p = false := by
      rw [List.any_eq_false]
      intro x hx
      obtain ⟨i, hi, rfl⟩ := List.mem_iff_getElem.1 hx
      rw [← nth_eq hi]; exact h i (List.mem_range.2 hi)
    rw [this]; rfl
  | some i =>
    have h1 := List.find?_some h
    have h2 := List.mem_of_find?_eq_some h
    have : xs.any p = true := by
      rw [List.any_eq_true]
      exact ⟨nth xs i, nth_mem (List.mem_range.1 h2), h1⟩
    rw [this]
    show decide (0 ≤ (i : Int)) = true
    simp
theorem slIndexFunc {P : Nat → Prop} {v : Value} {xs : List Int} {w : World} (h : RdI P w v xs) (g : Nat) (cap : Array Value) (p : Int → Bool)
    (hp : ∀ x, x ∈ xs → Calls Tryd.prog g (#[.int .i64 x] ++ cap) w fun e w' => e = .returned (.bool (p x)) ∧ w = w')
    (hg : ∀ (args : Array Value) (w : World), (callFunc g args).run Tryd.prog w = .ok (.enter g args) w) :
    Calls Tryd.prog 50 #[v, .func (.func g) #[] cap] w fun e w' => e = .returned (.int .i64 (firstIdx xs p)) ∧ w = w' := by
  obtain ⟨a, c, rfl, h1, h2, hrd⟩ := h
  have Hrd := Lib.hid hrd; clear hrd
  have Hp := Lib.hid hp; clear hp
  unfold maxLen at h2
  go_enter Tryd.func50, Tryd.ntmps50
  go_wp2
  go_loop [8] (fun i => ∃ k : Nat, k ≤ xs.length ∧ i = .int .i64 k ∧ Hid (∀ j, j < k → p (nth xs j) = false)) (fun i => xs.length - (intOf i).toNat)
  case atStart => exact ⟨0, Nat.zero_le _, rfl, Lib.hid fun _ h => absurd h (Nat.not_lt_zero _)⟩
  case round =>
    obtain ⟨k, hk, rfl, hok⟩ := hrel
    by_cases hlt : k < xs.length
    · obtain ⟨b, o, u, rfl, hPb, hc, rfl⟩ := Hrd.out k hlt
      have hc1 : w.cell? ⟨b, o + k, none⟩ = some (Value.int .i64 (nth xs k)) := hc
      clear hc
      have hcl := Hp.out _ (nth_mem hlt)
      cases hin : p (nth xs k)
      · have hok2 := Lib.hid (show ∀ j, j < k + 1 → p (nth xs j) = false from fun j hj => by
          rcases Nat.lt_succ_iff_lt_or_eq.1 hj with h | rfl
          · exact hok.out j h
          · exact hin)
        rw [hin] at hcl
        have Hcl := Lib.hid hcl; clear hcl
        go_wp2_with (refine (Calls.mono Hcl.out ?_); rintro e w' ⟨rfl, rfl⟩)
        go_round
        case rel => exact ⟨k + 1, by omega, by go_num, hok2⟩
        case measure => simp [intOf]; omega
      · have hr := Lib.hid (firstIdx_hit hlt hok.out hin)
        rw [hin] at hcl
        have Hcl := Lib.hid hcl; clear hcl
        go_wp2_with (refine (Calls.mono Hcl.out ?_); rintro e w' ⟨rfl, rfl⟩)
        go_ret
        exact ⟨by rw [hr.out]; rfl, rfl⟩
    · obtain rfl : k = xs.length := by omega
      have hr := Lib.hid (firstIdx_miss hok.out)
      go_wp2
      go_ret
      exact ⟨by rw [hr.out]; rfl, rfl⟩
theorem slContainsFunc {P : Nat → Prop} {v : Value} {xs : List Int} {w : World} (h : RdI P w v xs) (g : Nat) (cap : Array Value) (p : Int → Bool)
    (hp : ∀ x, x ∈ xs → Calls Tryd.prog g (#[.int .i64 x] ++ cap) w fun e w' => e = .returned (.bool (p x)) ∧ w = w')
    (hg : ∀ (args : Array Value) (w : World), (callFunc g args).run Tryd.prog w = .ok (.enter g args) w) (b : Bool) (hb : xs.any p = b) :
    Calls Tryd.prog 34 #[v, .func (.func g) #[] cap] w fun e w' => e = .returned (.bool b) ∧ w = w' := by
  have hr := Lib.hid ((firstIdx_any xs p).trans hb)
  go_enter Tryd.func34, Tryd.ntmps34
  go_wp2_with (go_at_call 50; refine (slIndexFunc h g cap p hp hg).mono ?_; rintro e w' ⟨rfl, rfl⟩)
  go_ret
  exact ⟨ret_bool hr.out, rfl⟩
theorem any_allIn (xs : List Int) (lo hi : Int) : (xs.any fun d => !inB d lo hi) = !allIn xs lo hi := by
  simp [allIn, List.any_eq_not_all_not]

def ltOk (t : List Int) : Bool := decide (t.length ≤ 40) && allIn t (-1000000000000000) 1000000000000000
def ltS (t : List Int) : ByteArray := if ltOk t then ltV t else ⟨#[]⟩
theorem ltS_yes {t : List Int} (h : ltOk t = true) : ltS t = ltV t := by simp [ltS, h]
theorem ltS_no {t : List Int} (h : ltOk t = false) : ltS t = ⟨#[]⟩ := by simp [ltS, h]
theorem ltOk_in {t : List Int} (h : ltOk t = true) : t.length ≤ 40 ∧ ∀ i, i < t.length → -9223372036854775808 ≤ nth t i ∧ nth t i ≤ 9223372036854775807 := by
  simp only [ltOk, Bool.and_eq_true, decide_eq_true_eq] at h
  exact ⟨h.1, fun i hi => by have := allIn_at h.2 hi; omega⟩

theorem specL01List {P : Nat → Prop} {v : Value} {t : List Int} {w : World} (h : RdI P w v t) :
    Calls Tryd.prog 32 #[v] w fun e w' => e = .returned (.bool (ltOk t)) ∧ w = w' := by
  obtain ⟨a, c, rfl, h1, h2, hrd⟩ := h
  have Hrd := Lib.hid hrd
  clear hrd
  unfold maxLen at h2
  go_enter Tryd.func32, Tryd.ntmps32
  go_wp2
  go_loopw [3] (fun i wr => ∃ k : Nat, k ≤ t.length ∧ i = .int .i64 k ∧ Hid (∀ j, j < k → inB (nth t j) (-1000000000000000) 1000000000000000 = true) ∧ w = wr) (fun i _ => t.length - (intOf i).toNat)
  case atStart => exact ⟨0, Nat.zero_le _, rfl, Lib.hid (fun j hj => absurd hj (by omega)), rfl⟩
  case round =>
    obtain ⟨k, hk, rfl, hok, rfl⟩ := hrel
    by_cases hlt : k < t.length
    · obtain ⟨b, o, u, rfl, hPb, hc, rfl⟩ := Hrd.out k hlt
      cases hin : inB (nth t k) (-1000000000000000) 1000000000000000
      · have hv := Lib.hid (show ltOk t = false by simp [ltOk, allIn_no hlt hin])
        go_wp2_with (go_at_call 49; refine (specIn _ _ _ _ (by assumption) _).mono ?_; rintro e w' ⟨rfl, rfl⟩)
        go_ret
        exact ⟨by rw [hv.out]; rfl, rfl⟩
      · have Hin := Lib.hid hin
        go_wp2_with (go_at_call 49; refine (specIn _ _ _ _ (by assumption) _).mono ?_; rintro e w' ⟨rfl, rfl⟩)
        go_roundw
        case rel => exact ⟨k + 1, by omega, by go_num, Lib.hid (fun j hj => by rcases Nat.lt_succ_iff_lt_or_eq.1 hj with h | h; exact hok.out j h; rw [h]; exact Hin.out), trivial⟩
        case measure => simp [intOf]; omega
    · obtain rfl : k = t.length := by omega
      have hv := Lib.hid (show ltOk t = decide (t.length ≤ 40) by simp [ltOk, allIn_yes hok.out])
      by_cases h40 : t.length ≤ 40
      · go_wp2
        go_ret
        exact ⟨by rw [hv.out]; simp [h40]; omega, rfl⟩
      · go_wp2
        go_ret
        exact ⟨by rw [hv.out]; simp [h40]; omega, rfl⟩
theorem specListText {B : Nat} {v : Value} {t : List Int} {w : World} (h : RdI (· < B) w v t) (hB : B ≤ w.heap.size) :
    Calls Tryd.prog 11 #[v] w fun e w' => e = .returned (.tuple #[.string (ltS t), .bool (ltOk t)]) ∧ Below w.heap.size w w' := by
  have Hh := Lib.hid h
  clear h
  go_enter Tryd.func11, Tryd.ntmps11
  go_wp2_with fail
  refine (specL01List Hh.out).mono ?_
  rintro e w1 ⟨rfl, rfl⟩
  cases hq : ltOk t
  · have ht := Lib.hid (ltS_no hq)
    go_wp2_with fail
    go_ret2
    exact ⟨by rw [ht.out, hq]; rfl, Below.refl _ _⟩
  · have ht := Lib.hid (ltS_yes hq)
    have hi := Lib.hid (ltOk_in hq)
    go_wp2_with fail
    refine (specL01Text Hh.out hB hi.out.1 hi.out.2).mono ?_
    rintro e w2 ⟨rfl, hb2⟩
    go_wp2_with fail
    go_ret2
    exact ⟨by rw [ht.out, hq]; rfl, hb2⟩
theorem implListText1 (x : Int) (w : World) :
    Calls Tryd.prog 35 (#[.int .i64 x] ++ #[]) w fun e w' => e = .returned (.bool (!inB x (-1000000000000000) 1000000000000000)) ∧ w = w' := by
  cases hin : inB x (-1000000000000000) 1000000000000000
  all_goals
    go_enter Tryd.func35, Tryd.ntmps35
    go_wp2_with (go_at_call 36; refine (implIn _ _ _ _ (by assumption) _).mono ?_; rintro e w' ⟨rfl, rfl⟩)
    go_ret
    exact ⟨rfl, rfl⟩
theorem implListText {B : Nat} {v : Value} {t : List Int} {w : World} (h : RdI (· < B) w v t) (hB : B ≤ w.heap.size) (htab : Lib.TabIs Tryd.prog w "internal/strconv.uint64pow10" .u64 Lib.pow10Tab) :
    Calls Tryd.prog 13 #[v] w fun e w' => e = .returned (.tuple #[.string (ltS t), .bool (ltOk t)]) ∧ Below w.heap.size w w' := by
  have Hh := Lib.hid h
  have Ht := Lib.hid htab
  obtain ⟨a, c, rfl, h1, h2⟩ := Rd.isSlice' h
  clear h htab
  unfold maxLen at h2
  by_cases h40 : t.length ≤ 40
  rotate_left
  · have hq : ltOk t = false := by simp [ltOk, h40]
    have ht := Lib.hid (ltS_no hq)
    have Hq := Lib.hid hq
    clear hq
    go_enter Tryd.func13, Tryd.ntmps13
    go_wp2_with fail
    go_ret2
    exact ⟨by rw [ht.out, Hq.out]; rfl, Below.refl _ _⟩
  cases hall : allIn t (-1000000000000000) 1000000000000000
  · have hq : ltOk t = false := by simp [ltOk, hall]
    have ht := Lib.hid (ltS_no hq)
    have Hq := Lib.hid hq
    have hany := Lib.hid (show (t.any fun d => !inB d (-1000000000000000) 1000000000000000) = true by rw [any_allIn, hall]; rfl)
    clear hq hall
    go_enter Tryd.func13, Tryd.ntmps13
    go_wp2_with (go_at_call 34; refine (slContainsFunc Hh.out _ _ _ (fun x _ => implListText1 x _) (fun _ _ => by kernel_rfl) _ hany.out).mono ?_; rintro e w' ⟨rfl, rfl⟩)
    go_ret2
    exact ⟨by rw [ht.out, Hq.out]; rfl, Below.refl _ _⟩
  · have hq : ltOk t = true := by simp [ltOk, hall, h40]
    have ht := Lib.hid (ltS_yes hq)
    have hi := Lib.hid (ltOk_in hq)
    have Hq := Lib.hid hq
    have hany := Lib.hid (show (t.any fun d => !inB d (-1000000000000000) 1000000000000000) = false by rw [any_allIn, hall]; rfl)
    clear hq hall
    go_enter Tryd.func13, Tryd.ntmps13
    go_wp2_with (first
      | (go_at_call 34; refine (slContainsFunc Hh.out _ _ _ (fun x _ => implListText1 x _) (fun _ _ => by kernel_rfl) _ hany.out).mono ?_; rintro e w' ⟨rfl, rfl⟩)
      | (go_at_call 37; refine (implListText0 Hh.out hB hi.out.1 hi.out.2 Ht.out).mono ?_; rintro e w2 ⟨rfl, hb2⟩))
    go_ret2
    exact ⟨by rw [ht.out, Hq.out]; rfl, by assumption⟩
end Go.Proofs.YthomdggbmjknnaaDoor
