/- ContainsFunc and IndexFunc over rows; whether two lists are alike. -/
import Derived.Test.YtnpkanlieflbiaaO1
import Derived.Test.YtnpkanlieflbiaaH2
import Derived.Test.YtnpkanlieflbiaaW1
import Derived.Test.YtnpkanlieflbiaaQ1
import Derived.Test.YtnpkanlieflbiaaF1
import Derived.Test.YtnpkanlieflbiaaD1
import Derived.Deep.QuietTactic
import Derived.BigQuiet
namespace Go.Proofs.Ytnpkanlieflbiaa
open Go.RowKit
set_option linter.unusedVariables false

def firstIx (n : Nat) (p : Nat → Bool) : Int := match (List.range n).find? p with
  | some i => i
  | none => -1
theorem firstIx_hit {n k : Nat} {p : Nat → Bool} (hk : k < n) (h : ∀ j, j < k → p j = false) (hp : p k = true) : firstIx n p = k := by
  unfold firstIx; rw [find_range hk h hp]
theorem firstIx_miss {n : Nat} {p : Nat → Bool} (h : ∀ j, j < n → p j = false) : firstIx n p = -1 := by
  unfold firstIx; rw [find_range_none h]
theorem firstIx_any (n : Nat) (p : Nat → Bool) : decide (0 ≤ firstIx n p) = (List.range n).any p := by
  unfold firstIx
  cases h : (List.range n).find? p with
  | none =>
    rw [List.find?_eq_none] at h
    have : (List.range n).any p = false := by rw [List.any_eq_false]; exact h
    rw [this]; rfl
  | some i =>
    have : (List.range n).any p = true := by rw [List.any_eq_true]; exact ⟨i, List.mem_of_find?_eq_some h, List.find?_some h⟩
    rw [this]
    show decide (0 ≤ (i : Int)) = true
    simp

theorem slIndexFunc2 {B : Nat} {v : Value} {xs : List (List Int)} {w : World} (h : RdII (· < B) w v xs) (hB : B ≤ w.heap.size) (g : Nat) (cap : Array Value) (p : Nat → Bool)
    (hp : ∀ i, i < xs.length → ∀ u w1, Below w.heap.size w w1 → RdI (· < B) w1 u (nth xs i) → Calls Try.prog g (#[u] ++ cap) w1 fun e w2 => e = .returned (.bool (p i)) ∧ Below w1.heap.size w1 w2)
    (hg : ∀ (args : Array Value) (w : World), (callFunc g args).run Try.prog w = .ok (.enter g args) w) :
    Calls Try.prog 129 #[v, .func (.func g) #[] cap] w fun e w' => e = .returned (.int .i64 (firstIx xs.length p)) ∧ Below w.heap.size w w' := by
  have H := Lib.hid h
  obtain ⟨a, c, rfl, h1, h2, _⟩ := h
  have Hp := Lib.hid hp; clear hp
  unfold maxLen at h2
  go_enter Try.func129, Try.ntmps129
  go_wp2
  go_loopw [8] (fun i wr => ∃ k : Nat, k ≤ xs.length ∧ i = .int .i64 k ∧ Hid (∀ j, j < k → p j = false) ∧ Hid (Below w.heap.size w wr)) (fun i _ => xs.length - (intOf i).toNat)
  case atStart => exact ⟨0, Nat.zero_le _, rfl, Lib.hid fun _ h => absurd h (Nat.not_lt_zero _), Lib.hid (Below.refl _ _)⟩
  case round =>
    obtain ⟨k, hk, rfl, hok, hbel⟩ := hrel
    obtain ⟨W2, rfl⟩ : ∃ W2, W2 = wr := ⟨_, rfl⟩
    by_cases hlt : k < xs.length
    · have H2 := Lib.hid (RdII.ok.keep H.out fun i hi => hbel.out.block i (by omega))
      obtain ⟨b2, o2, a1, c1, rfl, _, hc1, g1, g2, hr1⟩ := Rd.row H2.out hlt
      have hcl := Hp.out k hlt _ W2 hbel.out hr1
      cases hin : p k
      · have hok2 := Lib.hid (show ∀ j, j < k + 1 → p j = false from fun j hj => by
          rcases Nat.lt_succ_iff_lt_or_eq.1 hj with h | rfl
          · exact hok.out j h
          · exact hin)
        rw [hin] at hcl
        have Hcl := Lib.hid hcl; clear hcl hr1
        go_wp2_with fail
        refine (Calls.mono Hcl.out ?_)
        rintro e w3 ⟨rfl, hb3⟩
        have hbel3 := Lib.hid (hbel.out.trans (hb3.mono hbel.out.size)); clear hb3
        go_wp2
        go_roundw
        case rel => exact ⟨k + 1, by omega, by go_num, hok2, hbel3⟩
        case measure => simp [intOf]; omega
      · have hr := Lib.hid (firstIx_hit hlt hok.out hin)
        rw [hin] at hcl
        have Hcl := Lib.hid hcl; clear hcl hr1
        go_wp2_with fail
        refine (Calls.mono Hcl.out ?_)
        rintro e w3 ⟨rfl, hb3⟩
        have hbel3 := Lib.hid (hbel.out.trans (hb3.mono hbel.out.size)); clear hb3
        go_wp2
        go_ret
        exact ⟨by rw [hr.out]; rfl, hbel3.out⟩
    · obtain rfl : k = xs.length := by omega
      have hr := Lib.hid (firstIx_miss hok.out)
      go_wp2
      go_ret
      exact ⟨by rw [hr.out]; rfl, hbel.out⟩

theorem slContainsFunc2 {B : Nat} {v : Value} {xs : List (List Int)} {w : World} (h : RdII (· < B) w v xs) (hB : B ≤ w.heap.size) (g : Nat) (cap : Array Value) (p : Nat → Bool)
    (hp : ∀ i, i < xs.length → ∀ u w1, Below w.heap.size w w1 → RdI (· < B) w1 u (nth xs i) → Calls Try.prog g (#[u] ++ cap) w1 fun e w2 => e = .returned (.bool (p i)) ∧ Below w1.heap.size w1 w2)
    (hg : ∀ (args : Array Value) (w : World), (callFunc g args).run Try.prog w = .ok (.enter g args) w) (b : Bool) (hb : (List.range xs.length).any p = b) :
    Calls Try.prog 126 #[v, .func (.func g) #[] cap] w fun e w' => e = .returned (.bool b) ∧ Below w.heap.size w w' := by
  have hr := Lib.hid ((firstIx_any xs.length p).trans hb)
  go_enter Try.func126, Try.ntmps126
  go_wp2_with (go_at_call 129; refine (slIndexFunc2 h hB g cap p hp hg).mono ?_; rintro e w' ⟨rfl, hb2⟩)
  go_ret
  exact ⟨ret_bool hr.out, by assumption⟩

theorem specSame {P Q : Nat → Prop} {u v : Value} {xs ys : List Int} {w : World} (h : RdI P w u xs) (h' : RdI Q w v ys) :
    Calls Try.prog 124 #[u, v] w fun e w' => e = .returned (.bool (decide (xs = ys))) ∧ ∃ m, w.drewN m = w' := by
  have H := Lib.hid h
  have H' := Lib.hid h'
  obtain ⟨a, c, rfl, g1, g2, _⟩ := h
  obtain ⟨a', c', rfl, g3, g4, _⟩ := h'
  unfold maxLen at g2 g4
  by_cases hl : xs.length = ys.length
  · have hlb : (((xs.length : Nat) : Int) != ((ys.length : Nat) : Int)) = false := by simp [hl]
    have Hl := Lib.hid hl
    go_enter Try.func124, Try.ntmps124
    go_wp2
    go_loopw [5] (fun i wr => ∃ k m : Nat, k ≤ xs.length ∧ i = .int .i64 k ∧ Hid (∀ j, j < k → nth xs j = nth ys j) ∧ Hid (w.drewN m = wr)) (fun i _ => xs.length - (intOf i).toNat)
    case atStart => exact ⟨0, 0, Nat.zero_le _, rfl, Lib.hid fun _ h => absurd h (Nat.not_lt_zero _), Lib.hid rfl⟩
    case round =>
      obtain ⟨k, m, hk, rfl, hok, hm⟩ := hrel
      obtain ⟨W2, rfl⟩ : ∃ W2, W2 = wr := ⟨_, rfl⟩
      by_cases hlt : k < xs.length
      · have H1 := Lib.hid (show RdI P W2 _ xs by rw [← hm.out]; exact rd_draws RdI.ok H.out m)
        have H1' := Lib.hid (show RdI Q W2 _ ys by rw [← hm.out]; exact rd_draws RdI.ok H'.out m)
        obtain ⟨b3, o3, u3, rfl, _, hc3, rfl⟩ := Rd.elim H1.out k hlt
        obtain ⟨b4, o4, u4, rfl, _, hc4, rfl⟩ := Rd.elim H1'.out k (by have := Hl.out; omega)
        have hc5 : W2.cell? ⟨b3, o3 + k, none⟩ = some (.int .i64 (nth xs k)) := hc3
        have hc6 : W2.cell? ⟨b4, o4 + k, none⟩ = some (.int .i64 (nth ys k)) := hc4
        have hky : k < ys.length := by have := Hl.out; omega
        clear hc3 hc4 hl hlb
        by_cases he : nth xs k = nth ys k
        · have hb1 : (nth xs k != nth ys k) = false := by simp [he]
          have hok2 := Lib.hid (show ∀ j, j < k + 1 → nth xs j = nth ys j from fun j hj => by
            rcases Nat.lt_succ_iff_lt_or_eq.1 hj with h | rfl
            · exact hok.out j h
            · exact he)
          clear he
          go_wp2
          go_quiet (fail)
          go_wp2
          go_roundw
          case rel => exact ⟨k + 1, _, by omega, by go_num, hok2, Lib.hid (draws_more hm.out _)⟩
          case measure => simp [intOf]; omega
        · have hb1 : (nth xs k != nth ys k) = true := by simp [he]
          have hr := Lib.hid (show decide (xs = ys) = false by simp; intro h; exact he (by rw [h]))
          clear he
          go_wp2
          go_quiet (fail)
          go_wp2
          go_ret
          exact ⟨ret_bool hr.out.symm, _, draws_more hm.out _⟩
      · obtain rfl : k = xs.length := by omega
        have hr := Lib.hid (show decide (xs = ys) = true by simp; exact ext_nth Hl.out hok.out)
        clear hl hlb
        go_wp2
        go_ret
        exact ⟨ret_bool hr.out.symm, _, hm.out⟩
  · have hlb : (((xs.length : Nat) : Int) != ((ys.length : Nat) : Int)) = true := by simp; omega
    have hr := Lib.hid (show decide (xs = ys) = false by simp; intro h; exact hl (by rw [h]))
    clear hl
    go_enter Try.func124, Try.ntmps124
    go_wp2
    go_ret
    exact ⟨ret_bool hr.out.symm, 0, rfl⟩
end Go.Proofs.Ytnpkanlieflbiaa
