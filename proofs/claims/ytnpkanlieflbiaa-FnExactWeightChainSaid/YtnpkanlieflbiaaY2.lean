/- slices.Equal over numbers, and the closure of impl.adding. -/
import Derived.Test.YtnpkanlieflbiaaY1
import Derived.Test.YtnpkanlieflbiaaJ1
namespace Go.Proofs.Ytnpkanlieflbiaa
open Go.RowKit
set_option linter.unusedVariables false

set_option maxHeartbeats 800000 in
set_option maxRecDepth 10000 in
theorem slEqual {P Q : Nat → Prop} {u v : Value} {xs ys : List Int} {w : World} (h : RdI P w u xs) (h' : RdI Q w v ys) :
    Calls Try.prog 131 #[u, v] w fun e w' => e = .returned (.bool (decide (xs = ys))) ∧ ∃ m, w.drewN m = w' := by
  have H := Lib.hid h
  have H' := Lib.hid h'
  obtain ⟨a, c, rfl, h1, h2, _⟩ := h
  obtain ⟨a', c', rfl, h3, h4, _⟩ := h'
  unfold maxLen at h2 h4
  by_cases hl : xs.length = ys.length
  · have Hl := Lib.hid hl
    obtain ⟨n, hn⟩ : ∃ n, xs.length = n := ⟨_, rfl⟩
    have Hn := Lib.hid hn
    have hn' : ys.length = n := by omega
    have Hn' := Lib.hid hn'
    rw [hn] at h1 H ⊢
    rw [hn'] at h3 H' ⊢
    clear hl hn hn'
    have hnn : ((n : Int) != (n : Int)) = false := by simp
    go_enter Try.func131, Try.ntmps131
    go_wp2
    go_loopw [13] (fun i wr => ∃ k m : Nat, k ≤ n ∧ i = .int .i64 k ∧ Hid (∀ j, j < k → nth xs j = nth ys j) ∧ Hid (w.drewN m = wr)) (fun i _ => n - (intOf i).toNat)
    case atStart => exact ⟨0, 0, Nat.zero_le _, rfl, Lib.hid fun _ h => absurd h (Nat.not_lt_zero _), Lib.hid rfl⟩
    case round =>
      obtain ⟨k, m, hk, rfl, hok, hm⟩ := hrel
      obtain ⟨W2, rfl⟩ : ∃ W2, W2 = wr := ⟨_, rfl⟩
      by_cases hlt : k < n
      · obtain ⟨b3, o3, u3, rfl, _, hc3, rfl⟩ := Rd.elim H.out k (by rw [Hn.out]; exact hlt)
        obtain ⟨b4, o4, u4, rfl, _, hc4, rfl⟩ := Rd.elim H'.out k (by rw [Hn'.out]; exact hlt)
        have c1 : W2.cell? ⟨b3, o3 + k, none⟩ = some (.int .i64 (nth xs k)) := by rw [← hm.out]; exact hc3
        have c2 : W2.cell? ⟨b4, o4 + k, none⟩ = some (.int .i64 (nth ys k)) := by rw [← hm.out]; exact hc4
        clear hc3 hc4
        have k0 : (0 : Int) ≤ (k : Int) := by omega
        have k1 : (k : Int) < (n : Int) := by omega
        by_cases he : nth xs k = nth ys k
        · have hok2 := Lib.hid (show ∀ j, j < k + 1 → nth xs j = nth ys j from fun j hj => by
            rcases Nat.lt_succ_iff_lt_or_eq.1 hj with h | rfl
            · exact hok.out j h
            · exact he)
          rw [he] at c1
          clear he
          generalize nth ys k = z at *
          have hzz : (z != z) = false := by simp
          go_wp2
          go_quiet (fail)
          go_wp2
          go_roundw
          case rel => exact ⟨k + 1, _, by omega, by go_num, hok2, Lib.hid (draws_more hm.out _)⟩
          case measure => simp [intOf]; omega
        · have hne := Lib.hid (show decide (xs = ys) = false by simp; intro e; exact he (by rw [e]))
          have hzz : (nth xs k != nth ys k) = true := by simp [he]
          generalize nth xs k = z1 at *
          generalize nth ys k = z2 at *
          go_wp2
          go_quiet (fail)
          go_wp2
          go_ret
          exact ⟨by rw [hne.out]; rfl, _, draws_more hm.out _⟩
      · obtain ⟨hkn⟩ : Nonempty (k = n) := ⟨by omega⟩
        have he := Lib.hid (show decide (xs = ys) = true by
          rw [decide_eq_true_eq]
          exact ext_nth Hl.out fun i hi => hok.out i (by have := Hn.out; omega))
        clear hkn
        go_wp2
        go_ret
        exact ⟨by rw [he.out]; rfl, m, hm.out⟩
  · have hne := Lib.hid (show decide (xs = ys) = false by simp; intro e; exact hl (by rw [e]))
    generalize xs.length = n1 at *
    generalize ys.length = n2 at *
    have hb : ((n1 : Int) != (n2 : Int)) = true := by simp; omega
    clear H H'
    go_enter Try.func131, Try.ntmps131
    go_wp2
    go_ret
    exact ⟨by rw [hne.out]; rfl, 0, rfl⟩

/-- The closure that looks for a list. -/
theorem implAdding1 {P Q : Nat → Prop} {u v : Value} {xs ys : List Int} {w : World} {lb : Nat} (h : RdI P w u xs) (h' : RdI Q w v ys) (hc : w.cell? ⟨lb, 0, none⟩ = some v) :
    Calls Try.prog 130 #[u, .pointer (some ⟨lb, 0, none⟩)] w fun e w' => e = .returned (.bool (decide (xs = ys))) ∧ ∃ m, w.drewN m = w' := by
  have hcl := Lib.hid (slEqual h h')
  obtain ⟨a, c, rfl, h1, h2, _⟩ := h
  obtain ⟨a', c', rfl, h3, h4, _⟩ := h'
  generalize decide (xs = ys) = b at *
  go_enter Try.func130, Try.ntmps130
  go_wp2_with fail
  refine (Calls.mono hcl.out ?_)
  rintro e w' ⟨rfl, m, rfl⟩
  go_wp2
  go_ret
  exact ⟨rfl, m, rfl⟩
end Go.Proofs.Ytnpkanlieflbiaa
