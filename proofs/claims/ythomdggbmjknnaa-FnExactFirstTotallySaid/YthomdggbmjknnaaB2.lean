/- Tables whose numbers are told by a function; LinearTable. -/
import Derived.Test.YthomdggbmjknnaaB1
import Derived.Test.YthomdggbmjknnaaQ2
import Derived.Deep.RegionWith
namespace Go.Proofs.Ythomdggbmjknnaa
open Go.RowKit
set_option linter.unusedVariables false

theorem implMade (n : Nat) (hn1 : 1 ≤ n) (hn : n ≤ 36) (w : World) (g : Nat) (cap : Array Value) (f : Nat → Nat → Int)
    (hp : ∀ x y : Nat, x < n → y < n → ∀ w', Below w.heap.size w w' → Calls Try.prog g (#[.int .i64 x, .int .i64 y] ++ cap) w' fun e w'' => e = .returned (.int .i64 (f x y)) ∧ ∃ m, w'.drewN m = w'')
    (hg : ∀ (args : Array Value) (w : World), (callFunc g args).run Try.prog w = .ok (.enter g args) w) :
    Calls Try.prog 67 #[.int .i64 n, .func (.func g) #[] cap] w fun e w' => ∃ v, e = .returned v ∧ Fresh OII w w' v (tab n f) := by
  have Hp := Lib.hid hp; clear hp
  go_enter Try.func67, Try.ntmps67
  go_wp2_with fail
  refine (implBlank n hn w).mono ?_
  rintro e w1 ⟨v, rfl, hf⟩
  obtain ⟨gt, ct, rfl⟩ := hf.shape (by simp [zeros]; omega)
  have hl := hf.len2
  rw [show (zeros n).length = n by simp [zeros]] at *
  have Hf := Lib.hid hf
  clear hf
  unfold maxLen at hl
  go_wp2
  go_loopw [12] (fun i wr => ∃ k : Nat, k ≤ n ∧ i = .int .i64 k ∧ ∃ t, Hid (Filled n f k 0 t) ∧ Hid (Fresh OII w wr (.slice (some ⟨gt, 0, none⟩) n ct) t)) (fun i _ => n - (intOf i).toNat)
  case atStart => exact ⟨0, Nat.zero_le _, rfl, _, Lib.hid (Filled.start n f (zeros_sq n)), Hf⟩
  case round =>
    obtain ⟨x, hk, rfl, t, ht, hf⟩ := hrel
    by_cases hlt : x < n
    · obtain ⟨gx, cx, hc, g1, g2, _⟩ := hf.out.put2 (x := x) (y := 0) (by rw [ht.out.1.1]; exact hlt) (by rw [ht.out.1.2 x hlt]; omega)
      rw [ht.out.1.2 x hlt] at hc g1
      unfold maxLen at g2
      go_wp2
      go_loopw [20] (fun i wr => ∃ k : Nat, k ≤ n ∧ i = .int .i64 k ∧ ∃ t, Hid (Filled n f x k t) ∧ Hid (Fresh OII w wr (.slice (some ⟨gt, 0, none⟩) n ct) t)) (fun i _ => n - (intOf i).toNat)
      case atStart => exact ⟨0, Nat.zero_le _, rfl, _, ht, hf⟩
      case round =>
        clear hc
        obtain ⟨y, hky, rfl, t, ht, hf⟩ := hrel
        by_cases hlty : y < n
        · obtain ⟨gx, cx, hc, g3, g4, hc2, hfz, hge, hput⟩ := hf.out.put2 (x := x) (y := y) (by rw [ht.out.1.1]; exact hlt) (by rw [ht.out.1.2 x hlt]; exact hlty)
          rw [ht.out.1.2 x hlt] at hc g3
          unfold maxLen at g4
          have Hput := Lib.hid hput
          have Hcl := Lib.hid (fun m => Hp.out x y hlt hlty (wr.drewN m) (hf.out.bel.trans ((below_draws ⟨m, rfl⟩).mono hf.out.bel.size)))
          clear hput
          go_wp2
          go_region_with (refine (Calls.mono (Hcl.out _) ?_); rintro e w' ⟨rfl, m, rfl⟩)
          all_goals go_wp2
          all_goals go_roundw
          all_goals first
            | exact ⟨y + 1, by omega, by go_num, _, Lib.hid (ht.out.more hlt hlty rfl), Lib.hid (Hput.out _ (below_draws ⟨_, rfl⟩) _)⟩
            | (simp [intOf]; omega)
        · obtain rfl : y = n := by omega
          have ht2 := Lib.hid ht.out.next
          go_wp2
          go_roundw
          case rel => exact ⟨x + 1, by omega, by go_num, t, ht2, hf⟩
          case measure => simp [intOf]; omega
    · obtain rfl : x = n := by omega
      have e := ht.out.whole
      subst e
      go_wp2
      go_ret
      exact ⟨_, rfl, hf.out⟩
end Go.Proofs.Ythomdggbmjknnaa
