/- gcd on both sides, over whole numbers. -/
import Derived.Test.YtphlohplkadenaaA2
namespace Go.Proofs.Ytphlohplkadenaa
open Go.RowKit
set_option linter.unusedVariables false

theorem specGcdZ (a b : Int) (ha : 0 ≤ a) (hb : 0 ≤ b) (g : Nat) (hg : Nat.gcd a.toNat b.toNat = g) (w : World) :
    Calls Try.prog 71 #[.int .i64 a, .int .i64 b] w fun e w' => e = .returned (.int .i64 (g : Nat)) ∧ w = w' := by
  obtain ⟨m, rfl⟩ : ∃ m : Nat, a = m := ⟨a.toNat, by omega⟩
  obtain ⟨n, rfl⟩ : ∃ n : Nat, b = n := ⟨b.toNat, by omega⟩
  subst hg
  exact specGcd m n w
theorem implGcdZ (a b : Int) (ha : 0 ≤ a) (hb : 0 ≤ b) (g : Nat) (hg : Nat.gcd a.toNat b.toNat = g) (w : World) :
    Calls Try.prog 72 #[.int .i64 a, .int .i64 b] w fun e w' => e = .returned (.int .i64 (g : Nat)) ∧ ∃ n, w.drewN n = w' := by
  obtain ⟨m, rfl⟩ : ∃ m : Nat, a = m := ⟨a.toNat, by omega⟩
  obtain ⟨n, rfl⟩ : ∃ n : Nat, b = n := ⟨b.toNat, by omega⟩
  subst hg
  exact implGcd m n w
end Go.Proofs.Ytphlohplkadenaa
