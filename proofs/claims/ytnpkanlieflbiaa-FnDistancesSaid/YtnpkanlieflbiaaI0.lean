/- Numbers that an input chooses; inputs that are too long. -/
import Derived.Test.YtnpkanlieflbiaaBase
import Derived.Test.YtnpkanlieflbiaaA1
import Derived.Handy
namespace Go.Proofs.Ytnpkanlieflbiaa
open Go.RowKit
set_option linter.unusedVariables false

/-- A number below n; 0 where n is 1 or less. -/
def InR (n r : Int) : Prop := 0 ≤ r ∧ (1 ≤ n → r < n) ∧ (n ≤ 1 → r = 0)

theorem lawAt {P : Nat → Prop} {v : Value} {zs : List UInt8} {w : World} (h : Rd rY P w v zs) (i n : Int) (hi : 0 ≤ i) (hi2 : i ≤ 1000000) (hn : n ≤ 1000000000000) :
    Calls Try.prog 32 #[v, .int .i64 i, .int .i64 n] w fun e w' => (∃ r, InR n r ∧ e = .returned (.int .i64 r)) ∧ w = w' := by
  obtain ⟨a, c, rfl, h1, h2, hrd⟩ := h
  obtain ⟨i, rfl⟩ := Int.eq_ofNat_of_zero_le hi
  unfold maxLen at h2
  by_cases h3 : n ≤ 1
  · have hr := Lib.hid (show InR n 0 from ⟨by omega, fun h => by omega, fun _ => rfl⟩)
    clear hrd
    go_enter Try.func32, Try.ntmps32
    go_wp2
    go_ret
    exact ⟨⟨0, hr.out, rfl⟩, rfl⟩
  · by_cases hlt : i < zs.length
    · obtain ⟨b, o, u, rfl, _, hc, rfl⟩ := hrd i hlt
      have hc1 : w.cell? ⟨b, o + i, none⟩ = some (.int .u8 ((nth zs i).toNat : Int)) := hc
      have hb := (nth zs i).toNat_lt
      clear hrd hc
      generalize (nth zs i).toNat = z at *
      have hr := Lib.hid (show InR n ((z : Int) % n) from ⟨Int.emod_nonneg _ (by omega), fun h => Int.emod_lt_of_pos _ (by omega), fun h => by omega⟩)
      go_enter Try.func32, Try.ntmps32
      go_wp2
      go_ret
      exact ⟨⟨_, hr.out, rfl⟩, rfl⟩
    · have hr := Lib.hid (show InR n (((i : Int) * 37 + 11) % n) from ⟨Int.emod_nonneg _ (by omega), fun h => Int.emod_lt_of_pos _ (by omega), fun h => by omega⟩)
      clear hrd
      go_enter Try.func32, Try.ntmps32
      go_wp2
      go_ret
      exact ⟨⟨_, hr.out, rfl⟩, rfl⟩

def longB (a b : Nat) : Bool := decide (1048576 < a) || decide (1048576 < b)
theorem lawLong {P Q : Nat → Prop} {v0 v1 : Value} {z0 z1 : List UInt8} {w : World} (h0 : Rd rY P w v0 z0) (h1 : Rd rY Q w v1 z1) (b : Bool) (hb : longB z0.length z1.length = b) :
    Calls Try.prog 30 #[v0, v1] w fun e w' => e = .returned (.bool b) ∧ w = w' := by
  obtain ⟨a, c, rfl, g1, g2, _⟩ := h0
  obtain ⟨a', c', rfl, g3, g4, _⟩ := h1
  unfold longB at hb
  generalize z0.length = n0 at *
  generalize z1.length = n1 at *
  by_cases k0 : 1048576 < n0
  · have hr := Lib.hid (show b = true by rw [← hb]; simp [k0])
    clear hb
    have d0 : (1048576 : Int) < (n0 : Int) := by omega
    go_enter Try.func30, Try.ntmps30
    go_wp2
    go_ret
    exact ⟨ret_bool hr.out.symm, rfl⟩
  · have d0 : ¬ (1048576 : Int) < (n0 : Int) := by omega
    have hr := Lib.hid (show b = decide ((1048576 : Int) < (n1 : Int)) by rw [← hb]; simp [k0]; omega)
    clear hb
    go_enter Try.func30, Try.ntmps30
    go_wp2
    go_ret
    exact ⟨ret_bool hr.out.symm, rfl⟩

theorem lawAt8 {P : Nat → Prop} {v : Value} {zs : List UInt8} {w : World} (h : Rd rY P w v zs) (i n : Int) (hi : 0 ≤ i) (hi2 : i ≤ 1000000) (hn : n ≤ 1000000000000) :
    Calls Try.prog 38 #[v, .int .i64 i, .int .i64 n] w fun e w' => (∃ r, InR n r ∧ e = .returned (.int .i64 r)) ∧ w = w' := by
  obtain ⟨a, c, rfl, h1, h2, hrd⟩ := h
  obtain ⟨i, rfl⟩ := Int.eq_ofNat_of_zero_le hi
  unfold maxLen at h2
  have h0 : InR n 0 ∨ 2 ≤ n := by
    by_cases h : n ≤ 1
    · exact .inl ⟨by omega, fun h => by omega, fun _ => rfl⟩
    · exact .inr (by omega)
  by_cases h3 : n ≤ 1
  · have hr := Lib.hid (show InR n 0 from ⟨by omega, fun h => by omega, fun _ => rfl⟩)
    clear hrd h0
    go_enter Try.func38, Try.ntmps38
    go_wp2
    go_ret
    exact ⟨⟨0, hr.out, rfl⟩, rfl⟩
  · clear h0
    by_cases hlt : i < zs.length
    · obtain ⟨b, o, u, rfl, _, hc, rfl⟩ := hrd i hlt
      have hc1 : w.cell? ⟨b, o + i, none⟩ = some (.int .u8 ((nth zs i).toNat : Int)) := hc
      have hb := (nth zs i).toNat_lt
      clear hrd hc
      generalize (nth zs i).toNat = z at *
      have hr := Lib.hid (show InR n ((z : Int) % n) from ⟨Int.emod_nonneg _ (by omega), fun h => Int.emod_lt_of_pos _ (by omega), fun h => by omega⟩)
      go_enter Try.func38, Try.ntmps38
      go_wp2
      go_ret
      exact ⟨⟨_, hr.out, rfl⟩, rfl⟩
    · have hr := Lib.hid (show InR n 0 from ⟨by omega, fun h => by omega, fun _ => rfl⟩)
      clear hrd
      go_enter Try.func38, Try.ntmps38
      go_wp2
      go_ret
      exact ⟨⟨0, hr.out, rfl⟩, rfl⟩

def longB8 (a b : Nat) : Bool := decide (48 < a) || decide (48 < b)
theorem lawLong8 {P Q : Nat → Prop} {v0 v1 : Value} {z0 z1 : List UInt8} {w : World} (h0 : Rd rY P w v0 z0) (h1 : Rd rY Q w v1 z1) (b : Bool) (hb : longB8 z0.length z1.length = b) :
    Calls Try.prog 36 #[v0, v1] w fun e w' => e = .returned (.bool b) ∧ w = w' := by
  obtain ⟨a, c, rfl, g1, g2, _⟩ := h0
  obtain ⟨a', c', rfl, g3, g4, _⟩ := h1
  unfold longB8 at hb
  generalize z0.length = n0 at *
  generalize z1.length = n1 at *
  by_cases k0 : 48 < n0
  · have hr := Lib.hid (show b = true by rw [← hb]; simp [k0])
    clear hb
    have d0 : (48 : Int) < (n0 : Int) := by omega
    go_enter Try.func36, Try.ntmps36
    go_wp2
    go_ret
    exact ⟨ret_bool hr.out.symm, rfl⟩
  · have d0 : ¬ (48 : Int) < (n0 : Int) := by omega
    have hr := Lib.hid (show b = decide ((48 : Int) < (n1 : Int)) by rw [← hb]; simp [k0]; omega)
    clear hb
    go_enter Try.func36, Try.ntmps36
    go_wp2
    go_ret
    exact ⟨ret_bool hr.out.symm, rfl⟩

end Go.Proofs.Ytnpkanlieflbiaa
