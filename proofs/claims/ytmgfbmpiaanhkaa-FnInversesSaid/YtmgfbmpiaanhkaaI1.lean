/- The law of inverses, walked: it returns true. -/
import Derived.Test.YtmgfbmpiaanhkaaM1
import Derived.Test.YtmgfbmpiaanhkaaBase
namespace Go.Proofs.Ytmgfbmpiaanhkaa
open Go.RowKit
set_option linter.unusedVariables false

/-- A number below n; 0 where n is 1 or less. -/
def InR (n r : Int) : Prop := 0 ≤ r ∧ (1 ≤ n → r < n) ∧ (n ≤ 1 → r = 0)

theorem lawAt {P : Nat → Prop} {v : Value} {zs : List UInt8} {w : World} (h : Rd rY P w v zs) (i n : Int) (hi : 0 ≤ i) (hi2 : i ≤ 1000000) (hn : n ≤ 1000000000000) :
    Calls Try.prog 18 #[v, .int .i64 i, .int .i64 n] w fun e w' => (∃ r, InR n r ∧ e = .returned (.int .i64 r)) ∧ w = w' := by
  obtain ⟨a, c, rfl, h1, h2, hrd⟩ := h
  obtain ⟨i, rfl⟩ := Int.eq_ofNat_of_zero_le hi
  unfold maxLen at h2
  by_cases h3 : n ≤ 1
  · have hr := Lib.hid (show InR n 0 from ⟨by omega, fun h => by omega, fun _ => rfl⟩)
    clear hrd
    go_enter Try.func18, Try.ntmps18
    go_wp2
    go_ret
    exact ⟨⟨0, hr.out, rfl⟩, rfl⟩
  · by_cases hlt : i < zs.length
    · obtain ⟨b, o, u, rfl, _, hc, rfl⟩ := hrd i hlt
      have hc1 : w.cell? ⟨b, o + i, none⟩ = some (.int .u8 ((nth zs i).toNat : Int)) := hc
      have hb := (nth zs i).toNat_lt
      clear hrd hc
      generalize (nth zs i).toNat = z at *
      have hr := Lib.hid (show InR n ((z : Int) % n) from ⟨Int.emod_nonneg _ (by omega), fun h => Int.emod_lt_of_pos _ (by omega), fun h => by omega⟩)
      go_enter Try.func18, Try.ntmps18
      go_wp2
      go_ret
      exact ⟨⟨_, hr.out, rfl⟩, rfl⟩
    · have hr := Lib.hid (show InR n (((i : Int) * 37 + 11) % n) from ⟨Int.emod_nonneg _ (by omega), fun h => Int.emod_lt_of_pos _ (by omega), fun h => by omega⟩)
      clear hrd
      go_enter Try.func18, Try.ntmps18
      go_wp2
      go_ret
      exact ⟨⟨_, hr.out, rfl⟩, rfl⟩

theorem lawGcd (a0 b0 : Nat) (w : World) :
    Calls Try.prog 22 #[.int .i64 a0, .int .i64 b0] w fun e w' => e = .returned (.int .i64 (Nat.gcd a0 b0 : Nat)) ∧ w = w' := by
  go_enter Try.func22, Try.ntmps22
  go_wp2
  go_loop [0, 1] (fun x y => ∃ a b : Nat, x = .int .i64 a ∧ y = .int .i64 b ∧ Hid (Nat.gcd a b = Nat.gcd a0 b0)) (fun _ y => (intOf y).toNat)
  case atStart => exact ⟨a0, b0, rfl, rfl, Lib.hid rfl⟩
  case round =>
    obtain ⟨a, b, rfl, rfl, hg⟩ := hrel
    by_cases h0 : 0 < b
    · go_wp2
      go_round
      case rel => exact ⟨b, a % b, rfl, by go_num, Lib.hid (by rw [← hg.out, Nat.gcd_comm a b, Nat.gcd_rec b a, Nat.gcd_comm])⟩
      case measure => simp [intOf]; have := Nat.mod_lt a h0; omega
    · obtain rfl : b = 0 := by omega
      go_wp2
      go_ret
      exact ⟨ret_int (by have := hg.out; rw [Nat.gcd_zero_right] at this; rw [← this]), rfl⟩

def longB (a b : Nat) : Bool := decide (1048576 < a) || decide (1048576 < b)
theorem lawLong {P Q : Nat → Prop} {v0 v1 : Value} {z0 z1 : List UInt8} {w : World} (h0 : Rd rY P w v0 z0) (h1 : Rd rY Q w v1 z1) (b : Bool) (hb : longB z0.length z1.length = b) :
    Calls Try.prog 17 #[v0, v1] w fun e w' => e = .returned (.bool b) ∧ w = w' := by
  obtain ⟨a, c, rfl, g1, g2, _⟩ := h0
  obtain ⟨a', c', rfl, g3, g4, _⟩ := h1
  unfold longB at hb
  generalize z0.length = n0 at *
  generalize z1.length = n1 at *
  by_cases k0 : 1048576 < n0
  · have hr := Lib.hid (show b = true by rw [← hb]; simp [k0])
    clear hb
    have d0 : (1048576 : Int) < (n0 : Int) := by omega
    go_enter Try.func17, Try.ntmps17
    go_wp2
    go_ret
    exact ⟨ret_bool hr.out.symm, rfl⟩
  · have d0 : ¬ (1048576 : Int) < (n0 : Int) := by omega
    have hr := Lib.hid (show b = decide ((1048576 : Int) < (n1 : Int)) by rw [← hb]; simp [k0]; omega)
    clear hb
    go_enter Try.func17, Try.ntmps17
    go_wp2
    go_ret
    exact ⟨ret_bool hr.out.symm, rfl⟩

theorem rem_yes {N m : Int} (h1 : -40000 ≤ N) (h2 : N ≤ 100000) (h3 : 1 ≤ m) (h4 : m ≤ 1000) (w : World) :
    Calls Try.prog 21 #[.int .i64 N, .int .i64 m] w fun e w' => e = .returned (.tuple #[.int .i64 (N % m), .bool true]) ∧ w = w' := by
  refine (implRemainderOf N m w).mono ?_
  rintro e w' ⟨rfl, h⟩
  rw [show inB N (-1000000000000000) 1000000000000000 = true from inB_true.2 (by omega), show inB m 1 1000000000000000 = true from inB_true.2 (by omega)]
  exact ⟨rfl, h⟩
theorem gcd_yes {a m : Nat} (h1 : a ≤ 1000) (h2 : m ≤ 1000) (w : World) :
    Calls Try.prog 20 #[.int .i64 a, .int .i64 m] w fun e w' => e = .returned (.tuple #[.int .i64 (Nat.gcd a m : Nat), .bool true]) ∧ ∃ n, w.drewN n = w' := by
  refine (implGcdOf a m w).mono ?_
  rintro e w' ⟨rfl, h⟩
  have hk : gcdOk (a : Int) (m : Int) = true := by
    unfold gcdOk
    rw [show inB (a : Int) 0 1000000000000000 = true from inB_true.2 (by omega), show inB (m : Int) 0 1000000000000000 = true from inB_true.2 (by omega)]; rfl
  rw [hk, show gcdVal (a : Int) (m : Int) = (Nat.gcd a m : Nat) by unfold gcdVal; rw [if_pos hk]; rfl]
  exact ⟨rfl, h⟩

set_option maxRecDepth 100000 in
set_option maxHeartbeats 1600000 in
theorem lawInverses (w : World) (v0 : Value) (z0 : List UInt8) (r0 : Rd rY (· < w.heap.size) w v0 z0) (v1 : Value) (z1 : List UInt8) (r1 : Rd rY (· < w.heap.size) w v1 z1) :
    Calls Try.prog 4 #[v0, v1] w fun e w' => e = .returned (.bool true) ∧ Below w.heap.size w w' := by
  have R0 := Lib.hid r0; clear r0
  have R1 := Lib.hid r1; clear r1
  cases hb : longB z0.length z1.length
  rotate_left
  · have HB := Lib.hid hb; clear hb
    go_enter Try.func4, Try.ntmps4
    go_wp2_with fail
    refine (lawLong R0.out R1.out _ HB.out).mono ?_
    rintro e w' ⟨rfl, rfl⟩
    go_wp2
    go_ret
    exact ⟨rfl, Below.refl _ _⟩
  have HB := Lib.hid hb; clear hb
  go_enter Try.func4, Try.ntmps4
  go_wp2_with fail
  refine (lawLong R0.out R1.out _ HB.out).mono ?_
  rintro e w' ⟨rfl, rfl⟩
  go_wp2_with fail
  refine (lawAt R0.out 0 250 (by omega) (by omega) (by omega)).mono ?_
  rintro e w' ⟨⟨s, hs, rfl⟩, rfl⟩
  obtain ⟨m, rfl⟩ : ∃ m : Nat, s = (m : Int) - 2 := ⟨(s + 2).toNat, by have := hs.1; omega⟩
  have hm2 : 2 ≤ m := by have := hs.1; omega
  have hm3 : m ≤ 251 := by have := hs.2.1 (by omega); omega
  clear hs
  have hm4 : (2 : Int) + ((m : Int) - 2) = m := by omega
  go_wp2_with fail
  refine (lawAt R0.out 1 m (by omega) (by omega) (by omega)).mono ?_
  rintro e w' ⟨⟨s, hs, rfl⟩, rfl⟩
  obtain ⟨a, rfl⟩ := Int.eq_ofNat_of_zero_le hs.1
  have ha : a < m := by have := hs.2.1 (by omega); omega
  clear hs hm4
  have hio := Lib.hid (invOk_iff hm2 (by omega) ha)
  have hiv := Lib.hid (invVal_ok hm2 (by omega) ha)
  go_wp2_with fail
  refine (implInverseOf a m w).mono ?_
  rintro e w' ⟨rfl, rfl⟩
  go_wp2_with fail
  refine (gcd_yes (a := a) (m := m) (by omega) (by omega) w).mono ?_
  rintro e w' ⟨rfl, nd, rfl⟩
  go_wp2_with fail
  refine (lawAt (w := w.drewN nd) ((Rd.ok rleaf.ok).keep R1.out fun _ _ => rfl) 0 256 (by omega) (by omega) (by omega)).mono ?_
  rintro e w' ⟨⟨s3, hs3, rfl⟩, rfl⟩
  have h31 := hs3.1
  have h32 := hs3.2.1 (by omega)
  clear hs3
  go_wp2_with fail
  refine (lawAt (w := w.drewN nd) ((Rd.ok rleaf.ok).keep R1.out fun _ _ => rfl) 1 256 (by omega) (by omega) (by omega)).mono ?_
  rintro e w' ⟨⟨s4, hs4, rfl⟩, rfl⟩
  have h41 := hs4.1
  have h42 := hs4.2.1 (by omega)
  clear hs4
  obtain ⟨N, hN⟩ : ∃ N : Int, N = 256 * s3 + s4 - 40000 := ⟨_, rfl⟩
  have hN1 : -40000 ≤ N := by omega
  have hN2 : N ≤ 100000 := by omega
  have hNs : 256 * s3 + s4 - 40000 = N := hN.symm
  clear hN
  go_wp2_with fail
  refine (rem_yes hN1 hN2 (m := m) (by omega) (by omega) _).mono ?_
  rintro e w' ⟨rfl, rfl⟩
  have hR1 := Int.emod_nonneg N (show (m : Int) ≠ 0 by omega)
  have hR2 := Int.emod_lt_of_pos N (show (0 : Int) < m by omega)
  have hT : (N - N % (m : Int)).tmod m = 0 := by
    rw [Int.tmod_eq_zero_of_dvd]
    exact ⟨N / m, by have := Int.mul_ediv_add_emod N m; omega⟩
  generalize N % (m : Int) = Rr at *
  have hgc := Lib.hid (lawGcd a m (w.drewN nd))
  have hab := Lib.hid (fun x (hx : x < m) => mul_bd (a := (a : Int)) (k := (x : Int)) (m := m) (by omega) (by omega) (by omega) (by omega))
  cases hone : invOk (a : Int) (m : Int)
  · have hg1 : Nat.gcd a m ≠ 1 := fun h => by have := hio.out.2 h; rw [hone] at this; cases this
    have hgb : Nat.gcd a m ≤ 251 := Nat.le_trans (Nat.le_of_dvd (by omega) (Nat.gcd_dvd_right a m)) hm3
    clear hio hiv hone hNs
    generalize Nat.gcd a m = G at *
    have hG1 : (((G : Nat) : Int) == 1) = false := by simp; omega
    go_wp2_with (refine (hgc.out).mono ?_; rintro e w' ⟨rfl, rfl⟩)
    go_ret
    exact ⟨rfl, ⟨rfl, rfl, rfl, Nat.le_refl _, fun _ _ => rfl⟩⟩
  · have hg1 := hio.out.1 hone
    obtain ⟨x, hx, hxm, hx1⟩ := hiv.out hone
    have hab2 := hab.out x hxm
    rw [hg1] at hgc
    rw [hx, hg1]
    clear hio hiv hone hNs hab hx hg1
    obtain ⟨hab3, hab4⟩ := hab2
    have hx2 : ((a : Int) * (x : Int)).tmod m = 1 := by rw [Int.tmod_eq_emod_of_nonneg hab3]; exact hx1
    have hx3 : wrap64 ((a : Int) * (x : Int)) = (a : Int) * x := by unfold wrap64; omega
    go_wp2_with (refine (hgc.out).mono ?_; rintro e w' ⟨rfl, rfl⟩)
    go_ret
    exact ⟨rfl, ⟨rfl, rfl, rfl, Nat.le_refl _, fun _ _ => rfl⟩⟩
end Go.Proofs.Ytmgfbmpiaanhkaa
