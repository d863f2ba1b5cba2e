/- Unseen pairs at a place, walked. -/
import Derived.Test.YtnpkanlieflbiaaV6
import Derived.Test.YtnpkanlieflbiaaV4
namespace Go.Proofs.Ytnpkanlieflbiaa
open Go.RowKit
set_option linter.unusedVariables false

theorem tmod_zero (a m : Int) : (Int.tmod a m == 0) = decide (a % m = 0) := by
  rw [Bool.eq_iff_iff]
  simp only [beq_iff_eq, decide_eq_true_eq]
  rw [← Int.dvd_iff_tmod_eq_zero, ← Int.dvd_iff_emod_eq_zero]
def rowPV (m by_ : Int) (n x k : Nat) : Nat := sumN k fun y => b2n (decide (x ≠ y) && zeroAt m by_ ((x : Int) - y))
def allP (m by_ : Int) (n k : Nat) : Nat := sumN k fun x => rowPV m by_ n x n
theorem allP_all (m by_ : Int) (n : Nat) : allP m by_ n n = pairsN m by_ n := rfl
theorem rowP_zero (m by_ : Int) (n x : Nat) : rowPV m by_ n x 0 = 0 := rfl
theorem rowP_succ (m by_ : Int) (n x k : Nat) : rowPV m by_ n x (k + 1) = rowPV m by_ n x k + b2n (decide (x ≠ k) && zeroAt m by_ ((x : Int) - k)) := sumN_succ _ _
theorem allP_succ (m by_ : Int) (n k : Nat) : allP m by_ n (k + 1) = allP m by_ n k + rowPV m by_ n k n := sumN_succ _ _
theorem b2n_le (b : Bool) : b2n b ≤ 1 := by cases b <;> simp [b2n]
theorem rowP_le (m by_ : Int) (n x k : Nat) : rowPV m by_ n x k ≤ k := by
  have := sumN_le (n := k) (c := 1) (f := fun y => b2n (decide (x ≠ y) && zeroAt m by_ ((x : Int) - y))) fun y _ => b2n_le _
  unfold rowPV; omega
theorem allP_le (m by_ : Int) (n k : Nat) (hn : n ≤ 36) : allP m by_ n k ≤ k * 36 := sumN_le fun x _ => Nat.le_trans (rowP_le m by_ n x n) hn
theorem byx_bd {b : Int} {x y : Nat} (h1 : -36 ≤ b) (h2 : b ≤ 72) (hx : x < 36) (hy : y < 36) : -2592 ≤ b * ((x : Int) - y) ∧ b * ((x : Int) - y) ≤ 2592 := by
  rcases Int.le_total 0 b with h | h
  · rcases Int.le_total 0 ((x : Int) - y) with g | g
    · have h3 := Int.mul_nonneg h g
      have h4 : b * ((x : Int) - y) ≤ 72 * 36 := Int.mul_le_mul h2 (by omega) g (by omega)
      omega
    · have h3 := Int.mul_nonneg h (show 0 ≤ (y : Int) - x by omega)
      have h4 : b * ((y : Int) - x) ≤ 72 * 36 := Int.mul_le_mul h2 (by omega) (by omega) (by omega)
      have h5 : b * ((x : Int) - y) = -(b * ((y : Int) - x)) := by rw [← Int.mul_neg]; congr 1; omega
      omega
  · have hb : 0 ≤ -b := by omega
    rcases Int.le_total 0 ((x : Int) - y) with g | g
    · have h3 := Int.mul_nonneg hb g
      have h4 : -b * ((x : Int) - y) ≤ 36 * 36 := Int.mul_le_mul (by omega) (by omega) g (by omega)
      rw [Int.neg_mul] at h3 h4
      omega
    · have h3 := Int.mul_nonneg hb (show 0 ≤ (y : Int) - x by omega)
      have h4 : -b * ((y : Int) - x) ≤ 36 * 36 := Int.mul_le_mul (by omega) (by omega) (by omega) (by omega)
      have h5 : b * ((x : Int) - y) = -b * ((y : Int) - x) := by rw [Int.neg_mul, ← Int.mul_neg]; congr 1; omega
      omega

theorem uns_pairs {x : Wgt} {kind : Int} {place : Nat} (h5 : kind ≠ 5) (hb : 0 ≤ x.base) : unsN x kind place = pairsN x.modulus (byW kind (nth x.weights place) (nth x.weights (place + errLen kind - 1))) x.base.toNat := by
  unfold unsN; rw [if_neg h5, pairs_diff]

end Go.Proofs.Ytnpkanlieflbiaa
/- Unseen pairs at a place, walked: impl. -/
namespace Go.Proofs.Ytnpkanlieflbiaa
open Go.RowKit
set_option linter.unusedVariables false

theorem diffN_step (m by_ : Int) (n k : Nat) : diffN m by_ n (k + 1) = diffN m by_ n k + if k = 0 then 0 else 2 * (n - k) * b2n (zeroAt m by_ k) := sumN_succ _ _
theorem diffN_le (m by_ : Int) (n k : Nat) (hn : n ≤ 36) : diffN m by_ n k ≤ k * 72 := by
  refine sumN_le fun d _ => ?_
  split
  · omega
  · have := b2n_le (zeroAt m by_ d)
    have h : 2 * (n - d) * b2n (zeroAt m by_ d) ≤ 72 * 1 := Nat.mul_le_mul (by omega) this
    omega
theorem diffN_one (m by_ : Int) (n : Nat) : diffN m by_ n 1 = 0 := by simp [diffN, sumN]
theorem unsN_diff {x : Wgt} {kind : Int} {place : Nat} (h5 : kind ≠ 5) : unsN x kind place = diffN x.modulus (byW kind (nth x.weights place) (nth x.weights (place + errLen kind - 1))) x.base.toNat x.base.toNat := by
  unfold unsN; rw [if_neg h5]
theorem byd_bd {b : Int} {d : Nat} (h1 : -36 ≤ b) (h2 : b ≤ 72) (hd : d < 36) : -2592 ≤ b * (d : Int) ∧ b * (d : Int) ≤ 2592 := by
  have := byx_bd (x := d) (y := 0) h1 h2 hd (by omega)
  simpa using this

set_option maxHeartbeats 1600000 in
set_option maxRecDepth 10000 in
theorem implUnseen {P : Nat → Prop} {bx : Nat} {x : Wgt} {w : World} (h : BoxW P w bx x) (hv : VW x) (kind : Int) (place : Nat) (hk : kindOk kind x.base = true) (hp : place + errLen kind ≤ x.weights.length) :
    Calls Try.prog 93 #[.pointer (some ⟨bx, 0, none⟩), .int .i64 kind, .int .i64 place] w fun e w' => e = .returned (.int .i64 (unsN x kind place)) ∧ ∃ m, w.drewN m = w' := by
  have hel := errLen_bd kind
  obtain ⟨b, o, c, g3, h1, h2, hcell⟩ := h.weight (i := place) (by omega)
  obtain ⟨_, _, g0, g1, _⟩ := h.cells
  have Hcell := Lib.hid hcell; clear hcell h
  unfold maxLen at h2
  have hbs := hv.base
  have hmo := hv.modulus
  have hln := hv.len
  have hwt := Lib.hid hv.weight
  have c0 := Hcell.out place (by omega)
  have a0 := hwt.out place (by omega)
  have hcl := Hcell.out (place + errLen kind - 1) (by omega)
  have al := hwt.out (place + errLen kind - 1) (by omega)
  have hk6 : 0 ≤ kind ∧ kind ≤ 5 := by
    have := hk
    simp only [kindOk, Bool.and_eq_true, inB_true] at this
    omega
  have hk4 : kind = 0 ∨ kind = 1 ∨ kind = 2 ∨ kind = 3 ∨ kind = 4 ∨ kind = 5 := by omega
  have hr0 := Lib.hid (fun h5 => unsN_diff (x := x) (kind := kind) (place := place) h5)
  clear hv hk hk6
  have hw0 : (0 : Int) ≤ (place : Int) := by omega
  have hw1 : IntKind.i64.wrap ((place : Int) + errLen kind) = (place : Int) + errLen kind := IntWalk.i64_in _ (by omega)
  have hw2 : (place : Int) + errLen kind ≤ (x.weights.length : Int) := by omega
  have hw3 : (place : Int) ≤ (place : Int) + errLen kind := by omega
  generalize hA : nth x.weights place = A at *
  generalize hQ : nth x.weights (place + errLen kind - 1) = Q at *
  generalize hE : errLen kind = E at *
  have HE := Lib.hid hE; clear hE
  have HA := Lib.hid hA; clear hA
  have HQ := Lib.hid hQ; clear hQ
  obtain ⟨NB, hNB⟩ : ∃ n : Nat, n = x.base.toNat := ⟨_, rfl⟩
  rw [show x.base = (NB : Int) by omega] at g0
  have hB1 : 2 ≤ NB ∧ NB ≤ 36 := by omega
  have HNB := Lib.hid hNB
  clear hNB hbs
  have hw4 : IntKind.i64.wrap ((E : Int) - 1) = (E : Int) - 1 := IntWalk.i64_in _ (by omega)
  have hw5 : (0 : Int) ≤ (E : Int) - 1 := by omega
  have hw6 : (E : Int) - 1 < (E : Int) := by omega
  have hw7 : ((E : Int) - 1).toNat = E - 1 := by omega
  have hw8 : 0 < E := by omega
  have hw9 : (0 : Int) < (E : Int) := by omega
  have hcl2 : w.cell? ⟨b, o + place + (E - 1), none⟩ = some (.int .i64 Q) := by rw [show o + place + (E - 1) = o + (place + E - 1) by omega]; exact hcl
  have hcp : E ≤ c - place := by omega
  clear hcl
  go_enter Try.func93, Try.ntmps93
  go_wp2
  go_quiet ((go_at_call 135; exact quiet_same ((implErrorLength kind _).mono fun e w' ⟨h1, h2⟩ => ⟨by rw [h1, HE.out], h2⟩)))
  rw [Nat.add_sub_cancel_left]
  go_wp2
  go_quiet (fail)
  clear hw0 hw1 hw2 hw3 hw4 hw5 hw6 hw7 hw8 hw9 hcl2 hcp
  rcases hk4 with rfl | rfl | rfl | rfl | rfl | rfl
  · have hr := Lib.hid (show unsN x 0 place = diffN x.modulus (A) NB NB by rw [hr0.out (by omega), HNB.out]; rfl)
    have hB0 : -36 ≤ A ∧ A ≤ 72 := by omega
    go_wp2
    go_loop [11, 13] (fun n i => ∃ d : Nat, 1 ≤ d ∧ d ≤ NB ∧ i = .int .i64 d ∧ n = .int .i64 (diffN x.modulus (A) NB d)) (fun _ i => NB - (intOf i).toNat)
    case atStart => exact ⟨1, by omega, by omega, rfl, by rw [diffN_one]; rfl⟩
    case round =>
      obtain ⟨d, hd1, hd2, rfl, rfl⟩ := hrel
      have hdl := diffN_le x.modulus (A) NB d hB1.2
      have hds := diffN_step x.modulus (A) NB d
      rw [if_neg (by omega)] at hds
      have htm := tmod_zero ((A) * (d : Int)) x.modulus
      by_cases hlt : d < NB
      · have hbd := byd_bd hB0.1 hB0.2 (show d < 36 by omega)
        by_cases hz : (A) * (d : Int) % x.modulus = 0
        · have hb : b2n (zeroAt x.modulus (A) (d : Int)) = 1 := by simp [b2n, zeroAt, hz]
          rw [hb] at hds
          have hzb : (Int.tmod ((A) * (d : Int)) x.modulus == 0) = true := by rw [htm]; simpa using hz
          have Hds := Lib.hid hds
          clear hb hds htm hz
          generalize hN : diffN x.modulus (A) NB d = N at *
          go_wp2
          go_round
          case rel => exact ⟨d + 1, by omega, by omega, by go_num, by rw [Hds.out]; congr 1; omega⟩
          case measure => simp [intOf]; omega
        · have hb : b2n (zeroAt x.modulus (A) (d : Int)) = 0 := by simp [b2n, zeroAt, hz]
          rw [hb] at hds
          have hzb : (Int.tmod ((A) * (d : Int)) x.modulus == 0) = false := by rw [htm]; simpa using hz
          have Hds := Lib.hid hds
          clear hb hds htm hz
          generalize hN : diffN x.modulus (A) NB d = N at *
          go_wp2
          go_round
          case rel => exact ⟨d + 1, by omega, by omega, by go_num, by rw [Hds.out]; congr 1⟩
          case measure => simp [intOf]; omega
      · obtain rfl : d = NB := by omega
        clear hds htm
        go_wp2
        go_ret
        exact ⟨ret_int' (by rw [hr.out]), _, rfl⟩
  · have hr := Lib.hid (show unsN x 1 place = diffN x.modulus (A - Q) NB NB by rw [hr0.out (by omega), HNB.out]; rfl)
    have hB0 : -36 ≤ A - Q ∧ A - Q ≤ 72 := by omega
    go_wp2
    go_loop [11, 13] (fun n i => ∃ d : Nat, 1 ≤ d ∧ d ≤ NB ∧ i = .int .i64 d ∧ n = .int .i64 (diffN x.modulus (A - Q) NB d)) (fun _ i => NB - (intOf i).toNat)
    case atStart => exact ⟨1, by omega, by omega, rfl, by rw [diffN_one]; rfl⟩
    case round =>
      obtain ⟨d, hd1, hd2, rfl, rfl⟩ := hrel
      have hdl := diffN_le x.modulus (A - Q) NB d hB1.2
      have hds := diffN_step x.modulus (A - Q) NB d
      rw [if_neg (by omega)] at hds
      have htm := tmod_zero ((A - Q) * (d : Int)) x.modulus
      by_cases hlt : d < NB
      · have hbd := byd_bd hB0.1 hB0.2 (show d < 36 by omega)
        by_cases hz : (A - Q) * (d : Int) % x.modulus = 0
        · have hb : b2n (zeroAt x.modulus (A - Q) (d : Int)) = 1 := by simp [b2n, zeroAt, hz]
          rw [hb] at hds
          have hzb : (Int.tmod ((A - Q) * (d : Int)) x.modulus == 0) = true := by rw [htm]; simpa using hz
          have Hds := Lib.hid hds
          clear hb hds htm hz
          generalize hN : diffN x.modulus (A - Q) NB d = N at *
          go_wp2
          go_round
          case rel => exact ⟨d + 1, by omega, by omega, by go_num, by rw [Hds.out]; congr 1; omega⟩
          case measure => simp [intOf]; omega
        · have hb : b2n (zeroAt x.modulus (A - Q) (d : Int)) = 0 := by simp [b2n, zeroAt, hz]
          rw [hb] at hds
          have hzb : (Int.tmod ((A - Q) * (d : Int)) x.modulus == 0) = false := by rw [htm]; simpa using hz
          have Hds := Lib.hid hds
          clear hb hds htm hz
          generalize hN : diffN x.modulus (A - Q) NB d = N at *
          go_wp2
          go_round
          case rel => exact ⟨d + 1, by omega, by omega, by go_num, by rw [Hds.out]; congr 1⟩
          case measure => simp [intOf]; omega
      · obtain rfl : d = NB := by omega
        clear hds htm
        go_wp2
        go_ret
        exact ⟨ret_int' (by rw [hr.out]), _, rfl⟩
  · have hr := Lib.hid (show unsN x 2 place = diffN x.modulus (A - Q) NB NB by rw [hr0.out (by omega), HNB.out]; rfl)
    have hB0 : -36 ≤ A - Q ∧ A - Q ≤ 72 := by omega
    go_wp2
    go_loop [11, 13] (fun n i => ∃ d : Nat, 1 ≤ d ∧ d ≤ NB ∧ i = .int .i64 d ∧ n = .int .i64 (diffN x.modulus (A - Q) NB d)) (fun _ i => NB - (intOf i).toNat)
    case atStart => exact ⟨1, by omega, by omega, rfl, by rw [diffN_one]; rfl⟩
    case round =>
      obtain ⟨d, hd1, hd2, rfl, rfl⟩ := hrel
      have hdl := diffN_le x.modulus (A - Q) NB d hB1.2
      have hds := diffN_step x.modulus (A - Q) NB d
      rw [if_neg (by omega)] at hds
      have htm := tmod_zero ((A - Q) * (d : Int)) x.modulus
      by_cases hlt : d < NB
      · have hbd := byd_bd hB0.1 hB0.2 (show d < 36 by omega)
        by_cases hz : (A - Q) * (d : Int) % x.modulus = 0
        · have hb : b2n (zeroAt x.modulus (A - Q) (d : Int)) = 1 := by simp [b2n, zeroAt, hz]
          rw [hb] at hds
          have hzb : (Int.tmod ((A - Q) * (d : Int)) x.modulus == 0) = true := by rw [htm]; simpa using hz
          have Hds := Lib.hid hds
          clear hb hds htm hz
          generalize hN : diffN x.modulus (A - Q) NB d = N at *
          go_wp2
          go_round
          case rel => exact ⟨d + 1, by omega, by omega, by go_num, by rw [Hds.out]; congr 1; omega⟩
          case measure => simp [intOf]; omega
        · have hb : b2n (zeroAt x.modulus (A - Q) (d : Int)) = 0 := by simp [b2n, zeroAt, hz]
          rw [hb] at hds
          have hzb : (Int.tmod ((A - Q) * (d : Int)) x.modulus == 0) = false := by rw [htm]; simpa using hz
          have Hds := Lib.hid hds
          clear hb hds htm hz
          generalize hN : diffN x.modulus (A - Q) NB d = N at *
          go_wp2
          go_round
          case rel => exact ⟨d + 1, by omega, by omega, by go_num, by rw [Hds.out]; congr 1⟩
          case measure => simp [intOf]; omega
      · obtain rfl : d = NB := by omega
        clear hds htm
        go_wp2
        go_ret
        exact ⟨ret_int' (by rw [hr.out]), _, rfl⟩
  · have hr := Lib.hid (show unsN x 3 place = diffN x.modulus (A + Q) NB NB by rw [hr0.out (by omega), HNB.out]; rfl)
    have hB0 : -36 ≤ A + Q ∧ A + Q ≤ 72 := by omega
    go_wp2
    go_loop [11, 13] (fun n i => ∃ d : Nat, 1 ≤ d ∧ d ≤ NB ∧ i = .int .i64 d ∧ n = .int .i64 (diffN x.modulus (A + Q) NB d)) (fun _ i => NB - (intOf i).toNat)
    case atStart => exact ⟨1, by omega, by omega, rfl, by rw [diffN_one]; rfl⟩
    case round =>
      obtain ⟨d, hd1, hd2, rfl, rfl⟩ := hrel
      have hdl := diffN_le x.modulus (A + Q) NB d hB1.2
      have hds := diffN_step x.modulus (A + Q) NB d
      rw [if_neg (by omega)] at hds
      have htm := tmod_zero ((A + Q) * (d : Int)) x.modulus
      by_cases hlt : d < NB
      · have hbd := byd_bd hB0.1 hB0.2 (show d < 36 by omega)
        by_cases hz : (A + Q) * (d : Int) % x.modulus = 0
        · have hb : b2n (zeroAt x.modulus (A + Q) (d : Int)) = 1 := by simp [b2n, zeroAt, hz]
          rw [hb] at hds
          have hzb : (Int.tmod ((A + Q) * (d : Int)) x.modulus == 0) = true := by rw [htm]; simpa using hz
          have Hds := Lib.hid hds
          clear hb hds htm hz
          generalize hN : diffN x.modulus (A + Q) NB d = N at *
          go_wp2
          go_round
          case rel => exact ⟨d + 1, by omega, by omega, by go_num, by rw [Hds.out]; congr 1; omega⟩
          case measure => simp [intOf]; omega
        · have hb : b2n (zeroAt x.modulus (A + Q) (d : Int)) = 0 := by simp [b2n, zeroAt, hz]
          rw [hb] at hds
          have hzb : (Int.tmod ((A + Q) * (d : Int)) x.modulus == 0) = false := by rw [htm]; simpa using hz
          have Hds := Lib.hid hds
          clear hb hds htm hz
          generalize hN : diffN x.modulus (A + Q) NB d = N at *
          go_wp2
          go_round
          case rel => exact ⟨d + 1, by omega, by omega, by go_num, by rw [Hds.out]; congr 1⟩
          case measure => simp [intOf]; omega
      · obtain rfl : d = NB := by omega
        clear hds htm
        go_wp2
        go_ret
        exact ⟨ret_int' (by rw [hr.out]), _, rfl⟩
  · have hr := Lib.hid (show unsN x 4 place = diffN x.modulus (A + Q) NB NB by rw [hr0.out (by omega), HNB.out]; rfl)
    have hB0 : -36 ≤ A + Q ∧ A + Q ≤ 72 := by omega
    go_wp2
    go_loop [11, 13] (fun n i => ∃ d : Nat, 1 ≤ d ∧ d ≤ NB ∧ i = .int .i64 d ∧ n = .int .i64 (diffN x.modulus (A + Q) NB d)) (fun _ i => NB - (intOf i).toNat)
    case atStart => exact ⟨1, by omega, by omega, rfl, by rw [diffN_one]; rfl⟩
    case round =>
      obtain ⟨d, hd1, hd2, rfl, rfl⟩ := hrel
      have hdl := diffN_le x.modulus (A + Q) NB d hB1.2
      have hds := diffN_step x.modulus (A + Q) NB d
      rw [if_neg (by omega)] at hds
      have htm := tmod_zero ((A + Q) * (d : Int)) x.modulus
      by_cases hlt : d < NB
      · have hbd := byd_bd hB0.1 hB0.2 (show d < 36 by omega)
        by_cases hz : (A + Q) * (d : Int) % x.modulus = 0
        · have hb : b2n (zeroAt x.modulus (A + Q) (d : Int)) = 1 := by simp [b2n, zeroAt, hz]
          rw [hb] at hds
          have hzb : (Int.tmod ((A + Q) * (d : Int)) x.modulus == 0) = true := by rw [htm]; simpa using hz
          have Hds := Lib.hid hds
          clear hb hds htm hz
          generalize hN : diffN x.modulus (A + Q) NB d = N at *
          go_wp2
          go_round
          case rel => exact ⟨d + 1, by omega, by omega, by go_num, by rw [Hds.out]; congr 1; omega⟩
          case measure => simp [intOf]; omega
        · have hb : b2n (zeroAt x.modulus (A + Q) (d : Int)) = 0 := by simp [b2n, zeroAt, hz]
          rw [hb] at hds
          have hzb : (Int.tmod ((A + Q) * (d : Int)) x.modulus == 0) = false := by rw [htm]; simpa using hz
          have Hds := Lib.hid hds
          clear hb hds htm hz
          generalize hN : diffN x.modulus (A + Q) NB d = N at *
          go_wp2
          go_round
          case rel => exact ⟨d + 1, by omega, by omega, by go_num, by rw [Hds.out]; congr 1⟩
          case measure => simp [intOf]; omega
      · obtain rfl : d = NB := by omega
        clear hds htm
        go_wp2
        go_ret
        exact ⟨ret_int' (by rw [hr.out]), _, rfl⟩
  · have hr := Lib.hid (show unsN x 5 place = phonN x.modulus A Q 8 by rw [unsN_phon, HA.out, ← HQ.out, ← HE.out]; rfl)
    go_wp2
    go_loop [11, 12] (fun n d => ∃ k : Nat, k ≤ 8 ∧ d = .int .i64 ((k : Int) + 2) ∧ n = .int .i64 (phonN x.modulus A Q k)) (fun _ d => (10 - intOf d).toNat)
    case atStart => exact ⟨0, by omega, rfl, rfl⟩
    case round =>
      obtain ⟨k, hk8, rfl, rfl⟩ := hrel
      have hpl := phonN_le x.modulus A Q k
      have hps := phonN_succ x.modulus A Q k
      have b1 := wt_bd a0.1 a0.2 hmo.2 (show 0 ≤ (k : Int) + 2 by omega) (by omega)
      have b2 := wt_bd al.1 al.2 hmo.2 (show 0 ≤ (k : Int) + 2 by omega) (by omega)
      have htm := tmod_zero (A * ((k : Int) + 2) - A - Q * ((k : Int) + 2)) x.modulus
      by_cases hlt : k < 8
      · by_cases hz : (A * (k + 2) - A - Q * (k + 2)) % x.modulus = 0
        · rw [if_pos hz] at hps
          have Hps := Lib.hid hps
          have hzb : (Int.tmod (A * ((k : Int) + 2) - A - Q * ((k : Int) + 2)) x.modulus == 0) = true := by rw [htm]; simpa using hz
          clear hz hps htm
          generalize phonN x.modulus A Q k = N at *
          go_wp2
          go_round
          case rel => exact ⟨k + 1, by omega, by go_num, by rw [Hps.out]; go_num⟩
          case measure => simp [intOf]; omega
        · rw [if_neg hz] at hps
          have Hps := Lib.hid hps
          have hzb : (Int.tmod (A * ((k : Int) + 2) - A - Q * ((k : Int) + 2)) x.modulus == 0) = false := by rw [htm]; simpa using hz
          clear hz hps htm
          generalize phonN x.modulus A Q k = N at *
          go_wp2
          go_round
          case rel => exact ⟨k + 1, by omega, by go_num, by rw [Hps.out]; go_num⟩
          case measure => simp [intOf]; omega
      · obtain rfl : k = 8 := by omega
        clear hps htm
        go_wp2
        go_ret
        exact ⟨ret_int' (by rw [hr.out]), _, rfl⟩
end Go.Proofs.Ytnpkanlieflbiaa
/- UnseenPairs and WeightCatches, walked. -/
namespace Go.Proofs.Ytnpkanlieflbiaa
open Go.RowKit
set_option linter.unusedVariables false

def uOk (x : Wgt) (kind place : Int) : Bool := vW x && inB place 0 (plcN x kind - 1)
def uV (x : Wgt) (kind place : Int) : Int := if uOk x kind place then (unsN x kind place.toNat : Nat) else 0
theorem uV_no {x : Wgt} {kind place : Int} (h : uOk x kind place = false) : uV x kind place = 0 := by simp [uV, h]
theorem uV_yes {x : Wgt} {kind place : Int} (h : uOk x kind place = true) : uV x kind place = (unsN x kind place.toNat : Nat) := by simp [uV, h]
theorem clip_bd (z : Int) : 0 ≤ clip z ∧ (z ≤ clip z ∧ (clip z = z ∨ clip z = 0)) := by unfold clip; split <;> omega
theorem plcN_bd (x : Wgt) (kind : Int) (hn : x.weights.length ≤ 20) : -1 ≤ plcN x kind ∧ plcN x kind ≤ 20 := by
  have := errLen_bd kind
  have := clip_bd ((x.weights.length : Int) - errLen kind + 1)
  unfold plcN; split <;> omega
theorem uOk_in (x : Wgt) (kind place : Int) : inB place 0 (plcN x kind - 1) = (kindOk kind x.base && inB place 0 ((x.weights.length : Int) - errLen kind)) := by
  rw [Bool.eq_iff_iff]
  simp only [Bool.and_eq_true, inB_true]
  cases hk : kindOk kind x.base
  · rw [plcN_no hk]; simp; omega
  · rw [plcN_yes hk]
    have := clip_bd ((x.weights.length : Int) - errLen kind + 1)
    simp
    omega
theorem ret_ib' {x y : Int} {a b : Bool} (h1 : x = y) (h2 : a = b) : Ending.returned (.tuple #[.int .i64 x, .bool a]) = .returned (.tuple #[.int .i64 y, .bool b]) := by rw [h1, h2]

set_option maxRecDepth 10000 in
theorem implUnseenPairs {B : Nat} {v : Value} {x : Wgt} {w : World} (h : RdW (· < B) w v x) (hB : B ≤ w.heap.size) (hn : szW x ≤ 1048576) (kind place : Int) :
    Calls Try.prog 35 #[v, .int .i64 kind, .int .i64 place] w fun e w' => e = .returned (.tuple #[.int .i64 (uV x kind place), .bool (uOk x kind place)]) ∧ Below w.heap.size w w' := by
  have Hr := Lib.hid h
  obtain ⟨u, rfl, hu⟩ := h
  obtain ⟨a, c, rfl, h1, h2⟩ := hu.isSlice
  have hbx := Lib.hid ((Below.refl w.heap.size w).alloc (Nat.le_refl _) (.cells #[.int .i64 x.base, .int .i64 x.modulus, .int .i64 x.target, .slice a x.weights.length c] 31))
  have Hbx := Lib.hid (BoxW.boxed hu hB); clear hu
  have hsz := Lib.hid (al_size w (.cells #[.int .i64 x.base, .int .i64 x.modulus, .int .i64 x.target, .slice a x.weights.length c] 31))
  have hb1 := Lib.hid (heap_alloc_new w (.cells #[.int .i64 x.base, .int .i64 x.modulus, .int .i64 x.target, .slice a x.weights.length c] 31))
  unfold maxLen at h2
  unfold aggW
  cases hv : vW x
  · have hr := Lib.hid (show uOk x kind place = false by simp [uOk, hv])
    have hr2 := Lib.hid (uV_no hr.out)
    have Hv := Lib.hid hv; clear hv
    go_enter Try.func35, Try.ntmps35
    go_wp2_with fail
    refine (implValidWeighting (Rd.below RdW.ok Hr.out (hbx.out.mono hB)) (by rw [hsz.out]; omega) hn _ Hv.out).mono ?_
    rintro e w1 ⟨rfl, hb⟩
    have Hb := Lib.hid (hbx.out.trans (hb.mono (by rw [hsz.out]; omega))); clear hb
    go_wp2
    go_ret2
    exact ⟨ret_ib' hr2.out.symm hr.out.symm, Hb.out⟩
  · have hvw := vW_iff.1 hv
    have hln := hvw.len
    have hel := errLen_bd kind
    have Hin := Lib.hid (uOk_in x kind place)
    have Hv := Lib.hid hv
    have Hvw := Lib.hid hvw
    have hnn : x.weights.length ≤ 1048576 := by omega
    cases hko : kindOk kind x.base
    · have hr := Lib.hid (show uOk x kind place = false by rw [uOk, Hin.out, hko]; simp)
      have hr2 := Lib.hid (uV_no hr.out)
      have Hko := Lib.hid hko
      clear hv hvw hko
      go_enter Try.func35, Try.ntmps35
      go_wp2_with fail
      refine (implValidWeighting (Rd.below RdW.ok Hr.out (hbx.out.mono hB)) (by rw [hsz.out]; omega) hn _ Hv.out).mono ?_
      rintro e w1 ⟨rfl, hb⟩
      have hc0 := heap_cell (below_heap hb hb1.out) (i := 0) rfl
      have Hb := Lib.hid (hbx.out.trans (hb.mono (by rw [hsz.out]; omega))); clear hb
      go_wp2_with (go_at_call 90; refine (implKindOk _ _ _ Hko.out _).mono ?_; rintro e w' ⟨rfl, rfl⟩)
      go_ret2
      exact ⟨ret_ib' hr2.out.symm hr.out.symm, Hb.out⟩
    · cases hin : inB place 0 ((x.weights.length : Int) - errLen kind)
      · have hr := Lib.hid (show uOk x kind place = false by rw [uOk, Hin.out, hko, hin]; simp)
        have hr2 := Lib.hid (uV_no hr.out)
        have Hko := Lib.hid hko
        clear hv hvw hko
        go_enter Try.func35, Try.ntmps35
        go_wp2_with fail
        refine (implValidWeighting (Rd.below RdW.ok Hr.out (hbx.out.mono hB)) (by rw [hsz.out]; omega) hn _ Hv.out).mono ?_
        rintro e w1 ⟨rfl, hb⟩
        have hc0 := heap_cell (below_heap hb hb1.out) (i := 0) rfl
        have hc3 := heap_cell (below_heap hb hb1.out) (i := 3) rfl
        have Hb := Lib.hid (hbx.out.trans (hb.mono (by rw [hsz.out]; omega))); clear hb
        go_wp2_with (first | (go_at_call 90; refine (implKindOk _ _ _ Hko.out _).mono ?_; rintro e w' ⟨rfl, rfl⟩) | (go_at_call 92; refine (implLastPlace _ hnn _ _).mono ?_; rintro e w' ⟨rfl, rfl⟩) | (go_at_call 78; refine (implIn _ _ _ _ (by assumption) _).mono ?_; rintro e w' ⟨rfl, rfl⟩))
        go_ret2
        exact ⟨ret_ib' hr2.out.symm hr.out.symm, Hb.out⟩
      · have hr := Lib.hid (show uOk x kind place = true by rw [uOk, Hin.out, hko, hin, hv]; rfl)
        have hr2 := Lib.hid (uV_yes hr.out)
        have hpd := inB_true.1 hin
        obtain ⟨p, rfl⟩ : ∃ p : Nat, place = p := ⟨place.toNat, by omega⟩
        have hpe : p + errLen kind ≤ x.weights.length := by omega
        have Hpe := Lib.hid hpe
        have Hko := Lib.hid hko
        clear hv hvw hko hpd hpe
        go_enter Try.func35, Try.ntmps35
        go_wp2_with fail
        refine (implValidWeighting (Rd.below RdW.ok Hr.out (hbx.out.mono hB)) (by rw [hsz.out]; omega) hn _ Hv.out).mono ?_
        rintro e w1 ⟨rfl, hb⟩
        have hc0 := heap_cell (below_heap hb hb1.out) (i := 0) rfl
        have hc3 := heap_cell (below_heap hb hb1.out) (i := 3) rfl
        have hB1 := Lib.hid (Hbx.out.keep fun k hk => hb.block k (by rw [hsz.out]; omega))
        have Hb := Lib.hid (hbx.out.trans (hb.mono (by rw [hsz.out]; omega))); clear hb
        have Hun := Lib.hid (implUnseen hB1.out Hvw.out kind p Hko.out Hpe.out)
        go_wp2_with (first | (go_at_call 90; refine (implKindOk _ _ _ Hko.out _).mono ?_; rintro e w' ⟨rfl, rfl⟩) | (go_at_call 92; refine (implLastPlace _ hnn _ _).mono ?_; rintro e w' ⟨rfl, rfl⟩) | (go_at_call 78; refine (implIn _ _ _ _ (by assumption) _).mono ?_; rintro e w' ⟨rfl, rfl⟩) | (go_at_call 93; refine (Calls.mono Hun.out ?_); rintro e w' ⟨rfl, m, rfl⟩))
        go_ret2
        exact ⟨ret_ib' hr2.out.symm hr.out.symm, Below.draws Hb.out _⟩
end Go.Proofs.Ytnpkanlieflbiaa
/- WeightCatches, walked. -/
namespace Go.Proofs.Ytnpkanlieflbiaa
open Go.RowKit
set_option linter.unusedVariables false

def plcs (x : Wgt) (kind : Int) : Nat := x.weights.length + 1 - errLen kind
def sumU (x : Wgt) (kind : Int) (k : Nat) : Nat := sumN k fun i => unsN x kind i
def catV (x : Wgt) (kind : Int) : Bool := kindOk kind x.base && decide (sumU x kind (plcs x kind) = 0)
def catW (x : Wgt) (kind : Int) : Bool := vW x && catV x kind
theorem sumU_succ (x : Wgt) (kind : Int) (k : Nat) : sumU x kind (k + 1) = sumU x kind k + unsN x kind k := sumN_succ _ _
theorem sumU_mono (x : Wgt) (kind : Int) {k n : Nat} (h : k ≤ n) : sumU x kind k ≤ sumU x kind n := by
  induction n with
  | zero => obtain rfl : k = 0 := by omega
            exact Nat.le_refl _
  | succ n ih =>
    rcases Nat.lt_or_ge n k with h' | h'
    · obtain rfl : k = n + 1 := by omega
      exact Nat.le_refl _
    · have := ih h'
      rw [sumU_succ]; omega
theorem unsN_le {x : Wgt} (hb : x.base ≤ 36) (kind : Int) (p : Nat) : unsN x kind p ≤ 3000 := by
  unfold unsN
  split
  · have := phonN_le x.modulus (nth x.weights p) (nth x.weights (p + 1)) 8; omega
  · have := diffN_le x.modulus (byW kind (nth x.weights p) (nth x.weights (p + errLen kind - 1))) x.base.toNat x.base.toNat (by omega)
    omega
theorem sumU_le {x : Wgt} (hb : x.base ≤ 36) (kind : Int) (k : Nat) : sumU x kind k ≤ k * 3000 := sumN_le fun p _ => unsN_le hb kind p
theorem clip_plcs {x : Wgt} {kind : Int} : clip ((x.weights.length : Int) - errLen kind + 1) = (plcs x kind : Int) := by
  unfold clip plcs; split <;> omega

set_option maxRecDepth 10000 in
theorem implUnseenAll {P : Nat → Prop} {bx : Nat} {x : Wgt} {w : World} (h : BoxW P w bx x) (hv : VW x) (kind : Int) (hk : kindOk kind x.base = true) :
    Calls Try.prog 91 #[.pointer (some ⟨bx, 0, none⟩), .int .i64 kind] w fun e w' => e = .returned (.int .i64 (sumU x kind (plcs x kind))) ∧ ∃ m, w.drewN m = w' := by
  have hln := hv.len
  have hel := errLen_bd kind
  have hnn : x.weights.length ≤ 1048576 := by omega
  obtain ⟨a, c, g0, g1, g2, g3, _, h1, h2⟩ := h.cells
  have Hun := Lib.hid (fun m p hp => implUnseen (h.draws m) hv kind p hk hp)
  have hpb : Hid (∀ k, k < plcs x kind → k + errLen kind ≤ x.weights.length) := Lib.hid fun k hk => by unfold plcs at hk; omega
  have hul := Lib.hid (fun p => unsN_le (x := x) (by have := hv.base; omega) kind p)
  have hsl := Lib.hid (fun k => sumU_le (x := x) (by have := hv.base; omega) kind k)
  have hp21 : plcs x kind ≤ 21 := by unfold plcs; omega
  have hpz : Hid (∀ k : Nat, k < plcs x kind ↔ (k : Int) ≤ (x.weights.length : Int) - errLen kind) := Lib.hid fun k => by unfold plcs; omega
  clear h hv hk
  generalize hN : plcs x kind = N at *
  have HN := Lib.hid hN; clear hN
  go_enter Try.func91, Try.ntmps91
  go_wp2
  go_loopw [5, 6] (fun s i wr => ∃ k : Nat, k ≤ N ∧ i = .int .i64 k ∧ s = .int .i64 (sumU x kind k) ∧ ∃ m, w.drewN m = wr) (fun _ i _ => N - (intOf i).toNat)
  case atStart => exact ⟨0, by omega, rfl, rfl, 0, rfl⟩
  case round =>
    obtain ⟨k, hk, rfl, rfl, m, rfl⟩ := hrel
    have hkz := hpz.out k
    by_cases hlt : k < N
    · have hub := hul.out k
      have hsb := hsl.out k
      have hc := Lib.hid (Hun.out m k (hpb.out k hlt))
      have hsu := Lib.hid (sumU_succ x kind k)
      have hz := hkz.1 hlt
      clear hkz
      generalize unsN x kind k = U at *
      generalize sumU x kind k = S at *
      go_wp2_with (first | (go_at_call 92; refine (implLastPlace _ hnn _ _).mono ?_; rintro e w' ⟨rfl, rfl⟩) | (go_at_call 93; refine (Calls.mono hc.out ?_); rintro e w' ⟨rfl, m2, rfl⟩))
      go_roundw
      case rel => exact ⟨k + 1, by omega, by go_num, by rw [hsu.out]; go_num, m + m2, by first | rfl | simp⟩
      case measure => simp [intOf]; omega
    · have hz : ¬ (k : Int) ≤ (x.weights.length : Int) - errLen kind := fun g => hlt (hkz.2 g)
      clear hkz
      obtain rfl : k = N := by omega
      go_wp2_with (go_at_call 92; refine (implLastPlace _ hnn _ _).mono ?_; rintro e w' ⟨rfl, rfl⟩)
      go_ret
      exact ⟨rfl, m, rfl⟩

set_option maxRecDepth 10000 in
theorem implWeightCatches {B : Nat} {v : Value} {x : Wgt} {w : World} (h : RdW (· < B) w v x) (hB : B ≤ w.heap.size) (hn : szW x ≤ 1048576) (kind : Int) :
    Calls Try.prog 33 #[v, .int .i64 kind] w fun e w' => e = .returned (.bool (catW x kind)) ∧ Below w.heap.size w w' := by
  have Hr := Lib.hid h
  obtain ⟨u, rfl, hu⟩ := h
  obtain ⟨a, c, rfl, h1, h2⟩ := hu.isSlice
  have hbx := Lib.hid ((Below.refl w.heap.size w).alloc (Nat.le_refl _) (.cells #[.int .i64 x.base, .int .i64 x.modulus, .int .i64 x.target, .slice a x.weights.length c] 31))
  have Hbx := Lib.hid (BoxW.boxed hu hB); clear hu
  have hsz := Lib.hid (al_size w (.cells #[.int .i64 x.base, .int .i64 x.modulus, .int .i64 x.target, .slice a x.weights.length c] 31))
  have hb1 := Lib.hid (heap_alloc_new w (.cells #[.int .i64 x.base, .int .i64 x.modulus, .int .i64 x.target, .slice a x.weights.length c] 31))
  unfold maxLen at h2
  unfold aggW
  cases hv : vW x
  · have hr := Lib.hid (show catW x kind = false by simp [catW, hv])
    have Hv := Lib.hid hv; clear hv
    go_enter Try.func33, Try.ntmps33
    go_wp2_with fail
    refine (implValidWeighting (Rd.below RdW.ok Hr.out (hbx.out.mono hB)) (by rw [hsz.out]; omega) hn _ Hv.out).mono ?_
    rintro e w1 ⟨rfl, hb⟩
    have Hb := Lib.hid (hbx.out.trans (hb.mono (by rw [hsz.out]; omega))); clear hb
    go_wp2
    go_ret
    exact ⟨ret_bool hr.out.symm, Hb.out⟩
  · have Hvw := Lib.hid (vW_iff.1 hv)
    have Hv := Lib.hid hv
    cases hko : kindOk kind x.base
    · have hr := Lib.hid (show catW x kind = false by simp [catW, catV, hko])
      have Hko := Lib.hid hko
      clear hv hko
      go_enter Try.func33, Try.ntmps33
      go_wp2_with fail
      refine (implValidWeighting (Rd.below RdW.ok Hr.out (hbx.out.mono hB)) (by rw [hsz.out]; omega) hn _ Hv.out).mono ?_
      rintro e w1 ⟨rfl, hb⟩
      have hc0 := heap_cell (below_heap hb hb1.out) (i := 0) rfl
      have Hb := Lib.hid (hbx.out.trans (hb.mono (by rw [hsz.out]; omega))); clear hb
      go_wp2_with (go_at_call 90; refine (implKindOk _ _ _ Hko.out _).mono ?_; rintro e w' ⟨rfl, rfl⟩)
      go_ret
      exact ⟨ret_bool hr.out.symm, Hb.out⟩
    · have hr := Lib.hid (show catW x kind = decide (sumU x kind (plcs x kind) = 0) by simp [catW, catV, hv, hko])
      have Hko := Lib.hid hko
      have hp21 : plcs x kind ≤ 21 := by have := (Hvw.out).len; unfold plcs; omega
      have hsb := sumU_le (x := x) (by have := (Hvw.out).base; omega) kind (plcs x kind)
      clear hv hko
      have Hall := Lib.hid (fun (w' : World) (g : BoxW (· < B) w' w.heap.size x) => implUnseenAll g Hvw.out kind Hko.out)
      generalize sumU x kind (plcs x kind) = S at *
      by_cases h0 : S = 0
      · subst h0
        go_enter Try.func33, Try.ntmps33
        go_wp2_with fail
        refine (implValidWeighting (Rd.below RdW.ok Hr.out (hbx.out.mono hB)) (by rw [hsz.out]; omega) hn _ Hv.out).mono ?_
        rintro e w1 ⟨rfl, hb⟩
        have hc0 := heap_cell (below_heap hb hb1.out) (i := 0) rfl
        have hB1 := Lib.hid (Hbx.out.keep fun k hk => hb.block k (by rw [hsz.out]; omega))
        have Hb := Lib.hid (hbx.out.trans (hb.mono (by rw [hsz.out]; omega))); clear hb
        go_wp2_with (first | (go_at_call 90; refine (implKindOk _ _ _ Hko.out _).mono ?_; rintro e w' ⟨rfl, rfl⟩) | (go_at_call 91; refine (Calls.mono (Hall.out _ hB1.out) ?_); rintro e w' ⟨rfl, m, rfl⟩))
        go_ret
        exact ⟨ret_bool (by rw [hr.out]; rfl), Below.draws Hb.out _⟩
      · have hs1 : (S : Int) ≠ 0 := by omega
        go_enter Try.func33, Try.ntmps33
        go_wp2_with fail
        refine (implValidWeighting (Rd.below RdW.ok Hr.out (hbx.out.mono hB)) (by rw [hsz.out]; omega) hn _ Hv.out).mono ?_
        rintro e w1 ⟨rfl, hb⟩
        have hc0 := heap_cell (below_heap hb hb1.out) (i := 0) rfl
        have hB1 := Lib.hid (Hbx.out.keep fun k hk => hb.block k (by rw [hsz.out]; omega))
        have Hb := Lib.hid (hbx.out.trans (hb.mono (by rw [hsz.out]; omega))); clear hb
        go_wp2_with (first | (go_at_call 90; refine (implKindOk _ _ _ Hko.out _).mono ?_; rintro e w' ⟨rfl, rfl⟩) | (go_at_call 91; refine (Calls.mono (Hall.out _ hB1.out) ?_); rintro e w' ⟨rfl, m, rfl⟩))
        go_ret
        exact ⟨ret_bool (by rw [hr.out]; simp [h0]), Below.draws Hb.out _⟩
end Go.Proofs.Ytnpkanlieflbiaa
