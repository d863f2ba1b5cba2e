/- Unseen pairs at a place, walked: impl. -/
import Derived.Test.YtphlohplkadenaaV7
namespace Go.Proofs.Ytphlohplkadenaa
open Go.RowKit
set_option linter.unusedVariables false

theorem diffN_step (m by_ : Int) (n k : Nat) : diffN m by_ n (k + 1) = diffN m by_ n k + if k = 0 then 0 else 2 * (n - k) * b2n (zeroAt m by_ k) := sumN_succ _ _
theorem diffN_le (m by_ : Int) (n k : Nat) (hn : n ≤ 36) : diffN m by_ n k ≤ k * 72 := by
  refine sumN_le fun d _ => ?_
  split
  · omega
  · have := b2n_le (zeroAt m by_ d)
    have h : 2 * (n - d) * b2n (zeroAt m by_ d) ≤ 72 * 1 := Nat.mul_le_mul (by omega) this
    omega
theorem diffN_one (m by_ : Int) (n : Nat) : diffN m by_ n 1 = 0 := by simp [diffN, sumN]
theorem unsN_diff {x : Wgt} {kind : Int} {place : Nat} (h5 : kind ≠ 5) : unsN x kind place = diffN x.modulus (byW kind (nth x.weights place) (nth x.weights (place + errLen kind - 1))) x.base.toNat x.base.toNat := by
  unfold unsN; rw [if_neg h5]
theorem byd_bd {b : Int} {d : Nat} (h1 : -36 ≤ b) (h2 : b ≤ 72) (hd : d < 36) : -2592 ≤ b * (d : Int) ∧ b * (d : Int) ≤ 2592 := by
  have := byx_bd (x := d) (y := 0) h1 h2 hd (by omega)
  simpa using this

set_option maxHeartbeats 1600000 in
set_option maxRecDepth 10000 in
theorem implUnseen {P : Nat → Prop} {bx : Nat} {x : Wgt} {w : World} (h : BoxW P w bx x) (hv : VW x) (kind : Int) (place : Nat) (hk : kindOk kind x.base = true) (hp : place + errLen kind ≤ x.weights.length) :
    Calls Try.prog 85 #[.pointer (some ⟨bx, 0, none⟩), .int .i64 kind, .int .i64 place] w fun e w' => e = .returned (.int .i64 (unsN x kind place)) ∧ ∃ m, w.drewN m = w' := by
  have hel := errLen_bd kind
  obtain ⟨b, o, c, g3, h1, h2, hcell⟩ := h.weight (i := place) (by omega)
  obtain ⟨_, _, g0, g1, _⟩ := h.cells
  have Hcell := Lib.hid hcell; clear hcell h
  unfold maxLen at h2
  have hbs := hv.base
  have hmo := hv.modulus
  have hln := hv.len
  have hwt := Lib.hid hv.weight
  have c0 := Hcell.out place (by omega)
  have a0 := hwt.out place (by omega)
  have hcl := Hcell.out (place + errLen kind - 1) (by omega)
  have al := hwt.out (place + errLen kind - 1) (by omega)
  have hk6 : 0 ≤ kind ∧ kind ≤ 5 := by
    have := hk
    simp only [kindOk, Bool.and_eq_true, inB_true] at this
    omega
  have hk4 : kind = 0 ∨ kind = 1 ∨ kind = 2 ∨ kind = 3 ∨ kind = 4 ∨ kind = 5 := by omega
  have hr0 := Lib.hid (fun h5 => unsN_diff (x := x) (kind := kind) (place := place) h5)
  clear hv hk hk6
  have hw0 : (0 : Int) ≤ (place : Int) := by omega
  have hw1 : IntKind.i64.wrap ((place : Int) + errLen kind) = (place : Int) + errLen kind := IntWalk.i64_in _ (by omega)
  have hw2 : (place : Int) + errLen kind ≤ (x.weights.length : Int) := by omega
  have hw3 : (place : Int) ≤ (place : Int) + errLen kind := by omega
  generalize hA : nth x.weights place = A at *
  generalize hQ : nth x.weights (place + errLen kind - 1) = Q at *
  generalize hE : errLen kind = E at *
  have HE := Lib.hid hE; clear hE
  have HA := Lib.hid hA; clear hA
  have HQ := Lib.hid hQ; clear hQ
  obtain ⟨NB, hNB⟩ : ∃ n : Nat, n = x.base.toNat := ⟨_, rfl⟩
  rw [show x.base = (NB : Int) by omega] at g0
  have hB1 : 2 ≤ NB ∧ NB ≤ 36 := by omega
  have HNB := Lib.hid hNB
  clear hNB hbs
  have hw4 : IntKind.i64.wrap ((E : Int) - 1) = (E : Int) - 1 := IntWalk.i64_in _ (by omega)
  have hw5 : (0 : Int) ≤ (E : Int) - 1 := by omega
  have hw6 : (E : Int) - 1 < (E : Int) := by omega
  have hw7 : ((E : Int) - 1).toNat = E - 1 := by omega
  have hw8 : 0 < E := by omega
  have hw9 : (0 : Int) < (E : Int) := by omega
  have hcl2 : w.cell? ⟨b, o + place + (E - 1), none⟩ = some (.int .i64 Q) := by rw [show o + place + (E - 1) = o + (place + E - 1) by omega]; exact hcl
  have hcp : E ≤ c - place := by omega
  clear hcl
  go_enter Try.func85, Try.ntmps85
  go_wp2
  go_quiet ((go_at_call 118; exact quiet_same ((implErrorLength kind _).mono fun e w' ⟨h1, h2⟩ => ⟨by rw [h1, HE.out], h2⟩)))
  rw [Nat.add_sub_cancel_left]
  go_wp2
  go_quiet (fail)
  clear hw0 hw1 hw2 hw3 hw4 hw5 hw6 hw7 hw8 hw9 hcl2 hcp
  rcases hk4 with rfl | rfl | rfl | rfl | rfl | rfl
  · have hr := Lib.hid (show unsN x 0 place = diffN x.modulus (A) NB NB by rw [hr0.out (by omega), HNB.out]; rfl)
    have hB0 : -36 ≤ A ∧ A ≤ 72 := by omega
    go_wp2
    go_loop [11, 13] (fun n i => ∃ d : Nat, 1 ≤ d ∧ d ≤ NB ∧ i = .int .i64 d ∧ n = .int .i64 (diffN x.modulus (A) NB d)) (fun _ i => NB - (intOf i).toNat)
    case atStart => exact ⟨1, by omega, by omega, rfl, by rw [diffN_one]; rfl⟩
    case round =>
      obtain ⟨d, hd1, hd2, rfl, rfl⟩ := hrel
      have hdl := diffN_le x.modulus (A) NB d hB1.2
      have hds := diffN_step x.modulus (A) NB d
      rw [if_neg (by omega)] at hds
      have htm := tmod_zero ((A) * (d : Int)) x.modulus
      by_cases hlt : d < NB
      · have hbd := byd_bd hB0.1 hB0.2 (show d < 36 by omega)
        by_cases hz : (A) * (d : Int) % x.modulus = 0
        · have hb : b2n (zeroAt x.modulus (A) (d : Int)) = 1 := by simp [b2n, zeroAt, hz]
          rw [hb] at hds
          have hzb : (Int.tmod ((A) * (d : Int)) x.modulus == 0) = true := by rw [htm]; simpa using hz
          have Hds := Lib.hid hds
          clear hb hds htm hz
          generalize hN : diffN x.modulus (A) NB d = N at *
          go_wp2
          go_round
          case rel => exact ⟨d + 1, by omega, by omega, by go_num, by rw [Hds.out]; congr 1; omega⟩
          case measure => simp [intOf]; omega
        · have hb : b2n (zeroAt x.modulus (A) (d : Int)) = 0 := by simp [b2n, zeroAt, hz]
          rw [hb] at hds
          have hzb : (Int.tmod ((A) * (d : Int)) x.modulus == 0) = false := by rw [htm]; simpa using hz
          have Hds := Lib.hid hds
          clear hb hds htm hz
          generalize hN : diffN x.modulus (A) NB d = N at *
          go_wp2
          go_round
          case rel => exact ⟨d + 1, by omega, by omega, by go_num, by rw [Hds.out]; congr 1⟩
          case measure => simp [intOf]; omega
      · obtain rfl : d = NB := by omega
        clear hds htm
        go_wp2
        go_ret
        exact ⟨ret_int' (by rw [hr.out]), _, rfl⟩
  · have hr := Lib.hid (show unsN x 1 place = diffN x.modulus (A - Q) NB NB by rw [hr0.out (by omega), HNB.out]; rfl)
    have hB0 : -36 ≤ A - Q ∧ A - Q ≤ 72 := by omega
    go_wp2
    go_loop [11, 13] (fun n i => ∃ d : Nat, 1 ≤ d ∧ d ≤ NB ∧ i = .int .i64 d ∧ n = .int .i64 (diffN x.modulus (A - Q) NB d)) (fun _ i => NB - (intOf i).toNat)
    case atStart => exact ⟨1, by omega, by omega, rfl, by rw [diffN_one]; rfl⟩
    case round =>
      obtain ⟨d, hd1, hd2, rfl, rfl⟩ := hrel
      have hdl := diffN_le x.modulus (A - Q) NB d hB1.2
      have hds := diffN_step x.modulus (A - Q) NB d
      rw [if_neg (by omega)] at hds
      have htm := tmod_zero ((A - Q) * (d : Int)) x.modulus
      by_cases hlt : d < NB
      · have hbd := byd_bd hB0.1 hB0.2 (show d < 36 by omega)
        by_cases hz : (A - Q) * (d : Int) % x.modulus = 0
        · have hb : b2n (zeroAt x.modulus (A - Q) (d : Int)) = 1 := by simp [b2n, zeroAt, hz]
          rw [hb] at hds
          have hzb : (Int.tmod ((A - Q) * (d : Int)) x.modulus == 0) = true := by rw [htm]; simpa using hz
          have Hds := Lib.hid hds
          clear hb hds htm hz
          generalize hN : diffN x.modulus (A - Q) NB d = N at *
          go_wp2
          go_round
          case rel => exact ⟨d + 1, by omega, by omega, by go_num, by rw [Hds.out]; congr 1; omega⟩
          case measure => simp [intOf]; omega
        · have hb : b2n (zeroAt x.modulus (A - Q) (d : Int)) = 0 := by simp [b2n, zeroAt, hz]
          rw [hb] at hds
          have hzb : (Int.tmod ((A - Q) * (d : Int)) x.modulus == 0) = false := by rw [htm]; simpa using hz
          have Hds := Lib.hid hds
          clear hb hds htm hz
          generalize hN : diffN x.modulus (A - Q) NB d = N at *
          go_wp2
          go_round
          case rel => exact ⟨d + 1, by omega, by omega, by go_num, by rw [Hds.out]; congr 1⟩
          case measure => simp [intOf]; omega
      · obtain rfl : d = NB := by omega
        clear hds htm
        go_wp2
        go_ret
        exact ⟨ret_int' (by rw [hr.out]), _, rfl⟩
  · have hr := Lib.hid (show unsN x 2 place = diffN x.modulus (A - Q) NB NB by rw [hr0.out (by omega), HNB.out]; rfl)
    have hB0 : -36 ≤ A - Q ∧ A - Q ≤ 72 := by omega
    go_wp2
    go_loop [11, 13] (fun n i => ∃ d : Nat, 1 ≤ d ∧ d ≤ NB ∧ i = .int .i64 d ∧ n = .int .i64 (diffN x.modulus (A - Q) NB d)) (fun _ i => NB - (intOf i).toNat)
    case atStart => exact ⟨1, by omega, by omega, rfl, by rw [diffN_one]; rfl⟩
    case round =>
      obtain ⟨d, hd1, hd2, rfl, rfl⟩ := hrel
      have hdl := diffN_le x.modulus (A - Q) NB d hB1.2
      have hds := diffN_step x.modulus (A - Q) NB d
      rw [if_neg (by omega)] at hds
      have htm := tmod_zero ((A - Q) * (d : Int)) x.modulus
      by_cases hlt : d < NB
      · have hbd := byd_bd hB0.1 hB0.2 (show d < 36 by omega)
        by_cases hz : (A - Q) * (d : Int) % x.modulus = 0
        · have hb : b2n (zeroAt x.modulus (A - Q) (d : Int)) = 1 := by simp [b2n, zeroAt, hz]
          rw [hb] at hds
          have hzb : (Int.tmod ((A - Q) * (d : Int)) x.modulus == 0) = true := by rw [htm]; simpa using hz
          have Hds := Lib.hid hds
          clear hb hds htm hz
          generalize hN : diffN x.modulus (A - Q) NB d = N at *
          go_wp2
          go_round
          case rel => exact ⟨d + 1, by omega, by omega, by go_num, by rw [Hds.out]; congr 1; omega⟩
          case measure => simp [intOf]; omega
        · have hb : b2n (zeroAt x.modulus (A - Q) (d : Int)) = 0 := by simp [b2n, zeroAt, hz]
          rw [hb] at hds
          have hzb : (Int.tmod ((A - Q) * (d : Int)) x.modulus == 0) = false := by rw [htm]; simpa using hz
          have Hds := Lib.hid hds
          clear hb hds htm hz
          generalize hN : diffN x.modulus (A - Q) NB d = N at *
          go_wp2
          go_round
          case rel => exact ⟨d + 1, by omega, by omega, by go_num, by rw [Hds.out]; congr 1⟩
          case measure => simp [intOf]; omega
      · obtain rfl : d = NB := by omega
        clear hds htm
        go_wp2
        go_ret
        exact ⟨ret_int' (by rw [hr.out]), _, rfl⟩
  · have hr := Lib.hid (show unsN x 3 place = diffN x.modulus (A + Q) NB NB by rw [hr0.out (by omega), HNB.out]; rfl)
    have hB0 : -36 ≤ A + Q ∧ A + Q ≤ 72 := by omega
    go_wp2
    go_loop [11, 13] (fun n i => ∃ d : Nat, 1 ≤ d ∧ d ≤ NB ∧ i = .int .i64 d ∧ n = .int .i64 (diffN x.modulus (A + Q) NB d)) (fun _ i => NB - (intOf i).toNat)
    case atStart => exact ⟨1, by omega, by omega, rfl, by rw [diffN_one]; rfl⟩
    case round =>
      obtain ⟨d, hd1, hd2, rfl, rfl⟩ := hrel
      have hdl := diffN_le x.modulus (A + Q) NB d hB1.2
      have hds := diffN_step x.modulus (A + Q) NB d
      rw [if_neg (by omega)] at hds
      have htm := tmod_zero ((A + Q) * (d : Int)) x.modulus
      by_cases hlt : d < NB
      · have hbd := byd_bd hB0.1 hB0.2 (show d < 36 by omega)
        by_cases hz : (A + Q) * (d : Int) % x.modulus = 0
        · have hb : b2n (zeroAt x.modulus (A + Q) (d : Int)) = 1 := by simp [b2n, zeroAt, hz]
          rw [hb] at hds
          have hzb : (Int.tmod ((A + Q) * (d : Int)) x.modulus == 0) = true := by rw [htm]; simpa using hz
          have Hds := Lib.hid hds
          clear hb hds htm hz
          generalize hN : diffN x.modulus (A + Q) NB d = N at *
          go_wp2
          go_round
          case rel => exact ⟨d + 1, by omega, by omega, by go_num, by rw [Hds.out]; congr 1; omega⟩
          case measure => simp [intOf]; omega
        · have hb : b2n (zeroAt x.modulus (A + Q) (d : Int)) = 0 := by simp [b2n, zeroAt, hz]
          rw [hb] at hds
          have hzb : (Int.tmod ((A + Q) * (d : Int)) x.modulus == 0) = false := by rw [htm]; simpa using hz
          have Hds := Lib.hid hds
          clear hb hds htm hz
          generalize hN : diffN x.modulus (A + Q) NB d = N at *
          go_wp2
          go_round
          case rel => exact ⟨d + 1, by omega, by omega, by go_num, by rw [Hds.out]; congr 1⟩
          case measure => simp [intOf]; omega
      · obtain rfl : d = NB := by omega
        clear hds htm
        go_wp2
        go_ret
        exact ⟨ret_int' (by rw [hr.out]), _, rfl⟩
  · have hr := Lib.hid (show unsN x 4 place = diffN x.modulus (A + Q) NB NB by rw [hr0.out (by omega), HNB.out]; rfl)
    have hB0 : -36 ≤ A + Q ∧ A + Q ≤ 72 := by omega
    go_wp2
    go_loop [11, 13] (fun n i => ∃ d : Nat, 1 ≤ d ∧ d ≤ NB ∧ i = .int .i64 d ∧ n = .int .i64 (diffN x.modulus (A + Q) NB d)) (fun _ i => NB - (intOf i).toNat)
    case atStart => exact ⟨1, by omega, by omega, rfl, by rw [diffN_one]; rfl⟩
    case round =>
      obtain ⟨d, hd1, hd2, rfl, rfl⟩ := hrel
      have hdl := diffN_le x.modulus (A + Q) NB d hB1.2
      have hds := diffN_step x.modulus (A + Q) NB d
      rw [if_neg (by omega)] at hds
      have htm := tmod_zero ((A + Q) * (d : Int)) x.modulus
      by_cases hlt : d < NB
      · have hbd := byd_bd hB0.1 hB0.2 (show d < 36 by omega)
        by_cases hz : (A + Q) * (d : Int) % x.modulus = 0
        · have hb : b2n (zeroAt x.modulus (A + Q) (d : Int)) = 1 := by simp [b2n, zeroAt, hz]
          rw [hb] at hds
          have hzb : (Int.tmod ((A + Q) * (d : Int)) x.modulus == 0) = true := by rw [htm]; simpa using hz
          have Hds := Lib.hid hds
          clear hb hds htm hz
          generalize hN : diffN x.modulus (A + Q) NB d = N at *
          go_wp2
          go_round
          case rel => exact ⟨d + 1, by omega, by omega, by go_num, by rw [Hds.out]; congr 1; omega⟩
          case measure => simp [intOf]; omega
        · have hb : b2n (zeroAt x.modulus (A + Q) (d : Int)) = 0 := by simp [b2n, zeroAt, hz]
          rw [hb] at hds
          have hzb : (Int.tmod ((A + Q) * (d : Int)) x.modulus == 0) = false := by rw [htm]; simpa using hz
          have Hds := Lib.hid hds
          clear hb hds htm hz
          generalize hN : diffN x.modulus (A + Q) NB d = N at *
          go_wp2
          go_round
          case rel => exact ⟨d + 1, by omega, by omega, by go_num, by rw [Hds.out]; congr 1⟩
          case measure => simp [intOf]; omega
      · obtain rfl : d = NB := by omega
        clear hds htm
        go_wp2
        go_ret
        exact ⟨ret_int' (by rw [hr.out]), _, rfl⟩
  · have hr := Lib.hid (show unsN x 5 place = phonN x.modulus A Q 8 by rw [unsN_phon, HA.out, ← HQ.out, ← HE.out]; rfl)
    go_wp2
    go_loop [11, 12] (fun n d => ∃ k : Nat, k ≤ 8 ∧ d = .int .i64 ((k : Int) + 2) ∧ n = .int .i64 (phonN x.modulus A Q k)) (fun _ d => (10 - intOf d).toNat)
    case atStart => exact ⟨0, by omega, rfl, rfl⟩
    case round =>
      obtain ⟨k, hk8, rfl, rfl⟩ := hrel
      have hpl := phonN_le x.modulus A Q k
      have hps := phonN_succ x.modulus A Q k
      have b1 := wt_bd a0.1 a0.2 hmo.2 (show 0 ≤ (k : Int) + 2 by omega) (by omega)
      have b2 := wt_bd al.1 al.2 hmo.2 (show 0 ≤ (k : Int) + 2 by omega) (by omega)
      have htm := tmod_zero (A * ((k : Int) + 2) - A - Q * ((k : Int) + 2)) x.modulus
      by_cases hlt : k < 8
      · by_cases hz : (A * (k + 2) - A - Q * (k + 2)) % x.modulus = 0
        · rw [if_pos hz] at hps
          have Hps := Lib.hid hps
          have hzb : (Int.tmod (A * ((k : Int) + 2) - A - Q * ((k : Int) + 2)) x.modulus == 0) = true := by rw [htm]; simpa using hz
          clear hz hps htm
          generalize phonN x.modulus A Q k = N at *
          go_wp2
          go_round
          case rel => exact ⟨k + 1, by omega, by go_num, by rw [Hps.out]; go_num⟩
          case measure => simp [intOf]; omega
        · rw [if_neg hz] at hps
          have Hps := Lib.hid hps
          have hzb : (Int.tmod (A * ((k : Int) + 2) - A - Q * ((k : Int) + 2)) x.modulus == 0) = false := by rw [htm]; simpa using hz
          clear hz hps htm
          generalize phonN x.modulus A Q k = N at *
          go_wp2
          go_round
          case rel => exact ⟨k + 1, by omega, by go_num, by rw [Hps.out]; go_num⟩
          case measure => simp [intOf]; omega
      · obtain rfl : k = 8 := by omega
        clear hps htm
        go_wp2
        go_ret
        exact ⟨ret_int' (by rw [hr.out]), _, rfl⟩
end Go.Proofs.Ytphlohplkadenaa
