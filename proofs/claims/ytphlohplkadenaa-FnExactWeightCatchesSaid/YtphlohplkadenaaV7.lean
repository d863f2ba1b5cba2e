/- Unseen pairs at a place, walked. -/
import Derived.Test.YtphlohplkadenaaV6
namespace Go.Proofs.Ytphlohplkadenaa
open Go.RowKit
set_option linter.unusedVariables false

theorem tmod_zero (a m : Int) : (Int.tmod a m == 0) = decide (a % m = 0) := by
  rw [Bool.eq_iff_iff]
  simp only [beq_iff_eq, decide_eq_true_eq]
  rw [← Int.dvd_iff_tmod_eq_zero, ← Int.dvd_iff_emod_eq_zero]
def rowP (m by_ : Int) (n x k : Nat) : Nat := sumN k fun y => b2n (decide (x ≠ y) && zeroAt m by_ ((x : Int) - y))
def allP (m by_ : Int) (n k : Nat) : Nat := sumN k fun x => rowP m by_ n x n
theorem allP_all (m by_ : Int) (n : Nat) : allP m by_ n n = pairsN m by_ n := rfl
theorem rowP_zero (m by_ : Int) (n x : Nat) : rowP m by_ n x 0 = 0 := rfl
theorem rowP_succ (m by_ : Int) (n x k : Nat) : rowP m by_ n x (k + 1) = rowP m by_ n x k + b2n (decide (x ≠ k) && zeroAt m by_ ((x : Int) - k)) := sumN_succ _ _
theorem allP_succ (m by_ : Int) (n k : Nat) : allP m by_ n (k + 1) = allP m by_ n k + rowP m by_ n k n := sumN_succ _ _
theorem b2n_le (b : Bool) : b2n b ≤ 1 := by cases b <;> simp [b2n]
theorem rowP_le (m by_ : Int) (n x k : Nat) : rowP m by_ n x k ≤ k := by
  have := sumN_le (n := k) (c := 1) (f := fun y => b2n (decide (x ≠ y) && zeroAt m by_ ((x : Int) - y))) fun y _ => b2n_le _
  unfold rowP; omega
theorem allP_le (m by_ : Int) (n k : Nat) (hn : n ≤ 36) : allP m by_ n k ≤ k * 36 := sumN_le fun x _ => Nat.le_trans (rowP_le m by_ n x n) hn
theorem byx_bd {b : Int} {x y : Nat} (h1 : -36 ≤ b) (h2 : b ≤ 72) (hx : x < 36) (hy : y < 36) : -2592 ≤ b * ((x : Int) - y) ∧ b * ((x : Int) - y) ≤ 2592 := by
  rcases Int.le_total 0 b with h | h
  · rcases Int.le_total 0 ((x : Int) - y) with g | g
    · have h3 := Int.mul_nonneg h g
      have h4 : b * ((x : Int) - y) ≤ 72 * 36 := Int.mul_le_mul h2 (by omega) g (by omega)
      omega
    · have h3 := Int.mul_nonneg h (show 0 ≤ (y : Int) - x by omega)
      have h4 : b * ((y : Int) - x) ≤ 72 * 36 := Int.mul_le_mul h2 (by omega) (by omega) (by omega)
      have h5 : b * ((x : Int) - y) = -(b * ((y : Int) - x)) := by rw [← Int.mul_neg]; congr 1; omega
      omega
  · have hb : 0 ≤ -b := by omega
    rcases Int.le_total 0 ((x : Int) - y) with g | g
    · have h3 := Int.mul_nonneg hb g
      have h4 : -b * ((x : Int) - y) ≤ 36 * 36 := Int.mul_le_mul (by omega) (by omega) g (by omega)
      rw [Int.neg_mul] at h3 h4
      omega
    · have h3 := Int.mul_nonneg hb (show 0 ≤ (y : Int) - x by omega)
      have h4 : -b * ((y : Int) - x) ≤ 36 * 36 := Int.mul_le_mul (by omega) (by omega) (by omega) (by omega)
      have h5 : b * ((x : Int) - y) = -b * ((y : Int) - x) := by rw [Int.neg_mul, ← Int.mul_neg]; congr 1; omega
      omega

theorem uns_pairs {x : Wgt} {kind : Int} {place : Nat} (h5 : kind ≠ 5) (hb : 0 ≤ x.base) : unsN x kind place = pairsN x.modulus (byW kind (nth x.weights place) (nth x.weights (place + errLen kind - 1))) x.base.toNat := by
  unfold unsN; rw [if_neg h5, pairs_diff]

set_option maxHeartbeats 1600000 in
set_option maxRecDepth 10000 in
theorem specUnseen {P : Nat → Prop} {bx : Nat} {x : Wgt} {w : World} (h : BoxW P w bx x) (hv : VW x) (kind : Int) (place : Nat) (hk : kindOk kind x.base = true) (hp : place + errLen kind ≤ x.weights.length) :
    Calls Try.prog 82 #[.pointer (some ⟨bx, 0, none⟩), .int .i64 kind, .int .i64 place] w fun e w' => e = .returned (.int .i64 (unsN x kind place)) ∧ w = w' := by
  have hel := errLen_bd kind
  obtain ⟨b, o, c, g3, h1, h2, hcell⟩ := h.weight (i := place) (by omega)
  obtain ⟨_, _, g0, g1, _⟩ := h.cells
  have Hcell := Lib.hid hcell; clear hcell h
  unfold maxLen at h2
  have hbs := hv.base
  have hmo := hv.modulus
  have hln := hv.len
  have hwt := Lib.hid hv.weight
  have c0 := Hcell.out place (by omega)
  have a0 := hwt.out place (by omega)
  have hk6 : 0 ≤ kind ∧ kind ≤ 5 := by
    have := hk
    simp only [kindOk, Bool.and_eq_true, inB_true] at this
    omega
  clear hv
  have hM := Lib.hid (fun z (w : World) => specMod z x.modulus (by omega) (by omega) w)
  by_cases h5 : kind = 5
  · subst h5
    have hp2 : place + 2 ≤ x.weights.length := hp
    have hr := Lib.hid (unsN_phon (x := x) (place := place))
    have c1 := Hcell.out (place + 1) (by omega)
    have a1 := hwt.out (place + 1) (by omega)
    have c1' := c1
    rw [← Nat.add_assoc] at c1'
    have hp3 : place < x.weights.length := by omega
    have hp4 : place + 1 < x.weights.length := by omega
    have hp5 : (place : Int) + 1 < x.weights.length := by omega
    have hp6 : ((place : Int) + 1).toNat = place + 1 := by omega
    clear hk hp hel
    generalize nth x.weights place = A at *
    generalize nth x.weights (place + 1) = Bq at *
    go_enter Try.func82, Try.ntmps82
    go_wp2
    go_loop [8, 10] (fun n d => ∃ k : Nat, k ≤ 8 ∧ d = .int .i64 ((k : Int) + 2) ∧ n = .int .i64 (phonN x.modulus A Bq k)) (fun _ d => (10 - intOf d).toNat)
    case atStart => exact ⟨0, by omega, rfl, rfl⟩
    case round =>
      obtain ⟨k, hk8, rfl, rfl⟩ := hrel
      have hpl := phonN_le x.modulus A Bq k
      have hps := phonN_succ x.modulus A Bq k
      have b1 := wt_bd a0.1 a0.2 hmo.2 (show 0 ≤ (k : Int) + 2 by omega) (by omega)
      have b2 := wt_bd a1.1 a1.2 hmo.2 (show 0 ≤ (k : Int) + 2 by omega) (by omega)
      by_cases hlt : k < 8
      · by_cases hz : (A * (k + 2) - A - Bq * (k + 2)) % x.modulus = 0
        · rw [if_pos hz] at hps
          have Hps := Lib.hid hps; clear hps
          have hzb : ((A * ((k : Int) + 2) - A - Bq * ((k : Int) + 2)) % x.modulus == 0) = true := by simpa using hz
          clear hz
          generalize phonN x.modulus A Bq k = N at *
          go_wp2_with (go_at_call 117; refine (Calls.mono (hM.out _ _) ?_); rintro e w' ⟨rfl, rfl⟩)
          go_round
          case rel => exact ⟨k + 1, by omega, by go_num, by rw [Hps.out]; go_num⟩
          case measure => simp [intOf]; omega
        · rw [if_neg hz] at hps
          have Hps := Lib.hid hps; clear hps
          have hzb : ((A * ((k : Int) + 2) - A - Bq * ((k : Int) + 2)) % x.modulus == 0) = false := by simpa using hz
          clear hz
          generalize phonN x.modulus A Bq k = N at *
          go_wp2_with (go_at_call 117; refine (Calls.mono (hM.out _ _) ?_); rintro e w' ⟨rfl, rfl⟩)
          go_round
          case rel => exact ⟨k + 1, by omega, by go_num, by rw [Hps.out]; go_num⟩
          case measure => simp [intOf]; omega
      · obtain rfl : k = 8 := by omega
        clear hps
        go_wp2
        go_ret
        exact ⟨ret_int' (by rw [hr.out]), rfl⟩
  · have hr := Lib.hid (uns_pairs (x := x) (place := place) h5 (by omega))
    obtain ⟨NB, hNB⟩ : ∃ n : Nat, n = x.base.toNat := ⟨_, rfl⟩
    rw [show x.base = (NB : Int) by omega] at g0
    have hB1 : 2 ≤ NB ∧ NB ≤ 36 := by omega
    have HNB := Lib.hid hNB
    clear hNB
    have hk4 : kind = 0 ∨ kind = 1 ∨ kind = 2 ∨ kind = 3 ∨ kind = 4 := by omega
    have c1 := fun hq : errLen kind ≠ 1 => Hcell.out (place + errLen kind - 1) (by omega)
    have a1 := fun hq : errLen kind ≠ 1 => hwt.out (place + errLen kind - 1) (by omega)
    have hq2 : errLen kind ≠ 1 → place + errLen kind - 1 < x.weights.length := fun _ => by omega
    have H1 := Lib.hid c1
    have H2 := Lib.hid a1
    have H3 := Lib.hid hq2
    clear c1 a1 hq2 h5 hk6 hk hbs
    rcases hk4 with rfl | rfl | rfl | rfl | rfl
    · generalize hA : nth x.weights place = A at *
      obtain ⟨BYV, hBYV⟩ : ∃ z : Int, z = A := ⟨_, rfl⟩
      have hBY := Lib.hid (show byW 0 A (nth x.weights (place + errLen 0 - 1)) = A from rfl)
      have hB0 : -36 ≤ A ∧ A ≤ 72 := by omega
      have HA := Lib.hid hA
      clear hA hBYV
      go_enter Try.func82, Try.ntmps82
      go_wp2
      go_loop [8, 12] (fun n i => ∃ k : Nat, k ≤ NB ∧ i = .int .i64 k ∧ n = .int .i64 (allP x.modulus A NB k)) (fun _ i => NB - (intOf i).toNat)
      case atStart => exact ⟨0, by omega, rfl, rfl⟩
      case round =>
        obtain ⟨k, hk8, rfl, rfl⟩ := hrel
        have hal := allP_le x.modulus A NB k hB1.2
        have has := Lib.hid (allP_succ x.modulus A NB k)
        by_cases hlt : k < NB
        · go_wp2
          go_loop [8, 13] (fun n i => ∃ j : Nat, j ≤ NB ∧ i = .int .i64 j ∧ n = .int .i64 ((allP x.modulus A NB k : Int) + rowP x.modulus A NB k j)) (fun _ i => NB - (intOf i).toNat)
          case atStart => exact ⟨0, by omega, rfl, by rw [rowP_zero]; simp⟩
          case round =>
            obtain ⟨j, hj8, rfl, rfl⟩ := hrel
            have hrl := rowP_le x.modulus A NB k j
            have hrs := Lib.hid (rowP_succ x.modulus A NB k j)
            have hby := byx_bd hB0.1 hB0.2 (show k < 36 by omega) (show NB - 1 < 36 by omega)
            by_cases hjl : j < NB
            · have hbj := byx_bd hB0.1 hB0.2 (show k < 36 by omega) (show j < 36 by omega)
              by_cases hkj : k = j
              · subst hkj
                have hb : b2n (decide (k ≠ k) && zeroAt x.modulus A ((k : Int) - k)) = 0 := by simp [b2n]
                have Hb := Lib.hid hb
                clear hb hby hbj
                generalize allP x.modulus A NB k = N at *
                generalize hR : rowP x.modulus A NB k k = R at *
                have HR := Lib.hid hR; clear hR
                go_wp2
                go_round
                case rel => exact ⟨k + 1, by omega, by go_num, by rw [hrs.out, Hb.out]; go_num⟩
                case measure => simp [intOf]; omega
              · have hne : ((k : Int) != (j : Int)) = true := by simp; omega
                by_cases hz : A * ((k : Int) - j) % x.modulus = 0
                · have hb : b2n (decide (k ≠ j) && zeroAt x.modulus A ((k : Int) - j)) = 1 := by simp [b2n, zeroAt, hz, hkj]
                  have hzb : (A * ((k : Int) - j) % x.modulus == 0) = true := by simpa using hz
                  have Hb := Lib.hid hb
                  clear hb hby hz hkj
                  generalize allP x.modulus A NB k = N at *
                  generalize hR : rowP x.modulus A NB k j = R at *
                  have HR := Lib.hid hR; clear hR
                  go_wp2_with (go_at_call 117; refine (Calls.mono (hM.out _ _) ?_); rintro e w' ⟨rfl, rfl⟩)
                  go_round
                  case rel => exact ⟨j + 1, by omega, by go_num, by rw [hrs.out, Hb.out]; go_num⟩
                  case measure => simp [intOf]; omega
                · have hb : b2n (decide (k ≠ j) && zeroAt x.modulus A ((k : Int) - j)) = 0 := by simp [b2n, zeroAt, hz]
                  have hzb : (A * ((k : Int) - j) % x.modulus == 0) = false := by simpa using hz
                  have Hb := Lib.hid hb
                  clear hb hby hz hkj
                  generalize allP x.modulus A NB k = N at *
                  generalize hR : rowP x.modulus A NB k j = R at *
                  have HR := Lib.hid hR; clear hR
                  go_wp2_with (go_at_call 117; refine (Calls.mono (hM.out _ _) ?_); rintro e w' ⟨rfl, rfl⟩)
                  go_round
                  case rel => exact ⟨j + 1, by omega, by go_num, by rw [hrs.out, Hb.out]; go_num⟩
                  case measure => simp [intOf]; omega
            · obtain rfl : j = NB := by omega
              clear hby
              go_wp2
              go_round
              case rel => exact ⟨k + 1, by omega, by go_num, by rw [has.out]; go_num⟩
              case measure => simp [intOf]; omega
        · obtain rfl : k = NB := by omega
          go_wp2
          go_ret
          exact ⟨ret_int' (by rw [hr.out, ← HNB.out, hBY.out]; rfl), rfl⟩
    · have c1 := H1.out (by decide)
      have a1 := H2.out (by decide)
      have hq1 := H3.out (by decide)
      rw [show place + errLen 1 - 1 = place + 1 from rfl] at c1 a1 hq1
      have hq3 : (place : Int) + 1 < x.weights.length := by omega
      have hq4 : ((place : Int) + 1).toNat = place + 1 := by omega
      have hq5 : place < x.weights.length := by omega
      generalize hA : nth x.weights place = A at *
      generalize hQ : nth x.weights (place + 1) = Q at *
      have hBY := Lib.hid (show byW 1 A (nth x.weights (place + errLen 1 - 1)) = A - Q by rw [show place + errLen 1 - 1 = place + 1 from rfl, hQ]; rfl)
      have hB0 : -36 ≤ A - Q ∧ A - Q ≤ 72 := by omega
      clear hA hQ
      go_enter Try.func82, Try.ntmps82
      go_wp2
      go_loop [8, 12] (fun n i => ∃ k : Nat, k ≤ NB ∧ i = .int .i64 k ∧ n = .int .i64 (allP x.modulus (A - Q) NB k)) (fun _ i => NB - (intOf i).toNat)
      case atStart => exact ⟨0, by omega, rfl, rfl⟩
      case round =>
        obtain ⟨k, hk8, rfl, rfl⟩ := hrel
        have hal := allP_le x.modulus (A - Q) NB k hB1.2
        have has := Lib.hid (allP_succ x.modulus (A - Q) NB k)
        by_cases hlt : k < NB
        · go_wp2
          go_loop [8, 13] (fun n i => ∃ j : Nat, j ≤ NB ∧ i = .int .i64 j ∧ n = .int .i64 ((allP x.modulus (A - Q) NB k : Int) + rowP x.modulus (A - Q) NB k j)) (fun _ i => NB - (intOf i).toNat)
          case atStart => exact ⟨0, by omega, rfl, by rw [rowP_zero]; simp⟩
          case round =>
            obtain ⟨j, hj8, rfl, rfl⟩ := hrel
            have hrl := rowP_le x.modulus (A - Q) NB k j
            have hrs := Lib.hid (rowP_succ x.modulus (A - Q) NB k j)
            have hby := byx_bd hB0.1 hB0.2 (show k < 36 by omega) (show NB - 1 < 36 by omega)
            by_cases hjl : j < NB
            · have hbj := byx_bd hB0.1 hB0.2 (show k < 36 by omega) (show j < 36 by omega)
              by_cases hkj : k = j
              · subst hkj
                have hb : b2n (decide (k ≠ k) && zeroAt x.modulus (A - Q) ((k : Int) - k)) = 0 := by simp [b2n]
                have Hb := Lib.hid hb
                clear hb hby hbj
                generalize allP x.modulus (A - Q) NB k = N at *
                generalize hR : rowP x.modulus (A - Q) NB k k = R at *
                have HR := Lib.hid hR; clear hR
                go_wp2
                go_round
                case rel => exact ⟨k + 1, by omega, by go_num, by rw [hrs.out, Hb.out]; go_num⟩
                case measure => simp [intOf]; omega
              · have hne : ((k : Int) != (j : Int)) = true := by simp; omega
                by_cases hz : (A - Q) * ((k : Int) - j) % x.modulus = 0
                · have hb : b2n (decide (k ≠ j) && zeroAt x.modulus (A - Q) ((k : Int) - j)) = 1 := by simp [b2n, zeroAt, hz, hkj]
                  have hzb : ((A - Q) * ((k : Int) - j) % x.modulus == 0) = true := by simpa using hz
                  have Hb := Lib.hid hb
                  clear hb hby hz hkj
                  generalize allP x.modulus (A - Q) NB k = N at *
                  generalize hR : rowP x.modulus (A - Q) NB k j = R at *
                  have HR := Lib.hid hR; clear hR
                  go_wp2_with (go_at_call 117; refine (Calls.mono (hM.out _ _) ?_); rintro e w' ⟨rfl, rfl⟩)
                  go_round
                  case rel => exact ⟨j + 1, by omega, by go_num, by rw [hrs.out, Hb.out]; go_num⟩
                  case measure => simp [intOf]; omega
                · have hb : b2n (decide (k ≠ j) && zeroAt x.modulus (A - Q) ((k : Int) - j)) = 0 := by simp [b2n, zeroAt, hz]
                  have hzb : ((A - Q) * ((k : Int) - j) % x.modulus == 0) = false := by simpa using hz
                  have Hb := Lib.hid hb
                  clear hb hby hz hkj
                  generalize allP x.modulus (A - Q) NB k = N at *
                  generalize hR : rowP x.modulus (A - Q) NB k j = R at *
                  have HR := Lib.hid hR; clear hR
                  go_wp2_with (go_at_call 117; refine (Calls.mono (hM.out _ _) ?_); rintro e w' ⟨rfl, rfl⟩)
                  go_round
                  case rel => exact ⟨j + 1, by omega, by go_num, by rw [hrs.out, Hb.out]; go_num⟩
                  case measure => simp [intOf]; omega
            · obtain rfl : j = NB := by omega
              clear hby
              go_wp2
              go_round
              case rel => exact ⟨k + 1, by omega, by go_num, by rw [has.out]; go_num⟩
              case measure => simp [intOf]; omega
        · obtain rfl : k = NB := by omega
          go_wp2
          go_ret
          exact ⟨ret_int' (by rw [hr.out, ← HNB.out, hBY.out]; rfl), rfl⟩
    · have c1 := H1.out (by decide)
      have a1 := H2.out (by decide)
      have hq1 := H3.out (by decide)
      rw [show place + errLen 2 - 1 = place + 2 from rfl] at c1 a1 hq1
      have hq3 : (place : Int) + 2 < x.weights.length := by omega
      have hq4 : ((place : Int) + 2).toNat = place + 2 := by omega
      have hq5 : place < x.weights.length := by omega
      generalize hA : nth x.weights place = A at *
      generalize hQ : nth x.weights (place + 2) = Q at *
      have hBY := Lib.hid (show byW 2 A (nth x.weights (place + errLen 2 - 1)) = A - Q by rw [show place + errLen 2 - 1 = place + 2 from rfl, hQ]; rfl)
      have hB0 : -36 ≤ A - Q ∧ A - Q ≤ 72 := by omega
      clear hA hQ
      go_enter Try.func82, Try.ntmps82
      go_wp2
      go_loop [8, 12] (fun n i => ∃ k : Nat, k ≤ NB ∧ i = .int .i64 k ∧ n = .int .i64 (allP x.modulus (A - Q) NB k)) (fun _ i => NB - (intOf i).toNat)
      case atStart => exact ⟨0, by omega, rfl, rfl⟩
      case round =>
        obtain ⟨k, hk8, rfl, rfl⟩ := hrel
        have hal := allP_le x.modulus (A - Q) NB k hB1.2
        have has := Lib.hid (allP_succ x.modulus (A - Q) NB k)
        by_cases hlt : k < NB
        · go_wp2
          go_loop [8, 13] (fun n i => ∃ j : Nat, j ≤ NB ∧ i = .int .i64 j ∧ n = .int .i64 ((allP x.modulus (A - Q) NB k : Int) + rowP x.modulus (A - Q) NB k j)) (fun _ i => NB - (intOf i).toNat)
          case atStart => exact ⟨0, by omega, rfl, by rw [rowP_zero]; simp⟩
          case round =>
            obtain ⟨j, hj8, rfl, rfl⟩ := hrel
            have hrl := rowP_le x.modulus (A - Q) NB k j
            have hrs := Lib.hid (rowP_succ x.modulus (A - Q) NB k j)
            have hby := byx_bd hB0.1 hB0.2 (show k < 36 by omega) (show NB - 1 < 36 by omega)
            by_cases hjl : j < NB
            · have hbj := byx_bd hB0.1 hB0.2 (show k < 36 by omega) (show j < 36 by omega)
              by_cases hkj : k = j
              · subst hkj
                have hb : b2n (decide (k ≠ k) && zeroAt x.modulus (A - Q) ((k : Int) - k)) = 0 := by simp [b2n]
                have Hb := Lib.hid hb
                clear hb hby hbj
                generalize allP x.modulus (A - Q) NB k = N at *
                generalize hR : rowP x.modulus (A - Q) NB k k = R at *
                have HR := Lib.hid hR; clear hR
                go_wp2
                go_round
                case rel => exact ⟨k + 1, by omega, by go_num, by rw [hrs.out, Hb.out]; go_num⟩
                case measure => simp [intOf]; omega
              · have hne : ((k : Int) != (j : Int)) = true := by simp; omega
                by_cases hz : (A - Q) * ((k : Int) - j) % x.modulus = 0
                · have hb : b2n (decide (k ≠ j) && zeroAt x.modulus (A - Q) ((k : Int) - j)) = 1 := by simp [b2n, zeroAt, hz, hkj]
                  have hzb : ((A - Q) * ((k : Int) - j) % x.modulus == 0) = true := by simpa using hz
                  have Hb := Lib.hid hb
                  clear hb hby hz hkj
                  generalize allP x.modulus (A - Q) NB k = N at *
                  generalize hR : rowP x.modulus (A - Q) NB k j = R at *
                  have HR := Lib.hid hR; clear hR
                  go_wp2_with (go_at_call 117; refine (Calls.mono (hM.out _ _) ?_); rintro e w' ⟨rfl, rfl⟩)
                  go_round
                  case rel => exact ⟨j + 1, by omega, by go_num, by rw [hrs.out, Hb.out]; go_num⟩
                  case measure => simp [intOf]; omega
                · have hb : b2n (decide (k ≠ j) && zeroAt x.modulus (A - Q) ((k : Int) - j)) = 0 := by simp [b2n, zeroAt, hz]
                  have hzb : ((A - Q) * ((k : Int) - j) % x.modulus == 0) = false := by simpa using hz
                  have Hb := Lib.hid hb
                  clear hb hby hz hkj
                  generalize allP x.modulus (A - Q) NB k = N at *
                  generalize hR : rowP x.modulus (A - Q) NB k j = R at *
                  have HR := Lib.hid hR; clear hR
                  go_wp2_with (go_at_call 117; refine (Calls.mono (hM.out _ _) ?_); rintro e w' ⟨rfl, rfl⟩)
                  go_round
                  case rel => exact ⟨j + 1, by omega, by go_num, by rw [hrs.out, Hb.out]; go_num⟩
                  case measure => simp [intOf]; omega
            · obtain rfl : j = NB := by omega
              clear hby
              go_wp2
              go_round
              case rel => exact ⟨k + 1, by omega, by go_num, by rw [has.out]; go_num⟩
              case measure => simp [intOf]; omega
        · obtain rfl : k = NB := by omega
          go_wp2
          go_ret
          exact ⟨ret_int' (by rw [hr.out, ← HNB.out, hBY.out]; rfl), rfl⟩
    · have c1 := H1.out (by decide)
      have a1 := H2.out (by decide)
      have hq1 := H3.out (by decide)
      rw [show place + errLen 3 - 1 = place + 1 from rfl] at c1 a1 hq1
      have hq3 : (place : Int) + 1 < x.weights.length := by omega
      have hq4 : ((place : Int) + 1).toNat = place + 1 := by omega
      have hq5 : place < x.weights.length := by omega
      generalize hA : nth x.weights place = A at *
      generalize hQ : nth x.weights (place + 1) = Q at *
      have hBY := Lib.hid (show byW 3 A (nth x.weights (place + errLen 3 - 1)) = A + Q by rw [show place + errLen 3 - 1 = place + 1 from rfl, hQ]; rfl)
      have hB0 : -36 ≤ A + Q ∧ A + Q ≤ 72 := by omega
      clear hA hQ
      go_enter Try.func82, Try.ntmps82
      go_wp2
      go_loop [8, 12] (fun n i => ∃ k : Nat, k ≤ NB ∧ i = .int .i64 k ∧ n = .int .i64 (allP x.modulus (A + Q) NB k)) (fun _ i => NB - (intOf i).toNat)
      case atStart => exact ⟨0, by omega, rfl, rfl⟩
      case round =>
        obtain ⟨k, hk8, rfl, rfl⟩ := hrel
        have hal := allP_le x.modulus (A + Q) NB k hB1.2
        have has := Lib.hid (allP_succ x.modulus (A + Q) NB k)
        by_cases hlt : k < NB
        · go_wp2
          go_loop [8, 13] (fun n i => ∃ j : Nat, j ≤ NB ∧ i = .int .i64 j ∧ n = .int .i64 ((allP x.modulus (A + Q) NB k : Int) + rowP x.modulus (A + Q) NB k j)) (fun _ i => NB - (intOf i).toNat)
          case atStart => exact ⟨0, by omega, rfl, by rw [rowP_zero]; simp⟩
          case round =>
            obtain ⟨j, hj8, rfl, rfl⟩ := hrel
            have hrl := rowP_le x.modulus (A + Q) NB k j
            have hrs := Lib.hid (rowP_succ x.modulus (A + Q) NB k j)
            have hby := byx_bd hB0.1 hB0.2 (show k < 36 by omega) (show NB - 1 < 36 by omega)
            by_cases hjl : j < NB
            · have hbj := byx_bd hB0.1 hB0.2 (show k < 36 by omega) (show j < 36 by omega)
              by_cases hkj : k = j
              · subst hkj
                have hb : b2n (decide (k ≠ k) && zeroAt x.modulus (A + Q) ((k : Int) - k)) = 0 := by simp [b2n]
                have Hb := Lib.hid hb
                clear hb hby hbj
                generalize allP x.modulus (A + Q) NB k = N at *
                generalize hR : rowP x.modulus (A + Q) NB k k = R at *
                have HR := Lib.hid hR; clear hR
                go_wp2
                go_round
                case rel => exact ⟨k + 1, by omega, by go_num, by rw [hrs.out, Hb.out]; go_num⟩
                case measure => simp [intOf]; omega
              · have hne : ((k : Int) != (j : Int)) = true := by simp; omega
                by_cases hz : (A + Q) * ((k : Int) - j) % x.modulus = 0
                · have hb : b2n (decide (k ≠ j) && zeroAt x.modulus (A + Q) ((k : Int) - j)) = 1 := by simp [b2n, zeroAt, hz, hkj]
                  have hzb : ((A + Q) * ((k : Int) - j) % x.modulus == 0) = true := by simpa using hz
                  have Hb := Lib.hid hb
                  clear hb hby hz hkj
                  generalize allP x.modulus (A + Q) NB k = N at *
                  generalize hR : rowP x.modulus (A + Q) NB k j = R at *
                  have HR := Lib.hid hR; clear hR
                  go_wp2_with (go_at_call 117; refine (Calls.mono (hM.out _ _) ?_); rintro e w' ⟨rfl, rfl⟩)
                  go_round
                  case rel => exact ⟨j + 1, by omega, by go_num, by rw [hrs.out, Hb.out]; go_num⟩
                  case measure => simp [intOf]; omega
                · have hb : b2n (decide (k ≠ j) && zeroAt x.modulus (A + Q) ((k : Int) - j)) = 0 := by simp [b2n, zeroAt, hz]
                  have hzb : ((A + Q) * ((k : Int) - j) % x.modulus == 0) = false := by simpa using hz
                  have Hb := Lib.hid hb
                  clear hb hby hz hkj
                  generalize allP x.modulus (A + Q) NB k = N at *
                  generalize hR : rowP x.modulus (A + Q) NB k j = R at *
                  have HR := Lib.hid hR; clear hR
                  go_wp2_with (go_at_call 117; refine (Calls.mono (hM.out _ _) ?_); rintro e w' ⟨rfl, rfl⟩)
                  go_round
                  case rel => exact ⟨j + 1, by omega, by go_num, by rw [hrs.out, Hb.out]; go_num⟩
                  case measure => simp [intOf]; omega
            · obtain rfl : j = NB := by omega
              clear hby
              go_wp2
              go_round
              case rel => exact ⟨k + 1, by omega, by go_num, by rw [has.out]; go_num⟩
              case measure => simp [intOf]; omega
        · obtain rfl : k = NB := by omega
          go_wp2
          go_ret
          exact ⟨ret_int' (by rw [hr.out, ← HNB.out, hBY.out]; rfl), rfl⟩
    · have c1 := H1.out (by decide)
      have a1 := H2.out (by decide)
      have hq1 := H3.out (by decide)
      rw [show place + errLen 4 - 1 = place + 2 from rfl] at c1 a1 hq1
      have hq3 : (place : Int) + 2 < x.weights.length := by omega
      have hq4 : ((place : Int) + 2).toNat = place + 2 := by omega
      have hq5 : place < x.weights.length := by omega
      generalize hA : nth x.weights place = A at *
      generalize hQ : nth x.weights (place + 2) = Q at *
      have hBY := Lib.hid (show byW 4 A (nth x.weights (place + errLen 4 - 1)) = A + Q by rw [show place + errLen 4 - 1 = place + 2 from rfl, hQ]; rfl)
      have hB0 : -36 ≤ A + Q ∧ A + Q ≤ 72 := by omega
      clear hA hQ
      go_enter Try.func82, Try.ntmps82
      go_wp2
      go_loop [8, 12] (fun n i => ∃ k : Nat, k ≤ NB ∧ i = .int .i64 k ∧ n = .int .i64 (allP x.modulus (A + Q) NB k)) (fun _ i => NB - (intOf i).toNat)
      case atStart => exact ⟨0, by omega, rfl, rfl⟩
      case round =>
        obtain ⟨k, hk8, rfl, rfl⟩ := hrel
        have hal := allP_le x.modulus (A + Q) NB k hB1.2
        have has := Lib.hid (allP_succ x.modulus (A + Q) NB k)
        by_cases hlt : k < NB
        · go_wp2
          go_loop [8, 13] (fun n i => ∃ j : Nat, j ≤ NB ∧ i = .int .i64 j ∧ n = .int .i64 ((allP x.modulus (A + Q) NB k : Int) + rowP x.modulus (A + Q) NB k j)) (fun _ i => NB - (intOf i).toNat)
          case atStart => exact ⟨0, by omega, rfl, by rw [rowP_zero]; simp⟩
          case round =>
            obtain ⟨j, hj8, rfl, rfl⟩ := hrel
            have hrl := rowP_le x.modulus (A + Q) NB k j
            have hrs := Lib.hid (rowP_succ x.modulus (A + Q) NB k j)
            have hby := byx_bd hB0.1 hB0.2 (show k < 36 by omega) (show NB - 1 < 36 by omega)
            by_cases hjl : j < NB
            · have hbj := byx_bd hB0.1 hB0.2 (show k < 36 by omega) (show j < 36 by omega)
              by_cases hkj : k = j
              · subst hkj
                have hb : b2n (decide (k ≠ k) && zeroAt x.modulus (A + Q) ((k : Int) - k)) = 0 := by simp [b2n]
                have Hb := Lib.hid hb
                clear hb hby hbj
                generalize allP x.modulus (A + Q) NB k = N at *
                generalize hR : rowP x.modulus (A + Q) NB k k = R at *
                have HR := Lib.hid hR; clear hR
                go_wp2
                go_round
                case rel => exact ⟨k + 1, by omega, by go_num, by rw [hrs.out, Hb.out]; go_num⟩
                case measure => simp [intOf]; omega
              · have hne : ((k : Int) != (j : Int)) = true := by simp; omega
                by_cases hz : (A + Q) * ((k : Int) - j) % x.modulus = 0
                · have hb : b2n (decide (k ≠ j) && zeroAt x.modulus (A + Q) ((k : Int) - j)) = 1 := by simp [b2n, zeroAt, hz, hkj]
                  have hzb : ((A + Q) * ((k : Int) - j) % x.modulus == 0) = true := by simpa using hz
                  have Hb := Lib.hid hb
                  clear hb hby hz hkj
                  generalize allP x.modulus (A + Q) NB k = N at *
                  generalize hR : rowP x.modulus (A + Q) NB k j = R at *
                  have HR := Lib.hid hR; clear hR
                  go_wp2_with (go_at_call 117; refine (Calls.mono (hM.out _ _) ?_); rintro e w' ⟨rfl, rfl⟩)
                  go_round
                  case rel => exact ⟨j + 1, by omega, by go_num, by rw [hrs.out, Hb.out]; go_num⟩
                  case measure => simp [intOf]; omega
                · have hb : b2n (decide (k ≠ j) && zeroAt x.modulus (A + Q) ((k : Int) - j)) = 0 := by simp [b2n, zeroAt, hz]
                  have hzb : ((A + Q) * ((k : Int) - j) % x.modulus == 0) = false := by simpa using hz
                  have Hb := Lib.hid hb
                  clear hb hby hz hkj
                  generalize allP x.modulus (A + Q) NB k = N at *
                  generalize hR : rowP x.modulus (A + Q) NB k j = R at *
                  have HR := Lib.hid hR; clear hR
                  go_wp2_with (go_at_call 117; refine (Calls.mono (hM.out _ _) ?_); rintro e w' ⟨rfl, rfl⟩)
                  go_round
                  case rel => exact ⟨j + 1, by omega, by go_num, by rw [hrs.out, Hb.out]; go_num⟩
                  case measure => simp [intOf]; omega
            · obtain rfl : j = NB := by omega
              clear hby
              go_wp2
              go_round
              case rel => exact ⟨k + 1, by omega, by go_num, by rw [has.out]; go_num⟩
              case measure => simp [intOf]; omega
        · obtain rfl : k = NB := by omega
          go_wp2
          go_ret
          exact ⟨ret_int' (by rw [hr.out, ← HNB.out, hBY.out]; rfl), rfl⟩
end Go.Proofs.Ytphlohplkadenaa
