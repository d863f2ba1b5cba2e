/- The walks of the laws of this seat: each returns true. Printed by gen_law.py. -/
import Derived.Test.YtakliggacjckpaaT
import Derived.Test.YtakliggacjckpaaQ2
import Derived.Test.YtakliggacjckpaaQ3
import Derived.Test.YtakliggacjckpaaQ4
import Derived.Test.YtakliggacjckpaaB3
import Derived.Test.YtakliggacjckpaaB4
namespace Go.Proofs.Ytakliggacjckpaa
open Go.RowKit
set_option linter.unusedVariables false

set_option maxHeartbeats 1600000 in
set_option maxRecDepth 100000 in
theorem lawExactIsQuasigroup (w : World) (v0 : Value) (z0 : List (List Int)) (r0 : RdII (· < w.heap.size) w v0 z0) :
    Calls Try.prog 4 #[v0] w fun e w' => e = .returned (.bool true) ∧ Below w.heap.size w w' := by
  obtain ⟨ad0, cp0, rfl, cl0, cm0, _⟩ := id r0
  unfold maxLen at cm0
  have bel : Below w.heap.size w w := Below.refl _ _
  by_cases y0 : ((szL List.length z0 : Nat) : Int) ≤ 1048576
  rotate_left
  · go_enter Try.func4, Try.ntmps4
    go_wp2_with fail
    refine (szInt64SS r0 _ (by omega) (by omega)).mono ?_
    rw [szR_no (by omega)]
    rintro e w' ⟨rfl, rfl⟩
    go_wp2_with fail
    go_ret
    exact ⟨rfl, Below.refl _ _⟩
  have l0 : szL List.length z0 ≤ 1048576 := by omega
  have c0 := cnt_le_sz2 z0
  go_enter Try.func4, Try.ntmps4
  go_wp2_with fail
  refine (szInt64SS r0 _ (by omega) (by omega)).mono ?_
  rw [szR_yes y0]
  rintro e w' ⟨rfl, rfl⟩
  go_wp2_with fail
  refine (toInt64SS_t (B := w.heap.size) r0 (by omega) l0).mono ?_
  rintro e w1 ⟨v_1, rfl, i1, t1⟩
  have s1 := t1.size
  replace r0 := rd_turn RdII.ok r0 t1 (by omega) (by omega)
  replace bel := Turn.below bel t1 (by omega) (by omega)
  go_wp2_with fail
  refine (specIsQuasigroup (i1.rdlt OII.leads OII.ok) (Nat.le_refl _)).mono ?_
  rintro e w2 ⟨rfl, b2⟩
  have t2 := Turn.of_below b2; clear b2
  have s2 := t2.size
  replace i1 := i1.keep OII.ok t2 (by omega)
  replace r0 := rd_turn RdII.ok r0 t2 (by omega) (by omega)
  replace bel := Turn.below bel t2 (by omega) (by omega)
  go_wp2_with fail
  refine (toInt64SS_t (B := w.heap.size) r0 (by omega) l0).mono ?_
  rintro e w3 ⟨v_3, rfl, i3, t3⟩
  have s3 := t3.size
  replace i1 := i1.keep OII.ok t3 (by omega)
  replace r0 := rd_turn RdII.ok r0 t3 (by omega) (by omega)
  replace bel := Turn.below bel t3 (by omega) (by omega)
  go_wp2_with fail
  refine (implIsQuasigroup (i3.rdlt OII.leads OII.ok) (Nat.le_refl _)).mono ?_
  rintro e w4 ⟨rfl, b4⟩
  have t4 := Turn.of_below b4; clear b4
  have s4 := t4.size
  replace i1 := i1.keep OII.ok t4 (by omega)
  replace i3 := i3.keep OII.ok t4 (by omega)
  replace r0 := rd_turn RdII.ok r0 t4 (by omega) (by omega)
  replace bel := Turn.below bel t4 (by omega) (by omega)
  go_wp2_with fail
  refine (toInt64SS_t (B := w.heap.size) r0 (by omega) l0).mono ?_
  rintro e w5 ⟨v_5, rfl, i5, t5⟩
  have s5 := t5.size
  replace i1 := i1.keep OII.ok t5 (by omega)
  replace i3 := i3.keep OII.ok t5 (by omega)
  replace r0 := rd_turn RdII.ok r0 t5 (by omega) (by omega)
  replace bel := Turn.below bel t5 (by omega) (by omega)
  go_wp2_with fail
  refine (eqInt64SS_t i3 i5).mono ?_
  rintro e w6 ⟨rfl, t6⟩
  have s6 := t6.size
  replace i1 := i1.keep OII.ok t6 (by omega)
  replace i3 := i3.keep OII.ok t6 (by omega)
  replace i5 := i5.keep OII.ok t6 (by omega)
  replace r0 := rd_turn RdII.ok r0 t6 (by omega) (by omega)
  replace bel := Turn.below bel t6 (by omega) (by omega)
  go_wp2_with fail
  go_ret
  exact ⟨rfl, bel⟩

set_option maxHeartbeats 1600000 in
set_option maxRecDepth 100000 in
theorem lawExactSwapClashes (w : World) (v0 : Value) (z0 : List (List Int)) (r0 : RdII (· < w.heap.size) w v0 z0) :
    Calls Try.prog 5 #[v0] w fun e w' => e = .returned (.bool true) ∧ Below w.heap.size w w' := by
  obtain ⟨ad0, cp0, rfl, cl0, cm0, _⟩ := id r0
  unfold maxLen at cm0
  have bel : Below w.heap.size w w := Below.refl _ _
  by_cases y0 : ((szL List.length z0 : Nat) : Int) ≤ 1048576
  rotate_left
  · go_enter Try.func5, Try.ntmps5
    go_wp2_with fail
    refine (szInt64SS r0 _ (by omega) (by omega)).mono ?_
    rw [szR_no (by omega)]
    rintro e w' ⟨rfl, rfl⟩
    go_wp2_with fail
    go_ret
    exact ⟨rfl, Below.refl _ _⟩
  have l0 : szL List.length z0 ≤ 1048576 := by omega
  have c0 := cnt_le_sz2 z0
  go_enter Try.func5, Try.ntmps5
  go_wp2_with fail
  refine (szInt64SS r0 _ (by omega) (by omega)).mono ?_
  rw [szR_yes y0]
  rintro e w' ⟨rfl, rfl⟩
  go_wp2_with fail
  refine (toInt64SS_t (B := w.heap.size) r0 (by omega) l0).mono ?_
  rintro e w1 ⟨v_1, rfl, i1, t1⟩
  have s1 := t1.size
  replace r0 := rd_turn RdII.ok r0 t1 (by omega) (by omega)
  replace bel := Turn.below bel t1 (by omega) (by omega)
  go_wp2_with fail
  refine (specSwapClashes (i1.rdlt OII.leads OII.ok) (Nat.le_refl _)).mono ?_
  rintro e w2 ⟨rfl, b2⟩
  have t2 := Turn.of_below b2; clear b2
  have s2 := t2.size
  replace i1 := i1.keep OII.ok t2 (by omega)
  replace r0 := rd_turn RdII.ok r0 t2 (by omega) (by omega)
  replace bel := Turn.below bel t2 (by omega) (by omega)
  go_wp2_with fail
  refine (toInt64SS_t (B := w.heap.size) r0 (by omega) l0).mono ?_
  rintro e w3 ⟨v_3, rfl, i3, t3⟩
  have s3 := t3.size
  replace i1 := i1.keep OII.ok t3 (by omega)
  replace r0 := rd_turn RdII.ok r0 t3 (by omega) (by omega)
  replace bel := Turn.below bel t3 (by omega) (by omega)
  go_wp2_with fail
  refine (implSwapClashes (i3.rdlt OII.leads OII.ok) (Nat.le_refl _)).mono ?_
  rintro e w4 ⟨rfl, b4⟩
  have t4 := Turn.of_below b4; clear b4
  have s4 := t4.size
  replace i1 := i1.keep OII.ok t4 (by omega)
  replace i3 := i3.keep OII.ok t4 (by omega)
  replace r0 := rd_turn RdII.ok r0 t4 (by omega) (by omega)
  replace bel := Turn.below bel t4 (by omega) (by omega)
  go_wp2_with fail
  refine (toInt64SS_t (B := w.heap.size) r0 (by omega) l0).mono ?_
  rintro e w5 ⟨v_5, rfl, i5, t5⟩
  have s5 := t5.size
  replace i1 := i1.keep OII.ok t5 (by omega)
  replace i3 := i3.keep OII.ok t5 (by omega)
  replace r0 := rd_turn RdII.ok r0 t5 (by omega) (by omega)
  replace bel := Turn.below bel t5 (by omega) (by omega)
  go_wp2_with fail
  refine (eqInt64SS_t i3 i5).mono ?_
  rintro e w6 ⟨rfl, t6⟩
  have s6 := t6.size
  replace i1 := i1.keep OII.ok t6 (by omega)
  replace i3 := i3.keep OII.ok t6 (by omega)
  replace i5 := i5.keep OII.ok t6 (by omega)
  replace r0 := rd_turn RdII.ok r0 t6 (by omega) (by omega)
  replace bel := Turn.below bel t6 (by omega) (by omega)
  go_wp2_with fail
  go_ret
  exact ⟨rfl, bel⟩

set_option maxHeartbeats 1600000 in
set_option maxRecDepth 100000 in
theorem lawExactChainClashes (w : World) (v0 : Value) (z0 : List (List Int)) (r0 : RdII (· < w.heap.size) w v0 z0) :
    Calls Try.prog 6 #[v0] w fun e w' => e = .returned (.bool true) ∧ Below w.heap.size w w' := by
  obtain ⟨ad0, cp0, rfl, cl0, cm0, _⟩ := id r0
  unfold maxLen at cm0
  have bel : Below w.heap.size w w := Below.refl _ _
  by_cases y0 : ((szL List.length z0 : Nat) : Int) ≤ 1048576
  rotate_left
  · go_enter Try.func6, Try.ntmps6
    go_wp2_with fail
    refine (szInt64SS r0 _ (by omega) (by omega)).mono ?_
    rw [szR_no (by omega)]
    rintro e w' ⟨rfl, rfl⟩
    go_wp2_with fail
    go_ret
    exact ⟨rfl, Below.refl _ _⟩
  have l0 : szL List.length z0 ≤ 1048576 := by omega
  have c0 := cnt_le_sz2 z0
  go_enter Try.func6, Try.ntmps6
  go_wp2_with fail
  refine (szInt64SS r0 _ (by omega) (by omega)).mono ?_
  rw [szR_yes y0]
  rintro e w' ⟨rfl, rfl⟩
  go_wp2_with fail
  refine (toInt64SS_t (B := w.heap.size) r0 (by omega) l0).mono ?_
  rintro e w1 ⟨v_1, rfl, i1, t1⟩
  have s1 := t1.size
  replace r0 := rd_turn RdII.ok r0 t1 (by omega) (by omega)
  replace bel := Turn.below bel t1 (by omega) (by omega)
  go_wp2_with fail
  refine (specChainClashes (i1.rdlt OII.leads OII.ok) (Nat.le_refl _)).mono ?_
  rintro e w2 ⟨rfl, b2⟩
  have t2 := Turn.of_below b2; clear b2
  have s2 := t2.size
  replace i1 := i1.keep OII.ok t2 (by omega)
  replace r0 := rd_turn RdII.ok r0 t2 (by omega) (by omega)
  replace bel := Turn.below bel t2 (by omega) (by omega)
  go_wp2_with fail
  refine (toInt64SS_t (B := w.heap.size) r0 (by omega) l0).mono ?_
  rintro e w3 ⟨v_3, rfl, i3, t3⟩
  have s3 := t3.size
  replace i1 := i1.keep OII.ok t3 (by omega)
  replace r0 := rd_turn RdII.ok r0 t3 (by omega) (by omega)
  replace bel := Turn.below bel t3 (by omega) (by omega)
  go_wp2_with fail
  refine (implChainClashes (i3.rdlt OII.leads OII.ok) (Nat.le_refl _)).mono ?_
  rintro e w4 ⟨rfl, b4⟩
  have t4 := Turn.of_below b4; clear b4
  have s4 := t4.size
  replace i1 := i1.keep OII.ok t4 (by omega)
  replace i3 := i3.keep OII.ok t4 (by omega)
  replace r0 := rd_turn RdII.ok r0 t4 (by omega) (by omega)
  replace bel := Turn.below bel t4 (by omega) (by omega)
  go_wp2_with fail
  refine (toInt64SS_t (B := w.heap.size) r0 (by omega) l0).mono ?_
  rintro e w5 ⟨v_5, rfl, i5, t5⟩
  have s5 := t5.size
  replace i1 := i1.keep OII.ok t5 (by omega)
  replace i3 := i3.keep OII.ok t5 (by omega)
  replace r0 := rd_turn RdII.ok r0 t5 (by omega) (by omega)
  replace bel := Turn.below bel t5 (by omega) (by omega)
  go_wp2_with fail
  refine (eqInt64SS_t i3 i5).mono ?_
  rintro e w6 ⟨rfl, t6⟩
  have s6 := t6.size
  replace i1 := i1.keep OII.ok t6 (by omega)
  replace i3 := i3.keep OII.ok t6 (by omega)
  replace i5 := i5.keep OII.ok t6 (by omega)
  replace r0 := rd_turn RdII.ok r0 t6 (by omega) (by omega)
  replace bel := Turn.below bel t6 (by omega) (by omega)
  go_wp2_with fail
  go_ret
  exact ⟨rfl, bel⟩

set_option maxHeartbeats 1600000 in
set_option maxRecDepth 100000 in
theorem lawExactIsTotally (w : World) (v0 : Value) (z0 : List (List Int)) (r0 : RdII (· < w.heap.size) w v0 z0) :
    Calls Try.prog 9 #[v0] w fun e w' => e = .returned (.bool true) ∧ Below w.heap.size w w' := by
  obtain ⟨ad0, cp0, rfl, cl0, cm0, _⟩ := id r0
  unfold maxLen at cm0
  have bel : Below w.heap.size w w := Below.refl _ _
  by_cases y0 : ((szL List.length z0 : Nat) : Int) ≤ 1048576
  rotate_left
  · go_enter Try.func9, Try.ntmps9
    go_wp2_with fail
    refine (szInt64SS r0 _ (by omega) (by omega)).mono ?_
    rw [szR_no (by omega)]
    rintro e w' ⟨rfl, rfl⟩
    go_wp2_with fail
    go_ret
    exact ⟨rfl, Below.refl _ _⟩
  have l0 : szL List.length z0 ≤ 1048576 := by omega
  have c0 := cnt_le_sz2 z0
  go_enter Try.func9, Try.ntmps9
  go_wp2_with fail
  refine (szInt64SS r0 _ (by omega) (by omega)).mono ?_
  rw [szR_yes y0]
  rintro e w' ⟨rfl, rfl⟩
  go_wp2_with fail
  refine (toInt64SS_t (B := w.heap.size) r0 (by omega) l0).mono ?_
  rintro e w1 ⟨v_1, rfl, i1, t1⟩
  have s1 := t1.size
  replace r0 := rd_turn RdII.ok r0 t1 (by omega) (by omega)
  replace bel := Turn.below bel t1 (by omega) (by omega)
  go_wp2_with fail
  refine (specIsTotally (i1.rdlt OII.leads OII.ok) (Nat.le_refl _)).mono ?_
  rintro e w2 ⟨rfl, b2⟩
  have t2 := Turn.of_below b2; clear b2
  have s2 := t2.size
  replace i1 := i1.keep OII.ok t2 (by omega)
  replace r0 := rd_turn RdII.ok r0 t2 (by omega) (by omega)
  replace bel := Turn.below bel t2 (by omega) (by omega)
  go_wp2_with fail
  refine (toInt64SS_t (B := w.heap.size) r0 (by omega) l0).mono ?_
  rintro e w3 ⟨v_3, rfl, i3, t3⟩
  have s3 := t3.size
  replace i1 := i1.keep OII.ok t3 (by omega)
  replace r0 := rd_turn RdII.ok r0 t3 (by omega) (by omega)
  replace bel := Turn.below bel t3 (by omega) (by omega)
  go_wp2_with fail
  refine (implIsTotally (i3.rdlt OII.leads OII.ok) (Nat.le_refl _)).mono ?_
  rintro e w4 ⟨rfl, b4⟩
  have t4 := Turn.of_below b4; clear b4
  have s4 := t4.size
  replace i1 := i1.keep OII.ok t4 (by omega)
  replace i3 := i3.keep OII.ok t4 (by omega)
  replace r0 := rd_turn RdII.ok r0 t4 (by omega) (by omega)
  replace bel := Turn.below bel t4 (by omega) (by omega)
  go_wp2_with fail
  refine (toInt64SS_t (B := w.heap.size) r0 (by omega) l0).mono ?_
  rintro e w5 ⟨v_5, rfl, i5, t5⟩
  have s5 := t5.size
  replace i1 := i1.keep OII.ok t5 (by omega)
  replace i3 := i3.keep OII.ok t5 (by omega)
  replace r0 := rd_turn RdII.ok r0 t5 (by omega) (by omega)
  replace bel := Turn.below bel t5 (by omega) (by omega)
  go_wp2_with fail
  refine (eqInt64SS_t i3 i5).mono ?_
  rintro e w6 ⟨rfl, t6⟩
  have s6 := t6.size
  replace i1 := i1.keep OII.ok t6 (by omega)
  replace i3 := i3.keep OII.ok t6 (by omega)
  replace i5 := i5.keep OII.ok t6 (by omega)
  replace r0 := rd_turn RdII.ok r0 t6 (by omega) (by omega)
  replace bel := Turn.below bel t6 (by omega) (by omega)
  go_wp2_with fail
  go_ret
  exact ⟨rfl, bel⟩

set_option maxHeartbeats 1600000 in
set_option maxRecDepth 100000 in
theorem lawExactLinearTable (a0 : Int) (a1 : Int) (a2 : Int) (a3 : Int) (w : World) :
    Calls Try.prog 7 #[.int .i64 a0, .int .i64 a1, .int .i64 a2, .int .i64 a3] w fun e w' => e = .returned (.bool true) ∧ Below w.heap.size w w' := by
  have hL := linV_cnt a0 a1 a2 a3
  have bel : Below w.heap.size w w := Below.refl _ _
  go_enter Try.func7, Try.ntmps7
  go_wp2_with fail
  refine (specLinearTable a0 a1 a2 a3 _).mono ?_
  rintro e w1 ⟨v_1, rfl, f1⟩
  obtain ⟨i1, t1⟩ := In.of_fresh OII.ok f1; clear f1
  have s1 := t1.size
  replace bel := Turn.below bel t1 (by omega) (by omega)
  go_wp2_with fail
  refine (implLinearTable a0 a1 a2 a3 _).mono ?_
  rintro e w2 ⟨v_2, rfl, f2⟩
  obtain ⟨i2, t2⟩ := In.of_fresh OII.ok f2; clear f2
  have s2 := t2.size
  replace i1 := i1.keep OII.ok t2 (by omega)
  replace bel := Turn.below bel t2 (by omega) (by omega)
  go_wp2_with fail
  refine (eqInt64SS_t i2 i1).mono ?_
  rintro e w3 ⟨rfl, t3⟩
  have s3 := t3.size
  replace i1 := i1.keep OII.ok t3 (by omega)
  replace i2 := i2.keep OII.ok t3 (by omega)
  replace bel := Turn.below bel t3 (by omega) (by omega)
  go_wp2_with fail
  refine (markInt64SS_t i2 (by omega) (by omega)).mono ?_
  rintro e w4 ⟨rfl, j4, t4⟩
  have s4 := t4.size
  replace i1 := i1.keep OII.ok t4 (by omega)
  replace bel := Turn.below bel t4 (by omega) (by omega)
  replace i2 := j4; clear j4
  go_wp2_with fail
  refine (heldInt64SS_t i2 (by omega) (by omega)).mono ?_
  rintro e w5 ⟨rfl, t5⟩
  have s5 := t5.size
  replace i1 := i1.keep OII.ok t5 (by omega)
  replace i2 := i2.keep OII.ok t5 (by omega)
  replace bel := Turn.below bel t5 (by omega) (by omega)
  go_wp2_with fail
  refine (implLinearTable a0 a1 a2 a3 _).mono ?_
  rintro e w6 ⟨v_6, rfl, f6⟩
  obtain ⟨i6, t6⟩ := In.of_fresh OII.ok f6; clear f6
  have s6 := t6.size
  replace i1 := i1.keep OII.ok t6 (by omega)
  replace i2 := i2.keep OII.ok t6 (by omega)
  replace bel := Turn.below bel t6 (by omega) (by omega)
  go_wp2_with fail
  refine (eqInt64SS_t i6 i1).mono ?_
  rintro e w7 ⟨rfl, t7⟩
  have s7 := t7.size
  replace i1 := i1.keep OII.ok t7 (by omega)
  replace i2 := i2.keep OII.ok t7 (by omega)
  replace i6 := i6.keep OII.ok t7 (by omega)
  replace bel := Turn.below bel t7 (by omega) (by omega)
  go_wp2_with fail
  refine (heldInt64SS_t i2 (by omega) (by omega)).mono ?_
  rintro e w8 ⟨rfl, t8⟩
  have s8 := t8.size
  replace i1 := i1.keep OII.ok t8 (by omega)
  replace i2 := i2.keep OII.ok t8 (by omega)
  replace i6 := i6.keep OII.ok t8 (by omega)
  replace bel := Turn.below bel t8 (by omega) (by omega)
  go_wp2_with fail
  go_ret
  exact ⟨rfl, bel⟩

set_option maxHeartbeats 1600000 in
set_option maxRecDepth 100000 in
theorem lawExactTurnTable (w : World) (v0 : Value) (z0 : List (List Int)) (r0 : RdII (· < w.heap.size) w v0 z0) (a1 : Int) :
    Calls Try.prog 14 #[v0, .int .i64 a1] w fun e w' => e = .returned (.bool true) ∧ Below w.heap.size w w' := by
  have hL := turnV_cnt z0 a1
  obtain ⟨ad0, cp0, rfl, cl0, cm0, _⟩ := id r0
  unfold maxLen at cm0
  have bel : Below w.heap.size w w := Below.refl _ _
  by_cases y0 : ((szL List.length z0 : Nat) : Int) ≤ 1048576
  rotate_left
  · go_enter Try.func14, Try.ntmps14
    go_wp2_with fail
    refine (szInt64SS r0 _ (by omega) (by omega)).mono ?_
    rw [szR_no (by omega)]
    rintro e w' ⟨rfl, rfl⟩
    go_wp2_with fail
    go_ret
    exact ⟨rfl, Below.refl _ _⟩
  have l0 : szL List.length z0 ≤ 1048576 := by omega
  have c0 := cnt_le_sz2 z0
  go_enter Try.func14, Try.ntmps14
  go_wp2_with fail
  refine (szInt64SS r0 _ (by omega) (by omega)).mono ?_
  rw [szR_yes y0]
  rintro e w' ⟨rfl, rfl⟩
  go_wp2_with fail
  refine (toInt64SS_t (B := w.heap.size) r0 (by omega) l0).mono ?_
  rintro e w1 ⟨v_1, rfl, i1, t1⟩
  have s1 := t1.size
  replace r0 := rd_turn RdII.ok r0 t1 (by omega) (by omega)
  replace bel := Turn.below bel t1 (by omega) (by omega)
  go_wp2_with fail
  refine (specTurnTable (i1.rdlt OII.leads OII.ok) (Nat.le_refl _) a1).mono ?_
  rintro e w2 ⟨v_2, rfl, f2⟩
  obtain ⟨i2, t2⟩ := In.of_fresh OII.ok f2; clear f2
  have s2 := t2.size
  replace i1 := i1.keep OII.ok t2 (by omega)
  replace r0 := rd_turn RdII.ok r0 t2 (by omega) (by omega)
  replace bel := Turn.below bel t2 (by omega) (by omega)
  go_wp2_with fail
  refine (toInt64SS_t (B := w.heap.size) r0 (by omega) l0).mono ?_
  rintro e w3 ⟨v_3, rfl, i3, t3⟩
  have s3 := t3.size
  replace i1 := i1.keep OII.ok t3 (by omega)
  replace i2 := i2.keep OII.ok t3 (by omega)
  replace r0 := rd_turn RdII.ok r0 t3 (by omega) (by omega)
  replace bel := Turn.below bel t3 (by omega) (by omega)
  go_wp2_with fail
  refine (implTurnTable (i3.rdlt OII.leads OII.ok) (Nat.le_refl _) a1).mono ?_
  rintro e w4 ⟨v_4, rfl, f4⟩
  obtain ⟨i4, t4⟩ := In.of_fresh OII.ok f4; clear f4
  have s4 := t4.size
  replace i1 := i1.keep OII.ok t4 (by omega)
  replace i2 := i2.keep OII.ok t4 (by omega)
  replace i3 := i3.keep OII.ok t4 (by omega)
  replace r0 := rd_turn RdII.ok r0 t4 (by omega) (by omega)
  replace bel := Turn.below bel t4 (by omega) (by omega)
  go_wp2_with fail
  refine (eqInt64SS_t i4 i2).mono ?_
  rintro e w5 ⟨rfl, t5⟩
  have s5 := t5.size
  replace i1 := i1.keep OII.ok t5 (by omega)
  replace i2 := i2.keep OII.ok t5 (by omega)
  replace i3 := i3.keep OII.ok t5 (by omega)
  replace i4 := i4.keep OII.ok t5 (by omega)
  replace r0 := rd_turn RdII.ok r0 t5 (by omega) (by omega)
  replace bel := Turn.below bel t5 (by omega) (by omega)
  go_wp2_with fail
  refine (toInt64SS_t (B := w.heap.size) r0 (by omega) l0).mono ?_
  rintro e w6 ⟨v_6, rfl, i6, t6⟩
  have s6 := t6.size
  replace i1 := i1.keep OII.ok t6 (by omega)
  replace i2 := i2.keep OII.ok t6 (by omega)
  replace i3 := i3.keep OII.ok t6 (by omega)
  replace i4 := i4.keep OII.ok t6 (by omega)
  replace r0 := rd_turn RdII.ok r0 t6 (by omega) (by omega)
  replace bel := Turn.below bel t6 (by omega) (by omega)
  go_wp2_with fail
  refine (eqInt64SS_t i3 i6).mono ?_
  rintro e w7 ⟨rfl, t7⟩
  have s7 := t7.size
  replace i1 := i1.keep OII.ok t7 (by omega)
  replace i2 := i2.keep OII.ok t7 (by omega)
  replace i3 := i3.keep OII.ok t7 (by omega)
  replace i4 := i4.keep OII.ok t7 (by omega)
  replace i6 := i6.keep OII.ok t7 (by omega)
  replace r0 := rd_turn RdII.ok r0 t7 (by omega) (by omega)
  replace bel := Turn.below bel t7 (by omega) (by omega)
  go_wp2_with fail
  refine (markInt64SS_t i3 (by omega) (by omega)).mono ?_
  rintro e w8 ⟨rfl, j8, t8⟩
  have s8 := t8.size
  replace i1 := i1.keep OII.ok t8 (by omega)
  replace i2 := i2.keep OII.ok t8 (by omega)
  replace i4 := i4.keep OII.ok t8 (by omega)
  replace i6 := i6.keep OII.ok t8 (by omega)
  replace r0 := rd_turn RdII.ok r0 t8 (by omega) (by omega)
  replace bel := Turn.below bel t8 (by omega) (by omega)
  replace i3 := j8; clear j8
  go_wp2_with fail
  refine (eqInt64SS_t i4 i2).mono ?_
  rintro e w9 ⟨rfl, t9⟩
  have s9 := t9.size
  replace i1 := i1.keep OII.ok t9 (by omega)
  replace i2 := i2.keep OII.ok t9 (by omega)
  replace i3 := i3.keep OII.ok t9 (by omega)
  replace i4 := i4.keep OII.ok t9 (by omega)
  replace i6 := i6.keep OII.ok t9 (by omega)
  replace r0 := rd_turn RdII.ok r0 t9 (by omega) (by omega)
  replace bel := Turn.below bel t9 (by omega) (by omega)
  go_wp2_with fail
  refine (markInt64SS_t i4 (by omega) (by omega)).mono ?_
  rintro e w10 ⟨rfl, j10, t10⟩
  have s10 := t10.size
  replace i1 := i1.keep OII.ok t10 (by omega)
  replace i2 := i2.keep OII.ok t10 (by omega)
  replace i3 := i3.keep OII.ok t10 (by omega)
  replace i6 := i6.keep OII.ok t10 (by omega)
  replace r0 := rd_turn RdII.ok r0 t10 (by omega) (by omega)
  replace bel := Turn.below bel t10 (by omega) (by omega)
  replace i4 := j10; clear j10
  go_wp2_with fail
  refine (heldInt64SS_t i4 (by omega) (by omega)).mono ?_
  rintro e w11 ⟨rfl, t11⟩
  have s11 := t11.size
  replace i1 := i1.keep OII.ok t11 (by omega)
  replace i2 := i2.keep OII.ok t11 (by omega)
  replace i3 := i3.keep OII.ok t11 (by omega)
  replace i4 := i4.keep OII.ok t11 (by omega)
  replace i6 := i6.keep OII.ok t11 (by omega)
  replace r0 := rd_turn RdII.ok r0 t11 (by omega) (by omega)
  replace bel := Turn.below bel t11 (by omega) (by omega)
  go_wp2_with fail
  refine (toInt64SS_t (B := w.heap.size) r0 (by omega) l0).mono ?_
  rintro e w12 ⟨v_12, rfl, i12, t12⟩
  have s12 := t12.size
  replace i1 := i1.keep OII.ok t12 (by omega)
  replace i2 := i2.keep OII.ok t12 (by omega)
  replace i3 := i3.keep OII.ok t12 (by omega)
  replace i4 := i4.keep OII.ok t12 (by omega)
  replace i6 := i6.keep OII.ok t12 (by omega)
  replace r0 := rd_turn RdII.ok r0 t12 (by omega) (by omega)
  replace bel := Turn.below bel t12 (by omega) (by omega)
  go_wp2_with fail
  refine (implTurnTable (i12.rdlt OII.leads OII.ok) (Nat.le_refl _) a1).mono ?_
  rintro e w13 ⟨v_13, rfl, f13⟩
  obtain ⟨i13, t13⟩ := In.of_fresh OII.ok f13; clear f13
  have s13 := t13.size
  replace i1 := i1.keep OII.ok t13 (by omega)
  replace i2 := i2.keep OII.ok t13 (by omega)
  replace i3 := i3.keep OII.ok t13 (by omega)
  replace i4 := i4.keep OII.ok t13 (by omega)
  replace i6 := i6.keep OII.ok t13 (by omega)
  replace i12 := i12.keep OII.ok t13 (by omega)
  replace r0 := rd_turn RdII.ok r0 t13 (by omega) (by omega)
  replace bel := Turn.below bel t13 (by omega) (by omega)
  go_wp2_with fail
  refine (eqInt64SS_t i13 i2).mono ?_
  rintro e w14 ⟨rfl, t14⟩
  have s14 := t14.size
  replace i1 := i1.keep OII.ok t14 (by omega)
  replace i2 := i2.keep OII.ok t14 (by omega)
  replace i3 := i3.keep OII.ok t14 (by omega)
  replace i4 := i4.keep OII.ok t14 (by omega)
  replace i6 := i6.keep OII.ok t14 (by omega)
  replace i12 := i12.keep OII.ok t14 (by omega)
  replace i13 := i13.keep OII.ok t14 (by omega)
  replace r0 := rd_turn RdII.ok r0 t14 (by omega) (by omega)
  replace bel := Turn.below bel t14 (by omega) (by omega)
  go_wp2_with fail
  refine (heldInt64SS_t i4 (by omega) (by omega)).mono ?_
  rintro e w15 ⟨rfl, t15⟩
  have s15 := t15.size
  replace i1 := i1.keep OII.ok t15 (by omega)
  replace i2 := i2.keep OII.ok t15 (by omega)
  replace i3 := i3.keep OII.ok t15 (by omega)
  replace i4 := i4.keep OII.ok t15 (by omega)
  replace i6 := i6.keep OII.ok t15 (by omega)
  replace i12 := i12.keep OII.ok t15 (by omega)
  replace i13 := i13.keep OII.ok t15 (by omega)
  replace r0 := rd_turn RdII.ok r0 t15 (by omega) (by omega)
  replace bel := Turn.below bel t15 (by omega) (by omega)
  go_wp2_with fail
  go_ret
  exact ⟨rfl, bel⟩

end Go.Proofs.Ytakliggacjckpaa
