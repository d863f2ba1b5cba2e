/- The walks of the laws of this seat: each returns true. Printed by gen_law.py. -/
import Derived.Test.YtakliggacjckpaaT
import Derived.Test.YtakliggacjckpaaQ2
import Derived.Test.YtakliggacjckpaaQ3
import Derived.Test.YtakliggacjckpaaQ4
import Derived.Test.YtakliggacjckpaaB3
import Derived.Test.YtakliggacjckpaaB4
import Derived.Test.YtakliggacjckpaaB5
import Derived.Test.YtakliggacjckpaaB6
import Derived.Test.YtakliggacjckpaaB7
namespace Go.Proofs.Ytakliggacjckpaa
open Go.RowKit
set_option linter.unusedVariables false

set_option maxHeartbeats 1600000 in
set_option maxRecDepth 100000 in
theorem lawExactIsQuasigroup (w : World) (v0 : Value) (z0 : List (List Int)) (r0 : RdII (· < w.heap.size) w v0 z0) :
    Calls Try.prog 4 #[v0] w fun e w' => e = .returned (.bool true) ∧ Below w.heap.size w w' := by
  obtain ⟨ad0, cp0, rfl, cl0, cm0, _⟩ := id r0
  unfold maxLen at cm0
  have bel : Below w.heap.size w w := Below.refl _ _
  by_cases y0 : ((szL List.length z0 : Nat) : Int) ≤ 1048576
  rotate_left
  · go_enter Try.func4, Try.ntmps4
    go_wp2_with fail
    refine (szInt64SS r0 _ (by omega) (by omega)).mono ?_
    rw [szR_no (by omega)]
    rintro e w' ⟨rfl, rfl⟩
    go_wp2_with fail
    go_ret
    exact ⟨rfl, Below.refl _ _⟩
  have l0 : szL List.length z0 ≤ 1048576 := by omega
  have c0 := cnt_le_sz2 z0
  go_enter Try.func4, Try.ntmps4
  go_wp2_with fail
  refine (szInt64SS r0 _ (by omega) (by omega)).mono ?_
  rw [szR_yes y0]
  rintro e w' ⟨rfl, rfl⟩
  go_wp2_with fail
  refine (toInt64SS_t (B := w.heap.size) r0 (by omega) l0).mono ?_
  rintro e w1 ⟨v_1, rfl, i1, t1⟩
  have s1 := t1.size
  replace r0 := rd_turn RdII.ok r0 t1 (by omega) (by omega)
  replace bel := Turn.below bel t1 (by omega) (by omega)
  go_wp2_with fail
  refine (specIsQuasigroup (i1.rdlt OII.leads OII.ok) (Nat.le_refl _)).mono ?_
  rintro e w2 ⟨rfl, b2⟩
  have t2 := Turn.of_below b2; clear b2
  have s2 := t2.size
  replace i1 := i1.keep OII.ok t2 (by omega)
  replace r0 := rd_turn RdII.ok r0 t2 (by omega) (by omega)
  replace bel := Turn.below bel t2 (by omega) (by omega)
  go_wp2_with fail
  refine (toInt64SS_t (B := w.heap.size) r0 (by omega) l0).mono ?_
  rintro e w3 ⟨v_3, rfl, i3, t3⟩
  have s3 := t3.size
  replace i1 := i1.keep OII.ok t3 (by omega)
  replace r0 := rd_turn RdII.ok r0 t3 (by omega) (by omega)
  replace bel := Turn.below bel t3 (by omega) (by omega)
  go_wp2_with fail
  refine (implIsQuasigroup (i3.rdlt OII.leads OII.ok) (Nat.le_refl _)).mono ?_
  rintro e w4 ⟨rfl, b4⟩
  have t4 := Turn.of_below b4; clear b4
  have s4 := t4.size
  replace i1 := i1.keep OII.ok t4 (by omega)
  replace i3 := i3.keep OII.ok t4 (by omega)
  replace r0 := rd_turn RdII.ok r0 t4 (by omega) (by omega)
  replace bel := Turn.below bel t4 (by omega) (by omega)
  go_wp2_with fail
  refine (toInt64SS_t (B := w.heap.size) r0 (by omega) l0).mono ?_
  rintro e w5 ⟨v_5, rfl, i5, t5⟩
  have s5 := t5.size
  replace i1 := i1.keep OII.ok t5 (by omega)
  replace i3 := i3.keep OII.ok t5 (by omega)
  replace r0 := rd_turn RdII.ok r0 t5 (by omega) (by omega)
  replace bel := Turn.below bel t5 (by omega) (by omega)
  go_wp2_with fail
  refine (eqInt64SS_t i3 i5).mono ?_
  rintro e w6 ⟨rfl, t6⟩
  have s6 := t6.size
  replace i1 := i1.keep OII.ok t6 (by omega)
  replace i3 := i3.keep OII.ok t6 (by omega)
  replace i5 := i5.keep OII.ok t6 (by omega)
  replace r0 := rd_turn RdII.ok r0 t6 (by omega) (by omega)
  replace bel := Turn.below bel t6 (by omega) (by omega)
  go_wp2_with fail
  go_ret
  exact ⟨rfl, bel⟩

set_option maxHeartbeats 1600000 in
set_option maxRecDepth 100000 in
theorem lawExactSwapClashes (w : World) (v0 : Value) (z0 : List (List Int)) (r0 : RdII (· < w.heap.size) w v0 z0) :
    Calls Try.prog 5 #[v0] w fun e w' => e = .returned (.bool true) ∧ Below w.heap.size w w' := by
  obtain ⟨ad0, cp0, rfl, cl0, cm0, _⟩ := id r0
  unfold maxLen at cm0
  have bel : Below w.heap.size w w := Below.refl _ _
  by_cases y0 : ((szL List.length z0 : Nat) : Int) ≤ 1048576
  rotate_left
  · go_enter Try.func5, Try.ntmps5
    go_wp2_with fail
    refine (szInt64SS r0 _ (by omega) (by omega)).mono ?_
    rw [szR_no (by omega)]
    rintro e w' ⟨rfl, rfl⟩
    go_wp2_with fail
    go_ret
    exact ⟨rfl, Below.refl _ _⟩
  have l0 : szL List.length z0 ≤ 1048576 := by omega
  have c0 := cnt_le_sz2 z0
  go_enter Try.func5, Try.ntmps5
  go_wp2_with fail
  refine (szInt64SS r0 _ (by omega) (by omega)).mono ?_
  rw [szR_yes y0]
  rintro e w' ⟨rfl, rfl⟩
  go_wp2_with fail
  refine (toInt64SS_t (B := w.heap.size) r0 (by omega) l0).mono ?_
  rintro e w1 ⟨v_1, rfl, i1, t1⟩
  have s1 := t1.size
  replace r0 := rd_turn RdII.ok r0 t1 (by omega) (by omega)
  replace bel := Turn.below bel t1 (by omega) (by omega)
  go_wp2_with fail
  refine (specSwapClashes (i1.rdlt OII.leads OII.ok) (Nat.le_refl _)).mono ?_
  rintro e w2 ⟨rfl, b2⟩
  have t2 := Turn.of_below b2; clear b2
  have s2 := t2.size
  replace i1 := i1.keep OII.ok t2 (by omega)
  replace r0 := rd_turn RdII.ok r0 t2 (by omega) (by omega)
  replace bel := Turn.below bel t2 (by omega) (by omega)
  go_wp2_with fail
  refine (toInt64SS_t (B := w.heap.size) r0 (by omega) l0).mono ?_
  rintro e w3 ⟨v_3, rfl, i3, t3⟩
  have s3 := t3.size
  replace i1 := i1.keep OII.ok t3 (by omega)
  replace r0 := rd_turn RdII.ok r0 t3 (by omega) (by omega)
  replace bel := Turn.below bel t3 (by omega) (by omega)
  go_wp2_with fail
  refine (implSwapClashes (i3.rdlt OII.leads OII.ok) (Nat.le_refl _)).mono ?_
  rintro e w4 ⟨rfl, b4⟩
  have t4 := Turn.of_below b4; clear b4
  have s4 := t4.size
  replace i1 := i1.keep OII.ok t4 (by omega)
  replace i3 := i3.keep OII.ok t4 (by omega)
  replace r0 := rd_turn RdII.ok r0 t4 (by omega) (by omega)
  replace bel := Turn.below bel t4 (by omega) (by omega)
  go_wp2_with fail
  refine (toInt64SS_t (B := w.heap.size) r0 (by omega) l0).mono ?_
  rintro e w5 ⟨v_5, rfl, i5, t5⟩
  have s5 := t5.size
  replace i1 := i1.keep OII.ok t5 (by omega)
  replace i3 := i3.keep OII.ok t5 (by omega)
  replace r0 := rd_turn RdII.ok r0 t5 (by omega) (by omega)
  replace bel := Turn.below bel t5 (by omega) (by omega)
  go_wp2_with fail
  refine (eqInt64SS_t i3 i5).mono ?_
  rintro e w6 ⟨rfl, t6⟩
  have s6 := t6.size
  replace i1 := i1.keep OII.ok t6 (by omega)
  replace i3 := i3.keep OII.ok t6 (by omega)
  replace i5 := i5.keep OII.ok t6 (by omega)
  replace r0 := rd_turn RdII.ok r0 t6 (by omega) (by omega)
  replace bel := Turn.below bel t6 (by omega) (by omega)
  go_wp2_with fail
  go_ret
  exact ⟨rfl, bel⟩

set_option maxHeartbeats 1600000 in
set_option maxRecDepth 100000 in
theorem lawExactChainClashes (w : World) (v0 : Value) (z0 : List (List Int)) (r0 : RdII (· < w.heap.size) w v0 z0) :
    Calls Try.prog 6 #[v0] w fun e w' => e = .returned (.bool true) ∧ Below w.heap.size w w' := by
  obtain ⟨ad0, cp0, rfl, cl0, cm0, _⟩ := id r0
  unfold maxLen at cm0
  have bel : Below w.heap.size w w := Below.refl _ _
  by_cases y0 : ((szL List.length z0 : Nat) : Int) ≤ 1048576
  rotate_left
  · go_enter Try.func6, Try.ntmps6
    go_wp2_with fail
    refine (szInt64SS r0 _ (by omega) (by omega)).mono ?_
    rw [szR_no (by omega)]
    rintro e w' ⟨rfl, rfl⟩
    go_wp2_with fail
    go_ret
    exact ⟨rfl, Below.refl _ _⟩
  have l0 : szL List.length z0 ≤ 1048576 := by omega
  have c0 := cnt_le_sz2 z0
  go_enter Try.func6, Try.ntmps6
  go_wp2_with fail
  refine (szInt64SS r0 _ (by omega) (by omega)).mono ?_
  rw [szR_yes y0]
  rintro e w' ⟨rfl, rfl⟩
  go_wp2_with fail
  refine (toInt64SS_t (B := w.heap.size) r0 (by omega) l0).mono ?_
  rintro e w1 ⟨v_1, rfl, i1, t1⟩
  have s1 := t1.size
  replace r0 := rd_turn RdII.ok r0 t1 (by omega) (by omega)
  replace bel := Turn.below bel t1 (by omega) (by omega)
  go_wp2_with fail
  refine (specChainClashes (i1.rdlt OII.leads OII.ok) (Nat.le_refl _)).mono ?_
  rintro e w2 ⟨rfl, b2⟩
  have t2 := Turn.of_below b2; clear b2
  have s2 := t2.size
  replace i1 := i1.keep OII.ok t2 (by omega)
  replace r0 := rd_turn RdII.ok r0 t2 (by omega) (by omega)
  replace bel := Turn.below bel t2 (by omega) (by omega)
  go_wp2_with fail
  refine (toInt64SS_t (B := w.heap.size) r0 (by omega) l0).mono ?_
  rintro e w3 ⟨v_3, rfl, i3, t3⟩
  have s3 := t3.size
  replace i1 := i1.keep OII.ok t3 (by omega)
  replace r0 := rd_turn RdII.ok r0 t3 (by omega) (by omega)
  replace bel := Turn.below bel t3 (by omega) (by omega)
  go_wp2_with fail
  refine (implChainClashes (i3.rdlt OII.leads OII.ok) (Nat.le_refl _)).mono ?_
  rintro e w4 ⟨rfl, b4⟩
  have t4 := Turn.of_below b4; clear b4
  have s4 := t4.size
  replace i1 := i1.keep OII.ok t4 (by omega)
  replace i3 := i3.keep OII.ok t4 (by omega)
  replace r0 := rd_turn RdII.ok r0 t4 (by omega) (by omega)
  replace bel := Turn.below bel t4 (by omega) (by omega)
  go_wp2_with fail
  refine (toInt64SS_t (B := w.heap.size) r0 (by omega) l0).mono ?_
  rintro e w5 ⟨v_5, rfl, i5, t5⟩
  have s5 := t5.size
  replace i1 := i1.keep OII.ok t5 (by omega)
  replace i3 := i3.keep OII.ok t5 (by omega)
  replace r0 := rd_turn RdII.ok r0 t5 (by omega) (by omega)
  replace bel := Turn.below bel t5 (by omega) (by omega)
  go_wp2_with fail
  refine (eqInt64SS_t i3 i5).mono ?_
  rintro e w6 ⟨rfl, t6⟩
  have s6 := t6.size
  replace i1 := i1.keep OII.ok t6 (by omega)
  replace i3 := i3.keep OII.ok t6 (by omega)
  replace i5 := i5.keep OII.ok t6 (by omega)
  replace r0 := rd_turn RdII.ok r0 t6 (by omega) (by omega)
  replace bel := Turn.below bel t6 (by omega) (by omega)
  go_wp2_with fail
  go_ret
  exact ⟨rfl, bel⟩

set_option maxHeartbeats 1600000 in
set_option maxRecDepth 100000 in
theorem lawExactIsTotally (w : World) (v0 : Value) (z0 : List (List Int)) (r0 : RdII (· < w.heap.size) w v0 z0) :
    Calls Try.prog 9 #[v0] w fun e w' => e = .returned (.bool true) ∧ Below w.heap.size w w' := by
  obtain ⟨ad0, cp0, rfl, cl0, cm0, _⟩ := id r0
  unfold maxLen at cm0
  have bel : Below w.heap.size w w := Below.refl _ _
  by_cases y0 : ((szL List.length z0 : Nat) : Int) ≤ 1048576
  rotate_left
  · go_enter Try.func9, Try.ntmps9
    go_wp2_with fail
    refine (szInt64SS r0 _ (by omega) (by omega)).mono ?_
    rw [szR_no (by omega)]
    rintro e w' ⟨rfl, rfl⟩
    go_wp2_with fail
    go_ret
    exact ⟨rfl, Below.refl _ _⟩
  have l0 : szL List.length z0 ≤ 1048576 := by omega
  have c0 := cnt_le_sz2 z0
  go_enter Try.func9, Try.ntmps9
  go_wp2_with fail
  refine (szInt64SS r0 _ (by omega) (by omega)).mono ?_
  rw [szR_yes y0]
  rintro e w' ⟨rfl, rfl⟩
  go_wp2_with fail
  refine (toInt64SS_t (B := w.heap.size) r0 (by omega) l0).mono ?_
  rintro e w1 ⟨v_1, rfl, i1, t1⟩
  have s1 := t1.size
  replace r0 := rd_turn RdII.ok r0 t1 (by omega) (by omega)
  replace bel := Turn.below bel t1 (by omega) (by omega)
  go_wp2_with fail
  refine (specIsTotally (i1.rdlt OII.leads OII.ok) (Nat.le_refl _)).mono ?_
  rintro e w2 ⟨rfl, b2⟩
  have t2 := Turn.of_below b2; clear b2
  have s2 := t2.size
  replace i1 := i1.keep OII.ok t2 (by omega)
  replace r0 := rd_turn RdII.ok r0 t2 (by omega) (by omega)
  replace bel := Turn.below bel t2 (by omega) (by omega)
  go_wp2_with fail
  refine (toInt64SS_t (B := w.heap.size) r0 (by omega) l0).mono ?_
  rintro e w3 ⟨v_3, rfl, i3, t3⟩
  have s3 := t3.size
  replace i1 := i1.keep OII.ok t3 (by omega)
  replace r0 := rd_turn RdII.ok r0 t3 (by omega) (by omega)
  replace bel := Turn.below bel t3 (by omega) (by omega)
  go_wp2_with fail
  refine (implIsTotally (i3.rdlt OII.leads OII.ok) (Nat.le_refl _)).mono ?_
  rintro e w4 ⟨rfl, b4⟩
  have t4 := Turn.of_below b4; clear b4
  have s4 := t4.size
  replace i1 := i1.keep OII.ok t4 (by omega)
  replace i3 := i3.keep OII.ok t4 (by omega)
  replace r0 := rd_turn RdII.ok r0 t4 (by omega) (by omega)
  replace bel := Turn.below bel t4 (by omega) (by omega)
  go_wp2_with fail
  refine (toInt64SS_t (B := w.heap.size) r0 (by omega) l0).mono ?_
  rintro e w5 ⟨v_5, rfl, i5, t5⟩
  have s5 := t5.size
  replace i1 := i1.keep OII.ok t5 (by omega)
  replace i3 := i3.keep OII.ok t5 (by omega)
  replace r0 := rd_turn RdII.ok r0 t5 (by omega) (by omega)
  replace bel := Turn.below bel t5 (by omega) (by omega)
  go_wp2_with fail
  refine (eqInt64SS_t i3 i5).mono ?_
  rintro e w6 ⟨rfl, t6⟩
  have s6 := t6.size
  replace i1 := i1.keep OII.ok t6 (by omega)
  replace i3 := i3.keep OII.ok t6 (by omega)
  replace i5 := i5.keep OII.ok t6 (by omega)
  replace r0 := rd_turn RdII.ok r0 t6 (by omega) (by omega)
  replace bel := Turn.below bel t6 (by omega) (by omega)
  go_wp2_with fail
  go_ret
  exact ⟨rfl, bel⟩

set_option maxHeartbeats 1600000 in
set_option maxRecDepth 100000 in
theorem lawExactLinearTable (a0 : Int) (a1 : Int) (a2 : Int) (a3 : Int) (w : World) :
    Calls Try.prog 7 #[.int .i64 a0, .int .i64 a1, .int .i64 a2, .int .i64 a3] w fun e w' => e = .returned (.bool true) ∧ Below w.heap.size w w' := by
  have hL := linV_cnt a0 a1 a2 a3
  have bel : Below w.heap.size w w := Below.refl _ _
  go_enter Try.func7, Try.ntmps7
  go_wp2_with fail
  refine (specLinearTable a0 a1 a2 a3 _).mono ?_
  rintro e w1 ⟨v_1, rfl, f1⟩
  obtain ⟨i1, t1⟩ := In.of_fresh OII.ok f1; clear f1
  have s1 := t1.size
  replace bel := Turn.below bel t1 (by omega) (by omega)
  go_wp2_with fail
  refine (implLinearTable a0 a1 a2 a3 _).mono ?_
  rintro e w2 ⟨v_2, rfl, f2⟩
  obtain ⟨i2, t2⟩ := In.of_fresh OII.ok f2; clear f2
  have s2 := t2.size
  replace i1 := i1.keep OII.ok t2 (by omega)
  replace bel := Turn.below bel t2 (by omega) (by omega)
  go_wp2_with fail
  refine (eqInt64SS_t i2 i1).mono ?_
  rintro e w3 ⟨rfl, t3⟩
  have s3 := t3.size
  replace i1 := i1.keep OII.ok t3 (by omega)
  replace i2 := i2.keep OII.ok t3 (by omega)
  replace bel := Turn.below bel t3 (by omega) (by omega)
  go_wp2_with fail
  refine (markInt64SS_t i2 (by omega) (by omega)).mono ?_
  rintro e w4 ⟨rfl, j4, t4⟩
  have s4 := t4.size
  replace i1 := i1.keep OII.ok t4 (by omega)
  replace bel := Turn.below bel t4 (by omega) (by omega)
  replace i2 := j4; clear j4
  go_wp2_with fail
  refine (heldInt64SS_t i2 (by omega) (by omega)).mono ?_
  rintro e w5 ⟨rfl, t5⟩
  have s5 := t5.size
  replace i1 := i1.keep OII.ok t5 (by omega)
  replace i2 := i2.keep OII.ok t5 (by omega)
  replace bel := Turn.below bel t5 (by omega) (by omega)
  go_wp2_with fail
  refine (implLinearTable a0 a1 a2 a3 _).mono ?_
  rintro e w6 ⟨v_6, rfl, f6⟩
  obtain ⟨i6, t6⟩ := In.of_fresh OII.ok f6; clear f6
  have s6 := t6.size
  replace i1 := i1.keep OII.ok t6 (by omega)
  replace i2 := i2.keep OII.ok t6 (by omega)
  replace bel := Turn.below bel t6 (by omega) (by omega)
  go_wp2_with fail
  refine (eqInt64SS_t i6 i1).mono ?_
  rintro e w7 ⟨rfl, t7⟩
  have s7 := t7.size
  replace i1 := i1.keep OII.ok t7 (by omega)
  replace i2 := i2.keep OII.ok t7 (by omega)
  replace i6 := i6.keep OII.ok t7 (by omega)
  replace bel := Turn.below bel t7 (by omega) (by omega)
  go_wp2_with fail
  refine (heldInt64SS_t i2 (by omega) (by omega)).mono ?_
  rintro e w8 ⟨rfl, t8⟩
  have s8 := t8.size
  replace i1 := i1.keep OII.ok t8 (by omega)
  replace i2 := i2.keep OII.ok t8 (by omega)
  replace i6 := i6.keep OII.ok t8 (by omega)
  replace bel := Turn.below bel t8 (by omega) (by omega)
  go_wp2_with fail
  go_ret
  exact ⟨rfl, bel⟩

set_option maxHeartbeats 1600000 in
set_option maxRecDepth 100000 in
theorem lawExactTurnTable (w : World) (v0 : Value) (z0 : List (List Int)) (r0 : RdII (· < w.heap.size) w v0 z0) (a1 : Int) :
    Calls Try.prog 14 #[v0, .int .i64 a1] w fun e w' => e = .returned (.bool true) ∧ Below w.heap.size w w' := by
  have hL := turnV_cnt z0 a1
  obtain ⟨ad0, cp0, rfl, cl0, cm0, _⟩ := id r0
  unfold maxLen at cm0
  have bel : Below w.heap.size w w := Below.refl _ _
  by_cases y0 : ((szL List.length z0 : Nat) : Int) ≤ 1048576
  rotate_left
  · go_enter Try.func14, Try.ntmps14
    go_wp2_with fail
    refine (szInt64SS r0 _ (by omega) (by omega)).mono ?_
    rw [szR_no (by omega)]
    rintro e w' ⟨rfl, rfl⟩
    go_wp2_with fail
    go_ret
    exact ⟨rfl, Below.refl _ _⟩
  have l0 : szL List.length z0 ≤ 1048576 := by omega
  have c0 := cnt_le_sz2 z0
  go_enter Try.func14, Try.ntmps14
  go_wp2_with fail
  refine (szInt64SS r0 _ (by omega) (by omega)).mono ?_
  rw [szR_yes y0]
  rintro e w' ⟨rfl, rfl⟩
  go_wp2_with fail
  refine (toInt64SS_t (B := w.heap.size) r0 (by omega) l0).mono ?_
  rintro e w1 ⟨v_1, rfl, i1, t1⟩
  have s1 := t1.size
  replace r0 := rd_turn RdII.ok r0 t1 (by omega) (by omega)
  replace bel := Turn.below bel t1 (by omega) (by omega)
  go_wp2_with fail
  refine (specTurnTable (i1.rdlt OII.leads OII.ok) (Nat.le_refl _) a1).mono ?_
  rintro e w2 ⟨v_2, rfl, f2⟩
  obtain ⟨i2, t2⟩ := In.of_fresh OII.ok f2; clear f2
  have s2 := t2.size
  replace i1 := i1.keep OII.ok t2 (by omega)
  replace r0 := rd_turn RdII.ok r0 t2 (by omega) (by omega)
  replace bel := Turn.below bel t2 (by omega) (by omega)
  go_wp2_with fail
  refine (toInt64SS_t (B := w.heap.size) r0 (by omega) l0).mono ?_
  rintro e w3 ⟨v_3, rfl, i3, t3⟩
  have s3 := t3.size
  replace i1 := i1.keep OII.ok t3 (by omega)
  replace i2 := i2.keep OII.ok t3 (by omega)
  replace r0 := rd_turn RdII.ok r0 t3 (by omega) (by omega)
  replace bel := Turn.below bel t3 (by omega) (by omega)
  go_wp2_with fail
  refine (implTurnTable (i3.rdlt OII.leads OII.ok) (Nat.le_refl _) a1).mono ?_
  rintro e w4 ⟨v_4, rfl, f4⟩
  obtain ⟨i4, t4⟩ := In.of_fresh OII.ok f4; clear f4
  have s4 := t4.size
  replace i1 := i1.keep OII.ok t4 (by omega)
  replace i2 := i2.keep OII.ok t4 (by omega)
  replace i3 := i3.keep OII.ok t4 (by omega)
  replace r0 := rd_turn RdII.ok r0 t4 (by omega) (by omega)
  replace bel := Turn.below bel t4 (by omega) (by omega)
  go_wp2_with fail
  refine (eqInt64SS_t i4 i2).mono ?_
  rintro e w5 ⟨rfl, t5⟩
  have s5 := t5.size
  replace i1 := i1.keep OII.ok t5 (by omega)
  replace i2 := i2.keep OII.ok t5 (by omega)
  replace i3 := i3.keep OII.ok t5 (by omega)
  replace i4 := i4.keep OII.ok t5 (by omega)
  replace r0 := rd_turn RdII.ok r0 t5 (by omega) (by omega)
  replace bel := Turn.below bel t5 (by omega) (by omega)
  go_wp2_with fail
  refine (toInt64SS_t (B := w.heap.size) r0 (by omega) l0).mono ?_
  rintro e w6 ⟨v_6, rfl, i6, t6⟩
  have s6 := t6.size
  replace i1 := i1.keep OII.ok t6 (by omega)
  replace i2 := i2.keep OII.ok t6 (by omega)
  replace i3 := i3.keep OII.ok t6 (by omega)
  replace i4 := i4.keep OII.ok t6 (by omega)
  replace r0 := rd_turn RdII.ok r0 t6 (by omega) (by omega)
  replace bel := Turn.below bel t6 (by omega) (by omega)
  go_wp2_with fail
  refine (eqInt64SS_t i3 i6).mono ?_
  rintro e w7 ⟨rfl, t7⟩
  have s7 := t7.size
  replace i1 := i1.keep OII.ok t7 (by omega)
  replace i2 := i2.keep OII.ok t7 (by omega)
  replace i3 := i3.keep OII.ok t7 (by omega)
  replace i4 := i4.keep OII.ok t7 (by omega)
  replace i6 := i6.keep OII.ok t7 (by omega)
  replace r0 := rd_turn RdII.ok r0 t7 (by omega) (by omega)
  replace bel := Turn.below bel t7 (by omega) (by omega)
  go_wp2_with fail
  refine (markInt64SS_t i3 (by omega) (by omega)).mono ?_
  rintro e w8 ⟨rfl, j8, t8⟩
  have s8 := t8.size
  replace i1 := i1.keep OII.ok t8 (by omega)
  replace i2 := i2.keep OII.ok t8 (by omega)
  replace i4 := i4.keep OII.ok t8 (by omega)
  replace i6 := i6.keep OII.ok t8 (by omega)
  replace r0 := rd_turn RdII.ok r0 t8 (by omega) (by omega)
  replace bel := Turn.below bel t8 (by omega) (by omega)
  replace i3 := j8; clear j8
  go_wp2_with fail
  refine (eqInt64SS_t i4 i2).mono ?_
  rintro e w9 ⟨rfl, t9⟩
  have s9 := t9.size
  replace i1 := i1.keep OII.ok t9 (by omega)
  replace i2 := i2.keep OII.ok t9 (by omega)
  replace i3 := i3.keep OII.ok t9 (by omega)
  replace i4 := i4.keep OII.ok t9 (by omega)
  replace i6 := i6.keep OII.ok t9 (by omega)
  replace r0 := rd_turn RdII.ok r0 t9 (by omega) (by omega)
  replace bel := Turn.below bel t9 (by omega) (by omega)
  go_wp2_with fail
  refine (markInt64SS_t i4 (by omega) (by omega)).mono ?_
  rintro e w10 ⟨rfl, j10, t10⟩
  have s10 := t10.size
  replace i1 := i1.keep OII.ok t10 (by omega)
  replace i2 := i2.keep OII.ok t10 (by omega)
  replace i3 := i3.keep OII.ok t10 (by omega)
  replace i6 := i6.keep OII.ok t10 (by omega)
  replace r0 := rd_turn RdII.ok r0 t10 (by omega) (by omega)
  replace bel := Turn.below bel t10 (by omega) (by omega)
  replace i4 := j10; clear j10
  go_wp2_with fail
  refine (heldInt64SS_t i4 (by omega) (by omega)).mono ?_
  rintro e w11 ⟨rfl, t11⟩
  have s11 := t11.size
  replace i1 := i1.keep OII.ok t11 (by omega)
  replace i2 := i2.keep OII.ok t11 (by omega)
  replace i3 := i3.keep OII.ok t11 (by omega)
  replace i4 := i4.keep OII.ok t11 (by omega)
  replace i6 := i6.keep OII.ok t11 (by omega)
  replace r0 := rd_turn RdII.ok r0 t11 (by omega) (by omega)
  replace bel := Turn.below bel t11 (by omega) (by omega)
  go_wp2_with fail
  refine (toInt64SS_t (B := w.heap.size) r0 (by omega) l0).mono ?_
  rintro e w12 ⟨v_12, rfl, i12, t12⟩
  have s12 := t12.size
  replace i1 := i1.keep OII.ok t12 (by omega)
  replace i2 := i2.keep OII.ok t12 (by omega)
  replace i3 := i3.keep OII.ok t12 (by omega)
  replace i4 := i4.keep OII.ok t12 (by omega)
  replace i6 := i6.keep OII.ok t12 (by omega)
  replace r0 := rd_turn RdII.ok r0 t12 (by omega) (by omega)
  replace bel := Turn.below bel t12 (by omega) (by omega)
  go_wp2_with fail
  refine (implTurnTable (i12.rdlt OII.leads OII.ok) (Nat.le_refl _) a1).mono ?_
  rintro e w13 ⟨v_13, rfl, f13⟩
  obtain ⟨i13, t13⟩ := In.of_fresh OII.ok f13; clear f13
  have s13 := t13.size
  replace i1 := i1.keep OII.ok t13 (by omega)
  replace i2 := i2.keep OII.ok t13 (by omega)
  replace i3 := i3.keep OII.ok t13 (by omega)
  replace i4 := i4.keep OII.ok t13 (by omega)
  replace i6 := i6.keep OII.ok t13 (by omega)
  replace i12 := i12.keep OII.ok t13 (by omega)
  replace r0 := rd_turn RdII.ok r0 t13 (by omega) (by omega)
  replace bel := Turn.below bel t13 (by omega) (by omega)
  go_wp2_with fail
  refine (eqInt64SS_t i13 i2).mono ?_
  rintro e w14 ⟨rfl, t14⟩
  have s14 := t14.size
  replace i1 := i1.keep OII.ok t14 (by omega)
  replace i2 := i2.keep OII.ok t14 (by omega)
  replace i3 := i3.keep OII.ok t14 (by omega)
  replace i4 := i4.keep OII.ok t14 (by omega)
  replace i6 := i6.keep OII.ok t14 (by omega)
  replace i12 := i12.keep OII.ok t14 (by omega)
  replace i13 := i13.keep OII.ok t14 (by omega)
  replace r0 := rd_turn RdII.ok r0 t14 (by omega) (by omega)
  replace bel := Turn.below bel t14 (by omega) (by omega)
  go_wp2_with fail
  refine (heldInt64SS_t i4 (by omega) (by omega)).mono ?_
  rintro e w15 ⟨rfl, t15⟩
  have s15 := t15.size
  replace i1 := i1.keep OII.ok t15 (by omega)
  replace i2 := i2.keep OII.ok t15 (by omega)
  replace i3 := i3.keep OII.ok t15 (by omega)
  replace i4 := i4.keep OII.ok t15 (by omega)
  replace i6 := i6.keep OII.ok t15 (by omega)
  replace i12 := i12.keep OII.ok t15 (by omega)
  replace i13 := i13.keep OII.ok t15 (by omega)
  replace r0 := rd_turn RdII.ok r0 t15 (by omega) (by omega)
  replace bel := Turn.below bel t15 (by omega) (by omega)
  go_wp2_with fail
  go_ret
  exact ⟨rfl, bel⟩

set_option maxHeartbeats 1600000 in
set_option maxRecDepth 100000 in
theorem lawExactRenameTable (w : World) (v0 : Value) (z0 : List (List Int)) (r0 : RdII (· < w.heap.size) w v0 z0) (v1 : Value) (z1 : List Int) (r1 : RdI (· < w.heap.size) w v1 z1) (v2 : Value) (z2 : List Int) (r2 : RdI (· < w.heap.size) w v2 z2) (v3 : Value) (z3 : List Int) (r3 : RdI (· < w.heap.size) w v3 z3) :
    Calls Try.prog 13 #[v0, v1, v2, v3] w fun e w' => e = .returned (.bool true) ∧ Below w.heap.size w w' := by
  have hL := renV_cnt z0 z1 z2 z3
  obtain ⟨ad0, cp0, rfl, cl0, cm0, _⟩ := id r0
  unfold maxLen at cm0
  obtain ⟨ad1, cp1, rfl, cl1, cm1, _⟩ := id r1
  unfold maxLen at cm1
  obtain ⟨ad2, cp2, rfl, cl2, cm2, _⟩ := id r2
  unfold maxLen at cm2
  obtain ⟨ad3, cp3, rfl, cl3, cm3, _⟩ := id r3
  unfold maxLen at cm3
  have bel : Below w.heap.size w w := Below.refl _ _
  by_cases x1 : 1048576 < z1.length
  · go_enter Try.func13, Try.ntmps13
    go_wp2_with fail
    go_ret
    exact ⟨rfl, Below.refl _ _⟩
  have l1 : z1.length ≤ 1048576 := by omega
  by_cases x2 : 1048576 < z2.length
  · go_enter Try.func13, Try.ntmps13
    go_wp2_with fail
    go_ret
    exact ⟨rfl, Below.refl _ _⟩
  have l2 : z2.length ≤ 1048576 := by omega
  by_cases x3 : 1048576 < z3.length
  · go_enter Try.func13, Try.ntmps13
    go_wp2_with fail
    go_ret
    exact ⟨rfl, Below.refl _ _⟩
  have l3 : z3.length ≤ 1048576 := by omega
  by_cases y0 : ((szL List.length z0 : Nat) : Int) ≤ 1048576
  rotate_left
  · go_enter Try.func13, Try.ntmps13
    go_wp2_with fail
    refine (szInt64SS r0 _ (by omega) (by omega)).mono ?_
    rw [szR_no (by omega)]
    rintro e w' ⟨rfl, rfl⟩
    go_wp2_with fail
    go_ret
    exact ⟨rfl, Below.refl _ _⟩
  have l0 : szL List.length z0 ≤ 1048576 := by omega
  have c0 := cnt_le_sz2 z0
  go_enter Try.func13, Try.ntmps13
  go_wp2_with fail
  refine (szInt64SS r0 _ (by omega) (by omega)).mono ?_
  rw [szR_yes y0]
  rintro e w' ⟨rfl, rfl⟩
  go_wp2_with fail
  refine (toInt64SS_t (B := w.heap.size) r0 (by omega) l0).mono ?_
  rintro e w1 ⟨v_1, rfl, i1, t1⟩
  have s1 := t1.size
  replace r0 := rd_turn RdII.ok r0 t1 (by omega) (by omega)
  replace r1 := rd_turn RdI.ok r1 t1 (by omega) (by omega)
  replace r2 := rd_turn RdI.ok r2 t1 (by omega) (by omega)
  replace r3 := rd_turn RdI.ok r3 t1 (by omega) (by omega)
  replace bel := Turn.below bel t1 (by omega) (by omega)
  go_wp2_with fail
  refine (toInt64S_t (B := w.heap.size) r1 (by omega) l1).mono ?_
  rintro e w2 ⟨v_2, rfl, i2, t2⟩
  have s2 := t2.size
  replace i1 := i1.keep OII.ok t2 (by omega)
  replace r0 := rd_turn RdII.ok r0 t2 (by omega) (by omega)
  replace r1 := rd_turn RdI.ok r1 t2 (by omega) (by omega)
  replace r2 := rd_turn RdI.ok r2 t2 (by omega) (by omega)
  replace r3 := rd_turn RdI.ok r3 t2 (by omega) (by omega)
  replace bel := Turn.below bel t2 (by omega) (by omega)
  go_wp2_with fail
  refine (toInt64S_t (B := w.heap.size) r2 (by omega) l2).mono ?_
  rintro e w3 ⟨v_3, rfl, i3, t3⟩
  have s3 := t3.size
  replace i1 := i1.keep OII.ok t3 (by omega)
  replace i2 := i2.keep OI.ok t3 (by omega)
  replace r0 := rd_turn RdII.ok r0 t3 (by omega) (by omega)
  replace r1 := rd_turn RdI.ok r1 t3 (by omega) (by omega)
  replace r2 := rd_turn RdI.ok r2 t3 (by omega) (by omega)
  replace r3 := rd_turn RdI.ok r3 t3 (by omega) (by omega)
  replace bel := Turn.below bel t3 (by omega) (by omega)
  go_wp2_with fail
  refine (toInt64S_t (B := w.heap.size) r3 (by omega) l3).mono ?_
  rintro e w4 ⟨v_4, rfl, i4, t4⟩
  have s4 := t4.size
  replace i1 := i1.keep OII.ok t4 (by omega)
  replace i2 := i2.keep OI.ok t4 (by omega)
  replace i3 := i3.keep OI.ok t4 (by omega)
  replace r0 := rd_turn RdII.ok r0 t4 (by omega) (by omega)
  replace r1 := rd_turn RdI.ok r1 t4 (by omega) (by omega)
  replace r2 := rd_turn RdI.ok r2 t4 (by omega) (by omega)
  replace r3 := rd_turn RdI.ok r3 t4 (by omega) (by omega)
  replace bel := Turn.below bel t4 (by omega) (by omega)
  go_wp2_with fail
  refine (specRenameTable (i1.rdlt OII.leads OII.ok) (i2.rdlt OI.leads OI.ok) (i3.rdlt OI.leads OI.ok) (i4.rdlt OI.leads OI.ok) (Nat.le_refl _) l1 l2 l3).mono ?_
  rintro e w5 ⟨v_5, rfl, f5⟩
  obtain ⟨i5, t5⟩ := In.of_fresh OII.ok f5; clear f5
  have s5 := t5.size
  replace i1 := i1.keep OII.ok t5 (by omega)
  replace i2 := i2.keep OI.ok t5 (by omega)
  replace i3 := i3.keep OI.ok t5 (by omega)
  replace i4 := i4.keep OI.ok t5 (by omega)
  replace r0 := rd_turn RdII.ok r0 t5 (by omega) (by omega)
  replace r1 := rd_turn RdI.ok r1 t5 (by omega) (by omega)
  replace r2 := rd_turn RdI.ok r2 t5 (by omega) (by omega)
  replace r3 := rd_turn RdI.ok r3 t5 (by omega) (by omega)
  replace bel := Turn.below bel t5 (by omega) (by omega)
  go_wp2_with fail
  refine (toInt64SS_t (B := w.heap.size) r0 (by omega) l0).mono ?_
  rintro e w6 ⟨v_6, rfl, i6, t6⟩
  have s6 := t6.size
  replace i1 := i1.keep OII.ok t6 (by omega)
  replace i2 := i2.keep OI.ok t6 (by omega)
  replace i3 := i3.keep OI.ok t6 (by omega)
  replace i4 := i4.keep OI.ok t6 (by omega)
  replace i5 := i5.keep OII.ok t6 (by omega)
  replace r0 := rd_turn RdII.ok r0 t6 (by omega) (by omega)
  replace r1 := rd_turn RdI.ok r1 t6 (by omega) (by omega)
  replace r2 := rd_turn RdI.ok r2 t6 (by omega) (by omega)
  replace r3 := rd_turn RdI.ok r3 t6 (by omega) (by omega)
  replace bel := Turn.below bel t6 (by omega) (by omega)
  go_wp2_with fail
  refine (toInt64S_t (B := w.heap.size) r1 (by omega) l1).mono ?_
  rintro e w7 ⟨v_7, rfl, i7, t7⟩
  have s7 := t7.size
  replace i1 := i1.keep OII.ok t7 (by omega)
  replace i2 := i2.keep OI.ok t7 (by omega)
  replace i3 := i3.keep OI.ok t7 (by omega)
  replace i4 := i4.keep OI.ok t7 (by omega)
  replace i5 := i5.keep OII.ok t7 (by omega)
  replace i6 := i6.keep OII.ok t7 (by omega)
  replace r0 := rd_turn RdII.ok r0 t7 (by omega) (by omega)
  replace r1 := rd_turn RdI.ok r1 t7 (by omega) (by omega)
  replace r2 := rd_turn RdI.ok r2 t7 (by omega) (by omega)
  replace r3 := rd_turn RdI.ok r3 t7 (by omega) (by omega)
  replace bel := Turn.below bel t7 (by omega) (by omega)
  go_wp2_with fail
  refine (toInt64S_t (B := w.heap.size) r2 (by omega) l2).mono ?_
  rintro e w8 ⟨v_8, rfl, i8, t8⟩
  have s8 := t8.size
  replace i1 := i1.keep OII.ok t8 (by omega)
  replace i2 := i2.keep OI.ok t8 (by omega)
  replace i3 := i3.keep OI.ok t8 (by omega)
  replace i4 := i4.keep OI.ok t8 (by omega)
  replace i5 := i5.keep OII.ok t8 (by omega)
  replace i6 := i6.keep OII.ok t8 (by omega)
  replace i7 := i7.keep OI.ok t8 (by omega)
  replace r0 := rd_turn RdII.ok r0 t8 (by omega) (by omega)
  replace r1 := rd_turn RdI.ok r1 t8 (by omega) (by omega)
  replace r2 := rd_turn RdI.ok r2 t8 (by omega) (by omega)
  replace r3 := rd_turn RdI.ok r3 t8 (by omega) (by omega)
  replace bel := Turn.below bel t8 (by omega) (by omega)
  go_wp2_with fail
  refine (toInt64S_t (B := w.heap.size) r3 (by omega) l3).mono ?_
  rintro e w9 ⟨v_9, rfl, i9, t9⟩
  have s9 := t9.size
  replace i1 := i1.keep OII.ok t9 (by omega)
  replace i2 := i2.keep OI.ok t9 (by omega)
  replace i3 := i3.keep OI.ok t9 (by omega)
  replace i4 := i4.keep OI.ok t9 (by omega)
  replace i5 := i5.keep OII.ok t9 (by omega)
  replace i6 := i6.keep OII.ok t9 (by omega)
  replace i7 := i7.keep OI.ok t9 (by omega)
  replace i8 := i8.keep OI.ok t9 (by omega)
  replace r0 := rd_turn RdII.ok r0 t9 (by omega) (by omega)
  replace r1 := rd_turn RdI.ok r1 t9 (by omega) (by omega)
  replace r2 := rd_turn RdI.ok r2 t9 (by omega) (by omega)
  replace r3 := rd_turn RdI.ok r3 t9 (by omega) (by omega)
  replace bel := Turn.below bel t9 (by omega) (by omega)
  go_wp2_with fail
  refine (implRenameTable (i6.rdlt OII.leads OII.ok) (i7.rdlt OI.leads OI.ok) (i8.rdlt OI.leads OI.ok) (i9.rdlt OI.leads OI.ok) (Nat.le_refl _) (Nat.le_trans (szL_len _ _) l0) l1 l2 l3).mono ?_
  rintro e w10 ⟨v_10, rfl, f10⟩
  obtain ⟨i10, t10⟩ := In.of_fresh OII.ok f10; clear f10
  have s10 := t10.size
  replace i1 := i1.keep OII.ok t10 (by omega)
  replace i2 := i2.keep OI.ok t10 (by omega)
  replace i3 := i3.keep OI.ok t10 (by omega)
  replace i4 := i4.keep OI.ok t10 (by omega)
  replace i5 := i5.keep OII.ok t10 (by omega)
  replace i6 := i6.keep OII.ok t10 (by omega)
  replace i7 := i7.keep OI.ok t10 (by omega)
  replace i8 := i8.keep OI.ok t10 (by omega)
  replace i9 := i9.keep OI.ok t10 (by omega)
  replace r0 := rd_turn RdII.ok r0 t10 (by omega) (by omega)
  replace r1 := rd_turn RdI.ok r1 t10 (by omega) (by omega)
  replace r2 := rd_turn RdI.ok r2 t10 (by omega) (by omega)
  replace r3 := rd_turn RdI.ok r3 t10 (by omega) (by omega)
  replace bel := Turn.below bel t10 (by omega) (by omega)
  go_wp2_with fail
  refine (eqInt64SS_t i10 i5).mono ?_
  rintro e w11 ⟨rfl, t11⟩
  have s11 := t11.size
  replace i1 := i1.keep OII.ok t11 (by omega)
  replace i2 := i2.keep OI.ok t11 (by omega)
  replace i3 := i3.keep OI.ok t11 (by omega)
  replace i4 := i4.keep OI.ok t11 (by omega)
  replace i5 := i5.keep OII.ok t11 (by omega)
  replace i6 := i6.keep OII.ok t11 (by omega)
  replace i7 := i7.keep OI.ok t11 (by omega)
  replace i8 := i8.keep OI.ok t11 (by omega)
  replace i9 := i9.keep OI.ok t11 (by omega)
  replace i10 := i10.keep OII.ok t11 (by omega)
  replace r0 := rd_turn RdII.ok r0 t11 (by omega) (by omega)
  replace r1 := rd_turn RdI.ok r1 t11 (by omega) (by omega)
  replace r2 := rd_turn RdI.ok r2 t11 (by omega) (by omega)
  replace r3 := rd_turn RdI.ok r3 t11 (by omega) (by omega)
  replace bel := Turn.below bel t11 (by omega) (by omega)
  go_wp2_with fail
  refine (toInt64SS_t (B := w.heap.size) r0 (by omega) l0).mono ?_
  rintro e w12 ⟨v_12, rfl, i12, t12⟩
  have s12 := t12.size
  replace i1 := i1.keep OII.ok t12 (by omega)
  replace i2 := i2.keep OI.ok t12 (by omega)
  replace i3 := i3.keep OI.ok t12 (by omega)
  replace i4 := i4.keep OI.ok t12 (by omega)
  replace i5 := i5.keep OII.ok t12 (by omega)
  replace i6 := i6.keep OII.ok t12 (by omega)
  replace i7 := i7.keep OI.ok t12 (by omega)
  replace i8 := i8.keep OI.ok t12 (by omega)
  replace i9 := i9.keep OI.ok t12 (by omega)
  replace i10 := i10.keep OII.ok t12 (by omega)
  replace r0 := rd_turn RdII.ok r0 t12 (by omega) (by omega)
  replace r1 := rd_turn RdI.ok r1 t12 (by omega) (by omega)
  replace r2 := rd_turn RdI.ok r2 t12 (by omega) (by omega)
  replace r3 := rd_turn RdI.ok r3 t12 (by omega) (by omega)
  replace bel := Turn.below bel t12 (by omega) (by omega)
  go_wp2_with fail
  refine (eqInt64SS_t i6 i12).mono ?_
  rintro e w13 ⟨rfl, t13⟩
  have s13 := t13.size
  replace i1 := i1.keep OII.ok t13 (by omega)
  replace i2 := i2.keep OI.ok t13 (by omega)
  replace i3 := i3.keep OI.ok t13 (by omega)
  replace i4 := i4.keep OI.ok t13 (by omega)
  replace i5 := i5.keep OII.ok t13 (by omega)
  replace i6 := i6.keep OII.ok t13 (by omega)
  replace i7 := i7.keep OI.ok t13 (by omega)
  replace i8 := i8.keep OI.ok t13 (by omega)
  replace i9 := i9.keep OI.ok t13 (by omega)
  replace i10 := i10.keep OII.ok t13 (by omega)
  replace i12 := i12.keep OII.ok t13 (by omega)
  replace r0 := rd_turn RdII.ok r0 t13 (by omega) (by omega)
  replace r1 := rd_turn RdI.ok r1 t13 (by omega) (by omega)
  replace r2 := rd_turn RdI.ok r2 t13 (by omega) (by omega)
  replace r3 := rd_turn RdI.ok r3 t13 (by omega) (by omega)
  replace bel := Turn.below bel t13 (by omega) (by omega)
  go_wp2_with fail
  refine (toInt64S_t (B := w.heap.size) r1 (by omega) l1).mono ?_
  rintro e w14 ⟨v_14, rfl, i14, t14⟩
  have s14 := t14.size
  replace i1 := i1.keep OII.ok t14 (by omega)
  replace i2 := i2.keep OI.ok t14 (by omega)
  replace i3 := i3.keep OI.ok t14 (by omega)
  replace i4 := i4.keep OI.ok t14 (by omega)
  replace i5 := i5.keep OII.ok t14 (by omega)
  replace i6 := i6.keep OII.ok t14 (by omega)
  replace i7 := i7.keep OI.ok t14 (by omega)
  replace i8 := i8.keep OI.ok t14 (by omega)
  replace i9 := i9.keep OI.ok t14 (by omega)
  replace i10 := i10.keep OII.ok t14 (by omega)
  replace i12 := i12.keep OII.ok t14 (by omega)
  replace r0 := rd_turn RdII.ok r0 t14 (by omega) (by omega)
  replace r1 := rd_turn RdI.ok r1 t14 (by omega) (by omega)
  replace r2 := rd_turn RdI.ok r2 t14 (by omega) (by omega)
  replace r3 := rd_turn RdI.ok r3 t14 (by omega) (by omega)
  replace bel := Turn.below bel t14 (by omega) (by omega)
  go_wp2_with fail
  refine (eqInt64S_t i7 i14).mono ?_
  rintro e w15 ⟨rfl, t15⟩
  have s15 := t15.size
  replace i1 := i1.keep OII.ok t15 (by omega)
  replace i2 := i2.keep OI.ok t15 (by omega)
  replace i3 := i3.keep OI.ok t15 (by omega)
  replace i4 := i4.keep OI.ok t15 (by omega)
  replace i5 := i5.keep OII.ok t15 (by omega)
  replace i6 := i6.keep OII.ok t15 (by omega)
  replace i7 := i7.keep OI.ok t15 (by omega)
  replace i8 := i8.keep OI.ok t15 (by omega)
  replace i9 := i9.keep OI.ok t15 (by omega)
  replace i10 := i10.keep OII.ok t15 (by omega)
  replace i12 := i12.keep OII.ok t15 (by omega)
  replace i14 := i14.keep OI.ok t15 (by omega)
  replace r0 := rd_turn RdII.ok r0 t15 (by omega) (by omega)
  replace r1 := rd_turn RdI.ok r1 t15 (by omega) (by omega)
  replace r2 := rd_turn RdI.ok r2 t15 (by omega) (by omega)
  replace r3 := rd_turn RdI.ok r3 t15 (by omega) (by omega)
  replace bel := Turn.below bel t15 (by omega) (by omega)
  go_wp2_with fail
  refine (toInt64S_t (B := w.heap.size) r2 (by omega) l2).mono ?_
  rintro e w16 ⟨v_16, rfl, i16, t16⟩
  have s16 := t16.size
  replace i1 := i1.keep OII.ok t16 (by omega)
  replace i2 := i2.keep OI.ok t16 (by omega)
  replace i3 := i3.keep OI.ok t16 (by omega)
  replace i4 := i4.keep OI.ok t16 (by omega)
  replace i5 := i5.keep OII.ok t16 (by omega)
  replace i6 := i6.keep OII.ok t16 (by omega)
  replace i7 := i7.keep OI.ok t16 (by omega)
  replace i8 := i8.keep OI.ok t16 (by omega)
  replace i9 := i9.keep OI.ok t16 (by omega)
  replace i10 := i10.keep OII.ok t16 (by omega)
  replace i12 := i12.keep OII.ok t16 (by omega)
  replace i14 := i14.keep OI.ok t16 (by omega)
  replace r0 := rd_turn RdII.ok r0 t16 (by omega) (by omega)
  replace r1 := rd_turn RdI.ok r1 t16 (by omega) (by omega)
  replace r2 := rd_turn RdI.ok r2 t16 (by omega) (by omega)
  replace r3 := rd_turn RdI.ok r3 t16 (by omega) (by omega)
  replace bel := Turn.below bel t16 (by omega) (by omega)
  go_wp2_with fail
  refine (eqInt64S_t i8 i16).mono ?_
  rintro e w17 ⟨rfl, t17⟩
  have s17 := t17.size
  replace i1 := i1.keep OII.ok t17 (by omega)
  replace i2 := i2.keep OI.ok t17 (by omega)
  replace i3 := i3.keep OI.ok t17 (by omega)
  replace i4 := i4.keep OI.ok t17 (by omega)
  replace i5 := i5.keep OII.ok t17 (by omega)
  replace i6 := i6.keep OII.ok t17 (by omega)
  replace i7 := i7.keep OI.ok t17 (by omega)
  replace i8 := i8.keep OI.ok t17 (by omega)
  replace i9 := i9.keep OI.ok t17 (by omega)
  replace i10 := i10.keep OII.ok t17 (by omega)
  replace i12 := i12.keep OII.ok t17 (by omega)
  replace i14 := i14.keep OI.ok t17 (by omega)
  replace i16 := i16.keep OI.ok t17 (by omega)
  replace r0 := rd_turn RdII.ok r0 t17 (by omega) (by omega)
  replace r1 := rd_turn RdI.ok r1 t17 (by omega) (by omega)
  replace r2 := rd_turn RdI.ok r2 t17 (by omega) (by omega)
  replace r3 := rd_turn RdI.ok r3 t17 (by omega) (by omega)
  replace bel := Turn.below bel t17 (by omega) (by omega)
  go_wp2_with fail
  refine (toInt64S_t (B := w.heap.size) r3 (by omega) l3).mono ?_
  rintro e w18 ⟨v_18, rfl, i18, t18⟩
  have s18 := t18.size
  replace i1 := i1.keep OII.ok t18 (by omega)
  replace i2 := i2.keep OI.ok t18 (by omega)
  replace i3 := i3.keep OI.ok t18 (by omega)
  replace i4 := i4.keep OI.ok t18 (by omega)
  replace i5 := i5.keep OII.ok t18 (by omega)
  replace i6 := i6.keep OII.ok t18 (by omega)
  replace i7 := i7.keep OI.ok t18 (by omega)
  replace i8 := i8.keep OI.ok t18 (by omega)
  replace i9 := i9.keep OI.ok t18 (by omega)
  replace i10 := i10.keep OII.ok t18 (by omega)
  replace i12 := i12.keep OII.ok t18 (by omega)
  replace i14 := i14.keep OI.ok t18 (by omega)
  replace i16 := i16.keep OI.ok t18 (by omega)
  replace r0 := rd_turn RdII.ok r0 t18 (by omega) (by omega)
  replace r1 := rd_turn RdI.ok r1 t18 (by omega) (by omega)
  replace r2 := rd_turn RdI.ok r2 t18 (by omega) (by omega)
  replace r3 := rd_turn RdI.ok r3 t18 (by omega) (by omega)
  replace bel := Turn.below bel t18 (by omega) (by omega)
  go_wp2_with fail
  refine (eqInt64S_t i9 i18).mono ?_
  rintro e w19 ⟨rfl, t19⟩
  have s19 := t19.size
  replace i1 := i1.keep OII.ok t19 (by omega)
  replace i2 := i2.keep OI.ok t19 (by omega)
  replace i3 := i3.keep OI.ok t19 (by omega)
  replace i4 := i4.keep OI.ok t19 (by omega)
  replace i5 := i5.keep OII.ok t19 (by omega)
  replace i6 := i6.keep OII.ok t19 (by omega)
  replace i7 := i7.keep OI.ok t19 (by omega)
  replace i8 := i8.keep OI.ok t19 (by omega)
  replace i9 := i9.keep OI.ok t19 (by omega)
  replace i10 := i10.keep OII.ok t19 (by omega)
  replace i12 := i12.keep OII.ok t19 (by omega)
  replace i14 := i14.keep OI.ok t19 (by omega)
  replace i16 := i16.keep OI.ok t19 (by omega)
  replace i18 := i18.keep OI.ok t19 (by omega)
  replace r0 := rd_turn RdII.ok r0 t19 (by omega) (by omega)
  replace r1 := rd_turn RdI.ok r1 t19 (by omega) (by omega)
  replace r2 := rd_turn RdI.ok r2 t19 (by omega) (by omega)
  replace r3 := rd_turn RdI.ok r3 t19 (by omega) (by omega)
  replace bel := Turn.below bel t19 (by omega) (by omega)
  go_wp2_with fail
  refine (markInt64SS_t i6 (by omega) (by omega)).mono ?_
  rintro e w20 ⟨rfl, j20, t20⟩
  have s20 := t20.size
  replace i1 := i1.keep OII.ok t20 (by omega)
  replace i2 := i2.keep OI.ok t20 (by omega)
  replace i3 := i3.keep OI.ok t20 (by omega)
  replace i4 := i4.keep OI.ok t20 (by omega)
  replace i5 := i5.keep OII.ok t20 (by omega)
  replace i7 := i7.keep OI.ok t20 (by omega)
  replace i8 := i8.keep OI.ok t20 (by omega)
  replace i9 := i9.keep OI.ok t20 (by omega)
  replace i10 := i10.keep OII.ok t20 (by omega)
  replace i12 := i12.keep OII.ok t20 (by omega)
  replace i14 := i14.keep OI.ok t20 (by omega)
  replace i16 := i16.keep OI.ok t20 (by omega)
  replace i18 := i18.keep OI.ok t20 (by omega)
  replace r0 := rd_turn RdII.ok r0 t20 (by omega) (by omega)
  replace r1 := rd_turn RdI.ok r1 t20 (by omega) (by omega)
  replace r2 := rd_turn RdI.ok r2 t20 (by omega) (by omega)
  replace r3 := rd_turn RdI.ok r3 t20 (by omega) (by omega)
  replace bel := Turn.below bel t20 (by omega) (by omega)
  replace i6 := j20; clear j20
  go_wp2_with fail
  refine (markInt64S_t i7 (by omega) (by omega)).mono ?_
  rintro e w21 ⟨rfl, j21, t21⟩
  have s21 := t21.size
  replace i1 := i1.keep OII.ok t21 (by omega)
  replace i2 := i2.keep OI.ok t21 (by omega)
  replace i3 := i3.keep OI.ok t21 (by omega)
  replace i4 := i4.keep OI.ok t21 (by omega)
  replace i5 := i5.keep OII.ok t21 (by omega)
  replace i6 := i6.keep OII.ok t21 (by omega)
  replace i8 := i8.keep OI.ok t21 (by omega)
  replace i9 := i9.keep OI.ok t21 (by omega)
  replace i10 := i10.keep OII.ok t21 (by omega)
  replace i12 := i12.keep OII.ok t21 (by omega)
  replace i14 := i14.keep OI.ok t21 (by omega)
  replace i16 := i16.keep OI.ok t21 (by omega)
  replace i18 := i18.keep OI.ok t21 (by omega)
  replace r0 := rd_turn RdII.ok r0 t21 (by omega) (by omega)
  replace r1 := rd_turn RdI.ok r1 t21 (by omega) (by omega)
  replace r2 := rd_turn RdI.ok r2 t21 (by omega) (by omega)
  replace r3 := rd_turn RdI.ok r3 t21 (by omega) (by omega)
  replace bel := Turn.below bel t21 (by omega) (by omega)
  replace i7 := j21; clear j21
  go_wp2_with fail
  refine (markInt64S_t i8 (by omega) (by omega)).mono ?_
  rintro e w22 ⟨rfl, j22, t22⟩
  have s22 := t22.size
  replace i1 := i1.keep OII.ok t22 (by omega)
  replace i2 := i2.keep OI.ok t22 (by omega)
  replace i3 := i3.keep OI.ok t22 (by omega)
  replace i4 := i4.keep OI.ok t22 (by omega)
  replace i5 := i5.keep OII.ok t22 (by omega)
  replace i6 := i6.keep OII.ok t22 (by omega)
  replace i7 := i7.keep OI.ok t22 (by omega)
  replace i9 := i9.keep OI.ok t22 (by omega)
  replace i10 := i10.keep OII.ok t22 (by omega)
  replace i12 := i12.keep OII.ok t22 (by omega)
  replace i14 := i14.keep OI.ok t22 (by omega)
  replace i16 := i16.keep OI.ok t22 (by omega)
  replace i18 := i18.keep OI.ok t22 (by omega)
  replace r0 := rd_turn RdII.ok r0 t22 (by omega) (by omega)
  replace r1 := rd_turn RdI.ok r1 t22 (by omega) (by omega)
  replace r2 := rd_turn RdI.ok r2 t22 (by omega) (by omega)
  replace r3 := rd_turn RdI.ok r3 t22 (by omega) (by omega)
  replace bel := Turn.below bel t22 (by omega) (by omega)
  replace i8 := j22; clear j22
  go_wp2_with fail
  refine (markInt64S_t i9 (by omega) (by omega)).mono ?_
  rintro e w23 ⟨rfl, j23, t23⟩
  have s23 := t23.size
  replace i1 := i1.keep OII.ok t23 (by omega)
  replace i2 := i2.keep OI.ok t23 (by omega)
  replace i3 := i3.keep OI.ok t23 (by omega)
  replace i4 := i4.keep OI.ok t23 (by omega)
  replace i5 := i5.keep OII.ok t23 (by omega)
  replace i6 := i6.keep OII.ok t23 (by omega)
  replace i7 := i7.keep OI.ok t23 (by omega)
  replace i8 := i8.keep OI.ok t23 (by omega)
  replace i10 := i10.keep OII.ok t23 (by omega)
  replace i12 := i12.keep OII.ok t23 (by omega)
  replace i14 := i14.keep OI.ok t23 (by omega)
  replace i16 := i16.keep OI.ok t23 (by omega)
  replace i18 := i18.keep OI.ok t23 (by omega)
  replace r0 := rd_turn RdII.ok r0 t23 (by omega) (by omega)
  replace r1 := rd_turn RdI.ok r1 t23 (by omega) (by omega)
  replace r2 := rd_turn RdI.ok r2 t23 (by omega) (by omega)
  replace r3 := rd_turn RdI.ok r3 t23 (by omega) (by omega)
  replace bel := Turn.below bel t23 (by omega) (by omega)
  replace i9 := j23; clear j23
  go_wp2_with fail
  refine (eqInt64SS_t i10 i5).mono ?_
  rintro e w24 ⟨rfl, t24⟩
  have s24 := t24.size
  replace i1 := i1.keep OII.ok t24 (by omega)
  replace i2 := i2.keep OI.ok t24 (by omega)
  replace i3 := i3.keep OI.ok t24 (by omega)
  replace i4 := i4.keep OI.ok t24 (by omega)
  replace i5 := i5.keep OII.ok t24 (by omega)
  replace i6 := i6.keep OII.ok t24 (by omega)
  replace i7 := i7.keep OI.ok t24 (by omega)
  replace i8 := i8.keep OI.ok t24 (by omega)
  replace i9 := i9.keep OI.ok t24 (by omega)
  replace i10 := i10.keep OII.ok t24 (by omega)
  replace i12 := i12.keep OII.ok t24 (by omega)
  replace i14 := i14.keep OI.ok t24 (by omega)
  replace i16 := i16.keep OI.ok t24 (by omega)
  replace i18 := i18.keep OI.ok t24 (by omega)
  replace r0 := rd_turn RdII.ok r0 t24 (by omega) (by omega)
  replace r1 := rd_turn RdI.ok r1 t24 (by omega) (by omega)
  replace r2 := rd_turn RdI.ok r2 t24 (by omega) (by omega)
  replace r3 := rd_turn RdI.ok r3 t24 (by omega) (by omega)
  replace bel := Turn.below bel t24 (by omega) (by omega)
  go_wp2_with fail
  refine (markInt64SS_t i10 (by omega) (by omega)).mono ?_
  rintro e w25 ⟨rfl, j25, t25⟩
  have s25 := t25.size
  replace i1 := i1.keep OII.ok t25 (by omega)
  replace i2 := i2.keep OI.ok t25 (by omega)
  replace i3 := i3.keep OI.ok t25 (by omega)
  replace i4 := i4.keep OI.ok t25 (by omega)
  replace i5 := i5.keep OII.ok t25 (by omega)
  replace i6 := i6.keep OII.ok t25 (by omega)
  replace i7 := i7.keep OI.ok t25 (by omega)
  replace i8 := i8.keep OI.ok t25 (by omega)
  replace i9 := i9.keep OI.ok t25 (by omega)
  replace i12 := i12.keep OII.ok t25 (by omega)
  replace i14 := i14.keep OI.ok t25 (by omega)
  replace i16 := i16.keep OI.ok t25 (by omega)
  replace i18 := i18.keep OI.ok t25 (by omega)
  replace r0 := rd_turn RdII.ok r0 t25 (by omega) (by omega)
  replace r1 := rd_turn RdI.ok r1 t25 (by omega) (by omega)
  replace r2 := rd_turn RdI.ok r2 t25 (by omega) (by omega)
  replace r3 := rd_turn RdI.ok r3 t25 (by omega) (by omega)
  replace bel := Turn.below bel t25 (by omega) (by omega)
  replace i10 := j25; clear j25
  go_wp2_with fail
  refine (heldInt64SS_t i10 (by omega) (by omega)).mono ?_
  rintro e w26 ⟨rfl, t26⟩
  have s26 := t26.size
  replace i1 := i1.keep OII.ok t26 (by omega)
  replace i2 := i2.keep OI.ok t26 (by omega)
  replace i3 := i3.keep OI.ok t26 (by omega)
  replace i4 := i4.keep OI.ok t26 (by omega)
  replace i5 := i5.keep OII.ok t26 (by omega)
  replace i6 := i6.keep OII.ok t26 (by omega)
  replace i7 := i7.keep OI.ok t26 (by omega)
  replace i8 := i8.keep OI.ok t26 (by omega)
  replace i9 := i9.keep OI.ok t26 (by omega)
  replace i10 := i10.keep OII.ok t26 (by omega)
  replace i12 := i12.keep OII.ok t26 (by omega)
  replace i14 := i14.keep OI.ok t26 (by omega)
  replace i16 := i16.keep OI.ok t26 (by omega)
  replace i18 := i18.keep OI.ok t26 (by omega)
  replace r0 := rd_turn RdII.ok r0 t26 (by omega) (by omega)
  replace r1 := rd_turn RdI.ok r1 t26 (by omega) (by omega)
  replace r2 := rd_turn RdI.ok r2 t26 (by omega) (by omega)
  replace r3 := rd_turn RdI.ok r3 t26 (by omega) (by omega)
  replace bel := Turn.below bel t26 (by omega) (by omega)
  go_wp2_with fail
  refine (toInt64SS_t (B := w.heap.size) r0 (by omega) l0).mono ?_
  rintro e w27 ⟨v_27, rfl, i27, t27⟩
  have s27 := t27.size
  replace i1 := i1.keep OII.ok t27 (by omega)
  replace i2 := i2.keep OI.ok t27 (by omega)
  replace i3 := i3.keep OI.ok t27 (by omega)
  replace i4 := i4.keep OI.ok t27 (by omega)
  replace i5 := i5.keep OII.ok t27 (by omega)
  replace i6 := i6.keep OII.ok t27 (by omega)
  replace i7 := i7.keep OI.ok t27 (by omega)
  replace i8 := i8.keep OI.ok t27 (by omega)
  replace i9 := i9.keep OI.ok t27 (by omega)
  replace i10 := i10.keep OII.ok t27 (by omega)
  replace i12 := i12.keep OII.ok t27 (by omega)
  replace i14 := i14.keep OI.ok t27 (by omega)
  replace i16 := i16.keep OI.ok t27 (by omega)
  replace i18 := i18.keep OI.ok t27 (by omega)
  replace r0 := rd_turn RdII.ok r0 t27 (by omega) (by omega)
  replace r1 := rd_turn RdI.ok r1 t27 (by omega) (by omega)
  replace r2 := rd_turn RdI.ok r2 t27 (by omega) (by omega)
  replace r3 := rd_turn RdI.ok r3 t27 (by omega) (by omega)
  replace bel := Turn.below bel t27 (by omega) (by omega)
  go_wp2_with fail
  refine (toInt64S_t (B := w.heap.size) r1 (by omega) l1).mono ?_
  rintro e w28 ⟨v_28, rfl, i28, t28⟩
  have s28 := t28.size
  replace i1 := i1.keep OII.ok t28 (by omega)
  replace i2 := i2.keep OI.ok t28 (by omega)
  replace i3 := i3.keep OI.ok t28 (by omega)
  replace i4 := i4.keep OI.ok t28 (by omega)
  replace i5 := i5.keep OII.ok t28 (by omega)
  replace i6 := i6.keep OII.ok t28 (by omega)
  replace i7 := i7.keep OI.ok t28 (by omega)
  replace i8 := i8.keep OI.ok t28 (by omega)
  replace i9 := i9.keep OI.ok t28 (by omega)
  replace i10 := i10.keep OII.ok t28 (by omega)
  replace i12 := i12.keep OII.ok t28 (by omega)
  replace i14 := i14.keep OI.ok t28 (by omega)
  replace i16 := i16.keep OI.ok t28 (by omega)
  replace i18 := i18.keep OI.ok t28 (by omega)
  replace i27 := i27.keep OII.ok t28 (by omega)
  replace r0 := rd_turn RdII.ok r0 t28 (by omega) (by omega)
  replace r1 := rd_turn RdI.ok r1 t28 (by omega) (by omega)
  replace r2 := rd_turn RdI.ok r2 t28 (by omega) (by omega)
  replace r3 := rd_turn RdI.ok r3 t28 (by omega) (by omega)
  replace bel := Turn.below bel t28 (by omega) (by omega)
  go_wp2_with fail
  refine (toInt64S_t (B := w.heap.size) r2 (by omega) l2).mono ?_
  rintro e w29 ⟨v_29, rfl, i29, t29⟩
  have s29 := t29.size
  replace i1 := i1.keep OII.ok t29 (by omega)
  replace i2 := i2.keep OI.ok t29 (by omega)
  replace i3 := i3.keep OI.ok t29 (by omega)
  replace i4 := i4.keep OI.ok t29 (by omega)
  replace i5 := i5.keep OII.ok t29 (by omega)
  replace i6 := i6.keep OII.ok t29 (by omega)
  replace i7 := i7.keep OI.ok t29 (by omega)
  replace i8 := i8.keep OI.ok t29 (by omega)
  replace i9 := i9.keep OI.ok t29 (by omega)
  replace i10 := i10.keep OII.ok t29 (by omega)
  replace i12 := i12.keep OII.ok t29 (by omega)
  replace i14 := i14.keep OI.ok t29 (by omega)
  replace i16 := i16.keep OI.ok t29 (by omega)
  replace i18 := i18.keep OI.ok t29 (by omega)
  replace i27 := i27.keep OII.ok t29 (by omega)
  replace i28 := i28.keep OI.ok t29 (by omega)
  replace r0 := rd_turn RdII.ok r0 t29 (by omega) (by omega)
  replace r1 := rd_turn RdI.ok r1 t29 (by omega) (by omega)
  replace r2 := rd_turn RdI.ok r2 t29 (by omega) (by omega)
  replace r3 := rd_turn RdI.ok r3 t29 (by omega) (by omega)
  replace bel := Turn.below bel t29 (by omega) (by omega)
  go_wp2_with fail
  refine (toInt64S_t (B := w.heap.size) r3 (by omega) l3).mono ?_
  rintro e w30 ⟨v_30, rfl, i30, t30⟩
  have s30 := t30.size
  replace i1 := i1.keep OII.ok t30 (by omega)
  replace i2 := i2.keep OI.ok t30 (by omega)
  replace i3 := i3.keep OI.ok t30 (by omega)
  replace i4 := i4.keep OI.ok t30 (by omega)
  replace i5 := i5.keep OII.ok t30 (by omega)
  replace i6 := i6.keep OII.ok t30 (by omega)
  replace i7 := i7.keep OI.ok t30 (by omega)
  replace i8 := i8.keep OI.ok t30 (by omega)
  replace i9 := i9.keep OI.ok t30 (by omega)
  replace i10 := i10.keep OII.ok t30 (by omega)
  replace i12 := i12.keep OII.ok t30 (by omega)
  replace i14 := i14.keep OI.ok t30 (by omega)
  replace i16 := i16.keep OI.ok t30 (by omega)
  replace i18 := i18.keep OI.ok t30 (by omega)
  replace i27 := i27.keep OII.ok t30 (by omega)
  replace i28 := i28.keep OI.ok t30 (by omega)
  replace i29 := i29.keep OI.ok t30 (by omega)
  replace r0 := rd_turn RdII.ok r0 t30 (by omega) (by omega)
  replace r1 := rd_turn RdI.ok r1 t30 (by omega) (by omega)
  replace r2 := rd_turn RdI.ok r2 t30 (by omega) (by omega)
  replace r3 := rd_turn RdI.ok r3 t30 (by omega) (by omega)
  replace bel := Turn.below bel t30 (by omega) (by omega)
  go_wp2_with fail
  refine (implRenameTable (i27.rdlt OII.leads OII.ok) (i28.rdlt OI.leads OI.ok) (i29.rdlt OI.leads OI.ok) (i30.rdlt OI.leads OI.ok) (Nat.le_refl _) (Nat.le_trans (szL_len _ _) l0) l1 l2 l3).mono ?_
  rintro e w31 ⟨v_31, rfl, f31⟩
  obtain ⟨i31, t31⟩ := In.of_fresh OII.ok f31; clear f31
  have s31 := t31.size
  replace i1 := i1.keep OII.ok t31 (by omega)
  replace i2 := i2.keep OI.ok t31 (by omega)
  replace i3 := i3.keep OI.ok t31 (by omega)
  replace i4 := i4.keep OI.ok t31 (by omega)
  replace i5 := i5.keep OII.ok t31 (by omega)
  replace i6 := i6.keep OII.ok t31 (by omega)
  replace i7 := i7.keep OI.ok t31 (by omega)
  replace i8 := i8.keep OI.ok t31 (by omega)
  replace i9 := i9.keep OI.ok t31 (by omega)
  replace i10 := i10.keep OII.ok t31 (by omega)
  replace i12 := i12.keep OII.ok t31 (by omega)
  replace i14 := i14.keep OI.ok t31 (by omega)
  replace i16 := i16.keep OI.ok t31 (by omega)
  replace i18 := i18.keep OI.ok t31 (by omega)
  replace i27 := i27.keep OII.ok t31 (by omega)
  replace i28 := i28.keep OI.ok t31 (by omega)
  replace i29 := i29.keep OI.ok t31 (by omega)
  replace i30 := i30.keep OI.ok t31 (by omega)
  replace r0 := rd_turn RdII.ok r0 t31 (by omega) (by omega)
  replace r1 := rd_turn RdI.ok r1 t31 (by omega) (by omega)
  replace r2 := rd_turn RdI.ok r2 t31 (by omega) (by omega)
  replace r3 := rd_turn RdI.ok r3 t31 (by omega) (by omega)
  replace bel := Turn.below bel t31 (by omega) (by omega)
  go_wp2_with fail
  refine (eqInt64SS_t i31 i5).mono ?_
  rintro e w32 ⟨rfl, t32⟩
  have s32 := t32.size
  replace i1 := i1.keep OII.ok t32 (by omega)
  replace i2 := i2.keep OI.ok t32 (by omega)
  replace i3 := i3.keep OI.ok t32 (by omega)
  replace i4 := i4.keep OI.ok t32 (by omega)
  replace i5 := i5.keep OII.ok t32 (by omega)
  replace i6 := i6.keep OII.ok t32 (by omega)
  replace i7 := i7.keep OI.ok t32 (by omega)
  replace i8 := i8.keep OI.ok t32 (by omega)
  replace i9 := i9.keep OI.ok t32 (by omega)
  replace i10 := i10.keep OII.ok t32 (by omega)
  replace i12 := i12.keep OII.ok t32 (by omega)
  replace i14 := i14.keep OI.ok t32 (by omega)
  replace i16 := i16.keep OI.ok t32 (by omega)
  replace i18 := i18.keep OI.ok t32 (by omega)
  replace i27 := i27.keep OII.ok t32 (by omega)
  replace i28 := i28.keep OI.ok t32 (by omega)
  replace i29 := i29.keep OI.ok t32 (by omega)
  replace i30 := i30.keep OI.ok t32 (by omega)
  replace i31 := i31.keep OII.ok t32 (by omega)
  replace r0 := rd_turn RdII.ok r0 t32 (by omega) (by omega)
  replace r1 := rd_turn RdI.ok r1 t32 (by omega) (by omega)
  replace r2 := rd_turn RdI.ok r2 t32 (by omega) (by omega)
  replace r3 := rd_turn RdI.ok r3 t32 (by omega) (by omega)
  replace bel := Turn.below bel t32 (by omega) (by omega)
  go_wp2_with fail
  refine (heldInt64SS_t i10 (by omega) (by omega)).mono ?_
  rintro e w33 ⟨rfl, t33⟩
  have s33 := t33.size
  replace i1 := i1.keep OII.ok t33 (by omega)
  replace i2 := i2.keep OI.ok t33 (by omega)
  replace i3 := i3.keep OI.ok t33 (by omega)
  replace i4 := i4.keep OI.ok t33 (by omega)
  replace i5 := i5.keep OII.ok t33 (by omega)
  replace i6 := i6.keep OII.ok t33 (by omega)
  replace i7 := i7.keep OI.ok t33 (by omega)
  replace i8 := i8.keep OI.ok t33 (by omega)
  replace i9 := i9.keep OI.ok t33 (by omega)
  replace i10 := i10.keep OII.ok t33 (by omega)
  replace i12 := i12.keep OII.ok t33 (by omega)
  replace i14 := i14.keep OI.ok t33 (by omega)
  replace i16 := i16.keep OI.ok t33 (by omega)
  replace i18 := i18.keep OI.ok t33 (by omega)
  replace i27 := i27.keep OII.ok t33 (by omega)
  replace i28 := i28.keep OI.ok t33 (by omega)
  replace i29 := i29.keep OI.ok t33 (by omega)
  replace i30 := i30.keep OI.ok t33 (by omega)
  replace i31 := i31.keep OII.ok t33 (by omega)
  replace r0 := rd_turn RdII.ok r0 t33 (by omega) (by omega)
  replace r1 := rd_turn RdI.ok r1 t33 (by omega) (by omega)
  replace r2 := rd_turn RdI.ok r2 t33 (by omega) (by omega)
  replace r3 := rd_turn RdI.ok r3 t33 (by omega) (by omega)
  replace bel := Turn.below bel t33 (by omega) (by omega)
  go_wp2_with fail
  go_ret
  exact ⟨rfl, bel⟩

set_option maxHeartbeats 1600000 in
set_option maxRecDepth 100000 in
theorem lawExactProductTable (w : World) (v0 : Value) (z0 : List (List Int)) (r0 : RdII (· < w.heap.size) w v0 z0) (v1 : Value) (z1 : List (List Int)) (r1 : RdII (· < w.heap.size) w v1 z1) :
    Calls Try.prog 10 #[v0, v1] w fun e w' => e = .returned (.bool true) ∧ Below w.heap.size w w' := by
  have hL := proV_cnt z0 z1
  obtain ⟨ad0, cp0, rfl, cl0, cm0, _⟩ := id r0
  unfold maxLen at cm0
  obtain ⟨ad1, cp1, rfl, cl1, cm1, _⟩ := id r1
  unfold maxLen at cm1
  have bel : Below w.heap.size w w := Below.refl _ _
  by_cases y0 : ((szL List.length z0 : Nat) : Int) ≤ 1048576
  rotate_left
  · go_enter Try.func10, Try.ntmps10
    go_wp2_with fail
    refine (szInt64SS r0 _ (by omega) (by omega)).mono ?_
    rw [szR_no (by omega)]
    rintro e w' ⟨rfl, rfl⟩
    go_wp2_with fail
    go_ret
    exact ⟨rfl, Below.refl _ _⟩
  have l0 : szL List.length z0 ≤ 1048576 := by omega
  have c0 := cnt_le_sz2 z0
  by_cases y1 : ((szL List.length z1 : Nat) : Int) ≤ 1048576 - ((szL List.length z0 : Nat) : Int)
  rotate_left
  · go_enter Try.func10, Try.ntmps10
    go_wp2_with fail
    refine (szInt64SS r0 _ (by omega) (by omega)).mono ?_
    rw [szR_yes y0]
    rintro e w' ⟨rfl, rfl⟩
    go_wp2_with fail
    refine (szInt64SS r1 _ (by omega) (by omega)).mono ?_
    rw [szR_no (by omega)]
    rintro e w' ⟨rfl, rfl⟩
    go_wp2_with fail
    go_ret
    exact ⟨rfl, Below.refl _ _⟩
  have l1 : szL List.length z1 ≤ 1048576 := by omega
  have c1 := cnt_le_sz2 z1
  go_enter Try.func10, Try.ntmps10
  go_wp2_with fail
  refine (szInt64SS r0 _ (by omega) (by omega)).mono ?_
  rw [szR_yes y0]
  rintro e w' ⟨rfl, rfl⟩
  go_wp2_with fail
  refine (szInt64SS r1 _ (by omega) (by omega)).mono ?_
  rw [szR_yes y1]
  rintro e w' ⟨rfl, rfl⟩
  go_wp2_with fail
  refine (toInt64SS_t (B := w.heap.size) r0 (by omega) l0).mono ?_
  rintro e w1 ⟨v_1, rfl, i1, t1⟩
  have s1 := t1.size
  replace r0 := rd_turn RdII.ok r0 t1 (by omega) (by omega)
  replace r1 := rd_turn RdII.ok r1 t1 (by omega) (by omega)
  replace bel := Turn.below bel t1 (by omega) (by omega)
  go_wp2_with fail
  refine (toInt64SS_t (B := w.heap.size) r1 (by omega) l1).mono ?_
  rintro e w2 ⟨v_2, rfl, i2, t2⟩
  have s2 := t2.size
  replace i1 := i1.keep OII.ok t2 (by omega)
  replace r0 := rd_turn RdII.ok r0 t2 (by omega) (by omega)
  replace r1 := rd_turn RdII.ok r1 t2 (by omega) (by omega)
  replace bel := Turn.below bel t2 (by omega) (by omega)
  go_wp2_with fail
  refine (specProductTable (i1.rdlt OII.leads OII.ok) (i2.rdlt OII.leads OII.ok) (Nat.le_refl _) (Nat.le_trans (szL_len _ _) l0) (Nat.le_trans (szL_len _ _) l1)).mono ?_
  rintro e w3 ⟨v_3, rfl, f3⟩
  obtain ⟨i3, t3⟩ := In.of_fresh OII.ok f3; clear f3
  have s3 := t3.size
  replace i1 := i1.keep OII.ok t3 (by omega)
  replace i2 := i2.keep OII.ok t3 (by omega)
  replace r0 := rd_turn RdII.ok r0 t3 (by omega) (by omega)
  replace r1 := rd_turn RdII.ok r1 t3 (by omega) (by omega)
  replace bel := Turn.below bel t3 (by omega) (by omega)
  go_wp2_with fail
  refine (toInt64SS_t (B := w.heap.size) r0 (by omega) l0).mono ?_
  rintro e w4 ⟨v_4, rfl, i4, t4⟩
  have s4 := t4.size
  replace i1 := i1.keep OII.ok t4 (by omega)
  replace i2 := i2.keep OII.ok t4 (by omega)
  replace i3 := i3.keep OII.ok t4 (by omega)
  replace r0 := rd_turn RdII.ok r0 t4 (by omega) (by omega)
  replace r1 := rd_turn RdII.ok r1 t4 (by omega) (by omega)
  replace bel := Turn.below bel t4 (by omega) (by omega)
  go_wp2_with fail
  refine (toInt64SS_t (B := w.heap.size) r1 (by omega) l1).mono ?_
  rintro e w5 ⟨v_5, rfl, i5, t5⟩
  have s5 := t5.size
  replace i1 := i1.keep OII.ok t5 (by omega)
  replace i2 := i2.keep OII.ok t5 (by omega)
  replace i3 := i3.keep OII.ok t5 (by omega)
  replace i4 := i4.keep OII.ok t5 (by omega)
  replace r0 := rd_turn RdII.ok r0 t5 (by omega) (by omega)
  replace r1 := rd_turn RdII.ok r1 t5 (by omega) (by omega)
  replace bel := Turn.below bel t5 (by omega) (by omega)
  go_wp2_with fail
  refine (implProductTable (i4.rdlt OII.leads OII.ok) (i5.rdlt OII.leads OII.ok) (Nat.le_refl _) (Nat.le_trans (szL_len _ _) l0) (Nat.le_trans (szL_len _ _) l1)).mono ?_
  rintro e w6 ⟨v_6, rfl, f6⟩
  obtain ⟨i6, t6⟩ := In.of_fresh OII.ok f6; clear f6
  have s6 := t6.size
  replace i1 := i1.keep OII.ok t6 (by omega)
  replace i2 := i2.keep OII.ok t6 (by omega)
  replace i3 := i3.keep OII.ok t6 (by omega)
  replace i4 := i4.keep OII.ok t6 (by omega)
  replace i5 := i5.keep OII.ok t6 (by omega)
  replace r0 := rd_turn RdII.ok r0 t6 (by omega) (by omega)
  replace r1 := rd_turn RdII.ok r1 t6 (by omega) (by omega)
  replace bel := Turn.below bel t6 (by omega) (by omega)
  go_wp2_with fail
  refine (eqInt64SS_t i6 i3).mono ?_
  rintro e w7 ⟨rfl, t7⟩
  have s7 := t7.size
  replace i1 := i1.keep OII.ok t7 (by omega)
  replace i2 := i2.keep OII.ok t7 (by omega)
  replace i3 := i3.keep OII.ok t7 (by omega)
  replace i4 := i4.keep OII.ok t7 (by omega)
  replace i5 := i5.keep OII.ok t7 (by omega)
  replace i6 := i6.keep OII.ok t7 (by omega)
  replace r0 := rd_turn RdII.ok r0 t7 (by omega) (by omega)
  replace r1 := rd_turn RdII.ok r1 t7 (by omega) (by omega)
  replace bel := Turn.below bel t7 (by omega) (by omega)
  go_wp2_with fail
  refine (toInt64SS_t (B := w.heap.size) r0 (by omega) l0).mono ?_
  rintro e w8 ⟨v_8, rfl, i8, t8⟩
  have s8 := t8.size
  replace i1 := i1.keep OII.ok t8 (by omega)
  replace i2 := i2.keep OII.ok t8 (by omega)
  replace i3 := i3.keep OII.ok t8 (by omega)
  replace i4 := i4.keep OII.ok t8 (by omega)
  replace i5 := i5.keep OII.ok t8 (by omega)
  replace i6 := i6.keep OII.ok t8 (by omega)
  replace r0 := rd_turn RdII.ok r0 t8 (by omega) (by omega)
  replace r1 := rd_turn RdII.ok r1 t8 (by omega) (by omega)
  replace bel := Turn.below bel t8 (by omega) (by omega)
  go_wp2_with fail
  refine (eqInt64SS_t i4 i8).mono ?_
  rintro e w9 ⟨rfl, t9⟩
  have s9 := t9.size
  replace i1 := i1.keep OII.ok t9 (by omega)
  replace i2 := i2.keep OII.ok t9 (by omega)
  replace i3 := i3.keep OII.ok t9 (by omega)
  replace i4 := i4.keep OII.ok t9 (by omega)
  replace i5 := i5.keep OII.ok t9 (by omega)
  replace i6 := i6.keep OII.ok t9 (by omega)
  replace i8 := i8.keep OII.ok t9 (by omega)
  replace r0 := rd_turn RdII.ok r0 t9 (by omega) (by omega)
  replace r1 := rd_turn RdII.ok r1 t9 (by omega) (by omega)
  replace bel := Turn.below bel t9 (by omega) (by omega)
  go_wp2_with fail
  refine (toInt64SS_t (B := w.heap.size) r1 (by omega) l1).mono ?_
  rintro e w10 ⟨v_10, rfl, i10, t10⟩
  have s10 := t10.size
  replace i1 := i1.keep OII.ok t10 (by omega)
  replace i2 := i2.keep OII.ok t10 (by omega)
  replace i3 := i3.keep OII.ok t10 (by omega)
  replace i4 := i4.keep OII.ok t10 (by omega)
  replace i5 := i5.keep OII.ok t10 (by omega)
  replace i6 := i6.keep OII.ok t10 (by omega)
  replace i8 := i8.keep OII.ok t10 (by omega)
  replace r0 := rd_turn RdII.ok r0 t10 (by omega) (by omega)
  replace r1 := rd_turn RdII.ok r1 t10 (by omega) (by omega)
  replace bel := Turn.below bel t10 (by omega) (by omega)
  go_wp2_with fail
  refine (eqInt64SS_t i5 i10).mono ?_
  rintro e w11 ⟨rfl, t11⟩
  have s11 := t11.size
  replace i1 := i1.keep OII.ok t11 (by omega)
  replace i2 := i2.keep OII.ok t11 (by omega)
  replace i3 := i3.keep OII.ok t11 (by omega)
  replace i4 := i4.keep OII.ok t11 (by omega)
  replace i5 := i5.keep OII.ok t11 (by omega)
  replace i6 := i6.keep OII.ok t11 (by omega)
  replace i8 := i8.keep OII.ok t11 (by omega)
  replace i10 := i10.keep OII.ok t11 (by omega)
  replace r0 := rd_turn RdII.ok r0 t11 (by omega) (by omega)
  replace r1 := rd_turn RdII.ok r1 t11 (by omega) (by omega)
  replace bel := Turn.below bel t11 (by omega) (by omega)
  go_wp2_with fail
  refine (markInt64SS_t i4 (by omega) (by omega)).mono ?_
  rintro e w12 ⟨rfl, j12, t12⟩
  have s12 := t12.size
  replace i1 := i1.keep OII.ok t12 (by omega)
  replace i2 := i2.keep OII.ok t12 (by omega)
  replace i3 := i3.keep OII.ok t12 (by omega)
  replace i5 := i5.keep OII.ok t12 (by omega)
  replace i6 := i6.keep OII.ok t12 (by omega)
  replace i8 := i8.keep OII.ok t12 (by omega)
  replace i10 := i10.keep OII.ok t12 (by omega)
  replace r0 := rd_turn RdII.ok r0 t12 (by omega) (by omega)
  replace r1 := rd_turn RdII.ok r1 t12 (by omega) (by omega)
  replace bel := Turn.below bel t12 (by omega) (by omega)
  replace i4 := j12; clear j12
  go_wp2_with fail
  refine (markInt64SS_t i5 (by omega) (by omega)).mono ?_
  rintro e w13 ⟨rfl, j13, t13⟩
  have s13 := t13.size
  replace i1 := i1.keep OII.ok t13 (by omega)
  replace i2 := i2.keep OII.ok t13 (by omega)
  replace i3 := i3.keep OII.ok t13 (by omega)
  replace i4 := i4.keep OII.ok t13 (by omega)
  replace i6 := i6.keep OII.ok t13 (by omega)
  replace i8 := i8.keep OII.ok t13 (by omega)
  replace i10 := i10.keep OII.ok t13 (by omega)
  replace r0 := rd_turn RdII.ok r0 t13 (by omega) (by omega)
  replace r1 := rd_turn RdII.ok r1 t13 (by omega) (by omega)
  replace bel := Turn.below bel t13 (by omega) (by omega)
  replace i5 := j13; clear j13
  go_wp2_with fail
  refine (eqInt64SS_t i6 i3).mono ?_
  rintro e w14 ⟨rfl, t14⟩
  have s14 := t14.size
  replace i1 := i1.keep OII.ok t14 (by omega)
  replace i2 := i2.keep OII.ok t14 (by omega)
  replace i3 := i3.keep OII.ok t14 (by omega)
  replace i4 := i4.keep OII.ok t14 (by omega)
  replace i5 := i5.keep OII.ok t14 (by omega)
  replace i6 := i6.keep OII.ok t14 (by omega)
  replace i8 := i8.keep OII.ok t14 (by omega)
  replace i10 := i10.keep OII.ok t14 (by omega)
  replace r0 := rd_turn RdII.ok r0 t14 (by omega) (by omega)
  replace r1 := rd_turn RdII.ok r1 t14 (by omega) (by omega)
  replace bel := Turn.below bel t14 (by omega) (by omega)
  go_wp2_with fail
  refine (markInt64SS_t i6 (by omega) (by omega)).mono ?_
  rintro e w15 ⟨rfl, j15, t15⟩
  have s15 := t15.size
  replace i1 := i1.keep OII.ok t15 (by omega)
  replace i2 := i2.keep OII.ok t15 (by omega)
  replace i3 := i3.keep OII.ok t15 (by omega)
  replace i4 := i4.keep OII.ok t15 (by omega)
  replace i5 := i5.keep OII.ok t15 (by omega)
  replace i8 := i8.keep OII.ok t15 (by omega)
  replace i10 := i10.keep OII.ok t15 (by omega)
  replace r0 := rd_turn RdII.ok r0 t15 (by omega) (by omega)
  replace r1 := rd_turn RdII.ok r1 t15 (by omega) (by omega)
  replace bel := Turn.below bel t15 (by omega) (by omega)
  replace i6 := j15; clear j15
  go_wp2_with fail
  refine (heldInt64SS_t i6 (by omega) (by omega)).mono ?_
  rintro e w16 ⟨rfl, t16⟩
  have s16 := t16.size
  replace i1 := i1.keep OII.ok t16 (by omega)
  replace i2 := i2.keep OII.ok t16 (by omega)
  replace i3 := i3.keep OII.ok t16 (by omega)
  replace i4 := i4.keep OII.ok t16 (by omega)
  replace i5 := i5.keep OII.ok t16 (by omega)
  replace i6 := i6.keep OII.ok t16 (by omega)
  replace i8 := i8.keep OII.ok t16 (by omega)
  replace i10 := i10.keep OII.ok t16 (by omega)
  replace r0 := rd_turn RdII.ok r0 t16 (by omega) (by omega)
  replace r1 := rd_turn RdII.ok r1 t16 (by omega) (by omega)
  replace bel := Turn.below bel t16 (by omega) (by omega)
  go_wp2_with fail
  refine (toInt64SS_t (B := w.heap.size) r0 (by omega) l0).mono ?_
  rintro e w17 ⟨v_17, rfl, i17, t17⟩
  have s17 := t17.size
  replace i1 := i1.keep OII.ok t17 (by omega)
  replace i2 := i2.keep OII.ok t17 (by omega)
  replace i3 := i3.keep OII.ok t17 (by omega)
  replace i4 := i4.keep OII.ok t17 (by omega)
  replace i5 := i5.keep OII.ok t17 (by omega)
  replace i6 := i6.keep OII.ok t17 (by omega)
  replace i8 := i8.keep OII.ok t17 (by omega)
  replace i10 := i10.keep OII.ok t17 (by omega)
  replace r0 := rd_turn RdII.ok r0 t17 (by omega) (by omega)
  replace r1 := rd_turn RdII.ok r1 t17 (by omega) (by omega)
  replace bel := Turn.below bel t17 (by omega) (by omega)
  go_wp2_with fail
  refine (toInt64SS_t (B := w.heap.size) r1 (by omega) l1).mono ?_
  rintro e w18 ⟨v_18, rfl, i18, t18⟩
  have s18 := t18.size
  replace i1 := i1.keep OII.ok t18 (by omega)
  replace i2 := i2.keep OII.ok t18 (by omega)
  replace i3 := i3.keep OII.ok t18 (by omega)
  replace i4 := i4.keep OII.ok t18 (by omega)
  replace i5 := i5.keep OII.ok t18 (by omega)
  replace i6 := i6.keep OII.ok t18 (by omega)
  replace i8 := i8.keep OII.ok t18 (by omega)
  replace i10 := i10.keep OII.ok t18 (by omega)
  replace i17 := i17.keep OII.ok t18 (by omega)
  replace r0 := rd_turn RdII.ok r0 t18 (by omega) (by omega)
  replace r1 := rd_turn RdII.ok r1 t18 (by omega) (by omega)
  replace bel := Turn.below bel t18 (by omega) (by omega)
  go_wp2_with fail
  refine (implProductTable (i17.rdlt OII.leads OII.ok) (i18.rdlt OII.leads OII.ok) (Nat.le_refl _) (Nat.le_trans (szL_len _ _) l0) (Nat.le_trans (szL_len _ _) l1)).mono ?_
  rintro e w19 ⟨v_19, rfl, f19⟩
  obtain ⟨i19, t19⟩ := In.of_fresh OII.ok f19; clear f19
  have s19 := t19.size
  replace i1 := i1.keep OII.ok t19 (by omega)
  replace i2 := i2.keep OII.ok t19 (by omega)
  replace i3 := i3.keep OII.ok t19 (by omega)
  replace i4 := i4.keep OII.ok t19 (by omega)
  replace i5 := i5.keep OII.ok t19 (by omega)
  replace i6 := i6.keep OII.ok t19 (by omega)
  replace i8 := i8.keep OII.ok t19 (by omega)
  replace i10 := i10.keep OII.ok t19 (by omega)
  replace i17 := i17.keep OII.ok t19 (by omega)
  replace i18 := i18.keep OII.ok t19 (by omega)
  replace r0 := rd_turn RdII.ok r0 t19 (by omega) (by omega)
  replace r1 := rd_turn RdII.ok r1 t19 (by omega) (by omega)
  replace bel := Turn.below bel t19 (by omega) (by omega)
  go_wp2_with fail
  refine (eqInt64SS_t i19 i3).mono ?_
  rintro e w20 ⟨rfl, t20⟩
  have s20 := t20.size
  replace i1 := i1.keep OII.ok t20 (by omega)
  replace i2 := i2.keep OII.ok t20 (by omega)
  replace i3 := i3.keep OII.ok t20 (by omega)
  replace i4 := i4.keep OII.ok t20 (by omega)
  replace i5 := i5.keep OII.ok t20 (by omega)
  replace i6 := i6.keep OII.ok t20 (by omega)
  replace i8 := i8.keep OII.ok t20 (by omega)
  replace i10 := i10.keep OII.ok t20 (by omega)
  replace i17 := i17.keep OII.ok t20 (by omega)
  replace i18 := i18.keep OII.ok t20 (by omega)
  replace i19 := i19.keep OII.ok t20 (by omega)
  replace r0 := rd_turn RdII.ok r0 t20 (by omega) (by omega)
  replace r1 := rd_turn RdII.ok r1 t20 (by omega) (by omega)
  replace bel := Turn.below bel t20 (by omega) (by omega)
  go_wp2_with fail
  refine (heldInt64SS_t i6 (by omega) (by omega)).mono ?_
  rintro e w21 ⟨rfl, t21⟩
  have s21 := t21.size
  replace i1 := i1.keep OII.ok t21 (by omega)
  replace i2 := i2.keep OII.ok t21 (by omega)
  replace i3 := i3.keep OII.ok t21 (by omega)
  replace i4 := i4.keep OII.ok t21 (by omega)
  replace i5 := i5.keep OII.ok t21 (by omega)
  replace i6 := i6.keep OII.ok t21 (by omega)
  replace i8 := i8.keep OII.ok t21 (by omega)
  replace i10 := i10.keep OII.ok t21 (by omega)
  replace i17 := i17.keep OII.ok t21 (by omega)
  replace i18 := i18.keep OII.ok t21 (by omega)
  replace i19 := i19.keep OII.ok t21 (by omega)
  replace r0 := rd_turn RdII.ok r0 t21 (by omega) (by omega)
  replace r1 := rd_turn RdII.ok r1 t21 (by omega) (by omega)
  replace bel := Turn.below bel t21 (by omega) (by omega)
  go_wp2_with fail
  go_ret
  exact ⟨rfl, bel⟩

set_option maxHeartbeats 1600000 in
set_option maxRecDepth 100000 in
theorem lawExactZeroDiagonal (w : World) (v0 : Value) (z0 : List (List Int)) (r0 : RdII (· < w.heap.size) w v0 z0) :
    Calls Try.prog 12 #[v0] w fun e w' => e = .returned (.bool true) ∧ Below w.heap.size w w' := by
  have hL := zV_cnt z0
  obtain ⟨ad0, cp0, rfl, cl0, cm0, _⟩ := id r0
  unfold maxLen at cm0
  have bel : Below w.heap.size w w := Below.refl _ _
  by_cases y0 : ((szL List.length z0 : Nat) : Int) ≤ 1048576
  rotate_left
  · go_enter Try.func12, Try.ntmps12
    go_wp2_with fail
    refine (szInt64SS r0 _ (by omega) (by omega)).mono ?_
    rw [szR_no (by omega)]
    rintro e w' ⟨rfl, rfl⟩
    go_wp2_with fail
    go_ret
    exact ⟨rfl, Below.refl _ _⟩
  have l0 : szL List.length z0 ≤ 1048576 := by omega
  have c0 := cnt_le_sz2 z0
  go_enter Try.func12, Try.ntmps12
  go_wp2_with fail
  refine (szInt64SS r0 _ (by omega) (by omega)).mono ?_
  rw [szR_yes y0]
  rintro e w' ⟨rfl, rfl⟩
  go_wp2_with fail
  refine (toInt64SS_t (B := w.heap.size) r0 (by omega) l0).mono ?_
  rintro e w1 ⟨v_1, rfl, i1, t1⟩
  have s1 := t1.size
  replace r0 := rd_turn RdII.ok r0 t1 (by omega) (by omega)
  replace bel := Turn.below bel t1 (by omega) (by omega)
  go_wp2_with fail
  refine (specZeroDiagonal (i1.rdlt OII.leads OII.ok) (Nat.le_refl _)).mono ?_
  rintro e w2 ⟨v_2, rfl, f2⟩
  obtain ⟨i2, t2⟩ := In.of_fresh OII.ok f2; clear f2
  have s2 := t2.size
  replace i1 := i1.keep OII.ok t2 (by omega)
  replace r0 := rd_turn RdII.ok r0 t2 (by omega) (by omega)
  replace bel := Turn.below bel t2 (by omega) (by omega)
  go_wp2_with fail
  refine (toInt64SS_t (B := w.heap.size) r0 (by omega) l0).mono ?_
  rintro e w3 ⟨v_3, rfl, i3, t3⟩
  have s3 := t3.size
  replace i1 := i1.keep OII.ok t3 (by omega)
  replace i2 := i2.keep OII.ok t3 (by omega)
  replace r0 := rd_turn RdII.ok r0 t3 (by omega) (by omega)
  replace bel := Turn.below bel t3 (by omega) (by omega)
  go_wp2_with fail
  refine (implZeroDiagonal (i3.rdlt OII.leads OII.ok) (Nat.le_refl _)).mono ?_
  rintro e w4 ⟨v_4, rfl, f4⟩
  obtain ⟨i4, t4⟩ := In.of_fresh OII.ok f4; clear f4
  have s4 := t4.size
  replace i1 := i1.keep OII.ok t4 (by omega)
  replace i2 := i2.keep OII.ok t4 (by omega)
  replace i3 := i3.keep OII.ok t4 (by omega)
  replace r0 := rd_turn RdII.ok r0 t4 (by omega) (by omega)
  replace bel := Turn.below bel t4 (by omega) (by omega)
  go_wp2_with fail
  refine (eqInt64SS_t i4 i2).mono ?_
  rintro e w5 ⟨rfl, t5⟩
  have s5 := t5.size
  replace i1 := i1.keep OII.ok t5 (by omega)
  replace i2 := i2.keep OII.ok t5 (by omega)
  replace i3 := i3.keep OII.ok t5 (by omega)
  replace i4 := i4.keep OII.ok t5 (by omega)
  replace r0 := rd_turn RdII.ok r0 t5 (by omega) (by omega)
  replace bel := Turn.below bel t5 (by omega) (by omega)
  go_wp2_with fail
  refine (toInt64SS_t (B := w.heap.size) r0 (by omega) l0).mono ?_
  rintro e w6 ⟨v_6, rfl, i6, t6⟩
  have s6 := t6.size
  replace i1 := i1.keep OII.ok t6 (by omega)
  replace i2 := i2.keep OII.ok t6 (by omega)
  replace i3 := i3.keep OII.ok t6 (by omega)
  replace i4 := i4.keep OII.ok t6 (by omega)
  replace r0 := rd_turn RdII.ok r0 t6 (by omega) (by omega)
  replace bel := Turn.below bel t6 (by omega) (by omega)
  go_wp2_with fail
  refine (eqInt64SS_t i3 i6).mono ?_
  rintro e w7 ⟨rfl, t7⟩
  have s7 := t7.size
  replace i1 := i1.keep OII.ok t7 (by omega)
  replace i2 := i2.keep OII.ok t7 (by omega)
  replace i3 := i3.keep OII.ok t7 (by omega)
  replace i4 := i4.keep OII.ok t7 (by omega)
  replace i6 := i6.keep OII.ok t7 (by omega)
  replace r0 := rd_turn RdII.ok r0 t7 (by omega) (by omega)
  replace bel := Turn.below bel t7 (by omega) (by omega)
  go_wp2_with fail
  refine (markInt64SS_t i3 (by omega) (by omega)).mono ?_
  rintro e w8 ⟨rfl, j8, t8⟩
  have s8 := t8.size
  replace i1 := i1.keep OII.ok t8 (by omega)
  replace i2 := i2.keep OII.ok t8 (by omega)
  replace i4 := i4.keep OII.ok t8 (by omega)
  replace i6 := i6.keep OII.ok t8 (by omega)
  replace r0 := rd_turn RdII.ok r0 t8 (by omega) (by omega)
  replace bel := Turn.below bel t8 (by omega) (by omega)
  replace i3 := j8; clear j8
  go_wp2_with fail
  refine (eqInt64SS_t i4 i2).mono ?_
  rintro e w9 ⟨rfl, t9⟩
  have s9 := t9.size
  replace i1 := i1.keep OII.ok t9 (by omega)
  replace i2 := i2.keep OII.ok t9 (by omega)
  replace i3 := i3.keep OII.ok t9 (by omega)
  replace i4 := i4.keep OII.ok t9 (by omega)
  replace i6 := i6.keep OII.ok t9 (by omega)
  replace r0 := rd_turn RdII.ok r0 t9 (by omega) (by omega)
  replace bel := Turn.below bel t9 (by omega) (by omega)
  go_wp2_with fail
  refine (markInt64SS_t i4 (by omega) (by omega)).mono ?_
  rintro e w10 ⟨rfl, j10, t10⟩
  have s10 := t10.size
  replace i1 := i1.keep OII.ok t10 (by omega)
  replace i2 := i2.keep OII.ok t10 (by omega)
  replace i3 := i3.keep OII.ok t10 (by omega)
  replace i6 := i6.keep OII.ok t10 (by omega)
  replace r0 := rd_turn RdII.ok r0 t10 (by omega) (by omega)
  replace bel := Turn.below bel t10 (by omega) (by omega)
  replace i4 := j10; clear j10
  go_wp2_with fail
  refine (heldInt64SS_t i4 (by omega) (by omega)).mono ?_
  rintro e w11 ⟨rfl, t11⟩
  have s11 := t11.size
  replace i1 := i1.keep OII.ok t11 (by omega)
  replace i2 := i2.keep OII.ok t11 (by omega)
  replace i3 := i3.keep OII.ok t11 (by omega)
  replace i4 := i4.keep OII.ok t11 (by omega)
  replace i6 := i6.keep OII.ok t11 (by omega)
  replace r0 := rd_turn RdII.ok r0 t11 (by omega) (by omega)
  replace bel := Turn.below bel t11 (by omega) (by omega)
  go_wp2_with fail
  refine (toInt64SS_t (B := w.heap.size) r0 (by omega) l0).mono ?_
  rintro e w12 ⟨v_12, rfl, i12, t12⟩
  have s12 := t12.size
  replace i1 := i1.keep OII.ok t12 (by omega)
  replace i2 := i2.keep OII.ok t12 (by omega)
  replace i3 := i3.keep OII.ok t12 (by omega)
  replace i4 := i4.keep OII.ok t12 (by omega)
  replace i6 := i6.keep OII.ok t12 (by omega)
  replace r0 := rd_turn RdII.ok r0 t12 (by omega) (by omega)
  replace bel := Turn.below bel t12 (by omega) (by omega)
  go_wp2_with fail
  refine (implZeroDiagonal (i12.rdlt OII.leads OII.ok) (Nat.le_refl _)).mono ?_
  rintro e w13 ⟨v_13, rfl, f13⟩
  obtain ⟨i13, t13⟩ := In.of_fresh OII.ok f13; clear f13
  have s13 := t13.size
  replace i1 := i1.keep OII.ok t13 (by omega)
  replace i2 := i2.keep OII.ok t13 (by omega)
  replace i3 := i3.keep OII.ok t13 (by omega)
  replace i4 := i4.keep OII.ok t13 (by omega)
  replace i6 := i6.keep OII.ok t13 (by omega)
  replace i12 := i12.keep OII.ok t13 (by omega)
  replace r0 := rd_turn RdII.ok r0 t13 (by omega) (by omega)
  replace bel := Turn.below bel t13 (by omega) (by omega)
  go_wp2_with fail
  refine (eqInt64SS_t i13 i2).mono ?_
  rintro e w14 ⟨rfl, t14⟩
  have s14 := t14.size
  replace i1 := i1.keep OII.ok t14 (by omega)
  replace i2 := i2.keep OII.ok t14 (by omega)
  replace i3 := i3.keep OII.ok t14 (by omega)
  replace i4 := i4.keep OII.ok t14 (by omega)
  replace i6 := i6.keep OII.ok t14 (by omega)
  replace i12 := i12.keep OII.ok t14 (by omega)
  replace i13 := i13.keep OII.ok t14 (by omega)
  replace r0 := rd_turn RdII.ok r0 t14 (by omega) (by omega)
  replace bel := Turn.below bel t14 (by omega) (by omega)
  go_wp2_with fail
  refine (heldInt64SS_t i4 (by omega) (by omega)).mono ?_
  rintro e w15 ⟨rfl, t15⟩
  have s15 := t15.size
  replace i1 := i1.keep OII.ok t15 (by omega)
  replace i2 := i2.keep OII.ok t15 (by omega)
  replace i3 := i3.keep OII.ok t15 (by omega)
  replace i4 := i4.keep OII.ok t15 (by omega)
  replace i6 := i6.keep OII.ok t15 (by omega)
  replace i12 := i12.keep OII.ok t15 (by omega)
  replace i13 := i13.keep OII.ok t15 (by omega)
  replace r0 := rd_turn RdII.ok r0 t15 (by omega) (by omega)
  replace bel := Turn.below bel t15 (by omega) (by omega)
  go_wp2_with fail
  go_ret
  exact ⟨rfl, bel⟩

end Go.Proofs.Ytakliggacjckpaa
