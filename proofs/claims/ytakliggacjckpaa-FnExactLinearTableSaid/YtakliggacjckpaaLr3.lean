/- The walks of the laws of this seat: each returns true. Printed by gen_law.py. -/
import Derived.Test.YtakliggacjckpaaT
import Derived.Test.YtakliggacjckpaaQ2
import Derived.Test.YtakliggacjckpaaQ3
import Derived.Test.YtakliggacjckpaaQ4
import Derived.Test.YtakliggacjckpaaB3
namespace Go.Proofs.Ytakliggacjckpaa
open Go.RowKit
set_option linter.unusedVariables false

set_option maxHeartbeats 1600000 in
set_option maxRecDepth 100000 in
theorem lawExactIsQuasigroup (w : World) (v0 : Value) (z0 : List (List Int)) (r0 : RdII (· < w.heap.size) w v0 z0) :
    Calls Try.prog 4 #[v0] w fun e w' => e = .returned (.bool true) ∧ Below w.heap.size w w' := by
  obtain ⟨ad0, cp0, rfl, cl0, cm0, _⟩ := id r0
  unfold maxLen at cm0
  have bel : Below w.heap.size w w := Below.refl _ _
  by_cases y0 : ((szL List.length z0 : Nat) : Int) ≤ 1048576
  rotate_left
  · go_enter Try.func4, Try.ntmps4
    go_wp2_with fail
    refine (szInt64SS r0 _ (by omega) (by omega)).mono ?_
    rw [szR_no (by omega)]
    rintro e w' ⟨rfl, rfl⟩
    go_wp2_with fail
    go_ret
    exact ⟨rfl, Below.refl _ _⟩
  have l0 : szL List.length z0 ≤ 1048576 := by omega
  have c0 := cnt_le_sz2 z0
  go_enter Try.func4, Try.ntmps4
  go_wp2_with fail
  refine (szInt64SS r0 _ (by omega) (by omega)).mono ?_
  rw [szR_yes y0]
  rintro e w' ⟨rfl, rfl⟩
  go_wp2_with fail
  refine (toInt64SS_t (B := w.heap.size) r0 (by omega) l0).mono ?_
  rintro e w1 ⟨v_1, rfl, i1, t1⟩
  have s1 := t1.size
  replace r0 := rd_turn RdII.ok r0 t1 (by omega) (by omega)
  replace bel := Turn.below bel t1 (by omega) (by omega)
  go_wp2_with fail
  refine (specIsQuasigroup (i1.rdlt OII.leads OII.ok) (Nat.le_refl _)).mono ?_
  rintro e w2 ⟨rfl, b2⟩
  have t2 := Turn.of_below b2; clear b2
  have s2 := t2.size
  replace i1 := i1.keep OII.ok t2 (by omega)
  replace r0 := rd_turn RdII.ok r0 t2 (by omega) (by omega)
  replace bel := Turn.below bel t2 (by omega) (by omega)
  go_wp2_with fail
  refine (toInt64SS_t (B := w.heap.size) r0 (by omega) l0).mono ?_
  rintro e w3 ⟨v_3, rfl, i3, t3⟩
  have s3 := t3.size
  replace i1 := i1.keep OII.ok t3 (by omega)
  replace r0 := rd_turn RdII.ok r0 t3 (by omega) (by omega)
  replace bel := Turn.below bel t3 (by omega) (by omega)
  go_wp2_with fail
  refine (implIsQuasigroup (i3.rdlt OII.leads OII.ok) (Nat.le_refl _)).mono ?_
  rintro e w4 ⟨rfl, b4⟩
  have t4 := Turn.of_below b4; clear b4
  have s4 := t4.size
  replace i1 := i1.keep OII.ok t4 (by omega)
  replace i3 := i3.keep OII.ok t4 (by omega)
  replace r0 := rd_turn RdII.ok r0 t4 (by omega) (by omega)
  replace bel := Turn.below bel t4 (by omega) (by omega)
  go_wp2_with fail
  refine (toInt64SS_t (B := w.heap.size) r0 (by omega) l0).mono ?_
  rintro e w5 ⟨v_5, rfl, i5, t5⟩
  have s5 := t5.size
  replace i1 := i1.keep OII.ok t5 (by omega)
  replace i3 := i3.keep OII.ok t5 (by omega)
  replace r0 := rd_turn RdII.ok r0 t5 (by omega) (by omega)
  replace bel := Turn.below bel t5 (by omega) (by omega)
  go_wp2_with fail
  refine (eqInt64SS_t i3 i5).mono ?_
  rintro e w6 ⟨rfl, t6⟩
  have s6 := t6.size
  replace i1 := i1.keep OII.ok t6 (by omega)
  replace i3 := i3.keep OII.ok t6 (by omega)
  replace i5 := i5.keep OII.ok t6 (by omega)
  replace r0 := rd_turn RdII.ok r0 t6 (by omega) (by omega)
  replace bel := Turn.below bel t6 (by omega) (by omega)
  go_wp2_with fail
  go_ret
  exact ⟨rfl, bel⟩

set_option maxHeartbeats 1600000 in
set_option maxRecDepth 100000 in
theorem lawExactSwapClashes (w : World) (v0 : Value) (z0 : List (List Int)) (r0 : RdII (· < w.heap.size) w v0 z0) :
    Calls Try.prog 5 #[v0] w fun e w' => e = .returned (.bool true) ∧ Below w.heap.size w w' := by
  obtain ⟨ad0, cp0, rfl, cl0, cm0, _⟩ := id r0
  unfold maxLen at cm0
  have bel : Below w.heap.size w w := Below.refl _ _
  by_cases y0 : ((szL List.length z0 : Nat) : Int) ≤ 1048576
  rotate_left
  · go_enter Try.func5, Try.ntmps5
    go_wp2_with fail
    refine (szInt64SS r0 _ (by omega) (by omega)).mono ?_
    rw [szR_no (by omega)]
    rintro e w' ⟨rfl, rfl⟩
    go_wp2_with fail
    go_ret
    exact ⟨rfl, Below.refl _ _⟩
  have l0 : szL List.length z0 ≤ 1048576 := by omega
  have c0 := cnt_le_sz2 z0
  go_enter Try.func5, Try.ntmps5
  go_wp2_with fail
  refine (szInt64SS r0 _ (by omega) (by omega)).mono ?_
  rw [szR_yes y0]
  rintro e w' ⟨rfl, rfl⟩
  go_wp2_with fail
  refine (toInt64SS_t (B := w.heap.size) r0 (by omega) l0).mono ?_
  rintro e w1 ⟨v_1, rfl, i1, t1⟩
  have s1 := t1.size
  replace r0 := rd_turn RdII.ok r0 t1 (by omega) (by omega)
  replace bel := Turn.below bel t1 (by omega) (by omega)
  go_wp2_with fail
  refine (specSwapClashes (i1.rdlt OII.leads OII.ok) (Nat.le_refl _)).mono ?_
  rintro e w2 ⟨rfl, b2⟩
  have t2 := Turn.of_below b2; clear b2
  have s2 := t2.size
  replace i1 := i1.keep OII.ok t2 (by omega)
  replace r0 := rd_turn RdII.ok r0 t2 (by omega) (by omega)
  replace bel := Turn.below bel t2 (by omega) (by omega)
  go_wp2_with fail
  refine (toInt64SS_t (B := w.heap.size) r0 (by omega) l0).mono ?_
  rintro e w3 ⟨v_3, rfl, i3, t3⟩
  have s3 := t3.size
  replace i1 := i1.keep OII.ok t3 (by omega)
  replace r0 := rd_turn RdII.ok r0 t3 (by omega) (by omega)
  replace bel := Turn.below bel t3 (by omega) (by omega)
  go_wp2_with fail
  refine (implSwapClashes (i3.rdlt OII.leads OII.ok) (Nat.le_refl _)).mono ?_
  rintro e w4 ⟨rfl, b4⟩
  have t4 := Turn.of_below b4; clear b4
  have s4 := t4.size
  replace i1 := i1.keep OII.ok t4 (by omega)
  replace i3 := i3.keep OII.ok t4 (by omega)
  replace r0 := rd_turn RdII.ok r0 t4 (by omega) (by omega)
  replace bel := Turn.below bel t4 (by omega) (by omega)
  go_wp2_with fail
  refine (toInt64SS_t (B := w.heap.size) r0 (by omega) l0).mono ?_
  rintro e w5 ⟨v_5, rfl, i5, t5⟩
  have s5 := t5.size
  replace i1 := i1.keep OII.ok t5 (by omega)
  replace i3 := i3.keep OII.ok t5 (by omega)
  replace r0 := rd_turn RdII.ok r0 t5 (by omega) (by omega)
  replace bel := Turn.below bel t5 (by omega) (by omega)
  go_wp2_with fail
  refine (eqInt64SS_t i3 i5).mono ?_
  rintro e w6 ⟨rfl, t6⟩
  have s6 := t6.size
  replace i1 := i1.keep OII.ok t6 (by omega)
  replace i3 := i3.keep OII.ok t6 (by omega)
  replace i5 := i5.keep OII.ok t6 (by omega)
  replace r0 := rd_turn RdII.ok r0 t6 (by omega) (by omega)
  replace bel := Turn.below bel t6 (by omega) (by omega)
  go_wp2_with fail
  go_ret
  exact ⟨rfl, bel⟩

set_option maxHeartbeats 1600000 in
set_option maxRecDepth 100000 in
theorem lawExactChainClashes (w : World) (v0 : Value) (z0 : List (List Int)) (r0 : RdII (· < w.heap.size) w v0 z0) :
    Calls Try.prog 6 #[v0] w fun e w' => e = .returned (.bool true) ∧ Below w.heap.size w w' := by
  obtain ⟨ad0, cp0, rfl, cl0, cm0, _⟩ := id r0
  unfold maxLen at cm0
  have bel : Below w.heap.size w w := Below.refl _ _
  by_cases y0 : ((szL List.length z0 : Nat) : Int) ≤ 1048576
  rotate_left
  · go_enter Try.func6, Try.ntmps6
    go_wp2_with fail
    refine (szInt64SS r0 _ (by omega) (by omega)).mono ?_
    rw [szR_no (by omega)]
    rintro e w' ⟨rfl, rfl⟩
    go_wp2_with fail
    go_ret
    exact ⟨rfl, Below.refl _ _⟩
  have l0 : szL List.length z0 ≤ 1048576 := by omega
  have c0 := cnt_le_sz2 z0
  go_enter Try.func6, Try.ntmps6
  go_wp2_with fail
  refine (szInt64SS r0 _ (by omega) (by omega)).mono ?_
  rw [szR_yes y0]
  rintro e w' ⟨rfl, rfl⟩
  go_wp2_with fail
  refine (toInt64SS_t (B := w.heap.size) r0 (by omega) l0).mono ?_
  rintro e w1 ⟨v_1, rfl, i1, t1⟩
  have s1 := t1.size
  replace r0 := rd_turn RdII.ok r0 t1 (by omega) (by omega)
  replace bel := Turn.below bel t1 (by omega) (by omega)
  go_wp2_with fail
  refine (specChainClashes (i1.rdlt OII.leads OII.ok) (Nat.le_refl _)).mono ?_
  rintro e w2 ⟨rfl, b2⟩
  have t2 := Turn.of_below b2; clear b2
  have s2 := t2.size
  replace i1 := i1.keep OII.ok t2 (by omega)
  replace r0 := rd_turn RdII.ok r0 t2 (by omega) (by omega)
  replace bel := Turn.below bel t2 (by omega) (by omega)
  go_wp2_with fail
  refine (toInt64SS_t (B := w.heap.size) r0 (by omega) l0).mono ?_
  rintro e w3 ⟨v_3, rfl, i3, t3⟩
  have s3 := t3.size
  replace i1 := i1.keep OII.ok t3 (by omega)
  replace r0 := rd_turn RdII.ok r0 t3 (by omega) (by omega)
  replace bel := Turn.below bel t3 (by omega) (by omega)
  go_wp2_with fail
  refine (implChainClashes (i3.rdlt OII.leads OII.ok) (Nat.le_refl _)).mono ?_
  rintro e w4 ⟨rfl, b4⟩
  have t4 := Turn.of_below b4; clear b4
  have s4 := t4.size
  replace i1 := i1.keep OII.ok t4 (by omega)
  replace i3 := i3.keep OII.ok t4 (by omega)
  replace r0 := rd_turn RdII.ok r0 t4 (by omega) (by omega)
  replace bel := Turn.below bel t4 (by omega) (by omega)
  go_wp2_with fail
  refine (toInt64SS_t (B := w.heap.size) r0 (by omega) l0).mono ?_
  rintro e w5 ⟨v_5, rfl, i5, t5⟩
  have s5 := t5.size
  replace i1 := i1.keep OII.ok t5 (by omega)
  replace i3 := i3.keep OII.ok t5 (by omega)
  replace r0 := rd_turn RdII.ok r0 t5 (by omega) (by omega)
  replace bel := Turn.below bel t5 (by omega) (by omega)
  go_wp2_with fail
  refine (eqInt64SS_t i3 i5).mono ?_
  rintro e w6 ⟨rfl, t6⟩
  have s6 := t6.size
  replace i1 := i1.keep OII.ok t6 (by omega)
  replace i3 := i3.keep OII.ok t6 (by omega)
  replace i5 := i5.keep OII.ok t6 (by omega)
  replace r0 := rd_turn RdII.ok r0 t6 (by omega) (by omega)
  replace bel := Turn.below bel t6 (by omega) (by omega)
  go_wp2_with fail
  go_ret
  exact ⟨rfl, bel⟩

set_option maxHeartbeats 1600000 in
set_option maxRecDepth 100000 in
theorem lawExactIsTotally (w : World) (v0 : Value) (z0 : List (List Int)) (r0 : RdII (· < w.heap.size) w v0 z0) :
    Calls Try.prog 9 #[v0] w fun e w' => e = .returned (.bool true) ∧ Below w.heap.size w w' := by
  obtain ⟨ad0, cp0, rfl, cl0, cm0, _⟩ := id r0
  unfold maxLen at cm0
  have bel : Below w.heap.size w w := Below.refl _ _
  by_cases y0 : ((szL List.length z0 : Nat) : Int) ≤ 1048576
  rotate_left
  · go_enter Try.func9, Try.ntmps9
    go_wp2_with fail
    refine (szInt64SS r0 _ (by omega) (by omega)).mono ?_
    rw [szR_no (by omega)]
    rintro e w' ⟨rfl, rfl⟩
    go_wp2_with fail
    go_ret
    exact ⟨rfl, Below.refl _ _⟩
  have l0 : szL List.length z0 ≤ 1048576 := by omega
  have c0 := cnt_le_sz2 z0
  go_enter Try.func9, Try.ntmps9
  go_wp2_with fail
  refine (szInt64SS r0 _ (by omega) (by omega)).mono ?_
  rw [szR_yes y0]
  rintro e w' ⟨rfl, rfl⟩
  go_wp2_with fail
  refine (toInt64SS_t (B := w.heap.size) r0 (by omega) l0).mono ?_
  rintro e w1 ⟨v_1, rfl, i1, t1⟩
  have s1 := t1.size
  replace r0 := rd_turn RdII.ok r0 t1 (by omega) (by omega)
  replace bel := Turn.below bel t1 (by omega) (by omega)
  go_wp2_with fail
  refine (specIsTotally (i1.rdlt OII.leads OII.ok) (Nat.le_refl _)).mono ?_
  rintro e w2 ⟨rfl, b2⟩
  have t2 := Turn.of_below b2; clear b2
  have s2 := t2.size
  replace i1 := i1.keep OII.ok t2 (by omega)
  replace r0 := rd_turn RdII.ok r0 t2 (by omega) (by omega)
  replace bel := Turn.below bel t2 (by omega) (by omega)
  go_wp2_with fail
  refine (toInt64SS_t (B := w.heap.size) r0 (by omega) l0).mono ?_
  rintro e w3 ⟨v_3, rfl, i3, t3⟩
  have s3 := t3.size
  replace i1 := i1.keep OII.ok t3 (by omega)
  replace r0 := rd_turn RdII.ok r0 t3 (by omega) (by omega)
  replace bel := Turn.below bel t3 (by omega) (by omega)
  go_wp2_with fail
  refine (implIsTotally (i3.rdlt OII.leads OII.ok) (Nat.le_refl _)).mono ?_
  rintro e w4 ⟨rfl, b4⟩
  have t4 := Turn.of_below b4; clear b4
  have s4 := t4.size
  replace i1 := i1.keep OII.ok t4 (by omega)
  replace i3 := i3.keep OII.ok t4 (by omega)
  replace r0 := rd_turn RdII.ok r0 t4 (by omega) (by omega)
  replace bel := Turn.below bel t4 (by omega) (by omega)
  go_wp2_with fail
  refine (toInt64SS_t (B := w.heap.size) r0 (by omega) l0).mono ?_
  rintro e w5 ⟨v_5, rfl, i5, t5⟩
  have s5 := t5.size
  replace i1 := i1.keep OII.ok t5 (by omega)
  replace i3 := i3.keep OII.ok t5 (by omega)
  replace r0 := rd_turn RdII.ok r0 t5 (by omega) (by omega)
  replace bel := Turn.below bel t5 (by omega) (by omega)
  go_wp2_with fail
  refine (eqInt64SS_t i3 i5).mono ?_
  rintro e w6 ⟨rfl, t6⟩
  have s6 := t6.size
  replace i1 := i1.keep OII.ok t6 (by omega)
  replace i3 := i3.keep OII.ok t6 (by omega)
  replace i5 := i5.keep OII.ok t6 (by omega)
  replace r0 := rd_turn RdII.ok r0 t6 (by omega) (by omega)
  replace bel := Turn.below bel t6 (by omega) (by omega)
  go_wp2_with fail
  go_ret
  exact ⟨rfl, bel⟩

set_option maxHeartbeats 1600000 in
set_option maxRecDepth 100000 in
theorem lawExactLinearTable (a0 : Int) (a1 : Int) (a2 : Int) (a3 : Int) (w : World) :
    Calls Try.prog 7 #[.int .i64 a0, .int .i64 a1, .int .i64 a2, .int .i64 a3] w fun e w' => e = .returned (.bool true) ∧ Below w.heap.size w w' := by
  have hL := linV_cnt a0 a1 a2 a3
  have bel : Below w.heap.size w w := Below.refl _ _
  go_enter Try.func7, Try.ntmps7
  go_wp2_with fail
  refine (specLinearTable a0 a1 a2 a3 _).mono ?_
  rintro e w1 ⟨v_1, rfl, f1⟩
  obtain ⟨i1, t1⟩ := In.of_fresh OII.ok f1; clear f1
  have s1 := t1.size
  replace bel := Turn.below bel t1 (by omega) (by omega)
  go_wp2_with fail
  refine (implLinearTable a0 a1 a2 a3 _).mono ?_
  rintro e w2 ⟨v_2, rfl, f2⟩
  obtain ⟨i2, t2⟩ := In.of_fresh OII.ok f2; clear f2
  have s2 := t2.size
  replace i1 := i1.keep OII.ok t2 (by omega)
  replace bel := Turn.below bel t2 (by omega) (by omega)
  go_wp2_with fail
  refine (eqInt64SS_t i2 i1).mono ?_
  rintro e w3 ⟨rfl, t3⟩
  have s3 := t3.size
  replace i1 := i1.keep OII.ok t3 (by omega)
  replace i2 := i2.keep OII.ok t3 (by omega)
  replace bel := Turn.below bel t3 (by omega) (by omega)
  go_wp2_with fail
  refine (markInt64SS_t i2 (by omega) (by omega)).mono ?_
  rintro e w4 ⟨rfl, j4, t4⟩
  have s4 := t4.size
  replace i1 := i1.keep OII.ok t4 (by omega)
  replace bel := Turn.below bel t4 (by omega) (by omega)
  replace i2 := j4; clear j4
  go_wp2_with fail
  refine (heldInt64SS_t i2 (by omega) (by omega)).mono ?_
  rintro e w5 ⟨rfl, t5⟩
  have s5 := t5.size
  replace i1 := i1.keep OII.ok t5 (by omega)
  replace i2 := i2.keep OII.ok t5 (by omega)
  replace bel := Turn.below bel t5 (by omega) (by omega)
  go_wp2_with fail
  refine (implLinearTable a0 a1 a2 a3 _).mono ?_
  rintro e w6 ⟨v_6, rfl, f6⟩
  obtain ⟨i6, t6⟩ := In.of_fresh OII.ok f6; clear f6
  have s6 := t6.size
  replace i1 := i1.keep OII.ok t6 (by omega)
  replace i2 := i2.keep OII.ok t6 (by omega)
  replace bel := Turn.below bel t6 (by omega) (by omega)
  go_wp2_with fail
  refine (eqInt64SS_t i6 i1).mono ?_
  rintro e w7 ⟨rfl, t7⟩
  have s7 := t7.size
  replace i1 := i1.keep OII.ok t7 (by omega)
  replace i2 := i2.keep OII.ok t7 (by omega)
  replace i6 := i6.keep OII.ok t7 (by omega)
  replace bel := Turn.below bel t7 (by omega) (by omega)
  go_wp2_with fail
  refine (heldInt64SS_t i2 (by omega) (by omega)).mono ?_
  rintro e w8 ⟨rfl, t8⟩
  have s8 := t8.size
  replace i1 := i1.keep OII.ok t8 (by omega)
  replace i2 := i2.keep OII.ok t8 (by omega)
  replace i6 := i6.keep OII.ok t8 (by omega)
  replace bel := Turn.below bel t8 (by omega) (by omega)
  go_wp2_with fail
  go_ret
  exact ⟨rfl, bel⟩

end Go.Proofs.Ytakliggacjckpaa
