/- The walks of the laws of this seat: each returns true. Printed by gen_law.py. -/
import Derived.Test.YtmgfbmpiaanhkaaT
import Derived.Test.YtmgfbmpiaanhkaaW4
import Derived.Test.YtmgfbmpiaanhkaaO2
import Derived.Test.YtmgfbmpiaanhkaaO3
import Derived.Test.YtmgfbmpiaanhkaaO5
import Derived.Test.YtmgfbmpiaanhkaaO6
namespace Go.Proofs.Ytmgfbmpiaanhkaa
open Go.RowKit
set_option linter.unusedVariables false

theorem digitsOf_len (s : ByteArray) (base : Int) : (digitsOf s base).length ≤ 20 := by
  unfold digitsOf
  split
  · rename_i h
    rw [digitsL_length]; exact (isWord_true h).2.1
  · simp

set_option maxHeartbeats 1600000 in
set_option maxRecDepth 100000 in
theorem lawExactIsWordOf (a0 : ByteArray) (m0 : a0.size ≤ maxLen) (a1 : Int) (w : World) :
    Calls Try.prog 3 #[.string a0, .int .i64 a1] w fun e w' => e = .returned (.bool true) ∧ Below w.heap.size w w' := by
  have n0 := m0; unfold maxLen at n0
  have bel : Below w.heap.size w w := Below.refl _ _
  by_cases x0 : 1048576 < a0.size
  · go_enter Try.func3, Try.ntmps3
    go_wp2_with fail
    go_ret
    exact ⟨rfl, Below.refl _ _⟩
  have l0 : a0.size ≤ 1048576 := by omega
  go_enter Try.func3, Try.ntmps3
  go_wp2_with fail
  refine (specIsWordOf a0 a1 l0 _).mono ?_
  rintro e w1 ⟨rfl, b1⟩
  have t1 := Turn.of_below b1; clear b1
  have s1 := t1.size
  replace bel := Turn.below bel t1 (by omega) (by omega)
  go_wp2_with fail
  refine (implIsWordOf a0 a1 _ l0).mono ?_
  rintro e w2 ⟨rfl, b2⟩
  have t2 := Turn.of_below b2; clear b2
  have s2 := t2.size
  replace bel := Turn.below bel t2 (by omega) (by omega)
  go_wp2_with fail
  go_ret
  exact ⟨rfl, bel⟩

set_option maxHeartbeats 1600000 in
set_option maxRecDepth 100000 in
theorem lawExactWordRemainder (a0 : ByteArray) (m0 : a0.size ≤ maxLen) (a1 : Int) (a2 : Int) (w : World) :
    Calls Try.prog 6 #[.string a0, .int .i64 a1, .int .i64 a2] w fun e w' => e = .returned (.bool true) ∧ Below w.heap.size w w' := by
  have n0 := m0; unfold maxLen at n0
  have bel : Below w.heap.size w w := Below.refl _ _
  by_cases x0 : 1048576 < a0.size
  · go_enter Try.func6, Try.ntmps6
    go_wp2_with fail
    go_ret
    exact ⟨rfl, Below.refl _ _⟩
  have l0 : a0.size ≤ 1048576 := by omega
  go_enter Try.func6, Try.ntmps6
  go_wp2_with fail
  refine (specWordRemainder a0 a1 a2 l0 _).mono ?_
  rintro e w1 ⟨rfl, b1⟩
  have t1 := Turn.of_below b1; clear b1
  have s1 := t1.size
  replace bel := Turn.below bel t1 (by omega) (by omega)
  go_wp2_with fail
  refine (implWordRemainder a0 a1 a2 l0 _).mono ?_
  rintro e w2 ⟨rfl, b2⟩
  have t2 := Turn.of_below b2; clear b2
  have s2 := t2.size
  replace bel := Turn.below bel t2 (by omega) (by omega)
  go_wp2_with fail
  go_ret
  exact ⟨rfl, bel⟩

set_option maxHeartbeats 1600000 in
set_option maxRecDepth 100000 in
theorem lawExactWordOf (w : World) (v0 : Value) (z0 : List Int) (r0 : RdI (· < w.heap.size) w v0 z0) (a1 : Int) :
    Calls Try.prog 7 #[v0, .int .i64 a1] w fun e w' => e = .returned (.bool true) ∧ Below w.heap.size w w' := by
  obtain ⟨ad0, cp0, rfl, cl0, cm0, _⟩ := id r0
  unfold maxLen at cm0
  have bel : Below w.heap.size w w := Below.refl _ _
  by_cases x0 : 1048576 < z0.length
  · go_enter Try.func7, Try.ntmps7
    go_wp2_with fail
    go_ret
    exact ⟨rfl, Below.refl _ _⟩
  have l0 : z0.length ≤ 1048576 := by omega
  go_enter Try.func7, Try.ntmps7
  go_wp2_with fail
  refine (toInt64S_t (B := w.heap.size) r0 (by omega) l0).mono ?_
  rintro e w1 ⟨v_1, rfl, i1, t1⟩
  have s1 := t1.size
  replace r0 := rd_turn RdI.ok r0 t1 (by omega) (by omega)
  replace bel := Turn.below bel t1 (by omega) (by omega)
  go_wp2_with fail
  refine (specWordOf (i1.rdlt OI.leads OI.ok) (Nat.le_refl _) a1 l0).mono ?_
  rintro e w2 ⟨rfl, b2⟩
  have t2 := Turn.of_below b2; clear b2
  have s2 := t2.size
  replace i1 := i1.keep OI.ok t2 (by omega)
  replace r0 := rd_turn RdI.ok r0 t2 (by omega) (by omega)
  replace bel := Turn.below bel t2 (by omega) (by omega)
  go_wp2_with fail
  refine (toInt64S_t (B := w.heap.size) r0 (by omega) l0).mono ?_
  rintro e w3 ⟨v_3, rfl, i3, t3⟩
  have s3 := t3.size
  replace i1 := i1.keep OI.ok t3 (by omega)
  replace r0 := rd_turn RdI.ok r0 t3 (by omega) (by omega)
  replace bel := Turn.below bel t3 (by omega) (by omega)
  go_wp2_with fail
  refine (implWordOfX (i3.rdlt OI.leads OI.ok) (Nat.le_refl _) a1 l0).mono ?_
  rintro e w4 ⟨rfl, b4⟩
  have t4 := Turn.of_below b4; clear b4
  have s4 := t4.size
  replace i1 := i1.keep OI.ok t4 (by omega)
  replace i3 := i3.keep OI.ok t4 (by omega)
  replace r0 := rd_turn RdI.ok r0 t4 (by omega) (by omega)
  replace bel := Turn.below bel t4 (by omega) (by omega)
  go_wp2_with fail
  refine (toInt64S_t (B := w.heap.size) r0 (by omega) l0).mono ?_
  rintro e w5 ⟨v_5, rfl, i5, t5⟩
  have s5 := t5.size
  replace i1 := i1.keep OI.ok t5 (by omega)
  replace i3 := i3.keep OI.ok t5 (by omega)
  replace r0 := rd_turn RdI.ok r0 t5 (by omega) (by omega)
  replace bel := Turn.below bel t5 (by omega) (by omega)
  go_wp2_with fail
  refine (eqInt64S_t i3 i5).mono ?_
  rintro e w6 ⟨rfl, t6⟩
  have s6 := t6.size
  replace i1 := i1.keep OI.ok t6 (by omega)
  replace i3 := i3.keep OI.ok t6 (by omega)
  replace i5 := i5.keep OI.ok t6 (by omega)
  replace r0 := rd_turn RdI.ok r0 t6 (by omega) (by omega)
  replace bel := Turn.below bel t6 (by omega) (by omega)
  go_wp2_with fail
  go_ret
  exact ⟨rfl, bel⟩

set_option maxHeartbeats 1600000 in
set_option maxRecDepth 100000 in
theorem lawExactDigitsOf (a0 : ByteArray) (m0 : a0.size ≤ maxLen) (a1 : Int) (w : World) :
    Calls Try.prog 8 #[.string a0, .int .i64 a1] w fun e w' => e = .returned (.bool true) ∧ Below w.heap.size w w' := by
  have hL := digitsOf_len a0 a1
  have n0 := m0; unfold maxLen at n0
  have bel : Below w.heap.size w w := Below.refl _ _
  by_cases x0 : 1048576 < a0.size
  · go_enter Try.func8, Try.ntmps8
    go_wp2_with fail
    go_ret
    exact ⟨rfl, Below.refl _ _⟩
  have l0 : a0.size ≤ 1048576 := by omega
  go_enter Try.func8, Try.ntmps8
  go_wp2_with fail
  refine (specDigitsOf a0 a1 l0 _).mono ?_
  rintro e w1 ⟨v_1, rfl, f1⟩
  obtain ⟨i1, t1⟩ := In.of_fresh OI.ok f1; clear f1
  have s1 := t1.size
  replace bel := Turn.below bel t1 (by omega) (by omega)
  go_wp2_with fail
  refine (implDigitsOf a0 a1 _ l0).mono ?_
  rintro e w2 ⟨v_2, rfl, f2⟩
  obtain ⟨i2, t2⟩ := In.of_fresh OI.ok f2; clear f2
  have s2 := t2.size
  replace i1 := i1.keep OI.ok t2 (by omega)
  replace bel := Turn.below bel t2 (by omega) (by omega)
  go_wp2_with fail
  refine (eqInt64S_t i2 i1).mono ?_
  rintro e w3 ⟨rfl, t3⟩
  have s3 := t3.size
  replace i1 := i1.keep OI.ok t3 (by omega)
  replace i2 := i2.keep OI.ok t3 (by omega)
  replace bel := Turn.below bel t3 (by omega) (by omega)
  go_wp2_with fail
  refine (markInt64S_t i2 (by omega) (by omega)).mono ?_
  rintro e w4 ⟨rfl, j4, t4⟩
  have s4 := t4.size
  replace i1 := i1.keep OI.ok t4 (by omega)
  replace bel := Turn.below bel t4 (by omega) (by omega)
  replace i2 := j4; clear j4
  go_wp2_with fail
  refine (heldInt64S_t i2 (by omega) (by omega)).mono ?_
  rintro e w5 ⟨rfl, t5⟩
  have s5 := t5.size
  replace i1 := i1.keep OI.ok t5 (by omega)
  replace i2 := i2.keep OI.ok t5 (by omega)
  replace bel := Turn.below bel t5 (by omega) (by omega)
  go_wp2_with fail
  refine (implDigitsOf a0 a1 _ l0).mono ?_
  rintro e w6 ⟨v_6, rfl, f6⟩
  obtain ⟨i6, t6⟩ := In.of_fresh OI.ok f6; clear f6
  have s6 := t6.size
  replace i1 := i1.keep OI.ok t6 (by omega)
  replace i2 := i2.keep OI.ok t6 (by omega)
  replace bel := Turn.below bel t6 (by omega) (by omega)
  go_wp2_with fail
  refine (eqInt64S_t i6 i1).mono ?_
  rintro e w7 ⟨rfl, t7⟩
  have s7 := t7.size
  replace i1 := i1.keep OI.ok t7 (by omega)
  replace i2 := i2.keep OI.ok t7 (by omega)
  replace i6 := i6.keep OI.ok t7 (by omega)
  replace bel := Turn.below bel t7 (by omega) (by omega)
  go_wp2_with fail
  refine (heldInt64S_t i2 (by omega) (by omega)).mono ?_
  rintro e w8 ⟨rfl, t8⟩
  have s8 := t8.size
  replace i1 := i1.keep OI.ok t8 (by omega)
  replace i2 := i2.keep OI.ok t8 (by omega)
  replace i6 := i6.keep OI.ok t8 (by omega)
  replace bel := Turn.below bel t8 (by omega) (by omega)
  go_wp2_with fail
  go_ret
  exact ⟨rfl, bel⟩

set_option maxHeartbeats 1600000 in
set_option maxRecDepth 100000 in
theorem lawExactIsOrder (w : World) (v0 : Value) (z0 : List Int) (r0 : RdI (· < w.heap.size) w v0 z0) :
    Calls Try.prog 5 #[v0] w fun e w' => e = .returned (.bool true) ∧ Below w.heap.size w w' := by
  obtain ⟨ad0, cp0, rfl, cl0, cm0, _⟩ := id r0
  unfold maxLen at cm0
  have bel : Below w.heap.size w w := Below.refl _ _
  by_cases x0 : 1048576 < z0.length
  · go_enter Try.func5, Try.ntmps5
    go_wp2_with fail
    go_ret
    exact ⟨rfl, Below.refl _ _⟩
  have l0 : z0.length ≤ 1048576 := by omega
  go_enter Try.func5, Try.ntmps5
  go_wp2_with fail
  refine (toInt64S_t (B := w.heap.size) r0 (by omega) l0).mono ?_
  rintro e w1 ⟨v_1, rfl, i1, t1⟩
  have s1 := t1.size
  replace r0 := rd_turn RdI.ok r0 t1 (by omega) (by omega)
  replace bel := Turn.below bel t1 (by omega) (by omega)
  go_wp2_with fail
  refine (specIsOrder (i1.rdlt OI.leads OI.ok)).mono ?_
  rintro e w2 ⟨rfl, b2⟩
  have t2 := Turn.of_below b2; clear b2
  have s2 := t2.size
  replace i1 := i1.keep OI.ok t2 (by omega)
  replace r0 := rd_turn RdI.ok r0 t2 (by omega) (by omega)
  replace bel := Turn.below bel t2 (by omega) (by omega)
  go_wp2_with fail
  refine (toInt64S_t (B := w.heap.size) r0 (by omega) l0).mono ?_
  rintro e w3 ⟨v_3, rfl, i3, t3⟩
  have s3 := t3.size
  replace i1 := i1.keep OI.ok t3 (by omega)
  replace r0 := rd_turn RdI.ok r0 t3 (by omega) (by omega)
  replace bel := Turn.below bel t3 (by omega) (by omega)
  go_wp2_with fail
  refine (implIsOrder (i3.rdlt OI.leads OI.ok) (Nat.le_refl _) l0).mono ?_
  rintro e w4 ⟨rfl, b4⟩
  have t4 := Turn.of_below b4; clear b4
  have s4 := t4.size
  replace i1 := i1.keep OI.ok t4 (by omega)
  replace i3 := i3.keep OI.ok t4 (by omega)
  replace r0 := rd_turn RdI.ok r0 t4 (by omega) (by omega)
  replace bel := Turn.below bel t4 (by omega) (by omega)
  go_wp2_with fail
  refine (toInt64S_t (B := w.heap.size) r0 (by omega) l0).mono ?_
  rintro e w5 ⟨v_5, rfl, i5, t5⟩
  have s5 := t5.size
  replace i1 := i1.keep OI.ok t5 (by omega)
  replace i3 := i3.keep OI.ok t5 (by omega)
  replace r0 := rd_turn RdI.ok r0 t5 (by omega) (by omega)
  replace bel := Turn.below bel t5 (by omega) (by omega)
  go_wp2_with fail
  refine (eqInt64S_t i3 i5).mono ?_
  rintro e w6 ⟨rfl, t6⟩
  have s6 := t6.size
  replace i1 := i1.keep OI.ok t6 (by omega)
  replace i3 := i3.keep OI.ok t6 (by omega)
  replace i5 := i5.keep OI.ok t6 (by omega)
  replace r0 := rd_turn RdI.ok r0 t6 (by omega) (by omega)
  replace bel := Turn.below bel t6 (by omega) (by omega)
  go_wp2_with fail
  go_ret
  exact ⟨rfl, bel⟩

set_option maxHeartbeats 1600000 in
set_option maxRecDepth 100000 in
theorem lawExactComposeOrders (w : World) (v0 : Value) (z0 : List Int) (r0 : RdI (· < w.heap.size) w v0 z0) (v1 : Value) (z1 : List Int) (r1 : RdI (· < w.heap.size) w v1 z1) :
    Calls Try.prog 10 #[v0, v1] w fun e w' => e = .returned (.bool true) ∧ Below w.heap.size w w' := by
  have hL := cmpV_len z0 z1
  obtain ⟨ad0, cp0, rfl, cl0, cm0, _⟩ := id r0
  unfold maxLen at cm0
  obtain ⟨ad1, cp1, rfl, cl1, cm1, _⟩ := id r1
  unfold maxLen at cm1
  have bel : Below w.heap.size w w := Below.refl _ _
  by_cases x0 : 1048576 < z0.length
  · go_enter Try.func10, Try.ntmps10
    go_wp2_with fail
    go_ret
    exact ⟨rfl, Below.refl _ _⟩
  have l0 : z0.length ≤ 1048576 := by omega
  by_cases x1 : 1048576 < z1.length
  · go_enter Try.func10, Try.ntmps10
    go_wp2_with fail
    go_ret
    exact ⟨rfl, Below.refl _ _⟩
  have l1 : z1.length ≤ 1048576 := by omega
  go_enter Try.func10, Try.ntmps10
  go_wp2_with fail
  refine (toInt64S_t (B := w.heap.size) r0 (by omega) l0).mono ?_
  rintro e w1 ⟨v_1, rfl, i1, t1⟩
  have s1 := t1.size
  replace r0 := rd_turn RdI.ok r0 t1 (by omega) (by omega)
  replace r1 := rd_turn RdI.ok r1 t1 (by omega) (by omega)
  replace bel := Turn.below bel t1 (by omega) (by omega)
  go_wp2_with fail
  refine (toInt64S_t (B := w.heap.size) r1 (by omega) l1).mono ?_
  rintro e w2 ⟨v_2, rfl, i2, t2⟩
  have s2 := t2.size
  replace i1 := i1.keep OI.ok t2 (by omega)
  replace r0 := rd_turn RdI.ok r0 t2 (by omega) (by omega)
  replace r1 := rd_turn RdI.ok r1 t2 (by omega) (by omega)
  replace bel := Turn.below bel t2 (by omega) (by omega)
  go_wp2_with fail
  refine (specComposeOrders (i1.rdlt OI.leads OI.ok) (i2.rdlt OI.leads OI.ok) (Nat.le_refl _) l0 l1).mono ?_
  rintro e w3 ⟨v_3, rfl, f3⟩
  obtain ⟨i3, t3⟩ := In.of_fresh OI.ok f3; clear f3
  have s3 := t3.size
  replace i1 := i1.keep OI.ok t3 (by omega)
  replace i2 := i2.keep OI.ok t3 (by omega)
  replace r0 := rd_turn RdI.ok r0 t3 (by omega) (by omega)
  replace r1 := rd_turn RdI.ok r1 t3 (by omega) (by omega)
  replace bel := Turn.below bel t3 (by omega) (by omega)
  go_wp2_with fail
  refine (toInt64S_t (B := w.heap.size) r0 (by omega) l0).mono ?_
  rintro e w4 ⟨v_4, rfl, i4, t4⟩
  have s4 := t4.size
  replace i1 := i1.keep OI.ok t4 (by omega)
  replace i2 := i2.keep OI.ok t4 (by omega)
  replace i3 := i3.keep OI.ok t4 (by omega)
  replace r0 := rd_turn RdI.ok r0 t4 (by omega) (by omega)
  replace r1 := rd_turn RdI.ok r1 t4 (by omega) (by omega)
  replace bel := Turn.below bel t4 (by omega) (by omega)
  go_wp2_with fail
  refine (toInt64S_t (B := w.heap.size) r1 (by omega) l1).mono ?_
  rintro e w5 ⟨v_5, rfl, i5, t5⟩
  have s5 := t5.size
  replace i1 := i1.keep OI.ok t5 (by omega)
  replace i2 := i2.keep OI.ok t5 (by omega)
  replace i3 := i3.keep OI.ok t5 (by omega)
  replace i4 := i4.keep OI.ok t5 (by omega)
  replace r0 := rd_turn RdI.ok r0 t5 (by omega) (by omega)
  replace r1 := rd_turn RdI.ok r1 t5 (by omega) (by omega)
  replace bel := Turn.below bel t5 (by omega) (by omega)
  go_wp2_with fail
  refine (implComposeOrders (i4.rdlt OI.leads OI.ok) (i5.rdlt OI.leads OI.ok) (Nat.le_refl _) l0 l1).mono ?_
  rintro e w6 ⟨v_6, rfl, f6⟩
  obtain ⟨i6, t6⟩ := In.of_fresh OI.ok f6; clear f6
  have s6 := t6.size
  replace i1 := i1.keep OI.ok t6 (by omega)
  replace i2 := i2.keep OI.ok t6 (by omega)
  replace i3 := i3.keep OI.ok t6 (by omega)
  replace i4 := i4.keep OI.ok t6 (by omega)
  replace i5 := i5.keep OI.ok t6 (by omega)
  replace r0 := rd_turn RdI.ok r0 t6 (by omega) (by omega)
  replace r1 := rd_turn RdI.ok r1 t6 (by omega) (by omega)
  replace bel := Turn.below bel t6 (by omega) (by omega)
  go_wp2_with fail
  refine (eqInt64S_t i6 i3).mono ?_
  rintro e w7 ⟨rfl, t7⟩
  have s7 := t7.size
  replace i1 := i1.keep OI.ok t7 (by omega)
  replace i2 := i2.keep OI.ok t7 (by omega)
  replace i3 := i3.keep OI.ok t7 (by omega)
  replace i4 := i4.keep OI.ok t7 (by omega)
  replace i5 := i5.keep OI.ok t7 (by omega)
  replace i6 := i6.keep OI.ok t7 (by omega)
  replace r0 := rd_turn RdI.ok r0 t7 (by omega) (by omega)
  replace r1 := rd_turn RdI.ok r1 t7 (by omega) (by omega)
  replace bel := Turn.below bel t7 (by omega) (by omega)
  go_wp2_with fail
  refine (toInt64S_t (B := w.heap.size) r0 (by omega) l0).mono ?_
  rintro e w8 ⟨v_8, rfl, i8, t8⟩
  have s8 := t8.size
  replace i1 := i1.keep OI.ok t8 (by omega)
  replace i2 := i2.keep OI.ok t8 (by omega)
  replace i3 := i3.keep OI.ok t8 (by omega)
  replace i4 := i4.keep OI.ok t8 (by omega)
  replace i5 := i5.keep OI.ok t8 (by omega)
  replace i6 := i6.keep OI.ok t8 (by omega)
  replace r0 := rd_turn RdI.ok r0 t8 (by omega) (by omega)
  replace r1 := rd_turn RdI.ok r1 t8 (by omega) (by omega)
  replace bel := Turn.below bel t8 (by omega) (by omega)
  go_wp2_with fail
  refine (eqInt64S_t i4 i8).mono ?_
  rintro e w9 ⟨rfl, t9⟩
  have s9 := t9.size
  replace i1 := i1.keep OI.ok t9 (by omega)
  replace i2 := i2.keep OI.ok t9 (by omega)
  replace i3 := i3.keep OI.ok t9 (by omega)
  replace i4 := i4.keep OI.ok t9 (by omega)
  replace i5 := i5.keep OI.ok t9 (by omega)
  replace i6 := i6.keep OI.ok t9 (by omega)
  replace i8 := i8.keep OI.ok t9 (by omega)
  replace r0 := rd_turn RdI.ok r0 t9 (by omega) (by omega)
  replace r1 := rd_turn RdI.ok r1 t9 (by omega) (by omega)
  replace bel := Turn.below bel t9 (by omega) (by omega)
  go_wp2_with fail
  refine (toInt64S_t (B := w.heap.size) r1 (by omega) l1).mono ?_
  rintro e w10 ⟨v_10, rfl, i10, t10⟩
  have s10 := t10.size
  replace i1 := i1.keep OI.ok t10 (by omega)
  replace i2 := i2.keep OI.ok t10 (by omega)
  replace i3 := i3.keep OI.ok t10 (by omega)
  replace i4 := i4.keep OI.ok t10 (by omega)
  replace i5 := i5.keep OI.ok t10 (by omega)
  replace i6 := i6.keep OI.ok t10 (by omega)
  replace i8 := i8.keep OI.ok t10 (by omega)
  replace r0 := rd_turn RdI.ok r0 t10 (by omega) (by omega)
  replace r1 := rd_turn RdI.ok r1 t10 (by omega) (by omega)
  replace bel := Turn.below bel t10 (by omega) (by omega)
  go_wp2_with fail
  refine (eqInt64S_t i5 i10).mono ?_
  rintro e w11 ⟨rfl, t11⟩
  have s11 := t11.size
  replace i1 := i1.keep OI.ok t11 (by omega)
  replace i2 := i2.keep OI.ok t11 (by omega)
  replace i3 := i3.keep OI.ok t11 (by omega)
  replace i4 := i4.keep OI.ok t11 (by omega)
  replace i5 := i5.keep OI.ok t11 (by omega)
  replace i6 := i6.keep OI.ok t11 (by omega)
  replace i8 := i8.keep OI.ok t11 (by omega)
  replace i10 := i10.keep OI.ok t11 (by omega)
  replace r0 := rd_turn RdI.ok r0 t11 (by omega) (by omega)
  replace r1 := rd_turn RdI.ok r1 t11 (by omega) (by omega)
  replace bel := Turn.below bel t11 (by omega) (by omega)
  go_wp2_with fail
  refine (markInt64S_t i4 (by omega) (by omega)).mono ?_
  rintro e w12 ⟨rfl, j12, t12⟩
  have s12 := t12.size
  replace i1 := i1.keep OI.ok t12 (by omega)
  replace i2 := i2.keep OI.ok t12 (by omega)
  replace i3 := i3.keep OI.ok t12 (by omega)
  replace i5 := i5.keep OI.ok t12 (by omega)
  replace i6 := i6.keep OI.ok t12 (by omega)
  replace i8 := i8.keep OI.ok t12 (by omega)
  replace i10 := i10.keep OI.ok t12 (by omega)
  replace r0 := rd_turn RdI.ok r0 t12 (by omega) (by omega)
  replace r1 := rd_turn RdI.ok r1 t12 (by omega) (by omega)
  replace bel := Turn.below bel t12 (by omega) (by omega)
  replace i4 := j12; clear j12
  go_wp2_with fail
  refine (markInt64S_t i5 (by omega) (by omega)).mono ?_
  rintro e w13 ⟨rfl, j13, t13⟩
  have s13 := t13.size
  replace i1 := i1.keep OI.ok t13 (by omega)
  replace i2 := i2.keep OI.ok t13 (by omega)
  replace i3 := i3.keep OI.ok t13 (by omega)
  replace i4 := i4.keep OI.ok t13 (by omega)
  replace i6 := i6.keep OI.ok t13 (by omega)
  replace i8 := i8.keep OI.ok t13 (by omega)
  replace i10 := i10.keep OI.ok t13 (by omega)
  replace r0 := rd_turn RdI.ok r0 t13 (by omega) (by omega)
  replace r1 := rd_turn RdI.ok r1 t13 (by omega) (by omega)
  replace bel := Turn.below bel t13 (by omega) (by omega)
  replace i5 := j13; clear j13
  go_wp2_with fail
  refine (eqInt64S_t i6 i3).mono ?_
  rintro e w14 ⟨rfl, t14⟩
  have s14 := t14.size
  replace i1 := i1.keep OI.ok t14 (by omega)
  replace i2 := i2.keep OI.ok t14 (by omega)
  replace i3 := i3.keep OI.ok t14 (by omega)
  replace i4 := i4.keep OI.ok t14 (by omega)
  replace i5 := i5.keep OI.ok t14 (by omega)
  replace i6 := i6.keep OI.ok t14 (by omega)
  replace i8 := i8.keep OI.ok t14 (by omega)
  replace i10 := i10.keep OI.ok t14 (by omega)
  replace r0 := rd_turn RdI.ok r0 t14 (by omega) (by omega)
  replace r1 := rd_turn RdI.ok r1 t14 (by omega) (by omega)
  replace bel := Turn.below bel t14 (by omega) (by omega)
  go_wp2_with fail
  refine (markInt64S_t i6 (by omega) (by omega)).mono ?_
  rintro e w15 ⟨rfl, j15, t15⟩
  have s15 := t15.size
  replace i1 := i1.keep OI.ok t15 (by omega)
  replace i2 := i2.keep OI.ok t15 (by omega)
  replace i3 := i3.keep OI.ok t15 (by omega)
  replace i4 := i4.keep OI.ok t15 (by omega)
  replace i5 := i5.keep OI.ok t15 (by omega)
  replace i8 := i8.keep OI.ok t15 (by omega)
  replace i10 := i10.keep OI.ok t15 (by omega)
  replace r0 := rd_turn RdI.ok r0 t15 (by omega) (by omega)
  replace r1 := rd_turn RdI.ok r1 t15 (by omega) (by omega)
  replace bel := Turn.below bel t15 (by omega) (by omega)
  replace i6 := j15; clear j15
  go_wp2_with fail
  refine (heldInt64S_t i6 (by omega) (by omega)).mono ?_
  rintro e w16 ⟨rfl, t16⟩
  have s16 := t16.size
  replace i1 := i1.keep OI.ok t16 (by omega)
  replace i2 := i2.keep OI.ok t16 (by omega)
  replace i3 := i3.keep OI.ok t16 (by omega)
  replace i4 := i4.keep OI.ok t16 (by omega)
  replace i5 := i5.keep OI.ok t16 (by omega)
  replace i6 := i6.keep OI.ok t16 (by omega)
  replace i8 := i8.keep OI.ok t16 (by omega)
  replace i10 := i10.keep OI.ok t16 (by omega)
  replace r0 := rd_turn RdI.ok r0 t16 (by omega) (by omega)
  replace r1 := rd_turn RdI.ok r1 t16 (by omega) (by omega)
  replace bel := Turn.below bel t16 (by omega) (by omega)
  go_wp2_with fail
  refine (toInt64S_t (B := w.heap.size) r0 (by omega) l0).mono ?_
  rintro e w17 ⟨v_17, rfl, i17, t17⟩
  have s17 := t17.size
  replace i1 := i1.keep OI.ok t17 (by omega)
  replace i2 := i2.keep OI.ok t17 (by omega)
  replace i3 := i3.keep OI.ok t17 (by omega)
  replace i4 := i4.keep OI.ok t17 (by omega)
  replace i5 := i5.keep OI.ok t17 (by omega)
  replace i6 := i6.keep OI.ok t17 (by omega)
  replace i8 := i8.keep OI.ok t17 (by omega)
  replace i10 := i10.keep OI.ok t17 (by omega)
  replace r0 := rd_turn RdI.ok r0 t17 (by omega) (by omega)
  replace r1 := rd_turn RdI.ok r1 t17 (by omega) (by omega)
  replace bel := Turn.below bel t17 (by omega) (by omega)
  go_wp2_with fail
  refine (toInt64S_t (B := w.heap.size) r1 (by omega) l1).mono ?_
  rintro e w18 ⟨v_18, rfl, i18, t18⟩
  have s18 := t18.size
  replace i1 := i1.keep OI.ok t18 (by omega)
  replace i2 := i2.keep OI.ok t18 (by omega)
  replace i3 := i3.keep OI.ok t18 (by omega)
  replace i4 := i4.keep OI.ok t18 (by omega)
  replace i5 := i5.keep OI.ok t18 (by omega)
  replace i6 := i6.keep OI.ok t18 (by omega)
  replace i8 := i8.keep OI.ok t18 (by omega)
  replace i10 := i10.keep OI.ok t18 (by omega)
  replace i17 := i17.keep OI.ok t18 (by omega)
  replace r0 := rd_turn RdI.ok r0 t18 (by omega) (by omega)
  replace r1 := rd_turn RdI.ok r1 t18 (by omega) (by omega)
  replace bel := Turn.below bel t18 (by omega) (by omega)
  go_wp2_with fail
  refine (implComposeOrders (i17.rdlt OI.leads OI.ok) (i18.rdlt OI.leads OI.ok) (Nat.le_refl _) l0 l1).mono ?_
  rintro e w19 ⟨v_19, rfl, f19⟩
  obtain ⟨i19, t19⟩ := In.of_fresh OI.ok f19; clear f19
  have s19 := t19.size
  replace i1 := i1.keep OI.ok t19 (by omega)
  replace i2 := i2.keep OI.ok t19 (by omega)
  replace i3 := i3.keep OI.ok t19 (by omega)
  replace i4 := i4.keep OI.ok t19 (by omega)
  replace i5 := i5.keep OI.ok t19 (by omega)
  replace i6 := i6.keep OI.ok t19 (by omega)
  replace i8 := i8.keep OI.ok t19 (by omega)
  replace i10 := i10.keep OI.ok t19 (by omega)
  replace i17 := i17.keep OI.ok t19 (by omega)
  replace i18 := i18.keep OI.ok t19 (by omega)
  replace r0 := rd_turn RdI.ok r0 t19 (by omega) (by omega)
  replace r1 := rd_turn RdI.ok r1 t19 (by omega) (by omega)
  replace bel := Turn.below bel t19 (by omega) (by omega)
  go_wp2_with fail
  refine (eqInt64S_t i19 i3).mono ?_
  rintro e w20 ⟨rfl, t20⟩
  have s20 := t20.size
  replace i1 := i1.keep OI.ok t20 (by omega)
  replace i2 := i2.keep OI.ok t20 (by omega)
  replace i3 := i3.keep OI.ok t20 (by omega)
  replace i4 := i4.keep OI.ok t20 (by omega)
  replace i5 := i5.keep OI.ok t20 (by omega)
  replace i6 := i6.keep OI.ok t20 (by omega)
  replace i8 := i8.keep OI.ok t20 (by omega)
  replace i10 := i10.keep OI.ok t20 (by omega)
  replace i17 := i17.keep OI.ok t20 (by omega)
  replace i18 := i18.keep OI.ok t20 (by omega)
  replace i19 := i19.keep OI.ok t20 (by omega)
  replace r0 := rd_turn RdI.ok r0 t20 (by omega) (by omega)
  replace r1 := rd_turn RdI.ok r1 t20 (by omega) (by omega)
  replace bel := Turn.below bel t20 (by omega) (by omega)
  go_wp2_with fail
  refine (heldInt64S_t i6 (by omega) (by omega)).mono ?_
  rintro e w21 ⟨rfl, t21⟩
  have s21 := t21.size
  replace i1 := i1.keep OI.ok t21 (by omega)
  replace i2 := i2.keep OI.ok t21 (by omega)
  replace i3 := i3.keep OI.ok t21 (by omega)
  replace i4 := i4.keep OI.ok t21 (by omega)
  replace i5 := i5.keep OI.ok t21 (by omega)
  replace i6 := i6.keep OI.ok t21 (by omega)
  replace i8 := i8.keep OI.ok t21 (by omega)
  replace i10 := i10.keep OI.ok t21 (by omega)
  replace i17 := i17.keep OI.ok t21 (by omega)
  replace i18 := i18.keep OI.ok t21 (by omega)
  replace i19 := i19.keep OI.ok t21 (by omega)
  replace r0 := rd_turn RdI.ok r0 t21 (by omega) (by omega)
  replace r1 := rd_turn RdI.ok r1 t21 (by omega) (by omega)
  replace bel := Turn.below bel t21 (by omega) (by omega)
  go_wp2_with fail
  go_ret
  exact ⟨rfl, bel⟩

set_option maxHeartbeats 1600000 in
set_option maxRecDepth 100000 in
theorem lawExactInverseOrder (w : World) (v0 : Value) (z0 : List Int) (r0 : RdI (· < w.heap.size) w v0 z0) :
    Calls Try.prog 9 #[v0] w fun e w' => e = .returned (.bool true) ∧ Below w.heap.size w w' := by
  have hL := invV'_len z0
  obtain ⟨ad0, cp0, rfl, cl0, cm0, _⟩ := id r0
  unfold maxLen at cm0
  have bel : Below w.heap.size w w := Below.refl _ _
  by_cases x0 : 1048576 < z0.length
  · go_enter Try.func9, Try.ntmps9
    go_wp2_with fail
    go_ret
    exact ⟨rfl, Below.refl _ _⟩
  have l0 : z0.length ≤ 1048576 := by omega
  go_enter Try.func9, Try.ntmps9
  go_wp2_with fail
  refine (toInt64S_t (B := w.heap.size) r0 (by omega) l0).mono ?_
  rintro e w1 ⟨v_1, rfl, i1, t1⟩
  have s1 := t1.size
  replace r0 := rd_turn RdI.ok r0 t1 (by omega) (by omega)
  replace bel := Turn.below bel t1 (by omega) (by omega)
  go_wp2_with fail
  refine (specInverseOrder (i1.rdlt OI.leads OI.ok) (Nat.le_refl _) l0).mono ?_
  rintro e w2 ⟨v_2, rfl, f2⟩
  obtain ⟨i2, t2⟩ := In.of_fresh OI.ok f2; clear f2
  have s2 := t2.size
  replace i1 := i1.keep OI.ok t2 (by omega)
  replace r0 := rd_turn RdI.ok r0 t2 (by omega) (by omega)
  replace bel := Turn.below bel t2 (by omega) (by omega)
  go_wp2_with fail
  refine (toInt64S_t (B := w.heap.size) r0 (by omega) l0).mono ?_
  rintro e w3 ⟨v_3, rfl, i3, t3⟩
  have s3 := t3.size
  replace i1 := i1.keep OI.ok t3 (by omega)
  replace i2 := i2.keep OI.ok t3 (by omega)
  replace r0 := rd_turn RdI.ok r0 t3 (by omega) (by omega)
  replace bel := Turn.below bel t3 (by omega) (by omega)
  go_wp2_with fail
  refine (implInverseOrder (i3.rdlt OI.leads OI.ok) (Nat.le_refl _) l0).mono ?_
  rintro e w4 ⟨v_4, rfl, f4⟩
  obtain ⟨i4, t4⟩ := In.of_fresh OI.ok f4; clear f4
  have s4 := t4.size
  replace i1 := i1.keep OI.ok t4 (by omega)
  replace i2 := i2.keep OI.ok t4 (by omega)
  replace i3 := i3.keep OI.ok t4 (by omega)
  replace r0 := rd_turn RdI.ok r0 t4 (by omega) (by omega)
  replace bel := Turn.below bel t4 (by omega) (by omega)
  go_wp2_with fail
  refine (eqInt64S_t i4 i2).mono ?_
  rintro e w5 ⟨rfl, t5⟩
  have s5 := t5.size
  replace i1 := i1.keep OI.ok t5 (by omega)
  replace i2 := i2.keep OI.ok t5 (by omega)
  replace i3 := i3.keep OI.ok t5 (by omega)
  replace i4 := i4.keep OI.ok t5 (by omega)
  replace r0 := rd_turn RdI.ok r0 t5 (by omega) (by omega)
  replace bel := Turn.below bel t5 (by omega) (by omega)
  go_wp2_with fail
  refine (toInt64S_t (B := w.heap.size) r0 (by omega) l0).mono ?_
  rintro e w6 ⟨v_6, rfl, i6, t6⟩
  have s6 := t6.size
  replace i1 := i1.keep OI.ok t6 (by omega)
  replace i2 := i2.keep OI.ok t6 (by omega)
  replace i3 := i3.keep OI.ok t6 (by omega)
  replace i4 := i4.keep OI.ok t6 (by omega)
  replace r0 := rd_turn RdI.ok r0 t6 (by omega) (by omega)
  replace bel := Turn.below bel t6 (by omega) (by omega)
  go_wp2_with fail
  refine (eqInt64S_t i3 i6).mono ?_
  rintro e w7 ⟨rfl, t7⟩
  have s7 := t7.size
  replace i1 := i1.keep OI.ok t7 (by omega)
  replace i2 := i2.keep OI.ok t7 (by omega)
  replace i3 := i3.keep OI.ok t7 (by omega)
  replace i4 := i4.keep OI.ok t7 (by omega)
  replace i6 := i6.keep OI.ok t7 (by omega)
  replace r0 := rd_turn RdI.ok r0 t7 (by omega) (by omega)
  replace bel := Turn.below bel t7 (by omega) (by omega)
  go_wp2_with fail
  refine (markInt64S_t i3 (by omega) (by omega)).mono ?_
  rintro e w8 ⟨rfl, j8, t8⟩
  have s8 := t8.size
  replace i1 := i1.keep OI.ok t8 (by omega)
  replace i2 := i2.keep OI.ok t8 (by omega)
  replace i4 := i4.keep OI.ok t8 (by omega)
  replace i6 := i6.keep OI.ok t8 (by omega)
  replace r0 := rd_turn RdI.ok r0 t8 (by omega) (by omega)
  replace bel := Turn.below bel t8 (by omega) (by omega)
  replace i3 := j8; clear j8
  go_wp2_with fail
  refine (eqInt64S_t i4 i2).mono ?_
  rintro e w9 ⟨rfl, t9⟩
  have s9 := t9.size
  replace i1 := i1.keep OI.ok t9 (by omega)
  replace i2 := i2.keep OI.ok t9 (by omega)
  replace i3 := i3.keep OI.ok t9 (by omega)
  replace i4 := i4.keep OI.ok t9 (by omega)
  replace i6 := i6.keep OI.ok t9 (by omega)
  replace r0 := rd_turn RdI.ok r0 t9 (by omega) (by omega)
  replace bel := Turn.below bel t9 (by omega) (by omega)
  go_wp2_with fail
  refine (markInt64S_t i4 (by omega) (by omega)).mono ?_
  rintro e w10 ⟨rfl, j10, t10⟩
  have s10 := t10.size
  replace i1 := i1.keep OI.ok t10 (by omega)
  replace i2 := i2.keep OI.ok t10 (by omega)
  replace i3 := i3.keep OI.ok t10 (by omega)
  replace i6 := i6.keep OI.ok t10 (by omega)
  replace r0 := rd_turn RdI.ok r0 t10 (by omega) (by omega)
  replace bel := Turn.below bel t10 (by omega) (by omega)
  replace i4 := j10; clear j10
  go_wp2_with fail
  refine (heldInt64S_t i4 (by omega) (by omega)).mono ?_
  rintro e w11 ⟨rfl, t11⟩
  have s11 := t11.size
  replace i1 := i1.keep OI.ok t11 (by omega)
  replace i2 := i2.keep OI.ok t11 (by omega)
  replace i3 := i3.keep OI.ok t11 (by omega)
  replace i4 := i4.keep OI.ok t11 (by omega)
  replace i6 := i6.keep OI.ok t11 (by omega)
  replace r0 := rd_turn RdI.ok r0 t11 (by omega) (by omega)
  replace bel := Turn.below bel t11 (by omega) (by omega)
  go_wp2_with fail
  refine (toInt64S_t (B := w.heap.size) r0 (by omega) l0).mono ?_
  rintro e w12 ⟨v_12, rfl, i12, t12⟩
  have s12 := t12.size
  replace i1 := i1.keep OI.ok t12 (by omega)
  replace i2 := i2.keep OI.ok t12 (by omega)
  replace i3 := i3.keep OI.ok t12 (by omega)
  replace i4 := i4.keep OI.ok t12 (by omega)
  replace i6 := i6.keep OI.ok t12 (by omega)
  replace r0 := rd_turn RdI.ok r0 t12 (by omega) (by omega)
  replace bel := Turn.below bel t12 (by omega) (by omega)
  go_wp2_with fail
  refine (implInverseOrder (i12.rdlt OI.leads OI.ok) (Nat.le_refl _) l0).mono ?_
  rintro e w13 ⟨v_13, rfl, f13⟩
  obtain ⟨i13, t13⟩ := In.of_fresh OI.ok f13; clear f13
  have s13 := t13.size
  replace i1 := i1.keep OI.ok t13 (by omega)
  replace i2 := i2.keep OI.ok t13 (by omega)
  replace i3 := i3.keep OI.ok t13 (by omega)
  replace i4 := i4.keep OI.ok t13 (by omega)
  replace i6 := i6.keep OI.ok t13 (by omega)
  replace i12 := i12.keep OI.ok t13 (by omega)
  replace r0 := rd_turn RdI.ok r0 t13 (by omega) (by omega)
  replace bel := Turn.below bel t13 (by omega) (by omega)
  go_wp2_with fail
  refine (eqInt64S_t i13 i2).mono ?_
  rintro e w14 ⟨rfl, t14⟩
  have s14 := t14.size
  replace i1 := i1.keep OI.ok t14 (by omega)
  replace i2 := i2.keep OI.ok t14 (by omega)
  replace i3 := i3.keep OI.ok t14 (by omega)
  replace i4 := i4.keep OI.ok t14 (by omega)
  replace i6 := i6.keep OI.ok t14 (by omega)
  replace i12 := i12.keep OI.ok t14 (by omega)
  replace i13 := i13.keep OI.ok t14 (by omega)
  replace r0 := rd_turn RdI.ok r0 t14 (by omega) (by omega)
  replace bel := Turn.below bel t14 (by omega) (by omega)
  go_wp2_with fail
  refine (heldInt64S_t i4 (by omega) (by omega)).mono ?_
  rintro e w15 ⟨rfl, t15⟩
  have s15 := t15.size
  replace i1 := i1.keep OI.ok t15 (by omega)
  replace i2 := i2.keep OI.ok t15 (by omega)
  replace i3 := i3.keep OI.ok t15 (by omega)
  replace i4 := i4.keep OI.ok t15 (by omega)
  replace i6 := i6.keep OI.ok t15 (by omega)
  replace i12 := i12.keep OI.ok t15 (by omega)
  replace i13 := i13.keep OI.ok t15 (by omega)
  replace r0 := rd_turn RdI.ok r0 t15 (by omega) (by omega)
  replace bel := Turn.below bel t15 (by omega) (by omega)
  go_wp2_with fail
  go_ret
  exact ⟨rfl, bel⟩

set_option maxHeartbeats 1600000 in
set_option maxRecDepth 100000 in
theorem lawExactCyclesOf (w : World) (v0 : Value) (z0 : List Int) (r0 : RdI (· < w.heap.size) w v0 z0) :
    Calls Try.prog 12 #[v0] w fun e w' => e = .returned (.bool true) ∧ Below w.heap.size w w' := by
  have hL := cycV_cnt z0
  obtain ⟨ad0, cp0, rfl, cl0, cm0, _⟩ := id r0
  unfold maxLen at cm0
  have bel : Below w.heap.size w w := Below.refl _ _
  by_cases x0 : 1048576 < z0.length
  · go_enter Try.func12, Try.ntmps12
    go_wp2_with fail
    go_ret
    exact ⟨rfl, Below.refl _ _⟩
  have l0 : z0.length ≤ 1048576 := by omega
  go_enter Try.func12, Try.ntmps12
  go_wp2_with fail
  refine (toInt64S_t (B := w.heap.size) r0 (by omega) l0).mono ?_
  rintro e w1 ⟨v_1, rfl, i1, t1⟩
  have s1 := t1.size
  replace r0 := rd_turn RdI.ok r0 t1 (by omega) (by omega)
  replace bel := Turn.below bel t1 (by omega) (by omega)
  go_wp2_with fail
  refine (specCyclesOf (i1.rdlt OI.leads OI.ok) (Nat.le_refl _) l0).mono ?_
  rintro e w2 ⟨v_2, rfl, f2⟩
  obtain ⟨i2, t2⟩ := In.of_fresh OII.ok f2; clear f2
  have s2 := t2.size
  replace i1 := i1.keep OI.ok t2 (by omega)
  replace r0 := rd_turn RdI.ok r0 t2 (by omega) (by omega)
  replace bel := Turn.below bel t2 (by omega) (by omega)
  go_wp2_with fail
  refine (toInt64S_t (B := w.heap.size) r0 (by omega) l0).mono ?_
  rintro e w3 ⟨v_3, rfl, i3, t3⟩
  have s3 := t3.size
  replace i1 := i1.keep OI.ok t3 (by omega)
  replace i2 := i2.keep OII.ok t3 (by omega)
  replace r0 := rd_turn RdI.ok r0 t3 (by omega) (by omega)
  replace bel := Turn.below bel t3 (by omega) (by omega)
  go_wp2_with fail
  refine (implCyclesOf (i3.rdlt OI.leads OI.ok) (Nat.le_refl _) l0).mono ?_
  rintro e w4 ⟨v_4, rfl, f4⟩
  obtain ⟨i4, t4⟩ := In.of_fresh OII.ok f4; clear f4
  have s4 := t4.size
  replace i1 := i1.keep OI.ok t4 (by omega)
  replace i2 := i2.keep OII.ok t4 (by omega)
  replace i3 := i3.keep OI.ok t4 (by omega)
  replace r0 := rd_turn RdI.ok r0 t4 (by omega) (by omega)
  replace bel := Turn.below bel t4 (by omega) (by omega)
  go_wp2_with fail
  refine (eqInt64SS_t i4 i2).mono ?_
  rintro e w5 ⟨rfl, t5⟩
  have s5 := t5.size
  replace i1 := i1.keep OI.ok t5 (by omega)
  replace i2 := i2.keep OII.ok t5 (by omega)
  replace i3 := i3.keep OI.ok t5 (by omega)
  replace i4 := i4.keep OII.ok t5 (by omega)
  replace r0 := rd_turn RdI.ok r0 t5 (by omega) (by omega)
  replace bel := Turn.below bel t5 (by omega) (by omega)
  go_wp2_with fail
  refine (toInt64S_t (B := w.heap.size) r0 (by omega) l0).mono ?_
  rintro e w6 ⟨v_6, rfl, i6, t6⟩
  have s6 := t6.size
  replace i1 := i1.keep OI.ok t6 (by omega)
  replace i2 := i2.keep OII.ok t6 (by omega)
  replace i3 := i3.keep OI.ok t6 (by omega)
  replace i4 := i4.keep OII.ok t6 (by omega)
  replace r0 := rd_turn RdI.ok r0 t6 (by omega) (by omega)
  replace bel := Turn.below bel t6 (by omega) (by omega)
  go_wp2_with fail
  refine (eqInt64S_t i3 i6).mono ?_
  rintro e w7 ⟨rfl, t7⟩
  have s7 := t7.size
  replace i1 := i1.keep OI.ok t7 (by omega)
  replace i2 := i2.keep OII.ok t7 (by omega)
  replace i3 := i3.keep OI.ok t7 (by omega)
  replace i4 := i4.keep OII.ok t7 (by omega)
  replace i6 := i6.keep OI.ok t7 (by omega)
  replace r0 := rd_turn RdI.ok r0 t7 (by omega) (by omega)
  replace bel := Turn.below bel t7 (by omega) (by omega)
  go_wp2_with fail
  refine (markInt64S_t i3 (by omega) (by omega)).mono ?_
  rintro e w8 ⟨rfl, j8, t8⟩
  have s8 := t8.size
  replace i1 := i1.keep OI.ok t8 (by omega)
  replace i2 := i2.keep OII.ok t8 (by omega)
  replace i4 := i4.keep OII.ok t8 (by omega)
  replace i6 := i6.keep OI.ok t8 (by omega)
  replace r0 := rd_turn RdI.ok r0 t8 (by omega) (by omega)
  replace bel := Turn.below bel t8 (by omega) (by omega)
  replace i3 := j8; clear j8
  go_wp2_with fail
  refine (eqInt64SS_t i4 i2).mono ?_
  rintro e w9 ⟨rfl, t9⟩
  have s9 := t9.size
  replace i1 := i1.keep OI.ok t9 (by omega)
  replace i2 := i2.keep OII.ok t9 (by omega)
  replace i3 := i3.keep OI.ok t9 (by omega)
  replace i4 := i4.keep OII.ok t9 (by omega)
  replace i6 := i6.keep OI.ok t9 (by omega)
  replace r0 := rd_turn RdI.ok r0 t9 (by omega) (by omega)
  replace bel := Turn.below bel t9 (by omega) (by omega)
  go_wp2_with fail
  refine (markInt64SS_t i4 (by omega) (by omega)).mono ?_
  rintro e w10 ⟨rfl, j10, t10⟩
  have s10 := t10.size
  replace i1 := i1.keep OI.ok t10 (by omega)
  replace i2 := i2.keep OII.ok t10 (by omega)
  replace i3 := i3.keep OI.ok t10 (by omega)
  replace i6 := i6.keep OI.ok t10 (by omega)
  replace r0 := rd_turn RdI.ok r0 t10 (by omega) (by omega)
  replace bel := Turn.below bel t10 (by omega) (by omega)
  replace i4 := j10; clear j10
  go_wp2_with fail
  refine (heldInt64SS_t i4 (by omega) (by omega)).mono ?_
  rintro e w11 ⟨rfl, t11⟩
  have s11 := t11.size
  replace i1 := i1.keep OI.ok t11 (by omega)
  replace i2 := i2.keep OII.ok t11 (by omega)
  replace i3 := i3.keep OI.ok t11 (by omega)
  replace i4 := i4.keep OII.ok t11 (by omega)
  replace i6 := i6.keep OI.ok t11 (by omega)
  replace r0 := rd_turn RdI.ok r0 t11 (by omega) (by omega)
  replace bel := Turn.below bel t11 (by omega) (by omega)
  go_wp2_with fail
  refine (toInt64S_t (B := w.heap.size) r0 (by omega) l0).mono ?_
  rintro e w12 ⟨v_12, rfl, i12, t12⟩
  have s12 := t12.size
  replace i1 := i1.keep OI.ok t12 (by omega)
  replace i2 := i2.keep OII.ok t12 (by omega)
  replace i3 := i3.keep OI.ok t12 (by omega)
  replace i4 := i4.keep OII.ok t12 (by omega)
  replace i6 := i6.keep OI.ok t12 (by omega)
  replace r0 := rd_turn RdI.ok r0 t12 (by omega) (by omega)
  replace bel := Turn.below bel t12 (by omega) (by omega)
  go_wp2_with fail
  refine (implCyclesOf (i12.rdlt OI.leads OI.ok) (Nat.le_refl _) l0).mono ?_
  rintro e w13 ⟨v_13, rfl, f13⟩
  obtain ⟨i13, t13⟩ := In.of_fresh OII.ok f13; clear f13
  have s13 := t13.size
  replace i1 := i1.keep OI.ok t13 (by omega)
  replace i2 := i2.keep OII.ok t13 (by omega)
  replace i3 := i3.keep OI.ok t13 (by omega)
  replace i4 := i4.keep OII.ok t13 (by omega)
  replace i6 := i6.keep OI.ok t13 (by omega)
  replace i12 := i12.keep OI.ok t13 (by omega)
  replace r0 := rd_turn RdI.ok r0 t13 (by omega) (by omega)
  replace bel := Turn.below bel t13 (by omega) (by omega)
  go_wp2_with fail
  refine (eqInt64SS_t i13 i2).mono ?_
  rintro e w14 ⟨rfl, t14⟩
  have s14 := t14.size
  replace i1 := i1.keep OI.ok t14 (by omega)
  replace i2 := i2.keep OII.ok t14 (by omega)
  replace i3 := i3.keep OI.ok t14 (by omega)
  replace i4 := i4.keep OII.ok t14 (by omega)
  replace i6 := i6.keep OI.ok t14 (by omega)
  replace i12 := i12.keep OI.ok t14 (by omega)
  replace i13 := i13.keep OII.ok t14 (by omega)
  replace r0 := rd_turn RdI.ok r0 t14 (by omega) (by omega)
  replace bel := Turn.below bel t14 (by omega) (by omega)
  go_wp2_with fail
  refine (heldInt64SS_t i4 (by omega) (by omega)).mono ?_
  rintro e w15 ⟨rfl, t15⟩
  have s15 := t15.size
  replace i1 := i1.keep OI.ok t15 (by omega)
  replace i2 := i2.keep OII.ok t15 (by omega)
  replace i3 := i3.keep OI.ok t15 (by omega)
  replace i4 := i4.keep OII.ok t15 (by omega)
  replace i6 := i6.keep OI.ok t15 (by omega)
  replace i12 := i12.keep OI.ok t15 (by omega)
  replace i13 := i13.keep OII.ok t15 (by omega)
  replace r0 := rd_turn RdI.ok r0 t15 (by omega) (by omega)
  replace bel := Turn.below bel t15 (by omega) (by omega)
  go_wp2_with fail
  go_ret
  exact ⟨rfl, bel⟩

set_option maxHeartbeats 1600000 in
set_option maxRecDepth 100000 in
theorem lawExactPowerOrder (w : World) (v0 : Value) (z0 : List Int) (r0 : RdI (· < w.heap.size) w v0 z0) (a1 : Int) :
    Calls Try.prog 14 #[v0, .int .i64 a1] w fun e w' => e = .returned (.bool true) ∧ Below w.heap.size w w' := by
  have hL := powV_len z0 a1
  obtain ⟨ad0, cp0, rfl, cl0, cm0, _⟩ := id r0
  unfold maxLen at cm0
  have bel : Below w.heap.size w w := Below.refl _ _
  by_cases x0 : 1048576 < z0.length
  · go_enter Try.func14, Try.ntmps14
    go_wp2_with fail
    go_ret
    exact ⟨rfl, Below.refl _ _⟩
  have l0 : z0.length ≤ 1048576 := by omega
  go_enter Try.func14, Try.ntmps14
  go_wp2_with fail
  refine (toInt64S_t (B := w.heap.size) r0 (by omega) l0).mono ?_
  rintro e w1 ⟨v_1, rfl, i1, t1⟩
  have s1 := t1.size
  replace r0 := rd_turn RdI.ok r0 t1 (by omega) (by omega)
  replace bel := Turn.below bel t1 (by omega) (by omega)
  go_wp2_with fail
  refine (specPowerOrder (i1.rdlt OI.leads OI.ok) (Nat.le_refl _) a1 l0).mono ?_
  rintro e w2 ⟨v_2, rfl, f2⟩
  obtain ⟨i2, t2⟩ := In.of_fresh OI.ok f2; clear f2
  have s2 := t2.size
  replace i1 := i1.keep OI.ok t2 (by omega)
  replace r0 := rd_turn RdI.ok r0 t2 (by omega) (by omega)
  replace bel := Turn.below bel t2 (by omega) (by omega)
  go_wp2_with fail
  refine (toInt64S_t (B := w.heap.size) r0 (by omega) l0).mono ?_
  rintro e w3 ⟨v_3, rfl, i3, t3⟩
  have s3 := t3.size
  replace i1 := i1.keep OI.ok t3 (by omega)
  replace i2 := i2.keep OI.ok t3 (by omega)
  replace r0 := rd_turn RdI.ok r0 t3 (by omega) (by omega)
  replace bel := Turn.below bel t3 (by omega) (by omega)
  go_wp2_with fail
  refine (implPowerOrder (i3.rdlt OI.leads OI.ok) (Nat.le_refl _) a1 l0).mono ?_
  rintro e w4 ⟨v_4, rfl, f4⟩
  obtain ⟨i4, t4⟩ := In.of_fresh OI.ok f4; clear f4
  have s4 := t4.size
  replace i1 := i1.keep OI.ok t4 (by omega)
  replace i2 := i2.keep OI.ok t4 (by omega)
  replace i3 := i3.keep OI.ok t4 (by omega)
  replace r0 := rd_turn RdI.ok r0 t4 (by omega) (by omega)
  replace bel := Turn.below bel t4 (by omega) (by omega)
  go_wp2_with fail
  refine (eqInt64S_t i4 i2).mono ?_
  rintro e w5 ⟨rfl, t5⟩
  have s5 := t5.size
  replace i1 := i1.keep OI.ok t5 (by omega)
  replace i2 := i2.keep OI.ok t5 (by omega)
  replace i3 := i3.keep OI.ok t5 (by omega)
  replace i4 := i4.keep OI.ok t5 (by omega)
  replace r0 := rd_turn RdI.ok r0 t5 (by omega) (by omega)
  replace bel := Turn.below bel t5 (by omega) (by omega)
  go_wp2_with fail
  refine (toInt64S_t (B := w.heap.size) r0 (by omega) l0).mono ?_
  rintro e w6 ⟨v_6, rfl, i6, t6⟩
  have s6 := t6.size
  replace i1 := i1.keep OI.ok t6 (by omega)
  replace i2 := i2.keep OI.ok t6 (by omega)
  replace i3 := i3.keep OI.ok t6 (by omega)
  replace i4 := i4.keep OI.ok t6 (by omega)
  replace r0 := rd_turn RdI.ok r0 t6 (by omega) (by omega)
  replace bel := Turn.below bel t6 (by omega) (by omega)
  go_wp2_with fail
  refine (eqInt64S_t i3 i6).mono ?_
  rintro e w7 ⟨rfl, t7⟩
  have s7 := t7.size
  replace i1 := i1.keep OI.ok t7 (by omega)
  replace i2 := i2.keep OI.ok t7 (by omega)
  replace i3 := i3.keep OI.ok t7 (by omega)
  replace i4 := i4.keep OI.ok t7 (by omega)
  replace i6 := i6.keep OI.ok t7 (by omega)
  replace r0 := rd_turn RdI.ok r0 t7 (by omega) (by omega)
  replace bel := Turn.below bel t7 (by omega) (by omega)
  go_wp2_with fail
  refine (markInt64S_t i3 (by omega) (by omega)).mono ?_
  rintro e w8 ⟨rfl, j8, t8⟩
  have s8 := t8.size
  replace i1 := i1.keep OI.ok t8 (by omega)
  replace i2 := i2.keep OI.ok t8 (by omega)
  replace i4 := i4.keep OI.ok t8 (by omega)
  replace i6 := i6.keep OI.ok t8 (by omega)
  replace r0 := rd_turn RdI.ok r0 t8 (by omega) (by omega)
  replace bel := Turn.below bel t8 (by omega) (by omega)
  replace i3 := j8; clear j8
  go_wp2_with fail
  refine (eqInt64S_t i4 i2).mono ?_
  rintro e w9 ⟨rfl, t9⟩
  have s9 := t9.size
  replace i1 := i1.keep OI.ok t9 (by omega)
  replace i2 := i2.keep OI.ok t9 (by omega)
  replace i3 := i3.keep OI.ok t9 (by omega)
  replace i4 := i4.keep OI.ok t9 (by omega)
  replace i6 := i6.keep OI.ok t9 (by omega)
  replace r0 := rd_turn RdI.ok r0 t9 (by omega) (by omega)
  replace bel := Turn.below bel t9 (by omega) (by omega)
  go_wp2_with fail
  refine (markInt64S_t i4 (by omega) (by omega)).mono ?_
  rintro e w10 ⟨rfl, j10, t10⟩
  have s10 := t10.size
  replace i1 := i1.keep OI.ok t10 (by omega)
  replace i2 := i2.keep OI.ok t10 (by omega)
  replace i3 := i3.keep OI.ok t10 (by omega)
  replace i6 := i6.keep OI.ok t10 (by omega)
  replace r0 := rd_turn RdI.ok r0 t10 (by omega) (by omega)
  replace bel := Turn.below bel t10 (by omega) (by omega)
  replace i4 := j10; clear j10
  go_wp2_with fail
  refine (heldInt64S_t i4 (by omega) (by omega)).mono ?_
  rintro e w11 ⟨rfl, t11⟩
  have s11 := t11.size
  replace i1 := i1.keep OI.ok t11 (by omega)
  replace i2 := i2.keep OI.ok t11 (by omega)
  replace i3 := i3.keep OI.ok t11 (by omega)
  replace i4 := i4.keep OI.ok t11 (by omega)
  replace i6 := i6.keep OI.ok t11 (by omega)
  replace r0 := rd_turn RdI.ok r0 t11 (by omega) (by omega)
  replace bel := Turn.below bel t11 (by omega) (by omega)
  go_wp2_with fail
  refine (toInt64S_t (B := w.heap.size) r0 (by omega) l0).mono ?_
  rintro e w12 ⟨v_12, rfl, i12, t12⟩
  have s12 := t12.size
  replace i1 := i1.keep OI.ok t12 (by omega)
  replace i2 := i2.keep OI.ok t12 (by omega)
  replace i3 := i3.keep OI.ok t12 (by omega)
  replace i4 := i4.keep OI.ok t12 (by omega)
  replace i6 := i6.keep OI.ok t12 (by omega)
  replace r0 := rd_turn RdI.ok r0 t12 (by omega) (by omega)
  replace bel := Turn.below bel t12 (by omega) (by omega)
  go_wp2_with fail
  refine (implPowerOrder (i12.rdlt OI.leads OI.ok) (Nat.le_refl _) a1 l0).mono ?_
  rintro e w13 ⟨v_13, rfl, f13⟩
  obtain ⟨i13, t13⟩ := In.of_fresh OI.ok f13; clear f13
  have s13 := t13.size
  replace i1 := i1.keep OI.ok t13 (by omega)
  replace i2 := i2.keep OI.ok t13 (by omega)
  replace i3 := i3.keep OI.ok t13 (by omega)
  replace i4 := i4.keep OI.ok t13 (by omega)
  replace i6 := i6.keep OI.ok t13 (by omega)
  replace i12 := i12.keep OI.ok t13 (by omega)
  replace r0 := rd_turn RdI.ok r0 t13 (by omega) (by omega)
  replace bel := Turn.below bel t13 (by omega) (by omega)
  go_wp2_with fail
  refine (eqInt64S_t i13 i2).mono ?_
  rintro e w14 ⟨rfl, t14⟩
  have s14 := t14.size
  replace i1 := i1.keep OI.ok t14 (by omega)
  replace i2 := i2.keep OI.ok t14 (by omega)
  replace i3 := i3.keep OI.ok t14 (by omega)
  replace i4 := i4.keep OI.ok t14 (by omega)
  replace i6 := i6.keep OI.ok t14 (by omega)
  replace i12 := i12.keep OI.ok t14 (by omega)
  replace i13 := i13.keep OI.ok t14 (by omega)
  replace r0 := rd_turn RdI.ok r0 t14 (by omega) (by omega)
  replace bel := Turn.below bel t14 (by omega) (by omega)
  go_wp2_with fail
  refine (heldInt64S_t i4 (by omega) (by omega)).mono ?_
  rintro e w15 ⟨rfl, t15⟩
  have s15 := t15.size
  replace i1 := i1.keep OI.ok t15 (by omega)
  replace i2 := i2.keep OI.ok t15 (by omega)
  replace i3 := i3.keep OI.ok t15 (by omega)
  replace i4 := i4.keep OI.ok t15 (by omega)
  replace i6 := i6.keep OI.ok t15 (by omega)
  replace i12 := i12.keep OI.ok t15 (by omega)
  replace i13 := i13.keep OI.ok t15 (by omega)
  replace r0 := rd_turn RdI.ok r0 t15 (by omega) (by omega)
  replace bel := Turn.below bel t15 (by omega) (by omega)
  go_wp2_with fail
  go_ret
  exact ⟨rfl, bel⟩

end Go.Proofs.Ytmgfbmpiaanhkaa
