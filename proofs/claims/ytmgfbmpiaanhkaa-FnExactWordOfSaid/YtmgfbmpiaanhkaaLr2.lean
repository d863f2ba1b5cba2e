/- The walks of the laws of this seat: each returns true. Printed by gen_law.py. -/
import Derived.Test.YtmgfbmpiaanhkaaT
import Derived.Test.YtmgfbmpiaanhkaaW4
namespace Go.Proofs.Ytmgfbmpiaanhkaa
open Go.RowKit
set_option linter.unusedVariables false

theorem digitsOf_len (s : ByteArray) (base : Int) : (digitsOf s base).length ≤ 20 := by
  unfold digitsOf
  split
  · rename_i h
    rw [digitsL_length]; exact (isWord_true h).2.1
  · simp

set_option maxHeartbeats 1600000 in
set_option maxRecDepth 100000 in
theorem lawExactIsWordOf (a0 : ByteArray) (m0 : a0.size ≤ maxLen) (a1 : Int) (w : World) :
    Calls Try.prog 3 #[.string a0, .int .i64 a1] w fun e w' => e = .returned (.bool true) ∧ Below w.heap.size w w' := by
  have n0 := m0; unfold maxLen at n0
  have bel : Below w.heap.size w w := Below.refl _ _
  by_cases x0 : 1048576 < a0.size
  · go_enter Try.func3, Try.ntmps3
    go_wp2_with fail
    go_ret
    exact ⟨rfl, Below.refl _ _⟩
  have l0 : a0.size ≤ 1048576 := by omega
  go_enter Try.func3, Try.ntmps3
  go_wp2_with fail
  refine (specIsWordOf a0 a1 l0 _).mono ?_
  rintro e w1 ⟨rfl, b1⟩
  have t1 := Turn.of_below b1; clear b1
  have s1 := t1.size
  replace bel := Turn.below bel t1 (by omega) (by omega)
  go_wp2_with fail
  refine (implIsWordOf a0 a1 _ l0).mono ?_
  rintro e w2 ⟨rfl, b2⟩
  have t2 := Turn.of_below b2; clear b2
  have s2 := t2.size
  replace bel := Turn.below bel t2 (by omega) (by omega)
  go_wp2_with fail
  go_ret
  exact ⟨rfl, bel⟩

set_option maxHeartbeats 1600000 in
set_option maxRecDepth 100000 in
theorem lawExactWordRemainder (a0 : ByteArray) (m0 : a0.size ≤ maxLen) (a1 : Int) (a2 : Int) (w : World) :
    Calls Try.prog 6 #[.string a0, .int .i64 a1, .int .i64 a2] w fun e w' => e = .returned (.bool true) ∧ Below w.heap.size w w' := by
  have n0 := m0; unfold maxLen at n0
  have bel : Below w.heap.size w w := Below.refl _ _
  by_cases x0 : 1048576 < a0.size
  · go_enter Try.func6, Try.ntmps6
    go_wp2_with fail
    go_ret
    exact ⟨rfl, Below.refl _ _⟩
  have l0 : a0.size ≤ 1048576 := by omega
  go_enter Try.func6, Try.ntmps6
  go_wp2_with fail
  refine (specWordRemainder a0 a1 a2 l0 _).mono ?_
  rintro e w1 ⟨rfl, b1⟩
  have t1 := Turn.of_below b1; clear b1
  have s1 := t1.size
  replace bel := Turn.below bel t1 (by omega) (by omega)
  go_wp2_with fail
  refine (implWordRemainder a0 a1 a2 l0 _).mono ?_
  rintro e w2 ⟨rfl, b2⟩
  have t2 := Turn.of_below b2; clear b2
  have s2 := t2.size
  replace bel := Turn.below bel t2 (by omega) (by omega)
  go_wp2_with fail
  go_ret
  exact ⟨rfl, bel⟩

set_option maxHeartbeats 1600000 in
set_option maxRecDepth 100000 in
theorem lawExactWordOf (w : World) (v0 : Value) (z0 : List Int) (r0 : RdI (· < w.heap.size) w v0 z0) (a1 : Int) :
    Calls Try.prog 7 #[v0, .int .i64 a1] w fun e w' => e = .returned (.bool true) ∧ Below w.heap.size w w' := by
  obtain ⟨ad0, cp0, rfl, cl0, cm0, _⟩ := id r0
  unfold maxLen at cm0
  have bel : Below w.heap.size w w := Below.refl _ _
  by_cases x0 : 1048576 < z0.length
  · go_enter Try.func7, Try.ntmps7
    go_wp2_with fail
    go_ret
    exact ⟨rfl, Below.refl _ _⟩
  have l0 : z0.length ≤ 1048576 := by omega
  go_enter Try.func7, Try.ntmps7
  go_wp2_with fail
  refine (toInt64S_t (B := w.heap.size) r0 (by omega) l0).mono ?_
  rintro e w1 ⟨v_1, rfl, i1, t1⟩
  have s1 := t1.size
  replace r0 := rd_turn RdI.ok r0 t1 (by omega) (by omega)
  replace bel := Turn.below bel t1 (by omega) (by omega)
  go_wp2_with fail
  refine (specWordOf (i1.rdlt OI.leads OI.ok) (Nat.le_refl _) a1 l0).mono ?_
  rintro e w2 ⟨rfl, b2⟩
  have t2 := Turn.of_below b2; clear b2
  have s2 := t2.size
  replace i1 := i1.keep OI.ok t2 (by omega)
  replace r0 := rd_turn RdI.ok r0 t2 (by omega) (by omega)
  replace bel := Turn.below bel t2 (by omega) (by omega)
  go_wp2_with fail
  refine (toInt64S_t (B := w.heap.size) r0 (by omega) l0).mono ?_
  rintro e w3 ⟨v_3, rfl, i3, t3⟩
  have s3 := t3.size
  replace i1 := i1.keep OI.ok t3 (by omega)
  replace r0 := rd_turn RdI.ok r0 t3 (by omega) (by omega)
  replace bel := Turn.below bel t3 (by omega) (by omega)
  go_wp2_with fail
  refine (implWordOfX (i3.rdlt OI.leads OI.ok) (Nat.le_refl _) a1 l0).mono ?_
  rintro e w4 ⟨rfl, b4⟩
  have t4 := Turn.of_below b4; clear b4
  have s4 := t4.size
  replace i1 := i1.keep OI.ok t4 (by omega)
  replace i3 := i3.keep OI.ok t4 (by omega)
  replace r0 := rd_turn RdI.ok r0 t4 (by omega) (by omega)
  replace bel := Turn.below bel t4 (by omega) (by omega)
  go_wp2_with fail
  refine (toInt64S_t (B := w.heap.size) r0 (by omega) l0).mono ?_
  rintro e w5 ⟨v_5, rfl, i5, t5⟩
  have s5 := t5.size
  replace i1 := i1.keep OI.ok t5 (by omega)
  replace i3 := i3.keep OI.ok t5 (by omega)
  replace r0 := rd_turn RdI.ok r0 t5 (by omega) (by omega)
  replace bel := Turn.below bel t5 (by omega) (by omega)
  go_wp2_with fail
  refine (eqInt64S_t i3 i5).mono ?_
  rintro e w6 ⟨rfl, t6⟩
  have s6 := t6.size
  replace i1 := i1.keep OI.ok t6 (by omega)
  replace i3 := i3.keep OI.ok t6 (by omega)
  replace i5 := i5.keep OI.ok t6 (by omega)
  replace r0 := rd_turn RdI.ok r0 t6 (by omega) (by omega)
  replace bel := Turn.below bel t6 (by omega) (by omega)
  go_wp2_with fail
  go_ret
  exact ⟨rfl, bel⟩

set_option maxHeartbeats 1600000 in
set_option maxRecDepth 100000 in
theorem lawExactDigitsOf (a0 : ByteArray) (m0 : a0.size ≤ maxLen) (a1 : Int) (w : World) :
    Calls Try.prog 8 #[.string a0, .int .i64 a1] w fun e w' => e = .returned (.bool true) ∧ Below w.heap.size w w' := by
  have hL := digitsOf_len a0 a1
  have n0 := m0; unfold maxLen at n0
  have bel : Below w.heap.size w w := Below.refl _ _
  by_cases x0 : 1048576 < a0.size
  · go_enter Try.func8, Try.ntmps8
    go_wp2_with fail
    go_ret
    exact ⟨rfl, Below.refl _ _⟩
  have l0 : a0.size ≤ 1048576 := by omega
  go_enter Try.func8, Try.ntmps8
  go_wp2_with fail
  refine (specDigitsOf a0 a1 l0 _).mono ?_
  rintro e w1 ⟨v_1, rfl, f1⟩
  obtain ⟨i1, t1⟩ := In.of_fresh OI.ok f1; clear f1
  have s1 := t1.size
  replace bel := Turn.below bel t1 (by omega) (by omega)
  go_wp2_with fail
  refine (implDigitsOf a0 a1 _ l0).mono ?_
  rintro e w2 ⟨v_2, rfl, f2⟩
  obtain ⟨i2, t2⟩ := In.of_fresh OI.ok f2; clear f2
  have s2 := t2.size
  replace i1 := i1.keep OI.ok t2 (by omega)
  replace bel := Turn.below bel t2 (by omega) (by omega)
  go_wp2_with fail
  refine (eqInt64S_t i2 i1).mono ?_
  rintro e w3 ⟨rfl, t3⟩
  have s3 := t3.size
  replace i1 := i1.keep OI.ok t3 (by omega)
  replace i2 := i2.keep OI.ok t3 (by omega)
  replace bel := Turn.below bel t3 (by omega) (by omega)
  go_wp2_with fail
  refine (markInt64S_t i2 (by omega) (by omega)).mono ?_
  rintro e w4 ⟨rfl, j4, t4⟩
  have s4 := t4.size
  replace i1 := i1.keep OI.ok t4 (by omega)
  replace bel := Turn.below bel t4 (by omega) (by omega)
  replace i2 := j4; clear j4
  go_wp2_with fail
  refine (heldInt64S_t i2 (by omega) (by omega)).mono ?_
  rintro e w5 ⟨rfl, t5⟩
  have s5 := t5.size
  replace i1 := i1.keep OI.ok t5 (by omega)
  replace i2 := i2.keep OI.ok t5 (by omega)
  replace bel := Turn.below bel t5 (by omega) (by omega)
  go_wp2_with fail
  refine (implDigitsOf a0 a1 _ l0).mono ?_
  rintro e w6 ⟨v_6, rfl, f6⟩
  obtain ⟨i6, t6⟩ := In.of_fresh OI.ok f6; clear f6
  have s6 := t6.size
  replace i1 := i1.keep OI.ok t6 (by omega)
  replace i2 := i2.keep OI.ok t6 (by omega)
  replace bel := Turn.below bel t6 (by omega) (by omega)
  go_wp2_with fail
  refine (eqInt64S_t i6 i1).mono ?_
  rintro e w7 ⟨rfl, t7⟩
  have s7 := t7.size
  replace i1 := i1.keep OI.ok t7 (by omega)
  replace i2 := i2.keep OI.ok t7 (by omega)
  replace i6 := i6.keep OI.ok t7 (by omega)
  replace bel := Turn.below bel t7 (by omega) (by omega)
  go_wp2_with fail
  refine (heldInt64S_t i2 (by omega) (by omega)).mono ?_
  rintro e w8 ⟨rfl, t8⟩
  have s8 := t8.size
  replace i1 := i1.keep OI.ok t8 (by omega)
  replace i2 := i2.keep OI.ok t8 (by omega)
  replace i6 := i6.keep OI.ok t8 (by omega)
  replace bel := Turn.below bel t8 (by omega) (by omega)
  go_wp2_with fail
  go_ret
  exact ⟨rfl, bel⟩

end Go.Proofs.Ytmgfbmpiaanhkaa
