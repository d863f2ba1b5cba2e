/- The walks of the laws FnExactCountTotally and FnExactFirstTotally: each returns true. Printed by gen_law.py. -/
import Derived.Test.YthomdggbmjknnaaSk9
import Derived.Test.YthomdggbmjknnaaH1
import Derived.Test.YthomdggbmjknnaaH2
namespace Go.Proofs.Ythomdggbmjknnaa
open Go.RowKit
set_option linter.unusedVariables false

set_option maxHeartbeats 1600000 in
set_option maxRecDepth 100000 in
theorem lawExactCountTotally (a0 : Int) (w : World) :
    Calls Try.prog 5 #[.int .i64 a0] w fun e w' => e = .returned (.bool true) ∧ Below w.heap.size w w' := by
  have bel : Below w.heap.size w w := Below.refl _ _
  go_enter Try.func5, Try.ntmps5
  go_wp2_with fail
  refine (specCountTotally a0 _).mono ?_
  rintro e w1 ⟨rfl, b1⟩
  have t1 := Turn.of_below b1; clear b1
  have s1 := t1.size
  replace bel := Turn.below bel t1 (by omega) (by omega)
  go_wp2_with fail
  refine (implCountTotally a0 _).mono ?_
  rintro e w2 ⟨rfl, b2⟩
  have t2 := Turn.of_below b2; clear b2
  have s2 := t2.size
  replace bel := Turn.below bel t2 (by omega) (by omega)
  go_wp2_with fail
  go_ret
  exact ⟨rfl, bel⟩

set_option maxHeartbeats 1600000 in
set_option maxRecDepth 100000 in
theorem lawExactFirstTotally (a0 : Int) (w : World) :
    Calls Try.prog 6 #[.int .i64 a0] w fun e w' => e = .returned (.bool true) ∧ Below w.heap.size w w' := by
  have hL := ftV_cnt a0
  have bel : Below w.heap.size w w := Below.refl _ _
  go_enter Try.func6, Try.ntmps6
  go_wp2_with fail
  refine (specFirstTotally a0 _).mono ?_
  rintro e w1 ⟨v_1, rfl, f1⟩
  obtain ⟨i1, t1⟩ := In.of_fresh OII.ok f1; clear f1
  have s1 := t1.size
  replace bel := Turn.below bel t1 (by omega) (by omega)
  go_wp2_with fail
  refine (implFirstTotally a0 _).mono ?_
  rintro e w2 ⟨v_2, rfl, f2⟩
  obtain ⟨i2, t2⟩ := In.of_fresh OII.ok f2; clear f2
  have s2 := t2.size
  replace i1 := i1.keep OII.ok t2 (by omega)
  replace bel := Turn.below bel t2 (by omega) (by omega)
  go_wp2_with fail
  refine (eqInt64SS_t i2 i1).mono ?_
  rintro e w3 ⟨rfl, t3⟩
  have s3 := t3.size
  replace i1 := i1.keep OII.ok t3 (by omega)
  replace i2 := i2.keep OII.ok t3 (by omega)
  replace bel := Turn.below bel t3 (by omega) (by omega)
  go_wp2_with fail
  refine (markInt64SS_t i2 (by omega) (by omega)).mono ?_
  rintro e w4 ⟨rfl, j4, t4⟩
  have s4 := t4.size
  replace i1 := i1.keep OII.ok t4 (by omega)
  replace bel := Turn.below bel t4 (by omega) (by omega)
  replace i2 := j4; clear j4
  go_wp2_with fail
  refine (heldInt64SS_t i2 (by omega) (by omega)).mono ?_
  rintro e w5 ⟨rfl, t5⟩
  have s5 := t5.size
  replace i1 := i1.keep OII.ok t5 (by omega)
  replace i2 := i2.keep OII.ok t5 (by omega)
  replace bel := Turn.below bel t5 (by omega) (by omega)
  go_wp2_with fail
  refine (implFirstTotally a0 _).mono ?_
  rintro e w6 ⟨v_6, rfl, f6⟩
  obtain ⟨i6, t6⟩ := In.of_fresh OII.ok f6; clear f6
  have s6 := t6.size
  replace i1 := i1.keep OII.ok t6 (by omega)
  replace i2 := i2.keep OII.ok t6 (by omega)
  replace bel := Turn.below bel t6 (by omega) (by omega)
  go_wp2_with fail
  refine (eqInt64SS_t i6 i1).mono ?_
  rintro e w7 ⟨rfl, t7⟩
  have s7 := t7.size
  replace i1 := i1.keep OII.ok t7 (by omega)
  replace i2 := i2.keep OII.ok t7 (by omega)
  replace i6 := i6.keep OII.ok t7 (by omega)
  replace bel := Turn.below bel t7 (by omega) (by omega)
  go_wp2_with fail
  refine (heldInt64SS_t i2 (by omega) (by omega)).mono ?_
  rintro e w8 ⟨rfl, t8⟩
  have s8 := t8.size
  replace i1 := i1.keep OII.ok t8 (by omega)
  replace i2 := i2.keep OII.ok t8 (by omega)
  replace i6 := i6.keep OII.ok t8 (by omega)
  replace bel := Turn.below bel t8 (by omega) (by omega)
  go_wp2_with fail
  go_ret
  exact ⟨rfl, bel⟩

end Go.Proofs.Ythomdggbmjknnaa
