/- The walk of the law FnExactTableText: it returns true. Printed by gen_law.py. -/
import Derived.Test.YthomdggbmjknnaaQ5
import Derived.Test.YthomdggbmjknnaaH1
namespace Go.Proofs.Ythomdggbmjknnaa
open Go.RowKit
set_option linter.unusedVariables false

set_option maxHeartbeats 1600000 in
set_option maxRecDepth 100000 in
theorem lawExactTableText (w : World) (v0 : Value) (z0 : List (List Int)) (r0 : RdII (· < w.heap.size) w v0 z0) :
    Calls Try.prog 7 #[v0] w fun e w' => e = .returned (.bool true) ∧ Below w.heap.size w w' := by
  obtain ⟨ad0, cp0, rfl, cl0, cm0, _⟩ := id r0
  unfold maxLen at cm0
  have bel : Below w.heap.size w w := Below.refl _ _
  by_cases y0 : ((szL List.length z0 : Nat) : Int) ≤ 1048576
  rotate_left
  · go_enter Try.func7, Try.ntmps7
    go_wp2_with fail
    refine (szInt64SS r0 _ (by omega) (by omega)).mono ?_
    rw [szR_no (by omega)]
    rintro e w' ⟨rfl, rfl⟩
    go_wp2_with fail
    go_ret
    exact ⟨rfl, bel⟩
  have l0 : szL List.length z0 ≤ 1048576 := by omega
  have c0 := cnt_le_sz2 z0
  go_enter Try.func7, Try.ntmps7
  go_wp2_with fail
  refine (szInt64SS r0 _ (by omega) (by omega)).mono ?_
  rw [szR_yes y0]
  rintro e w' ⟨rfl, rfl⟩
  go_wp2_with fail
  refine (toInt64SS_t (B := w.heap.size) r0 (by omega) l0).mono ?_
  rintro e w1 ⟨v_1, rfl, i1, t1⟩
  have s1 := t1.size
  replace r0 := rd_turn RdII.ok r0 t1 (by omega) (by omega)
  replace bel := Turn.below bel t1 (by omega) (by omega)
  go_wp2_with fail
  refine (specTableText (i1.rdlt OII.leads OII.ok) (Nat.le_refl _)).mono ?_
  rintro e w2 ⟨rfl, b2⟩
  have t2 := Turn.of_below b2; clear b2
  have s2 := t2.size
  replace i1 := i1.keep OII.ok t2 (by omega)
  replace r0 := rd_turn RdII.ok r0 t2 (by omega) (by omega)
  replace bel := Turn.below bel t2 (by omega) (by omega)
  go_wp2_with fail
  refine (toInt64SS_t (B := w.heap.size) r0 (by omega) l0).mono ?_
  rintro e w3 ⟨v_3, rfl, i3, t3⟩
  have s3 := t3.size
  replace i1 := i1.keep OII.ok t3 (by omega)
  replace r0 := rd_turn RdII.ok r0 t3 (by omega) (by omega)
  replace bel := Turn.below bel t3 (by omega) (by omega)
  go_wp2_with fail
  refine (implTableText (i3.rdlt OII.leads OII.ok) (Nat.le_refl _)).mono ?_
  rintro e w4 ⟨rfl, b4⟩
  have t4 := Turn.of_below b4; clear b4
  have s4 := t4.size
  replace i1 := i1.keep OII.ok t4 (by omega)
  replace i3 := i3.keep OII.ok t4 (by omega)
  replace r0 := rd_turn RdII.ok r0 t4 (by omega) (by omega)
  replace bel := Turn.below bel t4 (by omega) (by omega)
  go_wp2_with fail
  refine (toInt64SS_t (B := w.heap.size) r0 (by omega) l0).mono ?_
  rintro e w5 ⟨v_5, rfl, i5, t5⟩
  have s5 := t5.size
  replace i1 := i1.keep OII.ok t5 (by omega)
  replace i3 := i3.keep OII.ok t5 (by omega)
  replace r0 := rd_turn RdII.ok r0 t5 (by omega) (by omega)
  replace bel := Turn.below bel t5 (by omega) (by omega)
  go_wp2_with fail
  refine (eqInt64SS_t i3 i5).mono ?_
  rintro e w6 ⟨rfl, t6⟩
  have s6 := t6.size
  replace i1 := i1.keep OII.ok t6 (by omega)
  replace i3 := i3.keep OII.ok t6 (by omega)
  replace i5 := i5.keep OII.ok t6 (by omega)
  replace r0 := rd_turn RdII.ok r0 t6 (by omega) (by omega)
  replace bel := Turn.below bel t6 (by omega) (by omega)
  go_wp2_with fail
  go_ret
  exact ⟨rfl, bel⟩
end Go.Proofs.Ythomdggbmjknnaa
