/- The walk of the law FnExactKnownChain: it returns true. Printed by gen_law2.py. -/
import Derived.Test.YtnpkanlieflbiaaKn8
import Derived.Test.YtnpkanlieflbiaaH1
import Derived.Test.YtnpkanlieflbiaaS1
import Derived.Deep.DeepCutAuto
import Derived.Deep.RegionWith
namespace Go.Proofs.Ytnpkanlieflbiaa
open Go.RowKit
set_option linter.unusedVariables false

set_option maxHeartbeats 12800000 in
set_option maxRecDepth 100000 in
theorem lawExactKnownChain (a0 : Int) (a1 : Int) (w : World) :
    Calls Try.prog 5 #[.int .i64 a0, .int .i64 a1] w fun e w' => e = .returned (.bool true) ∧ Below w.heap.size w w' := by
  have hL := kn_cnt a0 a1
  have bel : Below w.heap.size w w := Below.refl _ _
  go_enter Try.func5, Try.ntmps5
  go_upto_region 1 with fail
  go_cut [5, 6] (fun s0 s1 wx => ∃ (b : Nat) (lu0 lp0 : Value), s0 = .pointer (some ⟨b, 0, none⟩) ∧ s1 = .bool (knOk a0 a1) ∧ LocC w.heap.size b wx lu0 lp0 (knV a0 a1) ∧ Turn 0 0 w wx)
  case first =>
    go_wp2_with fail
    refine (specKnownChain a0 a1 _).mono ?_
    rintro e w1 ⟨v_1, rfl, f1⟩
    obtain ⟨i1, t1⟩ := In.of_freshF OC.ok f1; clear f1
    have s1 := t1.size
    replace i1 := i1.widen (lo' := w.heap.size) (hi' := w1.heap.size) (by omega) (Nat.le_refl _)
    obtain ⟨SO1, ⟨lu0, lp0, S1, S2, rfl, o1, o2, eS, hS⟩, hb⟩ := i1
    have hm := Lib.hid (LocC.made (lo := w.heap.size) (w := w1) (x := knV a0 a1) ⟨SO1, ⟨lu0, lp0, S1, S2, rfl, o1, o2, eS, hS⟩, hb⟩ (by omega))
    obtain ⟨k1, k2, k3, rfl⟩ := o1.isSlice
    obtain ⟨k4, k5, k6, rfl⟩ := o2.isSlice
    unfold aggC
    clear o1 o2 eS hS hb
    go_wp2_with fail
    go_meet
    exact ⟨_, .slice k1 k2 k3, .slice k4 k5 k6, rfl, rfl, hm.out.1, (t1).trans0 hm.out.2⟩
  case rest =>
  obtain ⟨WX2, rfl⟩ : ∃ W, W = wc := ⟨_, rfl⟩
  obtain ⟨b2, lu102, lp102, rfl, rfl, X2, t2⟩ := hcut
  have s2 := t2.size
  have bl2 := X2.lt
  have bo2 := X2.2.2
  replace bel := Turn.below bel t2 (by omega) (by omega)
  go_upto_region 2 with fail
  go_cut [7, 8] (fun s0 s1 wx => ∃ (b : Nat) (lu1 lp1 : Value), s0 = .pointer (some ⟨b, 0, none⟩) ∧ s1 = .bool (knOk a0 a1) ∧ LocC WX2.heap.size b wx lu1 lp1 (knV a0 a1) ∧ Turn 0 0 WX2 wx)
  case first =>
    go_wp2_with fail
    refine (implKnownChain a0 a1 _).mono ?_
    rintro e w3 ⟨v_3, rfl, f3⟩
    obtain ⟨i3, t3⟩ := In.of_freshF OC.ok f3; clear f3
    have s3 := t3.size
    replace i3 := i3.widen (lo' := WX2.heap.size) (hi' := w3.heap.size) (by omega) (Nat.le_refl _)
    obtain ⟨SO3, ⟨lu1, lp1, S1, S2, rfl, o1, o2, eS, hS⟩, hb⟩ := i3
    have hm := Lib.hid (LocC.made (lo := WX2.heap.size) (w := w3) (x := knV a0 a1) ⟨SO3, ⟨lu1, lp1, S1, S2, rfl, o1, o2, eS, hS⟩, hb⟩ (by omega))
    obtain ⟨k1, k2, k3, rfl⟩ := o1.isSlice
    obtain ⟨k4, k5, k6, rfl⟩ := o2.isSlice
    unfold aggC
    clear o1 o2 eS hS hb
    go_wp2_with fail
    go_meet
    exact ⟨_, .slice k1 k2 k3, .slice k4 k5 k6, rfl, rfl, hm.out.1, (t3).trans0 hm.out.2⟩
  case rest =>
  obtain ⟨WX4, rfl⟩ : ∃ W, W = wc := ⟨_, rfl⟩
  obtain ⟨b4, lu104, lp104, rfl, rfl, X4, t4⟩ := hcut
  have s4 := t4.size
  have bl4 := X4.lt
  have bo4 := X4.2.2
  replace X2 := X2.keep t4 (by omega)
  replace bel := Turn.below bel t4 (by omega) (by omega)
  obtain ⟨X4c0, X4c1, X4c2, X4c3, X4c4, X4c5⟩ := X4.cells
  obtain ⟨X2c0, X2c1, X2c2, X2c3, X2c4, X2c5⟩ := X2.cells
  go_wp2_with fail
  refine (eqChain_t X4.2.1 X2.2.1).mono ?_
  rintro e w5 ⟨rfl, t5⟩
  have s5 := t5.size
  clear X4c0 X4c1 X4c2 X4c3 X4c4 X4c5 X2c0 X2c1 X2c2 X2c3 X2c4 X2c5
  replace X2 := X2.keep t5 (by omega)
  replace X4 := X4.keep t5 (by omega)
  replace bel := Turn.below bel t5 (by omega) (by omega)
  obtain ⟨X4c0, X4c1, X4c2, X4c3, X4c4, X4c5⟩ := X4.cells
  go_wp2_with fail
  refine (markChain_t X4.2.1 (by omega) (by omega)).mono ?_
  rintro e w6 ⟨rfl, j6, t6⟩
  have s6 := t6.size
  clear X4c0 X4c1 X4c2 X4c3 X4c4 X4c5
  replace X2 := X2.keep t6 (by omega)
  replace bel := Turn.below bel t6 (by omega) (by omega)
  replace X4 := X4.turn t6 j6
  clear j6
  obtain ⟨X4c0, X4c1, X4c2, X4c3, X4c4, X4c5⟩ := X4.cells
  go_wp2_with fail
  refine (heldChain_t X4.2.1 (by omega) (by omega)).mono ?_
  rintro e w7 ⟨rfl, t7⟩
  have s7 := t7.size
  clear X4c0 X4c1 X4c2 X4c3 X4c4 X4c5
  replace X2 := X2.keep t7 (by omega)
  replace X4 := X4.keep t7 (by omega)
  replace bel := Turn.below bel t7 (by omega) (by omega)
  go_upto_region 13 with fail
  go_cut [11, 12] (fun s0 s1 wx => ∃ (b : Nat) (lu2 lp2 : Value), s0 = .pointer (some ⟨b, 0, none⟩) ∧ s1 = .bool (knOk a0 a1) ∧ LocC w7.heap.size b wx lu2 lp2 (knV a0 a1) ∧ Turn 0 0 w7 wx)
  case first =>
    go_wp2_with fail
    refine (implKnownChain a0 a1 _).mono ?_
    rintro e w8 ⟨v_8, rfl, f8⟩
    obtain ⟨i8, t8⟩ := In.of_freshF OC.ok f8; clear f8
    have s8 := t8.size
    replace i8 := i8.widen (lo' := w7.heap.size) (hi' := w8.heap.size) (by omega) (Nat.le_refl _)
    obtain ⟨SO8, ⟨lu2, lp2, S1, S2, rfl, o1, o2, eS, hS⟩, hb⟩ := i8
    have hm := Lib.hid (LocC.made (lo := w7.heap.size) (w := w8) (x := knV a0 a1) ⟨SO8, ⟨lu2, lp2, S1, S2, rfl, o1, o2, eS, hS⟩, hb⟩ (by omega))
    obtain ⟨k1, k2, k3, rfl⟩ := o1.isSlice
    obtain ⟨k4, k5, k6, rfl⟩ := o2.isSlice
    unfold aggC
    clear o1 o2 eS hS hb
    go_wp2_with fail
    go_meet
    exact ⟨_, .slice k1 k2 k3, .slice k4 k5 k6, rfl, rfl, hm.out.1, (t8).trans0 hm.out.2⟩
  case rest =>
  obtain ⟨WX9, rfl⟩ : ∃ W, W = wc := ⟨_, rfl⟩
  obtain ⟨b9, lu109, lp109, rfl, rfl, X9, t9⟩ := hcut
  have s9 := t9.size
  have bl9 := X9.lt
  have bo9 := X9.2.2
  replace X2 := X2.keep t9 (by omega)
  replace X4 := X4.keep t9 (by omega)
  replace bel := Turn.below bel t9 (by omega) (by omega)
  obtain ⟨X9c0, X9c1, X9c2, X9c3, X9c4, X9c5⟩ := X9.cells
  obtain ⟨X2c0, X2c1, X2c2, X2c3, X2c4, X2c5⟩ := X2.cells
  go_wp2_with fail
  refine (eqChain_t X9.2.1 X2.2.1).mono ?_
  rintro e w10 ⟨rfl, t10⟩
  have s10 := t10.size
  clear X9c0 X9c1 X9c2 X9c3 X9c4 X9c5 X2c0 X2c1 X2c2 X2c3 X2c4 X2c5
  replace X2 := X2.keep t10 (by omega)
  replace X4 := X4.keep t10 (by omega)
  replace X9 := X9.keep t10 (by omega)
  replace bel := Turn.below bel t10 (by omega) (by omega)
  obtain ⟨X4c0, X4c1, X4c2, X4c3, X4c4, X4c5⟩ := X4.cells
  go_wp2_with fail
  refine (heldChain_t X4.2.1 (by omega) (by omega)).mono ?_
  rintro e w11 ⟨rfl, t11⟩
  have s11 := t11.size
  clear X4c0 X4c1 X4c2 X4c3 X4c4 X4c5
  replace X2 := X2.keep t11 (by omega)
  replace X4 := X4.keep t11 (by omega)
  replace X9 := X9.keep t11 (by omega)
  replace bel := Turn.below bel t11 (by omega) (by omega)
  go_wp2_with fail
  go_ret
  exact ⟨rfl, bel⟩
end Go.Proofs.Ytnpkanlieflbiaa
