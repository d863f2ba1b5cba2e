/- The walk of the law FnExactEvenChain: it returns true. Printed by gen_law2.py. -/
import Derived.Test.YtnpkanlieflbiaaT3
import Derived.Test.YtnpkanlieflbiaaH1
import Derived.Test.YtnpkanlieflbiaaS1
import Derived.Deep.DeepCutAuto
import Derived.Deep.RegionWith
namespace Go.Proofs.Ytnpkanlieflbiaa
open Go.RowKit
set_option linter.unusedVariables false

set_option maxHeartbeats 3200000 in
set_option maxRecDepth 100000 in
theorem lawExactEvenChain (w : World) (v0 : Value) (z0 : List (List Int)) (r0 : RdII (· < w.heap.size) w v0 z0) (a1 : Int) (a2 : Int) (a3 : Int) :
    Calls Try.prog 8 #[v0, .int .i64 a1, .int .i64 a2, .int .i64 a3] w fun e w' => e = .returned (.bool true) ∧ Below w.heap.size w w' := by
  have hL := ev_cntA z0 a1 a2 a3
  obtain ⟨ad0, cp0, rfl, cl0, cm0, _⟩ := id r0
  unfold maxLen at cm0
  have bel : Below w.heap.size w w := Below.refl _ _
  by_cases y0 : ((szL List.length z0 : Nat) : Int) ≤ 1048576
  rotate_left
  · go_enter Try.func8, Try.ntmps8
    go_wp2_with fail
    refine (szInt64SS r0 _ (by omega) (by omega)).mono ?_
    rw [szR_no (by omega)]
    rintro e w' ⟨rfl, rfl⟩
    go_wp2_with fail
    go_ret
    exact ⟨rfl, bel⟩
  have l0 : szL List.length z0 ≤ 1048576 := by omega
  have c0 := cnt_le_sz2 z0
  go_enter Try.func8, Try.ntmps8
  go_wp2_with fail
  refine (szInt64SS r0 _ (by omega) (by omega)).mono ?_
  rw [szR_yes y0]
  rintro e w' ⟨rfl, rfl⟩
  go_upto_region 5 with fail
  go_cut [10, 11] (fun s0 s1 wx => ∃ (b : Nat) (lu0 lp0 : Value), s0 = .pointer (some ⟨b, 0, none⟩) ∧ s1 = .bool (evOk z0 a1 a2 a3) ∧ LocC w.heap.size b wx lu0 lp0 (evV z0 a1 a2 a3) ∧ Turn 0 0 w wx)
  case first =>
    go_wp2_with fail
    refine (toInt64SS_t (B := w.heap.size) r0 (by omega) l0).mono ?_
    rintro e w6 ⟨v_6, rfl, i6, t6⟩
    have s6 := t6.size
    replace r0 := rd_turn RdII.ok r0 t6 (by omega) (by omega)
    replace bel := Turn.below bel t6 (by omega) (by omega)
    go_wp2_with fail
    refine (specEvenChain (i6.rdlt OII.leads OII.ok) (Nat.le_refl _) l0 a1 a2 a3).mono ?_
    rintro e w7 ⟨v_7, rfl, f7⟩
    obtain ⟨i7, t7⟩ := In.of_freshF OC.ok f7; clear f7
    have s7 := t7.size
    replace i7 := i7.widen (lo' := w.heap.size) (hi' := w7.heap.size) (by omega) (Nat.le_refl _)
    obtain ⟨S7, ⟨lu0, lp0, S1, S2, rfl, o1, o2, eS, hS⟩, hb⟩ := i7
    have hm := Lib.hid (LocC.made (lo := w.heap.size) (w := w7) (x := evV z0 a1 a2 a3) ⟨S7, ⟨lu0, lp0, S1, S2, rfl, o1, o2, eS, hS⟩, hb⟩ (by omega))
    obtain ⟨k1, k2, k3, rfl⟩ := o1.isSlice
    obtain ⟨k4, k5, k6, rfl⟩ := o2.isSlice
    unfold aggC
    clear o1 o2 eS hS hb
    go_wp2_with fail
    go_meet
    exact ⟨_, .slice k1 k2 k3, .slice k4 k5 k6, rfl, rfl, hm.out.1, (t6.trans0 (t7)).trans0 hm.out.2⟩
  case rest =>
  obtain ⟨WX8, rfl⟩ : ∃ W, W = wc := ⟨_, rfl⟩
  obtain ⟨b8, lu108, lp108, rfl, rfl, X8, t8⟩ := hcut
  have s8 := t8.size
  have bl8 := X8.lt
  have bo8 := X8.2.2
  replace r0 := rd_turn RdII.ok r0 t8 (by omega) (by omega)
  replace bel := Turn.below bel t8 (by omega) (by omega)
  go_wp2_with fail
  refine (toInt64SS_t (B := w.heap.size) r0 (by omega) l0).mono ?_
  rintro e w9 ⟨v_9, rfl, i9, t9⟩
  have s9 := t9.size
  replace X8 := X8.keep t9 (by omega)
  replace r0 := rd_turn RdII.ok r0 t9 (by omega) (by omega)
  replace bel := Turn.below bel t9 (by omega) (by omega)
  go_upto_region 7 with fail
  go_cut [13, 14] (fun s0 s1 wx => ∃ (b : Nat) (lu1 lp1 : Value), s0 = .pointer (some ⟨b, 0, none⟩) ∧ s1 = .bool (evOk z0 a1 a2 a3) ∧ LocC w9.heap.size b wx lu1 lp1 (evV z0 a1 a2 a3) ∧ Turn 0 0 w9 wx)
  case first =>
    go_wp2_with fail
    refine (implEvenChain (i9.rdlt OII.leads OII.ok) (Nat.le_refl _) l0 a1 a2 a3).mono ?_
    rintro e w10 ⟨v_10, rfl, f10⟩
    obtain ⟨i10, t10⟩ := In.of_freshF OC.ok f10; clear f10
    have s10 := t10.size
    replace i10 := i10.widen (lo' := w9.heap.size) (hi' := w10.heap.size) (by omega) (Nat.le_refl _)
    obtain ⟨S10, ⟨lu1, lp1, S1, S2, rfl, o1, o2, eS, hS⟩, hb⟩ := i10
    have hm := Lib.hid (LocC.made (lo := w9.heap.size) (w := w10) (x := evV z0 a1 a2 a3) ⟨S10, ⟨lu1, lp1, S1, S2, rfl, o1, o2, eS, hS⟩, hb⟩ (by omega))
    obtain ⟨k1, k2, k3, rfl⟩ := o1.isSlice
    obtain ⟨k4, k5, k6, rfl⟩ := o2.isSlice
    unfold aggC
    clear o1 o2 eS hS hb
    go_wp2_with fail
    go_meet
    exact ⟨_, .slice k1 k2 k3, .slice k4 k5 k6, rfl, rfl, hm.out.1, (t10).trans0 hm.out.2⟩
  case rest =>
  obtain ⟨WX11, rfl⟩ : ∃ W, W = wc := ⟨_, rfl⟩
  obtain ⟨b11, lu111, lp111, rfl, rfl, X11, t11⟩ := hcut
  have s11 := t11.size
  have bl11 := X11.lt
  have bo11 := X11.2.2
  replace X8 := X8.keep t11 (by omega)
  replace i9 := i9.keep OII.ok t11 (by omega)
  replace r0 := rd_turn RdII.ok r0 t11 (by omega) (by omega)
  replace bel := Turn.below bel t11 (by omega) (by omega)
  obtain ⟨X11c0, X11c1, X11c2, X11c3, X11c4, X11c5⟩ := X11.cells
  obtain ⟨X8c0, X8c1, X8c2, X8c3, X8c4, X8c5⟩ := X8.cells
  go_wp2_with fail
  refine (eqChain_t X11.2.1 X8.2.1).mono ?_
  rintro e w12 ⟨rfl, t12⟩
  have s12 := t12.size
  clear X11c0 X11c1 X11c2 X11c3 X11c4 X11c5 X8c0 X8c1 X8c2 X8c3 X8c4 X8c5
  replace X8 := X8.keep t12 (by omega)
  replace X11 := X11.keep t12 (by omega)
  replace i9 := i9.keep OII.ok t12 (by omega)
  replace r0 := rd_turn RdII.ok r0 t12 (by omega) (by omega)
  replace bel := Turn.below bel t12 (by omega) (by omega)
  go_wp2_with fail
  refine (toInt64SS_t (B := w.heap.size) r0 (by omega) l0).mono ?_
  rintro e w13 ⟨v_13, rfl, i13, t13⟩
  have s13 := t13.size
  replace X8 := X8.keep t13 (by omega)
  replace X11 := X11.keep t13 (by omega)
  replace i9 := i9.keep OII.ok t13 (by omega)
  replace r0 := rd_turn RdII.ok r0 t13 (by omega) (by omega)
  replace bel := Turn.below bel t13 (by omega) (by omega)
  go_wp2_with fail
  refine (eqInt64SS_t i9 i13).mono ?_
  rintro e w14 ⟨rfl, t14⟩
  have s14 := t14.size
  replace X8 := X8.keep t14 (by omega)
  replace X11 := X11.keep t14 (by omega)
  replace i9 := i9.keep OII.ok t14 (by omega)
  replace i13 := i13.keep OII.ok t14 (by omega)
  replace r0 := rd_turn RdII.ok r0 t14 (by omega) (by omega)
  replace bel := Turn.below bel t14 (by omega) (by omega)
  go_wp2_with fail
  refine (markInt64SS_t i9 (by omega) (by omega)).mono ?_
  rintro e w15 ⟨rfl, j15, t15⟩
  have s15 := t15.size
  replace X8 := X8.keep t15 (by omega)
  replace X11 := X11.keep t15 (by omega)
  replace i13 := i13.keep OII.ok t15 (by omega)
  replace r0 := rd_turn RdII.ok r0 t15 (by omega) (by omega)
  replace bel := Turn.below bel t15 (by omega) (by omega)
  replace i9 := j15
  clear j15
  obtain ⟨X11c0, X11c1, X11c2, X11c3, X11c4, X11c5⟩ := X11.cells
  obtain ⟨X8c0, X8c1, X8c2, X8c3, X8c4, X8c5⟩ := X8.cells
  go_wp2_with fail
  refine (eqChain_t X11.2.1 X8.2.1).mono ?_
  rintro e w16 ⟨rfl, t16⟩
  have s16 := t16.size
  clear X11c0 X11c1 X11c2 X11c3 X11c4 X11c5 X8c0 X8c1 X8c2 X8c3 X8c4 X8c5
  replace X8 := X8.keep t16 (by omega)
  replace X11 := X11.keep t16 (by omega)
  replace i9 := i9.keep OII.ok t16 (by omega)
  replace i13 := i13.keep OII.ok t16 (by omega)
  replace r0 := rd_turn RdII.ok r0 t16 (by omega) (by omega)
  replace bel := Turn.below bel t16 (by omega) (by omega)
  obtain ⟨X11c0, X11c1, X11c2, X11c3, X11c4, X11c5⟩ := X11.cells
  go_wp2_with fail
  refine (markChain_t X11.2.1 (by omega) (by omega)).mono ?_
  rintro e w17 ⟨rfl, j17, t17⟩
  have s17 := t17.size
  clear X11c0 X11c1 X11c2 X11c3 X11c4 X11c5
  replace X8 := X8.keep t17 (by omega)
  replace i9 := i9.keep OII.ok t17 (by omega)
  replace i13 := i13.keep OII.ok t17 (by omega)
  replace r0 := rd_turn RdII.ok r0 t17 (by omega) (by omega)
  replace bel := Turn.below bel t17 (by omega) (by omega)
  replace X11 := X11.turn t17 j17
  clear j17
  obtain ⟨X11c0, X11c1, X11c2, X11c3, X11c4, X11c5⟩ := X11.cells
  go_wp2_with fail
  refine (heldChain_t X11.2.1 (by omega) (by omega)).mono ?_
  rintro e w18 ⟨rfl, t18⟩
  have s18 := t18.size
  clear X11c0 X11c1 X11c2 X11c3 X11c4 X11c5
  replace X8 := X8.keep t18 (by omega)
  replace X11 := X11.keep t18 (by omega)
  replace i9 := i9.keep OII.ok t18 (by omega)
  replace i13 := i13.keep OII.ok t18 (by omega)
  replace r0 := rd_turn RdII.ok r0 t18 (by omega) (by omega)
  replace bel := Turn.below bel t18 (by omega) (by omega)
  go_upto_region 24 with fail
  go_cut [18, 19] (fun s0 s1 wx => ∃ (b : Nat) (lu2 lp2 : Value), s0 = .pointer (some ⟨b, 0, none⟩) ∧ s1 = .bool (evOk z0 a1 a2 a3) ∧ LocC w18.heap.size b wx lu2 lp2 (evV z0 a1 a2 a3) ∧ Turn 0 0 w18 wx)
  case first =>
    go_wp2_with fail
    refine (toInt64SS_t (B := w.heap.size) r0 (by omega) l0).mono ?_
    rintro e w19 ⟨v_19, rfl, i19, t19⟩
    have s19 := t19.size
    replace X8 := X8.keep t19 (by omega)
    replace X11 := X11.keep t19 (by omega)
    replace i9 := i9.keep OII.ok t19 (by omega)
    replace i13 := i13.keep OII.ok t19 (by omega)
    replace r0 := rd_turn RdII.ok r0 t19 (by omega) (by omega)
    replace bel := Turn.below bel t19 (by omega) (by omega)
    go_wp2_with fail
    refine (implEvenChain (i19.rdlt OII.leads OII.ok) (Nat.le_refl _) l0 a1 a2 a3).mono ?_
    rintro e w20 ⟨v_20, rfl, f20⟩
    obtain ⟨i20, t20⟩ := In.of_freshF OC.ok f20; clear f20
    have s20 := t20.size
    replace i20 := i20.widen (lo' := w18.heap.size) (hi' := w20.heap.size) (by omega) (Nat.le_refl _)
    obtain ⟨S20, ⟨lu2, lp2, S1, S2, rfl, o1, o2, eS, hS⟩, hb⟩ := i20
    have hm := Lib.hid (LocC.made (lo := w18.heap.size) (w := w20) (x := evV z0 a1 a2 a3) ⟨S20, ⟨lu2, lp2, S1, S2, rfl, o1, o2, eS, hS⟩, hb⟩ (by omega))
    obtain ⟨k1, k2, k3, rfl⟩ := o1.isSlice
    obtain ⟨k4, k5, k6, rfl⟩ := o2.isSlice
    unfold aggC
    clear o1 o2 eS hS hb
    go_wp2_with fail
    go_meet
    exact ⟨_, .slice k1 k2 k3, .slice k4 k5 k6, rfl, rfl, hm.out.1, (t19.trans0 (t20)).trans0 hm.out.2⟩
  case rest =>
  obtain ⟨WX21, rfl⟩ : ∃ W, W = wc := ⟨_, rfl⟩
  obtain ⟨b21, lu121, lp121, rfl, rfl, X21, t21⟩ := hcut
  have s21 := t21.size
  have bl21 := X21.lt
  have bo21 := X21.2.2
  replace X8 := X8.keep t21 (by omega)
  replace X11 := X11.keep t21 (by omega)
  replace i9 := i9.keep OII.ok t21 (by omega)
  replace i13 := i13.keep OII.ok t21 (by omega)
  replace r0 := rd_turn RdII.ok r0 t21 (by omega) (by omega)
  replace bel := Turn.below bel t21 (by omega) (by omega)
  obtain ⟨X21c0, X21c1, X21c2, X21c3, X21c4, X21c5⟩ := X21.cells
  obtain ⟨X8c0, X8c1, X8c2, X8c3, X8c4, X8c5⟩ := X8.cells
  go_wp2_with fail
  refine (eqChain_t X21.2.1 X8.2.1).mono ?_
  rintro e w22 ⟨rfl, t22⟩
  have s22 := t22.size
  clear X21c0 X21c1 X21c2 X21c3 X21c4 X21c5 X8c0 X8c1 X8c2 X8c3 X8c4 X8c5
  replace X8 := X8.keep t22 (by omega)
  replace X11 := X11.keep t22 (by omega)
  replace X21 := X21.keep t22 (by omega)
  replace i9 := i9.keep OII.ok t22 (by omega)
  replace i13 := i13.keep OII.ok t22 (by omega)
  replace r0 := rd_turn RdII.ok r0 t22 (by omega) (by omega)
  replace bel := Turn.below bel t22 (by omega) (by omega)
  obtain ⟨X11c0, X11c1, X11c2, X11c3, X11c4, X11c5⟩ := X11.cells
  go_wp2_with fail
  refine (heldChain_t X11.2.1 (by omega) (by omega)).mono ?_
  rintro e w23 ⟨rfl, t23⟩
  have s23 := t23.size
  clear X11c0 X11c1 X11c2 X11c3 X11c4 X11c5
  replace X8 := X8.keep t23 (by omega)
  replace X11 := X11.keep t23 (by omega)
  replace X21 := X21.keep t23 (by omega)
  replace i9 := i9.keep OII.ok t23 (by omega)
  replace i13 := i13.keep OII.ok t23 (by omega)
  replace r0 := rd_turn RdII.ok r0 t23 (by omega) (by omega)
  replace bel := Turn.below bel t23 (by omega) (by omega)
  go_wp2_with fail
  go_ret
  exact ⟨rfl, bel⟩
end Go.Proofs.Ytnpkanlieflbiaa
