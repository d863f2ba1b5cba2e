/- The walk of the law FnExactWeightChain: it returns true. Printed by gen_law2.py. -/
import Derived.Test.YtnpkanlieflbiaaY9
import Derived.Test.YtnpkanlieflbiaaS3
import Derived.Test.YtnpkanlieflbiaaH1
import Derived.Test.YtnpkanlieflbiaaS1
import Derived.Deep.DeepCutAuto
import Derived.Deep.RegionWith
namespace Go.Proofs.Ytnpkanlieflbiaa
open Go.RowKit
set_option linter.unusedVariables false

set_option maxHeartbeats 3200000 in
set_option maxRecDepth 100000 in
theorem lawExactWeightChain (w : World) (v0 : Value) (z0 : Wgt) (r0 : RdW (· < w.heap.size) w v0 z0) :
    Calls Try.prog 3 #[v0] w fun e w' => e = .returned (.bool true) ∧ Below w.heap.size w w' := by
  have hL := wcV_cnt z0
  obtain ⟨pu0, rfl, hpu0⟩ := id r0
  obtain ⟨w1, hw1, t1, g1, q0⟩ : ∃ w1, w1 = (w.alloc (.cells #[.int .i64 z0.base, .int .i64 z0.modulus, .int .i64 z0.target, pu0] 24)) ∧ Turn 0 0 w w1 ∧ w1.heap.size = w.heap.size + 1 ∧ ParW w.heap.size (w.heap.size) w1 pu0 z0 := by
    have bb := (Below.refl w.heap.size w).alloc (Nat.le_refl _) (.cells #[.int .i64 z0.base, .int .i64 z0.modulus, .int .i64 z0.target, pu0] 24)
    exact ⟨_, rfl, Turn.of_below bb, by simp, heap_alloc_new w _, RdW.ok.keep r0 fun k hk => bb.block k hk, Nat.le_refl _⟩
  have s1 := t1.size
  have bel : Below w.heap.size w w1 := t1.bel
  unfold aggW
  clear r0 hpu0
  by_cases y0 : ((szW z0 : Nat) : Int) ≤ 1048576
  rotate_left
  · go_enter Try.func3, Try.ntmps3
    go_wp2_with fail
    rw [← hw1]
    refine (szWeighting_t q0.2.1 (by omega) (1048576) (by omega) (by omega)).mono ?_
    rw [szR_no (by omega)]
    rintro e w2 ⟨rfl, t2⟩
    have s2 := t2.size
    replace q0 := q0.keep t2 (by omega)
    replace bel := Turn.below bel t2 (by omega) (by omega)
    go_wp2_with fail
    go_ret
    exact ⟨rfl, bel⟩
  have l0 : szW z0 ≤ 1048576 := by omega
  have c0 := cnt_le_szW2 z0
  go_enter Try.func3, Try.ntmps3
  go_wp2_with fail
  rw [← hw1]
  refine (szWeighting_t q0.2.1 (by omega) (1048576) (by omega) (by omega)).mono ?_
  rw [szR_yes y0]
  rintro e w7 ⟨rfl, t7⟩
  have s7 := t7.size
  replace q0 := q0.keep t7 (by omega)
  replace bel := Turn.below bel t7 (by omega) (by omega)
  go_upto_region 5 with fail
  go_cut [4, 5] (fun s0 s1 wx => ∃ (b : Nat) (lu0 lp0 : Value), s0 = .pointer (some ⟨b, 0, none⟩) ∧ s1 = .bool (vW z0) ∧ LocC w7.heap.size b wx lu0 lp0 (wcV z0) ∧ Turn 0 0 w7 wx)
  case first =>
    obtain ⟨q0c0, q0c1, q0c2, q0c3⟩ := q0.cells
    go_wp2_with fail
    refine (toWeighting_t (B := w.heap.size) q0.2.1 (by omega) l0).mono ?_
    rintro e w8 ⟨v_8, rfl, i8, t8⟩
    have s8 := t8.size
    clear q0c0 q0c1 q0c2 q0c3
    replace q0 := q0.keep t8 (by omega)
    replace bel := Turn.below bel t8 (by omega) (by omega)
    obtain ⟨q0c0, q0c1, q0c2, q0c3⟩ := q0.cells
    go_wp2_with fail
    refine (specWeightChain (i8.rdltF OW.leads OW.ok) (Nat.le_refl _) l0).mono ?_
    rintro e w9 ⟨v_9, rfl, f9⟩
    obtain ⟨i9, t9⟩ := In.of_freshF OC.ok f9; clear f9
    have s9 := t9.size
    replace i9 := i9.widen (lo' := w7.heap.size) (hi' := w9.heap.size) (by omega) (Nat.le_refl _)
    obtain ⟨S9, ⟨lu0, lp0, S1, S2, rfl, o1, o2, eS, hS⟩, hb⟩ := i9
    have hm := Lib.hid (LocC.made (lo := w7.heap.size) (w := w9) (x := wcV z0) ⟨S9, ⟨lu0, lp0, S1, S2, rfl, o1, o2, eS, hS⟩, hb⟩ (by omega))
    obtain ⟨k1, k2, k3, rfl⟩ := o1.isSlice
    obtain ⟨k4, k5, k6, rfl⟩ := o2.isSlice
    unfold aggC
    clear o1 o2 eS hS hb
    clear q0c0 q0c1 q0c2 q0c3
    go_wp2_with fail
    go_meet
    exact ⟨_, .slice k1 k2 k3, .slice k4 k5 k6, rfl, rfl, hm.out.1, (t8.trans0 (t9)).trans0 hm.out.2⟩
  case rest =>
  obtain ⟨WX10, rfl⟩ : ∃ W, W = wc := ⟨_, rfl⟩
  obtain ⟨b10, lu110, lp110, rfl, rfl, X10, t10⟩ := hcut
  have s10 := t10.size
  have bl10 := X10.lt
  have bo10 := X10.2.2
  replace q0 := q0.keep t10 (by omega)
  replace bel := Turn.below bel t10 (by omega) (by omega)
  go_upto_region 6 with fail
  go_cut [6] (fun s0 wx => ∃ (b : Nat) (lu1 : Value), s0 = .pointer (some ⟨b, 0, none⟩) ∧ LocW WX10.heap.size b wx lu1 (z0) ∧ Turn 0 0 WX10 wx)
  case first =>
    obtain ⟨q0c0, q0c1, q0c2, q0c3⟩ := q0.cells
    go_wp2_with fail
    refine (toWeighting_t (B := w.heap.size) q0.2.1 (by omega) l0).mono ?_
    rintro e w11 ⟨v_11, rfl, i11, t11⟩
    have s11 := t11.size
    replace i11 := i11.widen (lo' := WX10.heap.size) (hi' := w11.heap.size) (by omega) (Nat.le_refl _)
    obtain ⟨S11, ⟨lu1, rfl, hu⟩, hb⟩ := i11
    have hm := Lib.hid (LocW.made (lo := WX10.heap.size) (w := w11) (x := z0) ⟨S11, ⟨lu1, rfl, hu⟩, hb⟩ (by omega))
    obtain ⟨k1, k2, k3, rfl⟩ := hu.isSlice
    unfold aggW
    clear hu hb
    clear q0c0 q0c1 q0c2 q0c3
    go_wp2_with fail
    go_meet
    exact ⟨_, .slice k1 k2 k3, rfl, hm.out.1, (t11).trans0 hm.out.2⟩
  case rest =>
  obtain ⟨WX12, rfl⟩ : ∃ W, W = wc := ⟨_, rfl⟩
  obtain ⟨b12, lu112, rfl, X12, t12⟩ := hcut
  have s12 := t12.size
  have bl12 := X12.lt
  have bo12 := X12.2.2
  replace X10 := X10.keep t12 (by omega)
  replace q0 := q0.keep t12 (by omega)
  replace bel := Turn.below bel t12 (by omega) (by omega)
  go_upto_region 7 with fail
  go_cut [7, 8] (fun s0 s1 wx => ∃ (b : Nat) (lu2 lp2 : Value), s0 = .pointer (some ⟨b, 0, none⟩) ∧ s1 = .bool (vW z0) ∧ LocC WX12.heap.size b wx lu2 lp2 (wcV z0) ∧ Turn 0 0 WX12 wx)
  case first =>
    obtain ⟨X12c0, X12c1, X12c2, X12c3⟩ := X12.cells
    go_wp2_with fail
    refine (implWeightChain (X12.2.1.rdltF OW.leads OW.ok) (Nat.le_refl _) l0).mono ?_
    rintro e w13 ⟨v_13, rfl, f13⟩
    obtain ⟨i13, t13⟩ := In.of_freshF OC.ok f13; clear f13
    have s13 := t13.size
    replace i13 := i13.widen (lo' := WX12.heap.size) (hi' := w13.heap.size) (by omega) (Nat.le_refl _)
    obtain ⟨S13, ⟨lu2, lp2, S1, S2, rfl, o1, o2, eS, hS⟩, hb⟩ := i13
    have hm := Lib.hid (LocC.made (lo := WX12.heap.size) (w := w13) (x := wcV z0) ⟨S13, ⟨lu2, lp2, S1, S2, rfl, o1, o2, eS, hS⟩, hb⟩ (by omega))
    obtain ⟨k1, k2, k3, rfl⟩ := o1.isSlice
    obtain ⟨k4, k5, k6, rfl⟩ := o2.isSlice
    unfold aggC
    clear o1 o2 eS hS hb
    clear X12c0 X12c1 X12c2 X12c3
    go_wp2_with fail
    go_meet
    exact ⟨_, .slice k1 k2 k3, .slice k4 k5 k6, rfl, rfl, hm.out.1, (t13).trans0 hm.out.2⟩
  case rest =>
  obtain ⟨WX14, rfl⟩ : ∃ W, W = wc := ⟨_, rfl⟩
  obtain ⟨b14, lu114, lp114, rfl, rfl, X14, t14⟩ := hcut
  have s14 := t14.size
  have bl14 := X14.lt
  have bo14 := X14.2.2
  replace X10 := X10.keep t14 (by omega)
  replace X12 := X12.keep t14 (by omega)
  replace q0 := q0.keep t14 (by omega)
  replace bel := Turn.below bel t14 (by omega) (by omega)
  obtain ⟨X14c0, X14c1, X14c2, X14c3, X14c4, X14c5⟩ := X14.cells
  obtain ⟨X10c0, X10c1, X10c2, X10c3, X10c4, X10c5⟩ := X10.cells
  go_wp2_with fail
  refine (eqChain_t X14.2.1 X10.2.1).mono ?_
  rintro e w15 ⟨rfl, t15⟩
  have s15 := t15.size
  clear X14c0 X14c1 X14c2 X14c3 X14c4 X14c5 X10c0 X10c1 X10c2 X10c3 X10c4 X10c5
  replace X10 := X10.keep t15 (by omega)
  replace X12 := X12.keep t15 (by omega)
  replace X14 := X14.keep t15 (by omega)
  replace q0 := q0.keep t15 (by omega)
  replace bel := Turn.below bel t15 (by omega) (by omega)
  go_upto_region 10 with fail
  go_cut [45] (fun s0 wx => s0 = .bool false ∧ Turn 0 0 w15 wx)
  case first =>
    obtain ⟨X12c0, X12c1, X12c2, X12c3⟩ := X12.cells
    obtain ⟨q0c0, q0c1, q0c2, q0c3⟩ := q0.cells
    go_region_with (first
      | (refine (toWeighting_t (B := w.heap.size) (RdW.ok.keep q0.2.1 (by intro _ _; rfl)) (by show _ ≤ w15.heap.size; omega) l0).mono ?_; rintro e w16 ⟨v_16, rfl, i16, t16⟩; have t16' : Turn 0 0 w15 w16 := ⟨t16.os, t16.tape, t16.output, t16.size, t16.block⟩; have x16 := X12.keep t16' (by omega); obtain ⟨xc16_0, xc16_1, xc16_2, xc16_3⟩ := x16.cells)
      | (refine (eqWeighting_t (In.sameF OW.ok x16.2.1 (by rfl)) (In.sameF OW.ok i16 (by rfl))).mono ?_; rintro e w17 ⟨rfl, t17⟩))
    all_goals (go_wp2_with fail; go_meet; exact ⟨rfl, t16'.trans0 ⟨t17.os, t17.tape, t17.output, t17.size, t17.block⟩⟩)
  case rest =>
  obtain ⟨WX18, rfl⟩ : ∃ W, W = wc := ⟨_, rfl⟩
  obtain ⟨rfl, t18⟩ := hcut
  have s18 := t18.size
  replace X10 := X10.keep t18 (by omega)
  replace X12 := X12.keep t18 (by omega)
  replace X14 := X14.keep t18 (by omega)
  replace q0 := q0.keep t18 (by omega)
  replace bel := Turn.below bel t18 (by omega) (by omega)
  obtain ⟨X12c0, X12c1, X12c2, X12c3⟩ := X12.cells
  go_wp2_with fail
  refine (markWeighting_t X12.2.1 (by omega) (by omega)).mono ?_
  rintro e w19 ⟨rfl, j19, t19⟩
  have s19 := t19.size
  clear X12c0 X12c1 X12c2 X12c3
  replace X10 := X10.keep t19 (by omega)
  replace X14 := X14.keep t19 (by omega)
  replace q0 := q0.keep t19 (by omega)
  replace bel := Turn.below bel t19 (by omega) (by omega)
  replace X12 := X12.turn t19 j19
  clear j19
  obtain ⟨X14c0, X14c1, X14c2, X14c3, X14c4, X14c5⟩ := X14.cells
  obtain ⟨X10c0, X10c1, X10c2, X10c3, X10c4, X10c5⟩ := X10.cells
  go_wp2_with fail
  refine (eqChain_t X14.2.1 X10.2.1).mono ?_
  rintro e w20 ⟨rfl, t20⟩
  have s20 := t20.size
  clear X14c0 X14c1 X14c2 X14c3 X14c4 X14c5 X10c0 X10c1 X10c2 X10c3 X10c4 X10c5
  replace X10 := X10.keep t20 (by omega)
  replace X12 := X12.keep t20 (by omega)
  replace X14 := X14.keep t20 (by omega)
  replace q0 := q0.keep t20 (by omega)
  replace bel := Turn.below bel t20 (by omega) (by omega)
  obtain ⟨X14c0, X14c1, X14c2, X14c3, X14c4, X14c5⟩ := X14.cells
  go_wp2_with fail
  refine (markChain_t X14.2.1 (by omega) (by omega)).mono ?_
  rintro e w21 ⟨rfl, j21, t21⟩
  have s21 := t21.size
  clear X14c0 X14c1 X14c2 X14c3 X14c4 X14c5
  replace X10 := X10.keep t21 (by omega)
  replace X12 := X12.keep t21 (by omega)
  replace q0 := q0.keep t21 (by omega)
  replace bel := Turn.below bel t21 (by omega) (by omega)
  replace X14 := X14.turn t21 j21
  clear j21
  obtain ⟨X14c0, X14c1, X14c2, X14c3, X14c4, X14c5⟩ := X14.cells
  go_wp2_with fail
  refine (heldChain_t X14.2.1 (by omega) (by omega)).mono ?_
  rintro e w22 ⟨rfl, t22⟩
  have s22 := t22.size
  clear X14c0 X14c1 X14c2 X14c3 X14c4 X14c5
  replace X10 := X10.keep t22 (by omega)
  replace X12 := X12.keep t22 (by omega)
  replace X14 := X14.keep t22 (by omega)
  replace q0 := q0.keep t22 (by omega)
  replace bel := Turn.below bel t22 (by omega) (by omega)
  go_upto_region 24 with fail
  go_cut [12, 13] (fun s0 s1 wx => ∃ (b : Nat) (lu3 lp3 : Value), s0 = .pointer (some ⟨b, 0, none⟩) ∧ s1 = .bool (vW z0) ∧ LocC w22.heap.size b wx lu3 lp3 (wcV z0) ∧ Turn 0 0 w22 wx)
  case first =>
    obtain ⟨q0c0, q0c1, q0c2, q0c3⟩ := q0.cells
    go_wp2_with fail
    refine (toWeighting_t (B := w.heap.size) q0.2.1 (by omega) l0).mono ?_
    rintro e w23 ⟨v_23, rfl, i23, t23⟩
    have s23 := t23.size
    clear q0c0 q0c1 q0c2 q0c3
    replace X10 := X10.keep t23 (by omega)
    replace X12 := X12.keep t23 (by omega)
    replace X14 := X14.keep t23 (by omega)
    replace q0 := q0.keep t23 (by omega)
    replace bel := Turn.below bel t23 (by omega) (by omega)
    obtain ⟨q0c0, q0c1, q0c2, q0c3⟩ := q0.cells
    go_wp2_with fail
    refine (implWeightChain (i23.rdltF OW.leads OW.ok) (Nat.le_refl _) l0).mono ?_
    rintro e w24 ⟨v_24, rfl, f24⟩
    obtain ⟨i24, t24⟩ := In.of_freshF OC.ok f24; clear f24
    have s24 := t24.size
    replace i24 := i24.widen (lo' := w22.heap.size) (hi' := w24.heap.size) (by omega) (Nat.le_refl _)
    obtain ⟨S24, ⟨lu3, lp3, S1, S2, rfl, o1, o2, eS, hS⟩, hb⟩ := i24
    have hm := Lib.hid (LocC.made (lo := w22.heap.size) (w := w24) (x := wcV z0) ⟨S24, ⟨lu3, lp3, S1, S2, rfl, o1, o2, eS, hS⟩, hb⟩ (by omega))
    obtain ⟨k1, k2, k3, rfl⟩ := o1.isSlice
    obtain ⟨k4, k5, k6, rfl⟩ := o2.isSlice
    unfold aggC
    clear o1 o2 eS hS hb
    clear q0c0 q0c1 q0c2 q0c3
    go_wp2_with fail
    go_meet
    exact ⟨_, .slice k1 k2 k3, .slice k4 k5 k6, rfl, rfl, hm.out.1, (t23.trans0 (t24)).trans0 hm.out.2⟩
  case rest =>
  obtain ⟨WX25, rfl⟩ : ∃ W, W = wc := ⟨_, rfl⟩
  obtain ⟨b25, lu125, lp125, rfl, rfl, X25, t25⟩ := hcut
  have s25 := t25.size
  have bl25 := X25.lt
  have bo25 := X25.2.2
  replace X10 := X10.keep t25 (by omega)
  replace X12 := X12.keep t25 (by omega)
  replace X14 := X14.keep t25 (by omega)
  replace q0 := q0.keep t25 (by omega)
  replace bel := Turn.below bel t25 (by omega) (by omega)
  obtain ⟨X25c0, X25c1, X25c2, X25c3, X25c4, X25c5⟩ := X25.cells
  obtain ⟨X10c0, X10c1, X10c2, X10c3, X10c4, X10c5⟩ := X10.cells
  go_wp2_with fail
  refine (eqChain_t X25.2.1 X10.2.1).mono ?_
  rintro e w26 ⟨rfl, t26⟩
  have s26 := t26.size
  clear X25c0 X25c1 X25c2 X25c3 X25c4 X25c5 X10c0 X10c1 X10c2 X10c3 X10c4 X10c5
  replace X10 := X10.keep t26 (by omega)
  replace X12 := X12.keep t26 (by omega)
  replace X14 := X14.keep t26 (by omega)
  replace X25 := X25.keep t26 (by omega)
  replace q0 := q0.keep t26 (by omega)
  replace bel := Turn.below bel t26 (by omega) (by omega)
  obtain ⟨X14c0, X14c1, X14c2, X14c3, X14c4, X14c5⟩ := X14.cells
  go_wp2_with fail
  refine (heldChain_t X14.2.1 (by omega) (by omega)).mono ?_
  rintro e w27 ⟨rfl, t27⟩
  have s27 := t27.size
  clear X14c0 X14c1 X14c2 X14c3 X14c4 X14c5
  replace X10 := X10.keep t27 (by omega)
  replace X12 := X12.keep t27 (by omega)
  replace X14 := X14.keep t27 (by omega)
  replace X25 := X25.keep t27 (by omega)
  replace q0 := q0.keep t27 (by omega)
  replace bel := Turn.below bel t27 (by omega) (by omega)
  go_wp2_with fail
  go_ret
  exact ⟨rfl, bel⟩
end Go.Proofs.Ytnpkanlieflbiaa
