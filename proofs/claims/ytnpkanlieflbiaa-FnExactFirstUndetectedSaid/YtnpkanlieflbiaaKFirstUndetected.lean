/- The walk of the law FnExactFirstUndetected: it returns true. Printed by gen_law2.py. -/
import Derived.Test.YtnpkanlieflbiaaFu6
import Derived.Test.YtnpkanlieflbiaaFu21
import Derived.Test.YtnpkanlieflbiaaH1
import Derived.Test.YtnpkanlieflbiaaS1
import Derived.Deep.DeepCutAuto
import Derived.Deep.RegionWith
namespace Go.Proofs.Ytnpkanlieflbiaa
open Go.RowKit
set_option linter.unusedVariables false

set_option maxHeartbeats 12800000 in
set_option maxRecDepth 100000 in
theorem lawExactFirstUndetected (w : World) (v0 : Value) (z0 : Chn) (r0 : RdC (· < w.heap.size) w v0 z0) (a1 : Int) :
    Calls Try.prog 10 #[v0, .int .i64 a1] w fun e w' => e = .returned (.bool true) ∧ Below w.heap.size w w' := by
  obtain ⟨pu0, pp0, rfl, hpu0, hpp0⟩ := id r0
  obtain ⟨w1, hw1, t1, g1, q0⟩ : ∃ w1, w1 = (w.alloc (.cells #[.int .i64 z0.base, .int .i64 z0.states, .int .i64 z0.start, .int .i64 z0.stop, pu0, pp0] 68)) ∧ Turn 0 0 w w1 ∧ w1.heap.size = w.heap.size + 1 ∧ ParC w.heap.size (w.heap.size) w1 pu0 pp0 z0 := by
    have bb := (Below.refl w.heap.size w).alloc (Nat.le_refl _) (.cells #[.int .i64 z0.base, .int .i64 z0.states, .int .i64 z0.start, .int .i64 z0.stop, pu0, pp0] 68)
    exact ⟨_, rfl, Turn.of_below bb, by simp, heap_alloc_new w _, RdC.ok.keep r0 fun k hk => bb.block k hk, Nat.le_refl _⟩
  have s1 := t1.size
  have bel : Below w.heap.size w w1 := t1.bel
  unfold aggC
  clear r0 hpu0 hpp0
  by_cases y0 : ((szC z0 : Nat) : Int) ≤ 1048576
  rotate_left
  · go_enter Try.func10, Try.ntmps10
    go_wp2_with fail
    rw [← hw1]
    refine (szChain_t q0.2.1 (by omega) (1048576) (by omega) (by omega)).mono ?_
    rw [szR_no (by omega)]
    rintro e w2 ⟨rfl, t2⟩
    have s2 := t2.size
    replace q0 := q0.keep t2 (by omega)
    replace bel := Turn.below bel t2 (by omega) (by omega)
    go_wp2_with fail
    go_ret
    exact ⟨rfl, bel⟩
  have l0 : szC z0 ≤ 1048576 := by omega
  have c0 := cnt_le_szC z0
  go_enter Try.func10, Try.ntmps10
  go_wp2_with fail
  rw [← hw1]
  refine (szChain_t q0.2.1 (by omega) (1048576) (by omega) (by omega)).mono ?_
  rw [szR_yes y0]
  rintro e w7 ⟨rfl, t7⟩
  have s7 := t7.size
  replace q0 := q0.keep t7 (by omega)
  replace bel := Turn.below bel t7 (by omega) (by omega)
  obtain ⟨q0c0, q0c1, q0c2, q0c3, q0c4, q0c5⟩ := q0.cells
  go_wp2_with fail
  refine (toChain_t (B := w.heap.size) q0.2.1 (by omega) l0).mono ?_
  rintro e w8 ⟨v_8, rfl, i8, t8⟩
  have s8 := t8.size
  clear q0c0 q0c1 q0c2 q0c3 q0c4 q0c5
  replace q0 := q0.keep t8 (by omega)
  replace bel := Turn.below bel t8 (by omega) (by omega)
  obtain ⟨q0c0, q0c1, q0c2, q0c3, q0c4, q0c5⟩ := q0.cells
  go_wp2_with fail
  refine (specFirstUndetected (i8.rdltF OC.leads OC.ok) (Nat.le_refl _) a1).mono ?_
  rintro e w9 ⟨rfl, b9⟩
  have t9 := Turn.of_below b9; clear b9
  have s9 := t9.size
  clear q0c0 q0c1 q0c2 q0c3 q0c4 q0c5
  replace i8 := i8.keepF OC.ok t9 (by omega)
  replace q0 := q0.keep t9 (by omega)
  replace bel := Turn.below bel t9 (by omega) (by omega)
  go_upto_region 6 with fail
  go_cut [9] (fun s0 wx => ∃ (b : Nat) (lu0 lp0 : Value), s0 = .pointer (some ⟨b, 0, none⟩) ∧ LocC w9.heap.size b wx lu0 lp0 (z0) ∧ Turn 0 0 w9 wx)
  case first =>
    obtain ⟨q0c0, q0c1, q0c2, q0c3, q0c4, q0c5⟩ := q0.cells
    go_wp2_with fail
    refine (toChain_t (B := w.heap.size) q0.2.1 (by omega) l0).mono ?_
    rintro e w10 ⟨v_10, rfl, i10, t10⟩
    have s10 := t10.size
    replace i10 := i10.widen (lo' := w9.heap.size) (hi' := w10.heap.size) (by omega) (Nat.le_refl _)
    obtain ⟨SO10, ⟨lu0, lp0, S1, S2, rfl, o1, o2, eS, hS⟩, hb⟩ := i10
    have hm := Lib.hid (LocC.made (lo := w9.heap.size) (w := w10) (x := z0) ⟨SO10, ⟨lu0, lp0, S1, S2, rfl, o1, o2, eS, hS⟩, hb⟩ (by omega))
    obtain ⟨k1, k2, k3, rfl⟩ := o1.isSlice
    obtain ⟨k4, k5, k6, rfl⟩ := o2.isSlice
    unfold aggC
    clear o1 o2 eS hS hb
    clear q0c0 q0c1 q0c2 q0c3 q0c4 q0c5
    go_wp2_with fail
    go_meet
    exact ⟨_, .slice k1 k2 k3, .slice k4 k5 k6, rfl, hm.out.1, (t10).trans0 hm.out.2⟩
  case rest =>
  obtain ⟨WX11, rfl⟩ : ∃ W, W = wc := ⟨_, rfl⟩
  obtain ⟨b11, lu111, lp111, rfl, X11, t11⟩ := hcut
  have s11 := t11.size
  have bl11 := X11.lt
  have bo11 := X11.2.2
  replace i8 := i8.keepF OC.ok t11 (by omega)
  replace q0 := q0.keep t11 (by omega)
  replace bel := Turn.below bel t11 (by omega) (by omega)
  obtain ⟨X11c0, X11c1, X11c2, X11c3, X11c4, X11c5⟩ := X11.cells
  go_wp2_with fail
  refine (implFirstUndetectedH implFirstAt (X11.2.1.rdltF OC.leads OC.ok) (Nat.le_refl _) l0 a1).mono ?_
  rintro e w12 ⟨rfl, b12⟩
  have t12 := Turn.of_below b12; clear b12
  have s12 := t12.size
  clear X11c0 X11c1 X11c2 X11c3 X11c4 X11c5
  replace X11 := X11.keep t12 (by omega)
  replace i8 := i8.keepF OC.ok t12 (by omega)
  replace q0 := q0.keep t12 (by omega)
  replace bel := Turn.below bel t12 (by omega) (by omega)
  go_upto_region 10 with fail
  go_cut [52] (fun s0 wx => s0 = .bool false ∧ Turn 0 0 w12 wx)
  case first =>
    obtain ⟨X11c0, X11c1, X11c2, X11c3, X11c4, X11c5⟩ := X11.cells
    obtain ⟨q0c0, q0c1, q0c2, q0c3, q0c4, q0c5⟩ := q0.cells
    go_region_with (first
      | (refine (toChain_t (B := w.heap.size) (RdC.ok.keep q0.2.1 (by intro _ _; rfl)) (by show _ ≤ w12.heap.size; omega) l0).mono ?_; rintro e w13 ⟨v_13, rfl, i13, t13⟩; have t13' : Turn 0 0 w12 w13 := ⟨t13.os, t13.tape, t13.output, t13.size, t13.block⟩; have x13 := X11.keep t13' (by omega); obtain ⟨xc13_0, xc13_1, xc13_2, xc13_3, xc13_4, xc13_5⟩ := x13.cells)
      | (refine (eqChain_t (In.sameF OC.ok x13.2.1 (by rfl)) (In.sameF OC.ok i13 (by rfl))).mono ?_; rintro e w14 ⟨rfl, t14⟩))
    all_goals (go_wp2_with fail; go_meet; exact ⟨rfl, t13'.trans0 ⟨t14.os, t14.tape, t14.output, t14.size, t14.block⟩⟩)
  case rest =>
  obtain ⟨WX15, rfl⟩ : ∃ W, W = wc := ⟨_, rfl⟩
  obtain ⟨rfl, t15⟩ := hcut
  have s15 := t15.size
  replace X11 := X11.keep t15 (by omega)
  replace i8 := i8.keepF OC.ok t15 (by omega)
  replace q0 := q0.keep t15 (by omega)
  replace bel := Turn.below bel t15 (by omega) (by omega)
  go_wp2_with fail
  go_ret
  exact ⟨rfl, bel⟩
end Go.Proofs.Ytnpkanlieflbiaa
