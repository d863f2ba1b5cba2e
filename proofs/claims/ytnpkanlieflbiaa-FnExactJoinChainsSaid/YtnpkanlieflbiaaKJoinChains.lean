/- The walk of the law FnExactJoinChains: it returns true. Printed by gen_law2.py. -/
import Derived.Test.YtnpkanlieflbiaaT6
import Derived.Test.YtnpkanlieflbiaaH1
import Derived.Test.YtnpkanlieflbiaaS1
import Derived.Deep.DeepCutAuto
import Derived.Deep.RegionWith
namespace Go.Proofs.Ytnpkanlieflbiaa
open Go.RowKit
set_option linter.unusedVariables false

set_option maxHeartbeats 12800000 in
set_option maxRecDepth 100000 in
theorem lawExactJoinChains (w : World) (v0 : Value) (z0 : Chn) (r0 : RdC (· < w.heap.size) w v0 z0) (v1 : Value) (z1 : Chn) (r1 : RdC (· < w.heap.size) w v1 z1) :
    Calls Try.prog 9 #[v0, v1] w fun e w' => e = .returned (.bool true) ∧ Below w.heap.size w w' := by
  have hL := jn_cnt z0 z1
  obtain ⟨pu0, pp0, rfl, hpu0, hpp0⟩ := id r0
  obtain ⟨pu1, pp1, rfl, hpu1, hpp1⟩ := id r1
  obtain ⟨w1, hw1, t1, g1, q0, q1⟩ : ∃ w1, w1 = ((w.alloc (.cells #[.int .i64 z0.base, .int .i64 z0.states, .int .i64 z0.start, .int .i64 z0.stop, pu0, pp0] 68)).alloc (.cells #[.int .i64 z1.base, .int .i64 z1.states, .int .i64 z1.start, .int .i64 z1.stop, pu1, pp1] 68)) ∧ Turn 0 0 w w1 ∧ w1.heap.size = w.heap.size + 2 ∧ ParC w.heap.size (w.heap.size) w1 pu0 pp0 z0 ∧ ParC w.heap.size (w.heap.size + 1) w1 pu1 pp1 z1 := by
    have bb := (Below.refl w.heap.size w).alloc (Nat.le_refl _) (.cells #[.int .i64 z0.base, .int .i64 z0.states, .int .i64 z0.start, .int .i64 z0.stop, pu0, pp0] 68)
    have bc := bb.alloc (by simp) (.cells #[.int .i64 z1.base, .int .i64 z1.states, .int .i64 z1.start, .int .i64 z1.stop, pu1, pp1] 68)
    have e1 := heap_alloc_new (w.alloc (.cells #[.int .i64 z0.base, .int .i64 z0.states, .int .i64 z0.start, .int .i64 z0.stop, pu0, pp0] 68)) (.cells #[.int .i64 z1.base, .int .i64 z1.states, .int .i64 z1.start, .int .i64 z1.stop, pu1, pp1] 68)
    rw [show (w.alloc (.cells #[.int .i64 z0.base, .int .i64 z0.states, .int .i64 z0.start, .int .i64 z0.stop, pu0, pp0] 68)).heap.size = w.heap.size + 1 by simp] at e1
    exact ⟨_, rfl, Turn.of_below bc, by simp, ⟨(Below.heap_alloc _ _ _ (by simp)).trans (heap_alloc_new w _), RdC.ok.keep r0 fun k hk => bc.block k hk, Nat.le_refl _⟩, e1, RdC.ok.keep r1 fun k hk => bc.block k hk, by omega⟩
  have s1 := t1.size
  have bel : Below w.heap.size w w1 := t1.bel
  unfold aggC
  clear r0 r1 hpu0 hpp0 hpu1 hpp1
  by_cases y0 : ((szC z0 : Nat) : Int) ≤ 1048576
  rotate_left
  · go_enter Try.func9, Try.ntmps9
    go_wp2_with fail
    rw [← hw1]
    refine (szChain_t q0.2.1 (by omega) (1048576) (by omega) (by omega)).mono ?_
    rw [szR_no (by omega)]
    rintro e w2 ⟨rfl, t2⟩
    have s2 := t2.size
    replace q0 := q0.keep t2 (by omega)
    replace q1 := q1.keep t2 (by omega)
    replace bel := Turn.below bel t2 (by omega) (by omega)
    go_wp2_with fail
    go_ret
    exact ⟨rfl, bel⟩
  have l0 : szC z0 ≤ 1048576 := by omega
  have c0 := cnt_le_szC z0
  by_cases y1 : ((szC z1 : Nat) : Int) ≤ 1048576 - ((szC z0 : Nat) : Int)
  rotate_left
  · go_enter Try.func9, Try.ntmps9
    go_wp2_with fail
    rw [← hw1]
    refine (szChain_t q0.2.1 (by omega) (1048576) (by omega) (by omega)).mono ?_
    rw [szR_yes y0]
    rintro e w7 ⟨rfl, t7⟩
    have s7 := t7.size
    replace q0 := q0.keep t7 (by omega)
    replace q1 := q1.keep t7 (by omega)
    replace bel := Turn.below bel t7 (by omega) (by omega)
    obtain ⟨q1c0, q1c1, q1c2, q1c3, q1c4, q1c5⟩ := q1.cells
    go_wp2_with fail
    refine (szChain_t q1.2.1 (by omega) (1048576 - ((szC z0 : Nat) : Int)) (by omega) (by omega)).mono ?_
    rw [szR_no (by omega)]
    rintro e w8 ⟨rfl, t8⟩
    have s8 := t8.size
    replace q0 := q0.keep t8 (by omega)
    replace q1 := q1.keep t8 (by omega)
    replace bel := Turn.below bel t8 (by omega) (by omega)
    clear q1c0 q1c1 q1c2 q1c3 q1c4 q1c5
    go_wp2_with fail
    go_ret
    exact ⟨rfl, bel⟩
  have l1 : szC z1 ≤ 1048576 := by omega
  have c1 := cnt_le_szC z1
  go_enter Try.func9, Try.ntmps9
  go_wp2_with fail
  rw [← hw1]
  refine (szChain_t q0.2.1 (by omega) (1048576) (by omega) (by omega)).mono ?_
  rw [szR_yes y0]
  rintro e w12 ⟨rfl, t12⟩
  have s12 := t12.size
  replace q0 := q0.keep t12 (by omega)
  replace q1 := q1.keep t12 (by omega)
  replace bel := Turn.below bel t12 (by omega) (by omega)
  obtain ⟨q1c0, q1c1, q1c2, q1c3, q1c4, q1c5⟩ := q1.cells
  go_wp2_with fail
  refine (szChain_t q1.2.1 (by omega) (1048576 - ((szC z0 : Nat) : Int)) (by omega) (by omega)).mono ?_
  rw [szR_yes y1]
  rintro e w13 ⟨rfl, t13⟩
  have s13 := t13.size
  replace q0 := q0.keep t13 (by omega)
  replace q1 := q1.keep t13 (by omega)
  replace bel := Turn.below bel t13 (by omega) (by omega)
  clear q1c0 q1c1 q1c2 q1c3 q1c4 q1c5
  go_upto_region 8 with fail
  go_cut [6, 7] (fun s0 s1 wx => ∃ (b : Nat) (lu0 lp0 : Value), s0 = .pointer (some ⟨b, 0, none⟩) ∧ s1 = .bool (jnOk z0 z1) ∧ LocR w13.heap.size wx.heap.size b wx lu0 lp0 (jnV z0 z1) ∧ Turn 0 0 w13 wx)
  case first =>
    obtain ⟨q0c0, q0c1, q0c2, q0c3, q0c4, q0c5⟩ := q0.cells
    obtain ⟨q1c0, q1c1, q1c2, q1c3, q1c4, q1c5⟩ := q1.cells
    have Hto0 := Lib.hid (show ∀ W, Below w13.heap.size w13 W → ∀ V, Below V.heap.size V W → Calls Try.prog 49 #[.agg #[.int .i64 z0.base, .int .i64 z0.states, .int .i64 z0.start, .int .i64 z0.stop, pu0, pp0]] W fun e w' => ∃ a n c b m d, e = .returned (.agg #[.int .i64 z0.base, .int .i64 z0.states, .int .i64 z0.start, .int .i64 z0.stop, .slice a n c, .slice b m d]) ∧ In OC W.heap.size w'.heap.size w' (.agg #[.int .i64 z0.base, .int .i64 z0.states, .int .i64 z0.start, .int .i64 z0.stop, .slice a n c, .slice b m d]) z0 ∧ Below W.heap.size W w' ∧ Below V.heap.size V w' ∧ Below w13.heap.size w13 w' from fun W hW V hV => by
      have hws := hW.size
      refine (toChain_t (B := w.heap.size) (RdC.ok.keep q0.2.1 fun k hk => hW.block k (by have : k < w.heap.size := hk; omega)) (by omega) l0).mono ?_
      rintro e w' ⟨v, rfl, i, t⟩
      obtain ⟨S, ⟨u, p, S1, S2, rfl, o1, o2, eS, hS⟩, hb⟩ := i
      obtain ⟨k1, k2, k3, rfl⟩ := o1.isSlice
      obtain ⟨k4, k5, k6, rfl⟩ := o2.isSlice
      exact ⟨k1, k2, k3, k4, k5, k6, rfl, ⟨S, ⟨_, _, S1, S2, rfl, o1, o2, eS, hS⟩, hb⟩, t.bel, hV.trans (t.bel.mono hV.size), hW.trans (t.bel.mono hW.size)⟩)
    have Hto1 := Lib.hid (show ∀ W, Below w13.heap.size w13 W → ∀ V, Below V.heap.size V W → Calls Try.prog 49 #[.agg #[.int .i64 z1.base, .int .i64 z1.states, .int .i64 z1.start, .int .i64 z1.stop, pu1, pp1]] W fun e w' => ∃ a n c b m d, e = .returned (.agg #[.int .i64 z1.base, .int .i64 z1.states, .int .i64 z1.start, .int .i64 z1.stop, .slice a n c, .slice b m d]) ∧ In OC W.heap.size w'.heap.size w' (.agg #[.int .i64 z1.base, .int .i64 z1.states, .int .i64 z1.start, .int .i64 z1.stop, .slice a n c, .slice b m d]) z1 ∧ Below W.heap.size W w' ∧ Below V.heap.size V w' ∧ Below w13.heap.size w13 w' from fun W hW V hV => by
      have hws := hW.size
      refine (toChain_t (B := w.heap.size) (RdC.ok.keep q1.2.1 fun k hk => hW.block k (by have : k < w.heap.size := hk; omega)) (by omega) l1).mono ?_
      rintro e w' ⟨v, rfl, i, t⟩
      obtain ⟨S, ⟨u, p, S1, S2, rfl, o1, o2, eS, hS⟩, hb⟩ := i
      obtain ⟨k1, k2, k3, rfl⟩ := o1.isSlice
      obtain ⟨k4, k5, k6, rfl⟩ := o2.isSlice
      exact ⟨k1, k2, k3, k4, k5, k6, rfl, ⟨S, ⟨_, _, S1, S2, rfl, o1, o2, eS, hS⟩, hb⟩, t.bel, hV.trans (t.bel.mono hV.size), hW.trans (t.bel.mono hW.size)⟩)
    have Hsp := Lib.hid (show ∀ W, Below w13.heap.size w13 W → ∀ V, Below V.heap.size V W → ∀ va vb lo1 hi1 lo2 hi2, In OC lo1 hi1 V va z0 → In OC lo2 hi2 V vb z1 → Calls Try.prog 48 #[va, vb] W fun e w' => ∃ a n c b m d, e = .returned (.tuple #[.agg #[.int .i64 (jnV z0 z1).base, .int .i64 (jnV z0 z1).states, .int .i64 (jnV z0 z1).start, .int .i64 (jnV z0 z1).stop, .slice a n c, .slice b m d], .bool (jnOk z0 z1)]) ∧ Fresh OC W w' (.agg #[.int .i64 (jnV z0 z1).base, .int .i64 (jnV z0 z1).states, .int .i64 (jnV z0 z1).start, .int .i64 (jnV z0 z1).stop, .slice a n c, .slice b m d]) (jnV z0 z1) ∧ Below w13.heap.size w13 w' from fun W hW V hV va vb lo1 hi1 lo2 hi2 hia hib => by
      refine (specJoinChains ((hia.keepF OC.ok (Turn.of_below hV) (.inl (Nat.zero_le _))).rdltF OC.leads OC.ok) ((hib.keepF OC.ok (Turn.of_below hV) (.inl (Nat.zero_le _))).rdltF OC.leads OC.ok) (Nat.le_refl _)).mono ?_
      rintro e w' ⟨v, rfl, f⟩
      obtain ⟨u, p, rfl, a, n, c, b, m, d, rfl, rfl⟩ := f.aggC
      exact ⟨a, n, c, b, m, d, rfl, f, hW.trans (f.bel.mono hW.size)⟩)
    clear q0c0 q0c1 q0c2 q0c3 q0c4 q0c5 q1c0 q1c1 q1c2 q1c3 q1c4 q1c5
    obtain ⟨q0c0, q0c1, q0c2, q0c3, q0c4, q0c5⟩ := q0.cells
    obtain ⟨q1c0, q1c1, q1c2, q1c3, q1c4, q1c5⟩ := q1.cells
    have hsc := Lib.hid (show ∀ w', Below w13.heap.size w13 w' → (w'.cell? ⟨w.heap.size, 0, none⟩ = some (.int .i64 z0.base) ∧ w'.cell? ⟨w.heap.size, 1, none⟩ = some (.int .i64 z0.states) ∧ w'.cell? ⟨w.heap.size, 2, none⟩ = some (.int .i64 z0.start) ∧ w'.cell? ⟨w.heap.size, 3, none⟩ = some (.int .i64 z0.stop) ∧ w'.cell? ⟨w.heap.size, 4, none⟩ = some pu0 ∧ w'.cell? ⟨w.heap.size, 5, none⟩ = some pp0 ∧ w'.cell? ⟨w.heap.size + 1, 0, none⟩ = some (.int .i64 z1.base) ∧ w'.cell? ⟨w.heap.size + 1, 1, none⟩ = some (.int .i64 z1.states) ∧ w'.cell? ⟨w.heap.size + 1, 2, none⟩ = some (.int .i64 z1.start) ∧ w'.cell? ⟨w.heap.size + 1, 3, none⟩ = some (.int .i64 z1.stop) ∧ w'.cell? ⟨w.heap.size + 1, 4, none⟩ = some pu1 ∧ w'.cell? ⟨w.heap.size + 1, 5, none⟩ = some pp1) ∧ Below w13.heap.size w13 w' from fun W hW => ⟨⟨(hW.cell (p := ⟨w.heap.size, 0, none⟩) (by show w.heap.size < _; omega)).trans q0c0, (hW.cell (p := ⟨w.heap.size, 1, none⟩) (by show w.heap.size < _; omega)).trans q0c1, (hW.cell (p := ⟨w.heap.size, 2, none⟩) (by show w.heap.size < _; omega)).trans q0c2, (hW.cell (p := ⟨w.heap.size, 3, none⟩) (by show w.heap.size < _; omega)).trans q0c3, (hW.cell (p := ⟨w.heap.size, 4, none⟩) (by show w.heap.size < _; omega)).trans q0c4, (hW.cell (p := ⟨w.heap.size, 5, none⟩) (by show w.heap.size < _; omega)).trans q0c5, (hW.cell (p := ⟨w.heap.size + 1, 0, none⟩) (by show w.heap.size + 1 < _; omega)).trans q1c0, (hW.cell (p := ⟨w.heap.size + 1, 1, none⟩) (by show w.heap.size + 1 < _; omega)).trans q1c1, (hW.cell (p := ⟨w.heap.size + 1, 2, none⟩) (by show w.heap.size + 1 < _; omega)).trans q1c2, (hW.cell (p := ⟨w.heap.size + 1, 3, none⟩) (by show w.heap.size + 1 < _; omega)).trans q1c3, (hW.cell (p := ⟨w.heap.size + 1, 4, none⟩) (by show w.heap.size + 1 < _; omega)).trans q1c4, (hW.cell (p := ⟨w.heap.size + 1, 5, none⟩) (by show w.heap.size + 1 < _; omega)).trans q1c5⟩, hW⟩)
    clear q0c0 q0c1 q0c2 q0c3 q0c4 q0c5 q1c0 q1c1 q1c2 q1c3 q1c4 q1c5
    have hlq0 : w.heap.size < w13.heap.size := by omega
    have hlq1 : w.heap.size + 1 < w13.heap.size := by omega
    go_region_held3 (fun w' => (w'.cell? ⟨w.heap.size, 0, none⟩ = some (.int .i64 z0.base) ∧ w'.cell? ⟨w.heap.size, 1, none⟩ = some (.int .i64 z0.states) ∧ w'.cell? ⟨w.heap.size, 2, none⟩ = some (.int .i64 z0.start) ∧ w'.cell? ⟨w.heap.size, 3, none⟩ = some (.int .i64 z0.stop) ∧ w'.cell? ⟨w.heap.size, 4, none⟩ = some pu0 ∧ w'.cell? ⟨w.heap.size, 5, none⟩ = some pp0 ∧ w'.cell? ⟨w.heap.size + 1, 0, none⟩ = some (.int .i64 z1.base) ∧ w'.cell? ⟨w.heap.size + 1, 1, none⟩ = some (.int .i64 z1.states) ∧ w'.cell? ⟨w.heap.size + 1, 2, none⟩ = some (.int .i64 z1.start) ∧ w'.cell? ⟨w.heap.size + 1, 3, none⟩ = some (.int .i64 z1.stop) ∧ w'.cell? ⟨w.heap.size + 1, 4, none⟩ = some pu1 ∧ w'.cell? ⟨w.heap.size + 1, 5, none⟩ = some pp1) ∧ Below w13.heap.size w13 w') ((refine hsc.out _ ?_; repeat' (first | with_reducible exact HC.out | with_reducible exact HB.out | with_reducible exact HA.out | with_reducible exact Below.refl _ _ | with_reducible refine Below.drew ?_ | with_reducible refine Below.alloc ?_ ?_ _ | with_reducible refine Below.setCell ?_ ?_ _ | (show _ ≤ _; have h5 := HC.out.size; simp; omega) | (show _ ≤ _; have h5 := HB.out.size; simp; omega) | (show _ ≤ _; have h5 := HA.out.size; simp; omega) | (show _ ≤ _; simp; omega) | (show _ ≤ _; simp)))) (first
      | ((with_reducible refine (Calls.mono (Hto0.out _ (‹_ ∧ Below w13.heap.size w13 _›).2 _ (Below.refl _ _)) ?_)); rintro e wA ⟨aA, nA, cA, bA, mA, dA, rfl, iA, bw, bV, bP⟩; have HiA := Lib.hid iA; have HA := Lib.hid bP; have hzA := bP.size; have sA := hsc.out _ bP; (try (have hyA := below_heap bw (k := w13.heap.size) (o := (.cells #[.int .i64 0, .int .i64 0, .int .i64 0, .int .i64 0, .slice none 0 0, .slice none 0 0] 28 (0, 0))) (by first | exact alloc_at (by first | rfl | (simp; done)) | exact alloc_at rfl); have yA0 := heap_cell hyA (i := 0) rfl; have gA0 := frozen_at hyA 0; have yA1 := heap_cell hyA (i := 1) rfl; have gA1 := frozen_at hyA 1; have yA2 := heap_cell hyA (i := 2) rfl; have gA2 := frozen_at hyA 2; have yA3 := heap_cell hyA (i := 3) rfl; have gA3 := frozen_at hyA 3; have yA4 := heap_cell hyA (i := 4) rfl; have gA4 := frozen_at hyA 4; have yA5 := heap_cell hyA (i := 5) rfl; have gA5 := frozen_at hyA 5; have HyA := Lib.hid hyA; have hylA := heap_lt hyA; clear hyA)); clear iA bw bV bP)
      | ((with_reducible refine (Calls.mono (Hto1.out _ (‹_ ∧ Below w13.heap.size w13 _›).2 wA (by repeat' (first | with_reducible exact Below.refl _ _ | with_reducible refine Below.drew ?_ | with_reducible refine Below.alloc ?_ ?_ _ | omega | (simp; done) | (simp; omega)))) ?_)); rintro e wB ⟨aB, nB, cB, bB, mB, dB, rfl, iB, bw, bV, bP⟩; have HiB := Lib.hid iB; have HVA := Lib.hid bV; have HiA2 := Lib.hid (HiA.out.keepF OC.ok (Turn.of_below bV) (.inl (Nat.zero_le _))); have HB := Lib.hid bP; have hzB := bV.size; have sB := hsc.out _ bP; (try (have hyB := below_heap bw (k := w13.heap.size) (o := (.cells #[.int .i64 0, .int .i64 0, .int .i64 0, .int .i64 0, .slice none 0 0, .slice none 0 0] 28 (0, 0))) (by first | exact alloc_at (by first | rfl | (simp; done)) | exact HyA.out); have yB0 := heap_cell hyB (i := 0) rfl; have gB0 := frozen_at hyB 0; have yB1 := heap_cell hyB (i := 1) rfl; have gB1 := frozen_at hyB 1; have yB2 := heap_cell hyB (i := 2) rfl; have gB2 := frozen_at hyB 2; have yB3 := heap_cell hyB (i := 3) rfl; have gB3 := frozen_at hyB 3; have yB4 := heap_cell hyB (i := 4) rfl; have gB4 := frozen_at hyB 4; have yB5 := heap_cell hyB (i := 5) rfl; have gB5 := frozen_at hyB 5; have HyB := Lib.hid hyB; have hylB := heap_lt hyB; clear hyB)); (try (have hyB := below_heap bw (k := wA.heap.size) (o := (.cells #[.int .i64 0, .int .i64 0, .int .i64 0, .int .i64 0, .slice none 0 0, .slice none 0 0] 28 (0, 0))) (by first | exact alloc_at (by first | rfl | (simp; done)) | exact alloc_at rfl); have yB0 := heap_cell hyB (i := 0) rfl; have gB0 := frozen_at hyB 0; have yB1 := heap_cell hyB (i := 1) rfl; have gB1 := frozen_at hyB 1; have yB2 := heap_cell hyB (i := 2) rfl; have gB2 := frozen_at hyB 2; have yB3 := heap_cell hyB (i := 3) rfl; have gB3 := frozen_at hyB 3; have yB4 := heap_cell hyB (i := 4) rfl; have gB4 := frozen_at hyB 4; have yB5 := heap_cell hyB (i := 5) rfl; have gB5 := frozen_at hyB 5; have HyB := Lib.hid hyB; have hylB := heap_lt hyB; clear hyB)); clear iB bw bV bP)
      | ((with_reducible refine (Calls.mono (Hsp.out _ (‹_ ∧ Below w13.heap.size w13 _›).2 wB (by repeat' (first | with_reducible exact Below.refl _ _ | with_reducible refine Below.drew ?_ | with_reducible refine Below.alloc ?_ ?_ _ | omega | (simp; done) | (simp; omega))) _ _ _ _ _ _ HiA2.out HiB.out) ?_)); rintro e wC ⟨aC, nC, cC, bC, mC, dC, rfl, fC, bP⟩; have HfC := Lib.hid fC; have HC := Lib.hid bP; have bw := fC.bel; have hzC := bw.size; have sC := hsc.out _ bP; (try (have hyC := below_heap bw (k := w13.heap.size) (o := (.cells #[.int .i64 0, .int .i64 0, .int .i64 0, .int .i64 0, .slice none 0 0, .slice none 0 0] 28 (0, 0))) (by first | exact alloc_at (by first | rfl | (simp; done)) | exact HyB.out); have yC0 := heap_cell hyC (i := 0) rfl; have gC0 := frozen_at hyC 0; have yC1 := heap_cell hyC (i := 1) rfl; have gC1 := frozen_at hyC 1; have yC2 := heap_cell hyC (i := 2) rfl; have gC2 := frozen_at hyC 2; have yC3 := heap_cell hyC (i := 3) rfl; have gC3 := frozen_at hyC 3; have yC4 := heap_cell hyC (i := 4) rfl; have gC4 := frozen_at hyC 4; have yC5 := heap_cell hyC (i := 5) rfl; have gC5 := frozen_at hyC 5; have HyC := Lib.hid hyC; have hylC := heap_lt hyC; clear hyC)); (try (have hyC := below_heap bw (k := wA.heap.size) (o := (.cells #[.int .i64 0, .int .i64 0, .int .i64 0, .int .i64 0, .slice none 0 0, .slice none 0 0] 28 (0, 0))) (by first | exact alloc_at (by first | rfl | (simp; done)) | exact HyB.out); have yC0 := heap_cell hyC (i := 0) rfl; have gC0 := frozen_at hyC 0; have yC1 := heap_cell hyC (i := 1) rfl; have gC1 := frozen_at hyC 1; have yC2 := heap_cell hyC (i := 2) rfl; have gC2 := frozen_at hyC 2; have yC3 := heap_cell hyC (i := 3) rfl; have gC3 := frozen_at hyC 3; have yC4 := heap_cell hyC (i := 4) rfl; have gC4 := frozen_at hyC 4; have yC5 := heap_cell hyC (i := 5) rfl; have gC5 := frozen_at hyC 5; have HyC := Lib.hid hyC; have hylC := heap_lt hyC; clear hyC)); (try (have hyC := below_heap bw (k := wB.heap.size) (o := (.cells #[.int .i64 0, .int .i64 0, .int .i64 0, .int .i64 0, .slice none 0 0, .slice none 0 0] 28 (0, 0))) (by first | exact alloc_at (by first | rfl | (simp; done)) | exact alloc_at rfl); have yC0 := heap_cell hyC (i := 0) rfl; have gC0 := frozen_at hyC 0; have yC1 := heap_cell hyC (i := 1) rfl; have gC1 := frozen_at hyC 1; have yC2 := heap_cell hyC (i := 2) rfl; have gC2 := frozen_at hyC 2; have yC3 := heap_cell hyC (i := 3) rfl; have gC3 := frozen_at hyC 3; have yC4 := heap_cell hyC (i := 4) rfl; have gC4 := frozen_at hyC 4; have yC5 := heap_cell hyC (i := 5) rfl; have gC5 := frozen_at hyC 5; have HyC := Lib.hid hyC; have hylC := heap_lt hyC; clear hyC)); have HbC := Lib.hid bw; clear fC bw bP))
    all_goals (go_wp2_with fail)
    all_goals go_meet
    all_goals
      repeat apply Exists.intro
      refine ⟨rfl, rfl, ?fin⟩
      case fin =>
        first
        | ((with_reducible refine LocR.last (x := jnV z0 z1) HfC.out HC.out ?_); (first | omega | (simp; omega)))
        | ((with_reducible refine LocR.first (x := jnV z0 z1) HfC.out HC.out ?_ ?_ ?_ HyC.out); (first | omega | (simp; omega)); (first | omega | (simp; omega)); (first | omega | (simp; done) | (simp; omega)))
  case rest =>
  obtain ⟨WX15, rfl⟩ : ∃ W, W = wc := ⟨_, rfl⟩
  obtain ⟨b15, lu115, lp115, rfl, rfl, X15, t15⟩ := hcut
  have s15 := t15.size
  have bl15 := X15.lt
  have bo15 := X15.2.2
  replace q0 := q0.keep t15 (by omega)
  replace q1 := q1.keep t15 (by omega)
  replace bel := Turn.below bel t15 (by omega) (by omega)
  go_upto_region 9 with fail
  go_cut [8] (fun s0 wx => ∃ (b : Nat) (lu1 lp1 : Value), s0 = .pointer (some ⟨b, 0, none⟩) ∧ LocC WX15.heap.size b wx lu1 lp1 (z0) ∧ Turn 0 0 WX15 wx)
  case first =>
    obtain ⟨q0c0, q0c1, q0c2, q0c3, q0c4, q0c5⟩ := q0.cells
    go_wp2_with fail
    refine (toChain_t (B := w.heap.size) q0.2.1 (by omega) l0).mono ?_
    rintro e w16 ⟨v_16, rfl, i16, t16⟩
    have s16 := t16.size
    replace i16 := i16.widen (lo' := WX15.heap.size) (hi' := w16.heap.size) (by omega) (Nat.le_refl _)
    obtain ⟨S16, ⟨lu1, lp1, S1, S2, rfl, o1, o2, eS, hS⟩, hb⟩ := i16
    have hm := Lib.hid (LocC.made (lo := WX15.heap.size) (w := w16) (x := z0) ⟨S16, ⟨lu1, lp1, S1, S2, rfl, o1, o2, eS, hS⟩, hb⟩ (by omega))
    obtain ⟨k1, k2, k3, rfl⟩ := o1.isSlice
    obtain ⟨k4, k5, k6, rfl⟩ := o2.isSlice
    unfold aggC
    clear o1 o2 eS hS hb
    clear q0c0 q0c1 q0c2 q0c3 q0c4 q0c5
    go_wp2_with fail
    go_meet
    exact ⟨_, .slice k1 k2 k3, .slice k4 k5 k6, rfl, hm.out.1, (t16).trans0 hm.out.2⟩
  case rest =>
  obtain ⟨WX17, rfl⟩ : ∃ W, W = wc := ⟨_, rfl⟩
  obtain ⟨b17, lu117, lp117, rfl, X17, t17⟩ := hcut
  have s17 := t17.size
  have bl17 := X17.lt
  have bo17 := X17.2.2
  replace X15 := X15.keep t17 (by omega)
  replace q0 := q0.keep t17 (by omega)
  replace q1 := q1.keep t17 (by omega)
  replace bel := Turn.below bel t17 (by omega) (by omega)
  go_upto_region 10 with fail
  go_cut [9] (fun s0 wx => ∃ (b : Nat) (lu2 lp2 : Value), s0 = .pointer (some ⟨b, 0, none⟩) ∧ LocC WX17.heap.size b wx lu2 lp2 (z1) ∧ Turn 0 0 WX17 wx)
  case first =>
    obtain ⟨q1c0, q1c1, q1c2, q1c3, q1c4, q1c5⟩ := q1.cells
    go_wp2_with fail
    refine (toChain_t (B := w.heap.size) q1.2.1 (by omega) l1).mono ?_
    rintro e w18 ⟨v_18, rfl, i18, t18⟩
    have s18 := t18.size
    replace i18 := i18.widen (lo' := WX17.heap.size) (hi' := w18.heap.size) (by omega) (Nat.le_refl _)
    obtain ⟨S18, ⟨lu2, lp2, S1, S2, rfl, o1, o2, eS, hS⟩, hb⟩ := i18
    have hm := Lib.hid (LocC.made (lo := WX17.heap.size) (w := w18) (x := z1) ⟨S18, ⟨lu2, lp2, S1, S2, rfl, o1, o2, eS, hS⟩, hb⟩ (by omega))
    obtain ⟨k1, k2, k3, rfl⟩ := o1.isSlice
    obtain ⟨k4, k5, k6, rfl⟩ := o2.isSlice
    unfold aggC
    clear o1 o2 eS hS hb
    clear q1c0 q1c1 q1c2 q1c3 q1c4 q1c5
    go_wp2_with fail
    go_meet
    exact ⟨_, .slice k1 k2 k3, .slice k4 k5 k6, rfl, hm.out.1, (t18).trans0 hm.out.2⟩
  case rest =>
  obtain ⟨WX19, rfl⟩ : ∃ W, W = wc := ⟨_, rfl⟩
  obtain ⟨b19, lu119, lp119, rfl, X19, t19⟩ := hcut
  have s19 := t19.size
  have bl19 := X19.lt
  have bo19 := X19.2.2
  replace X15 := X15.keep t19 (by omega)
  replace X17 := X17.keep t19 (by omega)
  replace q0 := q0.keep t19 (by omega)
  replace q1 := q1.keep t19 (by omega)
  replace bel := Turn.below bel t19 (by omega) (by omega)
  go_upto_region 11 with fail
  go_cut [10, 11] (fun s0 s1 wx => ∃ (b : Nat) (lu3 lp3 : Value), s0 = .pointer (some ⟨b, 0, none⟩) ∧ s1 = .bool (jnOk z0 z1) ∧ LocC WX19.heap.size b wx lu3 lp3 (jnV z0 z1) ∧ Turn 0 0 WX19 wx)
  case first =>
    obtain ⟨X17c0, X17c1, X17c2, X17c3, X17c4, X17c5⟩ := X17.cells
    obtain ⟨X19c0, X19c1, X19c2, X19c3, X19c4, X19c5⟩ := X19.cells
    go_wp2_with fail
    refine (implJoinChains (X17.2.1.rdltF OC.leads OC.ok) (X19.2.1.rdltF OC.leads OC.ok) (Nat.le_refl _) l0 l1).mono ?_
    rintro e w20 ⟨v_20, rfl, f20⟩
    obtain ⟨i20, t20⟩ := In.of_freshF OC.ok f20; clear f20
    have s20 := t20.size
    replace i20 := i20.widen (lo' := WX19.heap.size) (hi' := w20.heap.size) (by omega) (Nat.le_refl _)
    obtain ⟨S20, ⟨lu3, lp3, S1, S2, rfl, o1, o2, eS, hS⟩, hb⟩ := i20
    have hm := Lib.hid (LocC.made (lo := WX19.heap.size) (w := w20) (x := jnV z0 z1) ⟨S20, ⟨lu3, lp3, S1, S2, rfl, o1, o2, eS, hS⟩, hb⟩ (by omega))
    obtain ⟨k1, k2, k3, rfl⟩ := o1.isSlice
    obtain ⟨k4, k5, k6, rfl⟩ := o2.isSlice
    unfold aggC
    clear o1 o2 eS hS hb
    clear X17c0 X17c1 X17c2 X17c3 X17c4 X17c5 X19c0 X19c1 X19c2 X19c3 X19c4 X19c5
    go_wp2_with fail
    go_meet
    exact ⟨_, .slice k1 k2 k3, .slice k4 k5 k6, rfl, rfl, hm.out.1, (t20).trans0 hm.out.2⟩
  case rest =>
  obtain ⟨WX21, rfl⟩ : ∃ W, W = wc := ⟨_, rfl⟩
  obtain ⟨b21, lu121, lp121, rfl, rfl, X21, t21⟩ := hcut
  have s21 := t21.size
  have bl21 := X21.lt
  have bo21 := X21.2.2
  replace X15 := X15.keep t21 (by omega)
  replace X17 := X17.keep t21 (by omega)
  replace X19 := X19.keep t21 (by omega)
  replace q0 := q0.keep t21 (by omega)
  replace q1 := q1.keep t21 (by omega)
  replace bel := Turn.below bel t21 (by omega) (by omega)
  obtain ⟨X21c0, X21c1, X21c2, X21c3, X21c4, X21c5⟩ := X21.cells
  obtain ⟨X15c0, X15c1, X15c2, X15c3, X15c4, X15c5⟩ := X15.cells
  go_wp2_with fail
  refine (eqChain_t X21.2.1 X15.2.1).mono ?_
  rintro e w22 ⟨rfl, t22⟩
  have s22 := t22.size
  clear X21c0 X21c1 X21c2 X21c3 X21c4 X21c5 X15c0 X15c1 X15c2 X15c3 X15c4 X15c5
  replace X15 := X15.keep t22 (by omega)
  replace X17 := X17.keep t22 (by omega)
  replace X19 := X19.keep t22 (by omega)
  replace X21 := X21.keep t22 (by omega)
  replace q0 := q0.keep t22 (by omega)
  replace q1 := q1.keep t22 (by omega)
  replace bel := Turn.below bel t22 (by omega) (by omega)
  go_upto_region 14 with fail
  go_cut [58] (fun s0 wx => s0 = .bool false ∧ Turn 0 0 w22 wx)
  case first =>
    obtain ⟨X17c0, X17c1, X17c2, X17c3, X17c4, X17c5⟩ := X17.cells
    obtain ⟨q0c0, q0c1, q0c2, q0c3, q0c4, q0c5⟩ := q0.cells
    go_region_with (first
      | (refine (toChain_t (B := w.heap.size) (RdC.ok.keep q0.2.1 (by intro _ _; rfl)) (by show _ ≤ w22.heap.size; omega) l0).mono ?_; rintro e w23 ⟨v_23, rfl, i23, t23⟩; have t23' : Turn 0 0 w22 w23 := ⟨t23.os, t23.tape, t23.output, t23.size, t23.block⟩; have x23 := X17.keep t23' (by omega); obtain ⟨xc23_0, xc23_1, xc23_2, xc23_3, xc23_4, xc23_5⟩ := x23.cells)
      | (refine (eqChain_t (In.sameF OC.ok x23.2.1 (by rfl)) (In.sameF OC.ok i23 (by rfl))).mono ?_; rintro e w24 ⟨rfl, t24⟩))
    all_goals (go_wp2_with fail; go_meet; exact ⟨rfl, t23'.trans0 ⟨t24.os, t24.tape, t24.output, t24.size, t24.block⟩⟩)
  case rest =>
  obtain ⟨WX25, rfl⟩ : ∃ W, W = wc := ⟨_, rfl⟩
  obtain ⟨rfl, t25⟩ := hcut
  have s25 := t25.size
  replace X15 := X15.keep t25 (by omega)
  replace X17 := X17.keep t25 (by omega)
  replace X19 := X19.keep t25 (by omega)
  replace X21 := X21.keep t25 (by omega)
  replace q0 := q0.keep t25 (by omega)
  replace q1 := q1.keep t25 (by omega)
  replace bel := Turn.below bel t25 (by omega) (by omega)
  go_upto_region 16 with fail
  go_cut [63] (fun s0 wx => s0 = .bool false ∧ Turn 0 0 WX25 wx)
  case first =>
    obtain ⟨X19c0, X19c1, X19c2, X19c3, X19c4, X19c5⟩ := X19.cells
    obtain ⟨q1c0, q1c1, q1c2, q1c3, q1c4, q1c5⟩ := q1.cells
    go_region_with (first
      | (refine (toChain_t (B := w.heap.size) (RdC.ok.keep q1.2.1 (by intro _ _; rfl)) (by show _ ≤ WX25.heap.size; omega) l1).mono ?_; rintro e w26 ⟨v_26, rfl, i26, t26⟩; have t26' : Turn 0 0 WX25 w26 := ⟨t26.os, t26.tape, t26.output, t26.size, t26.block⟩; have x26 := X19.keep t26' (by omega); obtain ⟨xc26_0, xc26_1, xc26_2, xc26_3, xc26_4, xc26_5⟩ := x26.cells)
      | (refine (eqChain_t (In.sameF OC.ok x26.2.1 (by rfl)) (In.sameF OC.ok i26 (by rfl))).mono ?_; rintro e w27 ⟨rfl, t27⟩))
    all_goals (go_wp2_with fail; go_meet; exact ⟨rfl, t26'.trans0 ⟨t27.os, t27.tape, t27.output, t27.size, t27.block⟩⟩)
  case rest =>
  obtain ⟨WX28, rfl⟩ : ∃ W, W = wc := ⟨_, rfl⟩
  obtain ⟨rfl, t28⟩ := hcut
  have s28 := t28.size
  replace X15 := X15.keep t28 (by omega)
  replace X17 := X17.keep t28 (by omega)
  replace X19 := X19.keep t28 (by omega)
  replace X21 := X21.keep t28 (by omega)
  replace q0 := q0.keep t28 (by omega)
  replace q1 := q1.keep t28 (by omega)
  replace bel := Turn.below bel t28 (by omega) (by omega)
  obtain ⟨X17c0, X17c1, X17c2, X17c3, X17c4, X17c5⟩ := X17.cells
  go_wp2_with fail
  refine (markChain_t X17.2.1 (by omega) (by omega)).mono ?_
  rintro e w29 ⟨rfl, j29, t29⟩
  have s29 := t29.size
  clear X17c0 X17c1 X17c2 X17c3 X17c4 X17c5
  replace X15 := X15.keep t29 (by omega)
  replace X19 := X19.keep t29 (by omega)
  replace X21 := X21.keep t29 (by omega)
  replace q0 := q0.keep t29 (by omega)
  replace q1 := q1.keep t29 (by omega)
  replace bel := Turn.below bel t29 (by omega) (by omega)
  replace X17 := X17.turn t29 j29
  clear j29
  obtain ⟨X19c0, X19c1, X19c2, X19c3, X19c4, X19c5⟩ := X19.cells
  go_wp2_with fail
  refine (markChain_t X19.2.1 (by omega) (by omega)).mono ?_
  rintro e w30 ⟨rfl, j30, t30⟩
  have s30 := t30.size
  clear X19c0 X19c1 X19c2 X19c3 X19c4 X19c5
  replace X15 := X15.keep t30 (by omega)
  replace X17 := X17.keep t30 (by omega)
  replace X21 := X21.keep t30 (by omega)
  replace q0 := q0.keep t30 (by omega)
  replace q1 := q1.keep t30 (by omega)
  replace bel := Turn.below bel t30 (by omega) (by omega)
  replace X19 := X19.turn t30 j30
  clear j30
  obtain ⟨X21c0, X21c1, X21c2, X21c3, X21c4, X21c5⟩ := X21.cells
  obtain ⟨X15c0, X15c1, X15c2, X15c3, X15c4, X15c5⟩ := X15.cells
  go_wp2_with fail
  refine (eqChain_t X21.2.1 X15.2.1).mono ?_
  rintro e w31 ⟨rfl, t31⟩
  have s31 := t31.size
  clear X21c0 X21c1 X21c2 X21c3 X21c4 X21c5 X15c0 X15c1 X15c2 X15c3 X15c4 X15c5
  replace X15 := X15.keep t31 (by omega)
  replace X17 := X17.keep t31 (by omega)
  replace X19 := X19.keep t31 (by omega)
  replace X21 := X21.keep t31 (by omega)
  replace q0 := q0.keep t31 (by omega)
  replace q1 := q1.keep t31 (by omega)
  replace bel := Turn.below bel t31 (by omega) (by omega)
  obtain ⟨X21c0, X21c1, X21c2, X21c3, X21c4, X21c5⟩ := X21.cells
  go_wp2_with fail
  refine (markChain_t X21.2.1 (by omega) (by omega)).mono ?_
  rintro e w32 ⟨rfl, j32, t32⟩
  have s32 := t32.size
  clear X21c0 X21c1 X21c2 X21c3 X21c4 X21c5
  replace X15 := X15.keep t32 (by omega)
  replace X17 := X17.keep t32 (by omega)
  replace X19 := X19.keep t32 (by omega)
  replace q0 := q0.keep t32 (by omega)
  replace q1 := q1.keep t32 (by omega)
  replace bel := Turn.below bel t32 (by omega) (by omega)
  replace X21 := X21.turn t32 j32
  clear j32
  obtain ⟨X21c0, X21c1, X21c2, X21c3, X21c4, X21c5⟩ := X21.cells
  go_wp2_with fail
  refine (heldChain_t X21.2.1 (by omega) (by omega)).mono ?_
  rintro e w33 ⟨rfl, t33⟩
  have s33 := t33.size
  clear X21c0 X21c1 X21c2 X21c3 X21c4 X21c5
  replace X15 := X15.keep t33 (by omega)
  replace X17 := X17.keep t33 (by omega)
  replace X19 := X19.keep t33 (by omega)
  replace X21 := X21.keep t33 (by omega)
  replace q0 := q0.keep t33 (by omega)
  replace q1 := q1.keep t33 (by omega)
  replace bel := Turn.below bel t33 (by omega) (by omega)
  go_upto_region 31 with fail
  go_cut [15, 16] (fun s0 s1 wx => ∃ (b : Nat) (lu4 lp4 : Value), s0 = .pointer (some ⟨b, 0, none⟩) ∧ s1 = .bool (jnOk z0 z1) ∧ LocR w33.heap.size wx.heap.size b wx lu4 lp4 (jnV z0 z1) ∧ Turn 0 0 w33 wx)
  case first =>
    obtain ⟨q0c0, q0c1, q0c2, q0c3, q0c4, q0c5⟩ := q0.cells
    obtain ⟨q1c0, q1c1, q1c2, q1c3, q1c4, q1c5⟩ := q1.cells
    have Hto0 := Lib.hid (show ∀ W, Below w33.heap.size w33 W → ∀ V, Below V.heap.size V W → Calls Try.prog 49 #[.agg #[.int .i64 z0.base, .int .i64 z0.states, .int .i64 z0.start, .int .i64 z0.stop, pu0, pp0]] W fun e w' => ∃ a n c b m d, e = .returned (.agg #[.int .i64 z0.base, .int .i64 z0.states, .int .i64 z0.start, .int .i64 z0.stop, .slice a n c, .slice b m d]) ∧ In OC W.heap.size w'.heap.size w' (.agg #[.int .i64 z0.base, .int .i64 z0.states, .int .i64 z0.start, .int .i64 z0.stop, .slice a n c, .slice b m d]) z0 ∧ Below W.heap.size W w' ∧ Below V.heap.size V w' ∧ Below w33.heap.size w33 w' from fun W hW V hV => by
      have hws := hW.size
      refine (toChain_t (B := w.heap.size) (RdC.ok.keep q0.2.1 fun k hk => hW.block k (by have : k < w.heap.size := hk; omega)) (by omega) l0).mono ?_
      rintro e w' ⟨v, rfl, i, t⟩
      obtain ⟨S, ⟨u, p, S1, S2, rfl, o1, o2, eS, hS⟩, hb⟩ := i
      obtain ⟨k1, k2, k3, rfl⟩ := o1.isSlice
      obtain ⟨k4, k5, k6, rfl⟩ := o2.isSlice
      exact ⟨k1, k2, k3, k4, k5, k6, rfl, ⟨S, ⟨_, _, S1, S2, rfl, o1, o2, eS, hS⟩, hb⟩, t.bel, hV.trans (t.bel.mono hV.size), hW.trans (t.bel.mono hW.size)⟩)
    have Hto1 := Lib.hid (show ∀ W, Below w33.heap.size w33 W → ∀ V, Below V.heap.size V W → Calls Try.prog 49 #[.agg #[.int .i64 z1.base, .int .i64 z1.states, .int .i64 z1.start, .int .i64 z1.stop, pu1, pp1]] W fun e w' => ∃ a n c b m d, e = .returned (.agg #[.int .i64 z1.base, .int .i64 z1.states, .int .i64 z1.start, .int .i64 z1.stop, .slice a n c, .slice b m d]) ∧ In OC W.heap.size w'.heap.size w' (.agg #[.int .i64 z1.base, .int .i64 z1.states, .int .i64 z1.start, .int .i64 z1.stop, .slice a n c, .slice b m d]) z1 ∧ Below W.heap.size W w' ∧ Below V.heap.size V w' ∧ Below w33.heap.size w33 w' from fun W hW V hV => by
      have hws := hW.size
      refine (toChain_t (B := w.heap.size) (RdC.ok.keep q1.2.1 fun k hk => hW.block k (by have : k < w.heap.size := hk; omega)) (by omega) l1).mono ?_
      rintro e w' ⟨v, rfl, i, t⟩
      obtain ⟨S, ⟨u, p, S1, S2, rfl, o1, o2, eS, hS⟩, hb⟩ := i
      obtain ⟨k1, k2, k3, rfl⟩ := o1.isSlice
      obtain ⟨k4, k5, k6, rfl⟩ := o2.isSlice
      exact ⟨k1, k2, k3, k4, k5, k6, rfl, ⟨S, ⟨_, _, S1, S2, rfl, o1, o2, eS, hS⟩, hb⟩, t.bel, hV.trans (t.bel.mono hV.size), hW.trans (t.bel.mono hW.size)⟩)
    have Hsp := Lib.hid (show ∀ W, Below w33.heap.size w33 W → ∀ V, Below V.heap.size V W → ∀ va vb lo1 hi1 lo2 hi2, In OC lo1 hi1 V va z0 → In OC lo2 hi2 V vb z1 → Calls Try.prog 50 #[va, vb] W fun e w' => ∃ a n c b m d, e = .returned (.tuple #[.agg #[.int .i64 (jnV z0 z1).base, .int .i64 (jnV z0 z1).states, .int .i64 (jnV z0 z1).start, .int .i64 (jnV z0 z1).stop, .slice a n c, .slice b m d], .bool (jnOk z0 z1)]) ∧ Fresh OC W w' (.agg #[.int .i64 (jnV z0 z1).base, .int .i64 (jnV z0 z1).states, .int .i64 (jnV z0 z1).start, .int .i64 (jnV z0 z1).stop, .slice a n c, .slice b m d]) (jnV z0 z1) ∧ Below w33.heap.size w33 w' from fun W hW V hV va vb lo1 hi1 lo2 hi2 hia hib => by
      refine (implJoinChains ((hia.keepF OC.ok (Turn.of_below hV) (.inl (Nat.zero_le _))).rdltF OC.leads OC.ok) ((hib.keepF OC.ok (Turn.of_below hV) (.inl (Nat.zero_le _))).rdltF OC.leads OC.ok) (Nat.le_refl _) l0 l1).mono ?_
      rintro e w' ⟨v, rfl, f⟩
      obtain ⟨u, p, rfl, a, n, c, b, m, d, rfl, rfl⟩ := f.aggC
      exact ⟨a, n, c, b, m, d, rfl, f, hW.trans (f.bel.mono hW.size)⟩)
    clear q0c0 q0c1 q0c2 q0c3 q0c4 q0c5 q1c0 q1c1 q1c2 q1c3 q1c4 q1c5
    obtain ⟨q0c0, q0c1, q0c2, q0c3, q0c4, q0c5⟩ := q0.cells
    obtain ⟨q1c0, q1c1, q1c2, q1c3, q1c4, q1c5⟩ := q1.cells
    have hsc := Lib.hid (show ∀ w', Below w33.heap.size w33 w' → (w'.cell? ⟨w.heap.size, 0, none⟩ = some (.int .i64 z0.base) ∧ w'.cell? ⟨w.heap.size, 1, none⟩ = some (.int .i64 z0.states) ∧ w'.cell? ⟨w.heap.size, 2, none⟩ = some (.int .i64 z0.start) ∧ w'.cell? ⟨w.heap.size, 3, none⟩ = some (.int .i64 z0.stop) ∧ w'.cell? ⟨w.heap.size, 4, none⟩ = some pu0 ∧ w'.cell? ⟨w.heap.size, 5, none⟩ = some pp0 ∧ w'.cell? ⟨w.heap.size + 1, 0, none⟩ = some (.int .i64 z1.base) ∧ w'.cell? ⟨w.heap.size + 1, 1, none⟩ = some (.int .i64 z1.states) ∧ w'.cell? ⟨w.heap.size + 1, 2, none⟩ = some (.int .i64 z1.start) ∧ w'.cell? ⟨w.heap.size + 1, 3, none⟩ = some (.int .i64 z1.stop) ∧ w'.cell? ⟨w.heap.size + 1, 4, none⟩ = some pu1 ∧ w'.cell? ⟨w.heap.size + 1, 5, none⟩ = some pp1) ∧ Below w33.heap.size w33 w' from fun W hW => ⟨⟨(hW.cell (p := ⟨w.heap.size, 0, none⟩) (by show w.heap.size < _; omega)).trans q0c0, (hW.cell (p := ⟨w.heap.size, 1, none⟩) (by show w.heap.size < _; omega)).trans q0c1, (hW.cell (p := ⟨w.heap.size, 2, none⟩) (by show w.heap.size < _; omega)).trans q0c2, (hW.cell (p := ⟨w.heap.size, 3, none⟩) (by show w.heap.size < _; omega)).trans q0c3, (hW.cell (p := ⟨w.heap.size, 4, none⟩) (by show w.heap.size < _; omega)).trans q0c4, (hW.cell (p := ⟨w.heap.size, 5, none⟩) (by show w.heap.size < _; omega)).trans q0c5, (hW.cell (p := ⟨w.heap.size + 1, 0, none⟩) (by show w.heap.size + 1 < _; omega)).trans q1c0, (hW.cell (p := ⟨w.heap.size + 1, 1, none⟩) (by show w.heap.size + 1 < _; omega)).trans q1c1, (hW.cell (p := ⟨w.heap.size + 1, 2, none⟩) (by show w.heap.size + 1 < _; omega)).trans q1c2, (hW.cell (p := ⟨w.heap.size + 1, 3, none⟩) (by show w.heap.size + 1 < _; omega)).trans q1c3, (hW.cell (p := ⟨w.heap.size + 1, 4, none⟩) (by show w.heap.size + 1 < _; omega)).trans q1c4, (hW.cell (p := ⟨w.heap.size + 1, 5, none⟩) (by show w.heap.size + 1 < _; omega)).trans q1c5⟩, hW⟩)
    clear q0c0 q0c1 q0c2 q0c3 q0c4 q0c5 q1c0 q1c1 q1c2 q1c3 q1c4 q1c5
    have hlq0 : w.heap.size < w33.heap.size := by omega
    have hlq1 : w.heap.size + 1 < w33.heap.size := by omega
    go_region_held3 (fun w' => (w'.cell? ⟨w.heap.size, 0, none⟩ = some (.int .i64 z0.base) ∧ w'.cell? ⟨w.heap.size, 1, none⟩ = some (.int .i64 z0.states) ∧ w'.cell? ⟨w.heap.size, 2, none⟩ = some (.int .i64 z0.start) ∧ w'.cell? ⟨w.heap.size, 3, none⟩ = some (.int .i64 z0.stop) ∧ w'.cell? ⟨w.heap.size, 4, none⟩ = some pu0 ∧ w'.cell? ⟨w.heap.size, 5, none⟩ = some pp0 ∧ w'.cell? ⟨w.heap.size + 1, 0, none⟩ = some (.int .i64 z1.base) ∧ w'.cell? ⟨w.heap.size + 1, 1, none⟩ = some (.int .i64 z1.states) ∧ w'.cell? ⟨w.heap.size + 1, 2, none⟩ = some (.int .i64 z1.start) ∧ w'.cell? ⟨w.heap.size + 1, 3, none⟩ = some (.int .i64 z1.stop) ∧ w'.cell? ⟨w.heap.size + 1, 4, none⟩ = some pu1 ∧ w'.cell? ⟨w.heap.size + 1, 5, none⟩ = some pp1) ∧ Below w33.heap.size w33 w') ((refine hsc.out _ ?_; repeat' (first | with_reducible exact HC.out | with_reducible exact HB.out | with_reducible exact HA.out | with_reducible exact Below.refl _ _ | with_reducible refine Below.drew ?_ | with_reducible refine Below.alloc ?_ ?_ _ | with_reducible refine Below.setCell ?_ ?_ _ | (show _ ≤ _; have h5 := HC.out.size; simp; omega) | (show _ ≤ _; have h5 := HB.out.size; simp; omega) | (show _ ≤ _; have h5 := HA.out.size; simp; omega) | (show _ ≤ _; simp; omega) | (show _ ≤ _; simp)))) (first
      | ((with_reducible refine (Calls.mono (Hto0.out _ (‹_ ∧ Below w33.heap.size w33 _›).2 _ (Below.refl _ _)) ?_)); rintro e wA ⟨aA, nA, cA, bA, mA, dA, rfl, iA, bw, bV, bP⟩; have HiA := Lib.hid iA; have HA := Lib.hid bP; have hzA := bP.size; have sA := hsc.out _ bP; (try (have hyA := below_heap bw (k := w33.heap.size) (o := (.cells #[.int .i64 0, .int .i64 0, .int .i64 0, .int .i64 0, .slice none 0 0, .slice none 0 0] 28 (0, 0))) (by first | exact alloc_at (by first | rfl | (simp; done)) | exact alloc_at rfl); have yA0 := heap_cell hyA (i := 0) rfl; have gA0 := frozen_at hyA 0; have yA1 := heap_cell hyA (i := 1) rfl; have gA1 := frozen_at hyA 1; have yA2 := heap_cell hyA (i := 2) rfl; have gA2 := frozen_at hyA 2; have yA3 := heap_cell hyA (i := 3) rfl; have gA3 := frozen_at hyA 3; have yA4 := heap_cell hyA (i := 4) rfl; have gA4 := frozen_at hyA 4; have yA5 := heap_cell hyA (i := 5) rfl; have gA5 := frozen_at hyA 5; have HyA := Lib.hid hyA; have hylA := heap_lt hyA; clear hyA)); clear iA bw bV bP)
      | ((with_reducible refine (Calls.mono (Hto1.out _ (‹_ ∧ Below w33.heap.size w33 _›).2 wA (by repeat' (first | with_reducible exact Below.refl _ _ | with_reducible refine Below.drew ?_ | with_reducible refine Below.alloc ?_ ?_ _ | omega | (simp; done) | (simp; omega)))) ?_)); rintro e wB ⟨aB, nB, cB, bB, mB, dB, rfl, iB, bw, bV, bP⟩; have HiB := Lib.hid iB; have HVA := Lib.hid bV; have HiA2 := Lib.hid (HiA.out.keepF OC.ok (Turn.of_below bV) (.inl (Nat.zero_le _))); have HB := Lib.hid bP; have hzB := bV.size; have sB := hsc.out _ bP; (try (have hyB := below_heap bw (k := w33.heap.size) (o := (.cells #[.int .i64 0, .int .i64 0, .int .i64 0, .int .i64 0, .slice none 0 0, .slice none 0 0] 28 (0, 0))) (by first | exact alloc_at (by first | rfl | (simp; done)) | exact HyA.out); have yB0 := heap_cell hyB (i := 0) rfl; have gB0 := frozen_at hyB 0; have yB1 := heap_cell hyB (i := 1) rfl; have gB1 := frozen_at hyB 1; have yB2 := heap_cell hyB (i := 2) rfl; have gB2 := frozen_at hyB 2; have yB3 := heap_cell hyB (i := 3) rfl; have gB3 := frozen_at hyB 3; have yB4 := heap_cell hyB (i := 4) rfl; have gB4 := frozen_at hyB 4; have yB5 := heap_cell hyB (i := 5) rfl; have gB5 := frozen_at hyB 5; have HyB := Lib.hid hyB; have hylB := heap_lt hyB; clear hyB)); (try (have hyB := below_heap bw (k := wA.heap.size) (o := (.cells #[.int .i64 0, .int .i64 0, .int .i64 0, .int .i64 0, .slice none 0 0, .slice none 0 0] 28 (0, 0))) (by first | exact alloc_at (by first | rfl | (simp; done)) | exact alloc_at rfl); have yB0 := heap_cell hyB (i := 0) rfl; have gB0 := frozen_at hyB 0; have yB1 := heap_cell hyB (i := 1) rfl; have gB1 := frozen_at hyB 1; have yB2 := heap_cell hyB (i := 2) rfl; have gB2 := frozen_at hyB 2; have yB3 := heap_cell hyB (i := 3) rfl; have gB3 := frozen_at hyB 3; have yB4 := heap_cell hyB (i := 4) rfl; have gB4 := frozen_at hyB 4; have yB5 := heap_cell hyB (i := 5) rfl; have gB5 := frozen_at hyB 5; have HyB := Lib.hid hyB; have hylB := heap_lt hyB; clear hyB)); clear iB bw bV bP)
      | ((with_reducible refine (Calls.mono (Hsp.out _ (‹_ ∧ Below w33.heap.size w33 _›).2 wB (by repeat' (first | with_reducible exact Below.refl _ _ | with_reducible refine Below.drew ?_ | with_reducible refine Below.alloc ?_ ?_ _ | omega | (simp; done) | (simp; omega))) _ _ _ _ _ _ HiA2.out HiB.out) ?_)); rintro e wC ⟨aC, nC, cC, bC, mC, dC, rfl, fC, bP⟩; have HfC := Lib.hid fC; have HC := Lib.hid bP; have bw := fC.bel; have hzC := bw.size; have sC := hsc.out _ bP; (try (have hyC := below_heap bw (k := w33.heap.size) (o := (.cells #[.int .i64 0, .int .i64 0, .int .i64 0, .int .i64 0, .slice none 0 0, .slice none 0 0] 28 (0, 0))) (by first | exact alloc_at (by first | rfl | (simp; done)) | exact HyB.out); have yC0 := heap_cell hyC (i := 0) rfl; have gC0 := frozen_at hyC 0; have yC1 := heap_cell hyC (i := 1) rfl; have gC1 := frozen_at hyC 1; have yC2 := heap_cell hyC (i := 2) rfl; have gC2 := frozen_at hyC 2; have yC3 := heap_cell hyC (i := 3) rfl; have gC3 := frozen_at hyC 3; have yC4 := heap_cell hyC (i := 4) rfl; have gC4 := frozen_at hyC 4; have yC5 := heap_cell hyC (i := 5) rfl; have gC5 := frozen_at hyC 5; have HyC := Lib.hid hyC; have hylC := heap_lt hyC; clear hyC)); (try (have hyC := below_heap bw (k := wA.heap.size) (o := (.cells #[.int .i64 0, .int .i64 0, .int .i64 0, .int .i64 0, .slice none 0 0, .slice none 0 0] 28 (0, 0))) (by first | exact alloc_at (by first | rfl | (simp; done)) | exact HyB.out); have yC0 := heap_cell hyC (i := 0) rfl; have gC0 := frozen_at hyC 0; have yC1 := heap_cell hyC (i := 1) rfl; have gC1 := frozen_at hyC 1; have yC2 := heap_cell hyC (i := 2) rfl; have gC2 := frozen_at hyC 2; have yC3 := heap_cell hyC (i := 3) rfl; have gC3 := frozen_at hyC 3; have yC4 := heap_cell hyC (i := 4) rfl; have gC4 := frozen_at hyC 4; have yC5 := heap_cell hyC (i := 5) rfl; have gC5 := frozen_at hyC 5; have HyC := Lib.hid hyC; have hylC := heap_lt hyC; clear hyC)); (try (have hyC := below_heap bw (k := wB.heap.size) (o := (.cells #[.int .i64 0, .int .i64 0, .int .i64 0, .int .i64 0, .slice none 0 0, .slice none 0 0] 28 (0, 0))) (by first | exact alloc_at (by first | rfl | (simp; done)) | exact alloc_at rfl); have yC0 := heap_cell hyC (i := 0) rfl; have gC0 := frozen_at hyC 0; have yC1 := heap_cell hyC (i := 1) rfl; have gC1 := frozen_at hyC 1; have yC2 := heap_cell hyC (i := 2) rfl; have gC2 := frozen_at hyC 2; have yC3 := heap_cell hyC (i := 3) rfl; have gC3 := frozen_at hyC 3; have yC4 := heap_cell hyC (i := 4) rfl; have gC4 := frozen_at hyC 4; have yC5 := heap_cell hyC (i := 5) rfl; have gC5 := frozen_at hyC 5; have HyC := Lib.hid hyC; have hylC := heap_lt hyC; clear hyC)); have HbC := Lib.hid bw; clear fC bw bP))
    all_goals (go_wp2_with fail)
    all_goals go_meet
    all_goals
      repeat apply Exists.intro
      refine ⟨rfl, rfl, ?fin⟩
      case fin =>
        first
        | ((with_reducible refine LocR.last (x := jnV z0 z1) HfC.out HC.out ?_); (first | omega | (simp; omega)))
        | ((with_reducible refine LocR.first (x := jnV z0 z1) HfC.out HC.out ?_ ?_ ?_ HyC.out); (first | omega | (simp; omega)); (first | omega | (simp; omega)); (first | omega | (simp; done) | (simp; omega)))
  case rest =>
  obtain ⟨WX35, rfl⟩ : ∃ W, W = wc := ⟨_, rfl⟩
  obtain ⟨b35, lu135, lp135, rfl, rfl, X35, t35⟩ := hcut
  have s35 := t35.size
  have bl35 := X35.lt
  have bo35 := X35.2.2
  replace X15 := X15.keep t35 (by omega)
  replace X17 := X17.keep t35 (by omega)
  replace X19 := X19.keep t35 (by omega)
  replace X21 := X21.keep t35 (by omega)
  replace q0 := q0.keep t35 (by omega)
  replace q1 := q1.keep t35 (by omega)
  replace bel := Turn.below bel t35 (by omega) (by omega)
  obtain ⟨X35c0, X35c1, X35c2, X35c3, X35c4, X35c5⟩ := X35.cells
  obtain ⟨X15c0, X15c1, X15c2, X15c3, X15c4, X15c5⟩ := X15.cells
  go_wp2_with fail
  refine (eqChain_t X35.2.1 X15.2.1).mono ?_
  rintro e w36 ⟨rfl, t36⟩
  have s36 := t36.size
  clear X35c0 X35c1 X35c2 X35c3 X35c4 X35c5 X15c0 X15c1 X15c2 X15c3 X15c4 X15c5
  replace X15 := X15.keep t36 (by omega)
  replace X17 := X17.keep t36 (by omega)
  replace X19 := X19.keep t36 (by omega)
  replace X21 := X21.keep t36 (by omega)
  replace X35 := X35.keep t36 (by omega)
  replace q0 := q0.keep t36 (by omega)
  replace q1 := q1.keep t36 (by omega)
  replace bel := Turn.below bel t36 (by omega) (by omega)
  obtain ⟨X21c0, X21c1, X21c2, X21c3, X21c4, X21c5⟩ := X21.cells
  go_wp2_with fail
  refine (heldChain_t X21.2.1 (by omega) (by omega)).mono ?_
  rintro e w37 ⟨rfl, t37⟩
  have s37 := t37.size
  clear X21c0 X21c1 X21c2 X21c3 X21c4 X21c5
  replace X15 := X15.keep t37 (by omega)
  replace X17 := X17.keep t37 (by omega)
  replace X19 := X19.keep t37 (by omega)
  replace X21 := X21.keep t37 (by omega)
  replace X35 := X35.keep t37 (by omega)
  replace q0 := q0.keep t37 (by omega)
  replace q1 := q1.keep t37 (by omega)
  replace bel := Turn.below bel t37 (by omega) (by omega)
  go_wp2_with fail
  go_ret
  exact ⟨rfl, bel⟩
end Go.Proofs.Ytnpkanlieflbiaa
