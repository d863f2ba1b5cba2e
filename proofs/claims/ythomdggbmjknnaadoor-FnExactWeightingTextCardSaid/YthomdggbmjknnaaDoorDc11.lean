/- WeightingText: both functions whole. -/
import Derived.Test.YthomdggbmjknnaaDoorDc10
namespace Go.Proofs.YthomdggbmjknnaaDoor
open Go.RowKit
set_option linter.unusedVariables false

set_option maxHeartbeats 1600000 in
set_option maxRecDepth 100000 in
theorem implWeightingText {B : Nat} {v : Value} {x : Wgt} {w : World} (h : RdW (· < B) w v x) (hB : B ≤ w.heap.size) (hn : szW x ≤ 1048576) (htab : Lib.TabIs Tryd.prog w "internal/strconv.uint64pow10" .u64 Lib.pow10Tab) :
    Calls Tryd.prog 24 #[v] w fun e w' => e = .returned (.tuple #[.string (wtV x), .bool (vW x)]) ∧ Below w.heap.size w w' := by
  obtain ⟨u, rfl, hu⟩ := h
  have hbx := BoxW.boxed hu hB
  have hb0 := (Below.refl w.heap.size w).alloc (Nat.le_refl _) (.cells #[.int .i64 x.base, .int .i64 x.modulus, .int .i64 x.target, u] 40)
  have hu1 : ∀ W, Below w.heap.size w W → RdI (· < B) W u x.weights := fun W hW => RdI.ok.keep hu fun k hk => hW.block k (by omega)
  obtain ⟨a, c, rfl, q1, q2⟩ := hu.isSlice
  obtain ⟨W1, hW1⟩ : ∃ W1, W1 = w.alloc (.cells #[.int .i64 x.base, .int .i64 x.modulus, .int .i64 x.target, .slice a x.weights.length c] 40) := ⟨_, rfl⟩
  rw [← hW1] at hbx hb0
  have hz : w.heap.size < W1.heap.size := by rw [hW1]; simp
  obtain ⟨a', c', g0, g1, g2, g3, _, _, _⟩ := hbx.cells
  have e3 : W1.cell? ⟨w.heap.size, 3, none⟩ = some (.slice a x.weights.length c) := by rw [hW1]; exact heap_cell (heap_alloc_new w _) rfl
  have HU := Lib.hid hu1
  have Hb0 := Lib.hid hb0
  have HW1 := Lib.hid hW1
  have Ht := Lib.hid htab
  have hB1 : B ≤ W1.heap.size := by omega
  clear hbx hb0 hW1 htab hu hu1 g3
  unfold aggW
  cases hv : vW x
  · have hw := Lib.hid (wtV_no hv)
    go_enter Tryd.func24, Tryd.ntmps24
    go_wp2_with fail
    rw [← HW1.out]
    refine (implValidWeighting (x := x) (B := B) (w := W1) ⟨_, rfl, HU.out _ Hb0.out⟩ hB1 hn _ hv).mono ?_
    rintro e w2 ⟨rfl, hb2⟩
    have Hb2 := Lib.hid (Hb0.out.trans (hb2.mono (by omega)))
    clear hb2
    go_wp2_with fail
    go_ret2
    exact ⟨by rw [hw.out]; rfl, Hb2.out⟩
  · have hw := Lib.hid (wtV_yes hv)
    go_enter Tryd.func24, Tryd.ntmps24
    go_wp2_with fail
    rw [← HW1.out]
    refine (implValidWeighting (x := x) (B := B) (w := W1) ⟨_, rfl, HU.out _ Hb0.out⟩ hB1 hn _ hv).mono ?_
    rintro e w2 ⟨rfl, hb2⟩
    have Hb2 := Lib.hid (Hb0.out.trans (hb2.mono (by omega)))
    have z0 := (hb2.cell (p := ⟨w.heap.size, 0, none⟩) hz).trans g0
    have z1 := (hb2.cell (p := ⟨w.heap.size, 1, none⟩) hz).trans g1
    have z2 := (hb2.cell (p := ⟨w.heap.size, 2, none⟩) hz).trans g2
    have z3 := (hb2.cell (p := ⟨w.heap.size, 3, none⟩) hz).trans e3
    have hB2 : B ≤ w2.heap.size := by have := hb2.size; omega
    have hs2 : w.heap.size ≤ w2.heap.size := Hb2.out.size
    clear hb2 g0 g1 g2 e3
    go_wp2_with fail
    refine (implWText (x := x) (B := B) (w := w2) ⟨_, rfl, HU.out _ Hb2.out⟩ hB2 hv (tabBelow Ht.out Hb2.out)).mono ?_
    rintro e w3 ⟨rfl, hb3⟩
    have Hb3 := Lib.hid (Hb2.out.trans (hb3.mono hs2))
    clear hb3
    go_wp2_with fail
    go_ret2
    exact ⟨by rw [hw.out]; rfl, Hb3.out⟩

set_option maxHeartbeats 1600000 in
set_option maxRecDepth 100000 in
theorem specWeightingText {B : Nat} {v : Value} {x : Wgt} {w : World} (h : RdW (· < B) w v x) (hB : B ≤ w.heap.size) (hn : szW x ≤ 1048576) :
    Calls Tryd.prog 22 #[v] w fun e w' => e = .returned (.tuple #[.string (wtV x), .bool (vW x)]) ∧ Below w.heap.size w w' := by
  obtain ⟨u, rfl, hu⟩ := h
  have hbx := BoxW.boxed hu hB
  have hb0 := (Below.refl w.heap.size w).alloc (Nat.le_refl _) (.cells #[.int .i64 x.base, .int .i64 x.modulus, .int .i64 x.target, u] 40)
  obtain ⟨W1, hW1⟩ : ∃ W1, W1 = w.alloc (.cells #[.int .i64 x.base, .int .i64 x.modulus, .int .i64 x.target, u] 40) := ⟨_, rfl⟩
  rw [← hW1] at hbx hb0
  have hz : w.heap.size < W1.heap.size := by rw [hW1]; simp
  have Hbx := Lib.hid hbx
  have Hb0 := Lib.hid hb0
  have HW1 := Lib.hid hW1
  have hB1 : B ≤ W1.heap.size := by omega
  clear hbx hb0 hW1 hu
  unfold aggW
  cases hv : vW x
  · have hw := Lib.hid (wtV_no hv)
    go_enter Tryd.func22, Tryd.ntmps22
    go_wp2_with fail
    rw [← HW1.out]
    refine (specL03Is Hbx.out hn _ hv).mono ?_
    rintro e w2 ⟨rfl, m, hm⟩
    have Hb2 := Lib.hid (show Below w.heap.size w w2 by rw [← hm]; exact Below.draws Hb0.out m)
    clear hm
    go_wp2_with fail
    go_ret2
    exact ⟨by rw [hw.out]; rfl, Hb2.out⟩
  · have hw := Lib.hid (wtV_yes hv)
    go_enter Tryd.func22, Tryd.ntmps22
    go_wp2_with fail
    rw [← HW1.out]
    refine (specL03Is Hbx.out hn _ hv).mono ?_
    rintro e w2 ⟨rfl, m, hm⟩
    have Hb2 := Lib.hid (show Below w.heap.size w w2 by rw [← hm]; exact Below.draws Hb0.out m)
    have Hbx2 := Lib.hid (show BoxW (· < B) w2 w.heap.size x by rw [← hm]; exact Hbx.out.draws m)
    have hB2 : B ≤ w2.heap.size := by have := Hb2.out.size; omega
    have hs2 : w.heap.size ≤ w2.heap.size := Hb2.out.size
    clear hm
    go_wp2_with fail
    refine (specWText Hbx2.out hB2 hv).mono ?_
    rintro e w3 ⟨rfl, hb3⟩
    have Hb3 := Lib.hid (Hb2.out.trans (hb3.mono hs2))
    clear hb3
    go_wp2_with fail
    go_ret2
    exact ⟨by rw [hw.out]; rfl, Hb3.out⟩
end Go.Proofs.YthomdggbmjknnaaDoor
