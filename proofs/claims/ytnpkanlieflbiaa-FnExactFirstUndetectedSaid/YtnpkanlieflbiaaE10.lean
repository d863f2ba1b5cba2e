/- Numbers of undetected errors at a place, walked: impl's closures and undetectedAt. -/
import Derived.Test.YtnpkanlieflbiaaE1
import Derived.Test.YtnpkanlieflbiaaE3
import Derived.Test.YtnpkanlieflbiaaE6
import Derived.Test.YtnpkanlieflbiaaC5
import Derived.Deep.RegionWith
import Derived.Deep.CutRange
namespace Go.Proofs.Ytnpkanlieflbiaa
open Go.RowKit
set_option linter.unusedVariables false

/-- What the closures have: the boxes of what does not turn lie below bb; at bb and behind it are the boxes of both sums. -/
structure UD (x : Chn) (kind : Int) (place : Nat) (bc bk bg bw bp bb bx : Nat) (vb vw : Value) (A Z : Nat) (w : World) : Prop where
  lt : bc < bb ∧ bk < bb ∧ bg < bb ∧ bw < bb ∧ bp < bb ∧ bx < bb
  c : w.cell? ⟨bc, 0, none⟩ = some (.pointer (some ⟨bx, 0, none⟩))
  k : w.cell? ⟨bk, 0, none⟩ = some (.int .i64 kind)
  g : w.cell? ⟨bg, 0, none⟩ = some vb
  b : w.cell? ⟨bw, 0, none⟩ = some vw
  p : w.cell? ⟨bp, 0, none⟩ = some (.int .i64 place)
  z : w.heap[bb]? = some (.cells #[.int .i64 Z] 2 (0, 0))
  a : w.heap[bb + 1]? = some (.cells #[.int .i64 A] 2 (0, 0))
  box : BoxC (· < bb) w bx x
  rb : RdI (· < bb) w vb (rowL x.S (begV x place))
  rw : RdII (· < bb) w vw (gridL x.S x.S (bothV x (place + errLen kind)))

section UD
variable {x : Chn} {kind : Int} {place bc bk bg bw bp bb bx : Nat} {vb vw : Value} {A Z : Nat} {w w' : World}
theorem UD.keep (h : UD x kind place bc bk bg bw bp bb bx vb vw A Z w) (hk : ∀ j, j < bb + 2 → w'.heap[j]? = w.heap[j]?) : UD x kind place bc bk bg bw bp bb bx vb vw A Z w' := by
  obtain ⟨h0, h1, h2, h3, h4, h5, h6, h7, h8, h9, h10⟩ := h
  obtain ⟨l1, l2, l3, l4, l5, l6⟩ := h0
  refine ⟨⟨l1, l2, l3, l4, l5, l6⟩, (cell_keep (hk _ (by show bc < _; omega))).trans h1, (cell_keep (hk _ (by show bk < _; omega))).trans h2, (cell_keep (hk _ (by show bg < _; omega))).trans h3, (cell_keep (hk _ (by show bw < _; omega))).trans h4, (cell_keep (hk _ (by show bp < _; omega))).trans h5, (hk _ (by omega)).trans h6, (hk _ (by omega)).trans h7, h8.keep fun j hj => hk j ?_, RdI.ok.keep h9 fun j hj => hk j (by omega), RdII.ok.keep h10 fun j hj => hk j (by omega)⟩
  rcases hj with hj | hj <;> omega
theorem UD.draws (h : UD x kind place bc bk bg bw bp bb bx vb vw A Z w) (m : Nat) : UD x kind place bc bk bg bw bp bb bx vb vw A Z (w.drewN m) := h.keep fun _ _ => rfl
theorem UD.low (h : UD x kind place bc bk bg bw bp bb bx vb vw A Z w) (hk : ∀ j, j < bb → w'.heap[j]? = w.heap[j]?) {A' Z' : Nat} (hz : w'.heap[bb]? = some (.cells #[.int .i64 Z'] 2 (0, 0))) (ha : w'.heap[bb + 1]? = some (.cells #[.int .i64 A'] 2 (0, 0))) :
    UD x kind place bc bk bg bw bp bb bx vb vw A' Z' w' := by
  obtain ⟨h0, h1, h2, h3, h4, h5, h6, h7, h8, h9, h10⟩ := h
  obtain ⟨l1, l2, l3, l4, l5, l6⟩ := h0
  refine ⟨⟨l1, l2, l3, l4, l5, l6⟩, (cell_keep (hk _ (by show bc < _; omega))).trans h1, (cell_keep (hk _ (by show bk < _; omega))).trans h2, (cell_keep (hk _ (by show bg < _; omega))).trans h3, (cell_keep (hk _ (by show bw < _; omega))).trans h4, (cell_keep (hk _ (by show bp < _; omega))).trans h5, hz, ha, h8.keep fun j hj => hk j ?_, RdI.ok.keep h9 fun j hj => hk j (by omega), RdII.ok.keep h10 fun j hj => hk j (by omega)⟩
  rcases hj with hj | hj <;> omega
theorem UD.putA (h : UD x kind place bc bk bg bw bp bb bx vb vw A Z w) (A' : Nat) : UD x kind place bc bk bg bw bp bb bx vb vw A' Z (w.setCell ⟨bb + 1, 0, none⟩ (.int .i64 A')) :=
  h.low (fun j hj => heap_setCell_other w _ j _ (by simp; omega)) ((heap_setCell_other w _ bb _ (by simp)).trans h.z) (heap_setCell_same w (bb + 1) 0 _ _ _ h.a)
theorem UD.putZ (h : UD x kind place bc bk bg bw bp bb bx vb vw A Z w) (Z' : Nat) : UD x kind place bc bk bg bw bp bb bx vb vw A Z' (w.setCell ⟨bb, 0, none⟩ (.int .i64 Z')) :=
  h.low (fun j hj => heap_setCell_other w _ j _ (by simp; omega)) (heap_setCell_same w bb 0 _ _ _ h.z) ((heap_setCell_other w _ (bb + 1) _ (by simp)).trans h.a)
end UD
/-- A cell of a grid that is read. -/
theorem gridCell {P : Nat → Prop} {w : World} {a : Option Addr} {n c i j : Nat} {f : Nat → Nat → Nat} (hi : i < n) (hj : j < n) (h : RdII P w (.slice a n c) (gridL n n f)) :
    ∃ b o b2 o2 c2, a = some ⟨b, o, none⟩ ∧ w.cell? ⟨b, o + i, none⟩ = some (.slice (some ⟨b2, o2, none⟩) n c2) ∧ n ≤ c2 ∧ c2 ≤ maxLen ∧ w.cell? ⟨b2, o2 + j, none⟩ = some (.int .i64 (f i j : Nat)) := by
  have hl : (gridL n n f).length = n := by simp [gridL]
  have hr := gridL_grid n n f
  obtain ⟨b, o, a1, c1, rfl, _, hc, g1, g2, hr1⟩ := Rd.row h (x := i) (by rw [hl]; exact hi)
  obtain ⟨b2, o2, u, rfl, _, hc2, rfl⟩ := Rd.elim hr1 j (by rw [(hr.2 i hi).1]; exact hj)
  rw [(hr.2 i hi).1] at hc g1
  rw [(hr.2 i hi).2 j hj] at hc2
  exact ⟨b, o, b2, o2, c1, rfl, hc, g1, g2, hc2⟩
theorem gridL_len (m r : Nat) (f : Nat → Nat → Nat) : (gridL m r f).length = m := by simp [gridL]
theorem rowL_len (n : Nat) (f : Nat → Nat) : (rowL n f).length = n := by simp [rowL]
theorem rowL_at {n s : Nat} (f : Nat → Nat) (h : s < n) : nth (rowL n f) s = (f s : Int) := by rw [rowL, nth_range_map h]
theorem Kept.draws {M : Nat} {w w' : World} (h : Kept M w w') (m : Nat) : Kept M w (w'.drewN m) := ⟨h.size, h.block⟩
theorem Kept.set {M b i : Nat} {w w' : World} (h : Kept M w w') (hb : b < M) (v : Value) : Kept M w (w'.setCell ⟨b, i, none⟩ v) :=
  ⟨by have := h.size; simp; omega, fun k h1 h2 => (heap_setCell_other w' _ k v (by simp; omega)).trans (h.block k h1 h2)⟩

set_option maxHeartbeats 3200000 in
set_option maxRecDepth 10000 in
theorem implUD2 {x : Chn} {kind : Int} {place bc bk bg bw bp bb bx bf : Nat} {vb vw vf vt : Value} {A Z : Nat} {f t : List Int} {w : World} (hv : VC x) (h : UD x kind place bc bk bg bw bp bb bx vb vw A Z w)
    (hbf : w.heap[bf]? = some (.cells #[vf] 22 (0, 0))) (hbf2 : bb + 2 ≤ bf) (hf : RdI (fun k => bb + 2 ≤ k ∧ k < w.heap.size) w vf f) (ht : RdI (fun k => bb + 2 ≤ k ∧ k < w.heap.size) w vt t) (hfd : Digs x.b f) (htd : Digs x.b t)
    (hfl : f.length = errLen kind) (htl : t.length = errLen kind) (hp : place + errLen kind ≤ x.n) (hA : A + sumN x.S (all1 x place (errLen kind) (f, t)) ≤ 36000000000000000) (hZ : Z + sumN x.S (bad1 x place (errLen kind) (f, t)) ≤ 36000000000000000) :
    Calls Try.prog 144 #[vt, .pointer (some ⟨bg, 0, none⟩), .pointer (some ⟨bc, 0, none⟩), .pointer (some ⟨bp, 0, none⟩), .pointer (some ⟨bf, 0, none⟩), .pointer (some ⟨bb + 1, 0, none⟩), .pointer (some ⟨bw, 0, none⟩), .pointer (some ⟨bb, 0, none⟩)] w
      fun e w' => e = .returned (.tuple #[]) ∧ UD x kind place bc bk bg bw bp bb bx vb vw (A + sumN x.S (all1 x place (errLen kind) (f, t))) (Z + sumN x.S (bad1 x place (errLen kind) (f, t))) w' ∧ Kept (bb + 2) w w' ∧ Below bb w w' := by
  have hnat := hv.nat
  have Hv := Lib.hid hv; clear hv
  have Hbf := Lib.hid hbf; clear hbf
  have Hf := Lib.hid hf; clear hf
  have Ht := Lib.hid ht; clear ht
  obtain ⟨av, cv, rfl, q1, q2⟩ := h.rb.isSlice
  obtain ⟨aw, cw, rfl, q3, q4⟩ := h.rw.isSlice
  rw [gridL_len] at *
  rw [rowL_len] at *
  obtain ⟨NS, hNS⟩ : ∃ n : Nat, n = x.S := ⟨_, rfl⟩
  rw [← hNS] at hnat q1 q3
  have H := Lib.hid (show UD x kind place bc bk bg bw bp bb bx (.slice av NS cv) (.slice aw NS cw) A Z w by rw [hNS]; exact h)
  clear h
  have hc1 : w.cell? ⟨bg, 0, none⟩ = some (.slice av NS cv) := H.out.g
  have HA := Lib.hid hA; clear hA
  have HZ := Lib.hid hZ; clear hZ
  have hU0 := Lib.hid (show UD x kind place bc bk bg bw bp bb bx _ _ (A + sumN 0 (all1 x place (errLen kind) (f, t))) (Z + sumN 0 (bad1 x place (errLen kind) (f, t))) w from H.out)
  have hK0 := Lib.hid (Kept.refl (bb + 2) w)
  have hB0 := Lib.hid (Below.refl bb w)
  unfold maxLen at q2 q4
  have HNS := Lib.hid hNS
  clear hNS
  go_enter Try.func144, Try.ntmps144
  go_wp2
  clear hc1
  go_loopw [15] (fun iv wr => ∃ s : Nat, s ≤ NS ∧ iv = .int .i64 s ∧ Hid (UD x kind place bc bk bg bw bp bb bx (.slice av NS cv) (.slice aw NS cw) (A + sumN s (all1 x place (errLen kind) (f, t))) (Z + sumN s (bad1 x place (errLen kind) (f, t))) wr) ∧ Hid (Kept (bb + 2) w wr) ∧ Hid (Below bb w wr)) (fun iv _ => NS - (intOf iv).toNat)
  case atStart => exact ⟨0, Nat.zero_le _, rfl, hU0, hK0, hB0⟩
  case round =>
    clear hU0 hK0 hB0
    obtain ⟨s, hs, rfl, hU, hK, hB⟩ := hrel
    obtain ⟨W2, rfl⟩ : ∃ W2, W2 = wr := ⟨_, rfl⟩
    by_cases hls : s < NS
    · have hrb := hU.out.rb
      obtain ⟨b3, o3, u3, rfl, hP3, hc3, rfl⟩ := Rd.elim hrb s (by rw [rowL_len, ← HNS.out]; exact hls)
      rw [rowL_at _ (by rw [← HNS.out]; exact hls)] at hc3
      have hc4 : W2.cell? ⟨b3, o3 + s, none⟩ = some (.int .i64 (begV x place s : Nat)) := hc3
      clear hc3 hrb
      by_cases hz : begV x place s = 0
      · have hU2 := Lib.hid (show UD x kind place bc bk bg bw bp bb bx (.slice (some ⟨b3, o3, none⟩) NS cv) (.slice aw NS cw) (A + sumN (s + 1) (all1 x place (errLen kind) (f, t))) (Z + sumN (s + 1) (bad1 x place (errLen kind) (f, t))) W2 by
          rw [sumN_succ, sumN_succ, all1_zero hz, bad1_zero hz]; exact hU.out)
        rw [hz] at hc4
        have hc5 : W2.cell? ⟨b3, o3 + s, none⟩ = some (.int .i64 0) := hc4
        clear hc4 hz
        go_wp2
        go_roundw
        case rel => exact ⟨s + 1, by omega, by go_num, hU2, hK, hB⟩
        case measure => simp [intOf]; omega
      · have hb0 : ((begV x place s : Int) == 0) = false := by simp only [beq_eq_false_iff_ne]; omega
        have hsS : s < x.S := by rw [← HNS.out]; exact hls
        have hr1 := Hv.out.runLt hfd (k := place) (s := s) (by omega) hsS
        have hr2 := Hv.out.runLt htd (k := place) (s := s) (by omega) hsS
        have e2 := hU.out.c
        have e3 := hU.out.p
        have e4 := heap_cell (hK.out.heap hbf2 Hbf.out) (i := 0) rfl
        have Hf2 := Lib.hid (show RdI (fun k => bb + 2 ≤ k ∧ k < w.heap.size) W2 vf f from RdI.ok.keep Hf.out fun k hk => hK.out.block k hk.1 hk.2)
        have Ht2 := Lib.hid (show RdI (fun k => bb + 2 ≤ k ∧ k < w.heap.size) W2 vt t from RdI.ok.keep Ht.out fun k hk => hK.out.block k hk.1 hk.2)
        have hl1 := Lib.hid (fun m => implLeads (hU.out.box.draws m) Hv.out place s (rd_draws RdI.ok Hf2.out m) hfd (by omega) hsS)
        have hl2 := Lib.hid (fun m => implLeads (hU.out.box.draws m) Hv.out place s (rd_draws RdI.ok Ht2.out m) htd (by omega) hsS)
        have hsum1 := sumN_part (n := x.S) (k := s + 1) (all1 x place (errLen kind) (f, t)) (by omega)
        have hsum2 := sumN_part (n := x.S) (k := s + 1) (bad1 x place (errLen kind) (f, t)) (by omega)
        have ea : all1 x place (errLen kind) (f, t) s = begV x place s * bothV x (place + errLen kind) (runN x place s f) (runN x place s f) := by unfold all1; rw [bothV_same]
        have eb : bad1 x place (errLen kind) (f, t) s = begV x place s * bothV x (place + errLen kind) (runN x place s f) (runN x place s t) := rfl
        have hA := HA.out
        have hZ := HZ.out
        obtain ⟨SA, hSA⟩ : ∃ SA, SA = A + sumN s (all1 x place (errLen kind) (f, t)) := ⟨_, rfl⟩
        obtain ⟨SZ, hSZ⟩ : ∃ SZ, SZ = Z + sumN s (bad1 x place (errLen kind) (f, t)) := ⟨_, rfl⟩
        rw [sumN_succ] at hsum1 hsum2
        rw [ea] at hsum1
        rw [eb] at hsum2
        have hU2 := Lib.hid (fun W (hu : UD x kind place bc bk bg bw bp bb bx (.slice (some ⟨b3, o3, none⟩) NS cv) (.slice aw NS cw) (SA + begV x place s * bothV x (place + errLen kind) (runN x place s f) (runN x place s f)) (SZ + begV x place s * bothV x (place + errLen kind) (runN x place s f) (runN x place s t)) W) =>
          (show UD x kind place bc bk bg bw bp bb bx (.slice (some ⟨b3, o3, none⟩) NS cv) (.slice aw NS cw) (A + sumN (s + 1) (all1 x place (errLen kind) (f, t))) (Z + sumN (s + 1) (bad1 x place (errLen kind) (f, t))) W by
            rw [sumN_succ, sumN_succ, ea, eb, ← Nat.add_assoc, ← Nat.add_assoc, ← hSA, ← hSZ]; exact hu))
        rw [← hSA, ← hSZ] at hU
        have hlA : SA + begV x place s * bothV x (place + errLen kind) (runN x place s f) (runN x place s f) ≤ 36000000000000000 := by omega
        have hlZ : SZ + begV x place s * bothV x (place + errLen kind) (runN x place s f) (runN x place s t) ≤ 36000000000000000 := by omega
        have hrw := hU.out.rw
        rw [← HNS.out] at hrw hr1 hr2
        obtain ⟨bo, oo, g1, o1, c1, rfl, p1, p2, p3, p4⟩ := gridCell hr1 hr1 hrw
        have hG := Lib.hid (fun W hrd => gridCell (P := (· < bb)) (w := W) (a := some ⟨bo, oo, none⟩) (c := cw) (f := bothV x (place + errLen kind)) hr1 hr2 hrd)
        clear hrw hA hZ ea eb hSA hSZ hsum1 hsum2 hsS hz
        unfold maxLen at p3
        have e5 := heap_cell hU.out.a (i := 0) rfl
        have e6 := hU.out.b
        have f5 := frozen_at hU.out.a 0
        generalize begV x place s = M at *
        generalize runN x place s f = ra at *
        generalize runN x place s t = rb at *
        generalize bothV x (place + errLen kind) ra ra = E1 at *
        generalize bothV x (place + errLen kind) ra rb = E2 at *
        have cA : ((SA + M * E1 : Nat) : Int) = (SA : Int) + (M : Int) * (E1 : Int) := by rw [Int.natCast_add, Int.natCast_mul]
        have cZ : ((SZ + M * E2 : Nat) : Int) = (SZ : Int) + (M : Int) * (E2 : Int) := by rw [Int.natCast_add, Int.natCast_mul]
        have mA : ((M * E1 : Nat) : Int) = (M : Int) * (E1 : Int) := Int.natCast_mul _ _
        have mZ : ((M * E2 : Nat) : Int) = (M : Int) * (E2 : Int) := Int.natCast_mul _ _
        have hUA := Lib.hid (fun W (hu : UD x kind place bc bk bg bw bp bb bx (.slice (some ⟨b3, o3, none⟩) NS cv) (.slice (some ⟨bo, oo, none⟩) NS cw) SA SZ W) => (show UD x kind place bc bk bg bw bp bb bx (.slice (some ⟨b3, o3, none⟩) NS cv) (.slice (some ⟨bo, oo, none⟩) NS cw) (SA + M * E1) SZ (W.setCell ⟨bb + 1, 0, none⟩ (.int .i64 ((SA : Int) + (M : Int) * (E1 : Int)))) by rw [← cA]; exact hu.putA _))
        have hUZ := Lib.hid (fun W (hu : UD x kind place bc bk bg bw bp bb bx (.slice (some ⟨b3, o3, none⟩) NS cv) (.slice (some ⟨bo, oo, none⟩) NS cw) (SA + M * E1) SZ W) => (show UD x kind place bc bk bg bw bp bb bx (.slice (some ⟨b3, o3, none⟩) NS cv) (.slice (some ⟨bo, oo, none⟩) NS cw) (SA + M * E1) (SZ + M * E2) (W.setCell ⟨bb, 0, none⟩ (.int .i64 ((SZ : Int) + (M : Int) * (E2 : Int)))) by rw [← cZ]; exact hu.putZ _))
        have v1 : IntKind.i64.wrap ((M : Int) * (E1 : Int)) = (M : Int) * (E1 : Int) := IntWalk.i64_in _ (by omega)
        have v2 : IntKind.i64.wrap ((SA : Int) + (M : Int) * (E1 : Int)) = (SA : Int) + (M : Int) * (E1 : Int) := IntWalk.i64_in _ (by omega)
        have v3 : IntKind.i64.wrap ((M : Int) * (E2 : Int)) = (M : Int) * (E2 : Int) := IntWalk.i64_in _ (by omega)
        have v4 : IntKind.i64.wrap ((SZ : Int) + (M : Int) * (E2 : Int)) = (SZ : Int) + (M : Int) * (E2 : Int) := IntWalk.i64_in _ (by omega)
        clear cA cZ mA mZ hlA hlZ
        have i1 : (0 : Int) ≤ (ra : Int) := by omega
        have i2 : (ra : Int) < (NS : Int) := by omega
        have i3 : (0 : Int) ≤ (rb : Int) := by omega
        have i4 : (rb : Int) < (NS : Int) := by omega
        go_wp2
        go_quiet (first | with_reducible exact quiet_draws (hl1.out _) | with_reducible exact quiet_draws (hl2.out _))
        go_wp2
        refine wp_region_quiet_tail_lit 11 (by kernel_rfl) (by kernel_rfl) ?_
        simp only [List.take_succ_cons, List.take_zero, List.drop_succ_cons, List.drop_zero]
        repeat (go_big_quiet_step (fail))
        refine wpQuiet_nil ?_
        rintro _ ⟨nq2, rfl⟩
        go_wp2
        obtain ⟨W6, hW6⟩ : ∃ W6, W6 = (W2.drewN (nq + nq2)).setCell ⟨bb + 1, 0, none⟩ (.int .i64 ((SA : Int) + (M : Int) * (E1 : Int))) := ⟨_, rfl⟩
        rw [← hW6]
        have hU6 := Lib.hid (hUA.out _ (hU.out.draws (nq + nq2)))
        rw [← hW6] at hU6
        have hK6 := Lib.hid (show Kept (bb + 2) w W6 by rw [hW6]; exact (hK.out.draws _).set (by omega) _)
        have hB6 := Lib.hid (show Below bb w W6 by rw [hW6]; exact (Below.draws hB.out _).setCell (p := ⟨bb + 1, 0, none⟩) (by show bb ≤ bb + 1; omega) _)
        obtain ⟨b7, o7, g2, o2, c2, hee, s1, s2, s3, s4⟩ := hG.out W6 (by have h := hU6.out.rw; rw [← HNS.out] at h; exact h)
        simp only [Option.some.injEq, Addr.mk.injEq, and_true] at hee
        obtain ⟨rfl, rfl⟩ := hee
        have e7 := heap_cell hU6.out.z (i := 0) rfl
        have e8 := hU6.out.b
        have f7 := frozen_at hU6.out.z 0
        unfold maxLen at s3
        clear hW6 e2 e3 e4 e5 e6 f5 p1 p2 p3 p4 hU hK hB hc4
        refine wp_region_quiet_tail_lit 11 (by kernel_rfl) (by kernel_rfl) ?_
        simp only [List.take_succ_cons, List.take_zero, List.drop_succ_cons, List.drop_zero]
        repeat (go_big_quiet_step (fail))
        refine wpQuiet_nil ?_
        rintro _ ⟨nq3, rfl⟩
        go_wp2
        go_roundw
        case rel => exact ⟨s + 1, by omega, by go_num, Lib.hid (hU2.out _ (hUZ.out _ (hU6.out.draws nq3))), Lib.hid ((hK6.out.draws nq3).set (by omega) _), Lib.hid ((Below.draws hB6.out nq3).setCell (p := ⟨bb, 0, none⟩) (Nat.le_refl _) _)⟩
        case measure => simp [intOf]; omega
    · obtain ⟨hsn⟩ : Nonempty (s = x.S) := ⟨by have := HNS.out; omega⟩
      rw [hsn] at hU
      clear hsn
      go_wp2
      go_end0
      exact ⟨rfl, by have h := hU.out; rw [HNS.out] at h; exact h, hK.out, hB.out⟩
/-- What the errors of one list of symbols add. -/
abbrev ptA (x : Chn) (kind : Int) (place i : Nat) : Nat := ptI (all1 x place (errLen kind)) x.S kind x.b i
abbrev ptZ (x : Chn) (kind : Int) (place i : Nat) : Nat := ptI (bad1 x place (errLen kind)) x.S kind x.b i

set_option maxHeartbeats 3200000 in
set_option maxRecDepth 10000 in
theorem implUD1 {x : Chn} {kind : Int} {place bc bk bg bw bp bb bx L c i : Nat} {vb vw : Value} {w : World} (hv : VC x) (hkd : kindOk kind x.base = true) (hi : i < x.b ^ errLen kind) (h : UD x kind place bc bk bg bw bp bb bx vb vw (ptA x kind place i) (ptZ x kind place i) w)
    (hL : bb + 2 ≤ L) (hL2 : L < w.heap.size) (hf : RdI (· = L) w (.slice (some ⟨L, 0, none⟩) (errLen kind) c) (tup x.b (errLen kind) i)) (hp : place + errLen kind ≤ x.n) :
    Calls Try.prog 142 #[.slice (some ⟨L, 0, none⟩) (errLen kind) c, .pointer (some ⟨bk, 0, none⟩), .pointer (some ⟨bc, 0, none⟩), .pointer (some ⟨bg, 0, none⟩), .pointer (some ⟨bp, 0, none⟩), .pointer (some ⟨bb + 1, 0, none⟩), .pointer (some ⟨bw, 0, none⟩), .pointer (some ⟨bb, 0, none⟩)] w
      fun e w' => e = .returned (.bool true) ∧ UD x kind place bc bk bg bw bp bb bx vb vw (ptA x kind place (i + 1)) (ptZ x kind place (i + 1)) w' ∧ Kept (bb + 2) w w' ∧ Below bb w w' := by
  have hnat := hv.nat
  have hbs := hv.base
  have Hv := Lib.hid hv; clear hv
  have hk2 := Lib.hid hkd
  simp only [kindOk, inB_true, Bool.and_eq_true, Bool.or_eq_true, decide_eq_true_eq] at hkd
  obtain ⟨⟨hk0, hk5⟩, hk10⟩ := hkd
  have H := Lib.hid h; clear h
  have Hf := Lib.hid hf; clear hf
  have hbx : w.heap.size ≤ w.heap.size := Nat.le_refl _
  obtain ⟨W1, hW1⟩ : ∃ W1, W1 = w.alloc (.cells #[.slice (some ⟨L, 0, none⟩) (errLen kind) c] 22) := ⟨_, rfl⟩
  have hb1 := Lib.hid (show Below w.heap.size w W1 by rw [hW1]; exact (Below.refl _ _).alloc (Nat.le_refl _) _)
  have hs1 : W1.heap.size = w.heap.size + 1 := by rw [hW1]; simp
  have hbf := Lib.hid (show W1.heap[w.heap.size]? = some (.cells #[.slice (some ⟨L, 0, none⟩) (errLen kind) c] 22 (0, 0)) by rw [hW1]; exact heap_alloc_new w _)
  have HW1 := Lib.hid hW1; clear hW1
  have hszb : bb + 2 ≤ w.heap.size := by omega
  have HU1 := Lib.hid (H.out.keep (w' := W1) fun j hj => hb1.out.block j (by omega))
  have Hf1 := Lib.hid (RdI.ok.keep Hf.out (w' := W1) fun k hk => hb1.out.block k (by have hk : k = L := hk; omega))
  have d1 : W1.cell? ⟨bk, 0, none⟩ = some (.int .i64 kind) := HU1.out.k
  have d2 : W1.cell? ⟨bc, 0, none⟩ = some (.pointer (some ⟨bx, 0, none⟩)) := HU1.out.c
  have d3 : W1.cell? ⟨w.heap.size, 0, none⟩ = some (.slice (some ⟨L, 0, none⟩) (errLen kind) c) := heap_cell hbf.out (i := 0) rfl
  obtain ⟨a4, c4, a5, c5, g0, _⟩ := HU1.out.box.cells
  obtain ⟨NB, hNB⟩ : ∃ n : Nat, n = x.b := ⟨_, rfl⟩
  rw [show x.base = (NB : Int) by rw [hNB]; show x.base = (x.base.toNat : Int); omega] at g0
  have HNB := Lib.hid hNB
  have htl := tup_length x.b (errLen kind) i
  have hch := Lib.hid (fun m => implChanges (P := (· = L)) kind ⟨hk0, hk5⟩ NB (by rw [hNB]; exact hnat.1) (v := .slice (some ⟨L, 0, none⟩) (errLen kind) c) (f := tup x.b (errLen kind) i) (w := W1.drewN m) htl 144
    #[.pointer (some ⟨bg, 0, none⟩), .pointer (some ⟨bc, 0, none⟩), .pointer (some ⟨bp, 0, none⟩), .pointer (some ⟨w.heap.size, 0, none⟩), .pointer (some ⟨bb + 1, 0, none⟩), .pointer (some ⟨bw, 0, none⟩), .pointer (some ⟨bb, 0, none⟩)]
    (fun d w1 => UD x kind place bc bk bg bw bp bb bx vb vw (ptJ (all1 x place (errLen kind)) x.S kind x.b i d) (ptJ (bad1 x place (errLen kind)) x.S kind x.b i d) w1 ∧ (∀ k, bb + 2 ≤ k → k < W1.heap.size → w1.heap[k]? = W1.heap[k]?) ∧ Below bb w w1)
    (rd_draws RdI.ok Hf1.out m) (fun k hk => by have hk : k = L := hk; show k < W1.heap.size; omega)
    (fun w1 hw1 => ⟨by rw [ptJ_nil, ptJ_nil]; exact (HU1.out.keep fun j hj => hw1.block j (by show j < W1.heap.size; omega)), fun k _ hk => hw1.block k hk, ((hb1.out.mono (by omega)).trans (Below.draws (Below.refl bb W1) m)).trans (hw1.mono (by show bb ≤ W1.heap.size; omega))⟩)
    (fun d w1 w2 hj hw2 => ⟨hj.1.keep fun j hjj => hw2.block j (by show j < W1.heap.size; omega), fun k h1 h2 => (hw2.block k h2).trans (hj.2.1 k h1 h2), hj.2.2.trans (hw2.mono (by show bb ≤ W1.heap.size; omega))⟩)
    (fun d w1 hj => RdI.ok.keep Hf1.out fun k hk => by have hk : k = L := hk; exact hj.2.1 k (by omega) (by omega))
    (fun d t hpre v' w1 hrt hj => by
      have hmem : t ∈ chg kind x.b (tup x.b (errLen kind) i) := (by rw [hNB] at hpre; exact hpre.subset (show t ∈ d ++ [t] by simp))
      have hcd := chg_digs (kind := kind) (b := x.b) (fun h5 => by rcases hk10 with h | h; · exact absurd h5 h
                                                                   · have := hbs; show 10 ≤ x.base.toNat; omega) (by omega) (tup_digs (by omega) (errLen kind) i) htl t hmem
      have hkA := ptK_le (all1 x place (errLen kind)) x.S kind x.b (i := i) (s := x.S) hi (Nat.le_refl _) (by rw [hNB] at hpre; exact hpre)
      have hkZ := ptK_le (bad1 x place (errLen kind)) x.S kind x.b (i := i) (s := x.S) hi (Nat.le_refl _) (by rw [hNB] at hpre; exact hpre)
      have hall := Hv.out.allAtLe (kind := kind) (place := place) hp
      have hbad := badAt_le_allAt x kind place
      have hszw : W1.heap.size ≤ w1.heap.size := by
        have h9 := hj.2.1
        rcases Nat.lt_or_ge w1.heap.size W1.heap.size with h | h
        · have h8 := h9 w.heap.size (by omega) (by omega)
          rw [hbf.out] at h8
          have := (Array.getElem?_eq_some_iff.1 h8).1
          omega
        · exact h
      refine (implUD2 (f := tup x.b (errLen kind) i) (t := t) Hv.out hj.1 (bf := w.heap.size) ((hj.2.1 _ (by omega) (by omega)).trans hbf.out) (by omega) (RdI.ok.mono (RdI.ok.keep Hf1.out fun k hk => by have hk : k = L := hk; exact hj.2.1 k (by omega) (by omega)) fun k hk => by have hk : k = L := hk; omega)
        (RdI.ok.mono hrt fun k hk => ⟨by have : W1.heap.size ≤ k := hk.1; omega, hk.2⟩) (tup_digs (by omega) _ _) hcd.1 htl (hcd.2.trans htl) hp (by unfold ptK at hkA; exact Nat.le_trans hkA hall) (by unfold ptK at hkZ; exact Nat.le_trans hkZ (Nat.le_trans hbad hall))).mono ?_
      rintro e w2 ⟨rfl, hu, hk, hb⟩
      refine ⟨rfl, ⟨?_, fun k h1 h2 => (hk.block k h1 (by omega)).trans (hj.2.1 k h1 h2), hj.2.2.trans hb⟩, ⟨hk.size, fun k h1 h2 => hk.block k (by have : W1.heap.size ≤ k := h1; omega) h2⟩⟩
      have e1 := ptK_all (all1 x place (errLen kind)) x.S kind x.b i d t
      have e2 := ptK_all (bad1 x place (errLen kind)) x.S kind x.b i d t
      unfold ptK at e1 e2
      rw [← e1, ← e2]
      exact hu)
    (fun args w => rfl))
  clear hb1 hbf HU1 Hf1 H Hf htl hNB hbs hk10
  go_enter Try.func142, Try.ntmps142
  go_wp2
  rw [← HW1.out]
  refine wp_region_quiet_tail_lit 7 (by kernel_rfl) (by kernel_rfl) ?_
  simp only [List.take_succ_cons, List.take_zero, List.drop_succ_cons, List.drop_zero]
  repeat (go_big_quiet_step (fail))
  refine wpQuiet_nil ?_
  rintro _ ⟨nq, rfl⟩
  go_wp2_with fail
  refine Calls.mono (hch.out nq) ?_
  rintro e w5 ⟨rfl, ⟨hu, hk, hb⟩, hk5⟩
  have Hu := Lib.hid (show UD x kind place bc bk bg bw bp bb bx vb vw (ptA x kind place (i + 1)) (ptZ x kind place (i + 1)) w5 by
    rw [HNB.out, ptJ_all, ptJ_all] at hu; exact hu)
  have Hk := Lib.hid (show Kept (bb + 2) w w5 from ⟨by have h := hk5.size; have : W1.heap.size ≤ w5.heap.size := h; omega, fun k h1 h2 => (hk k h1 (by omega)).trans (by rw [HW1.out]; exact Below.heap_alloc w _ k h2)⟩)
  have Hb := Lib.hid hb
  clear hu hk hb hk5
  go_wp2
  go_ret
  exact ⟨rfl, Hu.out, Hk.out, Hb.out⟩

/-- Two blocks more. -/
theorem two_end (w : World) (A Z : Obj) : ((w.alloc A).alloc Z).heap[w.heap.size]? = some A ∧ ((w.alloc A).alloc Z).heap[w.heap.size + 1]? = some Z ∧ ((w.alloc A).alloc Z).heap.size = w.heap.size + 2 ∧ Below w.heap.size w ((w.alloc A).alloc Z) := by
  have s1 := al_size w A
  have s2 := al_size (w.alloc A) Z
  have e1 := heap_alloc_new w A
  have e2 := heap_alloc_new (w.alloc A) Z
  rw [s1] at e2
  exact ⟨(Below.heap_alloc (w.alloc A) Z _ (by omega)).trans e1, e2, by omega, by repeat' (first | with_reducible exact Below.refl _ _ | with_reducible refine Below.alloc ?_ ?_ _ | with_reducible refine Below.setCell ?_ ?_ _ | with_reducible refine Below.drew ?_ | with_reducible refine Below.draws ?_ _ | omega | (simp; done) | (simp; omega))⟩
end Go.Proofs.Ytnpkanlieflbiaa
/- Numbers of undetected errors at a place, walked: impl.undetectedAt. -/
namespace Go.Proofs.Ytnpkanlieflbiaa
open Go.RowKit
set_option linter.unusedVariables false
set_option linter.unusedSimpArgs false

theorem kindOk_parts {kind base : Int} (h : kindOk kind base = true) : (0 ≤ kind ∧ kind ≤ 5) ∧ (kind = 5 → 10 ≤ base) := by
  simp only [kindOk, inB_true, Bool.and_eq_true, Bool.or_eq_true, decide_eq_true_eq] at h
  exact ⟨h.1, fun e => h.2.resolve_left (fun h => h e)⟩

section news
variable (w : World) (v : Value) (T : TypeId) (o : Obj)
theorem drew_size : w.drew.heap.size = w.heap.size := rfl
theorem set_size (p : Addr) (u : Value) : (w.setCell p u).heap.size = w.heap.size := by simp
theorem cell_drew (p : Addr) : w.drew.cell? p = w.cell? p := rfl
theorem frozen_drew (p : Addr) : w.drew.frozen? p = w.frozen? p := rfl
theorem cell_new : (w.alloc (.cells #[v] T)).cell? ⟨w.heap.size, 0, none⟩ = some v := heap_cell (heap_alloc_new w _) (i := 0) rfl
theorem cell_old : ((w.alloc (.cells #[v] T)).alloc o).cell? ⟨w.heap.size, 0, none⟩ = some v := (World.cell?_alloc_past _ _ _ (by rw [alloc_size]; omega)).trans (cell_new w v T)
theorem cell_new1 : ((w.alloc o).alloc (.cells #[v] T)).cell? ⟨w.heap.size + 1, 0, none⟩ = some v := by have h := cell_new (w.alloc o) v T; rwa [alloc_size] at h
theorem frozen_new : (w.alloc (.cells #[v] T)).frozen? ⟨w.heap.size, 0, none⟩ = false := frozen_at (heap_alloc_new w _) 0
theorem frozen_old : ((w.alloc (.cells #[v] T)).alloc o).frozen? ⟨w.heap.size, 0, none⟩ = false := (World.frozen?_alloc_past _ _ _ (by rw [alloc_size]; omega)).trans (frozen_new w v T)
theorem frozen_new1 : ((w.alloc o).alloc (.cells #[v] T)).frozen? ⟨w.heap.size + 1, 0, none⟩ = false := by have h := frozen_new (w.alloc o) v T; rwa [alloc_size] at h
end news
theorem implBeginsS {B bx : Nat} {x : Chn} {w : World} (h : BoxC (· < B) w bx x) (hB : B ≤ w.heap.size) (hbx : bx < w.heap.size) (hv : VC x) (place : Nat) (hp : place ≤ x.n) :
    Calls Try.prog 139 #[.pointer (some ⟨bx, 0, none⟩), .int .i64 place] w fun e w' => ∃ a n c, e = .returned (.slice a n c) ∧ RdI (fun k => w.heap.size ≤ k ∧ k < w'.heap.size) w' (.slice a n c) (rowL x.S (begV x place)) ∧ Below w.heap.size w w' := by
  refine (implBegins h hB hbx hv place hp).mono ?_
  rintro e w' ⟨v, rfl, hf⟩
  obtain ⟨a, n, c, rfl⟩ := hf.choose_spec.1.isSlice
  exact ⟨a, n, c, rfl, OI.leads.to _ _ _ _ _ hf.choose_spec.1 (fun k hk => ⟨hf.choose_spec.2.1 k hk, OI.ok.lt hf.choose_spec.1 k hk⟩), hf.bel⟩
theorem implBothS {B bx : Nat} {x : Chn} {w : World} (h : BoxC (· < B) w bx x) (hB : B ≤ w.heap.size) (hbx : bx < w.heap.size) (hv : VC x) (place : Nat) (hp : place ≤ x.n) :
    Calls Try.prog 140 #[.pointer (some ⟨bx, 0, none⟩), .int .i64 place] w fun e w' => ∃ a n c, e = .returned (.slice a n c) ∧ RdII (fun k => w.heap.size ≤ k ∧ k < w'.heap.size) w' (.slice a n c) (gridL x.S x.S (bothV x place)) ∧ Below w.heap.size w w' := by
  refine (implBoth h hB hbx hv place hp).mono ?_
  rintro e w' ⟨v, rfl, hf⟩
  obtain ⟨a, n, c, rfl⟩ := hf.choose_spec.1.isSlice
  exact ⟨a, n, c, rfl, OII.leads.to _ _ _ _ _ hf.choose_spec.1 (fun k hk => ⟨hf.choose_spec.2.1 k hk, OII.ok.lt hf.choose_spec.1 k hk⟩), hf.bel⟩

set_option maxHeartbeats 3200000 in
set_option maxRecDepth 10000 in
theorem implUndAt {B bx : Nat} {x : Chn} {w : World} (h : BoxC (· < B) w bx x) (hB : B ≤ w.heap.size) (hbx : bx < w.heap.size) (hv : VC x) {kind : Int} (hkd : kindOk kind x.base = true) {place : Nat} (hp : place + errLen kind ≤ x.n) :
    Calls Try.prog 96 #[.pointer (some ⟨bx, 0, none⟩), .int .i64 kind, .int .i64 place] w fun e w' => e = .returned (.tuple #[.int .i64 (badAt x kind place : Nat), .int .i64 (allAt x kind place : Nat)]) ∧ Below w.heap.size w w' := by
  have hnat := hv.nat
  have H := Lib.hid h
  have Hv := Lib.hid hv; clear hv
  have Hkd := Lib.hid hkd; clear hkd
  have hel := errLen_bd kind
  obtain ⟨W3, hW3⟩ : ∃ W3, W3 = ((w.alloc (.cells #[.pointer (some ⟨bx, 0, none⟩)] 114)).alloc (.cells #[.int .i64 kind] 2)).alloc (.cells #[.int .i64 place] 3) := ⟨_, rfl⟩
  have H3 := Lib.hid (three w (.cells #[.pointer (some ⟨bx, 0, none⟩)] 114) (.cells #[.int .i64 kind] 2) (.cells #[.int .i64 place] 3) 0)
  rw [World.drewN_zero, ← hW3] at H3
  have HW3 := Lib.hid hW3; clear hW3
  have hs3 := H3.out.2.2.2.1
  have c3 : W3.cell? ⟨w.heap.size, 0, none⟩ = some (.pointer (some ⟨bx, 0, none⟩)) := heap_cell H3.out.1 (i := 0) rfl
  have c4 : W3.cell? ⟨w.heap.size + 1, 0, none⟩ = some (.int .i64 kind) := heap_cell H3.out.2.1 (i := 0) rfl
  have c5 : W3.cell? ⟨w.heap.size + 1 + 1, 0, none⟩ = some (.int .i64 place) := heap_cell H3.out.2.2.1 (i := 0) rfl
  have hbel3 := H3.out.2.2.2.2
  have Hbel3 := Lib.hid hbel3
  have hbx3 := Lib.hid (h.below hbel3 hB hbx)
  clear h hbel3
  have hCB := Lib.hid (fun w2 (h2 : Below W3.heap.size W3 w2) => implBeginsS (hbx3.out.below h2 (by omega) (by omega)) (by have := h2.size; omega) (by have := h2.size; omega) Hv.out place (by omega))
  have hCW := Lib.hid (fun w2 (h2 : Below W3.heap.size W3 w2) => implBothS (hbx3.out.below h2 (by omega) (by omega)) (by have := h2.size; omega) (by have := h2.size; omega) Hv.out (place + errLen kind) (by omega))
  have hsc3 := Lib.hid (show ∀ w2, Below W3.heap.size W3 w2 → w2.cell? ⟨w.heap.size, 0, none⟩ = some (.pointer (some ⟨bx, 0, none⟩)) ∧ w2.cell? ⟨w.heap.size + 1 + 1, 0, none⟩ = some (.int .i64 place) ∧ Below W3.heap.size W3 w2 from fun w2 h2 =>
    ⟨(h2.cell (p := ⟨w.heap.size, 0, none⟩) (by show w.heap.size < _; omega)).trans c3, (h2.cell (p := ⟨w.heap.size + 1 + 1, 0, none⟩) (by show w.heap.size + 1 + 1 < _; omega)).trans c5, h2⟩)
  have hEL := Lib.hid (implErrLen kind)
  have Hs3 := Lib.hid hs3; clear hs3
  obtain ⟨n, hn⟩ : ∃ n : Nat, n = errLen kind := ⟨_, rfl⟩
  have Hn := Lib.hid hn
  rw [← hn] at hp hel hEL hCW
  have hpl : place ≤ 20 := by simp only [Chn.n] at *; omega
  have hadd : ((place : Int) + (n : Int)) = ((place + n : Nat) : Int) := by omega
  have hwr : IntKind.i64.wrap ((place : Int) + (n : Int)) = ((place + n : Nat) : Int) := by rw [hadd]; exact IntWalk.i64_in _ (by omega)
  have hc7 : Hid (place + n = place + n) := Lib.hid rfl
  clear hn hadd
  go_enter Try.func96, Try.ntmps96
  go_wp2_with fail
  rw [← HW3.out]
  refine (Calls.mono (hEL.out _) ?_)
  rintro e w' ⟨rfl, rfl⟩
  go_wp2_with fail
  obtain ⟨PN, hPN⟩ : ∃ k : Nat, k = place + n := ⟨_, rfl⟩
  rw [← hPN] at hCW hwr
  have HPN := Lib.hid hPN; clear hPN
  go_cut [9, 10] from 15 to 22 (fun v9 v10 wx => ∃ (bg bw : Nat) (vb vw : Value), v9 = .pointer (some ⟨bg, 0, none⟩) ∧ v10 = .pointer (some ⟨bw, 0, none⟩) ∧ bg < wx.heap.size ∧ bw < wx.heap.size ∧ wx.cell? ⟨bg, 0, none⟩ = some vb ∧ wx.cell? ⟨bw, 0, none⟩ = some vw ∧
    RdI (· < wx.heap.size) wx vb (rowL x.S (begV x place)) ∧ RdII (· < wx.heap.size) wx vw (gridL x.S x.S (bothV x PN)) ∧ Below W3.heap.size W3 wx)
  case first =>
    go_region_held3 (fun w' => w'.cell? ⟨w.heap.size, 0, none⟩ = some (.pointer (some ⟨bx, 0, none⟩)) ∧ w'.cell? ⟨w.heap.size + 1 + 1, 0, none⟩ = some (.int .i64 place) ∧ Below W3.heap.size W3 w') ((refine hsc3.out _ ?_; repeat' (first | with_reducible exact s8.2.2 | with_reducible exact s7.2.2 | with_reducible exact Below.refl _ _ | with_reducible refine Below.drew ?_ | with_reducible refine Below.alloc ?_ ?_ _ | with_reducible refine Below.setCell ?_ ?_ _ | (show _ ≤ _; have h8 := s8.2.2.size; simp; omega) | (show _ ≤ _; have h7 := s7.2.2.size; simp; omega) | (show _ ≤ _; simp) | (show _ ≤ _; have h8 := s8.2.2.size; have h7 := s7.2.2.size; simp; omega)))) (first
      | (with_reducible refine (Calls.mono (hCB.out _ (‹_ ∧ _ ∧ Below W3.heap.size W3 _›).2.2) ?_); rintro e w7 ⟨a7, n7, k7, rfl, r7, hf7⟩; have R7 := Lib.hid r7; clear r7; have s7 := hsc3.out _ (Below.trans (‹_ ∧ _ ∧ Below W3.heap.size W3 _›).2.2 (hf7.mono (‹_ ∧ _ ∧ Below W3.heap.size W3 _›).2.2.size)); have m7s := hf7.size; (try (have l7a : W3.heap.size < w7.heap.size := by (have hA := m7s; simp only [drew_size, alloc_size] at hA; omega))); (try (have l7b : W3.heap.size + 1 < w7.heap.size := by (have hA := m7s; simp only [drew_size, alloc_size] at hA; omega))); (try (have y7_1 : w7.cell? ⟨W3.heap.size, 0, none⟩ = some (.slice none 0 0) := (hf7.cell (p := ⟨W3.heap.size, 0, none⟩) (by simp only [drew_size, alloc_size]; omega)).trans (by first | exact cell_new _ _ _ | exact cell_old _ _ _ _ | exact cell_new1 _ _ _ _ | exact (cell_drew _ _).trans (cell_new _ _ _) | exact (cell_drew _ _).trans (cell_old _ _ _ _) | exact (cell_drew _ _).trans (cell_new1 _ _ _ _)))); (try (have z7_1 : w7.frozen? ⟨W3.heap.size, 0, none⟩ = false := (hf7.frozen (p := ⟨W3.heap.size, 0, none⟩) (by simp only [drew_size, alloc_size]; omega)).trans (by first | exact frozen_new _ _ _ | exact frozen_old _ _ _ _ | exact frozen_new1 _ _ _ _ | exact (frozen_drew _ _).trans (frozen_new _ _ _) | exact (frozen_drew _ _).trans (frozen_old _ _ _ _) | exact (frozen_drew _ _).trans (frozen_new1 _ _ _ _)))); (try (have y7_2 : w7.cell? ⟨W3.heap.size + 1, 0, none⟩ = some (.slice none 0 0) := (hf7.cell (p := ⟨W3.heap.size + 1, 0, none⟩) (by simp only [drew_size, alloc_size]; omega)).trans (by first | exact cell_new _ _ _ | exact cell_old _ _ _ _ | exact cell_new1 _ _ _ _ | exact (cell_drew _ _).trans (cell_new _ _ _) | exact (cell_drew _ _).trans (cell_old _ _ _ _) | exact (cell_drew _ _).trans (cell_new1 _ _ _ _)))); (try (have z7_2 : w7.frozen? ⟨W3.heap.size + 1, 0, none⟩ = false := (hf7.frozen (p := ⟨W3.heap.size + 1, 0, none⟩) (by simp only [drew_size, alloc_size]; omega)).trans (by first | exact frozen_new _ _ _ | exact frozen_old _ _ _ _ | exact frozen_new1 _ _ _ _ | exact (frozen_drew _ _).trans (frozen_new _ _ _) | exact (frozen_drew _ _).trans (frozen_old _ _ _ _) | exact (frozen_drew _ _).trans (frozen_new1 _ _ _ _)))); clear hf7)
      | (with_reducible refine (Calls.mono (hCW.out _ (‹_ ∧ _ ∧ Below W3.heap.size W3 _›).2.2) ?_); rintro e w8 ⟨a8, n8, k8, rfl, r8, hf8⟩; have R8 := Lib.hid r8; clear r8; have s8 := hsc3.out _ (Below.trans (‹_ ∧ _ ∧ Below W3.heap.size W3 _›).2.2 (hf8.mono (‹_ ∧ _ ∧ Below W3.heap.size W3 _›).2.2.size)); have m8s := hf8.size; (try (have l8a : W3.heap.size < w8.heap.size := by (have hA := m7s; have hC := m8s; simp only [drew_size, alloc_size] at hA hC; omega))); (try (have l8b : W3.heap.size + 1 < w8.heap.size := by (have hA := m7s; have hC := m8s; simp only [drew_size, alloc_size] at hA hC; omega))); (try (have l8c : w7.heap.size < w8.heap.size := by (have hA := m7s; have hC := m8s; simp only [drew_size, alloc_size] at hA hC; omega))); (try (have l8d : w7.heap.size + 1 < w8.heap.size := by (have hA := m7s; have hC := m8s; simp only [drew_size, alloc_size] at hA hC; omega))); have m8 := Lib.hid hf8; (try (have y8_1 : w8.cell? ⟨W3.heap.size, 0, none⟩ = some (.slice none 0 0) := (hf8.cell (p := ⟨W3.heap.size, 0, none⟩) (by have hA := m7s; simp only [drew_size, alloc_size] at hA ⊢; first | omega | (simp; done))).trans (by first | exact y7_1 | (rw [World.cell?_alloc_past _ _ _ (by have hA := m7s; simp only [drew_size, alloc_size] at hA ⊢; first | omega | (simp; done))]; exact y7_1) | (rw [World.cell?_alloc_past _ _ _ (by have hA := m7s; simp only [drew_size, alloc_size] at hA ⊢; first | omega | (simp; done)), World.cell?_alloc_past _ _ _ (by have hA := m7s; simp only [drew_size, alloc_size] at hA ⊢; first | omega | (simp; done))]; exact y7_1)))); (try (have z8_1 : w8.frozen? ⟨W3.heap.size, 0, none⟩ = false := (hf8.frozen (p := ⟨W3.heap.size, 0, none⟩) (by have hA := m7s; simp only [drew_size, alloc_size] at hA ⊢; first | omega | (simp; done))).trans (by first | exact z7_1 | (rw [World.frozen?_alloc_past _ _ _ (by have hA := m7s; simp only [drew_size, alloc_size] at hA ⊢; first | omega | (simp; done))]; exact z7_1) | (rw [World.frozen?_alloc_past _ _ _ (by have hA := m7s; simp only [drew_size, alloc_size] at hA ⊢; first | omega | (simp; done)), World.frozen?_alloc_past _ _ _ (by have hA := m7s; simp only [drew_size, alloc_size] at hA ⊢; first | omega | (simp; done))]; exact z7_1)))); (try (have y8_2 : w8.cell? ⟨W3.heap.size + 1, 0, none⟩ = some (.slice none 0 0) := (hf8.cell (p := ⟨W3.heap.size + 1, 0, none⟩) (by have hA := m7s; simp only [drew_size, alloc_size] at hA ⊢; first | omega | (simp; done))).trans (by first | exact y7_2 | (rw [World.cell?_alloc_past _ _ _ (by have hA := m7s; simp only [drew_size, alloc_size] at hA ⊢; first | omega | (simp; done))]; exact y7_2) | (rw [World.cell?_alloc_past _ _ _ (by have hA := m7s; simp only [drew_size, alloc_size] at hA ⊢; first | omega | (simp; done)), World.cell?_alloc_past _ _ _ (by have hA := m7s; simp only [drew_size, alloc_size] at hA ⊢; first | omega | (simp; done))]; exact y7_2)))); (try (have z8_2 : w8.frozen? ⟨W3.heap.size + 1, 0, none⟩ = false := (hf8.frozen (p := ⟨W3.heap.size + 1, 0, none⟩) (by have hA := m7s; simp only [drew_size, alloc_size] at hA ⊢; first | omega | (simp; done))).trans (by first | exact z7_2 | (rw [World.frozen?_alloc_past _ _ _ (by have hA := m7s; simp only [drew_size, alloc_size] at hA ⊢; first | omega | (simp; done))]; exact z7_2) | (rw [World.frozen?_alloc_past _ _ _ (by have hA := m7s; simp only [drew_size, alloc_size] at hA ⊢; first | omega | (simp; done)), World.frozen?_alloc_past _ _ _ (by have hA := m7s; simp only [drew_size, alloc_size] at hA ⊢; first | omega | (simp; done))]; exact z7_2)))); (try (have y8_3 : w8.cell? ⟨w7.heap.size, 0, none⟩ = some (.slice none 0 0) := (hf8.cell (p := ⟨w7.heap.size, 0, none⟩) (by simp only [drew_size, alloc_size]; omega)).trans (by first | exact cell_new _ _ _ | exact cell_old _ _ _ _ | exact cell_new1 _ _ _ _ | exact (cell_drew _ _).trans (cell_new _ _ _) | exact (cell_drew _ _).trans (cell_old _ _ _ _) | exact (cell_drew _ _).trans (cell_new1 _ _ _ _)))); (try (have z8_3 : w8.frozen? ⟨w7.heap.size, 0, none⟩ = false := (hf8.frozen (p := ⟨w7.heap.size, 0, none⟩) (by simp only [drew_size, alloc_size]; omega)).trans (by first | exact frozen_new _ _ _ | exact frozen_old _ _ _ _ | exact frozen_new1 _ _ _ _ | exact (frozen_drew _ _).trans (frozen_new _ _ _) | exact (frozen_drew _ _).trans (frozen_old _ _ _ _) | exact (frozen_drew _ _).trans (frozen_new1 _ _ _ _)))); (try (have y8_4 : w8.cell? ⟨w7.heap.size + 1, 0, none⟩ = some (.slice none 0 0) := (hf8.cell (p := ⟨w7.heap.size + 1, 0, none⟩) (by simp only [drew_size, alloc_size]; omega)).trans (by first | exact cell_new _ _ _ | exact cell_old _ _ _ _ | exact cell_new1 _ _ _ _ | exact (cell_drew _ _).trans (cell_new _ _ _) | exact (cell_drew _ _).trans (cell_old _ _ _ _) | exact (cell_drew _ _).trans (cell_new1 _ _ _ _)))); (try (have z8_4 : w8.frozen? ⟨w7.heap.size + 1, 0, none⟩ = false := (hf8.frozen (p := ⟨w7.heap.size + 1, 0, none⟩) (by simp only [drew_size, alloc_size]; omega)).trans (by first | exact frozen_new _ _ _ | exact frozen_old _ _ _ _ | exact frozen_new1 _ _ _ _ | exact (frozen_drew _ _).trans (frozen_new _ _ _) | exact (frozen_drew _ _).trans (frozen_old _ _ _ _) | exact (frozen_drew _ _).trans (frozen_new1 _ _ _ _)))); clear hf8))
    all_goals (go_wp2_with fail)
    all_goals go_meet
    all_goals have hs8 := s8.2.2.size
    all_goals have hs7 := s7.2.2.size
    all_goals refine ⟨_, _, .slice a7 n7 k7, .slice a8 n8 k8, rfl, rfl, ?_, ?_, ?_, ?_, ?_, ?_, ?_⟩
    all_goals first
      | (simp only [alloc_size, set_size]; omega)
      | omega
      | exact cell_new _ _ _
      | exact cell_old _ _ _ _
      | exact cell_new1 _ _ _ _
      | exact World.cell?_setCell_same _ _ _ (by assumption)
      | exact (World.cell?_setCell_far _ _ _ _ (by show _ ≠ _; simp only [ne_eq]; omega)).trans (World.cell?_setCell_same _ _ _ (by assumption))
      | exact World.cell?_setCell_same _ _ _ ((World.cell?_setCell_far _ _ _ _ (by show _ ≠ _; simp only [ne_eq]; omega)).trans (by assumption))
      | exact (World.cell?_alloc_past _ _ _ (by simp only [set_size]; omega)).trans (World.cell?_setCell_same _ _ _ (by assumption))
      | (rw [← set_size w8]; exact cell_new _ _ _)
      | (refine RdI.ok.mono (RdI.ok.keep R7.out (fun k hk => ?_)) (fun k hk => ?_)
         · try simp only [drew_size, alloc_size] at hk
           try simp only [drew_size, alloc_size] at m8s
           repeat' (first | with_reducible rfl | (with_reducible refine (heap_setCell_other _ _ _ _ ?_).trans ?_) | (with_reducible refine (Below.heap_alloc _ _ _ ?_).trans ?_) | (with_reducible refine (m8.out.block _ ?_).trans ?_) | (simp only [drew_size, alloc_size, set_size]; omega) | omega)
         · simp only [alloc_size, set_size]; omega)
      | (refine RdII.ok.mono (RdII.ok.keep R8.out (fun k hk => ?_)) (fun k hk => ?_)
         · try simp only [drew_size, alloc_size] at hk
           repeat' (first | with_reducible rfl | (with_reducible refine (heap_setCell_other _ _ _ _ ?_).trans ?_) | (with_reducible refine (Below.heap_alloc _ _ _ ?_).trans ?_) | (with_reducible refine (m8.out.block _ ?_).trans ?_) | (simp only [drew_size, alloc_size, set_size]; omega) | omega)
         · simp only [alloc_size, set_size]; omega)
      | (repeat' (first | with_reducible exact s8.2.2 | with_reducible refine Below.alloc ?_ ?_ _ | with_reducible refine Below.setCell ?_ ?_ _ | omega | (simp only [alloc_size, set_size]; omega) | (dsimp only; omega)))
  case rest =>
    obtain ⟨bg, bw, vb, vw, rfl, rfl, hg1, hw1, hg2, hw2, hrb, hrw, hbl⟩ := hcut
    have e1 := Hn.out
    subst e1
    have e2 := HPN.out
    subst e2
    have hs3 := Hs3.out
    have hcs := (hsc3.out _ hbl).1
    have hps := (hsc3.out _ hbl).2.1
    have hks : wc.cell? ⟨w.heap.size + 1, 0, none⟩ = some (.int .i64 kind) := (hbl.cell (p := ⟨w.heap.size + 1, 0, none⟩) (by show w.heap.size + 1 < _; omega)).trans c4
    have hszc := hbl.size
    have hbxc := hbx3.out.below hbl (by omega) (by omega)
    obtain ⟨a4, c4', a5, c5', g0, _⟩ := hbxc.cells
    obtain ⟨NB, hNB⟩ : ∃ n : Nat, n = x.b := ⟨_, rfl⟩
    rw [show x.base = (NB : Int) by have := Hv.out.base; rw [hNB]; show x.base = (x.base.toNat : Int); omega] at g0
    obtain ⟨W5, hW5⟩ : ∃ W5, W5 = (wc.alloc (.cells #[.int .i64 0] 2)).alloc (.cells #[.int .i64 0] 2) := ⟨_, rfl⟩
    have H5 := two_end wc (.cells #[.int .i64 0] 2) (.cells #[.int .i64 0] 2)
    rw [← hW5] at H5
    obtain ⟨z1, z2, z3, z4⟩ := H5
    have hUD : UD x kind place w.heap.size (w.heap.size + 1) bg bw (w.heap.size + 1 + 1) wc.heap.size bx vb vw (ptA x kind place 0) (ptZ x kind place 0) W5 := by
      have hk : ∀ j, j < wc.heap.size → W5.heap[j]? = wc.heap[j]? := z4.block
      refine ⟨⟨by omega, by omega, hg1, hw1, by omega, by omega⟩, (cell_keep (hk _ (by show w.heap.size < _; omega))).trans hcs, (cell_keep (hk _ (by show w.heap.size + 1 < _; omega))).trans hks, (cell_keep (hk _ hg1)).trans hg2, (cell_keep (hk _ hw1)).trans hw2, (cell_keep (hk _ (by show w.heap.size + 1 + 1 < _; omega))).trans hps, z1, z2, ?_, RdI.ok.keep hrb hk, RdII.ok.keep hrw hk⟩
      obtain ⟨u, p, k1, k2, k3⟩ := hbxc
      exact ⟨u, p, (hk _ (by omega)).trans k1, RdIII.ok.mono (RdIII.ok.keep k2 fun j hj => hk j (by omega)) fun j hj => by omega, RdI.ok.mono (RdI.ok.keep k3 fun j hj => hk j (by omega)) fun j hj => by omega⟩
    have hbl5 : Below w.heap.size w W5 := (Hbel3.out.trans (hbl.mono (by omega))).trans (z4.mono (by omega))
    have HUD := Lib.hid hUD
    have Hz3 := Lib.hid z3
    have htup := Lib.hid (implTuples NB (errLen kind) (by omega) (by omega) hel.1 hel.2 W5 142
      #[.pointer (some ⟨w.heap.size + 1, 0, none⟩), .pointer (some ⟨w.heap.size, 0, none⟩), .pointer (some ⟨bg, 0, none⟩), .pointer (some ⟨w.heap.size + 1 + 1, 0, none⟩), .pointer (some ⟨wc.heap.size + 1, 0, none⟩), .pointer (some ⟨bw, 0, none⟩), .pointer (some ⟨wc.heap.size, 0, none⟩)]
      (fun i w1 => UD x kind place w.heap.size (w.heap.size + 1) bg bw (w.heap.size + 1 + 1) wc.heap.size bx vb vw (ptA x kind place i) (ptZ x kind place i) w1 ∧ Below w.heap.size w w1)
      (fun w1 => UD x kind place w.heap.size (w.heap.size + 1) bg bw (w.heap.size + 1 + 1) wc.heap.size bx vb vw (allAt x kind place) (badAt x kind place) w1 ∧ Below w.heap.size w w1)
      (fun w1 h1 => ⟨hUD.keep fun j hj => h1.block j (by omega), hbl5.trans (h1.mono (by omega))⟩)
      (fun i w1 w2 h1 h2 => ⟨h1.1.keep fun j hj => h2.block j (by omega), h1.2.trans (h2.mono (by omega))⟩)
      (fun w1 h1 => ⟨by rw [← ptI_all, ← ptI_bad]; rw [hNB] at h1; exact h1.1, h1.2⟩)
      (fun i hi L c w1 hL1 hL2 hrd hI => by
        rw [hNB] at hi hrd
        refine (implUD1 Hv.out Hkd.out hi hI.1 (by omega) hL2 hrd hp).mono ?_
        rintro e w2 ⟨rfl, hu, hk, hb⟩
        exact ⟨true, rfl, fun _ => ⟨hu, hI.2.trans (hb.mono (by omega))⟩, (fun h => by cases h), fun k h1 h2 => hk.block k (by omega) h2⟩)
      (fun args w => rfl))
    have HW5 := Lib.hid hW5
    have hA1 : w.heap.size < wc.heap.size := by omega
    have hA2 : bx < wc.heap.size := by omega
    clear hUD z1 z2 z3 z4 hNB hbl5 hW5 hs3 hrb hrw hg2 hw2 hks hps
    go_wp2_with fail
    rw [← HW5.out]
    refine (Calls.mono htup.out ?_)
    rintro e w6 ⟨rfl, hu, hb⟩
    have d1 := heap_cell hu.z (i := 0) rfl
    have d2 := heap_cell hu.a (i := 0) rfl
    have Hb := Lib.hid hb
    clear hu hb
    go_wp2
    go_quiet (fail)
    go_wp2
    refine bodyPost_ret (v := .tuple #[.int .i64 (badAt x kind place : Nat), .int .i64 (allAt x kind place : Nat)]) (by simp [results, Try.results96, go_sem]) rfl ⟨rfl, Below.draws Hb.out _⟩
end Go.Proofs.Ytnpkanlieflbiaa
