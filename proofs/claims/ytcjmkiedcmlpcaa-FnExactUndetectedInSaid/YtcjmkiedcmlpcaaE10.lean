/- Numbers of undetected errors at a place, walked: impl's closures and undetectedAt. -/
import Derived.Test.YtcjmkiedcmlpcaaE1
import Derived.Test.YtcjmkiedcmlpcaaE2
import Derived.Test.YtcjmkiedcmlpcaaE5
import Derived.Test.YtcjmkiedcmlpcaaE7
import Derived.Test.YtcjmkiedcmlpcaaC5
import Derived.Deep.RegionWith
import Derived.Deep.CutRange
namespace Go.Proofs.Ytcjmkiedcmlpcaa
open Go.RowKit
set_option linter.unusedVariables false

/-- What the closures have: the boxes of what does not turn lie below bb; at bb and behind it are the boxes of both sums. -/
structure UD (x : Chn) (kind : Int) (place : Nat) (bc bk bg bw bp bb bx : Nat) (vb vw : Value) (A Z : Nat) (w : World) : Prop where
  lt : bc < bb ∧ bk < bb ∧ bg < bb ∧ bw < bb ∧ bp < bb ∧ bx < bb
  c : w.cell? ⟨bc, 0, none⟩ = some (.pointer (some ⟨bx, 0, none⟩))
  k : w.cell? ⟨bk, 0, none⟩ = some (.int .i64 kind)
  g : w.cell? ⟨bg, 0, none⟩ = some vb
  b : w.cell? ⟨bw, 0, none⟩ = some vw
  p : w.cell? ⟨bp, 0, none⟩ = some (.int .i64 place)
  z : w.heap[bb]? = some (.cells #[.int .i64 Z] 2 (0, 0))
  a : w.heap[bb + 1]? = some (.cells #[.int .i64 A] 2 (0, 0))
  box : BoxC (· < bb) w bx x
  rb : RdI (· < bb) w vb (rowL x.S (begV x place))
  rw : RdII (· < bb) w vw (gridL x.S x.S (bothV x (place + errLen kind)))

section UD
variable {x : Chn} {kind : Int} {place bc bk bg bw bp bb bx : Nat} {vb vw : Value} {A Z : Nat} {w w' : World}
theorem UD.keep (h : UD x kind place bc bk bg bw bp bb bx vb vw A Z w) (hk : ∀ j, j < bb + 2 → w'.heap[j]? = w.heap[j]?) : UD x kind place bc bk bg bw bp bb bx vb vw A Z w' := by
  obtain ⟨h0, h1, h2, h3, h4, h5, h6, h7, h8, h9, h10⟩ := h
  obtain ⟨l1, l2, l3, l4, l5, l6⟩ := h0
  refine ⟨⟨l1, l2, l3, l4, l5, l6⟩, (cell_keep (hk _ (by show bc < _; omega))).trans h1, (cell_keep (hk _ (by show bk < _; omega))).trans h2, (cell_keep (hk _ (by show bg < _; omega))).trans h3, (cell_keep (hk _ (by show bw < _; omega))).trans h4, (cell_keep (hk _ (by show bp < _; omega))).trans h5, (hk _ (by omega)).trans h6, (hk _ (by omega)).trans h7, h8.keep fun j hj => hk j ?_, RdI.ok.keep h9 fun j hj => hk j (by omega), RdII.ok.keep h10 fun j hj => hk j (by omega)⟩
  rcases hj with hj | hj <;> omega
theorem UD.draws (h : UD x kind place bc bk bg bw bp bb bx vb vw A Z w) (m : Nat) : UD x kind place bc bk bg bw bp bb bx vb vw A Z (w.drewN m) := h.keep fun _ _ => rfl
theorem UD.low (h : UD x kind place bc bk bg bw bp bb bx vb vw A Z w) (hk : ∀ j, j < bb → w'.heap[j]? = w.heap[j]?) {A' Z' : Nat} (hz : w'.heap[bb]? = some (.cells #[.int .i64 Z'] 2 (0, 0))) (ha : w'.heap[bb + 1]? = some (.cells #[.int .i64 A'] 2 (0, 0))) :
    UD x kind place bc bk bg bw bp bb bx vb vw A' Z' w' := by
  obtain ⟨h0, h1, h2, h3, h4, h5, h6, h7, h8, h9, h10⟩ := h
  obtain ⟨l1, l2, l3, l4, l5, l6⟩ := h0
  refine ⟨⟨l1, l2, l3, l4, l5, l6⟩, (cell_keep (hk _ (by show bc < _; omega))).trans h1, (cell_keep (hk _ (by show bk < _; omega))).trans h2, (cell_keep (hk _ (by show bg < _; omega))).trans h3, (cell_keep (hk _ (by show bw < _; omega))).trans h4, (cell_keep (hk _ (by show bp < _; omega))).trans h5, hz, ha, h8.keep fun j hj => hk j ?_, RdI.ok.keep h9 fun j hj => hk j (by omega), RdII.ok.keep h10 fun j hj => hk j (by omega)⟩
  rcases hj with hj | hj <;> omega
theorem UD.putA (h : UD x kind place bc bk bg bw bp bb bx vb vw A Z w) (A' : Nat) : UD x kind place bc bk bg bw bp bb bx vb vw A' Z (w.setCell ⟨bb + 1, 0, none⟩ (.int .i64 A')) :=
  h.low (fun j hj => heap_setCell_other w _ j _ (by simp; omega)) ((heap_setCell_other w _ bb _ (by simp)).trans h.z) (heap_setCell_same w (bb + 1) 0 _ _ _ h.a)
theorem UD.putZ (h : UD x kind place bc bk bg bw bp bb bx vb vw A Z w) (Z' : Nat) : UD x kind place bc bk bg bw bp bb bx vb vw A Z' (w.setCell ⟨bb, 0, none⟩ (.int .i64 Z')) :=
  h.low (fun j hj => heap_setCell_other w _ j _ (by simp; omega)) (heap_setCell_same w bb 0 _ _ _ h.z) ((heap_setCell_other w _ (bb + 1) _ (by simp)).trans h.a)
end UD
/-- A cell of a grid that is read. -/
theorem gridCell {P : Nat → Prop} {w : World} {a : Option Addr} {n c i j : Nat} {f : Nat → Nat → Nat} (hi : i < n) (hj : j < n) (h : RdII P w (.slice a n c) (gridL n n f)) :
    ∃ b o b2 o2 c2, a = some ⟨b, o, none⟩ ∧ w.cell? ⟨b, o + i, none⟩ = some (.slice (some ⟨b2, o2, none⟩) n c2) ∧ n ≤ c2 ∧ c2 ≤ maxLen ∧ w.cell? ⟨b2, o2 + j, none⟩ = some (.int .i64 (f i j : Nat)) := by
  have hl : (gridL n n f).length = n := by simp [gridL]
  have hr := gridL_grid n n f
  obtain ⟨b, o, a1, c1, rfl, _, hc, g1, g2, hr1⟩ := Rd.row h (x := i) (by rw [hl]; exact hi)
  obtain ⟨b2, o2, u, rfl, _, hc2, rfl⟩ := Rd.elim hr1 j (by rw [(hr.2 i hi).1]; exact hj)
  rw [(hr.2 i hi).1] at hc g1
  rw [(hr.2 i hi).2 j hj] at hc2
  exact ⟨b, o, b2, o2, c1, rfl, hc, g1, g2, hc2⟩
theorem gridL_len (m r : Nat) (f : Nat → Nat → Nat) : (gridL m r f).length = m := by simp [gridL]
theorem rowL_len (n : Nat) (f : Nat → Nat) : (rowL n f).length = n := by simp [rowL]
theorem rowL_at {n s : Nat} (f : Nat → Nat) (h : s < n) : nth (rowL n f) s = (f s : Int) := by rw [rowL, nth_range_map h]
theorem Kept.draws {M : Nat} {w w' : World} (h : Kept M w w') (m : Nat) : Kept M w (w'.drewN m) := ⟨h.size, h.block⟩
theorem Kept.set {M b i : Nat} {w w' : World} (h : Kept M w w') (hb : b < M) (v : Value) : Kept M w (w'.setCell ⟨b, i, none⟩ v) :=
  ⟨by have := h.size; simp; omega, fun k h1 h2 => (heap_setCell_other w' _ k v (by simp; omega)).trans (h.block k h1 h2)⟩

set_option maxHeartbeats 3200000 in
set_option maxRecDepth 10000 in
theorem implUD2 {x : Chn} {kind : Int} {place bc bk bg bw bp bb bx bf : Nat} {vb vw vf vt : Value} {A Z : Nat} {f t : List Int} {w : World} (hv : VC x) (h : UD x kind place bc bk bg bw bp bb bx vb vw A Z w)
    (hbf : w.heap[bf]? = some (.cells #[vf] 23 (0, 0))) (hbf2 : bb + 2 ≤ bf) (hf : RdI (fun k => bb + 2 ≤ k ∧ k < w.heap.size) w vf f) (ht : RdI (fun k => bb + 2 ≤ k ∧ k < w.heap.size) w vt t) (hfd : Digs x.b f) (htd : Digs x.b t)
    (hfl : f.length = errLen kind) (htl : t.length = errLen kind) (hp : place + errLen kind ≤ x.n) (hA : A + sumN x.S (all1 x place (errLen kind) (f, t)) ≤ 36000000000000000) (hZ : Z + sumN x.S (bad1 x place (errLen kind) (f, t)) ≤ 36000000000000000) :
    Calls Try.prog 101 #[vt, .pointer (some ⟨bg, 0, none⟩), .pointer (some ⟨bc, 0, none⟩), .pointer (some ⟨bp, 0, none⟩), .pointer (some ⟨bf, 0, none⟩), .pointer (some ⟨bb + 1, 0, none⟩), .pointer (some ⟨bw, 0, none⟩), .pointer (some ⟨bb, 0, none⟩)] w
      fun e w' => e = .returned (.tuple #[]) ∧ UD x kind place bc bk bg bw bp bb bx vb vw (A + sumN x.S (all1 x place (errLen kind) (f, t))) (Z + sumN x.S (bad1 x place (errLen kind) (f, t))) w' ∧ Kept (bb + 2) w w' ∧ Below bb w w' := by
  have hnat := hv.nat
  have Hv := Lib.hid hv; clear hv
  have Hbf := Lib.hid hbf; clear hbf
  have Hf := Lib.hid hf; clear hf
  have Ht := Lib.hid ht; clear ht
  obtain ⟨av, cv, rfl, q1, q2⟩ := h.rb.isSlice
  obtain ⟨aw, cw, rfl, q3, q4⟩ := h.rw.isSlice
  rw [gridL_len] at *
  rw [rowL_len] at *
  obtain ⟨NS, hNS⟩ : ∃ n : Nat, n = x.S := ⟨_, rfl⟩
  rw [← hNS] at hnat q1 q3
  have H := Lib.hid (show UD x kind place bc bk bg bw bp bb bx (.slice av NS cv) (.slice aw NS cw) A Z w by rw [hNS]; exact h)
  clear h
  have hc1 : w.cell? ⟨bg, 0, none⟩ = some (.slice av NS cv) := H.out.g
  have HA := Lib.hid hA; clear hA
  have HZ := Lib.hid hZ; clear hZ
  have hU0 := Lib.hid (show UD x kind place bc bk bg bw bp bb bx _ _ (A + sumN 0 (all1 x place (errLen kind) (f, t))) (Z + sumN 0 (bad1 x place (errLen kind) (f, t))) w from H.out)
  have hK0 := Lib.hid (Kept.refl (bb + 2) w)
  have hB0 := Lib.hid (Below.refl bb w)
  unfold maxLen at q2 q4
  have HNS := Lib.hid hNS
  clear hNS
  go_enter Try.func101, Try.ntmps101
  go_wp2
  clear hc1
  go_loopw [15] (fun iv wr => ∃ s : Nat, s ≤ NS ∧ iv = .int .i64 s ∧ Hid (UD x kind place bc bk bg bw bp bb bx (.slice av NS cv) (.slice aw NS cw) (A + sumN s (all1 x place (errLen kind) (f, t))) (Z + sumN s (bad1 x place (errLen kind) (f, t))) wr) ∧ Hid (Kept (bb + 2) w wr) ∧ Hid (Below bb w wr)) (fun iv _ => NS - (intOf iv).toNat)
  case atStart => exact ⟨0, Nat.zero_le _, rfl, hU0, hK0, hB0⟩
  case round =>
    clear hU0 hK0 hB0
    obtain ⟨s, hs, rfl, hU, hK, hB⟩ := hrel
    obtain ⟨W2, rfl⟩ : ∃ W2, W2 = wr := ⟨_, rfl⟩
    by_cases hls : s < NS
    · have hrb := hU.out.rb
      obtain ⟨b3, o3, u3, rfl, hP3, hc3, rfl⟩ := Rd.elim hrb s (by rw [rowL_len, ← HNS.out]; exact hls)
      rw [rowL_at _ (by rw [← HNS.out]; exact hls)] at hc3
      have hc4 : W2.cell? ⟨b3, o3 + s, none⟩ = some (.int .i64 (begV x place s : Nat)) := hc3
      clear hc3 hrb
      by_cases hz : begV x place s = 0
      · have hU2 := Lib.hid (show UD x kind place bc bk bg bw bp bb bx (.slice (some ⟨b3, o3, none⟩) NS cv) (.slice aw NS cw) (A + sumN (s + 1) (all1 x place (errLen kind) (f, t))) (Z + sumN (s + 1) (bad1 x place (errLen kind) (f, t))) W2 by
          rw [sumN_succ, sumN_succ, all1_zero hz, bad1_zero hz]; exact hU.out)
        rw [hz] at hc4
        have hc5 : W2.cell? ⟨b3, o3 + s, none⟩ = some (.int .i64 0) := hc4
        clear hc4 hz
        go_wp2
        go_roundw
        case rel => exact ⟨s + 1, by omega, by go_num, hU2, hK, hB⟩
        case measure => simp [intOf]; omega
      · have hb0 : ((begV x place s : Int) == 0) = false := by simp only [beq_eq_false_iff_ne]; omega
        have hsS : s < x.S := by rw [← HNS.out]; exact hls
        have hr1 := Hv.out.runLt hfd (k := place) (s := s) (by omega) hsS
        have hr2 := Hv.out.runLt htd (k := place) (s := s) (by omega) hsS
        have e2 := hU.out.c
        have e3 := hU.out.p
        have e4 := heap_cell (hK.out.heap hbf2 Hbf.out) (i := 0) rfl
        have Hf2 := Lib.hid (show RdI (fun k => bb + 2 ≤ k ∧ k < w.heap.size) W2 vf f from RdI.ok.keep Hf.out fun k hk => hK.out.block k hk.1 hk.2)
        have Ht2 := Lib.hid (show RdI (fun k => bb + 2 ≤ k ∧ k < w.heap.size) W2 vt t from RdI.ok.keep Ht.out fun k hk => hK.out.block k hk.1 hk.2)
        have hl1 := Lib.hid (fun m => implLeads (hU.out.box.draws m) Hv.out place s (rd_draws RdI.ok Hf2.out m) hfd (by omega) hsS)
        have hl2 := Lib.hid (fun m => implLeads (hU.out.box.draws m) Hv.out place s (rd_draws RdI.ok Ht2.out m) htd (by omega) hsS)
        have hsum1 := sumN_part (n := x.S) (k := s + 1) (all1 x place (errLen kind) (f, t)) (by omega)
        have hsum2 := sumN_part (n := x.S) (k := s + 1) (bad1 x place (errLen kind) (f, t)) (by omega)
        have ea : all1 x place (errLen kind) (f, t) s = begV x place s * bothV x (place + errLen kind) (runN x place s f) (runN x place s f) := by unfold all1; rw [bothV_same]
        have eb : bad1 x place (errLen kind) (f, t) s = begV x place s * bothV x (place + errLen kind) (runN x place s f) (runN x place s t) := rfl
        have hA := HA.out
        have hZ := HZ.out
        obtain ⟨SA, hSA⟩ : ∃ SA, SA = A + sumN s (all1 x place (errLen kind) (f, t)) := ⟨_, rfl⟩
        obtain ⟨SZ, hSZ⟩ : ∃ SZ, SZ = Z + sumN s (bad1 x place (errLen kind) (f, t)) := ⟨_, rfl⟩
        rw [sumN_succ] at hsum1 hsum2
        rw [ea] at hsum1
        rw [eb] at hsum2
        have hU2 := Lib.hid (fun W (hu : UD x kind place bc bk bg bw bp bb bx (.slice (some ⟨b3, o3, none⟩) NS cv) (.slice aw NS cw) (SA + begV x place s * bothV x (place + errLen kind) (runN x place s f) (runN x place s f)) (SZ + begV x place s * bothV x (place + errLen kind) (runN x place s f) (runN x place s t)) W) =>
          (show UD x kind place bc bk bg bw bp bb bx (.slice (some ⟨b3, o3, none⟩) NS cv) (.slice aw NS cw) (A + sumN (s + 1) (all1 x place (errLen kind) (f, t))) (Z + sumN (s + 1) (bad1 x place (errLen kind) (f, t))) W by
            rw [sumN_succ, sumN_succ, ea, eb, ← Nat.add_assoc, ← Nat.add_assoc, ← hSA, ← hSZ]; exact hu))
        rw [← hSA, ← hSZ] at hU
        have hlA : SA + begV x place s * bothV x (place + errLen kind) (runN x place s f) (runN x place s f) ≤ 36000000000000000 := by omega
        have hlZ : SZ + begV x place s * bothV x (place + errLen kind) (runN x place s f) (runN x place s t) ≤ 36000000000000000 := by omega
        have hrw := hU.out.rw
        rw [← HNS.out] at hrw hr1 hr2
        obtain ⟨bo, oo, g1, o1, c1, rfl, p1, p2, p3, p4⟩ := gridCell hr1 hr1 hrw
        have hG := Lib.hid (fun W hrd => gridCell (P := (· < bb)) (w := W) (a := some ⟨bo, oo, none⟩) (c := cw) (f := bothV x (place + errLen kind)) hr1 hr2 hrd)
        clear hrw hA hZ ea eb hSA hSZ hsum1 hsum2 hsS hz
        unfold maxLen at p3
        have e5 := heap_cell hU.out.a (i := 0) rfl
        have e6 := hU.out.b
        have f5 := frozen_at hU.out.a 0
        generalize begV x place s = M at *
        generalize runN x place s f = ra at *
        generalize runN x place s t = rb at *
        generalize bothV x (place + errLen kind) ra ra = E1 at *
        generalize bothV x (place + errLen kind) ra rb = E2 at *
        have cA : ((SA + M * E1 : Nat) : Int) = (SA : Int) + (M : Int) * (E1 : Int) := by rw [Int.natCast_add, Int.natCast_mul]
        have cZ : ((SZ + M * E2 : Nat) : Int) = (SZ : Int) + (M : Int) * (E2 : Int) := by rw [Int.natCast_add, Int.natCast_mul]
        have mA : ((M * E1 : Nat) : Int) = (M : Int) * (E1 : Int) := Int.natCast_mul _ _
        have mZ : ((M * E2 : Nat) : Int) = (M : Int) * (E2 : Int) := Int.natCast_mul _ _
        have hUA := Lib.hid (fun W (hu : UD x kind place bc bk bg bw bp bb bx (.slice (some ⟨b3, o3, none⟩) NS cv) (.slice (some ⟨bo, oo, none⟩) NS cw) SA SZ W) => (show UD x kind place bc bk bg bw bp bb bx (.slice (some ⟨b3, o3, none⟩) NS cv) (.slice (some ⟨bo, oo, none⟩) NS cw) (SA + M * E1) SZ (W.setCell ⟨bb + 1, 0, none⟩ (.int .i64 ((SA : Int) + (M : Int) * (E1 : Int)))) by rw [← cA]; exact hu.putA _))
        have hUZ := Lib.hid (fun W (hu : UD x kind place bc bk bg bw bp bb bx (.slice (some ⟨b3, o3, none⟩) NS cv) (.slice (some ⟨bo, oo, none⟩) NS cw) (SA + M * E1) SZ W) => (show UD x kind place bc bk bg bw bp bb bx (.slice (some ⟨b3, o3, none⟩) NS cv) (.slice (some ⟨bo, oo, none⟩) NS cw) (SA + M * E1) (SZ + M * E2) (W.setCell ⟨bb, 0, none⟩ (.int .i64 ((SZ : Int) + (M : Int) * (E2 : Int)))) by rw [← cZ]; exact hu.putZ _))
        have v1 : IntKind.i64.wrap ((M : Int) * (E1 : Int)) = (M : Int) * (E1 : Int) := IntWalk.i64_in _ (by omega)
        have v2 : IntKind.i64.wrap ((SA : Int) + (M : Int) * (E1 : Int)) = (SA : Int) + (M : Int) * (E1 : Int) := IntWalk.i64_in _ (by omega)
        have v3 : IntKind.i64.wrap ((M : Int) * (E2 : Int)) = (M : Int) * (E2 : Int) := IntWalk.i64_in _ (by omega)
        have v4 : IntKind.i64.wrap ((SZ : Int) + (M : Int) * (E2 : Int)) = (SZ : Int) + (M : Int) * (E2 : Int) := IntWalk.i64_in _ (by omega)
        clear cA cZ mA mZ hlA hlZ
        have i1 : (0 : Int) ≤ (ra : Int) := by omega
        have i2 : (ra : Int) < (NS : Int) := by omega
        have i3 : (0 : Int) ≤ (rb : Int) := by omega
        have i4 : (rb : Int) < (NS : Int) := by omega
        go_wp2
        go_quiet (first | with_reducible exact quiet_draws (hl1.out _) | with_reducible exact quiet_draws (hl2.out _))
        go_wp2
        refine wp_region_quiet_tail_lit 11 (by kernel_rfl) (by kernel_rfl) ?_
        simp only [List.take_succ_cons, List.take_zero, List.drop_succ_cons, List.drop_zero]
        repeat (go_big_quiet_step (fail))
        refine wpQuiet_nil ?_
        rintro _ ⟨nq2, rfl⟩
        go_wp2
        obtain ⟨W6, hW6⟩ : ∃ W6, W6 = (W2.drewN (nq + nq2)).setCell ⟨bb + 1, 0, none⟩ (.int .i64 ((SA : Int) + (M : Int) * (E1 : Int))) := ⟨_, rfl⟩
        rw [← hW6]
        have hU6 := Lib.hid (hUA.out _ (hU.out.draws (nq + nq2)))
        rw [← hW6] at hU6
        have hK6 := Lib.hid (show Kept (bb + 2) w W6 by rw [hW6]; exact (hK.out.draws _).set (by omega) _)
        have hB6 := Lib.hid (show Below bb w W6 by rw [hW6]; exact (Below.draws hB.out _).setCell (p := ⟨bb + 1, 0, none⟩) (by show bb ≤ bb + 1; omega) _)
        obtain ⟨b7, o7, g2, o2, c2, hee, s1, s2, s3, s4⟩ := hG.out W6 (by have h := hU6.out.rw; rw [← HNS.out] at h; exact h)
        simp only [Option.some.injEq, Addr.mk.injEq, and_true] at hee
        obtain ⟨rfl, rfl⟩ := hee
        have e7 := heap_cell hU6.out.z (i := 0) rfl
        have e8 := hU6.out.b
        have f7 := frozen_at hU6.out.z 0
        unfold maxLen at s3
        clear hW6 e2 e3 e4 e5 e6 f5 p1 p2 p3 p4 hU hK hB hc4
        refine wp_region_quiet_tail_lit 11 (by kernel_rfl) (by kernel_rfl) ?_
        simp only [List.take_succ_cons, List.take_zero, List.drop_succ_cons, List.drop_zero]
        repeat (go_big_quiet_step (fail))
        refine wpQuiet_nil ?_
        rintro _ ⟨nq3, rfl⟩
        go_wp2
        go_roundw
        case rel => exact ⟨s + 1, by omega, by go_num, Lib.hid (hU2.out _ (hUZ.out _ (hU6.out.draws nq3))), Lib.hid ((hK6.out.draws nq3).set (by omega) _), Lib.hid ((Below.draws hB6.out nq3).setCell (p := ⟨bb, 0, none⟩) (Nat.le_refl _) _)⟩
        case measure => simp [intOf]; omega
    · obtain ⟨hsn⟩ : Nonempty (s = x.S) := ⟨by have := HNS.out; omega⟩
      rw [hsn] at hU
      clear hsn
      go_wp2
      go_end0
      exact ⟨rfl, by have h := hU.out; rw [HNS.out] at h; exact h, hK.out, hB.out⟩
/-- What the errors of one list of symbols add. -/
abbrev ptA (x : Chn) (kind : Int) (place i : Nat) : Nat := ptI (all1 x place (errLen kind)) x.S kind x.b i
abbrev ptZ (x : Chn) (kind : Int) (place i : Nat) : Nat := ptI (bad1 x place (errLen kind)) x.S kind x.b i

set_option maxHeartbeats 3200000 in
set_option maxRecDepth 10000 in
theorem implUD1 {x : Chn} {kind : Int} {place bc bk bg bw bp bb bx L c i : Nat} {vb vw : Value} {w : World} (hv : VC x) (hkd : kindOk kind x.base = true) (hi : i < x.b ^ errLen kind) (h : UD x kind place bc bk bg bw bp bb bx vb vw (ptA x kind place i) (ptZ x kind place i) w)
    (hL : bb + 2 ≤ L) (hL2 : L < w.heap.size) (hf : RdI (· = L) w (.slice (some ⟨L, 0, none⟩) (errLen kind) c) (tup x.b (errLen kind) i)) (hp : place + errLen kind ≤ x.n) :
    Calls Try.prog 99 #[.slice (some ⟨L, 0, none⟩) (errLen kind) c, .pointer (some ⟨bk, 0, none⟩), .pointer (some ⟨bc, 0, none⟩), .pointer (some ⟨bg, 0, none⟩), .pointer (some ⟨bp, 0, none⟩), .pointer (some ⟨bb + 1, 0, none⟩), .pointer (some ⟨bw, 0, none⟩), .pointer (some ⟨bb, 0, none⟩)] w
      fun e w' => e = .returned (.bool true) ∧ UD x kind place bc bk bg bw bp bb bx vb vw (ptA x kind place (i + 1)) (ptZ x kind place (i + 1)) w' ∧ Kept (bb + 2) w w' ∧ Below bb w w' := by
  have hnat := hv.nat
  have hbs := hv.base
  have Hv := Lib.hid hv; clear hv
  have hk2 := Lib.hid hkd
  simp only [kindOk, inB_true, Bool.and_eq_true, Bool.or_eq_true, decide_eq_true_eq] at hkd
  obtain ⟨⟨hk0, hk5⟩, hk10⟩ := hkd
  have H := Lib.hid h; clear h
  have Hf := Lib.hid hf; clear hf
  have hbx : w.heap.size ≤ w.heap.size := Nat.le_refl _
  obtain ⟨W1, hW1⟩ : ∃ W1, W1 = w.alloc (.cells #[.slice (some ⟨L, 0, none⟩) (errLen kind) c] 23) := ⟨_, rfl⟩
  have hb1 := Lib.hid (show Below w.heap.size w W1 by rw [hW1]; exact (Below.refl _ _).alloc (Nat.le_refl _) _)
  have hs1 : W1.heap.size = w.heap.size + 1 := by rw [hW1]; simp
  have hbf := Lib.hid (show W1.heap[w.heap.size]? = some (.cells #[.slice (some ⟨L, 0, none⟩) (errLen kind) c] 23 (0, 0)) by rw [hW1]; exact heap_alloc_new w _)
  have HW1 := Lib.hid hW1; clear hW1
  have hszb : bb + 2 ≤ w.heap.size := by omega
  have HU1 := Lib.hid (H.out.keep (w' := W1) fun j hj => hb1.out.block j (by omega))
  have Hf1 := Lib.hid (RdI.ok.keep Hf.out (w' := W1) fun k hk => hb1.out.block k (by have hk : k = L := hk; omega))
  have d1 : W1.cell? ⟨bk, 0, none⟩ = some (.int .i64 kind) := HU1.out.k
  have d2 : W1.cell? ⟨bc, 0, none⟩ = some (.pointer (some ⟨bx, 0, none⟩)) := HU1.out.c
  have d3 : W1.cell? ⟨w.heap.size, 0, none⟩ = some (.slice (some ⟨L, 0, none⟩) (errLen kind) c) := heap_cell hbf.out (i := 0) rfl
  obtain ⟨a4, c4, a5, c5, g0, _⟩ := HU1.out.box.cells
  obtain ⟨NB, hNB⟩ : ∃ n : Nat, n = x.b := ⟨_, rfl⟩
  rw [show x.base = (NB : Int) by rw [hNB]; show x.base = (x.base.toNat : Int); omega] at g0
  have HNB := Lib.hid hNB
  have htl := tup_length x.b (errLen kind) i
  have hch := Lib.hid (fun m => implChanges (P := (· = L)) kind ⟨hk0, hk5⟩ NB (by rw [hNB]; exact hnat.1) (v := .slice (some ⟨L, 0, none⟩) (errLen kind) c) (f := tup x.b (errLen kind) i) (w := W1.drewN m) htl 101
    #[.pointer (some ⟨bg, 0, none⟩), .pointer (some ⟨bc, 0, none⟩), .pointer (some ⟨bp, 0, none⟩), .pointer (some ⟨w.heap.size, 0, none⟩), .pointer (some ⟨bb + 1, 0, none⟩), .pointer (some ⟨bw, 0, none⟩), .pointer (some ⟨bb, 0, none⟩)]
    (fun d w1 => UD x kind place bc bk bg bw bp bb bx vb vw (ptJ (all1 x place (errLen kind)) x.S kind x.b i d) (ptJ (bad1 x place (errLen kind)) x.S kind x.b i d) w1 ∧ (∀ k, bb + 2 ≤ k → k < W1.heap.size → w1.heap[k]? = W1.heap[k]?) ∧ Below bb w w1)
    (rd_draws RdI.ok Hf1.out m) (fun k hk => by have hk : k = L := hk; show k < W1.heap.size; omega)
    (fun w1 hw1 => ⟨by rw [ptJ_nil, ptJ_nil]; exact (HU1.out.keep fun j hj => hw1.block j (by show j < W1.heap.size; omega)), fun k _ hk => hw1.block k hk, ((hb1.out.mono (by omega)).trans (Below.draws (Below.refl bb W1) m)).trans (hw1.mono (by show bb ≤ W1.heap.size; omega))⟩)
    (fun d w1 w2 hj hw2 => ⟨hj.1.keep fun j hjj => hw2.block j (by show j < W1.heap.size; omega), fun k h1 h2 => (hw2.block k h2).trans (hj.2.1 k h1 h2), hj.2.2.trans (hw2.mono (by show bb ≤ W1.heap.size; omega))⟩)
    (fun d w1 hj => RdI.ok.keep Hf1.out fun k hk => by have hk : k = L := hk; exact hj.2.1 k (by omega) (by omega))
    (fun d t hpre v' w1 hrt hj => by
      have hmem : t ∈ chg kind x.b (tup x.b (errLen kind) i) := (by rw [hNB] at hpre; exact hpre.subset (show t ∈ d ++ [t] by simp))
      have hcd := chg_digs (kind := kind) (b := x.b) (fun h5 => by rcases hk10 with h | h; · exact absurd h5 h
                                                                   · have := hbs; show 10 ≤ x.base.toNat; omega) (by omega) (tup_digs (by omega) (errLen kind) i) htl t hmem
      have hkA := ptK_le (all1 x place (errLen kind)) x.S kind x.b (i := i) (s := x.S) hi (Nat.le_refl _) (by rw [hNB] at hpre; exact hpre)
      have hkZ := ptK_le (bad1 x place (errLen kind)) x.S kind x.b (i := i) (s := x.S) hi (Nat.le_refl _) (by rw [hNB] at hpre; exact hpre)
      have hall := Hv.out.allAtLe (kind := kind) (place := place) hp
      have hbad := badAt_le_allAt x kind place
      have hszw : W1.heap.size ≤ w1.heap.size := by
        have h9 := hj.2.1
        rcases Nat.lt_or_ge w1.heap.size W1.heap.size with h | h
        · have h8 := h9 w.heap.size (by omega) (by omega)
          rw [hbf.out] at h8
          have := (Array.getElem?_eq_some_iff.1 h8).1
          omega
        · exact h
      refine (implUD2 (f := tup x.b (errLen kind) i) (t := t) Hv.out hj.1 (bf := w.heap.size) ((hj.2.1 _ (by omega) (by omega)).trans hbf.out) (by omega) (RdI.ok.mono (RdI.ok.keep Hf1.out fun k hk => by have hk : k = L := hk; exact hj.2.1 k (by omega) (by omega)) fun k hk => by have hk : k = L := hk; omega)
        (RdI.ok.mono hrt fun k hk => ⟨by have : W1.heap.size ≤ k := hk.1; omega, hk.2⟩) (tup_digs (by omega) _ _) hcd.1 htl (hcd.2.trans htl) hp (by unfold ptK at hkA; exact Nat.le_trans hkA hall) (by unfold ptK at hkZ; exact Nat.le_trans hkZ (Nat.le_trans hbad hall))).mono ?_
      rintro e w2 ⟨rfl, hu, hk, hb⟩
      refine ⟨rfl, ⟨?_, fun k h1 h2 => (hk.block k h1 (by omega)).trans (hj.2.1 k h1 h2), hj.2.2.trans hb⟩, ⟨hk.size, fun k h1 h2 => hk.block k (by have : W1.heap.size ≤ k := h1; omega) h2⟩⟩
      have e1 := ptK_all (all1 x place (errLen kind)) x.S kind x.b i d t
      have e2 := ptK_all (bad1 x place (errLen kind)) x.S kind x.b i d t
      unfold ptK at e1 e2
      rw [← e1, ← e2]
      exact hu)
    (fun args w => rfl))
  clear hb1 hbf HU1 Hf1 H Hf htl hNB hbs hk10
  go_enter Try.func99, Try.ntmps99
  go_wp2
  rw [← HW1.out]
  refine wp_region_quiet_tail_lit 7 (by kernel_rfl) (by kernel_rfl) ?_
  simp only [List.take_succ_cons, List.take_zero, List.drop_succ_cons, List.drop_zero]
  repeat (go_big_quiet_step (fail))
  refine wpQuiet_nil ?_
  rintro _ ⟨nq, rfl⟩
  go_wp2_with fail
  refine Calls.mono (hch.out nq) ?_
  rintro e w5 ⟨rfl, ⟨hu, hk, hb⟩, hk5⟩
  have Hu := Lib.hid (show UD x kind place bc bk bg bw bp bb bx vb vw (ptA x kind place (i + 1)) (ptZ x kind place (i + 1)) w5 by
    rw [HNB.out, ptJ_all, ptJ_all] at hu; exact hu)
  have Hk := Lib.hid (show Kept (bb + 2) w w5 from ⟨by have h := hk5.size; have : W1.heap.size ≤ w5.heap.size := h; omega, fun k h1 h2 => (hk k h1 (by omega)).trans (by rw [HW1.out]; exact Below.heap_alloc w _ k h2)⟩)
  have Hb := Lib.hid hb
  clear hu hk hb hk5
  go_wp2
  go_ret
  exact ⟨rfl, Hu.out, Hk.out, Hb.out⟩

/-- Two blocks more. -/
theorem two_end (w : World) (A Z : Obj) : ((w.alloc A).alloc Z).heap[w.heap.size]? = some A ∧ ((w.alloc A).alloc Z).heap[w.heap.size + 1]? = some Z ∧ ((w.alloc A).alloc Z).heap.size = w.heap.size + 2 ∧ Below w.heap.size w ((w.alloc A).alloc Z) := by
  have s1 := al_size w A
  have s2 := al_size (w.alloc A) Z
  have e1 := heap_alloc_new w A
  have e2 := heap_alloc_new (w.alloc A) Z
  rw [s1] at e2
  exact ⟨(Below.heap_alloc (w.alloc A) Z _ (by omega)).trans e1, e2, by omega, by repeat' (first | with_reducible exact Below.refl _ _ | with_reducible refine Below.alloc ?_ ?_ _ | with_reducible refine Below.setCell ?_ ?_ _ | with_reducible refine Below.drew ?_ | with_reducible refine Below.draws ?_ _ | omega | (simp; done) | (simp; omega))⟩
end Go.Proofs.Ytcjmkiedcmlpcaa
