/- The least distance: the states that are reached from a state, walked. -/
import Derived.Test.YtnpkanlieflbiaaLd3
import Derived.Test.YtnpkanlieflbiaaE6
import Derived.Deep.DeepCutAuto
namespace Go.Proofs.Ytnpkanlieflbiaa
open Go.RowKit
set_option linter.unusedVariables false

theorem BoxC.nextRow {P : Nat → Prop} {w : World} {b : Nat} {x : Chn} (h : BoxC P w b x) (hv : VC x) {k s : Nat} (hk : k < x.n) (hs : s < x.S) :
    ∃ c c' b1 o1 b2 o2 c2 b3 o3 c3 b4 o4 R, w.cell? ⟨b, 4, none⟩ = some (.slice (some ⟨b2, o2, none⟩) x.tables.length c) ∧ w.cell? ⟨b, 5, none⟩ = some (.slice (some ⟨b1, o1, none⟩) x.places.length c') ∧ (x.tables.length ≤ c ∧ c ≤ maxLen) ∧ (x.places.length ≤ c' ∧ c' ≤ maxLen) ∧
      w.cell? ⟨b1, o1 + k, none⟩ = some (.int .i64 ((nth x.places k).toNat : Nat)) ∧ (nth x.places k).toNat < x.tables.length ∧
      w.cell? ⟨b2, o2 + (nth x.places k).toNat, none⟩ = some (.slice (some ⟨b3, o3, none⟩) x.S c2) ∧ (x.S ≤ c2 ∧ c2 ≤ maxLen) ∧
      w.cell? ⟨b3, o3 + s, none⟩ = some (.slice (some ⟨b4, o4, none⟩) x.b c3) ∧ (x.b ≤ c3 ∧ c3 ≤ maxLen) ∧ RdI P w (.slice (some ⟨b4, o4, none⟩) x.b c3) R ∧ R.length = x.b ∧ ∀ d, d < x.b → nth R d = (nxt x k s d : Int) := by
  obtain ⟨a, c, a', c', g0, g1, g2, g3, g4, g5, hu, hp, h1, h2⟩ := h.cells
  have hpl := hv.place k hk
  have hS := hv.states
  have hB := hv.base
  simp only [Chn.S, Chn.b, Chn.n] at *
  obtain ⟨b1, o1, u1, rfl, _, hc1, rfl⟩ := Rd.elim hp k hk
  have hi : (nth x.places k).toNat < x.tables.length := by omega
  obtain ⟨b2, o2, a2, c2, rfl, _, hc2, q1, q2, hr2⟩ := Rd.row hu hi
  have hl2 := hv.tabLen _ hi
  obtain ⟨b3, o3, a3, c3, rfl, _, hc3, q3, q4, hr3⟩ := Rd.row hr2 (x := s) (by omega)
  have hl3 := hv.rowLen _ s hi (by omega)
  have e2 : (nth x.tables (nth x.places k).toNat).length = x.states.toNat := by omega
  have e3 : (nth (nth x.tables (nth x.places k).toNat) s).length = x.base.toNat := by omega
  obtain ⟨b4, o4, u4, e4, _, _, _⟩ := Rd.elim hr3 0 (by omega)
  subst e4
  rw [e2] at hc2 q1
  rw [e3] at hc3 q3 hr3
  refine ⟨c, c', b1, o1, b2, o2, c2, b3, o3, c3, b4, o4, _, g4, g5, h1, h2, ?_, hi, hc2, ⟨q1, q2⟩, hc3, ⟨q3, q4⟩, hr3, e3, fun d hd => (hv.cellN (k := k) (s := s) (d := d) hk hs hd).1⟩
  rw [hc1]; congr 2; omega

set_option maxHeartbeats 3200000 in
set_option maxRecDepth 100000 in
theorem implReached {B bx : Nat} {x : Chn} {w : World} (h : BoxC (· < B) w bx x) (hB : B ≤ w.heap.size) (hv : VC x) (k s : Nat) (hk : k < x.n) (hs : s < x.S) :
    Calls Try.prog 173 #[.pointer (some ⟨bx, 0, none⟩), .int .i64 k, .int .i64 s] w fun e w' => ∃ v L, e = .returned v ∧ Fresh OI w w' v L ∧ L.length ≤ x.b ∧ ∀ y, y ∈ L ↔ ∃ d, d < x.b ∧ y = (nxt x k s d : Int) := by
  obtain ⟨c, c', b1, o1, b2, o2, c2, b3, o3, c3, b4, o4, R, g4, g5, h1, h2, hc1, hi, hc2, h3, hc3, h4, hR, hRl, hRn⟩ := h.nextRow hv hk hs
  have hbd := hv.nat
  have hmem := Lib.hid (show ∀ y, y ∈ R ↔ ∃ d, d < x.b ∧ y = (nxt x k s d : Int) from fun y => by
    constructor
    · intro hy
      obtain ⟨d, hd, rfl⟩ := List.mem_iff_getElem.1 hy
      exact ⟨d, by omega, by rw [← hRn d (by omega), nth_eq hd]⟩
    · rintro ⟨d, hd, rfl⟩
      rw [← hRn d hd]
      exact nth_mem (by omega))
  unfold maxLen at h1 h2 h3 h4
  simp only [Chn.n] at hk
  have hR' := Lib.hid (fun m => RdI.ok.keep (w' := w.drewN m) hR fun _ _ => rfl)
  have hRl' := Lib.hid hRl
  have HB := Lib.hid hB
  clear h hv hR hRl hRn hB
  generalize (nth x.places k).toNat = I at *
  generalize x.S = S at *
  generalize x.b = b at *
  go_enter Try.func173, Try.ntmps173
  go_wp2
  refine wp_region_quiet_tail_lit 16 (by kernel_rfl) (by kernel_rfl) ?_
  simp only [List.take_succ_cons, List.take_zero, List.drop_succ_cons, List.drop_zero]
  repeat (go_big_quiet_step (fail))
  refine wpQuiet_nil ?_
  rintro _ ⟨nq, rfl⟩
  clear g4 g5 hc1 hc2 hc3
  go_wp2_with fail
  refine (slClone (hR'.out nq) (fun j hj => by have := HB.out; show j < w.heap.size; omega) (by rw [hRl'.out]; omega)).mono ?_
  rintro e w1 ⟨v1, rfl, hf1⟩
  obtain ⟨g, gc, rfl⟩ := hf1.shape (by rw [hRl'.out]; omega)
  rw [hRl'.out] at hf1 ⊢
  obtain ⟨S1, o1', l1, bel1⟩ := hf1
  have hb1 := o1'.blocks
  subst hb1
  have hg : w.heap.size ≤ g := l1 g (by simp)
  have Ho1 := Lib.hid o1'
  have Bel1 := Lib.hid (show Below w.heap.size w w1 from (bel_draws rfl).trans bel1)
  clear l1 bel1 o1'
  go_wp2_with fail
  refine (implSort Ho1.out (by rw [hRl'.out]; omega)).mono ?_
  rintro e w2 ⟨rfl, ys, ho2, hl2, hm2, hon2⟩
  have Ho2 := Lib.hid ho2
  have Hm2 := Lib.hid hm2
  have Bel2 := Lib.hid (below_only Bel1.out hon2 Bel1.out.size (fun j hj => by simp at hj; omega))
  have Hl2 := Lib.hid hl2
  clear ho2 hm2 hon2 hl2 Ho1
  go_wp2_with fail
  refine (implCompact Ho2.out (by rw [Hl2.out]; omega)).mono ?_
  rintro e w3 ⟨zs, rfl, ho3, hl3, hm3, hon3⟩
  have Hf3 := Lib.hid (show Fresh OI w w3 _ zs from ⟨_, ho3, fun j hj => by simp at hj; omega, below_only Bel2.out hon3 Bel2.out.size (fun j hj => by simp at hj; omega)⟩)
  have Hm3 := Lib.hid (fun y => (hm3 y).trans ((Hm2.out y).trans (hmem.out y)))
  clear ho3 hm3 hon3
  go_wp2
  go_ret
  exact ⟨_, zs, rfl, Hf3.out, hl3, Hm3.out⟩
end Go.Proofs.Ytnpkanlieflbiaa
