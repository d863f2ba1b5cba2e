/- The state behind a symbol; numbers of words, walked. -/
import Derived.Test.YtnpkanlieflbiaaD2
import Derived.Test.YtnpkanlieflbiaaB1
import Derived.Test.YtnpkanlieflbiaaC2
namespace Go.Proofs.Ytnpkanlieflbiaa
open Go.RowKit
set_option linter.unusedVariables false

theorem BoxC.nextCells {P : Nat → Prop} {w : World} {b : Nat} {x : Chn} (h : BoxC P w b x) (hv : VC x) {k s d : Nat} (hk : k < x.n) (hs : s < x.S) (hd : d < x.b) :
    ∃ a c a' c' b1 o1 b2 o2 c2 b3 o3 c3 b4 o4, w.cell? ⟨b, 4, none⟩ = some (.slice a x.tables.length c) ∧ w.cell? ⟨b, 5, none⟩ = some (.slice a' x.places.length c') ∧ (x.tables.length ≤ c ∧ c ≤ maxLen) ∧ (x.places.length ≤ c' ∧ c' ≤ maxLen) ∧
      a' = some ⟨b1, o1, none⟩ ∧ w.cell? ⟨b1, o1 + k, none⟩ = some (.int .i64 ((nth x.places k).toNat : Nat)) ∧ (nth x.places k).toNat < x.tables.length ∧
      a = some ⟨b2, o2, none⟩ ∧ w.cell? ⟨b2, o2 + (nth x.places k).toNat, none⟩ = some (.slice (some ⟨b3, o3, none⟩) x.S c2) ∧ (x.S ≤ c2 ∧ c2 ≤ maxLen) ∧
      w.cell? ⟨b3, o3 + s, none⟩ = some (.slice (some ⟨b4, o4, none⟩) x.b c3) ∧ (x.b ≤ c3 ∧ c3 ≤ maxLen) ∧ w.cell? ⟨b4, o4 + d, none⟩ = some (.int .i64 (nxt x k s d)) := by
  obtain ⟨a, c, a', c', g0, g1, g2, g3, g4, g5, hu, hp, h1, h2⟩ := h.cells
  have hpl := hv.place k hk
  have hS := hv.states
  have hB := hv.base
  simp only [Chn.S, Chn.b, Chn.n] at *
  obtain ⟨b1, o1, u1, rfl, _, hc1, rfl⟩ := Rd.elim hp k hk
  have hi : (nth x.places k).toNat < x.tables.length := by omega
  obtain ⟨b2, o2, a2, c2, rfl, _, hc2, q1, q2, hr2⟩ := Rd.row hu hi
  have hl2 := hv.tabLen _ hi
  obtain ⟨b3, o3, a3, c3, rfl, _, hc3, q3, q4, hr3⟩ := Rd.row hr2 (x := s) (by omega)
  have hl3 := hv.rowLen _ s hi (by omega)
  obtain ⟨b4, o4, u4, rfl, _, hc4, rfl⟩ := Rd.elim hr3 d (by omega)
  have hcell := hv.cellN (k := k) (s := s) (d := d) hk hs hd
  have e2 : (nth x.tables (nth x.places k).toNat).length = x.states.toNat := by omega
  have e3 : (nth (nth x.tables (nth x.places k).toNat) s).length = x.base.toNat := by omega
  rw [e2] at hc2 q1
  rw [e3] at hc3 q3
  refine ⟨_, c, _, c', b1, o1, b2, o2, c2, b3, o3, c3, b4, o4, g4, g5, h1, h2, rfl, ?_, hi, rfl, hc2, ⟨q1, q2⟩, hc3, ⟨q3, q4⟩, ?_⟩
  · rw [hc1]; congr 2; omega
  · rw [hc4]
    show some (Value.int .i64 _) = _
    rw [hcell.1]

set_option maxRecDepth 10000 in
theorem specNext {P : Nat → Prop} {bx : Nat} {x : Chn} {w : World} (h : BoxC P w bx x) (hv : VC x) (k s d : Nat) (hk : k < x.n) (hs : s < x.S) (hd : d < x.b) :
    Calls Try.prog 101 #[.pointer (some ⟨bx, 0, none⟩), .int .i64 k, .int .i64 s, .int .i64 d] w fun e w' => e = .returned (.int .i64 (nxt x k s d)) ∧ ∃ m, w.drewN m = w' := by
  obtain ⟨a, c, a', c', b1, o1, b2, o2, c2, b3, o3, c3, b4, o4, g4, g5, h1, h2, rfl, hc1, hi, rfl, hc2, h3, hc3, h4, hc4⟩ := h.nextCells hv hk hs hd
  unfold maxLen at h1 h2 h3 h4
  have hbd := hv.nat
  clear h hv
  simp only [Chn.n] at hk
  generalize nxt x k s d = N at *
  generalize (nth x.places k).toNat = I at *
  generalize x.S = S at *
  generalize x.b = b at *
  go_enter Try.func101, Try.ntmps101
  go_wp2
  go_quiet (fail)
  go_wp2
  go_ret
  exact ⟨rfl, _, rfl⟩
set_option maxRecDepth 10000 in
theorem implNext {P : Nat → Prop} {bx : Nat} {x : Chn} {w : World} (h : BoxC P w bx x) (hv : VC x) (k s d : Nat) (hk : k < x.n) (hs : s < x.S) (hd : d < x.b) :
    Calls Try.prog 103 #[.pointer (some ⟨bx, 0, none⟩), .int .i64 k, .int .i64 s, .int .i64 d] w fun e w' => e = .returned (.int .i64 (nxt x k s d)) ∧ ∃ m, w.drewN m = w' := by
  obtain ⟨a, c, a', c', b1, o1, b2, o2, c2, b3, o3, c3, b4, o4, g4, g5, h1, h2, rfl, hc1, hi, rfl, hc2, h3, hc3, h4, hc4⟩ := h.nextCells hv hk hs hd
  unfold maxLen at h1 h2 h3 h4
  have hbd := hv.nat
  clear h hv
  simp only [Chn.n] at hk
  generalize nxt x k s d = N at *
  generalize (nth x.places k).toNat = I at *
  generalize x.S = S at *
  generalize x.b = b at *
  go_enter Try.func103, Try.ntmps103
  go_wp2
  go_quiet (fail)
  go_wp2
  go_ret
  exact ⟨rfl, _, rfl⟩
end Go.Proofs.Ytnpkanlieflbiaa
