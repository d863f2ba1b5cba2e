/- The laws' small functions over weightings. -/
import Derived.Test.YtnpkanlieflbiaaS0
namespace Go.Proofs.Ytnpkanlieflbiaa
open Go.RowKit
set_option linter.unusedVariables false

theorem bcell {W w1 : World} (hb : Below W.heap.size W w1) : (∀ b o, b < W.heap.size → w1.cell? ⟨b, o, none⟩ = W.cell? ⟨b, o, none⟩) ∧ (∀ b o, b < W.heap.size → w1.frozen? ⟨b, o, none⟩ = W.frozen? ⟨b, o, none⟩) :=
  ⟨fun b o h => hb.cell (p := ⟨b, o, none⟩) h, fun b o h => hb.frozen (p := ⟨b, o, none⟩) h⟩

theorem keep_set {w : World} {p : Addr} {v : Value} {k : Nat} (h : k ≠ p.block) : (w.setCell p v).heap[k]? = w.heap[k]? := heap_setCell_other w p k v (by simpa using h)

theorem toWeighting_t {B : Nat} {v : Value} {x : Wgt} {w : World} (h : RdW (· < B) w v x) (hB : B ≤ w.heap.size) (hn : szW x ≤ 1048576) :
    Calls Try.prog 15 #[v] w fun e w' => ∃ v', e = .returned v' ∧ In OW w.heap.size w'.heap.size w' v' x ∧ Turn 0 0 w w' := by
  obtain ⟨u, rfl, hu⟩ := h
  obtain ⟨a, c, rfl, h1, h2⟩ := hu.isSlice
  unfold maxLen at h2
  have Hu := Lib.hid hu; clear hu
  unfold aggW
  go_enter Try.func15, Try.ntmps15
  go_wp2_with fail
  refine (toInt64Sx (Rd.below RdI.ok Hu.out (Below.mono (B := w.heap.size) (by repeat' (first | with_reducible exact Below.refl _ _ | with_reducible refine Below.alloc ?_ ?_ _ | with_reducible refine Below.setCell ?_ ?_ _ | with_reducible refine Below.drew ?_ | with_reducible refine Below.draws ?_ _ | omega | (simp; done) | (simp; omega))) hB)) (fun k hk => by simp; omega) hn).mono ?_
  rintro e w1 ⟨v1, rfl, hf⟩
  obtain ⟨S, hS, hS2, hb⟩ := hf
  obtain ⟨av, nv, cv, rfl⟩ := hS.isSlice
  have HS := Lib.hid hS; clear hS
  have HS2 := Lib.hid hS2; clear hS2
  have hsz := hb.size
  simp at hsz
  obtain ⟨hc, hz⟩ := bcell hb
  go_wp2
  refine bodyPost_ret (v := aggW x (.slice av nv cv)) (by simp [results, Try.results15, go_sem, aggW, hc]) rfl ⟨_, rfl, ⟨S, ⟨_, rfl, OI.ok.keep HS.out fun k hk => ?_⟩, fun k hk => ⟨?_, ?_⟩⟩, Turn.of_below ?_⟩
  · have := HS2.out k hk
    simp at this
    refine Only.block (S := [w.heap.size + 1, w.heap.size + 1 + 1]) (by repeat' (first | with_reducible exact Only.refl _ _ | with_reducible refine Only.put ?_ ?_ _ _ | (simp; done))) k (OI.ok.lt HS.out k hk) (by simp; omega)
  · have := HS2.out k hk
    simp at this
    omega
  · have := OI.ok.lt HS.out k hk
    simp
    omega
  · refine Below.trans (b := w1) ?_ ?_
    · refine Below.trans ?_ (hb.mono (by first | omega | (simp; done) | (simp; omega)))
      repeat' (first | with_reducible exact Below.refl _ _ | with_reducible refine Below.alloc ?_ ?_ _ | with_reducible refine Below.setCell ?_ ?_ _ | with_reducible refine Below.drew ?_ | with_reducible refine Below.draws ?_ _ | omega | (simp; done) | (simp; omega))
    · repeat' (first | with_reducible exact Below.refl _ _ | with_reducible refine Below.alloc ?_ ?_ _ | with_reducible refine Below.setCell ?_ ?_ _ | with_reducible refine Below.drew ?_ | with_reducible refine Below.draws ?_ _ | omega | (simp; done) | (simp; omega))

theorem szWeighting_t {B : Nat} {v : Value} {x : Wgt} {w : World} (h : RdW (· < B) w v x) (hB : B ≤ w.heap.size) (left : Int) (hl : 0 ≤ left) (hl2 : left ≤ 1048576) :
    Calls Try.prog 13 #[v, .int .i64 left] w fun e w' => e = .returned (.int .i64 (szR (szW x) left)) ∧ Turn 0 0 w w' := by
  obtain ⟨u, rfl, hu⟩ := h
  obtain ⟨a, c, rfl, h1, h2⟩ := hu.isSlice
  unfold maxLen at h2
  have Hu := Lib.hid hu; clear hu
  unfold aggW szW
  have hw1 := Lib.hid (Turn.of_below ((Below.refl w.heap.size w).alloc (Nat.le_refl _) (.cells #[.int .i64 x.base, .int .i64 x.modulus, .int .i64 x.target, .slice a x.weights.length c] 24)))
  by_cases hle : (x.weights.length : Int) ≤ left
  · have hv := Lib.hid (szR_yes hle)
    go_enter Try.func13, Try.ntmps13
    go_wp2_with fail
    refine (szInt64S (RdI.ok.keep Hu.out fun k hk => Below.heap_alloc w _ k (by omega)) _ hl hl2).mono ?_
    rw [hv.out]
    rintro e w' ⟨rfl, rfl⟩
    go_wp2
    go_ret
    exact ⟨ret_int' hv.out.symm, hw1.out⟩
  · have hv := Lib.hid (szR_no (n := x.weights.length) (left := left) (by omega))
    go_enter Try.func13, Try.ntmps13
    go_wp2_with fail
    refine (szInt64S (RdI.ok.keep Hu.out fun k hk => Below.heap_alloc w _ k (by omega)) _ hl hl2).mono ?_
    rw [hv.out]
    rintro e w' ⟨rfl, rfl⟩
    go_wp2
    go_ret
    exact ⟨ret_int' hv.out.symm, hw1.out⟩

theorem eqWeighting_t {a b c d : Nat} {va vb : Value} {x : Wgt} {w : World} (ha : In OW a b w va x) (hb : In OW c d w vb x) :
    Calls Try.prog 18 #[va, vb] w fun e w' => e = .returned (.bool true) ∧ Turn 0 0 w w' := by
  obtain ⟨S, ⟨u, rfl, hu⟩, hS⟩ := ha
  obtain ⟨T, ⟨u', rfl, hu'⟩, hT⟩ := hb
  have Hu := Lib.hid (OI.leads.to _ _ _ _ (· < w.heap.size) hu (OI.ok.lt hu))
  have Hu' := Lib.hid (OI.leads.to _ _ _ _ (· < w.heap.size) hu' (OI.ok.lt hu'))
  clear hu hu' hS hT
  obtain ⟨a1, c1, rfl, h1, h2⟩ := Hu.out.isSlice
  obtain ⟨a2, c2, rfl, h3, h4⟩ := Hu'.out.isSlice
  unfold maxLen at h2 h4
  have hbx := Lib.hid (((Below.refl w.heap.size w).alloc (Nat.le_refl _) (.cells #[.int .i64 x.base, .int .i64 x.modulus, .int .i64 x.target, .slice a1 x.weights.length c1] 31)).alloc (by simp) (.cells #[.int .i64 x.base, .int .i64 x.modulus, .int .i64 x.target, .slice a2 x.weights.length c2] 31))
  unfold aggW
  go_enter Try.func18, Try.ntmps18
  go_wp2_with fail
  refine (eqInt64S (RdI.ok.keep Hu.out fun k hk => hbx.out.block k hk) (RdI.ok.keep Hu'.out fun k hk => hbx.out.block k hk)).mono ?_
  rintro e w' ⟨rfl, n, rfl⟩
  go_wp2
  go_ret
  exact ⟨rfl, Turn.of_below (hbx.out.trans ⟨rfl, rfl, rfl, Nat.le_refl _, fun _ _ => rfl⟩)⟩

theorem markWeighting_t {lo hi : Nat} {v : Value} {x : Wgt} {w : World} {k : Int} (h : In OW lo hi w v x) (hk : 0 ≤ k) (hk2 : k + szW x ≤ 4611686018427387904) :
    Calls Try.prog 19 #[v, .int .i64 k] w fun e w' => e = .returned (.int .i64 (k + szW x)) ∧ In OW lo hi w' v (mkW k x) ∧ Turn lo hi w w' := by
  obtain ⟨S, ⟨u, rfl, hu⟩, hS⟩ := h
  obtain ⟨a1, n1, c1, rfl⟩ := hu.isSlice
  have Hu := Lib.hid hu; clear hu
  have HS := Lib.hid hS; clear hS
  have hbx := Lib.hid ((Below.refl w.heap.size w).alloc (Nat.le_refl _) (.cells #[.int .i64 x.base, .int .i64 x.modulus, .int .i64 x.target, .slice a1 n1 c1] 31))
  unfold aggW
  go_enter Try.func19, Try.ntmps19
  go_wp2_with fail
  refine (markInt64S (Own.below oI.ok Hu.out hbx.out) hk hk2).mono ?_
  rintro e w1 ⟨rfl, ho, hb⟩
  have Ho := Lib.hid ho; clear ho
  have Hb := Lib.hid hb; clear hb
  go_wp2
  go_ret
  exact ⟨rfl, ⟨S, ⟨_, rfl, Ho.out⟩, HS.out⟩, Turn.after hbx.out ⟨Hb.out.os, Hb.out.tape, Hb.out.output, Hb.out.size, fun i hi hd => Hb.out.block i hi fun hm => by have := HS.out i hm; omega⟩⟩

end Go.Proofs.Ytnpkanlieflbiaa
/- Boxes of structs that the laws keep: locals of their own, and parameters. Printed by gen_s2.py. -/
namespace Go.Proofs.Ytnpkanlieflbiaa
open Go.RowKit
set_option linter.unusedVariables false

theorem turn_set {w w' : World} (h : Turn 0 0 w w') {p : Addr} (hp : w.heap.size ≤ p.block) (v : Value) : Turn 0 0 w (w'.setCell p v) := Turn.of_below (h.bel.setCell hp v)
theorem In.sameF {α : Type} {R : Rep α} (hR : R.Fine) {lo hi : Nat} {w w' : World} {v : Value} {x : α} (h : In R lo hi w v x) (he : w'.heap = w.heap) : In R lo hi w' v x := by
  obtain ⟨S, h1, h2⟩ := h
  exact ⟨S, hR.keep h1 fun k hk => by rw [he], h2⟩
theorem In.same {α : Type} {R : Rep α} (hR : R.Ok) {lo hi : Nat} {w w' : World} {v : Value} {x : α} (h : In R lo hi w v x) (he : w'.heap = w.heap) : In R lo hi w' v x := h.sameF hR.fine he
theorem cnt_le_szW2 (x : Wgt) : szW x ≤ szW x := Nat.le_refl _
theorem setCell_size3 (w : World) (p : Addr) (v : Value) : (w.setCell p v).heap.size = w.heap.size := by simp

/-! ### Weighting -/
def LocW (lo b : Nat) (w : World) (u : Value) (x : Wgt) : Prop := w.heap[b]? = some (.cells #[.int .i64 x.base, .int .i64 x.modulus, .int .i64 x.target, u] 31 (0, 0)) ∧ In OW lo b w (aggW x u) x ∧ lo ≤ b
theorem LocW.keep {lo b a c : Nat} {w w' : World} {u : Value} {x : Wgt} (h : LocW lo b w u x) (t : Turn a c w w') (hd : c ≤ lo ∨ b + 1 ≤ a) : LocW lo b w' u x :=
  ⟨(t.block b (Array.getElem?_eq_some_iff.1 h.1).1 (by have := h.2.2; omega)).trans h.1, h.2.1.keepF OW.ok t (by omega), h.2.2⟩
theorem LocW.lt {lo b : Nat} {w : World} {u : Value} {x : Wgt} (h : LocW lo b w u x) : b < w.heap.size := (Array.getElem?_eq_some_iff.1 h.1).1
theorem LocW.cells {lo b : Nat} {w : World} {u : Value} {x : Wgt} (h : LocW lo b w u x) : w.cell? ⟨b, 0, none⟩ = some (.int .i64 x.base) ∧ w.cell? ⟨b, 1, none⟩ = some (.int .i64 x.modulus) ∧ w.cell? ⟨b, 2, none⟩ = some (.int .i64 x.target) ∧ w.cell? ⟨b, 3, none⟩ = some (u) :=
  ⟨heap_cell h.1 rfl, heap_cell h.1 rfl, heap_cell h.1 rfl, heap_cell h.1 rfl⟩
theorem LocW.turn {lo b : Nat} {w w' : World} {u : Value} {x : Wgt} {k : Int} (h : LocW lo b w u x) (t : Turn lo b w w') (h2 : In OW lo b w' (aggW x u) (mkW k x)) : LocW lo b w' u (mkW k x) :=
  ⟨(t.block b h.lt (.inr (Nat.le_refl _))).trans h.1, h2, h.2.2⟩
theorem LocW.made {lo : Nat} {w : World} {u : Value} {x : Wgt} (h : In OW lo w.heap.size w (aggW x u) x) (hlo : lo ≤ w.heap.size) :
    LocW lo w.heap.size (w.alloc (.cells #[.int .i64 x.base, .int .i64 x.modulus, .int .i64 x.target, u] 31)) u x ∧ Turn 0 0 w (w.alloc (.cells #[.int .i64 x.base, .int .i64 x.modulus, .int .i64 x.target, u] 31)) := by
  have t := Turn.of_below ((Below.refl w.heap.size w).alloc (Nat.le_refl _) (.cells #[.int .i64 x.base, .int .i64 x.modulus, .int .i64 x.target, u] 31))
  exact ⟨⟨heap_alloc_new w _, h.keepF OW.ok t (by omega), hlo⟩, t⟩
def ParW (B b : Nat) (w : World) (u : Value) (x : Wgt) : Prop := w.heap[b]? = some (.cells #[.int .i64 x.base, .int .i64 x.modulus, .int .i64 x.target, u] 24 (0, 0)) ∧ RdW (· < B) w (aggW x u) x ∧ B ≤ b
/-- Type 24. -/
theorem ParW.keep {B b a c : Nat} {w w' : World} {u : Value} {x : Wgt} (h : ParW B b w u x) (t : Turn a c w w') (hd : c = 0 ∨ b + 1 ≤ a) : ParW B b w' u x :=
  ⟨(t.block b (Array.getElem?_eq_some_iff.1 h.1).1 (by omega)).trans h.1, rd_turn RdW.ok h.2.1 t (by have := h.2.2; omega) (by have := h.2.2; have := (Array.getElem?_eq_some_iff.1 h.1).1; omega), h.2.2⟩
/-- Type 24. -/
theorem ParW.cells {B b : Nat} {w : World} {u : Value} {x : Wgt} (h : ParW B b w u x) : w.cell? ⟨b, 0, none⟩ = some (.int .i64 x.base) ∧ w.cell? ⟨b, 1, none⟩ = some (.int .i64 x.modulus) ∧ w.cell? ⟨b, 2, none⟩ = some (.int .i64 x.target) ∧ w.cell? ⟨b, 3, none⟩ = some (u) :=
  ⟨heap_cell h.1 rfl, heap_cell h.1 rfl, heap_cell h.1 rfl, heap_cell h.1 rfl⟩

/-! ### Permuting -/
def LocP (lo b : Nat) (w : World) (u : Value) (x : Prm) : Prop := w.heap[b]? = some (.cells #[.int .i64 x.base, .int .i64 x.target, u] 43 (0, 0)) ∧ In OP lo b w (aggP x u) x ∧ lo ≤ b
theorem LocP.keep {lo b a c : Nat} {w w' : World} {u : Value} {x : Prm} (h : LocP lo b w u x) (t : Turn a c w w') (hd : c ≤ lo ∨ b + 1 ≤ a) : LocP lo b w' u x :=
  ⟨(t.block b (Array.getElem?_eq_some_iff.1 h.1).1 (by have := h.2.2; omega)).trans h.1, h.2.1.keepF OP.ok t (by omega), h.2.2⟩
theorem LocP.lt {lo b : Nat} {w : World} {u : Value} {x : Prm} (h : LocP lo b w u x) : b < w.heap.size := (Array.getElem?_eq_some_iff.1 h.1).1
theorem LocP.cells {lo b : Nat} {w : World} {u : Value} {x : Prm} (h : LocP lo b w u x) : w.cell? ⟨b, 0, none⟩ = some (.int .i64 x.base) ∧ w.cell? ⟨b, 1, none⟩ = some (.int .i64 x.target) ∧ w.cell? ⟨b, 2, none⟩ = some (u) :=
  ⟨heap_cell h.1 rfl, heap_cell h.1 rfl, heap_cell h.1 rfl⟩
theorem LocP.turn {lo b : Nat} {w w' : World} {u : Value} {x : Prm} {k : Int} (h : LocP lo b w u x) (t : Turn lo b w w') (h2 : In OP lo b w' (aggP x u) (mkP k x)) : LocP lo b w' u (mkP k x) :=
  ⟨(t.block b h.lt (.inr (Nat.le_refl _))).trans h.1, h2, h.2.2⟩
theorem LocP.made {lo : Nat} {w : World} {u : Value} {x : Prm} (h : In OP lo w.heap.size w (aggP x u) x) (hlo : lo ≤ w.heap.size) :
    LocP lo w.heap.size (w.alloc (.cells #[.int .i64 x.base, .int .i64 x.target, u] 43)) u x ∧ Turn 0 0 w (w.alloc (.cells #[.int .i64 x.base, .int .i64 x.target, u] 43)) := by
  have t := Turn.of_below ((Below.refl w.heap.size w).alloc (Nat.le_refl _) (.cells #[.int .i64 x.base, .int .i64 x.target, u] 43))
  exact ⟨⟨heap_alloc_new w _, h.keepF OP.ok t (by omega), hlo⟩, t⟩
def ParP (B b : Nat) (w : World) (u : Value) (x : Prm) : Prop := w.heap[b]? = some (.cells #[.int .i64 x.base, .int .i64 x.target, u] 40 (0, 0)) ∧ RdP (· < B) w (aggP x u) x ∧ B ≤ b
/-- Type 40. -/
theorem ParP.keep {B b a c : Nat} {w w' : World} {u : Value} {x : Prm} (h : ParP B b w u x) (t : Turn a c w w') (hd : c = 0 ∨ b + 1 ≤ a) : ParP B b w' u x :=
  ⟨(t.block b (Array.getElem?_eq_some_iff.1 h.1).1 (by omega)).trans h.1, rd_turn RdP.ok h.2.1 t (by have := h.2.2; omega) (by have := h.2.2; have := (Array.getElem?_eq_some_iff.1 h.1).1; omega), h.2.2⟩
/-- Type 40. -/
theorem ParP.cells {B b : Nat} {w : World} {u : Value} {x : Prm} (h : ParP B b w u x) : w.cell? ⟨b, 0, none⟩ = some (.int .i64 x.base) ∧ w.cell? ⟨b, 1, none⟩ = some (.int .i64 x.target) ∧ w.cell? ⟨b, 2, none⟩ = some (u) :=
  ⟨heap_cell h.1 rfl, heap_cell h.1 rfl, heap_cell h.1 rfl⟩

/-! ### Chain -/
def LocC (lo b : Nat) (w : World) (u p : Value) (x : Chn) : Prop := w.heap[b]? = some (.cells #[.int .i64 x.base, .int .i64 x.states, .int .i64 x.start, .int .i64 x.stop, u, p] 28 (0, 0)) ∧ In OC lo b w (aggC x u p) x ∧ lo ≤ b
theorem LocC.keep {lo b a c : Nat} {w w' : World} {u p : Value} {x : Chn} (h : LocC lo b w u p x) (t : Turn a c w w') (hd : c ≤ lo ∨ b + 1 ≤ a) : LocC lo b w' u p x :=
  ⟨(t.block b (Array.getElem?_eq_some_iff.1 h.1).1 (by have := h.2.2; omega)).trans h.1, h.2.1.keepF OC.ok t (by omega), h.2.2⟩
theorem LocC.lt {lo b : Nat} {w : World} {u p : Value} {x : Chn} (h : LocC lo b w u p x) : b < w.heap.size := (Array.getElem?_eq_some_iff.1 h.1).1
theorem LocC.cells {lo b : Nat} {w : World} {u p : Value} {x : Chn} (h : LocC lo b w u p x) : w.cell? ⟨b, 0, none⟩ = some (.int .i64 x.base) ∧ w.cell? ⟨b, 1, none⟩ = some (.int .i64 x.states) ∧ w.cell? ⟨b, 2, none⟩ = some (.int .i64 x.start) ∧ w.cell? ⟨b, 3, none⟩ = some (.int .i64 x.stop) ∧ w.cell? ⟨b, 4, none⟩ = some (u) ∧ w.cell? ⟨b, 5, none⟩ = some (p) :=
  ⟨heap_cell h.1 rfl, heap_cell h.1 rfl, heap_cell h.1 rfl, heap_cell h.1 rfl, heap_cell h.1 rfl, heap_cell h.1 rfl⟩
theorem LocC.turn {lo b : Nat} {w w' : World} {u p : Value} {x : Chn} {k : Int} (h : LocC lo b w u p x) (t : Turn lo b w w') (h2 : In OC lo b w' (aggC x u p) (mkC k x)) : LocC lo b w' u p (mkC k x) :=
  ⟨(t.block b h.lt (.inr (Nat.le_refl _))).trans h.1, h2, h.2.2⟩
theorem LocC.made {lo : Nat} {w : World} {u p : Value} {x : Chn} (h : In OC lo w.heap.size w (aggC x u p) x) (hlo : lo ≤ w.heap.size) :
    LocC lo w.heap.size (w.alloc (.cells #[.int .i64 x.base, .int .i64 x.states, .int .i64 x.start, .int .i64 x.stop, u, p] 28)) u p x ∧ Turn 0 0 w (w.alloc (.cells #[.int .i64 x.base, .int .i64 x.states, .int .i64 x.start, .int .i64 x.stop, u, p] 28)) := by
  have t := Turn.of_below ((Below.refl w.heap.size w).alloc (Nat.le_refl _) (.cells #[.int .i64 x.base, .int .i64 x.states, .int .i64 x.start, .int .i64 x.stop, u, p] 28))
  exact ⟨⟨heap_alloc_new w _, h.keepF OC.ok t (by omega), hlo⟩, t⟩
def ParC (B b : Nat) (w : World) (u p : Value) (x : Chn) : Prop := w.heap[b]? = some (.cells #[.int .i64 x.base, .int .i64 x.states, .int .i64 x.start, .int .i64 x.stop, u, p] 68 (0, 0)) ∧ RdC (· < B) w (aggC x u p) x ∧ B ≤ b
/-- Type 68. -/
theorem ParC.keep {B b a c : Nat} {w w' : World} {u p : Value} {x : Chn} (h : ParC B b w u p x) (t : Turn a c w w') (hd : c = 0 ∨ b + 1 ≤ a) : ParC B b w' u p x :=
  ⟨(t.block b (Array.getElem?_eq_some_iff.1 h.1).1 (by omega)).trans h.1, rd_turn RdC.ok h.2.1 t (by have := h.2.2; omega) (by have := h.2.2; have := (Array.getElem?_eq_some_iff.1 h.1).1; omega), h.2.2⟩
/-- Type 68. -/
theorem ParC.cells {B b : Nat} {w : World} {u p : Value} {x : Chn} (h : ParC B b w u p x) : w.cell? ⟨b, 0, none⟩ = some (.int .i64 x.base) ∧ w.cell? ⟨b, 1, none⟩ = some (.int .i64 x.states) ∧ w.cell? ⟨b, 2, none⟩ = some (.int .i64 x.start) ∧ w.cell? ⟨b, 3, none⟩ = some (.int .i64 x.stop) ∧ w.cell? ⟨b, 4, none⟩ = some (u) ∧ w.cell? ⟨b, 5, none⟩ = some (p) :=
  ⟨heap_cell h.1 rfl, heap_cell h.1 rfl, heap_cell h.1 rfl, heap_cell h.1 rfl, heap_cell h.1 rfl, heap_cell h.1 rfl⟩
end Go.Proofs.Ytnpkanlieflbiaa
/- The laws' small functions over chains. -/
namespace Go.Proofs.Ytnpkanlieflbiaa
open Go.RowKit
set_option linter.unusedVariables false

set_option maxHeartbeats 800000 in
theorem toChain_t {B : Nat} {v : Value} {x : Chn} {w : World} (h : RdC (· < B) w v x) (hB : B ≤ w.heap.size) (hn : szC x ≤ 1048576) :
    Calls Try.prog 49 #[v] w fun e w' => ∃ v', e = .returned v' ∧ In OC w.heap.size w'.heap.size w' v' x ∧ Turn 0 0 w w' := by
  obtain ⟨u, p, rfl, hu, hp⟩ := h
  obtain ⟨a, c, rfl, h1, h2⟩ := hu.isSlice
  obtain ⟨a', c', rfl, h3, h4⟩ := hp.isSlice
  unfold maxLen at h2 h4
  have hn1 : szL (szL List.length) x.tables ≤ 1048576 := by unfold szC at hn; omega
  have hn2 : x.places.length ≤ 1048576 := by unfold szC at hn; omega
  have Hu := Lib.hid hu; clear hu
  have Hp := Lib.hid hp; clear hp
  unfold aggC
  go_enter Try.func49, Try.ntmps49
  go_wp2_with fail
  refine (toInt64SSSx (Rd.below RdIII.ok Hu.out (Below.mono (B := w.heap.size) (by repeat' (first | with_reducible exact Below.refl _ _ | with_reducible refine Below.alloc ?_ ?_ _ | with_reducible refine Below.setCell ?_ ?_ _ | with_reducible refine Below.drew ?_ | with_reducible refine Below.draws ?_ _ | omega | (simp; done) | (simp; omega))) hB)) (fun k hk => by simp; omega) hn1).mono ?_
  rintro e w1 ⟨v1, rfl, hf⟩
  obtain ⟨S, hS, hS2, hb⟩ := hf
  obtain ⟨av, nv, cv, rfl⟩ := hS.isSlice
  have HS := Lib.hid hS; clear hS
  have hsz := hb.size
  simp at hsz
  have HS2 := Lib.hid (show ∀ k ∈ S, w.heap.size + 1 + 1 < k from fun k hk => by have := hS2 k hk; simp at this; omega)
  clear hS2
  obtain ⟨hc, hz⟩ := bcell hb
  have hbel1 := Lib.hid (show Below w.heap.size w w1 from Below.trans (by repeat' (first | with_reducible exact Below.refl _ _ | with_reducible refine Below.alloc ?_ ?_ _ | with_reducible refine Below.setCell ?_ ?_ _ | with_reducible refine Below.drew ?_ | with_reducible refine Below.draws ?_ _ | omega | (simp; done) | (simp; omega))) (hb.mono (by first | omega | (simp; done) | (simp; omega))))
  clear hb
  go_wp2_with fail
  refine (toInt64Sx (Rd.below RdI.ok Hp.out (Below.mono (B := w.heap.size) (Below.trans hbel1.out (by repeat' (first | with_reducible exact Below.refl _ _ | with_reducible refine Below.alloc ?_ ?_ _ | with_reducible refine Below.setCell ?_ ?_ _ | with_reducible refine Below.drew ?_ | with_reducible refine Below.draws ?_ _ | omega | (simp; done) | (simp; omega)))) hB)) (fun k hk => by simp; omega) hn2).mono ?_
  rintro e w2 ⟨v2, rfl, hf⟩
  obtain ⟨T, hT, hT2, hb⟩ := hf
  obtain ⟨av', nv', cv', rfl⟩ := hT.isSlice
  have HT := Lib.hid hT; clear hT
  have hsz2 := hb.size
  simp at hsz2
  have HT2 := Lib.hid (show ∀ k ∈ T, w1.heap.size ≤ k from fun k hk => by have := hT2 k hk; simp at this; omega)
  clear hT2
  have ha1 : w.heap.size + 1 + 1 < w1.heap.size := by omega
  have ha2 : w.heap.size + 1 < w1.heap.size := by omega
  have ha3 : w.heap.size < w1.heap.size := by omega
  obtain ⟨hc2, hz2⟩ := bcell hb
  have hbel2 := Lib.hid (show Below w.heap.size w w2 from Below.trans hbel1.out (Below.trans (by repeat' (first | with_reducible exact Below.refl _ _ | with_reducible refine Below.alloc ?_ ?_ _ | with_reducible refine Below.setCell ?_ ?_ _ | with_reducible refine Below.drew ?_ | with_reducible refine Below.draws ?_ _ | omega | (simp; done) | (simp; omega))) (hb.mono (by first | omega | (simp; done) | (simp; omega)))))
  have hSk := Lib.hid (show OIII w2 (.slice av nv cv) x.tables S from OIII.ok.keep HS.out fun k hk => (hb.block k (by have := OIII.ok.lt HS.out k hk; simp; omega)).trans
    (Only.block (S := [w.heap.size + 1 + 1]) (by repeat' (first | with_reducible exact Only.refl _ _ | with_reducible refine Only.put ?_ ?_ _ _ | (simp; done))) k (OIII.ok.lt HS.out k hk) (by have := HS2.out k hk; simp; omega)))
  have hSlt := Lib.hid (OIII.ok.lt HS.out)
  clear hb
  go_wp2
  refine bodyPost_ret (v := aggC x (.slice av nv cv) (.slice av' nv' cv')) (by simp [results, Try.results49, go_sem, aggC, hc2, hc, ha2]) rfl ⟨_, rfl, ⟨S ++ T, ⟨_, _, S, T, rfl, OIII.ok.keep hSk.out fun k hk => ?_, OI.ok.keep HT.out fun k hk => ?_, rfl, fun k hk hm => ?_⟩, fun k hk => ?_⟩, Turn.of_below ?_⟩
  · exact Only.block (S := [w.heap.size + 1, w.heap.size + 1 + 1]) (by repeat' (first | with_reducible exact Only.refl _ _ | with_reducible refine Only.put ?_ ?_ _ _ | (simp; done))) k (OIII.ok.lt hSk.out k hk) (by have := HS2.out k hk; simp; omega)
  · exact Only.block (S := [w.heap.size + 1, w.heap.size + 1 + 1]) (by repeat' (first | with_reducible exact Only.refl _ _ | with_reducible refine Only.put ?_ ?_ _ _ | (simp; done))) k (OI.ok.lt HT.out k hk) (by have := HT2.out k hk; simp; omega)
  · have := hSlt.out k hk
    have := HT2.out k hm
    omega
  · have hl1 := OIII.ok.lt hSk.out k
    have hl2 := OI.ok.lt HT.out k
    simp
    rcases List.mem_append.1 hk with h | h
    · have := HS2.out k h
      have := hl1 h
      omega
    · have := HT2.out k h
      have := hl2 h
      omega
  · refine Below.trans hbel2.out ?_
    repeat' (first | with_reducible exact Below.refl _ _ | with_reducible refine Below.alloc ?_ ?_ _ | with_reducible refine Below.setCell ?_ ?_ _ | with_reducible refine Below.drew ?_ | with_reducible refine Below.draws ?_ _ | omega | (simp; done) | (simp; omega))

theorem szChain_t {B : Nat} {v : Value} {x : Chn} {w : World} (h : RdC (· < B) w v x) (hB : B ≤ w.heap.size) (left : Int) (hl : 0 ≤ left) (hl2 : left ≤ 1048576) :
    Calls Try.prog 47 #[v, .int .i64 left] w fun e w' => e = .returned (.int .i64 (szR (szC x) left)) ∧ Turn 0 0 w w' := by
  obtain ⟨u, p, rfl, hu, hp⟩ := h
  obtain ⟨a, c, rfl, h1, h2⟩ := hu.isSlice
  obtain ⟨a', c', rfl, h3, h4⟩ := hp.isSlice
  unfold maxLen at h2 h4
  have hbx := Lib.hid ((Below.refl w.heap.size w).alloc (Nat.le_refl _) (.cells #[.int .i64 x.base, .int .i64 x.states, .int .i64 x.start, .int .i64 x.stop, .slice a x.tables.length c, .slice a' x.places.length c'] 68))
  have Hu := Lib.hid hu; clear hu
  have Hp := Lib.hid hp; clear hp
  unfold aggC szC
  generalize hN1 : szL (szL List.length) x.tables = n1
  generalize hN2 : x.places.length = n2 at *
  have HN1 := Lib.hid hN1; clear hN1
  have HN2 := Lib.hid hN2; clear hN2
  by_cases hle : (n1 : Int) ≤ left
  · have hv := Lib.hid (szR_yes hle)
    by_cases hle2 : (n2 : Int) ≤ left - n1
    · have hv2 := Lib.hid (szR_yes hle2)
      have hr := Lib.hid (szR_yes (n := n1 + n2) (left := left) (by omega))
      go_enter Try.func47, Try.ntmps47
      go_wp2_with fail
      refine (szInt64SSS (RdIII.ok.keep Hu.out fun k hk => hbx.out.block k (by omega)) _ hl hl2).mono ?_
      rw [HN1.out, hv.out]
      rintro e w' ⟨rfl, rfl⟩
      go_wp2_with fail
      refine (szInt64S (RdI.ok.keep Hp.out fun k hk => hbx.out.block k (by omega)) _ (by omega) (by omega)).mono ?_
      rw [HN2.out, hv2.out]
      rintro e w' ⟨rfl, rfl⟩
      go_wp2
      go_ret
      exact ⟨ret_int' (by rw [hr.out]; omega), Turn.of_below hbx.out⟩
    · have hv2 := Lib.hid (szR_no (n := n2) (left := left - n1) (by omega))
      have hr := Lib.hid (szR_no (n := n1 + n2) (left := left) (by omega))
      go_enter Try.func47, Try.ntmps47
      go_wp2_with fail
      refine (szInt64SSS (RdIII.ok.keep Hu.out fun k hk => hbx.out.block k (by omega)) _ hl hl2).mono ?_
      rw [HN1.out, hv.out]
      rintro e w' ⟨rfl, rfl⟩
      go_wp2_with fail
      refine (szInt64S (RdI.ok.keep Hp.out fun k hk => hbx.out.block k (by omega)) _ (by omega) (by omega)).mono ?_
      rw [HN2.out, hv2.out]
      rintro e w' ⟨rfl, rfl⟩
      go_wp2
      go_ret
      exact ⟨ret_int' (by rw [hr.out]), Turn.of_below hbx.out⟩
  · have hv := Lib.hid (szR_no (n := n1) (left := left) (by omega))
    have hr := Lib.hid (szR_no (n := n1 + n2) (left := left) (by omega))
    go_enter Try.func47, Try.ntmps47
    go_wp2_with fail
    refine (szInt64SSS (RdIII.ok.keep Hu.out fun k hk => hbx.out.block k (by omega)) _ hl hl2).mono ?_
    rw [HN1.out, hv.out]
    rintro e w' ⟨rfl, rfl⟩
    go_wp2
    go_ret
    exact ⟨ret_int' (by rw [hr.out]), Turn.of_below hbx.out⟩

theorem eqChain_t {a b c d : Nat} {va vb : Value} {x : Chn} {w : World} (ha : In OC a b w va x) (hb : In OC c d w vb x) :
    Calls Try.prog 17 #[va, vb] w fun e w' => e = .returned (.bool true) ∧ Turn 0 0 w w' := by
  obtain ⟨S, ⟨u, p, S1, S2, rfl, hu, hp, _, _⟩, hS⟩ := ha
  obtain ⟨T, ⟨u', p', T1, T2, rfl, hu', hp', _, _⟩, hT⟩ := hb
  have Hu := Lib.hid (OIII.leads.to _ _ _ _ (· < w.heap.size) hu (OIII.ok.lt hu))
  have Hp := Lib.hid (OI.leads.to _ _ _ _ (· < w.heap.size) hp (OI.ok.lt hp))
  have Hu' := Lib.hid (OIII.leads.to _ _ _ _ (· < w.heap.size) hu' (OIII.ok.lt hu'))
  have Hp' := Lib.hid (OI.leads.to _ _ _ _ (· < w.heap.size) hp' (OI.ok.lt hp'))
  clear hu hp hu' hp' hS hT
  obtain ⟨a1, c1, rfl, h1, h2⟩ := Hu.out.isSlice
  obtain ⟨a2, c2, rfl, h3, h4⟩ := Hp.out.isSlice
  obtain ⟨a3, c3, rfl, h5, h6⟩ := Hu'.out.isSlice
  obtain ⟨a4, c4, rfl, h7, h8⟩ := Hp'.out.isSlice
  unfold maxLen at h2 h4 h6 h8
  have hbx := Lib.hid (((Below.refl w.heap.size w).alloc (Nat.le_refl _) (.cells #[.int .i64 x.base, .int .i64 x.states, .int .i64 x.start, .int .i64 x.stop, .slice a1 x.tables.length c1, .slice a2 x.places.length c2] 28)).alloc (by simp) (.cells #[.int .i64 x.base, .int .i64 x.states, .int .i64 x.start, .int .i64 x.stop, .slice a3 x.tables.length c3, .slice a4 x.places.length c4] 28))
  unfold aggC
  go_enter Try.func17, Try.ntmps17
  go_wp2_with fail
  refine (eqInt64SSS (RdIII.ok.keep Hu.out fun k hk => hbx.out.block k hk) (RdIII.ok.keep Hu'.out fun k hk => hbx.out.block k hk)).mono ?_
  rintro e w' ⟨rfl, n, rfl⟩
  go_wp2_with fail
  refine (eqInt64S (RdI.ok.keep Hp.out (by intro k hk; exact hbx.out.block k hk)) (RdI.ok.keep Hp'.out (by intro k hk; exact hbx.out.block k hk))).mono ?_
  rintro e w' ⟨rfl, n2, rfl⟩
  go_wp2
  go_ret
  exact ⟨rfl, Turn.of_below (hbx.out.trans ⟨rfl, rfl, rfl, Nat.le_refl _, fun _ _ => rfl⟩)⟩

theorem markChain_t {lo hi : Nat} {v : Value} {x : Chn} {w : World} {k : Int} (h : In OC lo hi w v x) (hk : 0 ≤ k) (hk2 : k + cntC x ≤ 4611686018427387904) :
    Calls Try.prog 20 #[v, .int .i64 k] w fun e w' => e = .returned (.int .i64 (k + cntC x)) ∧ In OC lo hi w' v (mkC k x) ∧ Turn lo hi w w' := by
  obtain ⟨S, ⟨u, p, S1, S2, rfl, hu, hp, rfl, hd⟩, hS⟩ := h
  obtain ⟨a1, n1, c1, rfl⟩ := hu.isSlice
  obtain ⟨a2, n2, c2, rfl⟩ := hp.isSlice
  have hbx := Lib.hid ((Below.refl w.heap.size w).alloc (Nat.le_refl _) (.cells #[.int .i64 x.base, .int .i64 x.states, .int .i64 x.start, .int .i64 x.stop, .slice a1 n1 c1, .slice a2 n2 c2] 28))
  have Hu := Lib.hid (Own.below OII.ok hu hbx.out)
  have Hp := Lib.hid (Own.below oI.ok hp hbx.out)
  have Hd := Lib.hid hd
  have HS := Lib.hid hS
  have hlt1 := Lib.hid (OIII.ok.lt hu)
  have hlt2 := Lib.hid (OI.ok.lt hp)
  clear hu hp hd hS
  unfold aggC
  unfold cntC at hk2 ⊢
  go_enter Try.func20, Try.ntmps20
  go_wp2_with fail
  refine (markInt64SSS Hu.out hk (by omega)).mono ?_
  rintro e w1 ⟨rfl, ho, hb⟩
  have Ho := Lib.hid ho
  have Hb := Lib.hid hb
  have hb2 := (hb.block w.heap.size (by simp) (fun hm => Nat.lt_irrefl _ (hlt1.out _ hm))).trans (heap_alloc_new w _)
  have hp2 := Lib.hid (OI.ok.keep Hp.out fun i hi => hb.block i (by have := hlt2.out i hi; simp; omega) fun hm => Hd.out i hm hi)
  have d5 := heap_cell hb2 (i := 5) rfl
  clear ho hb hb2
  go_wp2_with fail
  refine (markInt64S hp2.out (by omega) (by omega)).mono ?_
  rintro e w2 ⟨rfl, ho, hb⟩
  have Ho2 := Lib.hid (OIII.ok.keep Ho.out fun i hi => hb.block i (OIII.ok.lt Ho.out i hi) fun hm => Hd.out i hi hm)
  have Ho := Lib.hid ho
  have hbs := Lib.hid (⟨hb.os.trans Hb.out.os, hb.tape.trans Hb.out.tape, hb.output.trans Hb.out.output, Nat.le_trans Hb.out.size hb.size, fun i hi hd => (hb.block i (Nat.lt_of_lt_of_le hi Hb.out.size) fun hm => by have := HS.out i (List.mem_append.2 (.inr hm)); omega).trans (Hb.out.block i hi fun hm => by have := HS.out i (List.mem_append.2 (.inl hm)); omega)⟩ : Turn lo hi _ w2)
  clear ho hb d5
  go_wp2
  go_ret
  exact ⟨ret_int' (by omega), ⟨S1 ++ S2, ⟨_, _, S1, S2, rfl, Ho2.out, Ho.out, rfl, Hd.out⟩, HS.out⟩, Turn.after hbx.out hbs.out⟩

theorem heldChain_t {lo hi : Nat} {v : Value} {x : Chn} {w : World} {k : Int} (h : In OC lo hi w v (mkC k x)) (hk : 0 ≤ k) (hk2 : k + cntC x ≤ 4611686018427387904) :
    Calls Try.prog 21 #[v, .int .i64 k] w fun e w' => e = .returned (.int .i64 (k + cntC x)) ∧ Turn 0 0 w w' := by
  obtain ⟨S, ⟨u, p, S1, S2, rfl, hu, hp, rfl, hd⟩, hS⟩ := h
  have Hu := Lib.hid (show RdIII (· < w.heap.size) w u (mkS3 k x.tables) from OIII.leads.to _ _ _ _ (· < w.heap.size) hu (OIII.ok.lt hu))
  have Hp := Lib.hid (show RdI (· < w.heap.size) w p (mk1 (k + (cntL (cntL List.length) x.tables : Nat)) x.places.length) from OI.leads.to _ _ _ _ (· < w.heap.size) hp (OI.ok.lt hp))
  clear hu hp hd hS
  obtain ⟨a1, c1, rfl, h1, h2⟩ := Hu.out.isSlice
  obtain ⟨a2, c2, rfl, h3, h4⟩ := Hp.out.isSlice
  have hbx := Lib.hid ((Below.refl w.heap.size w).alloc (Nat.le_refl _) (.cells #[.int .i64 x.base, .int .i64 x.states, .int .i64 x.start, .int .i64 x.stop, .slice a1 (mkS3 k x.tables).length c1, .slice a2 (mk1 (k + (cntL (cntL List.length) x.tables : Nat)) x.places.length).length c2] 28))
  unfold aggC mkC
  unfold cntC at hk2 ⊢
  go_enter Try.func21, Try.ntmps21
  go_wp2_with fail
  refine (heldInt64SSS (RdIII.ok.keep Hu.out fun i hi => hbx.out.block i hi) hk (by omega)).mono ?_
  rintro e w1 ⟨rfl, rfl⟩
  go_wp2_with fail
  refine (heldInt64S (RdI.ok.keep Hp.out fun i hi => hbx.out.block i hi) (by omega) (by omega)).mono ?_
  rintro e w1 ⟨rfl, rfl⟩
  go_wp2
  go_ret
  exact ⟨ret_int' (by omega), Turn.of_below hbx.out⟩
end Go.Proofs.Ytnpkanlieflbiaa
/- The laws' small functions over permutings. -/
namespace Go.Proofs.Ytnpkanlieflbiaa
open Go.RowKit
set_option linter.unusedVariables false

theorem cnt_le_szP (x : Prm) : cntP x ≤ szP x := cnt_le_sz2 x.orders
theorem toPermuting_t {B : Nat} {v : Value} {x : Prm} {w : World} (h : RdP (· < B) w v x) (hB : B ≤ w.heap.size) (hn : szP x ≤ 1048576) :
    Calls Try.prog 24 #[v] w fun e w' => ∃ v', e = .returned v' ∧ In OP w.heap.size w'.heap.size w' v' x ∧ Turn 0 0 w w' := by
  obtain ⟨u, rfl, hu⟩ := h
  obtain ⟨a, c, rfl, h1, h2⟩ := hu.isSlice
  unfold maxLen at h2
  have Hu := Lib.hid hu; clear hu
  unfold aggP
  go_enter Try.func24, Try.ntmps24
  go_wp2_with fail
  refine (toInt64SSx (Rd.below RdII.ok Hu.out (Below.mono (B := w.heap.size) (by repeat' (first | with_reducible exact Below.refl _ _ | with_reducible refine Below.alloc ?_ ?_ _ | with_reducible refine Below.setCell ?_ ?_ _ | with_reducible refine Below.drew ?_ | with_reducible refine Below.draws ?_ _ | omega | (simp; done) | (simp; omega))) hB)) (fun k hk => by simp; omega) hn).mono ?_
  rintro e w1 ⟨v1, rfl, hf⟩
  obtain ⟨S, hS, hS2, hb⟩ := hf
  obtain ⟨av, nv, cv, rfl⟩ := hS.isSlice
  have HS := Lib.hid hS; clear hS
  have HS2 := Lib.hid hS2; clear hS2
  have hsz := hb.size
  simp at hsz
  obtain ⟨hc, hz⟩ := bcell hb
  go_wp2
  refine bodyPost_ret (v := aggP x (.slice av nv cv)) (by simp [results, Try.results24, go_sem, aggP, hc]) rfl ⟨_, rfl, ⟨S, ⟨_, rfl, OII.ok.keep HS.out fun k hk => ?_⟩, fun k hk => ⟨?_, ?_⟩⟩, Turn.of_below ?_⟩
  · have := HS2.out k hk
    simp at this
    refine Only.block (S := [w.heap.size + 1, w.heap.size + 1 + 1]) (by repeat' (first | with_reducible exact Only.refl _ _ | with_reducible refine Only.put ?_ ?_ _ _ | (simp; done))) k (OII.ok.lt HS.out k hk) (by simp; omega)
  · have := HS2.out k hk
    simp at this
    omega
  · have := OII.ok.lt HS.out k hk
    simp
    omega
  · refine Below.trans (b := w1) ?_ ?_
    · refine Below.trans ?_ (hb.mono (by first | omega | (simp; done) | (simp; omega)))
      repeat' (first | with_reducible exact Below.refl _ _ | with_reducible refine Below.alloc ?_ ?_ _ | with_reducible refine Below.setCell ?_ ?_ _ | with_reducible refine Below.drew ?_ | with_reducible refine Below.draws ?_ _ | omega | (simp; done) | (simp; omega))
    · repeat' (first | with_reducible exact Below.refl _ _ | with_reducible refine Below.alloc ?_ ?_ _ | with_reducible refine Below.setCell ?_ ?_ _ | with_reducible refine Below.drew ?_ | with_reducible refine Below.draws ?_ _ | omega | (simp; done) | (simp; omega))

theorem szPermuting_t {B : Nat} {v : Value} {x : Prm} {w : World} (h : RdP (· < B) w v x) (hB : B ≤ w.heap.size) (left : Int) (hl : 0 ≤ left) (hl2 : left ≤ 1048576) :
    Calls Try.prog 22 #[v, .int .i64 left] w fun e w' => e = .returned (.int .i64 (szR (szP x) left)) ∧ Turn 0 0 w w' := by
  obtain ⟨u, rfl, hu⟩ := h
  obtain ⟨a, c, rfl, h1, h2⟩ := hu.isSlice
  unfold maxLen at h2
  have Hu := Lib.hid hu; clear hu
  unfold aggP szP
  obtain ⟨N, hN⟩ : ∃ N, N = szL List.length x.orders := ⟨_, rfl⟩
  have HN := Lib.hid hN
  rw [← hN]
  clear hN
  have hw1 := Lib.hid (Turn.of_below ((Below.refl w.heap.size w).alloc (Nat.le_refl _) (.cells #[.int .i64 x.base, .int .i64 x.target, .slice a x.orders.length c] 40)))
  by_cases hle : (N : Int) ≤ left
  · have hv := Lib.hid (szR_yes hle)
    go_enter Try.func22, Try.ntmps22
    go_wp2_with fail
    refine (szInt64SS (RdII.ok.keep Hu.out fun k hk => Below.heap_alloc w _ k (by omega)) _ hl hl2).mono ?_
    rw [← HN.out, hv.out]
    rintro e w' ⟨rfl, rfl⟩
    go_wp2
    go_ret
    exact ⟨ret_int' hv.out.symm, hw1.out⟩
  · have hv := Lib.hid (szR_no (n := N) (left := left) (by omega))
    go_enter Try.func22, Try.ntmps22
    go_wp2_with fail
    refine (szInt64SS (RdII.ok.keep Hu.out fun k hk => Below.heap_alloc w _ k (by omega)) _ hl hl2).mono ?_
    rw [← HN.out, hv.out]
    rintro e w' ⟨rfl, rfl⟩
    go_wp2
    go_ret
    exact ⟨ret_int' hv.out.symm, hw1.out⟩

theorem eqPermuting_t {a b c d : Nat} {va vb : Value} {x : Prm} {w : World} (ha : In OP a b w va x) (hb : In OP c d w vb x) :
    Calls Try.prog 26 #[va, vb] w fun e w' => e = .returned (.bool true) ∧ Turn 0 0 w w' := by
  obtain ⟨S, ⟨u, rfl, hu⟩, hS⟩ := ha
  obtain ⟨T, ⟨u', rfl, hu'⟩, hT⟩ := hb
  have Hu := Lib.hid (OII.leads.to _ _ _ _ (· < w.heap.size) hu (OII.ok.lt hu))
  have Hu' := Lib.hid (OII.leads.to _ _ _ _ (· < w.heap.size) hu' (OII.ok.lt hu'))
  clear hu hu' hS hT
  obtain ⟨a1, c1, rfl, h1, h2⟩ := Hu.out.isSlice
  obtain ⟨a2, c2, rfl, h3, h4⟩ := Hu'.out.isSlice
  unfold maxLen at h2 h4
  have hbx := Lib.hid (((Below.refl w.heap.size w).alloc (Nat.le_refl _) (.cells #[.int .i64 x.base, .int .i64 x.target, .slice a1 x.orders.length c1] 43)).alloc (by simp) (.cells #[.int .i64 x.base, .int .i64 x.target, .slice a2 x.orders.length c2] 43))
  unfold aggP
  go_enter Try.func26, Try.ntmps26
  go_wp2_with fail
  refine (eqInt64SS (RdII.ok.keep Hu.out fun k hk => hbx.out.block k hk) (RdII.ok.keep Hu'.out fun k hk => hbx.out.block k hk)).mono ?_
  rintro e w' ⟨rfl, n, rfl⟩
  go_wp2
  go_ret
  exact ⟨rfl, Turn.of_below (hbx.out.trans ⟨rfl, rfl, rfl, Nat.le_refl _, fun _ _ => rfl⟩)⟩

theorem markPermuting_t {lo hi : Nat} {v : Value} {x : Prm} {w : World} {k : Int} (h : In OP lo hi w v x) (hk : 0 ≤ k) (hk2 : k + cntP x ≤ 4611686018427387904) :
    Calls Try.prog 27 #[v, .int .i64 k] w fun e w' => e = .returned (.int .i64 (k + cntP x)) ∧ In OP lo hi w' v (mkP k x) ∧ Turn lo hi w w' := by
  obtain ⟨S, ⟨u, rfl, hu⟩, hS⟩ := h
  obtain ⟨a1, n1, c1, rfl⟩ := hu.isSlice
  have Hu := Lib.hid hu; clear hu
  have HS := Lib.hid hS; clear hS
  have hbx := Lib.hid ((Below.refl w.heap.size w).alloc (Nat.le_refl _) (.cells #[.int .i64 x.base, .int .i64 x.target, .slice a1 n1 c1] 43))
  unfold aggP
  go_enter Try.func27, Try.ntmps27
  go_wp2_with fail
  refine (markInt64SS (Own.below OI.ok Hu.out hbx.out) hk hk2).mono ?_
  rintro e w1 ⟨rfl, ho, hb⟩
  have Ho := Lib.hid ho; clear ho
  have Hb := Lib.hid hb; clear hb
  go_wp2
  go_ret
  exact ⟨rfl, ⟨S, ⟨_, rfl, Ho.out⟩, HS.out⟩, Turn.after hbx.out ⟨Hb.out.os, Hb.out.tape, Hb.out.output, Hb.out.size, fun i hi hd => Hb.out.block i hi fun hm => by have := HS.out i hm; omega⟩⟩

end Go.Proofs.Ytnpkanlieflbiaa
