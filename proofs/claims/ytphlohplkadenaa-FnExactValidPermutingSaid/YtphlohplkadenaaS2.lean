/- Boxes of structs that the laws keep: locals of their own, and parameters. Printed by gen_s2.py. -/
import Derived.Test.YtphlohplkadenaaS1
namespace Go.Proofs.Ytphlohplkadenaa
open Go.RowKit
set_option linter.unusedVariables false

theorem turn_set {w w' : World} (h : Turn 0 0 w w') {p : Addr} (hp : w.heap.size ≤ p.block) (v : Value) : Turn 0 0 w (w'.setCell p v) := Turn.of_below (h.bel.setCell hp v)
theorem In.sameF {α : Type} {R : Rep α} (hR : R.Fine) {lo hi : Nat} {w w' : World} {v : Value} {x : α} (h : In R lo hi w v x) (he : w'.heap = w.heap) : In R lo hi w' v x := by
  obtain ⟨S, h1, h2⟩ := h
  exact ⟨S, hR.keep h1 fun k hk => by rw [he], h2⟩
theorem In.same {α : Type} {R : Rep α} (hR : R.Ok) {lo hi : Nat} {w w' : World} {v : Value} {x : α} (h : In R lo hi w v x) (he : w'.heap = w.heap) : In R lo hi w' v x := h.sameF hR.fine he
theorem cnt_le_szW2 (x : Wgt) : szW x ≤ szW x := Nat.le_refl _
theorem setCell_size3 (w : World) (p : Addr) (v : Value) : (w.setCell p v).heap.size = w.heap.size := by simp

/-! ### Weighting -/
def LocW (lo b : Nat) (w : World) (u : Value) (x : Wgt) : Prop := w.heap[b]? = some (.cells #[.int .i64 x.base, .int .i64 x.modulus, .int .i64 x.target, u] 26 (0, 0)) ∧ In OW lo b w (aggW x u) x ∧ lo ≤ b
theorem LocW.keep {lo b a c : Nat} {w w' : World} {u : Value} {x : Wgt} (h : LocW lo b w u x) (t : Turn a c w w') (hd : c ≤ lo ∨ b + 1 ≤ a) : LocW lo b w' u x :=
  ⟨(t.block b (Array.getElem?_eq_some_iff.1 h.1).1 (by have := h.2.2; omega)).trans h.1, h.2.1.keepF OW.ok t (by omega), h.2.2⟩
theorem LocW.lt {lo b : Nat} {w : World} {u : Value} {x : Wgt} (h : LocW lo b w u x) : b < w.heap.size := (Array.getElem?_eq_some_iff.1 h.1).1
theorem LocW.cells {lo b : Nat} {w : World} {u : Value} {x : Wgt} (h : LocW lo b w u x) : w.cell? ⟨b, 0, none⟩ = some (.int .i64 x.base) ∧ w.cell? ⟨b, 1, none⟩ = some (.int .i64 x.modulus) ∧ w.cell? ⟨b, 2, none⟩ = some (.int .i64 x.target) ∧ w.cell? ⟨b, 3, none⟩ = some (u) :=
  ⟨heap_cell h.1 rfl, heap_cell h.1 rfl, heap_cell h.1 rfl, heap_cell h.1 rfl⟩
theorem LocW.turn {lo b : Nat} {w w' : World} {u : Value} {x : Wgt} {k : Int} (h : LocW lo b w u x) (t : Turn lo b w w') (h2 : In OW lo b w' (aggW x u) (mkW k x)) : LocW lo b w' u (mkW k x) :=
  ⟨(t.block b h.lt (.inr (Nat.le_refl _))).trans h.1, h2, h.2.2⟩
theorem LocW.made {lo : Nat} {w : World} {u : Value} {x : Wgt} (h : In OW lo w.heap.size w (aggW x u) x) (hlo : lo ≤ w.heap.size) :
    LocW lo w.heap.size (w.alloc (.cells #[.int .i64 x.base, .int .i64 x.modulus, .int .i64 x.target, u] 26)) u x ∧ Turn 0 0 w (w.alloc (.cells #[.int .i64 x.base, .int .i64 x.modulus, .int .i64 x.target, u] 26)) := by
  have t := Turn.of_below ((Below.refl w.heap.size w).alloc (Nat.le_refl _) (.cells #[.int .i64 x.base, .int .i64 x.modulus, .int .i64 x.target, u] 26))
  exact ⟨⟨heap_alloc_new w _, h.keepF OW.ok t (by omega), hlo⟩, t⟩
def ParW (B b : Nat) (w : World) (u : Value) (x : Wgt) : Prop := w.heap[b]? = some (.cells #[.int .i64 x.base, .int .i64 x.modulus, .int .i64 x.target, u] 31 (0, 0)) ∧ RdW (· < B) w (aggW x u) x ∧ B ≤ b
/-- Type 31. -/
theorem ParW.keep {B b a c : Nat} {w w' : World} {u : Value} {x : Wgt} (h : ParW B b w u x) (t : Turn a c w w') (hd : c = 0 ∨ b + 1 ≤ a) : ParW B b w' u x :=
  ⟨(t.block b (Array.getElem?_eq_some_iff.1 h.1).1 (by omega)).trans h.1, rd_turn RdW.ok h.2.1 t (by have := h.2.2; omega) (by have := h.2.2; have := (Array.getElem?_eq_some_iff.1 h.1).1; omega), h.2.2⟩
/-- Type 31. -/
theorem ParW.cells {B b : Nat} {w : World} {u : Value} {x : Wgt} (h : ParW B b w u x) : w.cell? ⟨b, 0, none⟩ = some (.int .i64 x.base) ∧ w.cell? ⟨b, 1, none⟩ = some (.int .i64 x.modulus) ∧ w.cell? ⟨b, 2, none⟩ = some (.int .i64 x.target) ∧ w.cell? ⟨b, 3, none⟩ = some (u) :=
  ⟨heap_cell h.1 rfl, heap_cell h.1 rfl, heap_cell h.1 rfl, heap_cell h.1 rfl⟩

/-! ### Permuting -/
def LocP (lo b : Nat) (w : World) (u : Value) (x : Prm) : Prop := w.heap[b]? = some (.cells #[.int .i64 x.base, .int .i64 x.target, u] 46 (0, 0)) ∧ In OP lo b w (aggP x u) x ∧ lo ≤ b
theorem LocP.keep {lo b a c : Nat} {w w' : World} {u : Value} {x : Prm} (h : LocP lo b w u x) (t : Turn a c w w') (hd : c ≤ lo ∨ b + 1 ≤ a) : LocP lo b w' u x :=
  ⟨(t.block b (Array.getElem?_eq_some_iff.1 h.1).1 (by have := h.2.2; omega)).trans h.1, h.2.1.keepF OP.ok t (by omega), h.2.2⟩
theorem LocP.lt {lo b : Nat} {w : World} {u : Value} {x : Prm} (h : LocP lo b w u x) : b < w.heap.size := (Array.getElem?_eq_some_iff.1 h.1).1
theorem LocP.cells {lo b : Nat} {w : World} {u : Value} {x : Prm} (h : LocP lo b w u x) : w.cell? ⟨b, 0, none⟩ = some (.int .i64 x.base) ∧ w.cell? ⟨b, 1, none⟩ = some (.int .i64 x.target) ∧ w.cell? ⟨b, 2, none⟩ = some (u) :=
  ⟨heap_cell h.1 rfl, heap_cell h.1 rfl, heap_cell h.1 rfl⟩
theorem LocP.turn {lo b : Nat} {w w' : World} {u : Value} {x : Prm} {k : Int} (h : LocP lo b w u x) (t : Turn lo b w w') (h2 : In OP lo b w' (aggP x u) (mkP k x)) : LocP lo b w' u (mkP k x) :=
  ⟨(t.block b h.lt (.inr (Nat.le_refl _))).trans h.1, h2, h.2.2⟩
theorem LocP.made {lo : Nat} {w : World} {u : Value} {x : Prm} (h : In OP lo w.heap.size w (aggP x u) x) (hlo : lo ≤ w.heap.size) :
    LocP lo w.heap.size (w.alloc (.cells #[.int .i64 x.base, .int .i64 x.target, u] 46)) u x ∧ Turn 0 0 w (w.alloc (.cells #[.int .i64 x.base, .int .i64 x.target, u] 46)) := by
  have t := Turn.of_below ((Below.refl w.heap.size w).alloc (Nat.le_refl _) (.cells #[.int .i64 x.base, .int .i64 x.target, u] 46))
  exact ⟨⟨heap_alloc_new w _, h.keepF OP.ok t (by omega), hlo⟩, t⟩
def ParP (B b : Nat) (w : World) (u : Value) (x : Prm) : Prop := w.heap[b]? = some (.cells #[.int .i64 x.base, .int .i64 x.target, u] 43 (0, 0)) ∧ RdP (· < B) w (aggP x u) x ∧ B ≤ b
/-- Type 43. -/
theorem ParP.keep {B b a c : Nat} {w w' : World} {u : Value} {x : Prm} (h : ParP B b w u x) (t : Turn a c w w') (hd : c = 0 ∨ b + 1 ≤ a) : ParP B b w' u x :=
  ⟨(t.block b (Array.getElem?_eq_some_iff.1 h.1).1 (by omega)).trans h.1, rd_turn RdP.ok h.2.1 t (by have := h.2.2; omega) (by have := h.2.2; have := (Array.getElem?_eq_some_iff.1 h.1).1; omega), h.2.2⟩
/-- Type 43. -/
theorem ParP.cells {B b : Nat} {w : World} {u : Value} {x : Prm} (h : ParP B b w u x) : w.cell? ⟨b, 0, none⟩ = some (.int .i64 x.base) ∧ w.cell? ⟨b, 1, none⟩ = some (.int .i64 x.target) ∧ w.cell? ⟨b, 2, none⟩ = some (u) :=
  ⟨heap_cell h.1 rfl, heap_cell h.1 rfl, heap_cell h.1 rfl⟩

/-! ### Chain -/
def LocC (lo b : Nat) (w : World) (u p : Value) (x : Chn) : Prop := w.heap[b]? = some (.cells #[.int .i64 x.base, .int .i64 x.states, .int .i64 x.start, .int .i64 x.stop, u, p] 58 (0, 0)) ∧ In OC lo b w (aggC x u p) x ∧ lo ≤ b
theorem LocC.keep {lo b a c : Nat} {w w' : World} {u p : Value} {x : Chn} (h : LocC lo b w u p x) (t : Turn a c w w') (hd : c ≤ lo ∨ b + 1 ≤ a) : LocC lo b w' u p x :=
  ⟨(t.block b (Array.getElem?_eq_some_iff.1 h.1).1 (by have := h.2.2; omega)).trans h.1, h.2.1.keepF OC.ok t (by omega), h.2.2⟩
theorem LocC.lt {lo b : Nat} {w : World} {u p : Value} {x : Chn} (h : LocC lo b w u p x) : b < w.heap.size := (Array.getElem?_eq_some_iff.1 h.1).1
theorem LocC.cells {lo b : Nat} {w : World} {u p : Value} {x : Chn} (h : LocC lo b w u p x) : w.cell? ⟨b, 0, none⟩ = some (.int .i64 x.base) ∧ w.cell? ⟨b, 1, none⟩ = some (.int .i64 x.states) ∧ w.cell? ⟨b, 2, none⟩ = some (.int .i64 x.start) ∧ w.cell? ⟨b, 3, none⟩ = some (.int .i64 x.stop) ∧ w.cell? ⟨b, 4, none⟩ = some (u) ∧ w.cell? ⟨b, 5, none⟩ = some (p) :=
  ⟨heap_cell h.1 rfl, heap_cell h.1 rfl, heap_cell h.1 rfl, heap_cell h.1 rfl, heap_cell h.1 rfl, heap_cell h.1 rfl⟩
theorem LocC.turn {lo b : Nat} {w w' : World} {u p : Value} {x : Chn} {k : Int} (h : LocC lo b w u p x) (t : Turn lo b w w') (h2 : In OC lo b w' (aggC x u p) (mkC k x)) : LocC lo b w' u p (mkC k x) :=
  ⟨(t.block b h.lt (.inr (Nat.le_refl _))).trans h.1, h2, h.2.2⟩
theorem LocC.made {lo : Nat} {w : World} {u p : Value} {x : Chn} (h : In OC lo w.heap.size w (aggC x u p) x) (hlo : lo ≤ w.heap.size) :
    LocC lo w.heap.size (w.alloc (.cells #[.int .i64 x.base, .int .i64 x.states, .int .i64 x.start, .int .i64 x.stop, u, p] 58)) u p x ∧ Turn 0 0 w (w.alloc (.cells #[.int .i64 x.base, .int .i64 x.states, .int .i64 x.start, .int .i64 x.stop, u, p] 58)) := by
  have t := Turn.of_below ((Below.refl w.heap.size w).alloc (Nat.le_refl _) (.cells #[.int .i64 x.base, .int .i64 x.states, .int .i64 x.start, .int .i64 x.stop, u, p] 58))
  exact ⟨⟨heap_alloc_new w _, h.keepF OC.ok t (by omega), hlo⟩, t⟩
end Go.Proofs.Ytphlohplkadenaa
