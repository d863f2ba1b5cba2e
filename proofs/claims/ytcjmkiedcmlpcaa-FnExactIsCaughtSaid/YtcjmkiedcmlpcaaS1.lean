/- The laws' small functions over weightings. -/
import Derived.Test.YtcjmkiedcmlpcaaS0
namespace Go.Proofs.Ytcjmkiedcmlpcaa
open Go.RowKit
set_option linter.unusedVariables false

theorem bcell {W w1 : World} (hb : Below W.heap.size W w1) : (∀ b o, b < W.heap.size → w1.cell? ⟨b, o, none⟩ = W.cell? ⟨b, o, none⟩) ∧ (∀ b o, b < W.heap.size → w1.frozen? ⟨b, o, none⟩ = W.frozen? ⟨b, o, none⟩) :=
  ⟨fun b o h => hb.cell (p := ⟨b, o, none⟩) h, fun b o h => hb.frozen (p := ⟨b, o, none⟩) h⟩

theorem keep_set {w : World} {p : Addr} {v : Value} {k : Nat} (h : k ≠ p.block) : (w.setCell p v).heap[k]? = w.heap[k]? := heap_setCell_other w p k v (by simpa using h)

end Go.Proofs.Ytcjmkiedcmlpcaa
/- Boxes of structs that the laws keep: locals of their own, and parameters. Printed by gen_s2.py. -/
namespace Go.Proofs.Ytcjmkiedcmlpcaa
open Go.RowKit
set_option linter.unusedVariables false

theorem turn_set {w w' : World} (h : Turn 0 0 w w') {p : Addr} (hp : w.heap.size ≤ p.block) (v : Value) : Turn 0 0 w (w'.setCell p v) := Turn.of_below (h.bel.setCell hp v)
theorem In.sameF {α : Type} {R : Rep α} (hR : R.Fine) {lo hi : Nat} {w w' : World} {v : Value} {x : α} (h : In R lo hi w v x) (he : w'.heap = w.heap) : In R lo hi w' v x := by
  obtain ⟨S, h1, h2⟩ := h
  exact ⟨S, hR.keep h1 fun k hk => by rw [he], h2⟩
theorem In.same {α : Type} {R : Rep α} (hR : R.Ok) {lo hi : Nat} {w w' : World} {v : Value} {x : α} (h : In R lo hi w v x) (he : w'.heap = w.heap) : In R lo hi w' v x := h.sameF hR.fine he
theorem cnt_le_szW2 (x : Wgt) : szW x ≤ szW x := Nat.le_refl _
theorem setCell_size3 (w : World) (p : Addr) (v : Value) : (w.setCell p v).heap.size = w.heap.size := by simp

/-! ### Weighting -/
/-! ### Permuting -/
/-! ### Chain -/
def LocC (lo b : Nat) (w : World) (u p : Value) (x : Chn) : Prop := w.heap[b]? = some (.cells #[.int .i64 x.base, .int .i64 x.states, .int .i64 x.start, .int .i64 x.stop, u, p] 28 (0, 0)) ∧ In OC lo b w (aggC x u p) x ∧ lo ≤ b
theorem LocC.keep {lo b a c : Nat} {w w' : World} {u p : Value} {x : Chn} (h : LocC lo b w u p x) (t : Turn a c w w') (hd : c ≤ lo ∨ b + 1 ≤ a) : LocC lo b w' u p x :=
  ⟨(t.block b (Array.getElem?_eq_some_iff.1 h.1).1 (by have := h.2.2; omega)).trans h.1, h.2.1.keepF OC.ok t (by omega), h.2.2⟩
theorem LocC.lt {lo b : Nat} {w : World} {u p : Value} {x : Chn} (h : LocC lo b w u p x) : b < w.heap.size := (Array.getElem?_eq_some_iff.1 h.1).1
theorem LocC.cells {lo b : Nat} {w : World} {u p : Value} {x : Chn} (h : LocC lo b w u p x) : w.cell? ⟨b, 0, none⟩ = some (.int .i64 x.base) ∧ w.cell? ⟨b, 1, none⟩ = some (.int .i64 x.states) ∧ w.cell? ⟨b, 2, none⟩ = some (.int .i64 x.start) ∧ w.cell? ⟨b, 3, none⟩ = some (.int .i64 x.stop) ∧ w.cell? ⟨b, 4, none⟩ = some (u) ∧ w.cell? ⟨b, 5, none⟩ = some (p) :=
  ⟨heap_cell h.1 rfl, heap_cell h.1 rfl, heap_cell h.1 rfl, heap_cell h.1 rfl, heap_cell h.1 rfl, heap_cell h.1 rfl⟩
theorem LocC.turn {lo b : Nat} {w w' : World} {u p : Value} {x : Chn} {k : Int} (h : LocC lo b w u p x) (t : Turn lo b w w') (h2 : In OC lo b w' (aggC x u p) (mkC k x)) : LocC lo b w' u p (mkC k x) :=
  ⟨(t.block b h.lt (.inr (Nat.le_refl _))).trans h.1, h2, h.2.2⟩
theorem LocC.made {lo : Nat} {w : World} {u p : Value} {x : Chn} (h : In OC lo w.heap.size w (aggC x u p) x) (hlo : lo ≤ w.heap.size) :
    LocC lo w.heap.size (w.alloc (.cells #[.int .i64 x.base, .int .i64 x.states, .int .i64 x.start, .int .i64 x.stop, u, p] 28)) u p x ∧ Turn 0 0 w (w.alloc (.cells #[.int .i64 x.base, .int .i64 x.states, .int .i64 x.start, .int .i64 x.stop, u, p] 28)) := by
  have t := Turn.of_below ((Below.refl w.heap.size w).alloc (Nat.le_refl _) (.cells #[.int .i64 x.base, .int .i64 x.states, .int .i64 x.start, .int .i64 x.stop, u, p] 28))
  exact ⟨⟨heap_alloc_new w _, h.keepF OC.ok t (by omega), hlo⟩, t⟩
def ParC (B b : Nat) (w : World) (u p : Value) (x : Chn) : Prop := w.heap[b]? = some (.cells #[.int .i64 x.base, .int .i64 x.states, .int .i64 x.start, .int .i64 x.stop, u, p] 25 (0, 0)) ∧ RdC (· < B) w (aggC x u p) x ∧ B ≤ b
/-- Type 25. -/
theorem ParC.keep {B b a c : Nat} {w w' : World} {u p : Value} {x : Chn} (h : ParC B b w u p x) (t : Turn a c w w') (hd : c = 0 ∨ b + 1 ≤ a) : ParC B b w' u p x :=
  ⟨(t.block b (Array.getElem?_eq_some_iff.1 h.1).1 (by omega)).trans h.1, rd_turn RdC.ok h.2.1 t (by have := h.2.2; omega) (by have := h.2.2; have := (Array.getElem?_eq_some_iff.1 h.1).1; omega), h.2.2⟩
/-- Type 25. -/
theorem ParC.cells {B b : Nat} {w : World} {u p : Value} {x : Chn} (h : ParC B b w u p x) : w.cell? ⟨b, 0, none⟩ = some (.int .i64 x.base) ∧ w.cell? ⟨b, 1, none⟩ = some (.int .i64 x.states) ∧ w.cell? ⟨b, 2, none⟩ = some (.int .i64 x.start) ∧ w.cell? ⟨b, 3, none⟩ = some (.int .i64 x.stop) ∧ w.cell? ⟨b, 4, none⟩ = some (u) ∧ w.cell? ⟨b, 5, none⟩ = some (p) :=
  ⟨heap_cell h.1 rfl, heap_cell h.1 rfl, heap_cell h.1 rfl, heap_cell h.1 rfl, heap_cell h.1 rfl, heap_cell h.1 rfl⟩
end Go.Proofs.Ytcjmkiedcmlpcaa
