/- A chain in a box of its own, the box before or behind the chain's own memory. -/
import Derived.Test.YtnpkanlieflbiaaT5
import Derived.Test.YtnpkanlieflbiaaS1
import Derived.Test.YtnpkanlieflbiaaT3
namespace Go.Proofs.Ytnpkanlieflbiaa
open Go.RowKit
set_option linter.unusedVariables false

def LocR (lo hi b : Nat) (w : World) (u p : Value) (x : Chn) : Prop := w.heap[b]? = some (.cells #[.int .i64 x.base, .int .i64 x.states, .int .i64 x.start, .int .i64 x.stop, u, p] 28 (0, 0)) ∧ In OC lo hi w (aggC x u p) x ∧ (lo ≤ b ∧ b < hi)
theorem LocR.keep {lo hi b a c : Nat} {w w' : World} {u p : Value} {x : Chn} (h : LocR lo hi b w u p x) (t : Turn a c w w') (hd : c ≤ lo ∨ hi ≤ a) : LocR lo hi b w' u p x :=
  ⟨(t.block b (Array.getElem?_eq_some_iff.1 h.1).1 (by have := h.2.2; omega)).trans h.1, h.2.1.keepF OC.ok t hd, h.2.2⟩
theorem LocR.lt {lo hi b : Nat} {w : World} {u p : Value} {x : Chn} (h : LocR lo hi b w u p x) : b < w.heap.size := (Array.getElem?_eq_some_iff.1 h.1).1
theorem LocR.cells {lo hi b : Nat} {w : World} {u p : Value} {x : Chn} (h : LocR lo hi b w u p x) : w.cell? ⟨b, 0, none⟩ = some (.int .i64 x.base) ∧ w.cell? ⟨b, 1, none⟩ = some (.int .i64 x.states) ∧ w.cell? ⟨b, 2, none⟩ = some (.int .i64 x.start) ∧ w.cell? ⟨b, 3, none⟩ = some (.int .i64 x.stop) ∧ w.cell? ⟨b, 4, none⟩ = some u ∧ w.cell? ⟨b, 5, none⟩ = some p :=
  ⟨heap_cell h.1 (i := 0) rfl, heap_cell h.1 (i := 1) rfl, heap_cell h.1 (i := 2) rfl, heap_cell h.1 (i := 3) rfl, heap_cell h.1 (i := 4) rfl, heap_cell h.1 (i := 5) rfl⟩
/-- Made: the value since W, the box wherever. -/
theorem LocR.made {pw W w6 wx : World} {u p : Value} {x : Chn} {b : Nat} (hf : Fresh OC W w6 (.agg #[.int .i64 x.base, .int .i64 x.states, .int .i64 x.start, .int .i64 x.stop, u, p]) x) (h1 : pw.heap.size ≤ W.heap.size) (hb : pw.heap.size ≤ b) (hbx : wx.heap[b]? = some (.cells #[.int .i64 x.base, .int .i64 x.states, .int .i64 x.start, .int .i64 x.stop, u, p] 28 (0, 0)))
    (hbo : b < W.heap.size ∨ w6.heap.size ≤ b) (hk : ∀ k, W.heap.size ≤ k → k < w6.heap.size → wx.heap[k]? = w6.heap[k]?) (hz : w6.heap.size ≤ wx.heap.size) : LocR pw.heap.size wx.heap.size b wx u p x := by
  obtain ⟨S, hS, hS2, hbl⟩ := hf
  have hlt := OC.ok.lt hS
  exact ⟨hbx, ⟨S, OC.ok.keep hS fun k hm => hk k (hS2 k hm) (hlt k hm), fun k hm => by have := hS2 k hm; have := hlt k hm; omega⟩, hb, heap_lt hbx⟩
theorem LocR.last {pw W wC : World} {u p : Value} {x : Chn} (hf : Fresh OC W wC (.agg #[.int .i64 x.base, .int .i64 x.states, .int .i64 x.start, .int .i64 x.stop, u, p]) x) (hp : Below pw.heap.size pw wC) (h1 : pw.heap.size ≤ W.heap.size) :
    LocR pw.heap.size (wC.alloc (.cells #[.int .i64 x.base, .int .i64 x.states, .int .i64 x.start, .int .i64 x.stop, u, p] 28)).heap.size wC.heap.size (wC.alloc (.cells #[.int .i64 x.base, .int .i64 x.states, .int .i64 x.start, .int .i64 x.stop, u, p] 28)) u p x ∧
      Turn 0 0 pw (wC.alloc (.cells #[.int .i64 x.base, .int .i64 x.states, .int .i64 x.start, .int .i64 x.stop, u, p] 28)) :=
  ⟨LocR.made hf h1 hp.size (heap_alloc_new wC _) (.inr (Nat.le_refl _)) (fun k _ hk => alloc_old hk) (by simp), Turn.of_below (hp.alloc hp.size _)⟩
theorem LocR.first {pw W wC : World} {u p : Value} {x : Chn} {b : Nat} (hf : Fresh OC W wC (.agg #[.int .i64 x.base, .int .i64 x.states, .int .i64 x.start, .int .i64 x.stop, u, p]) x) (hp : Below pw.heap.size pw wC) (h1 : pw.heap.size ≤ W.heap.size) (hb : pw.heap.size ≤ b) (hbW : b < W.heap.size) {v0 v1 v2 v3 v4 v5 : Value} (hz : wC.heap[b]? = some (.cells #[v0, v1, v2, v3, v4, v5] 28 (0, 0))) :
    LocR pw.heap.size ((((((wC.setCell ⟨b, 0, none⟩ (.int .i64 x.base)).setCell ⟨b, 1, none⟩ (.int .i64 x.states)).setCell ⟨b, 2, none⟩ (.int .i64 x.start)).setCell ⟨b, 3, none⟩ (.int .i64 x.stop)).setCell ⟨b, 4, none⟩ u).setCell ⟨b, 5, none⟩ p).heap.size b
      ((((((wC.setCell ⟨b, 0, none⟩ (.int .i64 x.base)).setCell ⟨b, 1, none⟩ (.int .i64 x.states)).setCell ⟨b, 2, none⟩ (.int .i64 x.start)).setCell ⟨b, 3, none⟩ (.int .i64 x.stop)).setCell ⟨b, 4, none⟩ u).setCell ⟨b, 5, none⟩ p) u p x ∧
      Turn 0 0 pw ((((((wC.setCell ⟨b, 0, none⟩ (.int .i64 x.base)).setCell ⟨b, 1, none⟩ (.int .i64 x.states)).setCell ⟨b, 2, none⟩ (.int .i64 x.start)).setCell ⟨b, 3, none⟩ (.int .i64 x.stop)).setCell ⟨b, 4, none⟩ u).setCell ⟨b, 5, none⟩ p) :=
  ⟨LocR.made hf h1 hb (six_at hz _ _ _ _ _ _) (.inl hbW) (fun k hk _ => six_old (by omega) _ _ _ _ _ _) (by simp), Turn.of_below ((((((hp.setCell hb _).setCell hb _).setCell hb _).setCell hb _).setCell hb _).setCell hb _)⟩
end Go.Proofs.Ytnpkanlieflbiaa
