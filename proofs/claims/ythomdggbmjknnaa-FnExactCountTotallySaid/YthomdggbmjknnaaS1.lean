/- The laws' small functions over weightings. -/
import Derived.Test.YthomdggbmjknnaaS0
namespace Go.Proofs.Ythomdggbmjknnaa
open Go.RowKit
set_option linter.unusedVariables false

theorem bcell {W w1 : World} (hb : Below W.heap.size W w1) : (∀ b o, b < W.heap.size → w1.cell? ⟨b, o, none⟩ = W.cell? ⟨b, o, none⟩) ∧ (∀ b o, b < W.heap.size → w1.frozen? ⟨b, o, none⟩ = W.frozen? ⟨b, o, none⟩) :=
  ⟨fun b o h => hb.cell (p := ⟨b, o, none⟩) h, fun b o h => hb.frozen (p := ⟨b, o, none⟩) h⟩

theorem keep_set {w : World} {p : Addr} {v : Value} {k : Nat} (h : k ≠ p.block) : (w.setCell p v).heap[k]? = w.heap[k]? := heap_setCell_other w p k v (by simpa using h)

end Go.Proofs.Ythomdggbmjknnaa
/- Boxes of structs that the laws keep: locals of their own, and parameters. Printed by gen_s2.py. -/
namespace Go.Proofs.Ythomdggbmjknnaa
open Go.RowKit
set_option linter.unusedVariables false

theorem turn_set {w w' : World} (h : Turn 0 0 w w') {p : Addr} (hp : w.heap.size ≤ p.block) (v : Value) : Turn 0 0 w (w'.setCell p v) := Turn.of_below (h.bel.setCell hp v)
theorem In.sameF {α : Type} {R : Rep α} (hR : R.Fine) {lo hi : Nat} {w w' : World} {v : Value} {x : α} (h : In R lo hi w v x) (he : w'.heap = w.heap) : In R lo hi w' v x := by
  obtain ⟨S, h1, h2⟩ := h
  exact ⟨S, hR.keep h1 fun k hk => by rw [he], h2⟩
theorem In.same {α : Type} {R : Rep α} (hR : R.Ok) {lo hi : Nat} {w w' : World} {v : Value} {x : α} (h : In R lo hi w v x) (he : w'.heap = w.heap) : In R lo hi w' v x := h.sameF hR.fine he
theorem cnt_le_szW2 (x : Wgt) : szW x ≤ szW x := Nat.le_refl _
theorem setCell_size3 (w : World) (p : Addr) (v : Value) : (w.setCell p v).heap.size = w.heap.size := by simp

/-! ### Weighting -/
/-! ### Permuting -/
/-! ### Chain -/
end Go.Proofs.Ythomdggbmjknnaa
/- The laws' small functions over chains. -/
namespace Go.Proofs.Ythomdggbmjknnaa
open Go.RowKit
set_option linter.unusedVariables false

end Go.Proofs.Ythomdggbmjknnaa
/- The laws' small functions over permutings. -/
namespace Go.Proofs.Ythomdggbmjknnaa
open Go.RowKit
set_option linter.unusedVariables false

theorem cnt_le_szP (x : Prm) : cntP x ≤ szP x := cnt_le_sz2 x.orders
end Go.Proofs.Ythomdggbmjknnaa
