/- Weightings turned round, and times a number. -/
import Derived.Test.YtnpkanlieflbiaaV3
import Derived.Test.YtnpkanlieflbiaaF2
import Derived.Test.YtnpkanlieflbiaaO2
import Derived.Test.YtnpkanlieflbiaaS1
import Derived.RegionTactic
import Derived.BigRegion
namespace Go.Proofs.Ytnpkanlieflbiaa
open Go.RowKit
set_option linter.unusedVariables false

def Wgt.zero : Wgt := ⟨0, 0, 0, []⟩
def mirW (x : Wgt) : Wgt := ⟨x.base, x.modulus, x.target, x.weights.reverse⟩
def mirV (x : Wgt) : Wgt := if vW x then mirW x else Wgt.zero
theorem mirV_no {x : Wgt} (h : vW x = false) : mirV x = Wgt.zero := by simp [mirV, h]
theorem mirV_yes {x : Wgt} (h : vW x = true) : mirV x = mirW x := by simp [mirV, h]
theorem mirV_sz (x : Wgt) : szW (mirV x) ≤ szW x := by
  unfold mirV
  split
  · simp [mirW, szW]
  · simp [Wgt.zero, szW]
theorem take_reverse {xs : List Int} {k : Nat} (h : k < xs.length) : xs.reverse.take (k + 1) = xs.reverse.take k ++ [nth xs (xs.length - 1 - k)] := by
  rw [take_nth (by simpa using h)]
  congr 2
  rw [nth_eq (by simpa using h), nth_eq (by omega), List.getElem_reverse]

end Go.Proofs.Ytnpkanlieflbiaa
/- slices.Reverse; impl.MirrorWeighting. -/
namespace Go.Proofs.Ytnpkanlieflbiaa
open Go.RowKit
set_option linter.unusedVariables false

def RevTo (xs ys : List Int) (k : Nat) : Prop := ys.length = xs.length ∧ ∀ i, i < xs.length → nth ys i = if i < k ∨ xs.length ≤ i + k then nth xs (xs.length - 1 - i) else nth xs i
theorem RevTo.done {xs ys : List Int} {k : Nat} (h : RevTo xs ys k) (hk : xs.length ≤ 2 * k + 1) : ys = xs.reverse := by
  refine ext_nth (by rw [h.1]; simp) fun i hi => ?_
  rw [h.1] at hi
  have e : nth xs.reverse i = nth xs (xs.length - 1 - i) := by
    rw [nth_eq (by simpa using hi), nth_eq (by omega), List.getElem_reverse]
  rw [h.2 i hi, e]
  split
  · rfl
  · rw [show xs.length - 1 - i = i by omega]
theorem RevTo.step {xs ys : List Int} {k j : Nat} (h : RevTo xs ys k) (hj : j + 1 + k = xs.length) (hk : k < j) : RevTo xs ((ys.set k (nth ys j)).set j (nth ys k)) (k + 1) := by
  have h1 := h.1
  refine ⟨by simp [h1], fun i hi => ?_⟩
  rw [nth_set (by simp; omega), nth_set (by omega)]
  by_cases e1 : j = i
  · subst e1
    rw [if_pos rfl, if_pos (by omega), h.2 k (by omega), if_neg (by omega), show xs.length - 1 - j = k by omega]
  · rw [if_neg e1]
    by_cases e2 : k = i
    · subst e2
      rw [if_pos rfl, if_pos (by omega), h.2 j (by omega), if_neg (by omega), show xs.length - 1 - k = j by omega]
    · rw [if_neg e2, h.2 i hi]
      by_cases e3 : i < k ∨ xs.length ≤ i + k
      · rw [if_pos e3, if_pos (by omega)]
      · rw [if_neg e3, if_neg (by omega)]

/-- Two blocks and what a step left of them. -/
theorem two (w : World) (A Z : Obj) : ((w.alloc A).alloc Z).heap[w.heap.size]? = some A ∧ ((w.alloc A).alloc Z).heap[w.heap.size + 1]? = some Z ∧ ((w.alloc A).alloc Z).heap.size = w.heap.size + 2 ∧ Below w.heap.size w ((w.alloc A).alloc Z) := by
  have s1 := al_size w A
  have s2 := al_size (w.alloc A) Z
  have e1 := heap_alloc_new w A
  have e2 := heap_alloc_new (w.alloc A) Z
  rw [s1] at e2
  exact ⟨(Below.heap_alloc _ Z _ (by omega)).trans e1, e2, by omega, by repeat' (first | with_reducible exact Below.refl _ _ | with_reducible refine Below.alloc ?_ ?_ _ | with_reducible refine Below.setCell ?_ ?_ _ | with_reducible refine Below.drew ?_ | with_reducible refine Below.draws ?_ _ | omega | (simp; done) | (simp; omega))⟩

end Go.Proofs.Ytnpkanlieflbiaa
