/- PermutingOf: impl. -/
import Derived.Test.YtnpkanlieflbiaaN3
import Derived.Test.YtnpkanlieflbiaaF2
import Derived.Test.YtnpkanlieflbiaaV5
import Derived.Test.YtnpkanlieflbiaaS4
namespace Go.Proofs.Ytnpkanlieflbiaa
open Go.RowKit
set_option linter.unusedVariables false

/-- The first k are turned into remainders. -/
def redTo (m : Int) (l : List Int) (k : Nat) : List Int := (l.take k).map (fun z => z % m) ++ l.drop k
theorem redTo_len (m : Int) (l : List Int) (k : Nat) : (redTo m l k).length = l.length := by simp [redTo]; omega
theorem redTo_nth (m : Int) (l : List Int) {k i : Nat} (hk : k ≤ l.length) (hi : i < l.length) : nth (redTo m l k) i = if i < k then nth l i % m else nth l i := by
  unfold redTo
  by_cases h : i < k
  · rw [nth_append_left (by simp; omega), nth_map (by simp; omega), nth_take h, if_pos h]
  · rw [if_neg h, nth_eq (by simp; omega), nth_eq hi, List.getElem_append_right (by simp; omega)]
    simp only [List.length_map, List.length_take, List.getElem_drop]
    congr 1
    omega
theorem redTo_step {m : Int} {l : List Int} {k : Nat} (h : k < l.length) : (redTo m l k).set k (nth l k % m) = redTo m l (k + 1) := by
  refine ext_nth (by rw [List.length_set, redTo_len, redTo_len]) fun i hi => ?_
  rw [List.length_set, redTo_len] at hi
  rw [nth_set (by rw [redTo_len]; exact h), redTo_nth m l (by omega) hi, redTo_nth m l (by omega) hi]
  by_cases e : k = i
  · subst e; rw [if_pos rfl, if_pos (by omega)]
  · rw [if_neg e]
    by_cases e2 : i < k
    · rw [if_pos e2, if_pos (by omega)]
    · rw [if_neg e2, if_neg (by omega)]
theorem redTo_all (b : Nat) (m : Int) (wt : Int) (n : Nat) (hn : (n : Int) = m) : redTo m (weighL b wt) b = addsL b n wt := by
  unfold redTo
  rw [List.take_of_length_le (by rw [weighL_len]; omega), List.drop_of_length_le (by rw [weighL_len]; omega), List.append_nil]
  unfold weighL addsL
  rw [List.map_map, hn]
  rfl

def Prm.zero : Prm := ⟨0, 0, []⟩
def pofW (x : Wgt) : Prm := ⟨x.base, x.target, x.weights.map (addsL x.base.toNat x.base.toNat)⟩
def pofOk (x : Wgt) : Bool := vW x && (decide (x.modulus = x.base) && vP (pofW x))
def pofV (x : Wgt) : Prm := if pofOk x then pofW x else Prm.zero
theorem pofV_no {x : Wgt} (h : pofOk x = false) : pofV x = Prm.zero := by simp [pofV, h]
theorem pofV_yes {x : Wgt} (h : pofOk x = true) : pofV x = pofW x := by simp [pofV, h]
theorem szP_pofW (x : Wgt) (hb : x.base ≤ 36) (hn : x.weights.length ≤ 20) : szP (pofW x) ≤ 2000 := by
  have h : ∀ (L : List Int), cntL List.length (L.map (addsL x.base.toNat x.base.toNat)) ≤ L.length * 36 := fun L => by
    induction L with
    | nil => simp [cntL]
    | cons a L ih =>
      have hl := addsL_len x.base.toNat x.base.toNat a
      simp [cntL] at ih ⊢
      omega
  have h2 := h x.weights
  have h3 := Nat.mul_le_mul_right 36 hn
  show (x.weights.map (addsL x.base.toNat x.base.toNat)).length + cntL List.length (x.weights.map (addsL x.base.toNat x.base.toNat)) ≤ 2000
  rw [List.length_map]
  omega

theorem Only.heap {S : List Nat} {w w1 : World} (h : Only S w w1) {k : Nat} {o : Obj} (hk : w.heap[k]? = some o) (hS : k ∉ S) : w1.heap[k]? = some o := (h.block k (Array.getElem?_eq_some_iff.1 hk).1 hS).trans hk

end Go.Proofs.Ytnpkanlieflbiaa
