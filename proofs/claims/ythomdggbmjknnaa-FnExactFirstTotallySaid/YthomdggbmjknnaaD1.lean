/- Validity of chains, walked: impl. -/
import Derived.Test.YthomdggbmjknnaaS1
import Derived.Test.YthomdggbmjknnaaV2
import Derived.Test.YthomdggbmjknnaaW1
import Derived.Test.YthomdggbmjknnaaF1
namespace Go.Proofs.Ythomdggbmjknnaa
open Go.RowKit
set_option linter.unusedVariables false

theorem headC_no {x : Chn} (h : headC x = false) : vC x = false := by simp [vC, h]
theorem vC_tab_no {x : Chn} {k : Nat} (hk : k < x.tables.length) (h : tabIn x.states x.base (nth x.tables k) = false) : vC x = false := by
  have : tabsC x = false := allB_no hk h
  simp [vC, this]
theorem tabIn_len_no {states base : Int} {t : List (List Int)} (h : ¬ (t.length : Int) = states) : tabIn states base t = false := by simp [tabIn, h]
theorem tabIn_row_no {states base : Int} {t : List (List Int)} {j : Nat} (hj : j < t.length) (h : rowIn states base (nth t j) = false) : tabIn states base t = false := by
  have : allB t.length (fun y => rowIn states base (nth t y)) = false := allB_no hj h
  simp [tabIn, this]
theorem tabIn_yes {states base : Int} {t : List (List Int)} (h : (t.length : Int) = states) (h2 : allB t.length (fun y => rowIn states base (nth t y)) = true) : tabIn states base t = true := by simp [tabIn, h, h2]
theorem rowIn_len_no {states base : Int} {r : List Int} (h : ¬ (r.length : Int) = base) : rowIn states base r = false := by simp [rowIn, h]
theorem rowIn_all {states base : Int} {r : List Int} {b : Bool} (h : (r.length : Int) = base) (h2 : allIn r 0 (states - 1) = b) : rowIn states base r = b := by simp [rowIn, h, h2]
theorem Rd.row {α : Type} [Inhabited α] {R : RRep α} {P : Nat → Prop} {w : World} {a : Option Addr} {n c : Nat} {t : List (List α)} (h : Rd (Rd R) P w (.slice a n c) t) {x : Nat} (hx : x < t.length) :
    ∃ b o a1 c1, a = some ⟨b, o, none⟩ ∧ P b ∧ w.cell? ⟨b, o + x, none⟩ = some (.slice a1 (nth t x).length c1) ∧ (nth t x).length ≤ c1 ∧ c1 ≤ maxLen ∧ Rd R P w (.slice a1 (nth t x).length c1) (nth t x) := by
  obtain ⟨b, o, u, e, hP, hc, hu⟩ := Rd.elim h x hx
  obtain ⟨a1, c1, rfl, g1, g2⟩ := hu.isSlice
  exact ⟨b, o, a1, c1, e, hP, hc, g1, g2, hu⟩

end Go.Proofs.Ythomdggbmjknnaa
