/- Places for check symbols: the sums that can be reached, round by round; impl.IsCheckPlace. -/
import Derived.Test.YtnpkanlieflbiaaV6
import Derived.Test.YtnpkanlieflbiaaQ1
import Derived.Test.YtnpkanlieflbiaaV4
import Derived.Deep.QuietTactic
import Derived.BigQuiet
import Derived.IntWalk
namespace Go.Proofs.Ytnpkanlieflbiaa
open Go.RowKit
set_option linter.unusedVariables false

/-! ### Rows of Booleans whose values are told -/
theorem infoBo : (Try.prog.info? 4).map (fun i => (i.zero, i.size, i.bytes)) = some (some (.bool false), 1, 1) := by kernel_rfl
abbrev OBo : Rep (List Bool) := OwnB 4
theorem OBo.ok : OBo.Ok := Own.ok oB.ok
theorem OBo.leads : Leads OBo (Rd rB) := Own.leads leaf.leads
def RowB (n : Nat) (t : List Bool) (f : Nat → Bool) : Prop := t.length = n ∧ ∀ y, y < n → nth t y = f y
theorem RowB.put {n : Nat} {t : List Bool} {f g : Nat → Bool} (h : RowB n t f) {x : Nat} (hx : x < n) {z : Bool} (hz : z = g x) (he : ∀ i, i < n → i ≠ x → g i = f i) : RowB n (t.set x z) g := by
  refine ⟨by rw [List.length_set]; exact h.1, fun y hy => ?_⟩
  rw [nth_set (by rw [h.1]; exact hx)]
  by_cases e : x = y
  · subst e; rw [if_pos rfl, hz]
  · rw [if_neg e, h.2 y hy, he y hy (fun h => e h.symm)]
theorem RowB.congr {n : Nat} {t : List Bool} {f g : Nat → Bool} (h : RowB n t f) (he : ∀ y, y < n → f y = g y) : RowB n t g := ⟨h.1, fun y hy => by rw [h.2 y hy, he y hy]⟩
theorem RowB.off (n : Nat) : RowB n (List.replicate n false) fun _ => false := ⟨by simp, fun y hy => nth_replicate hy⟩

theorem RRep.Ok.rdKeep {α : Type} [Inhabited α] {R : RRep α} (hR : R.Ok) {P : Nat → Prop} {w w' : World} {u : Value} {xs : List α} (h : Rd R P w u xs) (hk : ∀ k, P k → w'.heap[k]? = w.heap[k]?) : Rd R P w' u xs := (Rd.ok hR).keep h hk
/-- What is reached so far: from the sums before s, and from s with the first d symbols. -/
def hopB (x : Wgt) (k s d r : Nat) : Bool := (List.range d).any fun e => decide (((s : Int) + nth x.weights k * e) % x.modulus = r)
def aftB (x : Wgt) (place k s d r : Nat) : Bool := ((List.range s).any fun q => reachB x place k q && hopB x k q x.base.toNat r) || (reachB x place k s && hopB x k s d r)
theorem hopB_zero (x : Wgt) (k s r : Nat) : hopB x k s 0 r = false := rfl
theorem hopB_succ (x : Wgt) (k s d r : Nat) : hopB x k s (d + 1) r = (hopB x k s d r || decide (((s : Int) + nth x.weights k * d) % x.modulus = r)) := by
  unfold hopB; rw [List.range_succ, List.any_append]; simp
theorem aftB_start (x : Wgt) (place k r : Nat) : aftB x place k 0 0 r = false := by simp [aftB, hopB]
theorem aftB_next (x : Wgt) (place k s r : Nat) : aftB x place k s x.base.toNat r = aftB x place k (s + 1) 0 r := by
  unfold aftB; rw [List.range_succ, List.any_append, hopB_zero]; simp
theorem aftB_skip {x : Wgt} {place k s : Nat} (r : Nat) (h : reachB x place k s = false) : aftB x place k s 0 r = aftB x place k (s + 1) 0 r := by
  rw [← aftB_next]; unfold aftB; rw [h]; simp
theorem aftB_succ {x : Wgt} {place k s d : Nat} (r : Nat) (h : reachB x place k s = true) : aftB x place k s (d + 1) r = (aftB x place k s d r || decide (((s : Int) + nth x.weights k * d) % x.modulus = r)) := by
  unfold aftB; rw [hopB_succ, h]; simp [Bool.or_assoc]
theorem aftB_end {x : Wgt} {place k : Nat} (r : Nat) (h : k ≠ place) : aftB x place k x.modulus.toNat 0 r = reachB x place (k + 1) r := by
  unfold aftB
  rw [hopB_zero, Bool.and_false, Bool.or_false]
  show _ = if k = place then _ else _
  rw [if_neg h]; rfl
theorem reachB_skip (x : Wgt) (place r : Nat) : reachB x place (place + 1) r = reachB x place place r := by
  show (if place = place then _ else _) = _
  rw [if_pos rfl]
theorem hitsN_succ (x : Wgt) (place : Nat) (s : Int) (k : Nat) : hitsN x place s (k + 1) = hitsN x place s k + if (s + nth x.weights place * k) % x.modulus = x.target then 1 else 0 := sumN_succ _ _
theorem hitsN_le (x : Wgt) (place : Nat) (s : Int) (k : Nat) : hitsN x place s k ≤ k := by
  have := sumN_le (n := k) (c := 1) (f := fun d => if (s + nth x.weights place * d) % x.modulus = x.target then 1 else 0) fun i _ => by split <;> omega
  unfold hitsN; omega
/-- What a sum and a weight times a digit make. -/
theorem cpFacts {s wt d m : Int} (hs : 0 ≤ s) (hs2 : s < m) (hw : 0 ≤ wt) (hw2 : wt < m) (hd : 0 ≤ d) (hd2 : d ≤ 36) (hm : m ≤ 36) :
    IntKind.i64.wrap (wt * d) = wt * d ∧ IntKind.i64.wrap (s + wt * d) = s + wt * d ∧ Int.tmod (s + wt * d) m = (s + wt * d) % m ∧ 0 ≤ (s + wt * d) % m ∧ (s + wt * d) % m < m ∧ IntKind.i64.wrap ((s + wt * d) % m) = (s + wt * d) % m := by
  have h1 : 0 ≤ wt * d := Int.mul_nonneg hw hd
  have h2 : wt * d ≤ 36 * 36 := Int.mul_le_mul (by omega) (by omega) (by omega) (by omega)
  have h3 := Int.emod_nonneg (s + wt * d) (show m ≠ 0 by omega)
  have h4 := Int.emod_lt_of_pos (s + wt * d) (show 0 < m by omega)
  exact ⟨IntWalk.i64_in _ (by omega), IntWalk.i64_in _ (by omega), Int.tmod_eq_emod_of_nonneg (by omega), h3, h4, IntWalk.i64_in _ (by omega)⟩

end Go.Proofs.Ytnpkanlieflbiaa
