/- The word of a rank, plainly. Nothing here walks. -/
import Derived.Test.YtnpkanlieflbiaaC1
namespace Go.Proofs.Ytnpkanlieflbiaa
open Go.RowKit
set_option linter.unusedVariables false

/-- The first of n numbers from d on whose f outgrows what is left of r. -/
def pickD (f : Nat → Nat) : Nat → Nat → Nat → Nat × Nat
  | 0, d, r => (d, r)
  | n + 1, d, r => if r < f d then (d, r) else pickD f n (d + 1) (r - f d)
def restS (f : Nat → Nat) (d n : Nat) : Nat := sumN n fun j => f (d + j)
theorem sumN_shift (f : Nat → Nat) : ∀ n, sumN (n + 1) f = f 0 + sumN n fun j => f (j + 1)
  | 0 => by simp [sumN]
  | n + 1 => by rw [sumN_succ, sumN_shift f n, sumN_succ]; omega
theorem restS_succ (f : Nat → Nat) (d n : Nat) : restS f d (n + 1) = f d + restS f (d + 1) n := by
  unfold restS
  rw [sumN_shift]
  simp only [Nat.add_zero]
  congr 2
  funext j
  congr 1; omega
theorem pickD_ok (f : Nat → Nat) : ∀ n d r, r < restS f d n → d ≤ (pickD f n d r).1 ∧ (pickD f n d r).1 < d + n ∧ (pickD f n d r).2 < f (pickD f n d r).1
  | 0, d, r, h => by simp [restS, sumN] at h
  | n + 1, d, r, h => by
    rw [restS_succ] at h
    unfold pickD
    split
    · rename_i h1
      exact ⟨Nat.le_refl _, by omega, h1⟩
    · have := pickD_ok f n (d + 1) (r - f d) (by omega)
      omega
theorem pickD_go {f : Nat → Nat} {b d r : Nat} (hd : d < b) (h : ¬ r < f d) : pickD f (b - d) d r = pickD f (b - (d + 1)) (d + 1) (r - f d) := by
  rw [show b - d = (b - (d + 1)) + 1 by omega, pickD, if_neg h]
theorem pickD_stop {f : Nat → Nat} {b d r : Nat} (hd : d < b) (h : r < f d) : pickD f (b - d) d r = (d, r) := by
  rw [show b - d = (b - (d + 1)) + 1 by omega, pickD, if_pos h]
theorem restS_go {f : Nat → Nat} {b d r : Nat} (hd : d < b) (hr : r < restS f d (b - d)) (h : ¬ r < f d) : r - f d < restS f (d + 1) (b - (d + 1)) := by
  rw [show b - d = (b - (d + 1)) + 1 by omega, restS_succ] at hr
  omega
theorem restS_lt {f : Nat → Nat} {b d r : Nat} (hr : r < restS f d (b - d)) : d < b := by
  rcases Nat.lt_or_ge d b with h | h
  · exact h
  · rw [show b - d = 0 by omega] at hr; simp [restS, sumN] at hr

/-- How many words lie behind the symbol d at place k in state s. -/
def behind (x : Chn) (k s d : Nat) : Nat := endsV x (k + 1) (nxt x k s d)
def wordTo (x : Chn) (R : Nat) : Nat → List Int × Nat × Nat
  | 0 => ([], x.start.toNat, R)
  | k + 1 => ((wordTo x R k).1 ++ [((pickD (behind x k (wordTo x R k).2.1) x.b 0 (wordTo x R k).2.2).1 : Int)], nxt x k (wordTo x R k).2.1 (pickD (behind x k (wordTo x R k).2.1) x.b 0 (wordTo x R k).2.2).1,
      (pickD (behind x k (wordTo x R k).2.1) x.b 0 (wordTo x R k).2.2).2)
def wordG (x : Chn) (R : Nat) : List Int := (wordTo x R x.n).1
structure WordInv (x : Chn) (k : Nat) (t : List Int × Nat × Nat) : Prop where
  len : t.1.length = k
  state : t.2.1 < x.S
  rank : t.2.2 < endsV x k t.2.1
  sym : ∀ i, i < k → 0 ≤ nth t.1 i ∧ nth t.1 i < x.b
theorem behind_rest {x : Chn} {k s : Nat} (hk : k < x.n) : restS (behind x k s) 0 x.b = endsV x k s := by
  rw [endsV_step x hk]
  unfold restS behind
  simp only [Nat.zero_add]
theorem wordTo_inv {x : Chn} (hv : VC x) {R : Nat} (hR : R < endsV x 0 x.start.toNat) : ∀ k, k ≤ x.n → WordInv x k (wordTo x R k)
  | 0, _ => ⟨rfl, hv.nat.2.2.1, hR, fun i hi => absurd hi (Nat.not_lt_zero i)⟩
  | k + 1, hk => by
    have ih := wordTo_inv hv hR k (by omega)
    have hp := pickD_ok (behind x k (wordTo x R k).2.1) x.b 0 (wordTo x R k).2.2 (by rw [behind_rest (by omega)]; exact ih.rank)
    refine ⟨by simp [wordTo, ih.len], ?_, hp.2.2, fun i hi => ?_⟩
    · exact (hv.cellN (by omega) ih.state (by omega)).2
    · show 0 ≤ nth ((wordTo x R k).1 ++ [_]) i ∧ _
      by_cases h : i < k
      · have e : nth ((wordTo x R k).1 ++ [((pickD (behind x k (wordTo x R k).2.1) x.b 0 (wordTo x R k).2.2).1 : Int)]) i = nth (wordTo x R k).1 i := by
          rw [nth_eq (by simp [ih.len]; omega), nth_eq (by rw [ih.len]; exact h), List.getElem_append_left]
        simp only [wordTo]
        rw [e]
        exact ih.sym i h
      · obtain rfl : i = k := by omega
        have e : nth ((wordTo x R i).1 ++ [((pickD (behind x i (wordTo x R i).2.1) x.b 0 (wordTo x R i).2.2).1 : Int)]) i = ((pickD (behind x i (wordTo x R i).2.1) x.b 0 (wordTo x R i).2.2).1 : Int) := by
          rw [nth_eq (by simp [ih.len]), List.getElem_append_right (by rw [ih.len]; exact Nat.le_refl _)]
          simp
        simp only [wordTo]
        rw [e]
        omega
end Go.Proofs.Ytnpkanlieflbiaa
