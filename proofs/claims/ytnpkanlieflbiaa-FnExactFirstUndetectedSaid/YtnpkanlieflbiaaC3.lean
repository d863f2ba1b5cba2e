/- Grids of numbers, row by row from the last. Nothing here walks. -/
import Derived.Test.YtnpkanlieflbiaaB1
import Derived.Test.YtnpkanlieflbiaaC2
namespace Go.Proofs.Ytnpkanlieflbiaa
open Go.RowKit
set_option linter.unusedVariables false

/-- m rows of r, told by a function. -/
def Grid (m r : Nat) (t : List (List Int)) (f : Nat → Nat → Nat) : Prop := t.length = m ∧ ∀ j, j < m → (nth t j).length = r ∧ ∀ y, y < r → nth (nth t j) y = (f j y : Nat)
def gridL (m r : Nat) (f : Nat → Nat → Nat) : List (List Int) := (List.range m).map fun j => (List.range r).map fun y => (f j y : Int)
theorem Grid.congr {m r : Nat} {t : List (List Int)} {f g : Nat → Nat → Nat} (h : Grid m r t f) (he : ∀ j y, j < m → y < r → f j y = g j y) : Grid m r t g :=
  ⟨h.1, fun j hj => ⟨(h.2 j hj).1, fun y hy => by rw [(h.2 j hj).2 y hy, he j y hj hy]⟩⟩
theorem Grid.eq {m r : Nat} {t : List (List Int)} {f : Nat → Nat → Nat} (h : Grid m r t f) : t = gridL m r f := by
  refine ext_nth (by rw [h.1]; simp [gridL]) fun j hj => ?_
  rw [h.1] at hj
  have e : nth (gridL m r f) j = (List.range r).map fun y => (f j y : Int) := by rw [gridL, nth_range_map hj]
  rw [e]
  refine ext_nth (by rw [(h.2 j hj).1]; simp) fun y hy => ?_
  rw [(h.2 j hj).1] at hy
  rw [(h.2 j hj).2 y hy, nth_range_map hy]
theorem gridL_grid (m r : Nat) (f : Nat → Nat → Nat) : Grid m r (gridL m r f) f := by
  refine ⟨by simp [gridL], fun j hj => ?_⟩
  have e : nth (gridL m r f) j = (List.range r).map fun y => (f j y : Int) := by rw [gridL, nth_range_map hj]
  rw [e]
  exact ⟨by simp, fun y hy => nth_range_map hy⟩
theorem Grid.zeros (m r : Nat) : Grid m r (List.replicate m (List.replicate r 0)) fun _ _ => 0 :=
  ⟨by simp, fun j hj => by rw [nth_replicate hj]; exact ⟨by simp, fun y hy => by rw [nth_replicate hy]; rfl⟩⟩
theorem Grid.put {m r : Nat} {t : List (List Int)} {f g : Nat → Nat → Nat} (h : Grid m r t f) {x y : Nat} (hx : x < m) (hy : y < r) {z : Int} (hz : z = (g x y : Nat)) (he : ∀ i j, i < m → j < r → ¬ (i = x ∧ j = y) → g i j = f i j) : Grid m r (set2 t x y z) g := by
  refine ⟨by rw [set2, List.length_set]; exact h.1, fun i hi => ?_⟩
  rw [set2, nth_set (by rw [h.1]; exact hx)]
  by_cases e : x = i
  · subst e
    rw [if_pos rfl]
    refine ⟨by rw [List.length_set]; exact (h.2 x hx).1, fun j hj => ?_⟩
    rw [nth_set (by rw [(h.2 x hx).1]; exact hy)]
    by_cases e2 : y = j
    · subst e2; rw [if_pos rfl, hz]
    · rw [if_neg e2, (h.2 x hx).2 j hj, he x j hx hj fun e3 => e2 e3.2.symm]
  · rw [if_neg e]
    exact ⟨(h.2 i hi).1, fun j hj => by rw [(h.2 i hi).2 j hj, he i j hi hj fun e3 => e e3.1.symm]⟩

/-- Rows from c on are told, the others are 0. -/
def rowsF (f : Nat → Nat → Nat) (c j y : Nat) : Nat := if c ≤ j then f j y else 0
/-- In row k the first s are told, number s holds a part. -/
def midF (f : Nat → Nat → Nat) (k s part j y : Nat) : Nat := if k < j then f j y else if j = k then (if y < s then f k y else if y = s then part else 0) else 0
theorem midF_start (f : Nat → Nat → Nat) (k j y : Nat) : rowsF f (k + 1) j y = midF f k 0 0 j y := by
  unfold rowsF midF
  by_cases h : k < j
  · rw [if_pos (by omega), if_pos h]
  · rw [if_neg (by omega), if_neg h]
    split
    · rw [if_neg (by omega)]; split <;> rfl
    · rfl
theorem midF_next (f : Nat → Nat → Nat) (k s j y : Nat) : midF f k s (f k s) j y = midF f k (s + 1) 0 j y := by
  unfold midF
  by_cases h : k < j
  · rw [if_pos h, if_pos h]
  · rw [if_neg h, if_neg h]
    by_cases e : j = k
    · rw [if_pos e, if_pos e]
      by_cases h1 : y < s
      · rw [if_pos h1, if_pos (by omega)]
      · rw [if_neg h1]
        by_cases h2 : y = s
        · rw [if_pos h2, if_pos (by omega), h2]
        · rw [if_neg h2, if_neg (by omega)]
          split <;> rfl
    · rw [if_neg e, if_neg e]
theorem midF_end (f : Nat → Nat → Nat) (k r j y : Nat) (hy : y < r) : midF f k r 0 j y = rowsF f k j y := by
  unfold rowsF midF
  by_cases h : k < j
  · rw [if_pos h, if_pos (by omega)]
  · rw [if_neg h]
    by_cases e : j = k
    · subst e; rw [if_pos rfl, if_pos hy, if_pos (Nat.le_refl _)]
    · rw [if_neg e, if_neg (by omega)]
theorem midF_at (f : Nat → Nat → Nat) (k s p : Nat) : midF f k s p k s = p := by unfold midF; rw [if_neg (Nat.lt_irrefl _), if_pos rfl, if_neg (Nat.lt_irrefl _), if_pos rfl]
theorem midF_below (f : Nat → Nat → Nat) (k s p y : Nat) : midF f k s p (k + 1) y = f (k + 1) y := by unfold midF; rw [if_pos (by omega)]
theorem midF_other (f : Nat → Nat → Nat) (k s p q i j : Nat) (h : ¬ (i = k ∧ j = s)) : midF f k s p i j = midF f k s q i j := by
  unfold midF
  by_cases h1 : k < i
  · rw [if_pos h1, if_pos h1]
  · rw [if_neg h1, if_neg h1]
    by_cases h2 : i = k
    · rw [if_pos h2, if_pos h2]
      split
      · rfl
      · rw [if_neg (fun e => h ⟨h2, e⟩), if_neg (fun e => h ⟨h2, e⟩)]
    · rw [if_neg h2, if_neg h2]

/-- The numbers of words from each place and state on. -/
def endsG (x : Chn) : List (List Int) := gridL (x.n + 1) x.S (endsV x)
def endP (x : Chn) (k s d : Nat) : Nat := sumN d fun e => endsV x (k + 1) (nxt x k s e)
theorem endP_zero (x : Chn) (k s : Nat) : endP x k s 0 = 0 := rfl
theorem endP_succ (x : Chn) (k s d : Nat) : endP x k s (d + 1) = endP x k s d + endsV x (k + 1) (nxt x k s d) := sumN_succ _ _
theorem endP_all (x : Chn) {k : Nat} (hk : k < x.n) (s : Nat) : endP x k s x.b = endsV x k s := (endsV_step x hk s).symm
theorem VC.endPle {x : Chn} (h : VC x) {k : Nat} (hk : k < x.n) (s : Nat) {d : Nat} (hd : d ≤ x.b) : endP x k s d ≤ 1000000000000000 := by
  have h1 := sumN_part (fun e => endsV x (k + 1) (nxt x k s e)) hd
  have h2 := endP_all x hk s
  have h3 := h.endsLe (k := k) s
  unfold endP at h2 ⊢
  omega
theorem ends_start (x : Chn) (j y : Nat) (hj : j < x.n + 1) : (if j = x.n ∧ y = x.stop.toNat then 1 else 0) = rowsF (endsV x) x.n j y := by
  unfold rowsF
  by_cases h : x.n ≤ j
  · obtain rfl : j = x.n := by omega
    rw [if_pos h, endsV_last]; simp
  · rw [if_neg h, if_neg (fun e => h (by omega))]
end Go.Proofs.Ytnpkanlieflbiaa
