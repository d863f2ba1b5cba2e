/- Quasigroups: whether a table is one, on both sides. -/
import Derived.Test.YtnpkanlieflbiaaO1
namespace Go.Proofs.Ytnpkanlieflbiaa
open Go.RowKit
set_option linter.unusedVariables false

/-! ### All of the first k -/
def allB (k : Nat) (p : Nat → Bool) : Bool := (List.range k).all p
theorem allB_zero (p : Nat → Bool) : allB 0 p = true := rfl
theorem allB_succ (k : Nat) (p : Nat → Bool) : allB (k + 1) p = (allB k p && p k) := by simp [allB, List.range_succ]
theorem allB_more {k : Nat} {p : Nat → Bool} (h : allB k p = true) (h2 : p k = true) : allB (k + 1) p = true := by rw [allB_succ, h, h2]; rfl
theorem allB_iff {k : Nat} {p : Nat → Bool} : allB k p = true ↔ ∀ i, i < k → p i = true := by simp [allB]
theorem allB_no {p : Nat → Bool} {k m : Nat} (hk : k < m) (h : p k = false) : allB m p = false := by
  cases e : allB m p with
  | false => rfl
  | true => rw [allB_iff.1 e k hk] at h; cases h
theorem allB_congr {k : Nat} {p q : Nat → Bool} (h : ∀ i, i < k → p i = q i) : allB k p = allB k q := by
  rw [Bool.eq_iff_iff, allB_iff, allB_iff]
  constructor
  · intro h1 i hi; rw [← h i hi]; exact h1 i hi
  · intro h1 i hi; rw [h i hi]; exact h1 i hi
theorem allB_false {k : Nat} {p : Nat → Bool} (h : allB k p = false) : ∃ i, i < k ∧ p i = false := by
  simp only [allB, List.all_eq_false, List.mem_range] at h
  obtain ⟨i, hi, hp⟩ := h
  exact ⟨i, hi, by simpa using hp⟩
theorem hasI_take_succ {xs : List Int} {k : Nat} (h : k < xs.length) (z : Int) : hasI (xs.take (k + 1)) z = (hasI (xs.take k) z || nth xs k == z) := by
  rw [take_nth h]
  simp only [hasI, List.contains_append, List.contains_cons, List.contains_nil, Bool.or_false]
  congr 1
  rw [Bool.eq_iff_iff]; simp only [beq_iff_eq]; exact eq_comm
theorem ordB_eq (xs : List Int) (n : Int) (k : Nat) : ordB xs n k = allB k fun i => inB (nth xs i) 0 (n - 1) && !hasI (xs.take i) (nth xs i) := rfl

/-! ### What memory keeps -/
theorem Own.other {α : Type} [Inhabited α] {E : TypeId} {R : Rep α} (hR : R.Ok) {w : World} {v : Value} {xs : List α} {S : List Nat} (h : Own E R w v xs S) {g i : Nat} (hg : g ∉ S) (u : Value) : Own E R (w.setCell ⟨g, i, none⟩ u) v xs S :=
  h.keep hR fun k hk => heap_setCell_other w _ k u (fun e => hg (by simp at e; rw [← e]; exact hk))
theorem Own.alloc {α : Type} [Inhabited α] {E : TypeId} {R : Rep α} (hR : R.Ok) {w : World} {v : Value} {xs : List α} {S : List Nat} (h : Own E R w v xs S) (o : Obj) : Own E R (w.alloc o) v xs S :=
  h.keep hR fun k hk => Below.heap_alloc _ _ _ ((Own.ok hR).lt h k hk)
theorem Rd.isSlice {α : Type} [Inhabited α] {R : RRep α} {P : Nat → Prop} {w : World} {v : Value} {xs : List α} (h : Rd R P w v xs) : ∃ a c, v = .slice a xs.length c ∧ xs.length ≤ c ∧ c ≤ maxLen := by
  obtain ⟨a, c, rfl, h1, h2, _⟩ := h
  exact ⟨a, c, rfl, h1, h2⟩
/-- A row of a table. -/
theorem RdII.row {P : Nat → Prop} {w : World} {a : Option Addr} {n c : Nat} {t : List (List Int)} (h : RdII P w (.slice a n c) t) {x : Nat} (hx : x < t.length) :
    ∃ b o a' c', a = some ⟨b, o, none⟩ ∧ P b ∧ w.cell? ⟨b, o + x, none⟩ = some (.slice a' (nth t x).length c') ∧ (nth t x).length ≤ c' ∧ c' ≤ maxLen ∧ RdI P w (.slice a' (nth t x).length c') (nth t x) := by
  obtain ⟨a1, c1, e, h1, h2, hrd⟩ := h
  simp only [Value.slice.injEq] at e
  obtain ⟨rfl, rfl, rfl⟩ := e
  obtain ⟨b, o, u, e1, e2, e3, e4⟩ := hrd x hx
  obtain ⟨a', c', rfl, g1, g2⟩ := e4.isSlice
  exact ⟨b, o, a', c', e1, e2, e3, g1, g2, e4⟩
/-- A cell of a table. -/
theorem RdII.cell {P : Nat → Prop} {w : World} {a : Option Addr} {n c : Nat} {t : List (List Int)} (h : RdII P w (.slice a n c) t) {x y : Nat} (hx : x < t.length) (hy : y < (nth t x).length) :
    ∃ b o b' o' c', a = some ⟨b, o, none⟩ ∧ P b ∧ P b' ∧ w.cell? ⟨b, o + x, none⟩ = some (.slice (some ⟨b', o', none⟩) (nth t x).length c') ∧ w.cell? ⟨b', o' + y, none⟩ = some (.int .i64 (nth (nth t x) y)) ∧ (nth t x).length ≤ c' ∧ c' ≤ maxLen := by
  obtain ⟨b, o, a', c', rfl, hb, hc, g1, g2, hr⟩ := h.row hx
  obtain ⟨a1, c1, e, g3, g4, hrd⟩ := hr
  simp only [Value.slice.injEq] at e
  obtain ⟨rfl, _, rfl⟩ := e
  obtain ⟨b', o', u, rfl, hb', hc', rfl⟩ := hrd y hy
  exact ⟨b, o, b', o', c', rfl, hb, hb', hc, hc', g1, g2⟩

/-! ### Quasigroups -/
def colL (t : List (List Int)) (y : Nat) : List Int := (List.range t.length).map fun i => nth (nth t i) y
theorem colL_length (t : List (List Int)) (y : Nat) : (colL t y).length = t.length := by simp [colL]
theorem nth_colL {t : List (List Int)} {y i : Nat} (h : i < t.length) : nth (colL t y) i = nth (nth t i) y := by
  rw [nth_eq (by rw [colL_length]; exact h)]; simp [colL]
def rowOk (t : List (List Int)) (x : Nat) : Bool := decide ((nth t x).length = t.length) && isOrd (nth t x) 36
def colOk (t : List (List Int)) (y : Nat) : Bool := isOrd (colL t y) 36
def isQ (t : List (List Int)) : Bool := (decide (1 ≤ t.length) && decide (t.length ≤ 36)) && (allB t.length (rowOk t) && allB t.length (colOk t))
def cellQ (t : List (List Int)) (x y : Nat) : Bool := inB (nth (nth t x) y) 0 ((t.length : Int) - 1) && (!hasI ((nth t x).take y) (nth (nth t x) y) && !hasI ((colL t y).take x) (nth (nth t x) y))
def rowQ (t : List (List Int)) (x : Nat) : Bool := decide ((nth t x).length = t.length) && allB t.length (cellQ t x)

theorem isQ_small {t : List (List Int)} (h : ¬ 1 ≤ t.length) : isQ t = false := by simp [isQ, h]
theorem isQ_great {t : List (List Int)} (h : ¬ t.length ≤ 36) : isQ t = false := by simp [isQ, h]
theorem isQ_in {t : List (List Int)} (h : 1 ≤ t.length) (h2 : t.length ≤ 36) : isQ t = (allB t.length (rowOk t) && allB t.length (colOk t)) := by simp [isQ, h, h2]
theorem isQ_row {t : List (List Int)} {x : Nat} (hx : x < t.length) (h : rowOk t x = false) : isQ t = false := by simp [isQ, allB_no hx h]
theorem isQ_col {t : List (List Int)} {x : Nat} (hx : x < t.length) (h : colOk t x = false) : isQ t = false := by simp [isQ, allB_no hx h]
theorem isQ_eq {t : List (List Int)} (h1 : 1 ≤ t.length) (h2 : t.length ≤ 36) : isQ t = allB t.length (rowQ t) := by
  rw [isQ_in h1 h2, Bool.eq_iff_iff, Bool.and_eq_true]
  simp only [allB_iff, rowOk, colOk, rowQ, cellQ, isOrd, ordB_eq, Bool.and_eq_true, decide_eq_true_eq, colL_length, Bool.not_eq_true']
  constructor
  · rintro ⟨hr, hc⟩ x hx
    refine ⟨(hr x hx).1, fun y hy => ?_⟩
    have e := (hr x hx).1
    have h3 := (hr x hx).2.1 y (by omega)
    have h4 := (hc y hy).1 x hx
    rw [nth_colL hx] at h4
    rw [e] at h3
    exact ⟨h3.1, h3.2, h4.2⟩
  · intro h
    refine ⟨fun x hx => ⟨(h x hx).1, fun y hy => ?_, by have := (h x hx).1; omega⟩, fun y hy => ⟨fun x hx => ?_, by omega⟩⟩
    · have e := (h x hx).1
      rw [e] at hy ⊢
      exact ⟨((h x hx).2 y hy).1, ((h x hx).2 y hy).2.1⟩
    · rw [nth_colL hx]
      exact ⟨((h x hx).2 y hy).1, ((h x hx).2 y hy).2.2⟩
/-- What a quasigroup is. -/
theorem isQ_len {t : List (List Int)} (h : isQ t = true) : 1 ≤ t.length ∧ t.length ≤ 36 := by
  simp only [isQ, Bool.and_eq_true, decide_eq_true_eq] at h; exact h.1
theorem isQ_rowLen {t : List (List Int)} (h : isQ t = true) {x : Nat} (hx : x < t.length) : (nth t x).length = t.length := by
  have hl := isQ_len h
  rw [isQ_eq hl.1 hl.2, allB_iff] at h
  have := h x hx
  simp only [rowQ, Bool.and_eq_true, decide_eq_true_eq] at this
  exact this.1
theorem isQ_bd {t : List (List Int)} (h : isQ t = true) {x y : Nat} (hx : x < t.length) (hy : y < t.length) : 0 ≤ nth (nth t x) y ∧ nth (nth t x) y < t.length := by
  have hl := isQ_len h
  rw [isQ_eq hl.1 hl.2, allB_iff] at h
  have := h x hx
  simp only [rowQ, Bool.and_eq_true, decide_eq_true_eq, allB_iff, cellQ] at this
  have := inB_true.1 (this.2 y hy).1
  omega

end Go.Proofs.Ytnpkanlieflbiaa
