/- Slices of the call's own, written in place. -/
import Derived.Test.YtmgfbmpiaanhkaaH2
namespace Go.Proofs.Ytmgfbmpiaanhkaa
open Go.RowKit
set_option linter.unusedVariables false

/-- k steps, told which each is. -/
def iterK {α : Type} (step : α → Nat → α) (a : α) : Nat → α
  | 0 => a
  | k + 1 => step (iterK step a k) k
theorem iterK_inv {α : Type} {step : α → Nat → α} {a : α} {n : Nat} (p : Nat → α → Prop) (h0 : p 0 a) (h : ∀ b k, k < n → p k b → p (k + 1) (step b k)) : ∀ k, k ≤ n → p k (iterK step a k) := by
  intro k
  induction k with
  | zero => intro _; exact h0
  | succ k ih => intro hk; exact h _ _ (by omega) (ih (by omega))

theorem setCell_like1 {w w2 : World} {g i : Nat} {cur : Array Value} {E : TypeId} {v : Value} (hh : w.heap[g]? = some (.cells cur E (0, 0))) (h2 : ∀ k, k < w.heap.size → w2.heap[k]? = w.heap[k]?) {k : Nat} (hk : k < w.heap.size) :
    (w2.setCell ⟨g, i, none⟩ v).heap[k]? = (w.setCell ⟨g, i, none⟩ v).heap[k]? := by
  by_cases e : k = g
  · subst e
    rw [heap_setCell_same w2 k i cur E v ((h2 k hk).trans hh), heap_setCell_same w k i cur E v hh]
  · rw [heap_setCell_other w2 _ k v (by simpa using e), heap_setCell_other w _ k v (by simpa using e), h2 k hk]
theorem Own.heap1 {α : Type} [Inhabited α] {E : TypeId} {R : Rep α} {w : World} {g n c : Nat} {xs : List α} {S : List Nat} (h : Own E R w (.slice (some ⟨g, 0, none⟩) n c) xs S) : ∃ cur, w.heap[g]? = some (.cells cur E (0, 0)) := by
  rcases h with ⟨h, _⟩ | ⟨g', cap, cur, Ss, h, hh, _⟩
  · simp at h
  · simp only [Value.slice.injEq, Option.some.injEq, Addr.mk.injEq, and_true] at h
    obtain ⟨rfl, _⟩ := h
    exact ⟨cur, hh⟩
/-- A cell of a slice of the call's own. -/
theorem Fresh.put1 {α : Type} [Inhabited α] {E : TypeId} {f : α → Value} (h1 : ∀ x, (f x).oneCell' = true) {w0 w : World} {g n c : Nat} {xs : List α} (hf : Fresh (Own E (leaf f)) w0 w (.slice (some ⟨g, 0, none⟩) n c) xs) {i : Nat} (hi : i < xs.length) :
    w.cell? ⟨g, i, none⟩ = some (f (nth xs i)) ∧ w.frozen? ⟨g, i, none⟩ = false ∧ w0.heap.size ≤ g ∧ g < w.heap.size ∧
      ∀ w2, Below w.heap.size w w2 → ∀ y, Fresh (Own E (leaf f)) w0 (w2.setCell ⟨g, i, none⟩ (f y)) (.slice (some ⟨g, 0, none⟩) n c) (xs.set i y) := by
  obtain ⟨S, hS, hS2, hb⟩ := hf
  obtain ⟨cur, hcur⟩ := hS.heap1
  have hg := hS.head
  refine ⟨hS.cell hi, hS.frozen i, hS2 _ hg.1, hg.2, fun w2 hw2 y => ⟨S, (Own.ok (leaf.ok h1)).keep (hS.put hi y) fun k hk => setCell_like1 hcur (fun k hk => hw2.block k hk) ((Own.ok (leaf.ok h1)).lt hS k hk), hS2, (hb.trans (hw2.mono hb.size)).setCell (hS2 _ hg.1) _⟩⟩
theorem Fresh.len1 {α : Type} [Inhabited α] {E : TypeId} {R : Rep α} {w0 w : World} {g n c : Nat} {t : List α} (hf : Fresh (Own E R) w0 w (.slice (some ⟨g, 0, none⟩) n c) t) : t.length = n ∧ n ≤ c ∧ c ≤ maxLen := hf.choose_spec.1.len
theorem Fresh.made {α : Type} [Inhabited α] {w0 w : World} (h : Below w0.heap.size w0 w) (E : TypeId) (f : α → Value) (x : α) (n : Nat) (hn : n ≤ maxLen) : Fresh (Own E (leaf f)) w0 (w.alloc (.cells (madeCells #[f x] n) E)) (.slice (some ⟨w.heap.size, 0, none⟩) n n) (List.replicate n x) :=
  ⟨_, Own.made w E f x n hn, by simpa using h.size, h.alloc h.size _⟩
theorem Rd.elim {α : Type} [Inhabited α] {R : RRep α} {P : Nat → Prop} {w : World} {a : Option Addr} {n c : Nat} {xs : List α} (h : Rd R P w (.slice a n c) xs) (i : Nat) (hi : i < xs.length) :
    ∃ b o u, a = some ⟨b, o, none⟩ ∧ P b ∧ w.cell? ⟨b, o + i, none⟩ = some u ∧ R P w u (nth xs i) := by
  obtain ⟨a1, c1, e, h1, h2, hrd⟩ := h
  simp only [Value.slice.injEq] at e
  obtain ⟨rfl, _, rfl⟩ := e
  exact hrd i hi
end Go.Proofs.Ytmgfbmpiaanhkaa
