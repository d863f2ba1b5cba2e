/- Square tables that are filled cell by cell. -/
import Derived.Test.YtnpkanlieflbiaaQ1
import Derived.StillTailTactics
namespace Go.Proofs.Ytnpkanlieflbiaa
open Go.RowKit
set_option linter.unusedVariables false

/-- n rows of n. -/
def Sq (n : Nat) (t : List (List Int)) : Prop := t.length = n ∧ ∀ x, x < n → (nth t x).length = n
theorem Sq.ext {n : Nat} {s t : List (List Int)} (hs : Sq n s) (ht : Sq n t) (h : ∀ x y, x < n → y < n → nth (nth s x) y = nth (nth t x) y) : s = t := by
  refine ext_nth (by rw [hs.1, ht.1]) fun x hx => ?_
  rw [hs.1] at hx
  refine ext_nth (by rw [hs.2 x hx, ht.2 x hx]) fun y hy => ?_
  rw [hs.2 x hx] at hy
  exact h x y hx hy
def tab (n : Nat) (f : Nat → Nat → Int) : List (List Int) := (List.range n).map fun x => (List.range n).map fun y => f x y
theorem nth_range_map {α : Type} [Inhabited α] {n i : Nat} {f : Nat → α} (h : i < n) : nth ((List.range n).map f) i = f i := by rw [nth_eq (by simpa using h)]; simp
theorem tab_sq (n : Nat) (f : Nat → Nat → Int) : Sq n (tab n f) := ⟨by simp [tab], fun x hx => by rw [tab, nth_range_map hx]; simp⟩
theorem nth_tab {n : Nat} {f : Nat → Nat → Int} {x y : Nat} (hx : x < n) (hy : y < n) : nth (nth (tab n f) x) y = f x y := by rw [tab, nth_range_map hx, nth_range_map hy]
def set2 (t : List (List Int)) (x y : Nat) (z : Int) : List (List Int) := t.set x ((nth t x).set y z)
theorem set2_sq {n : Nat} {t : List (List Int)} (h : Sq n t) (x y : Nat) (z : Int) (hx : x < n) : Sq n (set2 t x y z) := by
  refine ⟨by rw [set2, List.length_set]; exact h.1, fun i hi => ?_⟩
  rw [set2, nth_set (by rw [h.1]; exact hx)]
  split
  · rw [List.length_set]; exact h.2 x hx
  · exact h.2 i hi
theorem nth_set2 {n : Nat} {t : List (List Int)} (h : Sq n t) {x y i j : Nat} {z : Int} (hx : x < n) (hy : y < n) : nth (nth (set2 t x y z) i) j = if x = i ∧ y = j then z else nth (nth t i) j := by
  rw [set2, nth_set (by rw [h.1]; exact hx)]
  by_cases e : x = i
  · subst e
    rw [if_pos rfl, nth_set (by rw [h.2 x hx]; exact hy)]
    simp
  · rw [if_neg e, if_neg (fun h => e h.1)]
/-- All zeros. -/
def zeros (n : Nat) : List (List Int) := List.replicate n (List.replicate n 0)
theorem zeros_sq (n : Nat) : Sq n (zeros n) := ⟨by simp [zeros], fun x hx => by rw [zeros, nth_replicate hx]; simp⟩

/-- Fill the cells in the order of the rows: behind k cells of row x. -/
def Filled (n : Nat) (f : Nat → Nat → Int) (x y : Nat) (t : List (List Int)) : Prop := Sq n t ∧ ∀ i j, i < n → j < n → (i < x ∨ (i = x ∧ j < y)) → nth (nth t i) j = f i j
theorem Filled.start (n : Nat) (f : Nat → Nat → Int) {t : List (List Int)} (h : Sq n t) : Filled n f 0 0 t := ⟨h, fun i j _ _ h => by omega⟩
theorem Filled.more {n : Nat} {f : Nat → Nat → Int} {x y : Nat} {t : List (List Int)} (h : Filled n f x y t) (hx : x < n) (hy : y < n) {z : Int} (hz : z = f x y) : Filled n f x (y + 1) (set2 t x y z) := by
  refine ⟨set2_sq h.1 x y z hx, fun i j hi hj hij => ?_⟩
  rw [nth_set2 h.1 hx hy]
  split
  · rename_i e; rw [hz, e.1, e.2]
  · rename_i e
    exact h.2 i j hi hj (by omega)
theorem Filled.next {n : Nat} {f : Nat → Nat → Int} {x : Nat} {t : List (List Int)} (h : Filled n f x n t) : Filled n f (x + 1) 0 t := ⟨h.1, fun i j hi hj hij => h.2 i j hi hj (by omega)⟩
theorem Filled.whole {n : Nat} {f : Nat → Nat → Int} {t : List (List Int)} (h : Filled n f n 0 t) : t = tab n f :=
  h.1.ext (tab_sq n f) fun x y hx hy => by rw [h.2 x y hx hy (.inl hx), nth_tab hx hy]

theorem alloc_size (w : World) (o : Obj) : (w.alloc o).heap.size = w.heap.size + 1 := by simp
theorem infoSl' : (Try.prog.info? 22).map (fun i => (i.zero, i.size, i.bytes)) = some (some (.slice none 0 0), 1, 24) := by kernel_rfl

/-- A store into a row, seen from a world in which the row is the same. -/
theorem setCell_like {w w2 : World} {g i : Nat} {cur : Array Value} {E : TypeId} {v : Value} (hh : w.heap[g]? = some (.cells cur E (0, 0))) (h2 : ∀ k, k < w.heap.size → w2.heap[k]? = w.heap[k]?) {k : Nat} (hk : k < w.heap.size) :
    (w2.setCell ⟨g, i, none⟩ v).heap[k]? = (w.setCell ⟨g, i, none⟩ v).heap[k]? := by
  by_cases e : k = g
  · subst e
    rw [heap_setCell_same w2 k i cur E v ((h2 k hk).trans hh), heap_setCell_same w k i cur E v hh]
  · rw [heap_setCell_other w2 _ k v (by simpa using e), heap_setCell_other w _ k v (by simpa using e), h2 k hk]
theorem Own.heap {α : Type} [Inhabited α] {E : TypeId} {R : Rep α} {w : World} {g n c : Nat} {xs : List α} {S : List Nat} (h : Own E R w (.slice (some ⟨g, 0, none⟩) n c) xs S) : ∃ cur, w.heap[g]? = some (.cells cur E (0, 0)) := by
  rcases h with ⟨h, _⟩ | ⟨g', cap, cur, Ss, h, hh, _⟩
  · simp at h
  · simp only [Value.slice.injEq, Option.some.injEq, Addr.mk.injEq, and_true] at h
    obtain ⟨rfl, _⟩ := h
    exact ⟨cur, hh⟩
/-- A cell of a table of the call's own. -/
theorem Fresh.put2 {w0 w : World} {g n c : Nat} {t : List (List Int)} (hf : Fresh OII w0 w (.slice (some ⟨g, 0, none⟩) n c) t) {x y : Nat} (hx : x < t.length) (hy : y < (nth t x).length) :
    ∃ gx cx, w.cell? ⟨g, x, none⟩ = some (.slice (some ⟨gx, 0, none⟩) (nth t x).length cx) ∧ (nth t x).length ≤ cx ∧ cx ≤ maxLen ∧ w.cell? ⟨gx, y, none⟩ = some (.int .i64 (nth (nth t x) y)) ∧ w.frozen? ⟨gx, y, none⟩ = false ∧
      w0.heap.size ≤ gx ∧ ∀ w2, Below w.heap.size w w2 → ∀ z, Fresh OII w0 (w2.setCell ⟨gx, y, none⟩ (.int .i64 z)) (.slice (some ⟨g, 0, none⟩) n c) (set2 t x y z) := by
  obtain ⟨S, hS, hS2, hb⟩ := hf
  obtain ⟨u, T, hc, hu, hT, hput⟩ := hS.turnAt OI.ok hx
  rcases hu.shape with ⟨rfl, e⟩ | ⟨gx, cx, rfl, hg⟩
  · rw [e] at hy; simp at hy
  · have hl := hu.len
    obtain ⟨cur, hcur⟩ := hu.heap
    refine ⟨gx, cx, hc, hl.2.1, hl.2.2, hu.cell hy, hu.frozen y, hS2 _ (hT gx hg).1, fun w2 hw2 z => ⟨S, OII.ok.keep (hput _ _ ((Only.refl _ _).put hg _ _) (hu.put hy z)) fun k hk => setCell_like hcur (fun k hk => hw2.block k hk) (OII.ok.lt hS k hk), hS2, (hb.trans (hw2.mono hb.size)).setCell (hS2 _ (hT gx hg).1) _⟩⟩
theorem Fresh.len2 {α : Type} [Inhabited α] {E : TypeId} {R : Rep α} {w0 w : World} {g n c : Nat} {t : List α} (hf : Fresh (Own E R) w0 w (.slice (some ⟨g, 0, none⟩) n c) t) : t.length = n ∧ n ≤ c ∧ c ≤ maxLen := hf.choose_spec.1.len
theorem Fresh.shape {α : Type} [Inhabited α] {E : TypeId} {R : Rep α} {w0 w : World} {v : Value} {t : List α} (hf : Fresh (Own E R) w0 w v t) (h : 1 ≤ t.length) : ∃ g c, v = .slice (some ⟨g, 0, none⟩) t.length c := by
  rcases hf.choose_spec.1.shape with ⟨_, e⟩ | ⟨g, c, e, _⟩
  · rw [e] at h; simp at h
  · exact ⟨g, c, e⟩
theorem Fresh.drew {α : Type} {R : Rep α} (hR : R.Ok) {w0 w : World} {v : Value} {x : α} (h : Fresh R w0 w v x) : Fresh R w0 w.drew v x :=
  ⟨h.choose, hR.keep h.choose_spec.1 fun k hk => rfl, h.choose_spec.2.1, h.choose_spec.2.2.drew⟩
theorem Fresh.drewN {α : Type} {R : Rep α} (hR : R.Ok) {w0 w : World} {v : Value} {x : α} (h : Fresh R w0 w v x) (n : Nat) : Fresh R w0 (w.drewN n) v x :=
  h.stay hR (below_draws ⟨n, rfl⟩)

end Go.Proofs.Ytnpkanlieflbiaa
