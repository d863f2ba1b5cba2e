/- Lists in memory: what a value stands for, which blocks it leads to, and how this is kept. Nothing here speaks of the program. -/
import Derived.WalkKit
import Derived.Lib.Hide
namespace Go.Proofs.Ytdfgfddkfbglfaa
open Go.RowKit
set_option linter.unusedVariables false

/-- Element i of a list; the walk does not look into it. -/
def nth {α : Type} [Inhabited α] (xs : List α) (i : Nat) : α := xs.getD i default

theorem nth_eq {α : Type} [Inhabited α] {xs : List α} {i : Nat} (h : i < xs.length) : nth xs i = xs[i] := by
  simp [nth, List.getD, List.getElem?_eq_getElem h]
theorem nth_out {α : Type} [Inhabited α] {xs : List α} {i : Nat} (h : xs.length ≤ i) : nth xs i = default := by
  simp [nth, List.getD, List.getElem?_eq_none h]
theorem nth_mem {α : Type} [Inhabited α] {xs : List α} {i : Nat} (h : i < xs.length) : nth xs i ∈ xs := by
  rw [nth_eq h]; exact List.getElem_mem h
theorem take_nth {α : Type} [Inhabited α] {xs : List α} {i : Nat} (h : i < xs.length) : xs.take (i + 1) = xs.take i ++ [nth xs i] := by
  rw [nth_eq h, List.take_succ_eq_append_getElem h]
theorem ext_nth {α : Type} [Inhabited α] {xs ys : List α} (hl : xs.length = ys.length) (h : ∀ i, i < xs.length → nth xs i = nth ys i) : xs = ys := by
  apply List.ext_getElem hl
  intro i h1 h2
  have := h i h1
  rwa [nth_eq h1, nth_eq h2] at this
theorem nth_append_left {α : Type} [Inhabited α] {xs ys : List α} {i : Nat} (h : i < xs.length) : nth (xs ++ ys) i = nth xs i := by
  rw [nth_eq h, nth_eq (by simp; omega), List.getElem_append_left h]
theorem nth_append_last {α : Type} [Inhabited α] (xs : List α) (y : α) : nth (xs ++ [y]) xs.length = y := by
  rw [nth_eq (by simp)]; simp
theorem nth_set {α : Type} [Inhabited α] {xs : List α} {i j : Nat} {y : α} (h : i < xs.length) : nth (xs.set i y) j = if i = j then y else nth xs j := by
  by_cases hj : j < xs.length
  · rw [nth_eq (by simpa using hj), nth_eq hj, List.getElem_set]
  · rw [nth_out (by simp; omega), nth_out (by omega), if_neg (by omega)]
theorem nth_map {α β : Type} [Inhabited α] [Inhabited β] {xs : List α} {f : α → β} {i : Nat} (h : i < xs.length) : nth (xs.map f) i = f (nth xs i) := by
  rw [nth_eq h, nth_eq (by simpa using h), List.getElem_map]
theorem nth_take {α : Type} [Inhabited α] {xs : List α} {i k : Nat} (h : i < k) : nth (xs.take k) i = nth xs i := by
  by_cases hi : i < xs.length
  · rw [nth_eq hi, nth_eq (by simp; omega), List.getElem_take]
  · rw [nth_out (by simp; omega), nth_out (by omega)]
theorem nth_replicate {α : Type} [Inhabited α] {n i : Nat} {x : α} (h : i < n) : nth (List.replicate n x) i = x := by
  rw [nth_eq (by simpa using h)]; simp


/-! ### What is read: R w u x: in the world w the value u stands for x; all that is read lies in blocks of which P holds. -/
abbrev RRep (α : Type) := (Nat → Prop) → World → Value → α → Prop

structure RRep.Ok {α : Type} (R : RRep α) : Prop where
  keep : ∀ {P : Nat → Prop} {w w' : World} {u : Value} {x : α}, R P w u x → (∀ k, P k → w'.heap[k]? = w.heap[k]?) → R P w' u x
  mono : ∀ {P P' : Nat → Prop} {w : World} {u : Value} {x : α}, R P w u x → (∀ k, P k → P' k) → R P' w u x

/-- A slice of one-cell elements that reads as xs. -/
def Rd {α : Type} [Inhabited α] (R : RRep α) : RRep (List α) := fun P w v xs =>
  ∃ a c, v = .slice a xs.length c ∧ xs.length ≤ c ∧ c ≤ maxLen ∧
    ∀ i, i < xs.length → ∃ b o u, a = some ⟨b, o, none⟩ ∧ P b ∧ w.cell? ⟨b, o + i, none⟩ = some u ∧ R P w u (nth xs i)

theorem cell_keep {w w' : World} {a : Addr} (h : w'.heap[a.block]? = w.heap[a.block]?) : w'.cell? a = w.cell? a := World.cell?_of_block (w := w) h

theorem Rd.ok {α : Type} [Inhabited α] {R : RRep α} (hR : R.Ok) : (Rd R).Ok where
  keep := by
    rintro P w w' u x ⟨a, c, rfl, h1, h2, h⟩ hk
    refine ⟨a, c, rfl, h1, h2, fun i hi => ?_⟩
    obtain ⟨b, o, u, ha, hP, hc, hr⟩ := h i hi
    exact ⟨b, o, u, ha, hP, (cell_keep (hk b hP)).trans hc, hR.keep hr hk⟩
  mono := by
    rintro P P' w u x ⟨a, c, rfl, h1, h2, h⟩ hk
    refine ⟨a, c, rfl, h1, h2, fun i hi => ?_⟩
    obtain ⟨b, o, u, ha, hP, hc, hr⟩ := h i hi
    exact ⟨b, o, u, ha, hk b hP, hc, hR.mono hr hk⟩

def rI : RRep Int := fun _ _ u x => u = .int .i64 x
def rB : RRep Bool := fun _ _ u x => u = .bool x
def rY : RRep UInt8 := fun _ _ u x => u = .int .u8 x.toNat
def rS : RRep ByteArray := fun _ _ u x => u = .string x ∧ x.size ≤ maxLen
theorem rI.ok : rI.Ok := ⟨fun h _ => h, fun h _ => h⟩
theorem rB.ok : rB.Ok := ⟨fun h _ => h, fun h _ => h⟩
theorem rY.ok : rY.Ok := ⟨fun h _ => h, fun h _ => h⟩
theorem rS.ok : rS.Ok := ⟨fun h _ => h, fun h _ => h⟩

abbrev RdI := Rd rI
abbrev RdII := Rd RdI
abbrev RdIII := Rd RdII
theorem RdI.ok : RRep.Ok RdI := Rd.ok rI.ok
theorem RdII.ok : RRep.Ok RdII := Rd.ok RdI.ok
theorem RdIII.ok : RRep.Ok RdIII := Rd.ok RdII.ok

/-- What was there is as it was. -/
theorem Rd.below {α : Type} {R : RRep α} (hR : R.Ok) {B : Nat} {w w' : World} {v : Value} {x : α} (h : R (· < B) w v x) (hb : Below B w w') : R (· < B) w' v x :=
  hR.keep h hb.block

/-! ### What is owned: S are the blocks, each met once. -/
abbrev Rep (α : Type) := World → Value → α → List Nat → Prop

structure Rep.Ok {α : Type} (R : Rep α) : Prop where
  keep : ∀ {w w' : World} {u : Value} {x : α} {S : List Nat}, R w u x S → (∀ k ∈ S, w'.heap[k]? = w.heap[k]?) → R w' u x S
  lt : ∀ {w : World} {u : Value} {x : α} {S : List Nat}, R w u x S → ∀ k ∈ S, k < w.heap.size
  one : ∀ {w : World} {u : Value} {x : α} {S : List Nat}, R w u x S → u.oneCell' = true
  nodup : ∀ {w : World} {u : Value} {x : α} {S : List Nat}, R w u x S → S.Nodup

/-- A slice that begins at its block's head: its elements, each with its own blocks. -/
def Own {α : Type} [Inhabited α] (E : TypeId) (R : Rep α) : Rep (List α) := fun w v xs S =>
  (v = .slice none 0 0 ∧ xs = [] ∧ S = []) ∨
  ∃ g cap cur Ss, v = .slice (some ⟨g, 0, none⟩) xs.length cap ∧ w.heap[g]? = some (.cells cur E (0, 0)) ∧ cur.size = cap ∧ xs.length ≤ cap ∧ cap ≤ maxLen ∧
    S = g :: Ss.flatten ∧ S.Nodup ∧ Ss.length = xs.length ∧ ∀ i, i < xs.length → ∃ u, cur[i]? = some u ∧ R w u (nth xs i) (nth Ss i)

def oI : Rep Int := fun _ u x S => u = .int .i64 x ∧ S = []
def oB : Rep Bool := fun _ u x S => u = .bool x ∧ S = []
def oY : Rep UInt8 := fun _ u x S => u = .int .u8 x.toNat ∧ S = []
def oS : Rep ByteArray := fun _ u x S => u = .string x ∧ x.size ≤ maxLen ∧ S = []
theorem oI.ok : oI.Ok := ⟨fun h _ => h, fun h => by simp [h.2], fun h => by simp [h.1, Value.oneCell'], fun h => by simp [h.2]⟩
theorem oB.ok : oB.Ok := ⟨fun h _ => h, fun h => by simp [h.2], fun h => by simp [h.1, Value.oneCell'], fun h => by simp [h.2]⟩
theorem oY.ok : oY.Ok := ⟨fun h _ => h, fun h => by simp [h.2], fun h => by simp [h.1, Value.oneCell'], fun h => by simp [h.2]⟩
theorem oS.ok : oS.Ok := ⟨fun h _ => h, fun h => by simp [h.2.2], fun h => by simp [h.1, Value.oneCell'], fun h => by simp [h.2.2]⟩

theorem mem_flatten_nth {Ss : List (List Nat)} {i k : Nat} (hi : i < Ss.length) (h : k ∈ nth Ss i) : k ∈ Ss.flatten :=
  List.mem_flatten.2 ⟨nth Ss i, nth_mem hi, h⟩

theorem Own.ok {α : Type} [Inhabited α] {E : TypeId} {R : Rep α} (hR : R.Ok) : (Own E R).Ok where
  keep := by
    rintro w w' u x S h hk
    rcases h with h | ⟨g, cap, cur, Ss, hv, hh, h1, h2, h3, hS, hN, hl, he⟩
    · exact .inl h
    · refine .inr ⟨g, cap, cur, Ss, hv, (hk g (by simp [hS])).trans hh, h1, h2, h3, hS, hN, hl, fun i hi => ?_⟩
      obtain ⟨u, hu, hr⟩ := he i hi
      exact ⟨u, hu, hR.keep hr fun k hk' => hk k (by rw [hS]; exact List.mem_cons_of_mem _ (mem_flatten_nth (by omega) hk'))⟩
  lt := by
    rintro w u x S h k hk
    rcases h with ⟨_, _, rfl⟩ | ⟨g, cap, cur, Ss, hv, hh, h1, h2, h3, rfl, hN, hl, he⟩
    · simp at hk
    · rcases List.mem_cons.1 hk with rfl | hk
      · exact (Array.getElem?_eq_some_iff.1 hh).1
      · obtain ⟨T, hT, hk⟩ := List.mem_flatten.1 hk
        obtain ⟨i, hi, rfl⟩ := List.mem_iff_getElem.1 hT
        obtain ⟨u, hu, hr⟩ := he i (by omega)
        rw [nth_eq hi] at hr
        exact hR.lt hr k hk
  one := by
    rintro w u x S h
    rcases h with ⟨rfl, _⟩ | ⟨g, cap, cur, Ss, rfl, _⟩ <;> rfl
  nodup := by
    rintro w u x S h
    rcases h with ⟨_, _, rfl⟩ | ⟨g, cap, cur, Ss, hv, hh, h1, h2, h3, rfl, hN, hl, he⟩
    · simp
    · exact hN

end Go.Proofs.Ytdfgfddkfbglfaa
