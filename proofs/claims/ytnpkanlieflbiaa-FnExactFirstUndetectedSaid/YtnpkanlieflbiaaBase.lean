/- Lists in memory: what a value stands for, which blocks it leads to, and how this is kept. Nothing here speaks of the program. -/
import Derived.WalkKit
import Derived.Lib.Hide
import Derived.Deep.OwnRows
namespace Go.Proofs.Ytnpkanlieflbiaa
open Go.RowKit
set_option linter.unusedVariables false

theorem ret_int' {k : IntKind} {a b : Int} (h : a = b) : Ending.returned (.int k a) = .returned (.int k b) := by rw [h]

/-- Element i of a list; the walk does not look into it. -/
def nth {α : Type} [Inhabited α] (xs : List α) (i : Nat) : α := xs.getD i default

theorem nth_eq {α : Type} [Inhabited α] {xs : List α} {i : Nat} (h : i < xs.length) : nth xs i = xs[i] := by
  simp [nth, List.getD, List.getElem?_eq_getElem h]
theorem nth_out {α : Type} [Inhabited α] {xs : List α} {i : Nat} (h : xs.length ≤ i) : nth xs i = default := by
  simp [nth, List.getD, List.getElem?_eq_none h]
theorem nth_mem {α : Type} [Inhabited α] {xs : List α} {i : Nat} (h : i < xs.length) : nth xs i ∈ xs := by
  rw [nth_eq h]; exact List.getElem_mem h
theorem take_nth {α : Type} [Inhabited α] {xs : List α} {i : Nat} (h : i < xs.length) : xs.take (i + 1) = xs.take i ++ [nth xs i] := by
  rw [nth_eq h, List.take_succ_eq_append_getElem h]
theorem ext_nth {α : Type} [Inhabited α] {xs ys : List α} (hl : xs.length = ys.length) (h : ∀ i, i < xs.length → nth xs i = nth ys i) : xs = ys := by
  apply List.ext_getElem hl
  intro i h1 h2
  have := h i h1
  rwa [nth_eq h1, nth_eq h2] at this
theorem nth_append_left {α : Type} [Inhabited α] {xs ys : List α} {i : Nat} (h : i < xs.length) : nth (xs ++ ys) i = nth xs i := by
  rw [nth_eq h, nth_eq (by simp; omega), List.getElem_append_left h]
theorem nth_append_last {α : Type} [Inhabited α] (xs : List α) (y : α) : nth (xs ++ [y]) xs.length = y := by
  rw [nth_eq (by simp)]; simp
theorem nth_set {α : Type} [Inhabited α] {xs : List α} {i j : Nat} {y : α} (h : i < xs.length) : nth (xs.set i y) j = if i = j then y else nth xs j := by
  by_cases hj : j < xs.length
  · rw [nth_eq (by simpa using hj), nth_eq hj, List.getElem_set]
  · rw [nth_out (by simp; omega), nth_out (by omega), if_neg (by omega)]
theorem nth_map {α β : Type} [Inhabited α] [Inhabited β] {xs : List α} {f : α → β} {i : Nat} (h : i < xs.length) : nth (xs.map f) i = f (nth xs i) := by
  rw [nth_eq h, nth_eq (by simpa using h), List.getElem_map]
theorem nth_take {α : Type} [Inhabited α] {xs : List α} {i k : Nat} (h : i < k) : nth (xs.take k) i = nth xs i := by
  by_cases hi : i < xs.length
  · rw [nth_eq hi, nth_eq (by simp; omega), List.getElem_take]
  · rw [nth_out (by simp; omega), nth_out (by omega)]
theorem nth_replicate {α : Type} [Inhabited α] {n i : Nat} {x : α} (h : i < n) : nth (List.replicate n x) i = x := by
  rw [nth_eq (by simpa using h)]; simp


/-! ### What is read: R w u x: in the world w the value u stands for x; all that is read lies in blocks of which P holds. -/
abbrev RRep (α : Type) := (Nat → Prop) → World → Value → α → Prop

structure RRep.Ok {α : Type} (R : RRep α) : Prop where
  keep : ∀ {P : Nat → Prop} {w w' : World} {u : Value} {x : α}, R P w u x → (∀ k, P k → w'.heap[k]? = w.heap[k]?) → R P w' u x
  mono : ∀ {P P' : Nat → Prop} {w : World} {u : Value} {x : α}, R P w u x → (∀ k, P k → P' k) → R P' w u x

/-- A slice of one-cell elements that reads as xs. -/
def Rd {α : Type} [Inhabited α] (R : RRep α) : RRep (List α) := fun P w v xs =>
  ∃ a c, v = .slice a xs.length c ∧ xs.length ≤ c ∧ c ≤ maxLen ∧
    ∀ i, i < xs.length → ∃ b o u, a = some ⟨b, o, none⟩ ∧ P b ∧ w.cell? ⟨b, o + i, none⟩ = some u ∧ R P w u (nth xs i)

theorem cell_keep {w w' : World} {a : Addr} (h : w'.heap[a.block]? = w.heap[a.block]?) : w'.cell? a = w.cell? a := World.cell?_of_block (w := w) h

theorem Rd.ok {α : Type} [Inhabited α] {R : RRep α} (hR : R.Ok) : (Rd R).Ok where
  keep := by
    rintro P w w' u x ⟨a, c, rfl, h1, h2, h⟩ hk
    refine ⟨a, c, rfl, h1, h2, fun i hi => ?_⟩
    obtain ⟨b, o, u, ha, hP, hc, hr⟩ := h i hi
    exact ⟨b, o, u, ha, hP, (cell_keep (hk b hP)).trans hc, hR.keep hr hk⟩
  mono := by
    rintro P P' w u x ⟨a, c, rfl, h1, h2, h⟩ hk
    refine ⟨a, c, rfl, h1, h2, fun i hi => ?_⟩
    obtain ⟨b, o, u, ha, hP, hc, hr⟩ := h i hi
    exact ⟨b, o, u, ha, hk b hP, hc, hR.mono hr hk⟩

/-- A value of one cell that leads nowhere. -/
def rleaf {α : Type} (f : α → Value) : RRep α := fun _ _ u x => u = f x
theorem rleaf.ok {α : Type} {f : α → Value} : (rleaf f).Ok := ⟨fun h _ => h, fun h _ => h⟩
abbrev fI : Int → Value := Value.int .i64
abbrev fB : Bool → Value := Value.bool
abbrev fY : UInt8 → Value := fun c => Value.int .u8 (c.toNat : Int)
abbrev fS : ByteArray → Value := Value.string
abbrev rI : RRep Int := rleaf fI
abbrev rB : RRep Bool := rleaf fB
abbrev rY : RRep UInt8 := rleaf fY
abbrev rS : RRep ByteArray := rleaf fS

abbrev RdI := Rd rI
abbrev RdII := Rd RdI
abbrev RdIII := Rd RdII
theorem RdI.ok : RRep.Ok RdI := Rd.ok rleaf.ok
theorem RdII.ok : RRep.Ok RdII := Rd.ok RdI.ok
theorem RdIII.ok : RRep.Ok RdIII := Rd.ok RdII.ok

/-- What was there is as it was. -/
theorem Rd.below {α : Type} {R : RRep α} (hR : R.Ok) {B : Nat} {w w' : World} {v : Value} {x : α} (h : R (· < B) w v x) (hb : Below B w w') : R (· < B) w' v x :=
  hR.keep h hb.block

/-! ### What is owned: S are the blocks, each met once. -/
abbrev Rep (α : Type) := World → Value → α → List Nat → Prop

structure Rep.Ok {α : Type} (R : Rep α) : Prop where
  keep : ∀ {w w' : World} {u : Value} {x : α} {S : List Nat}, R w u x S → (∀ k ∈ S, w'.heap[k]? = w.heap[k]?) → R w' u x S
  lt : ∀ {w : World} {u : Value} {x : α} {S : List Nat}, R w u x S → ∀ k ∈ S, k < w.heap.size
  one : ∀ {w : World} {u : Value} {x : α} {S : List Nat}, R w u x S → u.oneCell' = true
  nodup : ∀ {w : World} {u : Value} {x : α} {S : List Nat}, R w u x S → S.Nodup

/-- A slice that begins at its block's head: its elements, each with its own blocks. -/
def Own {α : Type} [Inhabited α] (E : TypeId) (R : Rep α) : Rep (List α) := fun w v xs S =>
  (v = .slice none 0 0 ∧ xs = [] ∧ S = []) ∨
  ∃ g cap cur Ss, v = .slice (some ⟨g, 0, none⟩) xs.length cap ∧ w.heap[g]? = some (.cells cur E (0, 0)) ∧ cur.size = cap ∧ xs.length ≤ cap ∧ cap ≤ maxLen ∧
    S = g :: Ss.flatten ∧ S.Nodup ∧ Ss.length = xs.length ∧ ∀ i, i < xs.length → ∃ u, cur[i]? = some u ∧ R w u (nth xs i) (nth Ss i)

/-- A value of one cell that leads nowhere. -/
def leaf {α : Type} (f : α → Value) : Rep α := fun _ u x S => u = f x ∧ S = []
theorem leaf.ok {α : Type} {f : α → Value} (h1 : ∀ x, (f x).oneCell' = true) : (leaf f).Ok :=
  ⟨fun h _ => h, fun h => by simp [h.2], fun h => by rw [h.1]; exact h1 _, fun h => by simp [h.2]⟩
abbrev oI : Rep Int := leaf fI
abbrev oB : Rep Bool := leaf fB
abbrev oY : Rep UInt8 := leaf fY
abbrev oS : Rep ByteArray := leaf fS
theorem oI.ok : Rep.Ok oI := leaf.ok fun _ => rfl
theorem oB.ok : Rep.Ok oB := leaf.ok fun _ => rfl
theorem oY.ok : Rep.Ok oY := leaf.ok fun _ => rfl
theorem oS.ok : Rep.Ok oS := leaf.ok fun _ => rfl

theorem mem_flatten_nth {Ss : List (List Nat)} {i k : Nat} (hi : i < Ss.length) (h : k ∈ nth Ss i) : k ∈ Ss.flatten :=
  List.mem_flatten.2 ⟨nth Ss i, nth_mem hi, h⟩

theorem Own.ok {α : Type} [Inhabited α] {E : TypeId} {R : Rep α} (hR : R.Ok) : (Own E R).Ok where
  keep := by
    rintro w w' u x S h hk
    rcases h with h | ⟨g, cap, cur, Ss, hv, hh, h1, h2, h3, hS, hN, hl, he⟩
    · exact .inl h
    · refine .inr ⟨g, cap, cur, Ss, hv, (hk g (by simp [hS])).trans hh, h1, h2, h3, hS, hN, hl, fun i hi => ?_⟩
      obtain ⟨u, hu, hr⟩ := he i hi
      exact ⟨u, hu, hR.keep hr fun k hk' => hk k (by rw [hS]; exact List.mem_cons_of_mem _ (mem_flatten_nth (by omega) hk'))⟩
  lt := by
    rintro w u x S h k hk
    rcases h with ⟨_, _, rfl⟩ | ⟨g, cap, cur, Ss, hv, hh, h1, h2, h3, rfl, hN, hl, he⟩
    · simp at hk
    · rcases List.mem_cons.1 hk with rfl | hk
      · exact (Array.getElem?_eq_some_iff.1 hh).1
      · obtain ⟨T, hT, hk⟩ := List.mem_flatten.1 hk
        obtain ⟨i, hi, rfl⟩ := List.mem_iff_getElem.1 hT
        obtain ⟨u, hu, hr⟩ := he i (by omega)
        rw [nth_eq hi] at hr
        exact hR.lt hr k hk
  one := by
    rintro w u x S h
    rcases h with ⟨rfl, _⟩ | ⟨g, cap, cur, Ss, rfl, _⟩ <;> rfl
  nodup := by
    rintro w u x S h
    rcases h with ⟨_, _, rfl⟩ | ⟨g, cap, cur, Ss, hv, hh, h1, h2, h3, rfl, hN, hl, he⟩
    · simp
    · exact hN

theorem Own.keep {α : Type} [Inhabited α] {E : TypeId} {R : Rep α} (hR : R.Ok) {w w' : World} {v : Value} {xs : List α} {S : List Nat} (h : Own E R w v xs S)
    (hk : ∀ k ∈ S, w'.heap[k]? = w.heap[k]?) : Own E R w' v xs S := (Own.ok hR).keep h hk

/-- What is owned reads as it is. -/
structure Leads {α : Type} (R : Rep α) (Q : RRep α) : Prop where
  to : ∀ (w : World) (u : Value) (x : α) (S : List Nat) (P : Nat → Prop), R w u x S → (∀ k ∈ S, P k) → Q P w u x
theorem leaf.leads {α : Type} {f : α → Value} : Leads (leaf f) (rleaf f) := ⟨fun _ _ _ _ _ h _ => h.1⟩
theorem Own.leads {α : Type} [Inhabited α] {E : TypeId} {R : Rep α} {Q : RRep α} (h : Leads R Q) : Leads (Own E R) (Rd Q) := by
  refine ⟨?_⟩
  intro w u x S P h1 hP
  rcases h1 with ⟨rfl, rfl, rfl⟩ | ⟨g, cap, cur, Ss, rfl, hh, h1, h2, h3, rfl, hN, hl, he⟩
  · exact ⟨none, 0, rfl, by simp, by simp, fun i hi => absurd hi (by simp)⟩
  · refine ⟨_, _, rfl, h2, h3, fun i hi => ?_⟩
    obtain ⟨u, hu, hr⟩ := he i hi
    refine ⟨g, 0, u, rfl, hP g (by simp), ?_, h.to _ _ _ _ _ hr fun k hk => hP k (List.mem_cons_of_mem _ (mem_flatten_nth (by omega) hk))⟩
    rw [Nat.zero_add, cell_of_row w g i cur E (0, 0) hh, hu]
abbrev OwnI (E : TypeId) : Rep (List Int) := Own E oI
abbrev OwnB (E : TypeId) : Rep (List Bool) := Own E oB
abbrev OwnY (E : TypeId) : Rep (List UInt8) := Own E oY
theorem Own.rd {α : Type} [Inhabited α] {E : TypeId} {f : α → Value} {w : World} {v : Value} {xs : List α} {S : List Nat} {P : Nat → Prop} (h : Own E (leaf f) w v xs S) (hP : ∀ k ∈ S, P k) : Rd (rleaf f) P w v xs :=
  (Own.leads leaf.leads).to _ _ _ _ _ h hP
theorem Own.rd2 {α : Type} [Inhabited α] {E E' : TypeId} {f : α → Value} {w : World} {v : Value} {xs : List (List α)} {S : List Nat} {P : Nat → Prop} (h : Own E (Own E' (leaf f)) w v xs S) (hP : ∀ k ∈ S, P k) : Rd (Rd (rleaf f)) P w v xs :=
  (Own.leads (Own.leads leaf.leads)).to _ _ _ _ _ h hP
theorem Own.rd3 {α : Type} [Inhabited α] {E E' E'' : TypeId} {f : α → Value} {w : World} {v : Value} {xs : List (List (List α))} {S : List Nat} {P : Nat → Prop} (h : Own E (Own E' (Own E'' (leaf f))) w v xs S) (hP : ∀ k ∈ S, P k) : Rd (Rd (Rd (rleaf f))) P w v xs :=
  (Own.leads (Own.leads (Own.leads leaf.leads))).to _ _ _ _ _ h hP

section leafs
variable {α : Type} [Inhabited α] {E : TypeId} {f : α → Value} {w : World} {g n c : Nat} {xs : List α} {S : List Nat}

theorem Own.len {R : Rep α} (h : Own E R w (.slice (some ⟨g, 0, none⟩) n c) xs S) : xs.length = n ∧ n ≤ c ∧ c ≤ maxLen := by
  rcases h with ⟨h, _⟩ | ⟨g', cap, cur, Ss, h, _, _, h2, h3, _⟩
  · simp at h
  · simp only [Value.slice.injEq] at h; omega
theorem Own.head {R : Rep α} (h : Own E R w (.slice (some ⟨g, 0, none⟩) n c) xs S) : g ∈ S ∧ g < w.heap.size := by
  rcases h with ⟨h, _⟩ | ⟨g', cap, cur, Ss, h, hh, _, _, _, hS, _⟩
  · simp at h
  · simp only [Value.slice.injEq, Option.some.injEq, Addr.mk.injEq, and_true] at h
    obtain ⟨rfl, _⟩ := h
    exact ⟨by simp [hS], (Array.getElem?_eq_some_iff.1 hh).1⟩
theorem Own.frozen {R : Rep α} (h : Own E R w (.slice (some ⟨g, 0, none⟩) n c) xs S) (i : Nat) : w.frozen? ⟨g, i, none⟩ = false := by
  rcases h with ⟨h, _⟩ | ⟨g', cap, cur, Ss, h, hh, _⟩
  · simp at h
  · simp only [Value.slice.injEq, Option.some.injEq, Addr.mk.injEq, and_true] at h
    obtain ⟨rfl, _⟩ := h
    exact frozen_of_row w g i cur E hh
theorem Own.cell (h : Own E (leaf f) w (.slice (some ⟨g, 0, none⟩) n c) xs S) {i : Nat} (hi : i < xs.length) : w.cell? ⟨g, i, none⟩ = some (f (nth xs i)) := by
  rcases h with ⟨h, _⟩ | ⟨g', cap, cur, Ss, h, hh, _, _, _, _, _, _, he⟩
  · simp at h
  · simp only [Value.slice.injEq, Option.some.injEq, Addr.mk.injEq, and_true] at h
    obtain ⟨rfl, _⟩ := h
    obtain ⟨u, hu, hr⟩ := he i hi
    rw [cell_of_row w g i cur E (0, 0) hh, hu, hr.1]
theorem flatten_nil_of {Ss : List (List Nat)} (h : ∀ i, i < Ss.length → nth Ss i = []) : Ss.flatten = [] := by
  rw [List.flatten_eq_nil_iff]
  intro l hl
  obtain ⟨i, hi, rfl⟩ := List.mem_iff_getElem.1 hl
  have := h i hi
  rwa [nth_eq hi] at this
theorem Own.blocks (h : Own E (leaf f) w (.slice (some ⟨g, 0, none⟩) n c) xs S) : S = [g] := by
  rcases h with ⟨h, _⟩ | ⟨g', cap, cur, Ss, h, hh, _, _, _, hS, _, hl, he⟩
  · simp at h
  · simp only [Value.slice.injEq, Option.some.injEq, Addr.mk.injEq, and_true] at h
    obtain ⟨rfl, _⟩ := h
    rw [hS, flatten_nil_of fun i hi => by obtain ⟨_, _, hr⟩ := he i (by omega); exact hr.2]
/-- A store. -/
theorem Own.put (h : Own E (leaf f) w (.slice (some ⟨g, 0, none⟩) n c) xs S) {i : Nat} (hi : i < xs.length) (y : α) :
    Own E (leaf f) (w.setCell ⟨g, i, none⟩ (f y)) (.slice (some ⟨g, 0, none⟩) n c) (xs.set i y) S := by
  rcases h with ⟨h, _⟩ | ⟨g', cap, cur, Ss, h, hh, h1, h2, h3, hS, hN, hl, he⟩
  · simp at h
  · have h0 := h
    simp only [Value.slice.injEq, Option.some.injEq, Addr.mk.injEq, and_true] at h
    obtain ⟨rfl, rfl, rfl⟩ := h
    refine .inr ⟨g, c, cur.setIfInBounds i (f y), Ss, by simp, heap_setCell_same w g i cur E _ hh, by simpa using h1, by simpa using h2, h3, hS, hN, by simpa using hl, fun j hj => ?_⟩
    have hj' : j < xs.length := by simpa using hj
    obtain ⟨u, hu, hr⟩ := he j hj'
    rw [nth_set hi]
    by_cases e : i = j
    · subst e
      refine ⟨f y, ?_, by simp [leaf, hr.2]⟩
      rw [Array.getElem?_setIfInBounds_self_of_lt (by omega)]
    · rw [if_neg e]
      exact ⟨u, by rw [Array.getElem?_setIfInBounds_ne e]; exact hu, hr⟩
/-- Behind make. -/
theorem Own.made (w : World) (E : TypeId) (f : α → Value) (x : α) (n : Nat) (hn : n ≤ maxLen) : Own E (leaf f) (w.alloc (.cells (madeCells #[f x] n) E)) (.slice (some ⟨w.heap.size, 0, none⟩) n n) (List.replicate n x) [w.heap.size] := by
  refine .inr ⟨w.heap.size, n, _, List.replicate n [], by simp, heap_alloc_new w _, by simp [size_madeCells], by simp, hn, by simp, by simp, by simp, fun i hi => ?_⟩
  have hi' : i < n := by simpa using hi
  exact ⟨f x, by simp [madeCells, hi', Nat.mod_one], by rw [nth_replicate hi'], by rw [nth_replicate hi']⟩
/-- Behind a literal. -/
theorem Own.lit (w : World) (E : TypeId) (f : α → Value) (xs : List α) (hn : xs.length ≤ maxLen) : Own E (leaf f) (w.alloc (.cells (xs.map f).toArray E)) (.slice (some ⟨w.heap.size, 0, none⟩) xs.length xs.length) xs [w.heap.size] := by
  refine .inr ⟨w.heap.size, xs.length, _, List.replicate xs.length [], rfl, heap_alloc_new w _, by simp, Nat.le_refl _, hn, by simp, by simp, by simp, fun i hi => ?_⟩
  exact ⟨f (nth xs i), by simp [List.getElem?_eq_getElem hi, nth_eq hi], rfl, by rw [nth_replicate hi]⟩
end leafs

/-- What a step may have turned: nothing that was there but the blocks S. -/
structure Only (S : List Nat) (w w' : World) : Prop where
  os : w'.os = w.os
  tape : w'.tape = w.tape
  output : w'.output = w.output
  size : w.heap.size ≤ w'.heap.size
  block : ∀ k, k < w.heap.size → k ∉ S → w'.heap[k]? = w.heap[k]?

theorem Only.refl (S : List Nat) (w : World) : Only S w w := ⟨rfl, rfl, rfl, Nat.le_refl _, fun _ _ _ => rfl⟩
theorem Only.trans {S : List Nat} {a b c : World} (h : Only S a b) (k : Only S b c) : Only S a c :=
  ⟨k.os.trans h.os, k.tape.trans h.tape, k.output.trans h.output, Nat.le_trans h.size k.size, fun i hi hS => (k.block i (Nat.lt_of_lt_of_le hi h.size) hS).trans (h.block i hi hS)⟩
theorem Only.drew {S : List Nat} {a b : World} (h : Only S a b) : Only S a b.drew := ⟨h.os, h.tape, h.output, h.size, h.block⟩
theorem Only.put {S : List Nat} {a b : World} (h : Only S a b) {g : Nat} (hg : g ∈ S) (i : Nat) (v : Value) : Only S a (b.setCell ⟨g, i, none⟩ v) :=
  h.trans ⟨rfl, rfl, rfl, by simp, fun k _ hk => heap_setCell_other b _ k v (fun e => hk (by simp at e; rw [e]; exact hg))⟩
theorem Only.alloc {S : List Nat} {a b : World} (h : Only S a b) (o : Obj) : Only S a (b.alloc o) :=
  h.trans ⟨rfl, rfl, rfl, by simp, fun k hk _ => Below.heap_alloc _ _ _ hk⟩
/-- A step that turned only what is new seen from B on. -/
theorem below_only {B : Nat} {S : List Nat} {a w w' : World} (h : Below B a w) (hk : Only S w w') (hB : B ≤ w.heap.size) (hS : ∀ k ∈ S, B ≤ k) : Below B a w' :=
  h.trans ⟨hk.os, hk.tape, hk.output, hk.size, fun k hk' => hk.block k (by omega) (fun e => by have := hS k e; omega)⟩
theorem Only.of_below {w w' : World} (h : Below w.heap.size w w') : Only [] w w' := ⟨h.os, h.tape, h.output, h.size, fun k hk _ => h.block k hk⟩
theorem below_of_only {w w' : World} (h : Only [] w w') : Below w.heap.size w w' := ⟨h.os, h.tape, h.output, h.size, fun k hk => h.block k hk (by simp)⟩
/-- What is owned beside S stays. -/
theorem Own.only {α : Type} [Inhabited α] {E : TypeId} {R : Rep α} (hR : R.Ok) {w w' : World} {v : Value} {xs : List α} {S T : List Nat} (h : Own E R w v xs S) (hk : Only T w w') (hd : ∀ k ∈ S, k ∉ T) : Own E R w' v xs S :=
  h.keep hR fun k hk' => hk.block k ((Own.ok hR).lt h k hk') (hd k hk')
theorem Own.below {α : Type} [Inhabited α] {E : TypeId} {R : Rep α} (hR : R.Ok) {w w' : World} {v : Value} {xs : List α} {S : List Nat} (h : Own E R w v xs S) (hk : Below w.heap.size w w') : Own E R w' v xs S :=
  h.keep hR fun k hk' => hk.block k ((Own.ok hR).lt h k hk')

end Go.Proofs.Ytnpkanlieflbiaa
