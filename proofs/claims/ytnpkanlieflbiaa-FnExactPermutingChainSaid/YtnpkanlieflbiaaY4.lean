/- A chain that is made table by table, and the reference's walk. -/
import Derived.Test.YtnpkanlieflbiaaY1
import Derived.Test.YtnpkanlieflbiaaY3
import Derived.Test.YtnpkanlieflbiaaJ1
import Derived.Test.YtnpkanlieflbiaaN4
import Derived.Test.YtnpkanlieflbiaaF3
namespace Go.Proofs.Ytnpkanlieflbiaa
open Go.RowKit
set_option linter.unusedVariables false

/-- A chain in the making lies behind its result's cell; beside it lies a list of what is known. -/
structure CSt {α : Type} [Inhabited α] (E : TypeId) (g : α → Value) (w : World) (nb m tg : Int) (T : List (List (List Int))) (Pl : List Int) (K : List α) (fv tv pv : Value) (S1 S2 S3 : List Nat) (wr : World) : Prop where
  zero : wr.heap[w.heap.size]? = some (.cells #[.int .i64 0, .int .i64 0, .int .i64 0, .int .i64 0, .slice none 0 0, .slice none 0 0] 28 (0, 0))
  box : wr.heap[w.heap.size + 1]? = some (.cells #[.int .i64 nb, .int .i64 m, .int .i64 0, .int .i64 tg, tv, pv] 28 (0, 0))
  tabs : OIII wr tv T S1
  pls : OI wr pv Pl S2
  kn : Own E (leaf g) wr fv K S3
  b1 : ∀ j ∈ S1, w.heap.size + 1 < j
  b2 : ∀ j ∈ S2, w.heap.size + 1 < j
  b3 : ∀ j ∈ S3, w.heap.size + 1 < j
  d12 : ∀ j ∈ S1, j ∉ S2
  d13 : ∀ j ∈ S1, j ∉ S3
  d23 : ∀ j ∈ S2, j ∉ S3
  bel : Below w.heap.size w wr
section cst
variable {α : Type} [Inhabited α] {E : TypeId} {g : α → Value} {w : World} {nb m tg : Int} {T : List (List (List Int))} {Pl : List Int} {K : List α} {fv tv pv : Value} {S1 S2 S3 : List Nat} {wr : World}
theorem CSt.size (h : CSt E g w nb m tg T Pl K fv tv pv S1 S2 S3 wr) : w.heap.size + 1 < wr.heap.size := heap_lt h.box
theorem CSt.keep (hg : ∀ x, (g x).oneCell' = true) (h : CSt E g w nb m tg T Pl K fv tv pv S1 S2 S3 wr) {w' : World} (hb : Below wr.heap.size wr w') : CSt E g w nb m tg T Pl K fv tv pv S1 S2 S3 w' :=
  ⟨below_heap hb h.zero, below_heap hb h.box, OIII.ok.keep h.tabs fun k hk => hb.block k (OIII.ok.lt h.tabs k hk), OI.ok.keep h.pls fun k hk => hb.block k (OI.ok.lt h.pls k hk),
    (Own.ok (leaf.ok hg)).keep h.kn fun k hk => hb.block k ((Own.ok (leaf.ok hg)).lt h.kn k hk), h.b1, h.b2, h.b3, h.d12, h.d13, h.d23, h.bel.trans (hb.mono h.bel.size)⟩
theorem CSt.pushK (hg : ∀ x, (g x).oneCell' = true) (h : CSt E g w nb m tg T Pl K fv tv pv S1 S2 S3 wr) {w5 : World} {v1 : Value} {K' : List α} {S' : List Nat} (ho : Own E (leaf g) w5 v1 K' S') (hn : Only S3 wr w5) (hS : ∀ k ∈ S', k ∈ S3 ∨ k ∈ ([] : List Nat) ∨ wr.heap.size ≤ k) :
    CSt E g w nb m tg T Pl K' v1 tv pv S1 S2 S' w5 := by
  have hz := h.size
  have l1 := OIII.ok.lt h.tabs
  have l2 := OI.ok.lt h.pls
  have hb : ∀ k ∈ S', w.heap.size + 1 < k := fun k hk => by
    rcases hS k hk with e | e | e
    · exact h.b3 k e
    · simp at e
    · omega
  exact ⟨Only.heap hn h.zero (fun hm => by have := h.b3 _ hm; omega), Only.heap hn h.box (fun hm => by have := h.b3 _ hm; omega), OIII.ok.keep h.tabs fun k hk => hn.block k (l1 k hk) (h.d13 k hk), OI.ok.keep h.pls fun k hk => hn.block k (l2 k hk) (h.d23 k hk), ho, h.b1, h.b2, hb, h.d12,
    fun j hj hm => by
      rcases hS j hm with e | e | e
      · exact h.d13 j hj e
      · simp at e
      · have := l1 j hj; omega,
    fun j hj hm => by
      rcases hS j hm with e | e | e
      · exact h.d23 j hj e
      · simp at e
      · have := l2 j hj; omega, below_only h.bel hn (by omega) fun j hj => by have := h.b3 j hj; omega⟩
theorem CSt.pushP (hg : ∀ x, (g x).oneCell' = true) (h : CSt E g w nb m tg T Pl K fv tv pv S1 S2 S3 wr) {w5 : World} {v1 : Value} {Pl' : List Int} {S' : List Nat} (ho : OI w5 v1 Pl' S') (hn : Only S2 wr w5) (hS : ∀ k ∈ S', k ∈ S2 ∨ k ∈ ([] : List Nat) ∨ wr.heap.size ≤ k) :
    w5.heap[w.heap.size + 1]? = some (.cells #[.int .i64 nb, .int .i64 m, .int .i64 0, .int .i64 tg, tv, pv] 28 (0, 0)) ∧ CSt E g w nb m tg T Pl' K fv tv v1 S1 S' S3 (w5.setCell ⟨w.heap.size + 1, 5, none⟩ v1) := by
  have hz := h.size
  have l1 := OIII.ok.lt h.tabs
  have l3 := (Own.ok (leaf.ok hg)).lt h.kn
  have hb : ∀ k ∈ S', w.heap.size + 1 < k := fun k hk => by
    rcases hS k hk with e | e | e
    · exact h.b2 k e
    · simp at e
    · omega
  have hbx := Only.heap hn h.box (fun hm => by have := h.b2 _ hm; omega)
  have hzr := Only.heap hn h.zero (fun hm => by have := h.b2 _ hm; omega)
  have e2 := heap_setCell_same w5 (w.heap.size + 1) 5 _ _ v1 hbx
  have hset : ∀ k, k ≠ w.heap.size + 1 → (w5.setCell ⟨w.heap.size + 1, 5, none⟩ v1).heap[k]? = w5.heap[k]? := fun k hk => heap_setCell_other w5 _ k v1 (by simpa using hk)
  refine ⟨hbx, (hset _ (by omega)).trans hzr, ?_, OIII.ok.keep h.tabs fun k hk => (hset k (by have := h.b1 k hk; omega)).trans (hn.block k (l1 k hk) (h.d12 k hk)),
    OI.ok.keep ho fun k hk => hset k (by have := hb k hk; omega), (Own.ok (leaf.ok hg)).keep h.kn fun k hk => (hset k (by have := h.b3 k hk; omega)).trans (hn.block k (l3 k hk) fun hm => h.d23 k hm hk), h.b1, hb, h.b3, ?_, h.d13, ?_, ?_⟩
  · rw [e2]; rfl
  · intro j hj hm
    rcases hS j hm with e | e | e
    · exact h.d12 j hj e
    · simp at e
    · have := l1 j hj; omega
  · intro j hj hm
    rcases hS j hj with e | e | e
    · exact h.d23 j e hm
    · simp at e
    · have := l3 j hm; omega
  · exact (below_only h.bel hn (by omega) fun j hj => by have := h.b2 j hj; omega).setCell (by show _ ≤ w.heap.size + 1; omega) _
theorem CSt.pushT (hg : ∀ x, (g x).oneCell' = true) (h : CSt E g w nb m tg T Pl K fv tv pv S1 S2 S3 wr) {w5 : World} {v1 : Value} {T' : List (List (List Int))} {T7 S' : List Nat} (hT7 : ∀ j ∈ T7, w.heap.size + 1 < j ∧ j ∉ S2 ∧ j ∉ S3) (ho : OIII w5 v1 T' S') (hn : Only S1 wr w5) (hS : ∀ k ∈ S', k ∈ S1 ∨ k ∈ T7 ∨ wr.heap.size ≤ k) :
    w5.heap[w.heap.size + 1]? = some (.cells #[.int .i64 nb, .int .i64 m, .int .i64 0, .int .i64 tg, tv, pv] 28 (0, 0)) ∧ CSt E g w nb m tg T' Pl K fv v1 pv S' S2 S3 (w5.setCell ⟨w.heap.size + 1, 4, none⟩ v1) := by
  have hz := h.size
  have l2 := OI.ok.lt h.pls
  have l3 := (Own.ok (leaf.ok hg)).lt h.kn
  have hb : ∀ k ∈ S', w.heap.size + 1 < k := fun k hk => by
    rcases hS k hk with e | e | e
    · exact h.b1 k e
    · exact (hT7 k e).1
    · omega
  have hbx := Only.heap hn h.box (fun hm => by have := h.b1 _ hm; omega)
  have hzr := Only.heap hn h.zero (fun hm => by have := h.b1 _ hm; omega)
  have e2 := heap_setCell_same w5 (w.heap.size + 1) 4 _ _ v1 hbx
  have hset : ∀ k, k ≠ w.heap.size + 1 → (w5.setCell ⟨w.heap.size + 1, 4, none⟩ v1).heap[k]? = w5.heap[k]? := fun k hk => heap_setCell_other w5 _ k v1 (by simpa using hk)
  refine ⟨hbx, (hset _ (by omega)).trans hzr, ?_, OIII.ok.keep ho fun k hk => hset k (by have := hb k hk; omega), OI.ok.keep h.pls fun k hk => (hset k (by have := h.b2 k hk; omega)).trans (hn.block k (l2 k hk) fun hm => h.d12 k hm hk),
    (Own.ok (leaf.ok hg)).keep h.kn fun k hk => (hset k (by have := h.b3 k hk; omega)).trans (hn.block k (l3 k hk) fun hm => h.d13 k hm hk), hb, h.b2, h.b3, ?_, ?_, h.d23, ?_⟩
  · rw [e2]; rfl
  · intro j hj hm
    rcases hS j hj with e | e | e
    · exact h.d12 j e hm
    · exact (hT7 j e).2.1 hm
    · have := l2 j hm; omega
  · intro j hj hm
    rcases hS j hj with e | e | e
    · exact h.d13 j e hm
    · exact (hT7 j e).2.2 hm
    · have := l3 j hm; omega
  · exact (below_only h.bel hn (by omega) fun j hj => by have := h.b1 j hj; omega).setCell (by show _ ≤ w.heap.size + 1; omega) _
/-- What is handed back. -/
theorem CSt.done (hg : ∀ x, (g x).oneCell' = true) (h : CSt E g w nb m tg T Pl K fv tv pv S1 S2 S3 wr) {w' : World} (hn : Only [w.heap.size] wr w') {x : Chn} (hx : x = ⟨nb, m, 0, tg, T, Pl⟩) : Fresh OC w w' (.agg #[.int .i64 nb, .int .i64 m, .int .i64 0, .int .i64 tg, tv, pv]) x := by
  subst hx
  refine ⟨S1 ++ S2, ⟨tv, pv, S1, S2, rfl, OIII.ok.keep h.tabs fun k hk => hn.block k (OIII.ok.lt h.tabs k hk) (by have := h.b1 k hk; simp; omega), OI.ok.keep h.pls fun k hk => hn.block k (OI.ok.lt h.pls k hk) (by have := h.b2 k hk; simp; omega), rfl, h.d12⟩, fun k hk => ?_, below_only h.bel hn (by have := h.bel.size; omega) (by simp)⟩
  rcases List.mem_append.1 hk with e | e
  · have := h.b1 k e; omega
  · have := h.b2 k e; omega
end cst

section ats
variable {α : Type} [DecidableEq α]
/-- Where a list stands among the first j, or -1. -/
def atS (L : List α) (x : α) (j : Nat) : Int := if x ∈ L.take j then ((L.idxOf x : Nat) : Int) else -1
theorem atS_zero (L : List α) (x : α) : atS L x 0 = -1 := by simp [atS]
theorem atS_yes {L : List α} {x : α} (h : x ∈ L) : atS L x L.length = ((L.idxOf x : Nat) : Int) := by
  unfold atS; rw [List.take_length, if_pos h]
theorem atS_no {L : List α} {x : α} (h : x ∉ L) : atS L x L.length = -1 := by
  unfold atS; rw [List.take_length, if_neg h]
variable [Inhabited α]
theorem atS_hit {L : List α} {x : α} (hn : L.Nodup) {j : Nat} (hj : j < L.length) (h : nth L j = x) : atS L x (j + 1) = (j : Int) := by
  unfold atS
  rw [take_nth hj, if_pos (by rw [h]; simp), idx_at hn hj h]
theorem atS_miss {L : List α} {x : α} {j : Nat} (hj : j < L.length) (h : nth L j ≠ x) : atS L x (j + 1) = atS L x j := by
  unfold atS
  have e : (x ∈ L.take (j + 1)) ↔ x ∈ L.take j := by
    rw [take_nth hj, List.mem_append, List.mem_singleton]
    exact ⟨fun h1 => h1.resolve_right fun h2 => h h2.symm, .inl⟩
  by_cases h1 : x ∈ L.take j
  · rw [if_pos h1, if_pos (e.2 h1)]
  · rw [if_neg h1, if_neg fun h2 => h1 (e.1 h2)]
theorem key_in {ws : List α} {k : Nat} (h : nth ws k ∈ ddTo ws k) : ∃ ix : Nat, ix < (ddTo ws k).length ∧ atS (ddTo ws k) (nth ws k) (ddTo ws k).length = (ix : Int) ∧ ddTo ws (k + 1) = ddTo ws k ∧ plTo ws (k + 1) = plTo ws k ++ [(ix : Int)] := by
  have e := ddTo_yes h
  exact ⟨_, List.idxOf_lt_length_of_mem h, atS_yes h, e, by rw [plTo, e]⟩
theorem key_new {ws : List α} {k : Nat} (h : nth ws k ∉ ddTo ws k) : atS (ddTo ws k) (nth ws k) (ddTo ws k).length = -1 ∧ ddTo ws (k + 1) = ddTo ws k ++ [nth ws k] ∧ plTo ws (k + 1) = plTo ws k ++ [((ddTo ws k).length : Int)] := by
  have e := ddTo_no h
  exact ⟨atS_no h, e, by rw [plTo, e, idx_new h]⟩
end ats
theorem infoInt : (Try.prog.info? 3).map (fun i => (i.zero, i.size, i.bytes)) = some (some (.int .i64 0), 1, 8) := by kernel_rfl
theorem infoSl3' : (Try.prog.info? 38).map (fun i => (i.zero, i.size, i.bytes)) = some (some (.slice none 0 0), 1, 24) := by kernel_rfl
theorem tabOf_len (m : Nat) (l : List Int) : (tabOf m l).length = m := by simp [tabOf]
def tabsTo (f : List Int → List Int) (m : Nat) (keys : List (List Int)) (k : Nat) : List (List (List Int)) := (ddTo keys k).map fun l => tabOf m (f l)
theorem tabsTo_len (f : List Int → List Int) (m : Nat) (keys : List (List Int)) (k : Nat) : (tabsTo f m keys k).length = (ddTo keys k).length := by simp [tabsTo]
end Go.Proofs.Ytnpkanlieflbiaa
