/- The table that adds numbers, walked (the reference). -/
import Derived.Test.YtnpkanlieflbiaaC8
import Derived.Test.YtnpkanlieflbiaaF2
import Derived.Test.YtnpkanlieflbiaaF1
import Derived.Test.YtnpkanlieflbiaaB1
import Derived.Test.YtnpkanlieflbiaaJ1
import Derived.Test.YtnpkanlieflbiaaN3
namespace Go.Proofs.Ytnpkanlieflbiaa
open Go.RowKit
set_option linter.unusedVariables false

def tabTo (m : Nat) (xs : List Int) (k : Nat) : List (List Int) := (List.range k).map fun (s : Nat) => xs.map fun n => ((s : Int) + n) % m
def rowTo (m : Nat) (xs : List Int) (s j : Nat) : List Int := (xs.take j).map fun n => ((s : Int) + n) % m
theorem tabTo_succ (m : Nat) (xs : List Int) (k : Nat) : tabTo m xs (k + 1) = tabTo m xs k ++ [rowTo m xs k xs.length] := by
  unfold tabTo rowTo; rw [List.range_succ, List.map_append, List.take_length]; rfl
theorem rowTo_succ {m : Nat} {xs : List Int} {s j : Nat} (h : j < xs.length) : rowTo m xs s (j + 1) = rowTo m xs s j ++ [((s : Int) + nth xs j) % m] := by
  unfold rowTo; rw [take_nth h, List.map_append]; rfl
theorem tabTo_len (m : Nat) (xs : List Int) (k : Nat) : (tabTo m xs k).length = k := by simp [tabTo]
theorem rowTo_len {m : Nat} {xs : List Int} {s j : Nat} (h : j ≤ xs.length) : (rowTo m xs s j).length = j := by simp [rowTo]; omega

set_option maxHeartbeats 1600000 in
set_option maxRecDepth 10000 in
theorem specTable {P : Nat → Prop} {v : Value} {xs : List Int} {w : World} (h : RdI P w v xs) (hP : ∀ k, P k → k < w.heap.size) (hl : xs.length ≤ 36) (m : Nat) (hm : 1 ≤ m ∧ m ≤ 36) (hx : ∀ i, i < xs.length → 0 ≤ nth xs i ∧ nth xs i ≤ 2000) :
    Calls Try.prog 125 #[v, .int .i64 m] w fun e w' => ∃ v', e = .returned v' ∧ Fresh OII w w' v' (tabOf m xs) := by
  have H := Lib.hid h
  have HP := Lib.hid hP
  have Hx := Lib.hid hx
  obtain ⟨a, c, rfl, h1, h2, _⟩ := h
  unfold maxLen at h2
  clear hP hx
  go_enter Try.func125, Try.ntmps125
  go_wp2
  go_loopw [5, 6] (fun lv sv wr => ∃ k : Nat, k ≤ m ∧ sv = .int .i64 k ∧ Hid (Fresh OII w wr lv (tabTo m xs k))) (fun _ sv _ => m - (intOf sv).toNat)
  case atStart => exact ⟨0, Nat.zero_le _, rfl, Lib.hid (Fresh.empty (Below.refl _ _))⟩
  case round =>
    obtain ⟨k, hk, rfl, hf⟩ := hrel
    obtain ⟨W2, rfl⟩ : ∃ W2, W2 = wr := ⟨_, rfl⟩
    by_cases hkm : k < m
    · go_wp2
      go_loopw [7, 8] (fun rv jv wr => ∃ j : Nat, j ≤ xs.length ∧ jv = .int .i64 j ∧ Hid (Fresh OI W2 wr rv (rowTo m xs k j))) (fun _ jv _ => xs.length - (intOf jv).toNat)
      case atStart => exact ⟨0, Nat.zero_le _, rfl, Lib.hid (Fresh.empty (Below.refl _ _))⟩
      case round =>
        obtain ⟨j, hj, rfl, hg⟩ := hrel
        obtain ⟨W3, rfl⟩ : ∃ W3, W3 = wr := ⟨_, rfl⟩
        by_cases hjl : j < xs.length
        · have H3 := RdI.ok.keep H.out (w' := W3) fun i hi => (hg.out.bel.block i (by have := hf.out.bel.size; have := HP.out i hi; omega)).trans (hf.out.bel.block i (HP.out i hi))
          obtain ⟨b3, o3, u3, rfl, _, hc3, rfl⟩ := Rd.elim H3 j hjl
          have hc : W3.cell? ⟨b3, o3 + j, none⟩ = some (.int .i64 (nth xs j)) := hc3
          have hxj := Hx.out j hjl
          have hs := Lib.hid (rowTo_succ (m := m) (s := k) hjl)
          have hln := Lib.hid (rowTo_len (m := m) (s := k) hj)
          clear hc3 H3
          generalize nth xs j = z at *
          have g1 := Int.emod_nonneg ((k : Int) + z) (show (m : Int) ≠ 0 by omega)
          have g2 := Int.emod_lt_of_pos ((k : Int) + z) (show (0 : Int) < (m : Int) by omega)
          have t1 : Int.tmod ((k : Int) + z) (m : Int) = ((k : Int) + z) % (m : Int) := Int.tmod_eq_emod_of_nonneg (by omega)
          have t2 : wrap64 ((k : Int) + z) = (k : Int) + z := IntWalk.wrap64_in _ (by omega)
          have t3 : wrap64 (((k : Int) + z) % (m : Int)) = ((k : Int) + z) % (m : Int) := IntWalk.wrap64_in _ (by omega)
          have hm0 : ¬ m = 0 := by omega
          have hm1 : ¬ (m : Int) = 0 := by omega
          go_wp2_with (at_builtin; refine wpList_pushF rfl _ _ 22 rfl (f := fI) (fun _ => rfl) Try.underlying22 infoI64 rfl hg.out (((k : Int) + z) % (m : Int)) (by have := hln.out; omega) (by have := hln.out; unfold maxLen; omega) rfl rfl ?_; intro v1 w1 hf1; have Hf1 := Lib.hid hf1; clear hf1)
          go_roundw
          case rel => exact ⟨j + 1, by omega, by go_num, by rw [hs.out]; exact Hf1⟩
          case measure => simp [intOf]; omega
        · obtain ⟨hje⟩ : Nonempty (j = xs.length) := ⟨by omega⟩
          have hg2 : Hid (Fresh OI W2 W3 _ (rowTo m xs k xs.length)) := Lib.hid (by rw [hje] at hg; exact hg.out)
          obtain ⟨S, T, p1, p2, p3, p4⟩ := pushRow OI.ok hf.out hg2.out
          have Hp1 := Lib.hid p1
          have Hp2 := Lib.hid p2
          have Hp3 := Lib.hid p3
          have Hp4 := Lib.hid p4
          have hln := Lib.hid (tabTo_len m xs k)
          have hs := Lib.hid (tabTo_succ m xs k)
          obtain ⟨av, nv, cv, rfl⟩ := p1.isSlice
          obtain ⟨a7, n7, c7, rfl⟩ := p2.isSlice
          clear p1 p2 p3 p4 hje hg hg2
          go_wp2_with (at_builtin; refine wpList_push rfl _ _ 38 rfl OI.ok Try.underlying38 infoSl' rfl Hp1.out Hp2.out Hp3.out (by have := hln.out; omega) (by have := hln.out; unfold maxLen; omega) rfl rfl ?_; intro v1 w5 S1 hown1 honly1 hS1; have Hf5 := Lib.hid (Hp4.out v1 w5 S1 hown1 honly1 hS1); clear hown1 honly1 hS1)
          go_roundw
          case rel => exact ⟨k + 1, by omega, by go_num, by rw [hs.out]; exact Hf5⟩
          case measure => simp [intOf]; omega
    · obtain ⟨hkm⟩ : Nonempty (k = m) := ⟨by omega⟩
      have hf2 : Hid (Fresh OII w W2 _ (tabOf m xs)) := Lib.hid (by rw [hkm] at hf; exact hf.out)
      clear hkm hf
      go_wp2
      go_ret
      exact ⟨_, rfl, hf2.out⟩
end Go.Proofs.Ytnpkanlieflbiaa
/- The first places of the different keys, plainly. Nothing here walks. -/
namespace Go.Proofs.Ytnpkanlieflbiaa
open Go.RowKit
set_option linter.unusedVariables false

section fs
variable {α : Type} [DecidableEq α] [Inhabited α]
/-- Where each of the different ones among the first k stands first. -/
def fsTo (ws : List α) : Nat → List Int
  | 0 => []
  | k + 1 => if nth ws k ∈ ddTo ws k then fsTo ws k else fsTo ws k ++ [(k : Int)]
theorem fsTo_len (ws : List α) : ∀ k, (fsTo ws k).length = (ddTo ws k).length
  | 0 => rfl
  | k + 1 => by
    have ih := fsTo_len ws k
    by_cases h : nth ws k ∈ ddTo ws k
    · rw [fsTo, if_pos h, ddTo_yes h, ih]
    · rw [fsTo, if_neg h, ddTo_no h, List.length_append, List.length_append, ih]; rfl
theorem fsTo_bd (ws : List α) : ∀ k, ∀ j, j < (fsTo ws k).length → ∃ i : Nat, i < k ∧ nth (fsTo ws k) j = (i : Int) ∧ nth ws i = nth (ddTo ws k) j
  | 0, j, h => by simp [fsTo] at h
  | k + 1, j, h => by
    have hl := fsTo_len ws k
    by_cases hm : nth ws k ∈ ddTo ws k
    · have e1 : fsTo ws (k + 1) = fsTo ws k := by rw [fsTo, if_pos hm]
      have e2 := ddTo_yes hm
      rw [e1] at h ⊢
      rw [e2]
      obtain ⟨i, h1, h2, h3⟩ := fsTo_bd ws k j h
      exact ⟨i, by omega, h2, h3⟩
    · have e1 : fsTo ws (k + 1) = fsTo ws k ++ [(k : Int)] := by rw [fsTo, if_neg hm]
      have e2 := ddTo_no hm
      rw [e1] at h ⊢
      rw [e2]
      by_cases hj : j < (fsTo ws k).length
      · obtain ⟨i, h1, h2, h3⟩ := fsTo_bd ws k j hj
        exact ⟨i, by omega, by rw [nth_append_left hj]; exact h2, by rw [nth_append_left (by omega)]; exact h3⟩
      · obtain ⟨hje⟩ : Nonempty (j = (fsTo ws k).length) := ⟨by simp at h; omega⟩
        exact ⟨k, by omega, by rw [hje, nth_append_last], by rw [hje, hl, nth_append_last]⟩
theorem fsTo_yes {ws : List α} {k : Nat} (h : nth ws k ∈ ddTo ws k) : fsTo ws (k + 1) = fsTo ws k := by rw [fsTo, if_pos h]
theorem fsTo_no {ws : List α} {k : Nat} (h : nth ws k ∉ ddTo ws k) : fsTo ws (k + 1) = fsTo ws k ++ [(k : Int)] := by rw [fsTo, if_neg h]
end fs
end Go.Proofs.Ytnpkanlieflbiaa
/- A chain that is made table by table, and the reference's walk. -/
namespace Go.Proofs.Ytnpkanlieflbiaa
open Go.RowKit
set_option linter.unusedVariables false

/-- A chain in the making lies behind its result's cell; beside it lies a list of what is known. -/
structure CSt {α : Type} [Inhabited α] (E : TypeId) (g : α → Value) (w : World) (nb m tg : Int) (T : List (List (List Int))) (Pl : List Int) (K : List α) (fv tv pv : Value) (S1 S2 S3 : List Nat) (wr : World) : Prop where
  zero : wr.heap[w.heap.size]? = some (.cells #[.int .i64 0, .int .i64 0, .int .i64 0, .int .i64 0, .slice none 0 0, .slice none 0 0] 28 (0, 0))
  box : wr.heap[w.heap.size + 1]? = some (.cells #[.int .i64 nb, .int .i64 m, .int .i64 0, .int .i64 tg, tv, pv] 28 (0, 0))
  tabs : OIII wr tv T S1
  pls : OI wr pv Pl S2
  kn : Own E (leaf g) wr fv K S3
  b1 : ∀ j ∈ S1, w.heap.size + 1 < j
  b2 : ∀ j ∈ S2, w.heap.size + 1 < j
  b3 : ∀ j ∈ S3, w.heap.size + 1 < j
  d12 : ∀ j ∈ S1, j ∉ S2
  d13 : ∀ j ∈ S1, j ∉ S3
  d23 : ∀ j ∈ S2, j ∉ S3
  bel : Below w.heap.size w wr
section cst
variable {α : Type} [Inhabited α] {E : TypeId} {g : α → Value} {w : World} {nb m tg : Int} {T : List (List (List Int))} {Pl : List Int} {K : List α} {fv tv pv : Value} {S1 S2 S3 : List Nat} {wr : World}
theorem CSt.size (h : CSt E g w nb m tg T Pl K fv tv pv S1 S2 S3 wr) : w.heap.size + 1 < wr.heap.size := heap_lt h.box
theorem CSt.keep (hg : ∀ x, (g x).oneCell' = true) (h : CSt E g w nb m tg T Pl K fv tv pv S1 S2 S3 wr) {w' : World} (hb : Below wr.heap.size wr w') : CSt E g w nb m tg T Pl K fv tv pv S1 S2 S3 w' :=
  ⟨below_heap hb h.zero, below_heap hb h.box, OIII.ok.keep h.tabs fun k hk => hb.block k (OIII.ok.lt h.tabs k hk), OI.ok.keep h.pls fun k hk => hb.block k (OI.ok.lt h.pls k hk),
    (Own.ok (leaf.ok hg)).keep h.kn fun k hk => hb.block k ((Own.ok (leaf.ok hg)).lt h.kn k hk), h.b1, h.b2, h.b3, h.d12, h.d13, h.d23, h.bel.trans (hb.mono h.bel.size)⟩
theorem CSt.pushK (hg : ∀ x, (g x).oneCell' = true) (h : CSt E g w nb m tg T Pl K fv tv pv S1 S2 S3 wr) {w5 : World} {v1 : Value} {K' : List α} {S' : List Nat} (ho : Own E (leaf g) w5 v1 K' S') (hn : Only S3 wr w5) (hS : ∀ k ∈ S', k ∈ S3 ∨ k ∈ ([] : List Nat) ∨ wr.heap.size ≤ k) :
    CSt E g w nb m tg T Pl K' v1 tv pv S1 S2 S' w5 := by
  have hz := h.size
  have l1 := OIII.ok.lt h.tabs
  have l2 := OI.ok.lt h.pls
  have hb : ∀ k ∈ S', w.heap.size + 1 < k := fun k hk => by
    rcases hS k hk with e | e | e
    · exact h.b3 k e
    · simp at e
    · omega
  exact ⟨Only.heap hn h.zero (fun hm => by have := h.b3 _ hm; omega), Only.heap hn h.box (fun hm => by have := h.b3 _ hm; omega), OIII.ok.keep h.tabs fun k hk => hn.block k (l1 k hk) (h.d13 k hk), OI.ok.keep h.pls fun k hk => hn.block k (l2 k hk) (h.d23 k hk), ho, h.b1, h.b2, hb, h.d12,
    fun j hj hm => by
      rcases hS j hm with e | e | e
      · exact h.d13 j hj e
      · simp at e
      · have := l1 j hj; omega,
    fun j hj hm => by
      rcases hS j hm with e | e | e
      · exact h.d23 j hj e
      · simp at e
      · have := l2 j hj; omega, below_only h.bel hn (by omega) fun j hj => by have := h.b3 j hj; omega⟩
theorem CSt.pushP (hg : ∀ x, (g x).oneCell' = true) (h : CSt E g w nb m tg T Pl K fv tv pv S1 S2 S3 wr) {w5 : World} {v1 : Value} {Pl' : List Int} {S' : List Nat} (ho : OI w5 v1 Pl' S') (hn : Only S2 wr w5) (hS : ∀ k ∈ S', k ∈ S2 ∨ k ∈ ([] : List Nat) ∨ wr.heap.size ≤ k) :
    w5.heap[w.heap.size + 1]? = some (.cells #[.int .i64 nb, .int .i64 m, .int .i64 0, .int .i64 tg, tv, pv] 28 (0, 0)) ∧ CSt E g w nb m tg T Pl' K fv tv v1 S1 S' S3 (w5.setCell ⟨w.heap.size + 1, 5, none⟩ v1) := by
  have hz := h.size
  have l1 := OIII.ok.lt h.tabs
  have l3 := (Own.ok (leaf.ok hg)).lt h.kn
  have hb : ∀ k ∈ S', w.heap.size + 1 < k := fun k hk => by
    rcases hS k hk with e | e | e
    · exact h.b2 k e
    · simp at e
    · omega
  have hbx := Only.heap hn h.box (fun hm => by have := h.b2 _ hm; omega)
  have hzr := Only.heap hn h.zero (fun hm => by have := h.b2 _ hm; omega)
  have e2 := heap_setCell_same w5 (w.heap.size + 1) 5 _ _ v1 hbx
  have hset : ∀ k, k ≠ w.heap.size + 1 → (w5.setCell ⟨w.heap.size + 1, 5, none⟩ v1).heap[k]? = w5.heap[k]? := fun k hk => heap_setCell_other w5 _ k v1 (by simpa using hk)
  refine ⟨hbx, (hset _ (by omega)).trans hzr, ?_, OIII.ok.keep h.tabs fun k hk => (hset k (by have := h.b1 k hk; omega)).trans (hn.block k (l1 k hk) (h.d12 k hk)),
    OI.ok.keep ho fun k hk => hset k (by have := hb k hk; omega), (Own.ok (leaf.ok hg)).keep h.kn fun k hk => (hset k (by have := h.b3 k hk; omega)).trans (hn.block k (l3 k hk) fun hm => h.d23 k hm hk), h.b1, hb, h.b3, ?_, h.d13, ?_, ?_⟩
  · rw [e2]; rfl
  · intro j hj hm
    rcases hS j hm with e | e | e
    · exact h.d12 j hj e
    · simp at e
    · have := l1 j hj; omega
  · intro j hj hm
    rcases hS j hj with e | e | e
    · exact h.d23 j e hm
    · simp at e
    · have := l3 j hm; omega
  · exact (below_only h.bel hn (by omega) fun j hj => by have := h.b2 j hj; omega).setCell (by show _ ≤ w.heap.size + 1; omega) _
theorem CSt.pushT (hg : ∀ x, (g x).oneCell' = true) (h : CSt E g w nb m tg T Pl K fv tv pv S1 S2 S3 wr) {w5 : World} {v1 : Value} {T' : List (List (List Int))} {T7 S' : List Nat} (hT7 : ∀ j ∈ T7, w.heap.size + 1 < j ∧ j ∉ S2 ∧ j ∉ S3) (ho : OIII w5 v1 T' S') (hn : Only S1 wr w5) (hS : ∀ k ∈ S', k ∈ S1 ∨ k ∈ T7 ∨ wr.heap.size ≤ k) :
    w5.heap[w.heap.size + 1]? = some (.cells #[.int .i64 nb, .int .i64 m, .int .i64 0, .int .i64 tg, tv, pv] 28 (0, 0)) ∧ CSt E g w nb m tg T' Pl K fv v1 pv S' S2 S3 (w5.setCell ⟨w.heap.size + 1, 4, none⟩ v1) := by
  have hz := h.size
  have l2 := OI.ok.lt h.pls
  have l3 := (Own.ok (leaf.ok hg)).lt h.kn
  have hb : ∀ k ∈ S', w.heap.size + 1 < k := fun k hk => by
    rcases hS k hk with e | e | e
    · exact h.b1 k e
    · exact (hT7 k e).1
    · omega
  have hbx := Only.heap hn h.box (fun hm => by have := h.b1 _ hm; omega)
  have hzr := Only.heap hn h.zero (fun hm => by have := h.b1 _ hm; omega)
  have e2 := heap_setCell_same w5 (w.heap.size + 1) 4 _ _ v1 hbx
  have hset : ∀ k, k ≠ w.heap.size + 1 → (w5.setCell ⟨w.heap.size + 1, 4, none⟩ v1).heap[k]? = w5.heap[k]? := fun k hk => heap_setCell_other w5 _ k v1 (by simpa using hk)
  refine ⟨hbx, (hset _ (by omega)).trans hzr, ?_, OIII.ok.keep ho fun k hk => hset k (by have := hb k hk; omega), OI.ok.keep h.pls fun k hk => (hset k (by have := h.b2 k hk; omega)).trans (hn.block k (l2 k hk) fun hm => h.d12 k hm hk),
    (Own.ok (leaf.ok hg)).keep h.kn fun k hk => (hset k (by have := h.b3 k hk; omega)).trans (hn.block k (l3 k hk) fun hm => h.d13 k hm hk), hb, h.b2, h.b3, ?_, ?_, h.d23, ?_⟩
  · rw [e2]; rfl
  · intro j hj hm
    rcases hS j hj with e | e | e
    · exact h.d12 j e hm
    · exact (hT7 j e).2.1 hm
    · have := l2 j hm; omega
  · intro j hj hm
    rcases hS j hj with e | e | e
    · exact h.d13 j e hm
    · exact (hT7 j e).2.2 hm
    · have := l3 j hm; omega
  · exact (below_only h.bel hn (by omega) fun j hj => by have := h.b1 j hj; omega).setCell (by show _ ≤ w.heap.size + 1; omega) _
/-- What is handed back. -/
theorem CSt.done (hg : ∀ x, (g x).oneCell' = true) (h : CSt E g w nb m tg T Pl K fv tv pv S1 S2 S3 wr) {w' : World} (hn : Only [w.heap.size] wr w') {x : Chn} (hx : x = ⟨nb, m, 0, tg, T, Pl⟩) : Fresh OC w w' (.agg #[.int .i64 nb, .int .i64 m, .int .i64 0, .int .i64 tg, tv, pv]) x := by
  subst hx
  refine ⟨S1 ++ S2, ⟨tv, pv, S1, S2, rfl, OIII.ok.keep h.tabs fun k hk => hn.block k (OIII.ok.lt h.tabs k hk) (by have := h.b1 k hk; simp; omega), OI.ok.keep h.pls fun k hk => hn.block k (OI.ok.lt h.pls k hk) (by have := h.b2 k hk; simp; omega), rfl, h.d12⟩, fun k hk => ?_, below_only h.bel hn (by have := h.bel.size; omega) (by simp)⟩
  rcases List.mem_append.1 hk with e | e
  · have := h.b1 k e; omega
  · have := h.b2 k e; omega
end cst

section ats
variable {α : Type} [DecidableEq α]
/-- Where a list stands among the first j, or -1. -/
def atS (L : List α) (x : α) (j : Nat) : Int := if x ∈ L.take j then ((L.idxOf x : Nat) : Int) else -1
theorem atS_zero (L : List α) (x : α) : atS L x 0 = -1 := by simp [atS]
theorem atS_yes {L : List α} {x : α} (h : x ∈ L) : atS L x L.length = ((L.idxOf x : Nat) : Int) := by
  unfold atS; rw [List.take_length, if_pos h]
theorem atS_no {L : List α} {x : α} (h : x ∉ L) : atS L x L.length = -1 := by
  unfold atS; rw [List.take_length, if_neg h]
variable [Inhabited α]
theorem atS_hit {L : List α} {x : α} (hn : L.Nodup) {j : Nat} (hj : j < L.length) (h : nth L j = x) : atS L x (j + 1) = (j : Int) := by
  unfold atS
  rw [take_nth hj, if_pos (by rw [h]; simp), idx_at hn hj h]
theorem atS_miss {L : List α} {x : α} {j : Nat} (hj : j < L.length) (h : nth L j ≠ x) : atS L x (j + 1) = atS L x j := by
  unfold atS
  have e : (x ∈ L.take (j + 1)) ↔ x ∈ L.take j := by
    rw [take_nth hj, List.mem_append, List.mem_singleton]
    exact ⟨fun h1 => h1.resolve_right fun h2 => h h2.symm, .inl⟩
  by_cases h1 : x ∈ L.take j
  · rw [if_pos h1, if_pos (e.2 h1)]
  · rw [if_neg h1, if_neg fun h2 => h1 (e.1 h2)]
theorem key_in {ws : List α} {k : Nat} (h : nth ws k ∈ ddTo ws k) : ∃ ix : Nat, ix < (ddTo ws k).length ∧ atS (ddTo ws k) (nth ws k) (ddTo ws k).length = (ix : Int) ∧ ddTo ws (k + 1) = ddTo ws k ∧ plTo ws (k + 1) = plTo ws k ++ [(ix : Int)] := by
  have e := ddTo_yes h
  exact ⟨_, List.idxOf_lt_length_of_mem h, atS_yes h, e, by rw [plTo, e]⟩
theorem key_new {ws : List α} {k : Nat} (h : nth ws k ∉ ddTo ws k) : atS (ddTo ws k) (nth ws k) (ddTo ws k).length = -1 ∧ ddTo ws (k + 1) = ddTo ws k ++ [nth ws k] ∧ plTo ws (k + 1) = plTo ws k ++ [((ddTo ws k).length : Int)] := by
  have e := ddTo_no h
  exact ⟨atS_no h, e, by rw [plTo, e, idx_new h]⟩
end ats
theorem infoInt : (Try.prog.info? 3).map (fun i => (i.zero, i.size, i.bytes)) = some (some (.int .i64 0), 1, 8) := by kernel_rfl
theorem infoSl3' : (Try.prog.info? 38).map (fun i => (i.zero, i.size, i.bytes)) = some (some (.slice none 0 0), 1, 24) := by kernel_rfl
theorem tabOf_len (m : Nat) (l : List Int) : (tabOf m l).length = m := by simp [tabOf]
def tabsTo (f : List Int → List Int) (m : Nat) (keys : List (List Int)) (k : Nat) : List (List (List Int)) := (ddTo keys k).map fun l => tabOf m (f l)
theorem tabsTo_len (f : List Int → List Int) (m : Nat) (keys : List (List Int)) (k : Nat) : (tabsTo f m keys k).length = (ddTo keys k).length := by simp [tabsTo]
end Go.Proofs.Ytnpkanlieflbiaa
/- slices.Equal over numbers, and the closure of impl.adding. -/
namespace Go.Proofs.Ytnpkanlieflbiaa
open Go.RowKit
set_option linter.unusedVariables false

set_option maxHeartbeats 800000 in
set_option maxRecDepth 10000 in
theorem slEqual {P Q : Nat → Prop} {u v : Value} {xs ys : List Int} {w : World} (h : RdI P w u xs) (h' : RdI Q w v ys) :
    Calls Try.prog 131 #[u, v] w fun e w' => e = .returned (.bool (decide (xs = ys))) ∧ ∃ m, w.drewN m = w' := by
  have H := Lib.hid h
  have H' := Lib.hid h'
  obtain ⟨a, c, rfl, h1, h2, _⟩ := h
  obtain ⟨a', c', rfl, h3, h4, _⟩ := h'
  unfold maxLen at h2 h4
  by_cases hl : xs.length = ys.length
  · have Hl := Lib.hid hl
    obtain ⟨n, hn⟩ : ∃ n, xs.length = n := ⟨_, rfl⟩
    have Hn := Lib.hid hn
    have hn' : ys.length = n := by omega
    have Hn' := Lib.hid hn'
    rw [hn] at h1 H ⊢
    rw [hn'] at h3 H' ⊢
    clear hl hn hn'
    have hnn : ((n : Int) != (n : Int)) = false := by simp
    go_enter Try.func131, Try.ntmps131
    go_wp2
    go_loopw [13] (fun i wr => ∃ k m : Nat, k ≤ n ∧ i = .int .i64 k ∧ Hid (∀ j, j < k → nth xs j = nth ys j) ∧ Hid (w.drewN m = wr)) (fun i _ => n - (intOf i).toNat)
    case atStart => exact ⟨0, 0, Nat.zero_le _, rfl, Lib.hid fun _ h => absurd h (Nat.not_lt_zero _), Lib.hid rfl⟩
    case round =>
      obtain ⟨k, m, hk, rfl, hok, hm⟩ := hrel
      obtain ⟨W2, rfl⟩ : ∃ W2, W2 = wr := ⟨_, rfl⟩
      by_cases hlt : k < n
      · obtain ⟨b3, o3, u3, rfl, _, hc3, rfl⟩ := Rd.elim H.out k (by rw [Hn.out]; exact hlt)
        obtain ⟨b4, o4, u4, rfl, _, hc4, rfl⟩ := Rd.elim H'.out k (by rw [Hn'.out]; exact hlt)
        have c1 : W2.cell? ⟨b3, o3 + k, none⟩ = some (.int .i64 (nth xs k)) := by rw [← hm.out]; exact hc3
        have c2 : W2.cell? ⟨b4, o4 + k, none⟩ = some (.int .i64 (nth ys k)) := by rw [← hm.out]; exact hc4
        clear hc3 hc4
        have k0 : (0 : Int) ≤ (k : Int) := by omega
        have k1 : (k : Int) < (n : Int) := by omega
        by_cases he : nth xs k = nth ys k
        · have hok2 := Lib.hid (show ∀ j, j < k + 1 → nth xs j = nth ys j from fun j hj => by
            rcases Nat.lt_succ_iff_lt_or_eq.1 hj with h | rfl
            · exact hok.out j h
            · exact he)
          rw [he] at c1
          clear he
          generalize nth ys k = z at *
          have hzz : (z != z) = false := by simp
          go_wp2
          go_quiet (fail)
          go_wp2
          go_roundw
          case rel => exact ⟨k + 1, _, by omega, by go_num, hok2, Lib.hid (draws_more hm.out _)⟩
          case measure => simp [intOf]; omega
        · have hne := Lib.hid (show decide (xs = ys) = false by simp; intro e; exact he (by rw [e]))
          have hzz : (nth xs k != nth ys k) = true := by simp [he]
          generalize nth xs k = z1 at *
          generalize nth ys k = z2 at *
          go_wp2
          go_quiet (fail)
          go_wp2
          go_ret
          exact ⟨by rw [hne.out]; rfl, _, draws_more hm.out _⟩
      · obtain ⟨hkn⟩ : Nonempty (k = n) := ⟨by omega⟩
        have he := Lib.hid (show decide (xs = ys) = true by
          rw [decide_eq_true_eq]
          exact ext_nth Hl.out fun i hi => hok.out i (by have := Hn.out; omega))
        clear hkn
        go_wp2
        go_ret
        exact ⟨by rw [he.out]; rfl, m, hm.out⟩
  · have hne := Lib.hid (show decide (xs = ys) = false by simp; intro e; exact hl (by rw [e]))
    generalize xs.length = n1 at *
    generalize ys.length = n2 at *
    have hb : ((n1 : Int) != (n2 : Int)) = true := by simp; omega
    clear H H'
    go_enter Try.func131, Try.ntmps131
    go_wp2
    go_ret
    exact ⟨by rw [hne.out]; rfl, 0, rfl⟩

/-- The closure that looks for a list. -/
theorem implAdding1 {P Q : Nat → Prop} {u v : Value} {xs ys : List Int} {w : World} {lb : Nat} (h : RdI P w u xs) (h' : RdI Q w v ys) (hc : w.cell? ⟨lb, 0, none⟩ = some v) :
    Calls Try.prog 130 #[u, .pointer (some ⟨lb, 0, none⟩)] w fun e w' => e = .returned (.bool (decide (xs = ys))) ∧ ∃ m, w.drewN m = w' := by
  have hcl := Lib.hid (slEqual h h')
  obtain ⟨a, c, rfl, h1, h2, _⟩ := h
  obtain ⟨a', c', rfl, h3, h4, _⟩ := h'
  generalize decide (xs = ys) = b at *
  go_enter Try.func130, Try.ntmps130
  go_wp2_with fail
  refine (Calls.mono hcl.out ?_)
  rintro e w' ⟨rfl, m, rfl⟩
  go_wp2
  go_ret
  exact ⟨rfl, m, rfl⟩
end Go.Proofs.Ytnpkanlieflbiaa
