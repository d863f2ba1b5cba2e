/- Rows of things that own memory, and the laws' small functions over [][]int64. Printed by gen_h.py. -/
import Derived.Test.YthomdggbmjknnaaDoorH1
namespace Go.Proofs.YthomdggbmjknnaaDoor
open Go.RowKit
set_option linter.unusedVariables false

theorem nodup_set {Ss : List (List Nat)} {i : Nat} {T : List Nat} (hi : i < Ss.length) (h : Ss.flatten.Nodup) (hT : T.Nodup) (hd : ∀ k ∈ T, k ∉ Ss.flatten ∨ k ∈ nth Ss i) : (Ss.set i T).flatten.Nodup := by
  have hg : ∀ (A B : List (List Nat)) (C : List Nat), (A ++ C :: B).flatten.Nodup → (∀ k ∈ T, k ∉ (A ++ C :: B).flatten ∨ k ∈ C) → (A ++ T :: B).flatten.Nodup := by
    intro A B C h hd
    simp only [List.flatten_append, List.flatten_cons, List.nodup_append, List.mem_append] at h hd ⊢
    obtain ⟨h1, ⟨h2, h3, h4⟩, h5⟩ := h
    refine ⟨h1, ⟨hT, h3, ?_⟩, ?_⟩
    · rintro a ha b hb rfl
      rcases hd a ha with h | h
      · exact h (.inr (.inr hb))
      · exact h4 a h a hb rfl
    · rintro a ha b hb rfl
      rcases hb with hb | hb
      · rcases hd a hb with h | h
        · exact h (.inl ha)
        · exact h5 a ha a (.inl h) rfl
      · exact h5 a ha a (.inr hb) rfl
  have e1 : Ss = Ss.take i ++ nth Ss i :: Ss.drop (i + 1) := by
    rw [nth_eq hi, List.getElem_cons_drop, List.take_append_drop]
  have e2 : Ss.set i T = Ss.take i ++ T :: Ss.drop (i + 1) := by rw [List.set_eq_take_append_cons_drop, if_pos hi]
  rw [e2]
  rw [e1] at h
  refine hg _ _ _ h ?_
  rw [← e1]; exact hd

theorem mem_flatten_set {Ss : List (List Nat)} {i k : Nat} {T : List Nat} (h : k ∈ (Ss.set i T).flatten) : k ∈ Ss.flatten ∨ k ∈ T := by
  obtain ⟨L, hL, hk⟩ := List.mem_flatten.1 h
  rcases List.mem_or_eq_of_mem_set hL with h | rfl
  · exact .inl (List.mem_flatten.2 ⟨L, h, hk⟩)
  · exact .inr hk

theorem nth_flatten_disj {Ss : List (List Nat)} {i j k : Nat} (h : Ss.flatten.Nodup) (hi : i < Ss.length) (hj : j < Ss.length) (hk : k ∈ nth Ss i) (hk' : k ∈ nth Ss j) : i = j := by
  have hp := (List.pairwise_flatten.1 h).2
  rw [List.pairwise_iff_getElem] at hp
  rw [nth_eq hi] at hk
  rw [nth_eq hj] at hk'
  rcases Nat.lt_trichotomy i j with h | h | h
  · exact absurd rfl (hp i j hi hj h k hk k hk')
  · exact h
  · exact absurd rfl (hp j i hj hi h k hk' k hk)

theorem Own.isSlice {α : Type} [Inhabited α] {E : TypeId} {R : Rep α} {w : World} {v : Value} {xs : List α} {S : List Nat} (h : Own E R w v xs S) : ∃ a n c, v = .slice a n c := by
  rcases h with ⟨rfl, _⟩ | ⟨g, cap, cur, Ss, rfl, _⟩
  · exact ⟨_, _, _, rfl⟩
  · exact ⟨_, _, _, rfl⟩
section rows
variable {α : Type} [Inhabited α] {E : TypeId} {R : Rep α} {w : World} {g n c : Nat} {xs : List α} {S : List Nat}

/-- An element of an owned slice. -/
theorem Own.at (h : Own E R w (.slice (some ⟨g, 0, none⟩) n c) xs S) {i : Nat} (hi : i < xs.length) :
    ∃ u T, w.cell? ⟨g, i, none⟩ = some u ∧ R w u (nth xs i) T ∧ (∀ k ∈ T, k ∈ S ∧ k ≠ g) := by
  rcases h with ⟨h, _⟩ | ⟨g', cap, cur, Ss, h, hh, _, _, _, hS, hN, hl, he⟩
  · simp at h
  · simp only [Value.slice.injEq, Option.some.injEq, Addr.mk.injEq, and_true] at h
    obtain ⟨rfl, _⟩ := h
    obtain ⟨u, hu, hr⟩ := he i hi
    refine ⟨u, _, by rw [cell_of_row w g i cur E (0, 0) hh, hu], hr, fun k hk => ?_⟩
    have hm := mem_flatten_nth (by omega) hk
    rw [hS] at hN ⊢
    exact ⟨List.mem_cons_of_mem _ hm, fun e => (List.nodup_cons.1 hN).1 (e ▸ hm)⟩

/-- A store of a thing with its own blocks. -/
theorem Own.putR (hR : R.Ok) (h : Own E R w (.slice (some ⟨g, 0, none⟩) n c) xs S) {i : Nat} (hi : i < xs.length) {u : Value} {y : α} {T : List Nat} (hu : R w u y T) (hd : ∀ k ∈ T, k ∉ S) :
    ∃ S', Own E R (w.setCell ⟨g, i, none⟩ u) (.slice (some ⟨g, 0, none⟩) n c) (xs.set i y) S' ∧ ∀ k ∈ S', k ∈ S ∨ k ∈ T := by
  rcases h with ⟨h, _⟩ | ⟨g', cap, cur, Ss, h, hh, h1, h2, h3, hS, hN, hl, he⟩
  · simp at h
  · simp only [Value.slice.injEq, Option.some.injEq, Addr.mk.injEq, and_true] at h
    obtain ⟨rfl, rfl, rfl⟩ := h
    rw [hS] at hN hd
    have hN' := List.nodup_cons.1 hN
    have hkeep : ∀ {u' x' T'}, R w u' x' T' → (∀ k ∈ T', k ≠ g) → R (w.setCell ⟨g, i, none⟩ u) u' x' T' := fun hr hk => hR.keep hr fun k hk' => heap_setCell_other w _ k u (hk k hk')
    refine ⟨g :: (Ss.set i T).flatten, .inr ⟨g, c, cur.setIfInBounds i u, Ss.set i T, by simp, heap_setCell_same w g i cur E _ hh, by simpa using h1, by simpa using h2, h3, rfl, ?_, by simpa using hl, fun j hj => ?_⟩, fun k hk => ?_⟩
    · refine List.nodup_cons.2 ⟨fun hm => ?_, nodup_set (by omega) hN'.2 (hR.nodup hu) fun k hk => .inl fun hm => hd k hk (List.mem_cons_of_mem _ hm)⟩
      rcases mem_flatten_set hm with h | h
      · exact hN'.1 h
      · exact hd g h (by simp)
    · have hj' : j < xs.length := by simpa using hj
      obtain ⟨u', hu', hr⟩ := he j hj'
      rw [nth_set hi, nth_set (by omega)]
      by_cases e : i = j
      · subst e
        refine ⟨u, ?_, by rw [if_pos rfl, if_pos rfl]; exact hkeep hu fun k hk e => hd k hk (by rw [e]; simp)⟩
        rw [Array.getElem?_setIfInBounds_self_of_lt (by omega)]
      · rw [if_neg e, if_neg e]
        exact ⟨u', by rw [Array.getElem?_setIfInBounds_ne e]; exact hu', hkeep hr fun k hk e => hN'.1 (e ▸ mem_flatten_nth (by omega) hk)⟩
    · rcases List.mem_cons.1 hk with rfl | hk
      · exact .inl (by rw [hS]; simp)
      · rcases mem_flatten_set hk with h | h
        · exact .inl (by rw [hS]; exact List.mem_cons_of_mem _ h)
        · exact .inr h

/-- An element turned in place. -/
theorem Own.turnAt (hR : R.Ok) (h : Own E R w (.slice (some ⟨g, 0, none⟩) n c) xs S) {i : Nat} (hi : i < xs.length) :
    ∃ u T, w.cell? ⟨g, i, none⟩ = some u ∧ R w u (nth xs i) T ∧ (∀ k ∈ T, k ∈ S ∧ k ≠ g) ∧
      ∀ w' y, Only T w w' → R w' u y T → Own E R w' (.slice (some ⟨g, 0, none⟩) n c) (xs.set i y) S := by
  rcases h with ⟨h, _⟩ | ⟨g', cap, cur, Ss, h, hh, h1, h2, h3, hS, hN, hl, he⟩
  · simp at h
  · simp only [Value.slice.injEq, Option.some.injEq, Addr.mk.injEq, and_true] at h
    obtain ⟨rfl, rfl, rfl⟩ := h
    obtain ⟨u, hu, hr⟩ := he i hi
    rw [hS] at hN
    have hN' := List.nodup_cons.1 hN
    have hng : ∀ j, j < xs.length → ∀ k ∈ nth Ss j, k ≠ g := fun j hj k hk e => hN'.1 (e ▸ mem_flatten_nth (by omega) hk)
    refine ⟨u, _, by rw [cell_of_row w g i cur E (0, 0) hh, hu], hr, fun k hk => ⟨by rw [hS]; exact List.mem_cons_of_mem _ (mem_flatten_nth (by omega) hk), hng i hi k hk⟩, fun w' y hk hy => ?_⟩
    refine .inr ⟨g, c, cur, Ss, by simp, ?_, h1, by simpa using h2, h3, hS, by rw [hS]; exact hN, by simpa using hl, fun j hj => ?_⟩
    · rw [hk.block g (Array.getElem?_eq_some_iff.1 hh).1 (fun hm => hng i hi g hm rfl)]; exact hh
    · have hj' : j < xs.length := by simpa using hj
      rw [nth_set hi]
      by_cases e : i = j
      · subst e
        rw [if_pos rfl]
        exact ⟨u, hu, hy⟩
      · rw [if_neg e]
        obtain ⟨u', hu', hr'⟩ := he j hj'
        exact ⟨u', hu', hR.keep hr' fun k hk' => hk.block k (hR.lt hr' k hk') fun hm => e (nth_flatten_disj hN'.2 (by omega) (by omega) hm hk')⟩

/-- Behind make. -/
theorem Own.madeR (w : World) (E : TypeId) {z : Value} {x : α} (hz : ∀ w, R w z x []) (n : Nat) (hn : n ≤ maxLen) : Own E R (w.alloc (.cells (madeCells #[z] n) E)) (.slice (some ⟨w.heap.size, 0, none⟩) n n) (List.replicate n x) [w.heap.size] := by
  refine .inr ⟨w.heap.size, n, _, List.replicate n [], by simp, heap_alloc_new w _, by simp [size_madeCells], by simp, hn, by simp, by simp, by simp, fun i hi => ?_⟩
  have hi' : i < n := by simpa using hi
  exact ⟨z, by simp [madeCells, hi', Nat.mod_one], by rw [nth_replicate hi', nth_replicate hi']; exact hz _⟩
end rows

theorem own_nil {α : Type} [Inhabited α] {E : TypeId} {R : Rep α} (w : World) : Own E R w (.slice none 0 0) [] [] := .inl ⟨rfl, rfl, rfl⟩

/-! ### Counts and marks of rows -/
def cntL {α : Type} (cnt : α → Nat) (xs : List α) : Nat := (xs.map cnt).sum
def mkL {α : Type} (mk : Int → α → α) (cnt : α → Nat) : Int → List α → List α
  | _, [] => []
  | k, x :: xs => mk k x :: mkL mk cnt (k + cnt x) xs
def szL {α : Type} (sz : α → Nat) (xs : List α) : Nat := xs.length + cntL sz xs
/-- What is left of a size. -/
def szR (n : Nat) (left : Int) : Int := if (n : Int) ≤ left then left - n else -1
theorem szR_yes {n : Nat} {left : Int} (h : (n : Int) ≤ left) : szR n left = left - n := by simp [szR, h]
theorem szR_no {n : Nat} {left : Int} (h : left < n) : szR n left = -1 := by unfold szR; rw [if_neg (by omega)]
theorem cntL_take_succ {α : Type} [Inhabited α] (cnt : α → Nat) {xs : List α} {i : Nat} (h : i < xs.length) : cntL cnt (xs.take (i + 1)) = cntL cnt (xs.take i) + cnt (nth xs i) := by
  rw [take_nth h]; simp [cntL]
theorem cntL_take_le {α : Type} [Inhabited α] (cnt : α → Nat) (xs : List α) (i : Nat) : cntL cnt (xs.take i) ≤ cntL cnt xs := by
  have e := congrArg (cntL cnt) (List.take_append_drop i xs)
  simp only [cntL, List.map_append, List.sum_append] at e ⊢
  omega
theorem cntL_nth_le {α : Type} [Inhabited α] (cnt : α → Nat) {xs : List α} {i : Nat} (h : i < xs.length) : cnt (nth xs i) ≤ cntL cnt xs := by
  have h1 := cntL_take_succ cnt h
  have h2 := cntL_take_le cnt xs (i + 1)
  omega
theorem mkL_length {α : Type} (mk : Int → α → α) (cnt : α → Nat) (k : Int) (xs : List α) : (mkL mk cnt k xs).length = xs.length := by
  induction xs generalizing k with
  | nil => rfl
  | cons x xs ih => simp [mkL, ih]
theorem nth_mkL {α : Type} [Inhabited α] (mk : Int → α → α) (cnt : α → Nat) (k : Int) (xs : List α) {i : Nat} (h : i < xs.length) : nth (mkL mk cnt k xs) i = mk (k + (cntL cnt (xs.take i) : Nat)) (nth xs i) := by
  induction xs generalizing k i with
  | nil => simp at h
  | cons x xs ih =>
    cases i with
    | zero => simp [mkL, nth, cntL]
    | succ i =>
      have h' : i < xs.length := by simpa using h
      have e := ih (k + cnt x) h'
      simp only [mkL, nth, List.getD_cons_succ] at e ⊢
      rw [e]
      simp only [List.take_succ_cons, cntL, List.map_cons, List.sum_cons, Int.natCast_add, Int.add_assoc]

theorem draws_more {w wr : World} {m : Nat} (h : w.drewN m = wr) (n : Nat) : w.drewN (m + n) = wr.drewN n := by rw [← h, World.drewN_drewN]
theorem quiet_draws {f : FuncId} {args : Array Value} {w : World} {n : Nat} {v : Value}
    (h : Calls Tryd.prog f args (w.drewN n) fun e w' => e = .returned v ∧ ∃ m, (w.drewN n).drewN m = w') : Calls Tryd.prog f args (w.drewN n) fun e w'' => e = .returned v ∧ ∃ m, w'' = w.drewN m :=
  h.mono fun _ _ ⟨he, m, hm⟩ => ⟨he, n + m, by rw [← hm, World.drewN_drewN]⟩

abbrev mkS1 (k : Int) (xs : List Int) : List Int := mk1 k xs.length
theorem infoSl : (Tryd.prog.info? 24).map (fun i => (i.zero, i.size, i.bytes)) = some (some (.slice none 0 0), 1, 24) := by kernel_rfl
abbrev OII := Own 24 OI
theorem OII.ok : Rep.Ok OII := Own.ok OI.ok
theorem OII.leads : Leads OII RdII := Own.leads OI.leads
abbrev mkS2 : Int → List (List Int) → List (List Int) := mkL mkS1 List.length
abbrev mkS3 : Int → List (List (List Int)) → List (List (List Int)) := mkL mkS2 (cntL List.length)
theorem cntL_le_szL {α : Type} {cnt sz : α → Nat} (h : ∀ x, cnt x ≤ sz x) (xs : List α) : cntL cnt xs ≤ szL sz xs := by
  unfold szL
  have : cntL cnt xs ≤ cntL sz xs := by
    induction xs with
    | nil => simp [cntL]
    | cons x xs ih => simp only [cntL, List.map_cons, List.sum_cons] at ih ⊢; have := h x; omega
  omega
theorem cnt_le_sz2 (x : List (List Int)) : cntL List.length x ≤ szL List.length x := cntL_le_szL (fun _ => Nat.le_refl _) x
theorem cnt_le_sz3 (x : List (List (List Int))) : cntL (cntL List.length) x ≤ szL (szL List.length) x := cntL_le_szL cnt_le_sz2 x
theorem szL_eq {α : Type} (sz : α → Nat) (xs : List α) : szL sz xs = xs.length + cntL sz xs := rfl
theorem szL_len {α : Type} (sz : α → Nat) (xs : List α) : xs.length ≤ szL sz xs := by unfold szL; omega
theorem szL_nth {α : Type} [Inhabited α] (sz : α → Nat) {xs : List α} {i : Nat} (h : i < xs.length) : sz (nth xs i) ≤ szL sz xs := by
  have := cntL_nth_le sz h
  unfold szL; omega
theorem szL_take {α : Type} [Inhabited α] (sz : α → Nat) {xs : List α} {i : Nat} (h : i < xs.length) : xs.length + cntL sz (xs.take i) + sz (nth xs i) ≤ szL sz xs := by
  have h1 := cntL_take_succ sz h
  have h2 := cntL_take_le sz xs (i + 1)
  unfold szL; omega

theorem toInt64Sx {P : Nat → Prop} {v : Value} {xs : List Int} {w : World} (h : Rd rI P w v xs) (hP : ∀ k, P k → k < w.heap.size) (hn : xs.length ≤ 1048576) :
    Calls Tryd.prog 12 #[v] w fun e w' => ∃ v', e = .returned v' ∧ Fresh OI w w' v' xs := by
  refine (toInt64S h hP hn).mono ?_
  rintro e w' ⟨rfl, ho, hb⟩
  exact ⟨_, rfl, ⟨_, ho, by simp, hb⟩⟩

theorem szInt64S {P : Nat → Prop} {v : Value} {xs : List Int} {w : World} (h : Rd rI P w v xs) (left : Int) (hl : 0 ≤ left) (hl2 : left ≤ 1048576) :
    Calls Tryd.prog 42 #[v, .int .i64 left] w fun e w' => e = .returned (.int .i64 (szR (xs.length) left)) ∧ w = w' := by
  obtain ⟨a, c, rfl, h1, h2, hrd⟩ := h
  unfold maxLen at h2
  by_cases hle : (xs.length : Int) ≤ left
  · have hr := Lib.hid (szR_yes hle)
    go_enter Tryd.func42, Tryd.ntmps42
    go_wp2
    go_ret
    exact ⟨ret_int' (by rw [hr.out]), rfl⟩
  · have hr := Lib.hid (szR_no (n := xs.length) (left := left) (by omega))
    go_enter Tryd.func42, Tryd.ntmps42
    go_wp2
    go_ret
    exact ⟨ret_int' (by rw [hr.out]), rfl⟩

/-! ### Int64SS -/
end Go.Proofs.YthomdggbmjknnaaDoor
