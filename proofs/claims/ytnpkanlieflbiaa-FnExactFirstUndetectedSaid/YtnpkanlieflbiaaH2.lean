/- Rows of things that own memory, and the laws' small functions over [][]int64. Printed by gen_h.py. -/
import Derived.Test.YtnpkanlieflbiaaH1
namespace Go.Proofs.Ytnpkanlieflbiaa
open Go.RowKit
set_option linter.unusedVariables false

theorem nodup_set {Ss : List (List Nat)} {i : Nat} {T : List Nat} (hi : i < Ss.length) (h : Ss.flatten.Nodup) (hT : T.Nodup) (hd : ∀ k ∈ T, k ∉ Ss.flatten ∨ k ∈ nth Ss i) : (Ss.set i T).flatten.Nodup := by
  have hg : ∀ (A B : List (List Nat)) (C : List Nat), (A ++ C :: B).flatten.Nodup → (∀ k ∈ T, k ∉ (A ++ C :: B).flatten ∨ k ∈ C) → (A ++ T :: B).flatten.Nodup := by
    intro A B C h hd
    simp only [List.flatten_append, List.flatten_cons, List.nodup_append, List.mem_append] at h hd ⊢
    obtain ⟨h1, ⟨h2, h3, h4⟩, h5⟩ := h
    refine ⟨h1, ⟨hT, h3, ?_⟩, ?_⟩
    · rintro a ha b hb rfl
      rcases hd a ha with h | h
      · exact h (.inr (.inr hb))
      · exact h4 a h a hb rfl
    · rintro a ha b hb rfl
      rcases hb with hb | hb
      · rcases hd a hb with h | h
        · exact h (.inl ha)
        · exact h5 a ha a (.inl h) rfl
      · exact h5 a ha a (.inr hb) rfl
  have e1 : Ss = Ss.take i ++ nth Ss i :: Ss.drop (i + 1) := by
    rw [nth_eq hi, List.getElem_cons_drop, List.take_append_drop]
  have e2 : Ss.set i T = Ss.take i ++ T :: Ss.drop (i + 1) := by rw [List.set_eq_take_append_cons_drop, if_pos hi]
  rw [e2]
  rw [e1] at h
  refine hg _ _ _ h ?_
  rw [← e1]; exact hd

theorem mem_flatten_set {Ss : List (List Nat)} {i k : Nat} {T : List Nat} (h : k ∈ (Ss.set i T).flatten) : k ∈ Ss.flatten ∨ k ∈ T := by
  obtain ⟨L, hL, hk⟩ := List.mem_flatten.1 h
  rcases List.mem_or_eq_of_mem_set hL with h | rfl
  · exact .inl (List.mem_flatten.2 ⟨L, h, hk⟩)
  · exact .inr hk

theorem nth_flatten_disj {Ss : List (List Nat)} {i j k : Nat} (h : Ss.flatten.Nodup) (hi : i < Ss.length) (hj : j < Ss.length) (hk : k ∈ nth Ss i) (hk' : k ∈ nth Ss j) : i = j := by
  have hp := (List.pairwise_flatten.1 h).2
  rw [List.pairwise_iff_getElem] at hp
  rw [nth_eq hi] at hk
  rw [nth_eq hj] at hk'
  rcases Nat.lt_trichotomy i j with h | h | h
  · exact absurd rfl (hp i j hi hj h k hk k hk')
  · exact h
  · exact absurd rfl (hp j i hj hi h k hk' k hk)

theorem Own.isSlice {α : Type} [Inhabited α] {E : TypeId} {R : Rep α} {w : World} {v : Value} {xs : List α} {S : List Nat} (h : Own E R w v xs S) : ∃ a n c, v = .slice a n c := by
  rcases h with ⟨rfl, _⟩ | ⟨g, cap, cur, Ss, rfl, _⟩
  · exact ⟨_, _, _, rfl⟩
  · exact ⟨_, _, _, rfl⟩
section rows
variable {α : Type} [Inhabited α] {E : TypeId} {R : Rep α} {w : World} {g n c : Nat} {xs : List α} {S : List Nat}

/-- An element of an owned slice. -/
theorem Own.at (h : Own E R w (.slice (some ⟨g, 0, none⟩) n c) xs S) {i : Nat} (hi : i < xs.length) :
    ∃ u T, w.cell? ⟨g, i, none⟩ = some u ∧ R w u (nth xs i) T ∧ (∀ k ∈ T, k ∈ S ∧ k ≠ g) := by
  rcases h with ⟨h, _⟩ | ⟨g', cap, cur, Ss, h, hh, _, _, _, hS, hN, hl, he⟩
  · simp at h
  · simp only [Value.slice.injEq, Option.some.injEq, Addr.mk.injEq, and_true] at h
    obtain ⟨rfl, _⟩ := h
    obtain ⟨u, hu, hr⟩ := he i hi
    refine ⟨u, _, by rw [cell_of_row w g i cur E (0, 0) hh, hu], hr, fun k hk => ?_⟩
    have hm := mem_flatten_nth (by omega) hk
    rw [hS] at hN ⊢
    exact ⟨List.mem_cons_of_mem _ hm, fun e => (List.nodup_cons.1 hN).1 (e ▸ hm)⟩

/-- A store of a thing with its own blocks. -/
theorem Own.putR (hR : R.Ok) (h : Own E R w (.slice (some ⟨g, 0, none⟩) n c) xs S) {i : Nat} (hi : i < xs.length) {u : Value} {y : α} {T : List Nat} (hu : R w u y T) (hd : ∀ k ∈ T, k ∉ S) :
    ∃ S', Own E R (w.setCell ⟨g, i, none⟩ u) (.slice (some ⟨g, 0, none⟩) n c) (xs.set i y) S' ∧ ∀ k ∈ S', k ∈ S ∨ k ∈ T := by
  rcases h with ⟨h, _⟩ | ⟨g', cap, cur, Ss, h, hh, h1, h2, h3, hS, hN, hl, he⟩
  · simp at h
  · simp only [Value.slice.injEq, Option.some.injEq, Addr.mk.injEq, and_true] at h
    obtain ⟨rfl, rfl, rfl⟩ := h
    rw [hS] at hN hd
    have hN' := List.nodup_cons.1 hN
    have hkeep : ∀ {u' x' T'}, R w u' x' T' → (∀ k ∈ T', k ≠ g) → R (w.setCell ⟨g, i, none⟩ u) u' x' T' := fun hr hk => hR.keep hr fun k hk' => heap_setCell_other w _ k u (hk k hk')
    refine ⟨g :: (Ss.set i T).flatten, .inr ⟨g, c, cur.setIfInBounds i u, Ss.set i T, by simp, heap_setCell_same w g i cur E _ hh, by simpa using h1, by simpa using h2, h3, rfl, ?_, by simpa using hl, fun j hj => ?_⟩, fun k hk => ?_⟩
    · refine List.nodup_cons.2 ⟨fun hm => ?_, nodup_set (by omega) hN'.2 (hR.nodup hu) fun k hk => .inl fun hm => hd k hk (List.mem_cons_of_mem _ hm)⟩
      rcases mem_flatten_set hm with h | h
      · exact hN'.1 h
      · exact hd g h (by simp)
    · have hj' : j < xs.length := by simpa using hj
      obtain ⟨u', hu', hr⟩ := he j hj'
      rw [nth_set hi, nth_set (by omega)]
      by_cases e : i = j
      · subst e
        refine ⟨u, ?_, by rw [if_pos rfl, if_pos rfl]; exact hkeep hu fun k hk e => hd k hk (by rw [e]; simp)⟩
        rw [Array.getElem?_setIfInBounds_self_of_lt (by omega)]
      · rw [if_neg e, if_neg e]
        exact ⟨u', by rw [Array.getElem?_setIfInBounds_ne e]; exact hu', hkeep hr fun k hk e => hN'.1 (e ▸ mem_flatten_nth (by omega) hk)⟩
    · rcases List.mem_cons.1 hk with rfl | hk
      · exact .inl (by rw [hS]; simp)
      · rcases mem_flatten_set hk with h | h
        · exact .inl (by rw [hS]; exact List.mem_cons_of_mem _ h)
        · exact .inr h

/-- An element turned in place. -/
theorem Own.turnAt (hR : R.Ok) (h : Own E R w (.slice (some ⟨g, 0, none⟩) n c) xs S) {i : Nat} (hi : i < xs.length) :
    ∃ u T, w.cell? ⟨g, i, none⟩ = some u ∧ R w u (nth xs i) T ∧ (∀ k ∈ T, k ∈ S ∧ k ≠ g) ∧
      ∀ w' y, Only T w w' → R w' u y T → Own E R w' (.slice (some ⟨g, 0, none⟩) n c) (xs.set i y) S := by
  rcases h with ⟨h, _⟩ | ⟨g', cap, cur, Ss, h, hh, h1, h2, h3, hS, hN, hl, he⟩
  · simp at h
  · simp only [Value.slice.injEq, Option.some.injEq, Addr.mk.injEq, and_true] at h
    obtain ⟨rfl, rfl, rfl⟩ := h
    obtain ⟨u, hu, hr⟩ := he i hi
    rw [hS] at hN
    have hN' := List.nodup_cons.1 hN
    have hng : ∀ j, j < xs.length → ∀ k ∈ nth Ss j, k ≠ g := fun j hj k hk e => hN'.1 (e ▸ mem_flatten_nth (by omega) hk)
    refine ⟨u, _, by rw [cell_of_row w g i cur E (0, 0) hh, hu], hr, fun k hk => ⟨by rw [hS]; exact List.mem_cons_of_mem _ (mem_flatten_nth (by omega) hk), hng i hi k hk⟩, fun w' y hk hy => ?_⟩
    refine .inr ⟨g, c, cur, Ss, by simp, ?_, h1, by simpa using h2, h3, hS, by rw [hS]; exact hN, by simpa using hl, fun j hj => ?_⟩
    · rw [hk.block g (Array.getElem?_eq_some_iff.1 hh).1 (fun hm => hng i hi g hm rfl)]; exact hh
    · have hj' : j < xs.length := by simpa using hj
      rw [nth_set hi]
      by_cases e : i = j
      · subst e
        rw [if_pos rfl]
        exact ⟨u, hu, hy⟩
      · rw [if_neg e]
        obtain ⟨u', hu', hr'⟩ := he j hj'
        exact ⟨u', hu', hR.keep hr' fun k hk' => hk.block k (hR.lt hr' k hk') fun hm => e (nth_flatten_disj hN'.2 (by omega) (by omega) hm hk')⟩

/-- Behind make. -/
theorem Own.madeR (w : World) (E : TypeId) {z : Value} {x : α} (hz : ∀ w, R w z x []) (n : Nat) (hn : n ≤ maxLen) : Own E R (w.alloc (.cells (madeCells #[z] n) E)) (.slice (some ⟨w.heap.size, 0, none⟩) n n) (List.replicate n x) [w.heap.size] := by
  refine .inr ⟨w.heap.size, n, _, List.replicate n [], by simp, heap_alloc_new w _, by simp [size_madeCells], by simp, hn, by simp, by simp, by simp, fun i hi => ?_⟩
  have hi' : i < n := by simpa using hi
  exact ⟨z, by simp [madeCells, hi', Nat.mod_one], by rw [nth_replicate hi', nth_replicate hi']; exact hz _⟩
end rows

theorem own_nil {α : Type} [Inhabited α] {E : TypeId} {R : Rep α} (w : World) : Own E R w (.slice none 0 0) [] [] := .inl ⟨rfl, rfl, rfl⟩

/-! ### Counts and marks of rows -/
def cntL {α : Type} (cnt : α → Nat) (xs : List α) : Nat := (xs.map cnt).sum
def mkL {α : Type} (mk : Int → α → α) (cnt : α → Nat) : Int → List α → List α
  | _, [] => []
  | k, x :: xs => mk k x :: mkL mk cnt (k + cnt x) xs
def szL {α : Type} (sz : α → Nat) (xs : List α) : Nat := xs.length + cntL sz xs
/-- What is left of a size. -/
def szR (n : Nat) (left : Int) : Int := if (n : Int) ≤ left then left - n else -1
theorem szR_yes {n : Nat} {left : Int} (h : (n : Int) ≤ left) : szR n left = left - n := by simp [szR, h]
theorem szR_no {n : Nat} {left : Int} (h : left < n) : szR n left = -1 := by unfold szR; rw [if_neg (by omega)]
theorem cntL_take_succ {α : Type} [Inhabited α] (cnt : α → Nat) {xs : List α} {i : Nat} (h : i < xs.length) : cntL cnt (xs.take (i + 1)) = cntL cnt (xs.take i) + cnt (nth xs i) := by
  rw [take_nth h]; simp [cntL]
theorem cntL_take_le {α : Type} [Inhabited α] (cnt : α → Nat) (xs : List α) (i : Nat) : cntL cnt (xs.take i) ≤ cntL cnt xs := by
  have e := congrArg (cntL cnt) (List.take_append_drop i xs)
  simp only [cntL, List.map_append, List.sum_append] at e ⊢
  omega
theorem cntL_nth_le {α : Type} [Inhabited α] (cnt : α → Nat) {xs : List α} {i : Nat} (h : i < xs.length) : cnt (nth xs i) ≤ cntL cnt xs := by
  have h1 := cntL_take_succ cnt h
  have h2 := cntL_take_le cnt xs (i + 1)
  omega
theorem mkL_length {α : Type} (mk : Int → α → α) (cnt : α → Nat) (k : Int) (xs : List α) : (mkL mk cnt k xs).length = xs.length := by
  induction xs generalizing k with
  | nil => rfl
  | cons x xs ih => simp [mkL, ih]
theorem nth_mkL {α : Type} [Inhabited α] (mk : Int → α → α) (cnt : α → Nat) (k : Int) (xs : List α) {i : Nat} (h : i < xs.length) : nth (mkL mk cnt k xs) i = mk (k + (cntL cnt (xs.take i) : Nat)) (nth xs i) := by
  induction xs generalizing k i with
  | nil => simp at h
  | cons x xs ih =>
    cases i with
    | zero => simp [mkL, nth, cntL]
    | succ i =>
      have h' : i < xs.length := by simpa using h
      have e := ih (k + cnt x) h'
      simp only [mkL, nth, List.getD_cons_succ] at e ⊢
      rw [e]
      simp only [List.take_succ_cons, cntL, List.map_cons, List.sum_cons, Int.natCast_add, Int.add_assoc]

theorem draws_more {w wr : World} {m : Nat} (h : w.drewN m = wr) (n : Nat) : w.drewN (m + n) = wr.drewN n := by rw [← h, World.drewN_drewN]
theorem quiet_draws {f : FuncId} {args : Array Value} {w : World} {n : Nat} {v : Value}
    (h : Calls Try.prog f args (w.drewN n) fun e w' => e = .returned v ∧ ∃ m, (w.drewN n).drewN m = w') : Calls Try.prog f args (w.drewN n) fun e w'' => e = .returned v ∧ ∃ m, w'' = w.drewN m :=
  h.mono fun _ _ ⟨he, m, hm⟩ => ⟨he, n + m, by rw [← hm, World.drewN_drewN]⟩

abbrev mkS1 (k : Int) (xs : List Int) : List Int := mk1 k xs.length
theorem infoSl : (Try.prog.info? 22).map (fun i => (i.zero, i.size, i.bytes)) = some (some (.slice none 0 0), 1, 24) := by kernel_rfl
theorem infoSl2 : (Try.prog.info? 38).map (fun i => (i.zero, i.size, i.bytes)) = some (some (.slice none 0 0), 1, 24) := by kernel_rfl
abbrev OII := Own 22 OI
abbrev OIII := Own 38 OII
theorem OII.ok : Rep.Ok OII := Own.ok OI.ok
theorem OII.leads : Leads OII RdII := Own.leads OI.leads
theorem OIII.ok : Rep.Ok OIII := Own.ok OII.ok
theorem OIII.leads : Leads OIII RdIII := Own.leads OII.leads
abbrev mkS2 : Int → List (List Int) → List (List Int) := mkL mkS1 List.length
abbrev mkS3 : Int → List (List (List Int)) → List (List (List Int)) := mkL mkS2 (cntL List.length)
theorem cntL_le_szL {α : Type} {cnt sz : α → Nat} (h : ∀ x, cnt x ≤ sz x) (xs : List α) : cntL cnt xs ≤ szL sz xs := by
  unfold szL
  have : cntL cnt xs ≤ cntL sz xs := by
    induction xs with
    | nil => simp [cntL]
    | cons x xs ih => simp only [cntL, List.map_cons, List.sum_cons] at ih ⊢; have := h x; omega
  omega
theorem cnt_le_sz2 (x : List (List Int)) : cntL List.length x ≤ szL List.length x := cntL_le_szL (fun _ => Nat.le_refl _) x
theorem cnt_le_sz3 (x : List (List (List Int))) : cntL (cntL List.length) x ≤ szL (szL List.length) x := cntL_le_szL cnt_le_sz2 x
theorem szL_eq {α : Type} (sz : α → Nat) (xs : List α) : szL sz xs = xs.length + cntL sz xs := rfl
theorem szL_len {α : Type} (sz : α → Nat) (xs : List α) : xs.length ≤ szL sz xs := by unfold szL; omega
theorem szL_nth {α : Type} [Inhabited α] (sz : α → Nat) {xs : List α} {i : Nat} (h : i < xs.length) : sz (nth xs i) ≤ szL sz xs := by
  have := cntL_nth_le sz h
  unfold szL; omega
theorem szL_take {α : Type} [Inhabited α] (sz : α → Nat) {xs : List α} {i : Nat} (h : i < xs.length) : xs.length + cntL sz (xs.take i) + sz (nth xs i) ≤ szL sz xs := by
  have h1 := cntL_take_succ sz h
  have h2 := cntL_take_le sz xs (i + 1)
  unfold szL; omega

theorem toInt64Sx {P : Nat → Prop} {v : Value} {xs : List Int} {w : World} (h : Rd rI P w v xs) (hP : ∀ k, P k → k < w.heap.size) (hn : xs.length ≤ 1048576) :
    Calls Try.prog 60 #[v] w fun e w' => ∃ v', e = .returned v' ∧ Fresh OI w w' v' xs := by
  refine (toInt64S h hP hn).mono ?_
  rintro e w' ⟨rfl, ho, hb⟩
  exact ⟨_, rfl, ⟨_, ho, by simp, hb⟩⟩

theorem szInt64S {P : Nat → Prop} {v : Value} {xs : List Int} {w : World} (h : Rd rI P w v xs) (left : Int) (hl : 0 ≤ left) (hl2 : left ≤ 1048576) :
    Calls Try.prog 57 #[v, .int .i64 left] w fun e w' => e = .returned (.int .i64 (szR (xs.length) left)) ∧ w = w' := by
  obtain ⟨a, c, rfl, h1, h2, hrd⟩ := h
  unfold maxLen at h2
  by_cases hle : (xs.length : Int) ≤ left
  · have hr := Lib.hid (szR_yes hle)
    go_enter Try.func57, Try.ntmps57
    go_wp2
    go_ret
    exact ⟨ret_int' (by rw [hr.out]), rfl⟩
  · have hr := Lib.hid (szR_no (n := xs.length) (left := left) (by omega))
    go_enter Try.func57, Try.ntmps57
    go_wp2
    go_ret
    exact ⟨ret_int' (by rw [hr.out]), rfl⟩

/-! ### Int64SS -/
theorem toInt64SS {P : Nat → Prop} {v : Value} {xs : List (List Int)} {w : World} (h : RdII P w v xs) (hP : ∀ k, P k → k < w.heap.size) (hn : szL List.length xs ≤ 1048576) :
    Calls Try.prog 43 #[v] w fun e w' => ∃ v', e = .returned v' ∧ Fresh OII w w' v' xs := by
  obtain ⟨a, c, rfl, h1, h2, hrd⟩ := h
  have hlen : xs.length ≤ 1048576 := Nat.le_trans (szL_len List.length xs) hn
  have hmk := run_make_row' (P := Try.prog) 38 22 (.slice none 0 0) 24 Try.underlying38 infoSl rfl .i64 .i64 xs.length (by omega) (by omega)
  have Hrd := Lib.hid hrd; clear hrd
  go_enter Try.func43, Try.ntmps43
  go_wp2
  go_loopw [4] (fun i wr => ∃ (k : Nat) (ys : List (List Int)) (S : List Nat), k ≤ xs.length ∧ i = .int .i64 k ∧ Hid (ys.length = xs.length ∧ ∀ j, j < k → nth ys j = nth xs j) ∧
      OII wr (.slice (some ⟨w.heap.size, 0, none⟩) xs.length xs.length) ys S ∧ Below w.heap.size w wr ∧ Hid (∀ j ∈ S, w.heap.size ≤ j)) (fun i _ => xs.length - (intOf i).toNat)
  case atStart => exact ⟨0, List.replicate xs.length [], _, Nat.zero_le _, rfl, Lib.hid ⟨by simp, fun _ h => absurd h (Nat.not_lt_zero _)⟩, Own.madeR w _ own_nil _ (by unfold maxLen at h2 ⊢; omega), (Below.refl _ _).alloc (Nat.le_refl _) _, Lib.hid (by simp)⟩
  case round =>
    obtain ⟨k, ys, S, hk, rfl, hys, hown, hbel, hS⟩ := hrel
    by_cases hlt : k < xs.length
    · obtain ⟨b, o, u, rfl, hPb, hc, hu⟩ := Hrd.out k hlt
      have hly := hys.out.1
      have hc1 : wr.cell? ⟨b, o + k, none⟩ = some u := (hbel.cell (hP b hPb)).trans hc
      have hu1 := Lib.hid (RdI.ok.keep hu fun j hj => hbel.block j (hP j hj))
      have hPr := Lib.hid (fun j (hj : P j) => Nat.lt_of_lt_of_le (hP j hj) hbel.size)
      have hszk := Lib.hid (Nat.le_trans (szL_nth List.length hlt) hn)
      have hys2 := Lib.hid (show (ys.set k (nth xs k)).length = xs.length ∧ ∀ j, j < k + 1 → nth (ys.set k (nth xs k)) j = nth xs j from
        ⟨by simpa using hly, fun j hj => by
          rw [nth_set (by omega)]
          split
          · rename_i e; rw [e]
          · exact hys.out.2 j (by omega)⟩)
      have Hown := Lib.hid hown
      have Hbel := Lib.hid hbel
      have hlty : k < ys.length := by omega
      clear hly hown hbel hys hc hu
      go_wp2_with fail
      refine (toInt64Sx hu1.out hPr.out hszk.out).mono ?_
      rintro e w1 ⟨v1, rfl, T, hT, hT2, hb1⟩
      obtain ⟨av, nv, cv, rfl⟩ := hT.isSlice
      have hown1 := Own.below OI.ok Hown.out hb1
      have hf2 := hown1.frozen k
      obtain ⟨u2, T2, hc2, _⟩ := hown1.at hlty
      obtain ⟨S', hp, hS'⟩ := hown1.putR OI.ok hlty hT (fun j hj hm => by have h1 := hT2 j hj; have h2 := OII.ok.lt Hown.out j hm; omega)
      have Hp := Lib.hid hp
      have HS' := Lib.hid (show ∀ j ∈ S', w.heap.size ≤ j from fun j hj => by
        rcases hS' j hj with h | h
        · exact hS.out j h
        · exact Nat.le_trans Hbel.out.size (hT2 j h))
      have hb2 := Lib.hid (Hbel.out.trans (hb1.mono Hbel.out.size))
      clear hp hS' hT hT2 hb1 hown1
      go_wp2
      go_roundw
      case rel => exact ⟨k + 1, _, S', by omega, by go_num, hys2, Hp.out, hb2.out.setCell (Nat.le_refl _) _, HS'⟩
      case measure => simp [intOf]; omega
    · obtain rfl : k = xs.length := by omega
      have e : ys = xs := ext_nth hys.out.1 (fun i hi => hys.out.2 i (by have := hys.out.1; omega))
      subst e
      go_wp2
      go_ret
      exact ⟨_, rfl, S, hown, hS.out, hbel⟩
theorem toInt64SSx {P : Nat → Prop} {v : Value} {xs : List (List Int)} {w : World} (h : RdII P w v xs) (hP : ∀ k, P k → k < w.heap.size) (hn : szL List.length xs ≤ 1048576) :
    Calls Try.prog 43 #[v] w fun e w' => ∃ v', e = .returned v' ∧ Fresh OII w w' v' xs := toInt64SS h hP hn

theorem szInt64SS {P : Nat → Prop} {v : Value} {xs : List (List Int)} {w : World} (h : RdII P w v xs) (left : Int) (hl : 0 ≤ left) (hl2 : left ≤ 1048576) :
    Calls Try.prog 41 #[v, .int .i64 left] w fun e w' => e = .returned (.int .i64 (szR (szL List.length xs) left)) ∧ w = w' := by
  obtain ⟨a, c, rfl, h1, h2, hrd⟩ := h
  have Hrd := Lib.hid hrd; clear hrd
  unfold maxLen at h2
  by_cases hle : (xs.length : Int) ≤ left
  · go_enter Try.func41, Try.ntmps41
    go_wp2
    go_loop [1, 5] (fun x i => ∃ k : Nat, k ≤ xs.length ∧ i = .int .i64 k ∧ x = .int .i64 (left - xs.length - (cntL List.length (xs.take k) : Nat)) ∧ (cntL List.length (xs.take k) : Int) ≤ left - xs.length) (fun _ i => xs.length - (intOf i).toNat)
    case atStart => exact ⟨0, Nat.zero_le _, rfl, by simp [cntL], by simp [cntL]; omega⟩
    case round =>
      obtain ⟨k, hk, rfl, rfl, hle2⟩ := hrel
      by_cases hlt : k < xs.length
      · obtain ⟨b, o, u, rfl, hPb, hc, hu⟩ := Hrd.out k hlt
        have hst := cntL_take_succ List.length hlt
        have Hu := Lib.hid hu; clear hu
        generalize hC : cntL List.length (xs.take k) = C at hle2 hst ⊢
        by_cases hle3 : (List.length (nth xs k) : Int) ≤ left - xs.length - C
        · have hr := szR_yes hle3
          generalize hD : List.length (nth xs k) = D at hst hle3 hr
          go_wp2_with fail
          refine (szInt64S Hu.out _ (by omega) (by omega)).mono ?_
          rw [hD, hr]
          rintro e w' ⟨rfl, rfl⟩
          go_wp2
          go_round
          case rel => exact ⟨k + 1, by omega, by go_num, by go_num, by omega⟩
          case measure => simp [intOf]; omega
        · have hr := szR_no (n := List.length (nth xs k)) (left := left - xs.length - C) (by omega)
          have hr2 := Lib.hid (szR_no (n := szL List.length xs) (left := left) (by have := szL_take List.length hlt; rw [hC] at this; omega))
          generalize hD : List.length (nth xs k) = D at hst hle3 hr
          go_wp2_with fail
          refine (szInt64S Hu.out _ (by omega) (by omega)).mono ?_
          rw [hD, hr]
          rintro e w' ⟨rfl, rfl⟩
          go_wp2
          go_ret
          exact ⟨ret_int' (by rw [hr2.out]), rfl⟩
      · obtain rfl : k = xs.length := by omega
        rw [List.take_length] at hle2 ⊢
        have hr := Lib.hid (show szR (szL List.length xs) left = left - xs.length - (cntL List.length xs : Nat) by rw [szR_yes (by rw [szL_eq]; omega)]; rw [szL_eq]; omega)
        go_wp2
        go_ret
        exact ⟨ret_int' (by rw [hr.out]), rfl⟩
  · have hr := Lib.hid (szR_no (n := szL List.length xs) (left := left) (by have := szL_len List.length xs; omega))
    go_enter Try.func41, Try.ntmps41
    go_wp2
    go_ret
    exact ⟨ret_int' (by rw [hr.out]), rfl⟩

theorem eqInt64SS {P Q : Nat → Prop} {va vb : Value} {xs : List (List Int)} {w : World} (ha : RdII P w va xs) (hb : RdII Q w vb xs) :
    Calls Try.prog 45 #[va, vb] w fun e w' => e = .returned (.bool true) ∧ ∃ n, w.drewN n = w' := by
  obtain ⟨a, c, rfl, h1, h2, hrd⟩ := ha
  obtain ⟨a', c', rfl, h1', h2', hrd'⟩ := hb
  have Hrd := Lib.hid hrd; clear hrd
  have Hrd' := Lib.hid hrd'; clear hrd'
  unfold maxLen at h2 h2'
  go_enter Try.func45, Try.ntmps45
  go_wp2
  go_loopw [5] (fun i wr => ∃ (k m : Nat), k ≤ xs.length ∧ i = .int .i64 k ∧ Hid (w.drewN m = wr)) (fun i _ => xs.length - (intOf i).toNat)
  case atStart => exact ⟨0, 0, Nat.zero_le _, rfl, Lib.hid rfl⟩
  case round =>
    obtain ⟨k, m, hk, rfl, hm⟩ := hrel
    by_cases hlt : k < xs.length
    · obtain ⟨b, o, u, rfl, hPb, hc, hu⟩ := Hrd.out k hlt
      obtain ⟨b', o', u', rfl, hPb', hc', hu'⟩ := Hrd'.out k hlt
      have Hu := Lib.hid (RdI.ok.keep (w' := wr) hu fun _ _ => by rw [← hm.out]; rfl)
      have Hu' := Lib.hid (RdI.ok.keep (w' := wr) hu' fun _ _ => by rw [← hm.out]; rfl)
      have hc1 : wr.cell? ⟨b, o + k, none⟩ = some u := by rw [← hm.out]; exact hc
      have hc1' : wr.cell? ⟨b', o' + k, none⟩ = some u' := by rw [← hm.out]; exact hc'
      clear hu hu' hc hc'
      go_wp2
      go_quiet ((go_at_call 64; exact quiet_draws (eqInt64S (RdI.ok.keep Hu.out fun _ _ => rfl) (RdI.ok.keep Hu'.out fun _ _ => rfl))))
      go_wp2
      go_roundw
      case rel => exact ⟨k + 1, _, by omega, by go_num, Lib.hid (draws_more hm.out _)⟩
      case measure => simp [intOf]; omega
    · obtain rfl : k = xs.length := by omega
      go_wp2
      go_ret
      exact ⟨rfl, m, hm.out⟩

theorem markInt64SS {v : Value} {xs : List (List Int)} {S : List Nat} {w : World} {k : Int} (h : OII w v xs S) (hk : 0 ≤ k) (hk2 : k + cntL List.length xs ≤ 4611686018427387904) :
    Calls Try.prog 46 #[v, .int .i64 k] w fun e w' => e = .returned (.int .i64 (k + cntL List.length xs)) ∧ OII w' v (mkS2 k xs) S ∧ Only S w w' := by
  rcases h.shape with ⟨rfl, rfl⟩ | ⟨g, c, rfl, hg⟩
  · go_enter Try.func46, Try.ntmps46
    go_wp2
    refine wp_loop_rounds 1 ?_
    rw [rounds_succ]
    go_wp2
    go_ret
    exact ⟨ret_int' (by simp [cntL]), by simpa [mkL] using h, Only.refl _ _⟩
  · have hl := h.len
    have hl3 := hl.2.2
    unfold maxLen at hl3
    go_enter Try.func46, Try.ntmps46
    go_wp2
    go_loopw [1, 5] (fun x i wr => ∃ (j : Nat) (ys : List (List Int)), j ≤ xs.length ∧ i = .int .i64 j ∧ x = .int .i64 (k + (cntL List.length (xs.take j) : Nat)) ∧
        Hid (ys.length = xs.length ∧ (∀ i, i < j → nth ys i = mkS1 (k + (cntL List.length (xs.take i) : Nat)) (nth xs i)) ∧ ∀ i, j ≤ i → i < xs.length → nth ys i = nth xs i) ∧
        OII wr (.slice (some ⟨g, 0, none⟩) xs.length c) ys S ∧ Only S w wr) (fun _ i _ => xs.length - (intOf i).toNat)
    case atStart => exact ⟨0, xs, Nat.zero_le _, rfl, by simp [cntL], Lib.hid ⟨rfl, fun _ h => absurd h (Nat.not_lt_zero _), fun _ _ _ => rfl⟩, h, Only.refl _ _⟩
    case round =>
      obtain ⟨j, ys, hj, rfl, rfl, hys, hown, honly⟩ := hrel
      by_cases hlt : j < xs.length
      · have hly := hys.out.1
        obtain ⟨u, T, hc, hu, hT, hput⟩ := hown.turnAt OI.ok (i := j) (by omega)
        have hst := cntL_take_succ List.length hlt
        have hle := cntL_take_le List.length xs (j + 1)
        have hys2 := Lib.hid (show (ys.set j (mkS1 (k + (cntL List.length (xs.take j) : Nat)) (nth xs j))).length = xs.length ∧ (∀ i, i < j + 1 → nth (ys.set j (mkS1 (k + (cntL List.length (xs.take j) : Nat)) (nth xs j))) i = mkS1 (k + (cntL List.length (xs.take i) : Nat)) (nth xs i)) ∧ ∀ i, j + 1 ≤ i → i < xs.length → nth (ys.set j (mkS1 (k + (cntL List.length (xs.take j) : Nat)) (nth xs j))) i = nth xs i from
          ⟨by simpa using hly, fun i hi => by
            rw [nth_set (by omega)]
            split
            · rename_i e; rw [e]
            · exact hys.out.2.1 i (by omega), fun i hi hi2 => by
            rw [nth_set (by omega), if_neg (by omega)]; exact hys.out.2.2 i (by omega) hi2⟩)
        rw [hys.out.2.2 j (Nat.le_refl _) hlt] at hu
        have Hu := Lib.hid hu
        have HT := Lib.hid hT
        have Hput := Lib.hid hput
        have honly2 := Lib.hid honly
        clear hly hown honly hys hu hT hput
        generalize hC : cntL List.length (xs.take j) = C at *
        go_wp2_with fail
        refine (markInt64S Hu.out (by omega) (by omega)).mono ?_
        rintro e w1 ⟨rfl, ho1, hb1⟩
        have Ho := Lib.hid (Hput.out _ _ hb1 ho1)
        have Hb := Lib.hid (show Only S w w1 from honly2.out.trans ⟨hb1.os, hb1.tape, hb1.output, hb1.size, fun i hi hS => hb1.block i hi fun hm => hS (HT.out i hm).1⟩)
        clear ho1 hb1
        go_wp2
        go_roundw
        case rel => exact ⟨j + 1, _, by omega, by go_num, by rw [hst]; go_num, hys2, Ho.out, Hb.out⟩
        case measure => simp [intOf]; omega
      · obtain rfl : j = xs.length := by omega
        have e : ys = mkS2 k xs := ext_nth (by rw [hys.out.1, mkL_length]) (fun i hi => by rw [hys.out.2.1 i (by have := hys.out.1; omega), nth_mkL _ _ _ _ (by have := hys.out.1; omega)])
        subst e
        rw [List.take_length]
        go_wp2
        go_ret
        exact ⟨rfl, hown, honly⟩

theorem heldInt64SS {P : Nat → Prop} {v : Value} {xs : List (List Int)} {w : World} {k : Int} (h : RdII P w v (mkS2 k xs)) (hk : 0 ≤ k) (hk2 : k + cntL List.length xs ≤ 4611686018427387904) :
    Calls Try.prog 122 #[v, .int .i64 k] w fun e w' => e = .returned (.int .i64 (k + cntL List.length xs)) ∧ w = w' := by
  obtain ⟨a, c, rfl, h1, h2, hrd⟩ := h
  rw [mkL_length] at h1 hrd ⊢
  have Hrd := Lib.hid hrd; clear hrd
  unfold maxLen at h2
  go_enter Try.func122, Try.ntmps122
  go_wp2
  go_loop [1, 5] (fun x i => ∃ (j : Nat), j ≤ xs.length ∧ i = .int .i64 j ∧ x = .int .i64 (k + (cntL List.length (xs.take j) : Nat))) (fun _ i => xs.length - (intOf i).toNat)
  case atStart => exact ⟨0, Nat.zero_le _, rfl, by simp [cntL]⟩
  case round =>
    obtain ⟨j, hj, rfl, rfl⟩ := hrel
    by_cases hlt : j < xs.length
    · obtain ⟨b, o, u, rfl, hPb, hc, hu⟩ := Hrd.out j hlt
      rw [nth_mkL _ _ _ _ hlt] at hu
      have hst := cntL_take_succ List.length hlt
      have hle := cntL_take_le List.length xs (j + 1)
      have Hu := Lib.hid hu; clear hu
      generalize hC : cntL List.length (xs.take j) = C at *
      go_wp2_with fail
      refine (heldInt64S Hu.out (by omega) (by omega)).mono ?_
      rintro e w1 ⟨rfl, rfl⟩
      go_wp2
      go_round
      case rel => exact ⟨j + 1, by omega, by go_num, by rw [hst]; go_num⟩
      case measure => simp [intOf]; omega
    · obtain rfl : j = xs.length := by omega
      rw [List.take_length]
      go_wp2
      go_ret
      exact ⟨rfl, rfl⟩

theorem toInt64SS_t {B : Nat} {v : Value} {xs : List (List Int)} {w : World} (h : RdII (· < B) w v xs) (hB : B ≤ w.heap.size) (hn : szL List.length xs ≤ 1048576) :
    Calls Try.prog 43 #[v] w fun e w' => ∃ v', e = .returned v' ∧ In OII w.heap.size w'.heap.size w' v' xs ∧ Turn 0 0 w w' := by
  refine (toInt64SS h (fun k hk => by omega) hn).mono ?_
  rintro e w' ⟨v', rfl, hf⟩
  exact ⟨_, rfl, In.of_fresh OII.ok hf⟩
theorem eqInt64SS_t {a b c d : Nat} {va vb : Value} {xs : List (List Int)} {w : World} (ha : In OII a b w va xs) (hb : In OII c d w vb xs) :
    Calls Try.prog 45 #[va, vb] w fun e w' => e = .returned (.bool true) ∧ Turn 0 0 w w' :=
  (eqInt64SS (ha.rd OII.leads) (hb.rd OII.leads)).mono fun e w' ⟨he, h⟩ => ⟨he, Turn.of_draws h⟩
theorem markInt64SS_t {lo hi : Nat} {v : Value} {xs : List (List Int)} {w : World} {k : Int} (h : In OII lo hi w v xs) (hk : 0 ≤ k) (hk2 : k + cntL List.length xs ≤ 4611686018427387904) :
    Calls Try.prog 46 #[v, .int .i64 k] w fun e w' => e = .returned (.int .i64 (k + cntL List.length xs)) ∧ In OII lo hi w' v (mkS2 k xs) ∧ Turn lo hi w w' := by
  obtain ⟨S, h1, h2⟩ := h
  refine (markInt64SS h1 hk hk2).mono ?_
  rintro e w' ⟨rfl, ho, hb⟩
  exact ⟨rfl, ⟨S, ho, h2⟩, ⟨hb.os, hb.tape, hb.output, hb.size, fun k hk hd => hb.block k hk fun hS => by have := h2 k hS; omega⟩⟩
theorem heldInt64SS_t {lo hi : Nat} {v : Value} {xs : List (List Int)} {w : World} {k : Int} (h : In OII lo hi w v (mkS2 k xs)) (hk : 0 ≤ k) (hk2 : k + cntL List.length xs ≤ 4611686018427387904) :
    Calls Try.prog 122 #[v, .int .i64 k] w fun e w' => e = .returned (.int .i64 (k + cntL List.length xs)) ∧ Turn 0 0 w w' :=
  (heldInt64SS (h.rd OII.leads) hk hk2).mono fun e w' ⟨he, h⟩ => ⟨he, Turn.of_draws ⟨0, h⟩⟩
end Go.Proofs.Ytnpkanlieflbiaa
