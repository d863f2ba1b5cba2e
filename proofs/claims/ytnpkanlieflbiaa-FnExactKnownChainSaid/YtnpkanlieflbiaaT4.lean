/- JoinChains: the reference's walk. Printed by gen_t4.py. -/
import Derived.Test.YtnpkanlieflbiaaT2
import Derived.Test.YtnpkanlieflbiaaD3
import Derived.Deep.QuietTactic
import Derived.Deep.RegionHeld3
import Derived.Deep.DeepCutAuto
import Derived.BigQuiet
namespace Go.Proofs.Ytnpkanlieflbiaa
open Go.RowKit
set_option linter.unusedVariables false

/-- A chain in the making, table by table. -/
structure JS (w : World) (bx : Nat) (c0 c1 c2 c3 : Int) (T : List (List (List Int))) (Pl : List Int) (tv pv : Value) (S1 S2 : List Nat) (wr : World) : Prop where
  box : wr.heap[bx]? = some (.cells #[.int .i64 c0, .int .i64 c1, .int .i64 c2, .int .i64 c3, tv, pv] 28 (0, 0))
  tabs : OIII wr tv T S1
  pls : OI wr pv Pl S2
  b1 : ∀ j ∈ S1, w.heap.size ≤ j ∧ j ≠ bx
  b2 : ∀ j ∈ S2, w.heap.size ≤ j ∧ j ≠ bx
  d12 : ∀ j ∈ S1, j ∉ S2
  hbx : w.heap.size ≤ bx
  bel : Below w.heap.size w wr
section js
variable {w : World} {bx : Nat} {c0 c1 c2 c3 : Int} {T : List (List (List Int))} {Pl : List Int} {tv pv : Value} {S1 S2 : List Nat} {wr : World}
theorem JS.size (h : JS w bx c0 c1 c2 c3 T Pl tv pv S1 S2 wr) : bx < wr.heap.size := heap_lt h.box
theorem JS.keep (h : JS w bx c0 c1 c2 c3 T Pl tv pv S1 S2 wr) {w' : World} (hb : Below wr.heap.size wr w') : JS w bx c0 c1 c2 c3 T Pl tv pv S1 S2 w' :=
  ⟨below_heap hb h.box, OIII.ok.keep h.tabs fun k hk => hb.block k (OIII.ok.lt h.tabs k hk), OI.ok.keep h.pls fun k hk => hb.block k (OI.ok.lt h.pls k hk), h.b1, h.b2, h.d12, h.hbx, h.bel.trans (hb.mono h.bel.size)⟩
theorem JS.pushT (h : JS w bx c0 c1 c2 c3 T Pl tv pv S1 S2 wr) {w5 : World} {v1 : Value} {T' : List (List (List Int))} {S' T7 : List Nat} (hT7 : ∀ j ∈ T7, w.heap.size ≤ j ∧ j ≠ bx ∧ j ∉ S2) (ho : OIII w5 v1 T' S') (hn : Only S1 wr w5) (hS : ∀ k ∈ S', k ∈ S1 ∨ k ∈ T7 ∨ wr.heap.size ≤ k) :
    w5.heap[bx]? = some (.cells #[.int .i64 c0, .int .i64 c1, .int .i64 c2, .int .i64 c3, tv, pv] 28 (0, 0)) ∧ JS w bx c0 c1 c2 c3 T' Pl v1 pv S' S2 (w5.setCell ⟨bx, 4, none⟩ v1) := by
  have hz := h.size
  have hs := h.bel.size
  have l2 := OI.ok.lt h.pls
  have hb : ∀ k ∈ S', w.heap.size ≤ k ∧ k ≠ bx := fun k hk => by
    rcases hS k hk with e | e | e
    · exact h.b1 k e
    · exact ⟨(hT7 k e).1, (hT7 k e).2.1⟩
    · omega
  have hbx5 := Only.heap hn h.box (fun hm => (h.b1 _ hm).2 rfl)
  have e2 := heap_setCell_same w5 bx 4 _ _ v1 hbx5
  have hset : ∀ k, k ≠ bx → (w5.setCell ⟨bx, 4, none⟩ v1).heap[k]? = w5.heap[k]? := fun k hk => heap_setCell_other w5 _ k v1 (by simpa using hk)
  refine ⟨hbx5, by rw [e2]; rfl, OIII.ok.keep ho fun k hk => hset k (hb k hk).2, OI.ok.keep h.pls fun k hk => (hset k (h.b2 k hk).2).trans (hn.block k (l2 k hk) fun hm => h.d12 k hm hk), hb, h.b2, fun j hj hm => ?_, h.hbx, (below_only h.bel hn hs fun j hj => (h.b1 j hj).1).setCell h.hbx _⟩
  rcases hS j hj with e | e | e
  · exact h.d12 j e hm
  · exact (hT7 j e).2.2 hm
  · have := l2 j hm; omega
theorem JS.pushP (h : JS w bx c0 c1 c2 c3 T Pl tv pv S1 S2 wr) {w5 : World} {v1 : Value} {Pl' : List Int} {S' : List Nat} (ho : OI w5 v1 Pl' S') (hn : Only S2 wr w5) (hS : ∀ k ∈ S', k ∈ S2 ∨ k ∈ ([] : List Nat) ∨ wr.heap.size ≤ k) :
    w5.heap[bx]? = some (.cells #[.int .i64 c0, .int .i64 c1, .int .i64 c2, .int .i64 c3, tv, pv] 28 (0, 0)) ∧ JS w bx c0 c1 c2 c3 T Pl' tv v1 S1 S' (w5.setCell ⟨bx, 5, none⟩ v1) := by
  have hz := h.size
  have hs := h.bel.size
  have l1 := OIII.ok.lt h.tabs
  have hb : ∀ k ∈ S', w.heap.size ≤ k ∧ k ≠ bx := fun k hk => by
    rcases hS k hk with e | e | e
    · exact h.b2 k e
    · simp at e
    · omega
  have hbx5 := Only.heap hn h.box (fun hm => (h.b2 _ hm).2 rfl)
  have e2 := heap_setCell_same w5 bx 5 _ _ v1 hbx5
  have hset : ∀ k, k ≠ bx → (w5.setCell ⟨bx, 5, none⟩ v1).heap[k]? = w5.heap[k]? := fun k hk => heap_setCell_other w5 _ k v1 (by simpa using hk)
  refine ⟨hbx5, by rw [e2]; rfl, OIII.ok.keep h.tabs fun k hk => (hset k (h.b1 k hk).2).trans (hn.block k (l1 k hk) fun hm => h.d12 k hk hm), OI.ok.keep ho fun k hk => hset k (hb k hk).2, h.b1, hb, fun j hj hm => ?_, h.hbx, (below_only h.bel hn hs fun j hj => (h.b2 j hj).1).setCell h.hbx _⟩
  rcases hS j hm with e | e | e
  · exact h.d12 j hj e
  · simp at e
  · have := l1 j hj; omega
theorem JS.done (h : JS w bx c0 c1 c2 c3 T Pl tv pv S1 S2 wr) {x : Chn} (hx : x = ⟨c0, c1, c2, c3, T, Pl⟩) : Fresh OC w wr (.agg #[.int .i64 c0, .int .i64 c1, .int .i64 c2, .int .i64 c3, tv, pv]) x := by
  subst hx
  exact ⟨S1 ++ S2, ⟨_, _, _, _, rfl, h.tabs, h.pls, rfl, h.d12⟩, fun k hk => by
    rcases List.mem_append.1 hk with e | e
    · exact (h.b1 k e).1
    · exact (h.b2 k e).1, h.bel⟩
theorem JS.start (w : World) (c0 c1 c2 c3 : Int) : JS w (w.heap.size + 1 + 1) c0 c1 c2 c3 [] [] (.slice (some ⟨w.heap.size, 0, none⟩) 0 0) (.slice (some ⟨w.heap.size + 1, 0, none⟩) 0 0) [w.heap.size] [w.heap.size + 1]
    (((w.alloc (.cells #[] 38)).alloc (.cells #[] 2)).alloc (.cells #[.int .i64 c0, .int .i64 c1, .int .i64 c2, .int .i64 c3, .slice (some ⟨w.heap.size, 0, none⟩) 0 0, .slice (some ⟨w.heap.size + 1, 0, none⟩) 0 0] 28)) := by
  refine ⟨alloc_at (by simp only [alloc_size]), .inr ⟨w.heap.size, 0, #[], [], rfl, ?_, rfl, by simp, by unfold maxLen; omega, by simp, by simp, rfl, fun i hi => absurd hi (by simp)⟩, .inr ⟨w.heap.size + 1, 0, #[], [], rfl, ?_, rfl, by simp, by unfold maxLen; omega, by simp, by simp, rfl, fun i hi => absurd hi (by simp)⟩, (by intro j hj; simp at hj; omega), (by intro j hj; simp at hj; omega), (by intro j hj; simp at hj ⊢; omega), by omega, by repeat' (first | with_reducible exact Below.refl _ _ | with_reducible refine Below.alloc ?_ ?_ _ | with_reducible refine Below.setCell ?_ ?_ _ | with_reducible refine Below.drew ?_ | with_reducible refine Below.draws ?_ _ | omega | (simp; done) | (simp; omega))⟩
  · exact (alloc_old (by simp only [alloc_size]; omega)).trans ((alloc_old (by simp only [alloc_size]; omega)).trans (alloc_at rfl))
  · exact (alloc_old (by simp only [alloc_size]; omega)).trans (alloc_at (by simp only [alloc_size]))
end js
theorem infoSl3J : (Try.prog.info? 38).map (fun i => (i.zero, i.size, i.bytes)) = some (some (.slice none 0 0), 1, 24) := by kernel_rfl
theorem jn_no1 {x y : Chn} (h : vC x = false) : jnOk x y = false := by simp [jnOk, h]
theorem jn_no2 {x y : Chn} (h : vC y = false) : jnOk x y = false := by simp [jnOk, h]
theorem jn_no3 {x y : Chn} (h : ¬ x.base = y.base) : jnOk x y = false := by simp [jnOk, h]
theorem jn_no4 {x y : Chn} (h : ¬ x.places.length = y.places.length) : jnOk x y = false := by simp [jnOk, h]
theorem jn_no5 {x y : Chn} (h : ¬ x.states * y.states ≤ 36) : jnOk x y = false := by simp [jnOk, h]
theorem jn_yes {x y : Chn} (h1 : vC x = true) (h2 : vC y = true) (h3 : x.base = y.base) (h4 : x.places.length = y.places.length) (h5 : x.states * y.states ≤ 36) : jnOk x y = true := by simp [jnOk, h1, h2, h3, h4, h5]
theorem jn_mul {a b : Int} (ha : 0 ≤ a ∧ a ≤ 36) (hb : 1 ≤ b ∧ b ≤ 36) : 0 ≤ a * b ∧ a * b ≤ 1296 := by
  refine ⟨Int.mul_nonneg ha.1 (by omega), ?_⟩
  have h4 : a * b ≤ 36 * 36 := Int.mul_le_mul ha.2 hb.2 (by omega) (by omega)
  omega
theorem Fresh.pushed {w0 w8 w9 : World} {v1 : Value} {xs : List Int} {S8 S9 : List Nat} (h8 : ∀ k ∈ S8, w0.heap.size ≤ k) (hl : Below w0.heap.size w0 w8) (ho : OI w9 v1 xs S9) (hn : Only S8 w8 w9) (hS : ∀ k ∈ S9, k ∈ S8 ∨ k ∈ ([] : List Nat) ∨ w8.heap.size ≤ k) : Fresh OI w0 w9 v1 xs := by
  refine ⟨S9, ho, fun k hk => ?_, below_only hl hn hl.size h8⟩
  rcases hS k hk with h | h | h
  · exact h8 k h
  · simp at h
  · have := hl.size; omega
theorem bel_dr (w : World) (m : Nat) : Below w.heap.size w (w.drewN m) := ⟨rfl, rfl, rfl, Nat.le_refl _, fun _ _ => rfl⟩
theorem join_boxes {B : Nat} {w : World} {x y : Chn} {u p u' p' : Value} (hu : RdIII (· < B) w u x.tables) (hp : RdI (· < B) w p x.places) (hu' : RdIII (· < B) w u' y.tables) (hp' : RdI (· < B) w p' y.places) (hB : B ≤ w.heap.size) {W1 : World}
    (hW : W1 = ((w.alloc (.cells #[.int .i64 x.base, .int .i64 x.states, .int .i64 x.start, .int .i64 x.stop, u, p] 28)).alloc (.cells #[.int .i64 y.base, .int .i64 y.states, .int .i64 y.start, .int .i64 y.stop, u', p'] 28)).alloc (.cells #[.int .i64 0, .int .i64 0, .int .i64 0, .int .i64 0, .slice none 0 0, .slice none 0 0] 28)) :
    W1.heap.size = w.heap.size + 3 ∧ Below w.heap.size w W1 ∧ ∀ W, Below W1.heap.size W1 W → BoxC (· < B) W w.heap.size x ∧ BoxC (· < B) W (w.heap.size + 1) y ∧ W.heap[w.heap.size + 1 + 1]? = some (.cells #[.int .i64 0, .int .i64 0, .int .i64 0, .int .i64 0, .slice none 0 0, .slice none 0 0] 28 (0, 0)) := by
  have hs : W1.heap.size = w.heap.size + 3 := by rw [hW]; simp only [alloc_size]
  have hb : Below w.heap.size w W1 := by rw [hW]; repeat' (first | with_reducible exact Below.refl _ _ | with_reducible refine Below.alloc ?_ ?_ _ | with_reducible refine Below.setCell ?_ ?_ _ | with_reducible refine Below.drew ?_ | with_reducible refine Below.draws ?_ _ | omega | (simp; done) | (simp; omega))
  refine ⟨hs, hb, fun W hbW => ?_⟩
  have kp : ∀ k, k < B → W.heap[k]? = w.heap[k]? := fun k hk => (hbW.block k (by omega)).trans (hb.block k (by omega))
  refine ⟨⟨u, p, (hbW.block _ (by omega)).trans ?_, RdIII.ok.keep hu kp, RdI.ok.keep hp kp⟩, ⟨u', p', (hbW.block _ (by omega)).trans ?_, RdIII.ok.keep hu' kp, RdI.ok.keep hp' kp⟩, (hbW.block _ (by omega)).trans ?_⟩
  · rw [hW]; exact (alloc_old (by simp only [alloc_size]; omega)).trans ((alloc_old (by simp only [alloc_size]; omega)).trans (alloc_at rfl))
  · rw [hW]; exact (alloc_old (by simp only [alloc_size]; omega)).trans (alloc_at (by simp only [alloc_size]))
  · rw [hW]; exact alloc_at (by simp only [alloc_size])

set_option maxHeartbeats 12800000 in
set_option maxRecDepth 100000 in
theorem specJoinChains {B : Nat} {v v' : Value} {x y : Chn} {w : World} (h : RdC (· < B) w v x) (h' : RdC (· < B) w v' y) (hB : B ≤ w.heap.size) :
    Calls Try.prog 48 #[v, v'] w fun e w' => ∃ r, e = .returned (.tuple #[r, .bool (jnOk x y)]) ∧ Fresh OC w w' r (jnV x y) := by
  obtain ⟨u, p, rfl, hu, hp⟩ := h
  obtain ⟨u', p', rfl, hu', hp'⟩ := h'
  obtain ⟨W1, hW1⟩ : ∃ W1, W1 = ((w.alloc (.cells #[.int .i64 x.base, .int .i64 x.states, .int .i64 x.start, .int .i64 x.stop, u, p] 28)).alloc (.cells #[.int .i64 y.base, .int .i64 y.states, .int .i64 y.start, .int .i64 y.stop, u', p'] 28)).alloc (.cells #[.int .i64 0, .int .i64 0, .int .i64 0, .int .i64 0, .slice none 0 0, .slice none 0 0] 28) := ⟨_, rfl⟩
  obtain ⟨hs1, hb1, hx⟩ := join_boxes hu hp hu' hp' hB hW1
  have Hs1 := Lib.hid hs1
  have Hb1 := Lib.hid hb1
  have HX := Lib.hid hx
  have HW1 := Lib.hid hW1
  have hlt1 : w.heap.size + 1 + 1 < W1.heap.size := by omega
  clear hs1 hb1 hx hW1 hu hp hu' hp'
  unfold aggC
  cases hv : vC x
  · have hj := Lib.hid (jn_no1 (y := y) hv)
    go_enter Try.func48, Try.ntmps48
    go_wp2_with fail
    rw [← HW1.out]
    refine (specL02Is (HX.out _ (Below.refl _ _)).1 _ hv).mono ?_
    rintro e w2 ⟨rfl, m2, hm2⟩
    have hb2 : Below W1.heap.size W1 w2 := by rw [← hm2]; exact ⟨rfl, rfl, rfl, Nat.le_refl _, fun _ _ => rfl⟩
    clear hm2
    have Hz2 := Lib.hid (HX.out _ hb2).2.2
    have z0 := heap_cell Hz2.out (i := 0) rfl
    have z1 := heap_cell Hz2.out (i := 1) rfl
    have z2 := heap_cell Hz2.out (i := 2) rfl
    have z3 := heap_cell Hz2.out (i := 3) rfl
    have z4 := heap_cell Hz2.out (i := 4) rfl
    have z5 := heap_cell Hz2.out (i := 5) rfl
    have f0 := frozen_at Hz2.out 0
    have f1 := frozen_at Hz2.out 1
    have f2 := frozen_at Hz2.out 2
    have f3 := frozen_at Hz2.out 3
    have f4 := frozen_at Hz2.out 4
    have f5 := frozen_at Hz2.out 5
    have Hbel := Lib.hid (Hb1.out.trans (hb2.mono Hb1.out.size))
    clear hb2
    go_wp2
    refine bodyPost_ret (v := .tuple #[aggC Chn.nil (.slice none 0 0) (.slice none 0 0), .bool false]) (by simp [results, Try.results48, go_sem, aggC, Chn.nil, z0, z1, z2, z3, z4, z5]) rfl ⟨_, by rw [hj.out], ?_⟩
    rw [jnV_no hj.out]
    refine nil_fresh (Hbel.out.trans ?_)
    repeat' (first | with_reducible exact Below.refl _ _ | with_reducible refine Below.alloc ?_ ?_ _ | with_reducible refine Below.setCell ?_ ?_ _ | with_reducible refine Below.drew ?_ | with_reducible refine Below.draws ?_ _ | omega | (simp; done) | (simp; omega))
  cases hv' : vC y
  · have hj := Lib.hid (jn_no2 (x := x) hv')
    go_enter Try.func48, Try.ntmps48
    go_wp2_with fail
    rw [← HW1.out]
    refine (specL02Is (HX.out _ (Below.refl _ _)).1 _ hv).mono ?_
    rintro e w2 ⟨rfl, m2, hm2⟩
    have hb2 : Below W1.heap.size W1 w2 := by rw [← hm2]; exact ⟨rfl, rfl, rfl, Nat.le_refl _, fun _ _ => rfl⟩
    clear hm2
    go_wp2_with fail
    refine (specL02Is (HX.out _ hb2).2.1 _ hv').mono ?_
    rintro e w3 ⟨rfl, m3, hm3⟩
    have hb3 : Below W1.heap.size W1 w3 := hb2.trans (by rw [← hm3]; exact ⟨rfl, rfl, rfl, Nat.le_refl _, fun _ _ => rfl⟩)
    clear hm3 hb2
    have Hz3 := Lib.hid (HX.out _ hb3).2.2
    have z0 := heap_cell Hz3.out (i := 0) rfl
    have z1 := heap_cell Hz3.out (i := 1) rfl
    have z2 := heap_cell Hz3.out (i := 2) rfl
    have z3 := heap_cell Hz3.out (i := 3) rfl
    have z4 := heap_cell Hz3.out (i := 4) rfl
    have z5 := heap_cell Hz3.out (i := 5) rfl
    have f0 := frozen_at Hz3.out 0
    have f1 := frozen_at Hz3.out 1
    have f2 := frozen_at Hz3.out 2
    have f3 := frozen_at Hz3.out 3
    have f4 := frozen_at Hz3.out 4
    have f5 := frozen_at Hz3.out 5
    have Hbel := Lib.hid (Hb1.out.trans (hb3.mono Hb1.out.size))
    clear hb3
    go_wp2
    refine bodyPost_ret (v := .tuple #[aggC Chn.nil (.slice none 0 0) (.slice none 0 0), .bool false]) (by simp [results, Try.results48, go_sem, aggC, Chn.nil, z0, z1, z2, z3, z4, z5]) rfl ⟨_, by rw [hj.out], ?_⟩
    rw [jnV_no hj.out]
    refine nil_fresh (Hbel.out.trans ?_)
    repeat' (first | with_reducible exact Below.refl _ _ | with_reducible refine Below.alloc ?_ ?_ _ | with_reducible refine Below.setCell ?_ ?_ _ | with_reducible refine Below.drew ?_ | with_reducible refine Below.draws ?_ _ | omega | (simp; done) | (simp; omega))
  by_cases hbs : x.base = y.base
  rotate_left
  · have hj := Lib.hid (jn_no3 hbs)
    go_enter Try.func48, Try.ntmps48
    go_wp2_with fail
    rw [← HW1.out]
    refine (specL02Is (HX.out _ (Below.refl _ _)).1 _ hv).mono ?_
    rintro e w2 ⟨rfl, m2, hm2⟩
    have hb2 : Below W1.heap.size W1 w2 := by rw [← hm2]; exact ⟨rfl, rfl, rfl, Nat.le_refl _, fun _ _ => rfl⟩
    clear hm2
    go_wp2_with fail
    refine (specL02Is (HX.out _ hb2).2.1 _ hv').mono ?_
    rintro e w3 ⟨rfl, m3, hm3⟩
    have hb3 : Below W1.heap.size W1 w3 := hb2.trans (by rw [← hm3]; exact ⟨rfl, rfl, rfl, Nat.le_refl _, fun _ _ => rfl⟩)
    clear hm3 hb2
    obtain ⟨a4, c4, a5, c5, g0, g1, g2, g3, g4, g5, _, _, _, _, _⟩ := (HX.out _ hb3).1.cells
    obtain ⟨a4', c4', a5', c5', g0', g1', g2', g3', g4', g5', _, _, _, _, _⟩ := (HX.out _ hb3).2.1.cells
    have Hz3 := Lib.hid (HX.out _ hb3).2.2
    have z0 := heap_cell Hz3.out (i := 0) rfl
    have z1 := heap_cell Hz3.out (i := 1) rfl
    have z2 := heap_cell Hz3.out (i := 2) rfl
    have z3 := heap_cell Hz3.out (i := 3) rfl
    have z4 := heap_cell Hz3.out (i := 4) rfl
    have z5 := heap_cell Hz3.out (i := 5) rfl
    have f0 := frozen_at Hz3.out 0
    have f1 := frozen_at Hz3.out 1
    have f2 := frozen_at Hz3.out 2
    have f3 := frozen_at Hz3.out 3
    have f4 := frozen_at Hz3.out 4
    have f5 := frozen_at Hz3.out 5
    have Hbel := Lib.hid (Hb1.out.trans (hb3.mono Hb1.out.size))
    clear hb3
    go_wp2
    refine bodyPost_ret (v := .tuple #[aggC Chn.nil (.slice none 0 0) (.slice none 0 0), .bool false]) (by simp [results, Try.results48, go_sem, aggC, Chn.nil, z0, z1, z2, z3, z4, z5]) rfl ⟨_, by rw [hj.out], ?_⟩
    rw [jnV_no hj.out]
    refine nil_fresh (Hbel.out.trans ?_)
    repeat' (first | with_reducible exact Below.refl _ _ | with_reducible refine Below.alloc ?_ ?_ _ | with_reducible refine Below.setCell ?_ ?_ _ | with_reducible refine Below.drew ?_ | with_reducible refine Below.draws ?_ _ | omega | (simp; done) | (simp; omega))
  have Hbs := Lib.hid hbs
  by_cases hpl : x.places.length = y.places.length
  rotate_left
  · have hj := Lib.hid (jn_no4 hpl)
    have hpl2 : ¬ (x.places.length : Int) = (y.places.length : Int) := by omega
    clear hbs
    go_enter Try.func48, Try.ntmps48
    go_wp2_with fail
    rw [← HW1.out]
    refine (specL02Is (HX.out _ (Below.refl _ _)).1 _ hv).mono ?_
    rintro e w2 ⟨rfl, m2, hm2⟩
    have hb2 : Below W1.heap.size W1 w2 := by rw [← hm2]; exact ⟨rfl, rfl, rfl, Nat.le_refl _, fun _ _ => rfl⟩
    clear hm2
    go_wp2_with fail
    refine (specL02Is (HX.out _ hb2).2.1 _ hv').mono ?_
    rintro e w3 ⟨rfl, m3, hm3⟩
    have hb3 : Below W1.heap.size W1 w3 := hb2.trans (by rw [← hm3]; exact ⟨rfl, rfl, rfl, Nat.le_refl _, fun _ _ => rfl⟩)
    clear hm3 hb2
    obtain ⟨a4, c4, a5, c5, g0, g1, g2, g3, g4, g5, _, _, _, _, _⟩ := (HX.out _ hb3).1.cells
    obtain ⟨a4', c4', a5', c5', g0', g1', g2', g3', g4', g5', _, _, _, _, _⟩ := (HX.out _ hb3).2.1.cells
    rw [← Hbs.out] at g0'
    have Hz3 := Lib.hid (HX.out _ hb3).2.2
    have z0 := heap_cell Hz3.out (i := 0) rfl
    have z1 := heap_cell Hz3.out (i := 1) rfl
    have z2 := heap_cell Hz3.out (i := 2) rfl
    have z3 := heap_cell Hz3.out (i := 3) rfl
    have z4 := heap_cell Hz3.out (i := 4) rfl
    have z5 := heap_cell Hz3.out (i := 5) rfl
    have f0 := frozen_at Hz3.out 0
    have f1 := frozen_at Hz3.out 1
    have f2 := frozen_at Hz3.out 2
    have f3 := frozen_at Hz3.out 3
    have f4 := frozen_at Hz3.out 4
    have f5 := frozen_at Hz3.out 5
    have Hbel := Lib.hid (Hb1.out.trans (hb3.mono Hb1.out.size))
    clear hb3
    go_wp2
    refine bodyPost_ret (v := .tuple #[aggC Chn.nil (.slice none 0 0) (.slice none 0 0), .bool false]) (by simp [results, Try.results48, go_sem, aggC, Chn.nil, z0, z1, z2, z3, z4, z5]) rfl ⟨_, by rw [hj.out], ?_⟩
    rw [jnV_no hj.out]
    refine nil_fresh (Hbel.out.trans ?_)
    repeat' (first | with_reducible exact Below.refl _ _ | with_reducible refine Below.alloc ?_ ?_ _ | with_reducible refine Below.setCell ?_ ?_ _ | with_reducible refine Below.drew ?_ | with_reducible refine Below.draws ?_ _ | omega | (simp; done) | (simp; omega))
  have Hpl := Lib.hid hpl
  have vx := vC_iff.1 hv
  have vy := vC_iff.1 hv'
  have hml := jn_mul (a := x.states) (b := y.states) (by have := vx.states; omega) vy.states
  obtain ⟨PS, hPS⟩ : ∃ z, z = x.states * y.states := ⟨_, rfl⟩
  have m1 : wrap64 (x.states * y.states) = PS := by rw [hPS]; exact IntWalk.wrap64_in _ (by omega)
  by_cases hst : x.states * y.states ≤ 36
  rotate_left
  · have hj := Lib.hid (jn_no5 hst)
    have hst2 : 36 < PS := by omega
    clear hPS hml hst hpl hbs
    go_enter Try.func48, Try.ntmps48
    go_wp2_with fail
    rw [← HW1.out]
    refine (specL02Is (HX.out _ (Below.refl _ _)).1 _ hv).mono ?_
    rintro e w2 ⟨rfl, m2, hm2⟩
    have hb2 : Below W1.heap.size W1 w2 := by rw [← hm2]; exact ⟨rfl, rfl, rfl, Nat.le_refl _, fun _ _ => rfl⟩
    clear hm2
    go_wp2_with fail
    refine (specL02Is (HX.out _ hb2).2.1 _ hv').mono ?_
    rintro e w3 ⟨rfl, m3, hm3⟩
    have hb3 : Below W1.heap.size W1 w3 := hb2.trans (by rw [← hm3]; exact ⟨rfl, rfl, rfl, Nat.le_refl _, fun _ _ => rfl⟩)
    clear hm3 hb2
    obtain ⟨a4, c4, a5, c5, g0, g1, g2, g3, g4, g5, _, _, _, _, _⟩ := (HX.out _ hb3).1.cells
    obtain ⟨a4', c4', a5', c5', g0', g1', g2', g3', g4', g5', _, _, _, _, _⟩ := (HX.out _ hb3).2.1.cells
    rw [← Hbs.out] at g0'
    rw [← Hpl.out] at g5'
    clear vx vy
    have Hz3 := Lib.hid (HX.out _ hb3).2.2
    have z0 := heap_cell Hz3.out (i := 0) rfl
    have z1 := heap_cell Hz3.out (i := 1) rfl
    have z2 := heap_cell Hz3.out (i := 2) rfl
    have z3 := heap_cell Hz3.out (i := 3) rfl
    have z4 := heap_cell Hz3.out (i := 4) rfl
    have z5 := heap_cell Hz3.out (i := 5) rfl
    have f0 := frozen_at Hz3.out 0
    have f1 := frozen_at Hz3.out 1
    have f2 := frozen_at Hz3.out 2
    have f3 := frozen_at Hz3.out 3
    have f4 := frozen_at Hz3.out 4
    have f5 := frozen_at Hz3.out 5
    have Hbel := Lib.hid (Hb1.out.trans (hb3.mono Hb1.out.size))
    clear hb3
    go_wp2
    refine bodyPost_ret (v := .tuple #[aggC Chn.nil (.slice none 0 0) (.slice none 0 0), .bool false]) (by simp [results, Try.results48, go_sem, aggC, Chn.nil, z0, z1, z2, z3, z4, z5]) rfl ⟨_, by rw [hj.out], ?_⟩
    rw [jnV_no hj.out]
    refine nil_fresh (Hbel.out.trans ?_)
    repeat' (first | with_reducible exact Below.refl _ _ | with_reducible refine Below.alloc ?_ ?_ _ | with_reducible refine Below.setCell ?_ ?_ _ | with_reducible refine Below.drew ?_ | with_reducible refine Below.draws ?_ _ | omega | (simp; done) | (simp; omega))
  have hok := jn_yes hv hv' hbs hpl hst
  have hj := Lib.hid hok
  have Hx := Lib.hid vx
  have Hy := Lib.hid vy
  have hst2 : PS ≤ 36 := by omega
  have n1 := vx.nat
  have n2 := vy.nat
  obtain ⟨_, _, hq3, hn, _, hP6, hP7, hP8⟩ := jn_parts hok
  have ma := jn_mul (a := x.start) (b := y.states) (by have := vx.start; have := vx.states; omega) vy.states
  have mz := jn_mul (a := x.stop) (b := y.states) (by have := vx.stop; have := vx.states; omega) vy.states
  have hsy := vy.start
  have hty := vy.stop
  have hys := vy.states
  obtain ⟨PA, hPA⟩ : ∃ z, z = x.start * y.states := ⟨_, rfl⟩
  obtain ⟨PZ, hPZ⟩ : ∃ z, z = x.stop * y.states := ⟨_, rfl⟩
  have m2 : wrap64 (x.start * y.states) = PA := by rw [hPA]; exact IntWalk.wrap64_in _ (by omega)
  have m3 : wrap64 (x.stop * y.states) = PZ := by rw [hPZ]; exact IntWalk.wrap64_in _ (by omega)
  have m4 : wrap64 (PA + y.start) = PA + y.start := IntWalk.wrap64_in _ (by omega)
  have m5 : wrap64 (PZ + y.stop) = PZ + y.stop := IntWalk.wrap64_in _ (by omega)
  have hjc : Hid (∀ N, N = x.n → jnC x y = ⟨x.base, PS, PA + y.start, PZ + y.stop, jnTs x y N, jnP N⟩) := Lib.hid fun N hN => by rw [hN, hPS, hPA, hPZ]; rfl
  have eX : x.states = (x.S : Int) := by have := vx.states; show _ = ((x.states.toNat : Nat) : Int); omega
  have eY : y.states = (y.S : Int) := by have := vy.states; show _ = ((y.states.toNat : Nat) : Int); omega
  have eB : x.base = (x.b : Int) := by have := vx.base; show _ = ((x.base.toNat : Nat) : Int); omega
  have HeX := Lib.hid eX
  have HeY := Lib.hid eY
  have HeB := Lib.hid eB
  have hby : y.b = x.b := by show y.base.toNat = x.base.toNat; rw [hbs]
  have HbY := Lib.hid hby
  clear hPS hPA hPZ ma mz hml hst vx vy hP6 hok
  have Hn := Lib.hid hn
  clear eX eY eB hpl hbs hq3 hn
  go_enter Try.func48, Try.ntmps48
  go_wp2_with fail
  rw [← HW1.out]
  refine (specL02Is (HX.out _ (Below.refl _ _)).1 _ hv).mono ?_
  rintro e w2 ⟨rfl, m2, hm2⟩
  have hb2 : Below W1.heap.size W1 w2 := by rw [← hm2]; exact ⟨rfl, rfl, rfl, Nat.le_refl _, fun _ _ => rfl⟩
  clear hm2
  go_wp2_with fail
  refine (specL02Is (HX.out _ hb2).2.1 _ hv').mono ?_
  rintro e w3 ⟨rfl, m3, hm3⟩
  have hb3 : Below W1.heap.size W1 w3 := hb2.trans (by rw [← hm3]; exact ⟨rfl, rfl, rfl, Nat.le_refl _, fun _ _ => rfl⟩)
  clear hm3 hb2
  obtain ⟨a4, c4, a5, c5, g0, g1, g2, g3, g4, g5, _, _, _, _, _⟩ := (HX.out _ hb3).1.cells
  obtain ⟨a4', c4', a5', c5', g0', g1', g2', g3', g4', g5', _, _, _, _, _⟩ := (HX.out _ hb3).2.1.cells
  rw [← Hbs.out] at g0'
  rw [← Hpl.out] at g5'
  have HX3 := Lib.hid (show ∀ W, Below w3.heap.size w3 W → BoxC (· < B) W w.heap.size x ∧ BoxC (· < B) W (w.heap.size + 1) y ∧ W.heap[w.heap.size + 1 + 1]? = some (.cells #[.int .i64 0, .int .i64 0, .int .i64 0, .int .i64 0, .slice none 0 0, .slice none 0 0] 28 (0, 0)) from fun W hW => HX.out W (hb3.trans (hW.mono hb3.size)))
  have hlt3 : w.heap.size + 1 + 1 < w3.heap.size := by have := hb3.size; omega
  have Hb3 := Lib.hid (Hb1.out.trans (hb3.mono Hb1.out.size))
  have HJ := Lib.hid (JS.start w3 x.base PS (PA + y.start) (PZ + y.stop))
  clear hb3 HX
  go_wp2
  clear g0 g1 g2 g3 g4 g5 g0' g1' g2' g3' g4' g5' m1 m2 m3 m4 m5 hsy hty hst2
  generalize wrap64 (x.start * y.states) = zA
  generalize wrap64 (x.stop * y.states) = zZ
  generalize wrap64 (x.states * y.states) = zS
  obtain ⟨SX, hSX⟩ : ∃ n, n = x.S := ⟨_, rfl⟩
  obtain ⟨SY, hSY⟩ : ∃ n, n = y.S := ⟨_, rfl⟩
  obtain ⟨NB, hNB⟩ : ∃ n, n = x.b := ⟨_, rfl⟩
  have hX36 : 1 ≤ SX ∧ SX ≤ 36 := by omega
  have hY36 : 1 ≤ SY ∧ SY ≤ 36 := by omega
  have hB36 : 2 ≤ NB ∧ NB ≤ 36 := by omega
  have HSX := Lib.hid hSX
  have HSY := Lib.hid hSY
  have HNB := Lib.hid hNB
  rw [← hSX] at HeX
  rw [← hSY] at HeY
  rw [← hNB] at HeB
  rw [← hSX, ← hSY] at hP7 hP8
  obtain ⟨N, hN⟩ : ∃ N, N = x.n := ⟨_, rfl⟩
  have HN := Lib.hid hN
  have hN20 : N ≤ 20 := by omega
  obtain ⟨DS, hDS⟩ : ∃ z, z = y.states := ⟨_, rfl⟩
  have HDS := Lib.hid hDS
  have hDS1 : 1 ≤ DS ∧ DS ≤ 36 := by omega
  have hnN : N = x.n ∧ N = y.n := ⟨hN, by have := Hn.out; omega⟩
  have HnN := Lib.hid hnN
  clear hSX hSY hNB n1 n2 hys hby hN hDS hnN
  go_loopw [7] (fun kv wr => ∃ (k : Nat) (tv pv : Value) (S1 S2 : List Nat), k ≤ N ∧ kv = .int .i64 k ∧ Hid (JS w3 (w3.heap.size + 1 + 1) x.base PS (PA + y.start) (PZ + y.stop) (jnTs x y k) (jnP k) tv pv S1 S2 wr)) (fun kv _ => N - (intOf kv).toNat)
  case atStart => exact ⟨0, _, _, _, _, Nat.zero_le _, rfl, HJ⟩
  case round =>
    clear HJ
    obtain ⟨k, tv, pv, S1, S2, hk, rfl, hst⟩ := hrel
    obtain ⟨W2, rfl⟩ : ∃ W2, W2 = wr := ⟨_, rfl⟩
    have hz2 := hst.out.size
    obtain ⟨a4, c4, a5, c5, _, g1, _, _, _, g5, _, _, _, _, q5⟩ := (HX3.out _ hst.out.bel).1.cells
    unfold maxLen at q5
    rw [show x.places.length = N from HnN.out.1.symm] at g5
    by_cases hkn : k < N
    · go_wp2
      go_loopw [8, 9] (fun ov sv wi => ∃ s : Nat, s ≤ SX ∧ sv = .int .i64 s ∧ Hid (Fresh OII W2 wi ov (jnT x y k (s * SY)))) (fun _ sv _ => SX - (intOf sv).toNat)
      case atStart => exact ⟨0, Nat.zero_le _, rfl, Lib.hid (by rw [Nat.zero_mul]; exact Fresh.empty (E := 22) (R := OI) (Below.refl _ _))⟩
      case round =>
        obtain ⟨s, hs, rfl, hf⟩ := hrel
        obtain ⟨W4, rfl⟩ : ∃ W4, W4 = wr := ⟨_, rfl⟩
        have hbw4 : Below w3.heap.size w3 W4 := hst.out.bel.trans (hf.out.bel.mono hst.out.bel.size)
        obtain ⟨_, _, _, _, _, g1, _, _, _, _, _, _, _, _, _⟩ := (HX3.out _ hbw4).1.cells
        rw [HeX.out] at g1
        have Hbw4 := Lib.hid hbw4
        clear hbw4
        by_cases hsx : s < SX
        · go_wp2
          go_loopw [8, 10] (fun ov sv wi => ∃ t : Nat, t ≤ SY ∧ sv = .int .i64 t ∧ Hid (Fresh OII W2 wi ov (jnT x y k (s * SY + t)))) (fun _ sv _ => SY - (intOf sv).toNat)
          case atStart => exact ⟨0, Nat.zero_le _, rfl, hf⟩
          case round =>
            clear hf g1 Hbw4
            obtain ⟨t, ht, rfl, hf⟩ := hrel
            obtain ⟨W5, rfl⟩ : ∃ W5, W5 = wr := ⟨_, rfl⟩
            have hbw5 : Below w3.heap.size w3 W5 := hst.out.bel.trans (hf.out.bel.mono hst.out.bel.size)
            obtain ⟨_, _, _, _, _, g1', _, _, _, _, _, _, _, _, _⟩ := (HX3.out _ hbw5).2.1.cells
            rw [HeY.out] at g1'
            have Hbw5 := Lib.hid hbw5
            clear hbw5
            by_cases hty : t < SY
            · go_wp2
              have hidx := jn_idx hsx hty
              have hdiv : (s * SY + t) / SY = s := by
                rw [Nat.mul_comm, Nat.mul_add_div (by omega), Nat.div_eq_of_lt hty, Nat.add_zero]
              have hmod : (s * SY + t) % SY = t := by rw [Nat.mul_comm, Nat.mul_add_mod, Nat.mod_eq_of_lt hty]
              obtain ⟨m, hm⟩ : ∃ m, m = s * SY + t := ⟨_, rfl⟩
              rw [← hm] at hdiv hmod hidx hf
              have Hm := Lib.hid hm
              clear hm
              go_loopw [11, 12] (fun rv dv wi => ∃ d : Nat, d ≤ NB ∧ dv = .int .i64 d ∧ Hid (Fresh OI W5 wi rv (jnR x y k m d))) (fun _ dv _ => NB - (intOf dv).toNat)
              case atStart => exact ⟨0, Nat.zero_le _, rfl, Lib.hid (Fresh.empty (E := 2) (R := oI) (Below.refl _ _))⟩
              case round =>
                obtain ⟨d, hd, rfl, hr⟩ := hrel
                obtain ⟨W6, rfl⟩ : ∃ W6, W6 = wr := ⟨_, rfl⟩
                have hbw6 : Below w3.heap.size w3 W6 := Hbw5.out.trans (hr.out.bel.mono Hbw5.out.size)
                have hx6 := (HX3.out _ hbw6).1
                have hy6 := (HX3.out _ hbw6).2.1
                obtain ⟨_, _, _, _, g0, _, _, _, _, _, _, _, _, _, _⟩ := hx6.cells
                obtain ⟨_, _, _, _, _, g1', _, _, _, _, _, _, _, _, _⟩ := hy6.cells
                rw [HeB.out] at g0
                rw [← HDS.out] at g1'
                by_cases hdb : d < NB
                · have hnx := jn_next hj.out (k := k) (s := m) (e := d) (by have := HnN.out; omega) (by rw [← HSX.out, ← HSY.out]; exact hidx) (by rw [← HNB.out]; exact hdb)
                  rw [← HSX.out, ← HSY.out, hdiv, hmod] at hnx
                  have hcl1 : Hid (∀ W, Below w3.heap.size w3 W → Below W6.heap.size W6 W → Calls Try.prog 101 #[.pointer (some ⟨w.heap.size, 0, none⟩), .int .i64 k, .int .i64 s, .int .i64 d] W fun e w' => e = .returned (.int .i64 (nxt x k s d)) ∧ Below W6.heap.size W6 w' ∧ Below w3.heap.size w3 w') := Lib.hid fun W hW hW6 => by
                    refine (specNext (HX3.out W hW).1 Hx.out k s d (by have := HnN.out; omega) (by rw [← HSX.out]; exact hsx) (by rw [← HNB.out]; exact hdb)).mono ?_
                    rintro e w' ⟨rfl, n, rfl⟩
                    exact ⟨rfl, Below.draws hW6 n, Below.draws hW n⟩
                  have hcl2 : Hid (∀ W, Below w3.heap.size w3 W → Below W6.heap.size W6 W → Calls Try.prog 101 #[.pointer (some ⟨w.heap.size + 1, 0, none⟩), .int .i64 k, .int .i64 t, .int .i64 d] W fun e w' => e = .returned (.int .i64 (nxt y k t d)) ∧ Below W6.heap.size W6 w' ∧ Below w3.heap.size w3 w') := Lib.hid fun W hW hW6 => by
                    refine (specNext (HX3.out W hW).2.1 Hy.out k t d (by have := HnN.out; omega) (by rw [← HSY.out]; exact hty) (by rw [HbY.out, ← HNB.out]; exact hdb)).mono ?_
                    rintro e w' ⟨rfl, n, rfl⟩
                    exact ⟨rfl, Below.draws hW6 n, Below.draws hW n⟩
                  have hsc := Lib.hid (show ∀ W, Below w3.heap.size w3 W → W.cell? ⟨w.heap.size + 1, 1, none⟩ = some (.int .i64 DS) ∧ Below w3.heap.size w3 W from fun W hW => ⟨by
                    obtain ⟨_, _, _, _, _, g1', _, _, _, _, _, _, _, _, _⟩ := (HX3.out _ hW).2.1.cells
                    rw [← HDS.out] at g1'
                    exact g1', hW⟩)
                  have Hbw6 := Lib.hid hbw6
                  have hsu := Lib.hid (jnR_succ x y k m d)
                  rw [← HSY.out, hdiv, hmod] at hsu
                  have hln := Lib.hid (jnR_len x y k m d)
                  obtain ⟨q, hq⟩ : ∃ q, q = nxt x k s d * SY := ⟨_, rfl⟩
                  have hq36 : q ≤ 1296 := by omega
                  have w1 : IntKind.i64.wrap ((nxt x k s d : Int) * DS) = (q : Int) := by rw [HDS.out, HeY.out, hq, ← Int.natCast_mul]; exact IntWalk.i64_in _ (by rw [← hq]; omega)
                  rw [← hq] at hsu
                  have hn2 : nxt y k t d ≤ 36 := by omega
                  clear hx6 hy6 hbw6 hnx hq
                  obtain ⟨hne⟩ : Nonempty True := ⟨trivial⟩
                  generalize nxt x k s d = n1 at *
                  generalize nxt y k t d = n2 at *
                  have w2 : IntKind.i64.wrap ((q : Int) + n2) = (q : Int) + n2 := IntWalk.i64_in _ (by omega)
                  have hent : Hid (((q + n2 : Nat) : Int) = (q : Int) + n2) := Lib.hid (by push_cast; rfl)
                  rw [hent.out] at hsu
                  clear hent hne
                  go_wp2
                  go_region_held3 (fun w' => w'.cell? ⟨w.heap.size + 1, 1, none⟩ = some (.int .i64 DS) ∧ Below w3.heap.size w3 w') ((refine hsc.out _ ?_; repeat' (first | with_reducible exact Hb9.out | with_reducible exact Hb8.out | with_reducible exact Hb7.out | with_reducible exact Hbw6.out | with_reducible refine Below.drew ?_ | with_reducible refine Below.alloc ?_ ?_ _ | (show _ ≤ _; have h8 := Hb8.out.size; simp; omega)))) (first
                    | ((with_reducible refine (Calls.mono (hcl1.out _ (‹_ ∧ Below w3.heap.size w3 _›).2 (by first | exact Hq7.out | (repeat' (first | with_reducible exact Below.refl _ _ | with_reducible refine Below.drew ?_ | with_reducible refine Below.draws ?_ _)))) ?_)); rintro e w7 ⟨rfl, hq7, hb7⟩; have Hq7 := Lib.hid hq7; have Hb7 := Lib.hid hb7; have s7 := hsc.out _ hb7; clear hq7 hb7)
                    | ((with_reducible refine (Calls.mono (hcl2.out _ (‹_ ∧ Below w3.heap.size w3 _›).2 (by first | exact Hq7.out | (repeat' (first | with_reducible exact Below.refl _ _ | with_reducible refine Below.drew ?_ | with_reducible refine Below.draws ?_ _)))) ?_)); rintro e w8 ⟨rfl, hq8, hb8⟩; have hr8 := hr.out.stay OI.ok hq8; have Hb8 := Lib.hid hb8; have s8 := hsc.out _ hb8; obtain ⟨S8, o8, hS8, hl8⟩ := hr8; have Ho8 := Lib.hid o8; have HS8 := Lib.hid hS8; have Hl8 := Lib.hid hl8; clear hq8 hb8 o8 hS8 hl8)
                    | (refine step_push rfl _ _ 22 rfl oI.ok Try.underlying22 infoI64 rfl w8 Ho8.out ((q : Int) + n2) [] ⟨rfl, rfl⟩ (by simp) (by have := hln.out; omega) (by have := hln.out; unfold maxLen; omega) rfl rfl rfl ?_; intro v1 w9 S9 ho9 hn9 hS9; have Hb9 := Lib.hid (below_only Hb8.out hn9 (by have := Hb8.out.size; omega) fun j hj => by have := HS8.out j hj; have := Hbw5.out.size; omega); have Hf1 := Lib.hid (Fresh.pushed HS8.out Hl8.out ho9 hn9 hS9); have s9 := hsc.out _ Hb9.out; clear ho9 hn9 hS9))
                  go_wp2_with fail
                  go_roundw
                  case rel => exact ⟨d + 1, by omega, by go_num, by rw [hsu.out]; exact Hf1⟩
                  case measure => simp [intOf]; omega
                · obtain ⟨hde⟩ : Nonempty (d = NB) := ⟨by omega⟩
                  have hr2 : Hid (Fresh OI W5 W6 _ (jnR x y k m NB)) := Lib.hid (by rw [hde] at hr; exact hr.out)
                  obtain ⟨S, T, p1, p2, p3, p4⟩ := pushRow OI.ok hf.out hr2.out
                  have Hp1 := Lib.hid p1
                  have Hp2 := Lib.hid p2
                  have Hp3 := Lib.hid p3
                  have Hp4 := Lib.hid p4
                  have hln := Lib.hid (jnT_len x y k m)
                  have hsu := Lib.hid (jnT_succ x y k m)
                  rw [← HNB.out] at hsu
                  have hm36 : m ≤ 1296 := by omega
                  obtain ⟨av, nv, cv, rfl⟩ := p1.isSlice
                  obtain ⟨a7, n7, c7, rfl⟩ := p2.isSlice
                  clear p1 p2 p3 p4 hde hr hr2 hbw6 hx6 hy6 g1'
                  go_wp2_with (at_builtin; refine wpList_push rfl _ _ 38 rfl OI.ok Try.underlying38 infoSl' rfl Hp1.out Hp2.out Hp3.out (by have := hln.out; omega) (by have := hln.out; unfold maxLen; omega) rfl rfl ?_; intro v1 w5 S1 hown1 honly1 hS1; have Hf5 := Lib.hid (Hp4.out v1 w5 S1 hown1 honly1 hS1); clear hown1 honly1 hS1)
                  go_roundw
                  case rel => exact ⟨t + 1, by omega, by go_num, by rw [show s * SY + (t + 1) = m + 1 by rw [Hm.out]; rfl, hsu.out]; exact Hf5⟩
                  case measure => simp [intOf]; omega
            · obtain ⟨hte⟩ : Nonempty (t = SY) := ⟨by omega⟩
              have hf2 := Lib.hid (show Fresh OII W2 W5 _ (jnT x y k ((s + 1) * SY)) by rw [Nat.succ_mul]; rw [hte] at hf; exact hf.out)
              clear hte hf
              go_wp2
              go_roundw
              case rel => exact ⟨s + 1, by omega, by go_num, hf2⟩
              case measure => simp [intOf]; omega
        · obtain ⟨hse⟩ : Nonempty (s = SX) := ⟨by omega⟩
          have hf2 := Lib.hid (show Fresh OII W2 W4 _ (jnT x y k (SX * SY)) by rw [hse] at hf; exact hf.out)
          have hst4 := hst.out.keep hf2.out.bel
          obtain ⟨T, hT, hT2, hbT⟩ := hf2.out
          have htl := Lib.hid (show (jnTs x y k).length ≤ 20 by rw [jnTs_len]; omega)
          have hpl' := Lib.hid (show (jnP k).length ≤ 20 by rw [jnP_len]; omega)
          have hsuT := Lib.hid (jnTs_succ x y k)
          rw [← HSX.out, ← HSY.out] at hsuT
          have hsuP := Lib.hid (jnP_succ k)
          obtain ⟨a8, n8, c8, rfl⟩ := hst4.pls.isSlice
          obtain ⟨a10, n10, c10, rfl⟩ := hst4.tabs.isSlice
          obtain ⟨a9, n9, c9, rfl⟩ := hT.isSlice
          have l1 := OIII.ok.lt hst.out.tabs
          have l2 := OI.ok.lt hst.out.pls
          have hd1 := Lib.hid (show ∀ j ∈ T, j ∉ S1 from fun j hj hm => by have := hT2 j hj; have := l1 j hm; omega)
          have hd2 := Lib.hid (show ∀ j ∈ T, w3.heap.size ≤ j ∧ j ≠ w3.heap.size + 1 + 1 ∧ j ∉ S2 from fun j hj => by
            have h1 := hT2 j hj
            have h2 := hst.out.bel.size
            exact ⟨by omega, by omega, fun hm => by have := l2 j hm; omega⟩)
          have HT := Lib.hid hT
          have Hst4 := Lib.hid hst4
          have e4 := heap_cell hst4.box (i := 4) rfl
          have f4 := frozen_at hst4.box 4
          clear hse hf hf2 hst4 hT hT2 hbT l1 l2 Hbw4
          go_upto_region 21 with (at_builtin; refine wpList_push rfl _ _ 26 rfl OII.ok Try.underlying26 infoSl3J rfl Hst4.out.tabs HT.out hd1.out (by have := htl.out; omega) (by have := htl.out; unfold maxLen; omega) rfl rfl ?_; intro v7 w7 S8 ho7 hn7 hS8; obtain ⟨a12, n12, c12, rfl⟩ := ho7.isSlice; obtain ⟨hbx7, hst7⟩ := Hst4.out.pushT hd2.out ho7 hn7 hS8; have f7 := frozen_at hbx7 4; have e7 := heap_cell hbx7 (i := 4) rfl; have e8 := heap_cell hst7.box (i := 5) rfl; have f8 := frozen_at hst7.box 5; have Hst7 := Lib.hid hst7; clear ho7 hn7 hS8 hbx7 hst7)
          clear f4 e4
          generalize w7.setCell ⟨w3.heap.size + 1 + 1, 4, none⟩ (.slice a12 n12 c12) = w8 at *
          go_wp2_with (at_builtin; refine wpList_push rfl _ _ 22 rfl oI.ok Try.underlying22 infoI64 rfl Hst7.out.pls (T := []) (y := (k : Int)) ⟨rfl, rfl⟩ (by simp) (by have := hpl'.out; omega) (by have := hpl'.out; unfold maxLen; omega) rfl rfl ?_; intro v1 w5 S5 ho5 hn5 hS5; obtain ⟨a9', n9', c9', rfl⟩ := ho5.isSlice; obtain ⟨hbx5, hst5⟩ := Hst7.out.pushP ho5 hn5 hS5; have f5 := frozen_at hbx5 5; have e5 := heap_cell hbx5 (i := 5) rfl; have Hst5 := Lib.hid hst5; clear hst5 ho5 hn5 hS5 hbx5)
          go_roundw
          case rel => exact ⟨k + 1, _, _, _, _, by omega, by go_num, by rw [hsuT.out, hsuP.out]; exact Hst5⟩
          case measure => simp [intOf]; omega
    · obtain ⟨hke⟩ : Nonempty (k = N) := ⟨by omega⟩
      obtain ⟨a8, n8, c8, rfl⟩ := hst.out.pls.isSlice
      obtain ⟨a10, n10, c10, rfl⟩ := hst.out.tabs.isSlice
      have hd := Lib.hid (hst.out.done (x := jnC x y) (by rw [hke]; exact hjc.out N HnN.out.1))
      have Hbox := Lib.hid hst.out.box
      have Hzz := Lib.hid (HX3.out _ hst.out.bel).2.2
      have d0 := heap_cell Hbox.out (i := 0) rfl
      have d1 := heap_cell Hbox.out (i := 1) rfl
      have d2 := heap_cell Hbox.out (i := 2) rfl
      have d3 := heap_cell Hbox.out (i := 3) rfl
      have d4 := heap_cell Hbox.out (i := 4) rfl
      have d5 := heap_cell Hbox.out (i := 5) rfl
      have z0 := heap_cell Hzz.out (i := 0) rfl
      have z1 := heap_cell Hzz.out (i := 1) rfl
      have z2 := heap_cell Hzz.out (i := 2) rfl
      have z3 := heap_cell Hzz.out (i := 3) rfl
      have z4 := heap_cell Hzz.out (i := 4) rfl
      have z5 := heap_cell Hzz.out (i := 5) rfl
      have f0 := frozen_at Hzz.out 0
      have f1 := frozen_at Hzz.out 1
      have f2 := frozen_at Hzz.out 2
      have f3 := frozen_at Hzz.out 3
      have f4 := frozen_at Hzz.out 4
      have f5 := frozen_at Hzz.out 5
      clear hke hst
      go_wp2
      refine bodyPost_ret (v := .tuple #[.agg #[.int .i64 x.base, .int .i64 PS, .int .i64 (PA + y.start), .int .i64 (PZ + y.stop), .slice a10 n10 c10, .slice a8 n8 c8], .bool true]) (by simp [results, Try.results48, go_sem, z0, z1, z2, z3, z4, z5]) rfl ⟨_, by rw [hj.out], by rw [jnV_yes hj.out]; exact Fresh.turnedAt (b := w.heap.size + 1 + 1) OC.ok hd.out Hb3.out (by omega) hlt3 (by repeat' (first | with_reducible exact Only.refl _ _ | with_reducible refine Only.put ?_ ?_ _ _ | (simp; done)))⟩
end Go.Proofs.Ytnpkanlieflbiaa
