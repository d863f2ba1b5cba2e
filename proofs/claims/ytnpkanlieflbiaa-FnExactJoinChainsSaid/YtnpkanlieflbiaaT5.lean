/- JoinChains: the program's walk. Printed by gen_t5.py. -/
import Derived.Test.YtnpkanlieflbiaaT4
import Derived.Test.YtnpkanlieflbiaaD1
import Derived.Test.YtnpkanlieflbiaaF4
namespace Go.Proofs.Ytnpkanlieflbiaa
open Go.RowKit
set_option linter.unusedVariables false

theorem join_boxesI {B : Nat} {w : World} {x y : Chn} {u p u' p' : Value} (hu : RdIII (· < B) w u x.tables) (hp : RdI (· < B) w p x.places) (hu' : RdIII (· < B) w u' y.tables) (hp' : RdI (· < B) w p' y.places) (hB : B ≤ w.heap.size) {W1 : World}
    (hW : W1 = ((w.alloc (.cells #[.int .i64 x.base, .int .i64 x.states, .int .i64 x.start, .int .i64 x.stop, u, p] 28)).alloc (.cells #[.int .i64 y.base, .int .i64 y.states, .int .i64 y.start, .int .i64 y.stop, u', p'] 28)).alloc (.cells #[.int .i64 0, .int .i64 0, .int .i64 0, .int .i64 0, .slice none 0 0, .slice none 0 0] 28)) :
    W1.heap.size = w.heap.size + 3 ∧ Below w.heap.size w W1 ∧ ∀ W, Below W1.heap.size W1 W → W.heap[w.heap.size]? = some (.cells #[.int .i64 x.base, .int .i64 x.states, .int .i64 x.start, .int .i64 x.stop, u, p] 28 (0, 0)) ∧ W.heap[w.heap.size + 1]? = some (.cells #[.int .i64 y.base, .int .i64 y.states, .int .i64 y.start, .int .i64 y.stop, u', p'] 28 (0, 0)) ∧ W.heap[w.heap.size + 1 + 1]? = some (.cells #[.int .i64 0, .int .i64 0, .int .i64 0, .int .i64 0, .slice none 0 0, .slice none 0 0] 28 (0, 0)) ∧ BoxC (· < B) W w.heap.size x ∧ BoxC (· < B) W (w.heap.size + 1) y ∧ RdC (· < B) W (aggC x u p) x ∧ RdC (· < B) W (aggC y u' p') y := by
  have hs : W1.heap.size = w.heap.size + 3 := by rw [hW]; simp only [alloc_size]
  have hb : Below w.heap.size w W1 := by rw [hW]; repeat' (first | with_reducible exact Below.refl _ _ | with_reducible refine Below.alloc ?_ ?_ _ | with_reducible refine Below.setCell ?_ ?_ _ | with_reducible refine Below.drew ?_ | with_reducible refine Below.draws ?_ _ | omega | (simp; done) | (simp; omega))
  refine ⟨hs, hb, fun W hbW => ?_⟩
  have kp : ∀ k, k < B → W.heap[k]? = w.heap[k]? := fun k hk => (hbW.block k (by omega)).trans (hb.block k (by omega))
  have e1 : W.heap[w.heap.size]? = some (.cells #[.int .i64 x.base, .int .i64 x.states, .int .i64 x.start, .int .i64 x.stop, u, p] 28 (0, 0)) := (hbW.block _ (by omega)).trans (by rw [hW]; exact (alloc_old (by simp only [alloc_size]; omega)).trans ((alloc_old (by simp only [alloc_size]; omega)).trans (alloc_at rfl)))
  have e2 : W.heap[w.heap.size + 1]? = some (.cells #[.int .i64 y.base, .int .i64 y.states, .int .i64 y.start, .int .i64 y.stop, u', p'] 28 (0, 0)) := (hbW.block _ (by omega)).trans (by rw [hW]; exact (alloc_old (by simp only [alloc_size]; omega)).trans (alloc_at (by simp only [alloc_size])))
  have e3 : W.heap[w.heap.size + 1 + 1]? = some (.cells #[.int .i64 0, .int .i64 0, .int .i64 0, .int .i64 0, .slice none 0 0, .slice none 0 0] 28 (0, 0)) := (hbW.block _ (by omega)).trans (by rw [hW]; exact alloc_at (by simp only [alloc_size]))
  have r1 := RdIII.ok.keep hu kp
  have r2 := RdI.ok.keep hp kp
  have r3 := RdIII.ok.keep hu' kp
  have r4 := RdI.ok.keep hp' kp
  exact ⟨e1, e2, e3, ⟨u, p, e1, r1, r2⟩, ⟨u', p', e2, r3, r4⟩, ⟨u, p, rfl, r1, r2⟩, ⟨u', p', rfl, r3, r4⟩⟩
/-- Both stores behind both appends. -/
theorem JS.pushB {w : World} {bx : Nat} {c0 c1 c2 c3 : Int} {T : List (List (List Int))} {Pl : List Int} {tv pv : Value} {S1 S2 : List Nat} {wr : World} (h : JS w bx c0 c1 c2 c3 T Pl tv pv S1 S2 wr)
    {w5 w6 : World} {v1 v2 : Value} {T' : List (List (List Int))} {Pl' : List Int} {S' S'' T7 : List Nat} (hT7 : ∀ j ∈ T7, w.heap.size ≤ j ∧ j ≠ bx ∧ j ∉ S2 ∧ j < wr.heap.size) (ho : OIII w5 v1 T' S') (hn : Only S1 wr w5) (hS : ∀ k ∈ S', k ∈ S1 ∨ k ∈ T7 ∨ wr.heap.size ≤ k)
    (ho2 : OI w6 v2 Pl' S'') (hn2 : Only S2 w5 w6) (hS2 : ∀ k ∈ S'', k ∈ S2 ∨ k ∈ ([] : List Nat) ∨ w5.heap.size ≤ k) :
    w6.heap[bx]? = some (.cells #[.int .i64 c0, .int .i64 c1, .int .i64 c2, .int .i64 c3, tv, pv] 28 (0, 0)) ∧ JS w bx c0 c1 c2 c3 T' Pl' v1 v2 S' S'' ((w6.setCell ⟨bx, 4, none⟩ v1).setCell ⟨bx, 5, none⟩ v2) := by
  have hz := h.size
  have hs := h.bel.size
  have l2 := OI.ok.lt h.pls
  have l1' := OIII.ok.lt ho
  have hs5 := hn.size
  have hb : ∀ k ∈ S', w.heap.size ≤ k ∧ k ≠ bx := fun k hk => by
    rcases hS k hk with e | e | e
    · exact h.b1 k e
    · exact ⟨(hT7 k e).1, (hT7 k e).2.1⟩
    · omega
  have hb2 : ∀ k ∈ S'', w.heap.size ≤ k ∧ k ≠ bx := fun k hk => by
    rcases hS2 k hk with e | e | e
    · exact h.b2 k e
    · simp at e
    · omega
  have hd : ∀ j ∈ S', j ∉ S2 := fun j hj hm => by
    rcases hS j hj with e | e | e
    · exact h.d12 j e hm
    · exact (hT7 j e).2.2.1 hm
    · have := l2 j hm; omega
  have hbx5 := Only.heap hn h.box (fun hm => (h.b1 _ hm).2 rfl)
  have hbx6 := Only.heap hn2 hbx5 (fun hm => (h.b2 _ hm).2 rfl)
  have e2 := heap_setCell_same w6 bx 4 _ _ v1 hbx6
  have e3 := heap_setCell_same _ bx 5 _ _ v2 e2
  have hset : ∀ k, k ≠ bx → ((w6.setCell ⟨bx, 4, none⟩ v1).setCell ⟨bx, 5, none⟩ v2).heap[k]? = w6.heap[k]? := fun k hk => (heap_setCell_other _ _ k v2 (by simpa using hk)).trans (heap_setCell_other w6 _ k v1 (by simpa using hk))
  have hbl5 := below_only h.bel hn hs fun j hj => (h.b1 j hj).1
  have hbl6 := below_only hbl5 hn2 hbl5.size fun j hj => (h.b2 j hj).1
  refine ⟨hbx6, by rw [e3]; rfl, OIII.ok.keep ho fun k hk => (hset k (hb k hk).2).trans (hn2.block k (l1' k hk) (hd k hk)), OI.ok.keep ho2 fun k hk => hset k (hb2 k hk).2, hb, hb2, fun j hj hm => ?_, h.hbx, (hbl6.setCell h.hbx _).setCell h.hbx _⟩
  rcases hS2 j hm with e | e | e
  · exact hd j hj e
  · simp at e
  · have := l1' j hj; omega
theorem JS.startI (w : World) (c0 c1 c2 c3 : Int) : JS w w.heap.size c0 c1 c2 c3 [] [] (.slice none 0 0) (.slice none 0 0) [] [] (w.alloc (.cells #[.int .i64 c0, .int .i64 c1, .int .i64 c2, .int .i64 c3, .slice none 0 0, .slice none 0 0] 28)) :=
  ⟨heap_alloc_new w _, own_nil _, own_nil _, by simp, by simp, by simp, Nat.le_refl _, (Below.refl _ _).alloc (Nat.le_refl _) _⟩

/-- A step of a region: a table is appended to a chain in the making. -/
theorem JS.stepT {P : Program} {ops : Array Oper} {o : Oper} {a : Act} {K : Act → World → Prop} {Q : Exit → Act → World → Prop} {Ep : Prop} (hgd : o.guard = none) (s x : Operand) {t : TypeId}
    (ho : o.op = .call { callee := .builtin .append, args := #[s, x], argTypes := #[t, t] }) (ht : P.underlying t = some (.slice 38)) {z : Value} {bytes : Nat} (hinfo : (P.info? 38).map (fun i => (i.zero, i.size, i.bytes)) = some (some z, 1, bytes)) (hz1 : z.cells.size = 1) (hby : bytes ≤ 24)
    {w : World} {bx : Nat} {c0 c1 c2 c3 : Int} {T : List (List (List Int))} {Pl : List Int} {tv pv : Value} {S1 S2 : List Nat} {W5 : World} (h : JS w bx c0 c1 c2 c3 T Pl tv pv S1 S2 W5) {W : World} (hW : Below W5.heap.size W5 W)
    {b : Nat} {u : Value} {y : List (List Int)} {T7 : List Nat} (hs : a.eval s = tv) (hx : a.eval x = .slice (some ⟨b, 0, none⟩) 1 1) (hb : W.heap[b]? = some (.cells #[u] 38 (0, 0))) (hu : OII W5 u y T7) (hd : ∀ k ∈ T7, k ∉ S1) (hlen : T.length ≤ 20)
    (hk : ∀ v7 w7 S8, OIII w7 v7 (T ++ [y]) S8 → Only S1 W5 w7 → (∀ k ∈ S8, k ∈ S1 ∨ k ∈ T7 ∨ W5.heap.size ≤ k) → W.heap.size ≤ w7.heap.size → (∀ k, W5.heap.size ≤ k → k < W.heap.size → w7.heap[k]? = W.heap[k]?) → K (a.put o.dst v7) w7) :
    if Region.wanted o (yielded ops a.tmps) = true then Oper.wp P o a W K Q else Ep := by
  have l1 := OIII.ok.lt h.tabs
  refine step_pushAt hgd s x t ho OII.ok ht hinfo hz1 b (OIII.ok.keep h.tabs fun k hk => hW.block k (l1 k hk)) hb y T7 (OII.ok.keep hu fun k hk => hW.block k (OII.ok.lt hu k hk)) hd (by have : (T.length + 1) * bytes ≤ 21 * 24 := Nat.mul_le_mul (by omega) hby; omega) (by unfold maxLen; omega) hs hx ?_
  intro v7 w7 S8 h1 h2 h3
  have hsz := hW.size
  refine hk v7 w7 S8 h1 (Only.trans ⟨hW.os, hW.tape, hW.output, hW.size, fun k hk _ => hW.block k hk⟩ h2) (fun k hk => ?_) h2.size (fun k hk1 hk2 => h2.block k hk2 fun hm => by have := l1 k hm; omega)
  rcases h3 k hk with e | e | e
  · exact .inl e
  · exact .inr (.inl e)
  · exact .inr (.inr (by omega))
/-- The same: a place. -/
theorem JS.stepP {P : Program} {ops : Array Oper} {o : Oper} {a : Act} {K : Act → World → Prop} {Q : Exit → Act → World → Prop} {Ep : Prop} (hgd : o.guard = none) (s x : Operand) {t : TypeId}
    (ho : o.op = .call { callee := .builtin .append, args := #[s, x], argTypes := #[t, t] }) (ht : P.underlying t = some (.slice 2)) {z : Value} {bytes : Nat} (hinfo : (P.info? 2).map (fun i => (i.zero, i.size, i.bytes)) = some (some z, 1, bytes)) (hz1 : z.cells.size = 1) (hby : bytes ≤ 24)
    {w : World} {bx : Nat} {c0 c1 c2 c3 : Int} {T : List (List (List Int))} {Pl : List Int} {tv pv : Value} {S1 S2 : List Nat} {W5 : World} (h : JS w bx c0 c1 c2 c3 T Pl tv pv S1 S2 W5) {w7 : World} (hn7 : Only S1 W5 w7) {W : World} (hW : Below w7.heap.size w7 W)
    {b : Nat} (y : Int) (hs : a.eval s = pv) (hx : a.eval x = .slice (some ⟨b, 0, none⟩) 1 1) (hb : W.heap[b]? = some (.cells #[.int .i64 y] 2 (0, 0))) (hlen : Pl.length ≤ 20)
    (hk : ∀ v9 w9 S9, OI w9 v9 (Pl ++ [y]) S9 → Only S2 w7 w9 → (∀ k ∈ S9, k ∈ S2 ∨ k ∈ ([] : List Nat) ∨ w7.heap.size ≤ k) → K (a.put o.dst v9) w9) :
    if Region.wanted o (yielded ops a.tmps) = true then Oper.wp P o a W K Q else Ep := by
  have l2 := OI.ok.lt h.pls
  have hz := hn7.size
  refine step_pushAt hgd s x t ho oI.ok ht hinfo hz1 b (OI.ok.keep h.pls fun k hk => (hW.block k (by have := l2 k hk; omega)).trans (hn7.block k (l2 k hk) fun hm => h.d12 k hm hk)) hb y [] ⟨rfl, rfl⟩ (by simp) (by have : (Pl.length + 1) * bytes ≤ 21 * 24 := Nat.mul_le_mul (by omega) hby; omega) (by unfold maxLen; omega) hs hx ?_
  intro v9 w9 S9 h1 h2 h3
  refine hk v9 w9 S9 h1 (Only.trans ⟨hW.os, hW.tape, hW.output, hW.size, fun k hk _ => hW.block k hk⟩ h2) (fun k hk => ?_)
  rcases h3 k hk with e | e | e
  · exact .inl e
  · exact .inr (.inl e)
  · exact .inr (.inr (Nat.le_trans hW.size e))

set_option maxHeartbeats 12800000 in
set_option maxRecDepth 100000 in
theorem implJoinChains {B : Nat} {v v' : Value} {x y : Chn} {w : World} (h : RdC (· < B) w v x) (h' : RdC (· < B) w v' y) (hB : B ≤ w.heap.size) (hn : szC x ≤ 1048576) (hn' : szC y ≤ 1048576) :
    Calls Try.prog 50 #[v, v'] w fun e w' => ∃ r, e = .returned (.tuple #[r, .bool (jnOk x y)]) ∧ Fresh OC w w' r (jnV x y) := by
  have hpn : x.places.length ≤ 1048576 ∧ y.places.length ≤ 1048576 := by unfold szC at hn hn'; omega
  clear hn hn'
  obtain ⟨u, p, rfl, hu, hp⟩ := h
  obtain ⟨u', p', rfl, hu', hp'⟩ := h'
  obtain ⟨aU, cU, rfl, _, hcU⟩ := Rd.isSlice hu
  obtain ⟨aP, cP, rfl, hP1, hcP⟩ := Rd.isSlice hp
  obtain ⟨aU', cU', rfl, _, hcU'⟩ := Rd.isSlice hu'
  obtain ⟨aP', cP', rfl, hP1', hcP'⟩ := Rd.isSlice hp'
  unfold maxLen at hcP hcP' hcU hcU'
  obtain ⟨W1, hW1⟩ : ∃ W1, W1 = ((w.alloc (.cells #[.int .i64 x.base, .int .i64 x.states, .int .i64 x.start, .int .i64 x.stop, .slice aU x.tables.length cU, .slice aP x.places.length cP] 28)).alloc (.cells #[.int .i64 y.base, .int .i64 y.states, .int .i64 y.start, .int .i64 y.stop, .slice aU' y.tables.length cU', .slice aP' y.places.length cP'] 28)).alloc (.cells #[.int .i64 0, .int .i64 0, .int .i64 0, .int .i64 0, .slice none 0 0, .slice none 0 0] 28) := ⟨_, rfl⟩
  obtain ⟨hs1, hb1, hx⟩ := join_boxesI hu hp hu' hp' hB hW1
  have Hs1 := Lib.hid hs1
  have Hb1 := Lib.hid hb1
  have HX := Lib.hid hx
  have HW1 := Lib.hid hW1
  have hlt1 : w.heap.size + 1 + 1 < W1.heap.size := by omega
  have hB1 : B ≤ W1.heap.size := by omega
  clear hs1 hb1 hx hW1 hu hp hu' hp'
  unfold aggC
  cases hv : vC x
  · have hj := Lib.hid (jn_no1 (y := y) hv)
    go_enter Try.func50, Try.ntmps50
    go_wp2_with fail
    rw [← HW1.out]
    refine (implValidChainP (HX.out _ (Below.refl _ _)).2.2.2.2.2.1 (by omega) (by omega) _ hv).mono ?_
    rintro e w2 ⟨rfl, hb2⟩
    have Hz2 := Lib.hid (HX.out _ hb2).2.2.1
    have z0 := heap_cell Hz2.out (i := 0) rfl
    have z1 := heap_cell Hz2.out (i := 1) rfl
    have z2 := heap_cell Hz2.out (i := 2) rfl
    have z3 := heap_cell Hz2.out (i := 3) rfl
    have z4 := heap_cell Hz2.out (i := 4) rfl
    have z5 := heap_cell Hz2.out (i := 5) rfl
    have f0 := frozen_at Hz2.out 0
    have f1 := frozen_at Hz2.out 1
    have f2 := frozen_at Hz2.out 2
    have f3 := frozen_at Hz2.out 3
    have f4 := frozen_at Hz2.out 4
    have f5 := frozen_at Hz2.out 5
    have Hbel := Lib.hid (Hb1.out.trans (hb2.mono Hb1.out.size))
    clear hb2
    go_wp2
    refine bodyPost_ret (v := .tuple #[aggC Chn.nil (.slice none 0 0) (.slice none 0 0), .bool false]) (by simp [results, Try.results50, go_sem, aggC, Chn.nil, z0, z1, z2, z3, z4, z5]) rfl ⟨_, by rw [hj.out], ?_⟩
    rw [jnV_no hj.out]
    refine nil_fresh (Hbel.out.trans ?_)
    repeat' (first | with_reducible exact Below.refl _ _ | with_reducible refine Below.alloc ?_ ?_ _ | with_reducible refine Below.setCell ?_ ?_ _ | with_reducible refine Below.drew ?_ | with_reducible refine Below.draws ?_ _ | omega | (simp; done) | (simp; omega))
  cases hv' : vC y
  · have hj := Lib.hid (jn_no2 (x := x) hv')
    go_enter Try.func50, Try.ntmps50
    go_wp2_with fail
    rw [← HW1.out]
    refine (implValidChainP (HX.out _ (Below.refl _ _)).2.2.2.2.2.1 (by omega) (by omega) _ hv).mono ?_
    rintro e w2 ⟨rfl, hb2⟩
    have g0' := heap_cell (HX.out _ hb2).2.1 (i := 0) rfl
    have g1' := heap_cell (HX.out _ hb2).2.1 (i := 1) rfl
    have g2' := heap_cell (HX.out _ hb2).2.1 (i := 2) rfl
    have g3' := heap_cell (HX.out _ hb2).2.1 (i := 3) rfl
    have g4' := heap_cell (HX.out _ hb2).2.1 (i := 4) rfl
    have g5' := heap_cell (HX.out _ hb2).2.1 (i := 5) rfl
    go_wp2_with fail
    refine (implValidChainP (HX.out _ hb2).2.2.2.2.2.2 (by have := hb2.size; omega) (by omega) _ hv').mono ?_
    rintro e w3 ⟨rfl, hb3'⟩
    have hb3 : Below W1.heap.size W1 w3 := hb2.trans (hb3'.mono hb2.size)
    clear hb3' hb2 g0' g1' g2' g3' g4' g5'
    have Hz3 := Lib.hid (HX.out _ hb3).2.2.1
    have z0 := heap_cell Hz3.out (i := 0) rfl
    have z1 := heap_cell Hz3.out (i := 1) rfl
    have z2 := heap_cell Hz3.out (i := 2) rfl
    have z3 := heap_cell Hz3.out (i := 3) rfl
    have z4 := heap_cell Hz3.out (i := 4) rfl
    have z5 := heap_cell Hz3.out (i := 5) rfl
    have f0 := frozen_at Hz3.out 0
    have f1 := frozen_at Hz3.out 1
    have f2 := frozen_at Hz3.out 2
    have f3 := frozen_at Hz3.out 3
    have f4 := frozen_at Hz3.out 4
    have f5 := frozen_at Hz3.out 5
    have Hbel := Lib.hid (Hb1.out.trans (hb3.mono Hb1.out.size))
    clear hb3
    go_wp2
    refine bodyPost_ret (v := .tuple #[aggC Chn.nil (.slice none 0 0) (.slice none 0 0), .bool false]) (by simp [results, Try.results50, go_sem, aggC, Chn.nil, z0, z1, z2, z3, z4, z5]) rfl ⟨_, by rw [hj.out], ?_⟩
    rw [jnV_no hj.out]
    refine nil_fresh (Hbel.out.trans ?_)
    repeat' (first | with_reducible exact Below.refl _ _ | with_reducible refine Below.alloc ?_ ?_ _ | with_reducible refine Below.setCell ?_ ?_ _ | with_reducible refine Below.drew ?_ | with_reducible refine Below.draws ?_ _ | omega | (simp; done) | (simp; omega))
  by_cases hbs : x.base = y.base
  rotate_left
  · have hj := Lib.hid (jn_no3 hbs)
    go_enter Try.func50, Try.ntmps50
    go_wp2_with fail
    rw [← HW1.out]
    refine (implValidChainP (HX.out _ (Below.refl _ _)).2.2.2.2.2.1 (by omega) (by omega) _ hv).mono ?_
    rintro e w2 ⟨rfl, hb2⟩
    have g0' := heap_cell (HX.out _ hb2).2.1 (i := 0) rfl
    have g1' := heap_cell (HX.out _ hb2).2.1 (i := 1) rfl
    have g2' := heap_cell (HX.out _ hb2).2.1 (i := 2) rfl
    have g3' := heap_cell (HX.out _ hb2).2.1 (i := 3) rfl
    have g4' := heap_cell (HX.out _ hb2).2.1 (i := 4) rfl
    have g5' := heap_cell (HX.out _ hb2).2.1 (i := 5) rfl
    go_wp2_with fail
    refine (implValidChainP (HX.out _ hb2).2.2.2.2.2.2 (by have := hb2.size; omega) (by omega) _ hv').mono ?_
    rintro e w3 ⟨rfl, hb3'⟩
    have hb3 : Below W1.heap.size W1 w3 := hb2.trans (hb3'.mono hb2.size)
    clear hb3' hb2 g0' g1' g2' g3' g4' g5'
    have g0 := heap_cell (HX.out _ hb3).1 (i := 0) rfl
    have g1 := heap_cell (HX.out _ hb3).1 (i := 1) rfl
    have g2 := heap_cell (HX.out _ hb3).1 (i := 2) rfl
    have g3 := heap_cell (HX.out _ hb3).1 (i := 3) rfl
    have g4 := heap_cell (HX.out _ hb3).1 (i := 4) rfl
    have g5 := heap_cell (HX.out _ hb3).1 (i := 5) rfl
    have g0' := heap_cell (HX.out _ hb3).2.1 (i := 0) rfl
    have g1' := heap_cell (HX.out _ hb3).2.1 (i := 1) rfl
    have g2' := heap_cell (HX.out _ hb3).2.1 (i := 2) rfl
    have g3' := heap_cell (HX.out _ hb3).2.1 (i := 3) rfl
    have g4' := heap_cell (HX.out _ hb3).2.1 (i := 4) rfl
    have g5' := heap_cell (HX.out _ hb3).2.1 (i := 5) rfl
    have Hz3 := Lib.hid (HX.out _ hb3).2.2.1
    have z0 := heap_cell Hz3.out (i := 0) rfl
    have z1 := heap_cell Hz3.out (i := 1) rfl
    have z2 := heap_cell Hz3.out (i := 2) rfl
    have z3 := heap_cell Hz3.out (i := 3) rfl
    have z4 := heap_cell Hz3.out (i := 4) rfl
    have z5 := heap_cell Hz3.out (i := 5) rfl
    have f0 := frozen_at Hz3.out 0
    have f1 := frozen_at Hz3.out 1
    have f2 := frozen_at Hz3.out 2
    have f3 := frozen_at Hz3.out 3
    have f4 := frozen_at Hz3.out 4
    have f5 := frozen_at Hz3.out 5
    have Hbel := Lib.hid (Hb1.out.trans (hb3.mono Hb1.out.size))
    clear hb3
    go_wp2
    refine bodyPost_ret (v := .tuple #[aggC Chn.nil (.slice none 0 0) (.slice none 0 0), .bool false]) (by simp [results, Try.results50, go_sem, aggC, Chn.nil, z0, z1, z2, z3, z4, z5]) rfl ⟨_, by rw [hj.out], ?_⟩
    rw [jnV_no hj.out]
    refine nil_fresh (Hbel.out.trans ?_)
    repeat' (first | with_reducible exact Below.refl _ _ | with_reducible refine Below.alloc ?_ ?_ _ | with_reducible refine Below.setCell ?_ ?_ _ | with_reducible refine Below.drew ?_ | with_reducible refine Below.draws ?_ _ | omega | (simp; done) | (simp; omega))
  have Hbs := Lib.hid hbs
  by_cases hpl : x.places.length = y.places.length
  rotate_left
  · have hj := Lib.hid (jn_no4 hpl)
    have hpl2 : ¬ (x.places.length : Int) = (y.places.length : Int) := by omega
    clear hbs
    go_enter Try.func50, Try.ntmps50
    go_wp2_with fail
    rw [← HW1.out]
    refine (implValidChainP (HX.out _ (Below.refl _ _)).2.2.2.2.2.1 (by omega) (by omega) _ hv).mono ?_
    rintro e w2 ⟨rfl, hb2⟩
    have g0' := heap_cell (HX.out _ hb2).2.1 (i := 0) rfl
    have g1' := heap_cell (HX.out _ hb2).2.1 (i := 1) rfl
    have g2' := heap_cell (HX.out _ hb2).2.1 (i := 2) rfl
    have g3' := heap_cell (HX.out _ hb2).2.1 (i := 3) rfl
    have g4' := heap_cell (HX.out _ hb2).2.1 (i := 4) rfl
    have g5' := heap_cell (HX.out _ hb2).2.1 (i := 5) rfl
    go_wp2_with fail
    refine (implValidChainP (HX.out _ hb2).2.2.2.2.2.2 (by have := hb2.size; omega) (by omega) _ hv').mono ?_
    rintro e w3 ⟨rfl, hb3'⟩
    have hb3 : Below W1.heap.size W1 w3 := hb2.trans (hb3'.mono hb2.size)
    clear hb3' hb2 g0' g1' g2' g3' g4' g5'
    have g0 := heap_cell (HX.out _ hb3).1 (i := 0) rfl
    have g1 := heap_cell (HX.out _ hb3).1 (i := 1) rfl
    have g2 := heap_cell (HX.out _ hb3).1 (i := 2) rfl
    have g3 := heap_cell (HX.out _ hb3).1 (i := 3) rfl
    have g4 := heap_cell (HX.out _ hb3).1 (i := 4) rfl
    have g5 := heap_cell (HX.out _ hb3).1 (i := 5) rfl
    have g0' := heap_cell (HX.out _ hb3).2.1 (i := 0) rfl
    have g1' := heap_cell (HX.out _ hb3).2.1 (i := 1) rfl
    have g2' := heap_cell (HX.out _ hb3).2.1 (i := 2) rfl
    have g3' := heap_cell (HX.out _ hb3).2.1 (i := 3) rfl
    have g4' := heap_cell (HX.out _ hb3).2.1 (i := 4) rfl
    have g5' := heap_cell (HX.out _ hb3).2.1 (i := 5) rfl
    rw [← Hbs.out] at g0'
    have Hz3 := Lib.hid (HX.out _ hb3).2.2.1
    have z0 := heap_cell Hz3.out (i := 0) rfl
    have z1 := heap_cell Hz3.out (i := 1) rfl
    have z2 := heap_cell Hz3.out (i := 2) rfl
    have z3 := heap_cell Hz3.out (i := 3) rfl
    have z4 := heap_cell Hz3.out (i := 4) rfl
    have z5 := heap_cell Hz3.out (i := 5) rfl
    have f0 := frozen_at Hz3.out 0
    have f1 := frozen_at Hz3.out 1
    have f2 := frozen_at Hz3.out 2
    have f3 := frozen_at Hz3.out 3
    have f4 := frozen_at Hz3.out 4
    have f5 := frozen_at Hz3.out 5
    have Hbel := Lib.hid (Hb1.out.trans (hb3.mono Hb1.out.size))
    clear hb3
    go_wp2
    refine bodyPost_ret (v := .tuple #[aggC Chn.nil (.slice none 0 0) (.slice none 0 0), .bool false]) (by simp [results, Try.results50, go_sem, aggC, Chn.nil, z0, z1, z2, z3, z4, z5]) rfl ⟨_, by rw [hj.out], ?_⟩
    rw [jnV_no hj.out]
    refine nil_fresh (Hbel.out.trans ?_)
    repeat' (first | with_reducible exact Below.refl _ _ | with_reducible refine Below.alloc ?_ ?_ _ | with_reducible refine Below.setCell ?_ ?_ _ | with_reducible refine Below.drew ?_ | with_reducible refine Below.draws ?_ _ | omega | (simp; done) | (simp; omega))
  have Hpl := Lib.hid hpl
  have vx := vC_iff.1 hv
  have vy := vC_iff.1 hv'
  have hml := jn_mul (a := x.states) (b := y.states) (by have := vx.states; omega) vy.states
  obtain ⟨PS, hPS⟩ : ∃ z, z = x.states * y.states := ⟨_, rfl⟩
  have m1 : wrap64 (x.states * y.states) = PS := by rw [hPS]; exact IntWalk.wrap64_in _ (by omega)
  by_cases hst : x.states * y.states ≤ 36
  rotate_left
  · have hj := Lib.hid (jn_no5 hst)
    have hst2 : 36 < PS := by omega
    clear hPS hml hst hpl hbs
    go_enter Try.func50, Try.ntmps50
    go_wp2_with fail
    rw [← HW1.out]
    refine (implValidChainP (HX.out _ (Below.refl _ _)).2.2.2.2.2.1 (by omega) (by omega) _ hv).mono ?_
    rintro e w2 ⟨rfl, hb2⟩
    have g0' := heap_cell (HX.out _ hb2).2.1 (i := 0) rfl
    have g1' := heap_cell (HX.out _ hb2).2.1 (i := 1) rfl
    have g2' := heap_cell (HX.out _ hb2).2.1 (i := 2) rfl
    have g3' := heap_cell (HX.out _ hb2).2.1 (i := 3) rfl
    have g4' := heap_cell (HX.out _ hb2).2.1 (i := 4) rfl
    have g5' := heap_cell (HX.out _ hb2).2.1 (i := 5) rfl
    go_wp2_with fail
    refine (implValidChainP (HX.out _ hb2).2.2.2.2.2.2 (by have := hb2.size; omega) (by omega) _ hv').mono ?_
    rintro e w3 ⟨rfl, hb3'⟩
    have hb3 : Below W1.heap.size W1 w3 := hb2.trans (hb3'.mono hb2.size)
    clear hb3' hb2 g0' g1' g2' g3' g4' g5'
    have g0 := heap_cell (HX.out _ hb3).1 (i := 0) rfl
    have g1 := heap_cell (HX.out _ hb3).1 (i := 1) rfl
    have g2 := heap_cell (HX.out _ hb3).1 (i := 2) rfl
    have g3 := heap_cell (HX.out _ hb3).1 (i := 3) rfl
    have g4 := heap_cell (HX.out _ hb3).1 (i := 4) rfl
    have g5 := heap_cell (HX.out _ hb3).1 (i := 5) rfl
    have g0' := heap_cell (HX.out _ hb3).2.1 (i := 0) rfl
    have g1' := heap_cell (HX.out _ hb3).2.1 (i := 1) rfl
    have g2' := heap_cell (HX.out _ hb3).2.1 (i := 2) rfl
    have g3' := heap_cell (HX.out _ hb3).2.1 (i := 3) rfl
    have g4' := heap_cell (HX.out _ hb3).2.1 (i := 4) rfl
    have g5' := heap_cell (HX.out _ hb3).2.1 (i := 5) rfl
    rw [← Hbs.out] at g0'
    rw [← Hpl.out] at g5'
    clear vx vy
    have Hz3 := Lib.hid (HX.out _ hb3).2.2.1
    have z0 := heap_cell Hz3.out (i := 0) rfl
    have z1 := heap_cell Hz3.out (i := 1) rfl
    have z2 := heap_cell Hz3.out (i := 2) rfl
    have z3 := heap_cell Hz3.out (i := 3) rfl
    have z4 := heap_cell Hz3.out (i := 4) rfl
    have z5 := heap_cell Hz3.out (i := 5) rfl
    have f0 := frozen_at Hz3.out 0
    have f1 := frozen_at Hz3.out 1
    have f2 := frozen_at Hz3.out 2
    have f3 := frozen_at Hz3.out 3
    have f4 := frozen_at Hz3.out 4
    have f5 := frozen_at Hz3.out 5
    have Hbel := Lib.hid (Hb1.out.trans (hb3.mono Hb1.out.size))
    clear hb3
    go_wp2
    refine bodyPost_ret (v := .tuple #[aggC Chn.nil (.slice none 0 0) (.slice none 0 0), .bool false]) (by simp [results, Try.results50, go_sem, aggC, Chn.nil, z0, z1, z2, z3, z4, z5]) rfl ⟨_, by rw [hj.out], ?_⟩
    rw [jnV_no hj.out]
    refine nil_fresh (Hbel.out.trans ?_)
    repeat' (first | with_reducible exact Below.refl _ _ | with_reducible refine Below.alloc ?_ ?_ _ | with_reducible refine Below.setCell ?_ ?_ _ | with_reducible refine Below.drew ?_ | with_reducible refine Below.draws ?_ _ | omega | (simp; done) | (simp; omega))
  have hok := jn_yes hv hv' hbs hpl hst
  have hj := Lib.hid hok
  have hvO := Lib.hid (jn_vC hok)
  have Hx := Lib.hid vx
  have Hy := Lib.hid vy
  have hst2 : PS ≤ 36 := by omega
  have n1 := vx.nat
  have n2 := vy.nat
  obtain ⟨_, _, hq3, hn, _, hP6, hP7, hP8⟩ := jn_parts hok
  have ma := jn_mul (a := x.start) (b := y.states) (by have := vx.start; have := vx.states; omega) vy.states
  have mz := jn_mul (a := x.stop) (b := y.states) (by have := vx.stop; have := vx.states; omega) vy.states
  have hsy := vy.start
  have hty := vy.stop
  have hys := vy.states
  obtain ⟨PA, hPA⟩ : ∃ z, z = x.start * y.states := ⟨_, rfl⟩
  obtain ⟨PZ, hPZ⟩ : ∃ z, z = x.stop * y.states := ⟨_, rfl⟩
  have m2 : wrap64 (x.start * y.states) = PA := by rw [hPA]; exact IntWalk.wrap64_in _ (by omega)
  have m3 : wrap64 (x.stop * y.states) = PZ := by rw [hPZ]; exact IntWalk.wrap64_in _ (by omega)
  have m4 : wrap64 (PA + y.start) = PA + y.start := IntWalk.wrap64_in _ (by omega)
  have m5 : wrap64 (PZ + y.stop) = PZ + y.stop := IntWalk.wrap64_in _ (by omega)
  have hjc : Hid (∀ N, N = x.n → jnC x y = ⟨x.base, PS, PA + y.start, PZ + y.stop, jnTs x y N, jnP N⟩) := Lib.hid fun N hN => by rw [hN, hPS, hPA, hPZ]; rfl
  have eX : x.states = (x.S : Int) := by have := vx.states; show _ = ((x.states.toNat : Nat) : Int); omega
  have eY : y.states = (y.S : Int) := by have := vy.states; show _ = ((y.states.toNat : Nat) : Int); omega
  have eB : x.base = (x.b : Int) := by have := vx.base; show _ = ((x.base.toNat : Nat) : Int); omega
  have HeX := Lib.hid eX
  have HeY := Lib.hid eY
  have HeB := Lib.hid eB
  have hby : y.b = x.b := by show y.base.toNat = x.base.toNat; rw [hbs]
  have HbY := Lib.hid hby
  have HePS := Lib.hid (show PS = ((x.S * y.S : Nat) : Int) by rw [hPS]; exact hP6)
  clear hPS hPA hPZ ma mz hml hst vx vy hP6 hok
  have Hn := Lib.hid hn
  clear eX eY eB hpl hbs hq3 hn
  go_enter Try.func50, Try.ntmps50
  go_wp2_with fail
  rw [← HW1.out]
  refine (implValidChainP (HX.out _ (Below.refl _ _)).2.2.2.2.2.1 (by omega) (by omega) _ hv).mono ?_
  rintro e w2 ⟨rfl, hb2⟩
  have g0' := heap_cell (HX.out _ hb2).2.1 (i := 0) rfl
  have g1' := heap_cell (HX.out _ hb2).2.1 (i := 1) rfl
  have g2' := heap_cell (HX.out _ hb2).2.1 (i := 2) rfl
  have g3' := heap_cell (HX.out _ hb2).2.1 (i := 3) rfl
  have g4' := heap_cell (HX.out _ hb2).2.1 (i := 4) rfl
  have g5' := heap_cell (HX.out _ hb2).2.1 (i := 5) rfl
  go_wp2_with fail
  refine (implValidChainP (HX.out _ hb2).2.2.2.2.2.2 (by have := hb2.size; omega) (by omega) _ hv').mono ?_
  rintro e w3 ⟨rfl, hb3'⟩
  have hb3 : Below W1.heap.size W1 w3 := hb2.trans (hb3'.mono hb2.size)
  clear hb3' hb2 g0' g1' g2' g3' g4' g5'
  have g0 := heap_cell (HX.out _ hb3).1 (i := 0) rfl
  have g1 := heap_cell (HX.out _ hb3).1 (i := 1) rfl
  have g2 := heap_cell (HX.out _ hb3).1 (i := 2) rfl
  have g3 := heap_cell (HX.out _ hb3).1 (i := 3) rfl
  have g4 := heap_cell (HX.out _ hb3).1 (i := 4) rfl
  have g5 := heap_cell (HX.out _ hb3).1 (i := 5) rfl
  have g0' := heap_cell (HX.out _ hb3).2.1 (i := 0) rfl
  have g1' := heap_cell (HX.out _ hb3).2.1 (i := 1) rfl
  have g2' := heap_cell (HX.out _ hb3).2.1 (i := 2) rfl
  have g3' := heap_cell (HX.out _ hb3).2.1 (i := 3) rfl
  have g4' := heap_cell (HX.out _ hb3).2.1 (i := 4) rfl
  have g5' := heap_cell (HX.out _ hb3).2.1 (i := 5) rfl
  rw [← Hbs.out] at g0'
  rw [← Hpl.out] at g5'
  have HX3 := Lib.hid (show ∀ W, Below w3.heap.size w3 W → W.heap[w.heap.size]? = some (.cells #[.int .i64 x.base, .int .i64 x.states, .int .i64 x.start, .int .i64 x.stop, .slice aU x.tables.length cU, .slice aP x.places.length cP] 28 (0, 0)) ∧ W.heap[w.heap.size + 1]? = some (.cells #[.int .i64 y.base, .int .i64 y.states, .int .i64 y.start, .int .i64 y.stop, .slice aU' y.tables.length cU', .slice aP' y.places.length cP'] 28 (0, 0)) ∧ W.heap[w.heap.size + 1 + 1]? = some (.cells #[.int .i64 0, .int .i64 0, .int .i64 0, .int .i64 0, .slice none 0 0, .slice none 0 0] 28 (0, 0)) ∧ BoxC (· < B) W w.heap.size x ∧ BoxC (· < B) W (w.heap.size + 1) y from fun W hW => by
    obtain ⟨e1, e2, e3, e4, e5, _⟩ := HX.out W (hb3.trans (hW.mono hb3.size))
    exact ⟨e1, e2, e3, e4, e5⟩)
  have hlt3 : w.heap.size + 1 + 1 < w3.heap.size := by have := hb3.size; omega
  have hlt3b : w.heap.size + 1 < w3.heap.size := by omega
  have hlt3a : w.heap.size < w3.heap.size := by omega
  have Hb3 := Lib.hid (Hb1.out.trans (hb3.mono Hb1.out.size))
  have HJ := Lib.hid (JS.startI w3 x.base PS (PA + y.start) (PZ + y.stop))
  clear hb3 HX
  go_wp2
  clear g0 g1 g2 g3 g4 g5 g0' g1' g2' g3' g4' g5' m1 m2 m3 m4 m5 hsy hty hst2
  generalize wrap64 (x.start * y.states) = zA
  generalize wrap64 (x.stop * y.states) = zZ
  generalize wrap64 (x.states * y.states) = zS
  obtain ⟨SY, hSY⟩ : ∃ n, n = y.S := ⟨_, rfl⟩
  obtain ⟨NB, hNB⟩ : ∃ n, n = x.b := ⟨_, rfl⟩
  obtain ⟨M, hM⟩ : ∃ n, n = x.S * y.S := ⟨_, rfl⟩
  have hY36 : 1 ≤ SY ∧ SY ≤ 36 := by omega
  have hB36 : 2 ≤ NB ∧ NB ≤ 36 := by omega
  have hM36 : 1 ≤ M ∧ M ≤ 36 := by omega
  have HSY := Lib.hid hSY
  have HNB := Lib.hid hNB
  have HM := Lib.hid hM
  rw [← hSY] at HeY
  rw [← hNB] at HeB
  rw [← hM] at HePS
  obtain ⟨N, hN⟩ : ∃ N, N = x.n := ⟨_, rfl⟩
  have HN := Lib.hid hN
  have hN20 : N ≤ 20 := by omega
  obtain ⟨DS, hDS⟩ : ∃ z, z = y.states := ⟨_, rfl⟩
  have HDS := Lib.hid hDS
  have hDS1 : 1 ≤ DS ∧ DS ≤ 36 := by omega
  have hDS0 : ¬ DS = 0 := by omega
  have hnN : N = x.n ∧ N = y.n := ⟨hN, by have := Hn.out; omega⟩
  have HnN := Lib.hid hnN
  clear hSY hNB hM n1 n2 hys hby hN hDS hnN hP7 hP8
  go_loopw [72] (fun kv wr => ∃ (k : Nat) (tv pv : Value) (S1 S2 : List Nat), k ≤ N ∧ kv = .int .i64 k ∧ Hid (JS w3 w3.heap.size x.base PS (PA + y.start) (PZ + y.stop) (jnTs x y k) (jnP k) tv pv S1 S2 wr)) (fun kv _ => N - (intOf kv).toNat)
  case atStart => exact ⟨0, _, _, _, _, Nat.zero_le _, rfl, HJ⟩
  case round =>
    clear HJ
    obtain ⟨k, tv, pv, S1, S2, hk, rfl, hst⟩ := hrel
    obtain ⟨W2, rfl⟩ : ∃ W2, W2 = wr := ⟨_, rfl⟩
    have hz2 := hst.out.size
    by_cases hkn : k < N
    · have hplN : (k : Int) < (x.places.length : Int) := by rw [show x.places.length = N from HN.out.symm]; omega
      have b1 := heap_cell hst.out.box (i := 1) rfl
      rw [HePS.out] at b1
      go_wp2
      go_loopw [8, 78] (fun ov sv wi => ∃ m : Nat, m ≤ M ∧ sv = .int .i64 m ∧ Hid (Fresh OII W2 wi ov (jnT x y k m))) (fun _ sv _ => M - (intOf sv).toNat)
      case atStart => exact ⟨0, Nat.zero_le _, rfl, Lib.hid (Fresh.empty (E := 22) (R := OI) (Below.refl _ _))⟩
      case round =>
        clear b1
        obtain ⟨m, hm, rfl, hf⟩ := hrel
        obtain ⟨W5, rfl⟩ : ∃ W5, W5 = wr := ⟨_, rfl⟩
        have hbw5 : Below w3.heap.size w3 W5 := hst.out.bel.trans (hf.out.bel.mono hst.out.bel.size)
        have g0 := heap_cell (HX3.out _ hbw5).1 (i := 0) rfl
        rw [HeB.out] at g0
        have hlt5 : w.heap.size < W5.heap.size := by have := hbw5.size; omega
        have Hbw5 := Lib.hid hbw5
        clear hbw5
        by_cases hmM : m < M
        · go_wp2
          have hdiv := Lib.hid (show m / SY < x.S ∧ m % SY < SY from ⟨by rw [Nat.div_lt_iff_lt_mul (by omega)]; have := HM.out; rw [← HSY.out] at this; omega, Nat.mod_lt _ (by omega)⟩)
          go_loopw [10, 84] (fun rv dv wi => ∃ d : Nat, d ≤ NB ∧ dv = .int .i64 d ∧ Hid (Fresh OI W5 wi rv (jnR x y k m d))) (fun _ dv _ => NB - (intOf dv).toNat)
          case atStart => exact ⟨0, Nat.zero_le _, rfl, Lib.hid (Fresh.empty (E := 2) (R := oI) (Below.refl _ _))⟩
          case round =>
            clear g0
            obtain ⟨d, hd, rfl, hr⟩ := hrel
            obtain ⟨W6, rfl⟩ : ∃ W6, W6 = wr := ⟨_, rfl⟩
            have hbw6 : Below w3.heap.size w3 W6 := Hbw5.out.trans (hr.out.bel.mono Hbw5.out.size)
            have g1' := heap_cell (HX3.out _ hbw6).2.1 (i := 1) rfl
            rw [← HDS.out] at g1'
            by_cases hdb : d < NB
            · have hnx := jn_next hj.out (k := k) (s := m) (e := d) (by have := HnN.out; omega) (by rw [← HM.out]; exact hmM) (by rw [← HNB.out]; exact hdb)
              rw [← HSY.out] at hnx
              have hcl1 : Hid (∀ W, Below w3.heap.size w3 W → Below W6.heap.size W6 W → Calls Try.prog 103 #[.pointer (some ⟨w.heap.size, 0, none⟩), .int .i64 k, .int .i64 (m / SY : Nat), .int .i64 d] W fun e w' => e = .returned (.int .i64 (nxt x k (m / SY) d)) ∧ Below W6.heap.size W6 w' ∧ Below w3.heap.size w3 w') := Lib.hid fun W hW hW6 => by
                refine (implNext (HX3.out W hW).2.2.2.1 Hx.out k (m / SY) d (by have := HnN.out; omega) hdiv.out.1 (by rw [← HNB.out]; exact hdb)).mono ?_
                rintro e w' ⟨rfl, n, rfl⟩
                exact ⟨rfl, Below.draws hW6 n, Below.draws hW n⟩
              have hcl2 : Hid (∀ W, Below w3.heap.size w3 W → Below W6.heap.size W6 W → Calls Try.prog 103 #[.pointer (some ⟨w.heap.size + 1, 0, none⟩), .int .i64 k, .int .i64 (m % SY : Nat), .int .i64 d] W fun e w' => e = .returned (.int .i64 (nxt y k (m % SY) d)) ∧ Below W6.heap.size W6 w' ∧ Below w3.heap.size w3 w') := Lib.hid fun W hW hW6 => by
                refine (implNext (HX3.out W hW).2.2.2.2 Hy.out k (m % SY) d (by have := HnN.out; omega) (by rw [← HSY.out]; exact hdiv.out.2) (by rw [HbY.out, ← HNB.out]; exact hdb)).mono ?_
                rintro e w' ⟨rfl, n, rfl⟩
                exact ⟨rfl, Below.draws hW6 n, Below.draws hW n⟩
              have hsc := Lib.hid (show ∀ W, Below w3.heap.size w3 W → W.cell? ⟨w.heap.size + 1, 1, none⟩ = some (.int .i64 DS) ∧ Below w3.heap.size w3 W from fun W hW => ⟨by
                have g1' := heap_cell (HX3.out _ hW).2.1 (i := 1) rfl
                rw [← HDS.out] at g1'
                exact g1', hW⟩)
              have Hbw6 := Lib.hid hbw6
              have hsu := Lib.hid (jnR_succ x y k m d)
              rw [← HSY.out] at hsu
              have hln := Lib.hid (jnR_len x y k m d)
              obtain ⟨q, hq⟩ : ∃ q, q = nxt x k (m / SY) d * SY := ⟨_, rfl⟩
              have hMx : x.S * SY = M := by rw [HM.out, HSY.out]
              have hq36 : q ≤ 1296 := by omega
              have w1 : IntKind.i64.wrap ((nxt x k (m / SY) d : Int) * DS) = (q : Int) := by rw [HDS.out, HeY.out, hq, ← Int.natCast_mul]; exact IntWalk.i64_in _ (by rw [← hq]; omega)
              rw [← hq] at hsu
              have hn2 : nxt y k (m % SY) d ≤ 36 := by omega
              have e1 : (m : Int) / DS = ((m / SY : Nat) : Int) := by rw [HDS.out, HeY.out, Int.natCast_ediv]
              have e2 : (m : Int) % DS = ((m % SY : Nat) : Int) := by rw [HDS.out, HeY.out, Int.natCast_emod]
              have hm1 : m / SY ≤ m := Nat.div_le_self _ _
              have hm2 : m % SY ≤ m := Nat.mod_le _ _
              clear hbw6 hnx hq hMx
              generalize nxt x k (m / SY) d = n1 at *
              generalize nxt y k (m % SY) d = n2 at *
              generalize m / SY = D1 at *
              generalize m % SY = D2 at *
              have w2 : IntKind.i64.wrap ((q : Int) + n2) = (q : Int) + n2 := IntWalk.i64_in _ (by omega)
              have w3' : IntKind.i64.wrap (D1 : Int) = D1 := IntWalk.i64_in _ (by omega)
              have w4' : IntKind.i64.wrap (D2 : Int) = D2 := IntWalk.i64_in _ (by omega)
              have e3 : (m : Int).tdiv DS = (D1 : Int) := by rw [Int.tdiv_eq_ediv_of_nonneg (by omega)]; exact e1
              have e4 : (m : Int).tmod DS = (D2 : Int) := by rw [Int.tmod_eq_emod_of_nonneg (by omega)]; exact e2
              have hent : Hid (((q + n2 : Nat) : Int) = (q : Int) + n2) := Lib.hid (by push_cast; rfl)
              rw [hent.out] at hsu
              clear hent hdiv hm1 hm2
              go_wp2
              go_region_held3 (fun w' => w'.cell? ⟨w.heap.size + 1, 1, none⟩ = some (.int .i64 DS) ∧ Below w3.heap.size w3 w') ((refine hsc.out _ ?_; repeat' (first | with_reducible exact Hb9.out | with_reducible exact Hb8.out | with_reducible exact Hb7.out | with_reducible exact Hbw6.out | with_reducible refine Below.drew ?_ | with_reducible refine Below.alloc ?_ ?_ _ | (show _ ≤ _; have h8 := Hb8.out.size; simp; omega)))) (first
                | ((with_reducible refine (Calls.mono (hcl1.out _ (‹_ ∧ Below w3.heap.size w3 _›).2 (by first | exact Hq7.out | (repeat' (first | with_reducible exact Below.refl _ _ | with_reducible refine Below.drew ?_ | with_reducible refine Below.draws ?_ _)))) ?_)); rintro e w7 ⟨rfl, hq7, hb7⟩; have Hq7 := Lib.hid hq7; have Hb7 := Lib.hid hb7; have s7 := hsc.out _ hb7; clear hq7 hb7)
                | ((with_reducible refine (Calls.mono (hcl2.out _ (‹_ ∧ Below w3.heap.size w3 _›).2 (by first | exact Hq7.out | (repeat' (first | with_reducible exact Below.refl _ _ | with_reducible refine Below.drew ?_ | with_reducible refine Below.draws ?_ _)))) ?_)); rintro e w8 ⟨rfl, hq8, hb8⟩; have hr8 := hr.out.stay OI.ok hq8; have Hb8 := Lib.hid hb8; have s8 := hsc.out _ hb8; obtain ⟨S8, o8, hS8, hl8⟩ := hr8; have Ho8 := Lib.hid o8; have HS8 := Lib.hid hS8; have Hl8 := Lib.hid hl8; clear hq8 hb8 o8 hS8 hl8)
                | (refine step_push rfl _ _ 22 rfl oI.ok Try.underlying22 infoI64 rfl w8 Ho8.out ((q : Int) + n2) [] ⟨rfl, rfl⟩ (by simp) (by have := hln.out; omega) (by have := hln.out; unfold maxLen; omega) rfl rfl rfl ?_; intro v1 w9 S9 ho9 hn9 hS9; have Hb9 := Lib.hid (below_only Hb8.out hn9 (by have := Hb8.out.size; omega) fun j hj => by have := HS8.out j hj; have := Hbw5.out.size; omega); have Hf1 := Lib.hid (Fresh.pushed HS8.out Hl8.out ho9 hn9 hS9); have s9 := hsc.out _ Hb9.out; clear ho9 hn9 hS9))
              go_wp2_with fail
              go_roundw
              case rel => exact ⟨d + 1, by omega, by go_num, by rw [hsu.out]; exact Hf1⟩
              case measure => simp [intOf]; omega
            · obtain ⟨hde⟩ : Nonempty (d = NB) := ⟨by omega⟩
              have hr2 : Hid (Fresh OI W5 W6 _ (jnR x y k m NB)) := Lib.hid (by rw [hde] at hr; exact hr.out)
              obtain ⟨S, T, p1, p2, p3, p4⟩ := pushRow OI.ok hf.out hr2.out
              have Hp1 := Lib.hid p1
              have Hp2 := Lib.hid p2
              have Hp3 := Lib.hid p3
              have Hp4 := Lib.hid p4
              have hln := Lib.hid (jnT_len x y k m)
              have hsu := Lib.hid (jnT_succ x y k m)
              rw [← HNB.out] at hsu
              have hm36 : m ≤ 1296 := by omega
              obtain ⟨av, nv, cv, rfl⟩ := p1.isSlice
              obtain ⟨a7, n7, c7, rfl⟩ := p2.isSlice
              clear p1 p2 p3 p4 hde hr hr2 hbw6 g1' hdiv
              go_wp2_with (at_builtin; refine wpList_push rfl _ _ 38 rfl OI.ok Try.underlying38 infoSl' rfl Hp1.out Hp2.out Hp3.out (by have := hln.out; omega) (by have := hln.out; unfold maxLen; omega) rfl rfl ?_; intro v1 w5 S1 hown1 honly1 hS1; have Hf5 := Lib.hid (Hp4.out v1 w5 S1 hown1 honly1 hS1); clear hown1 honly1 hS1)
              go_roundw
              case rel => exact ⟨m + 1, by omega, by go_num, by rw [hsu.out]; exact Hf5⟩
              case measure => simp [intOf]; omega
        · obtain ⟨hse⟩ : Nonempty (m = M) := ⟨by omega⟩
          have hf2 := Lib.hid (show Fresh OII W2 W5 _ (jnT x y k M) by rw [hse] at hf; exact hf.out)
          have hst4 := hst.out.keep hf2.out.bel
          obtain ⟨T, hT, hT2, hbT⟩ := hf2.out
          have htl := Lib.hid (show (jnTs x y k).length ≤ 20 by rw [jnTs_len]; omega)
          have hpl' := Lib.hid (show (jnP k).length ≤ 20 by rw [jnP_len]; omega)
          have hsuT := Lib.hid (jnTs_succ x y k)
          rw [← HM.out] at hsuT
          have hsuP := Lib.hid (jnP_succ k)
          obtain ⟨a8, n8, c8, rfl⟩ := hst4.pls.isSlice
          obtain ⟨a10, n10, c10, rfl⟩ := hst4.tabs.isSlice
          obtain ⟨a9, n9, c9, rfl⟩ := hT.isSlice
          have l1 := OIII.ok.lt hst.out.tabs
          have l2 := OI.ok.lt hst.out.pls
          have hd1 := Lib.hid (show ∀ j ∈ T, j ∉ S1 from fun j hj hm => by have := hT2 j hj; have := l1 j hm; omega)
          have hd2 := Lib.hid (show ∀ j ∈ T, w3.heap.size ≤ j ∧ j ≠ w3.heap.size ∧ j ∉ S2 ∧ j < W5.heap.size from fun j hj => by
            have h1 := hT2 j hj
            have h2 := hst.out.bel.size
            exact ⟨by omega, by omega, fun hm => by have := l2 j hm; omega, OII.ok.lt hT j hj⟩)
          have HT := Lib.hid hT
          have Hst4 := Lib.hid hst4
          have hz5 := hst4.size
          have e4 := heap_cell hst4.box (i := 4) rfl
          have e5 := heap_cell hst4.box (i := 5) rfl
          have f4 := frozen_at hst4.box 4
          have f5 := frozen_at hst4.box 5
          clear hse hf hf2 hst4 hT hT2 hbT l1 l2 Hbw5 g0
          go_wp2
          go_region_law (first
            | (refine JS.stepT rfl _ _ rfl Try.underlying26 infoSl3J rfl (Nat.le_refl _) Hst4.out (by repeat' (first | with_reducible exact Below.refl _ _ | with_reducible refine Below.alloc ?_ ?_ _ | with_reducible refine Below.setCell ?_ ?_ _ | with_reducible refine Below.drew ?_ | with_reducible refine Below.draws ?_ _ | omega | (simp; done) | (simp; omega))) rfl rfl (by first | exact alloc_at (by simp) | exact (alloc_old (by simp)).trans (alloc_at (by simp)) | exact (HK7.out _ (by first | omega | (simp; done) | (simp; omega)) (by first | (simp; done) | (simp; omega))).trans (alloc_at (by simp)) | exact (HK7.out _ (by first | omega | (simp; done) | (simp; omega)) (by first | (simp; done) | (simp; omega))).trans ((alloc_old (by simp)).trans (alloc_at (by simp)))) HT.out hd1.out (by have := htl.out; omega) ?_; intro v7 w7 S8 ho7 hn7 hS8 hz7 hk7; obtain ⟨a12, n12, c12, rfl⟩ := ho7.isSlice; have Ho7 := Lib.hid ho7; have Hn7 := Lib.hid hn7; have HS8 := Lib.hid hS8; have HK7 := Lib.hid hk7; have hbx7 := Only.heap hn7 Hst4.out.box (fun hm => (Hst4.out.b1 _ hm).2 rfl); have hz7' := heap_lt hbx7; have e5' := heap_cell hbx7 (i := 5) rfl; have e4' := heap_cell hbx7 (i := 4) rfl; clear ho7 hn7 hS8 hk7 hbx7)
            | (refine JS.stepP rfl _ _ rfl Try.underlying22 infoI64 rfl (by omega) Hst4.out Hn7.out (by repeat' (first | with_reducible exact Below.refl _ _ | with_reducible refine Below.alloc ?_ ?_ _ | with_reducible refine Below.setCell ?_ ?_ _ | with_reducible refine Below.drew ?_ | with_reducible refine Below.draws ?_ _ | omega | (simp; done) | (simp; omega))) (k : Int) rfl rfl (by first | exact alloc_at (by simp) | exact (alloc_old (by simp)).trans (alloc_at (by simp)) | exact (HK7.out _ (by first | omega | (simp; done) | (simp; omega)) (by first | (simp; done) | (simp; omega))).trans (alloc_at (by simp)) | exact (HK7.out _ (by first | omega | (simp; done) | (simp; omega)) (by first | (simp; done) | (simp; omega))).trans ((alloc_old (by simp)).trans (alloc_at (by simp)))) (by have := hpl'.out; omega) ?_; intro v9 w9 S9 ho9 hn9 hS9; obtain ⟨a13, n13, c13, rfl⟩ := ho9.isSlice; obtain ⟨hbx9, hst9⟩ := Hst4.out.pushB hd2.out Ho7.out Hn7.out HS8.out ho9 hn9 hS9; have hz9 := heap_lt hbx9; have e49 := heap_cell hbx9 (i := 4) rfl; have e59 := heap_cell hbx9 (i := 5) rfl; have f49 := frozen_at hbx9 4; have f59 := frozen_at hbx9 5; have Hst9 := Lib.hid hst9; clear ho9 hn9 hS9 hbx9 hst9))
          all_goals go_wp2
          all_goals go_roundw
          all_goals first
            | (exact ⟨k + 1, _, _, _, _, by omega, by go_num, by rw [hsuT.out, hsuP.out]; exact Hst9⟩)
            | (simp [intOf]; omega)
    · obtain ⟨hke⟩ : Nonempty (k = N) := ⟨by omega⟩
      have hplN : ¬ (k : Int) < (x.places.length : Int) := by rw [show x.places.length = N from HN.out.symm]; omega
      obtain ⟨a8, n8, c8, rfl⟩ := hst.out.pls.isSlice
      obtain ⟨a10, n10, c10, rfl⟩ := hst.out.tabs.isSlice
      have hd := Lib.hid (hst.out.done (x := jnC x y) (by rw [hke]; exact hjc.out N HnN.out.1))
      have hcl := Lib.hid (implValidChainP (B := W2.heap.size) (x := jnC x y) (OC.leads.to _ _ _ _ _ hd.out.choose_spec.1 (OC.ok.lt hd.out.choose_spec.1)) (Nat.le_refl _) (by show (jnP x.n).length ≤ _; rw [jnP_len]; have := HnN.out.1; omega) true hvO.out)
      have Hbox := Lib.hid hst.out.box
      have Hbw2 := Lib.hid hst.out.bel
      have d0 := heap_cell Hbox.out (i := 0) rfl
      have d1 := heap_cell Hbox.out (i := 1) rfl
      have d2 := heap_cell Hbox.out (i := 2) rfl
      have d3 := heap_cell Hbox.out (i := 3) rfl
      have d4 := heap_cell Hbox.out (i := 4) rfl
      have d5 := heap_cell Hbox.out (i := 5) rfl
      clear hke hst
      go_wp2_with fail
      refine hcl.out.mono ?_
      rintro e w9 ⟨rfl, hb9⟩
      have Hbox9 := Lib.hid (below_heap hb9 Hbox.out)
      have Hzz := Lib.hid (HX3.out _ (Hbw2.out.trans (hb9.mono Hbw2.out.size))).2.2.1
      have hd9 := Lib.hid (hd.out.stayF OC.ok hb9)
      clear d0 d1 d2 d3 d4 d5 hb9
      have d0 := heap_cell Hbox9.out (i := 0) rfl
      have d1 := heap_cell Hbox9.out (i := 1) rfl
      have d2 := heap_cell Hbox9.out (i := 2) rfl
      have d3 := heap_cell Hbox9.out (i := 3) rfl
      have d4 := heap_cell Hbox9.out (i := 4) rfl
      have d5 := heap_cell Hbox9.out (i := 5) rfl
      have z0 := heap_cell Hzz.out (i := 0) rfl
      have z1 := heap_cell Hzz.out (i := 1) rfl
      have z2 := heap_cell Hzz.out (i := 2) rfl
      have z3 := heap_cell Hzz.out (i := 3) rfl
      have z4 := heap_cell Hzz.out (i := 4) rfl
      have z5 := heap_cell Hzz.out (i := 5) rfl
      have f0 := frozen_at Hzz.out 0
      have f1 := frozen_at Hzz.out 1
      have f2 := frozen_at Hzz.out 2
      have f3 := frozen_at Hzz.out 3
      have f4 := frozen_at Hzz.out 4
      have f5 := frozen_at Hzz.out 5
      go_wp2
      refine bodyPost_ret (v := .tuple #[.agg #[.int .i64 x.base, .int .i64 PS, .int .i64 (PA + y.start), .int .i64 (PZ + y.stop), .slice a10 n10 c10, .slice a8 n8 c8], .bool true]) (by simp [results, Try.results50, go_sem, z0, z1, z2, z3, z4, z5]) rfl ⟨_, by rw [hj.out], by rw [jnV_yes hj.out]; exact Fresh.turnedAt (b := w.heap.size + 1 + 1) OC.ok hd9.out Hb3.out (by omega) hlt3 (by repeat' (first | with_reducible exact Only.refl _ _ | with_reducible refine Only.put ?_ ?_ _ _ | (simp; done)))⟩
end Go.Proofs.Ytnpkanlieflbiaa
