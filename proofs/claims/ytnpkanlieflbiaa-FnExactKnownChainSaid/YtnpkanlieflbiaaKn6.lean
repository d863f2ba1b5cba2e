/- Known chains: the system of two moduli, the program's walk. Printed by gen_kn6.py. -/
import Derived.Test.YtnpkanlieflbiaaKn5
import Derived.Deep.RegionLaw
namespace Go.Proofs.Ytnpkanlieflbiaa
open Go.RowKit
set_option linter.unusedVariables false

/-- A made list with one number more, set as the places of a chain: a step of a region. -/
theorem JS.stepM {P : Program} {ops : Array Oper} {o : Oper} {a : Act} {K : Act → World → Prop} {Q' : Exit → Act → World → Prop} {Ep : Prop} (hgd : o.guard = none) (s x : Operand) {t : TypeId}
    (ho : o.op = .call { callee := .builtin .append, args := #[s, x], argTypes := #[t, t] }) (ht : P.underlying t = some (.slice 2)) {z : Value} {bytes : Nat} (hinfo : (P.info? 2).map (fun i => (i.zero, i.size, i.bytes)) = some (some z, 1, bytes)) (hz1 : z.cells.size = 1) (hby : bytes ≤ 24)
    {W8 W : World} (hW : Below W8.heap.size W8 W) {m b Q : Nat} {y : Int} (hs : a.eval s = .slice (some ⟨m, 0, none⟩) Q Q) (hx : a.eval x = .slice (some ⟨b, 0, none⟩) 1 1) (hm : W.heap[m]? = some (.cells (madeCells #[.int .i64 0] Q) 2 (0, 0))) (hm8 : W8.heap.size ≤ m)
    (hb : W.heap[b]? = some (.cells #[.int .i64 y] 2 (0, 0))) (hQ : Q ≤ 20)
    (hk : ∀ v9 w9 S9, OI w9 v9 (List.replicate Q 0 ++ [y]) S9 → Below W8.heap.size W8 w9 → (∀ k ∈ S9, W8.heap.size ≤ k) → K (a.put o.dst v9) w9) :
    if Region.wanted o (yielded ops a.tmps) = true then Oper.wp P o a W K Q' else Ep := by
  have hown : OI W (.slice (some ⟨m, 0, none⟩) Q Q) (List.replicate Q 0) [m] := by
    refine .inr ⟨m, Q, _, List.replicate Q [], by simp, hm, by simp [size_madeCells], by simp, by unfold maxLen; omega, by simp, by simp, by simp, fun i hi => ?_⟩
    have hi' : i < Q := by simpa using hi
    exact ⟨fI 0, by simp [madeCells, hi', Nat.mod_one], by rw [nth_replicate hi'], by rw [nth_replicate hi']⟩
  have hz := hW.size
  refine step_pushAt hgd s x t ho oI.ok ht hinfo hz1 b hown hb y [] ⟨rfl, rfl⟩ (by simp) (by have : ((List.replicate Q (0 : Int)).length + 1) * bytes ≤ 21 * 24 := Nat.mul_le_mul (by simp; omega) hby; omega) (by simp; unfold maxLen; omega) hs hx ?_
  intro v9 w9 S9 h1 h2 h3
  refine hk v9 w9 S9 h1 (below_only hW h2 hz (fun j hj => by simp at hj; omega)) (fun k hk => ?_)
  rcases h3 k hk with e | e | e
  · simp at e; omega
  · simp at e
  · omega
theorem JS.setP {w : World} {bx : Nat} {c0 c1 c2 c3 : Int} {T : List (List (List Int))} {Pl : List Int} {tv pv : Value} {S1 : List Nat} {wr w9 : World} {v9 : Value} {S9 : List Nat} (h : JS w bx c0 c1 c2 c3 T [] tv pv S1 [] wr) (ho : OI w9 v9 Pl S9) (hb : Below wr.heap.size wr w9) (hS : ∀ k ∈ S9, wr.heap.size ≤ k) :
    w9.heap[bx]? = some (.cells #[.int .i64 c0, .int .i64 c1, .int .i64 c2, .int .i64 c3, tv, pv] 28 (0, 0)) ∧ JS w bx c0 c1 c2 c3 T Pl tv v9 S1 S9 (w9.setCell ⟨bx, 5, none⟩ v9) := by
  have hz := h.size
  have hs := h.bel.size
  have l1 := OIII.ok.lt h.tabs
  have hbx := below_heap hb h.box
  have e2 := heap_setCell_same w9 bx 5 _ _ v9 hbx
  have hset : ∀ k, k ≠ bx → (w9.setCell ⟨bx, 5, none⟩ v9).heap[k]? = w9.heap[k]? := fun k hk => heap_setCell_other w9 _ k v9 (by simpa using hk)
  exact ⟨hbx, by rw [e2]; rfl, OIII.ok.keep h.tabs fun k hk => (hset k (h.b1 k hk).2).trans (hb.block k (l1 k hk)), OI.ok.keep ho fun k hk => hset k (by have := hS k hk; omega), h.b1, fun k hk => by have := hS k hk; exact ⟨by omega, by omega⟩, fun j hj hm => by have := hS j hm; have := l1 j hj; omega, h.hbx, (h.bel.trans (hb.mono hs)).setCell h.hbx _⟩

set_option maxHeartbeats 6400000 in
set_option maxRecDepth 100000 in
theorem implHybrid (P : Nat) (hP : 1 ≤ P ∧ P ≤ 20) (w : World) :
    Calls Try.prog 81 #[.int .i64 P] w fun e w' => ∃ v, e = .returned v ∧ Fresh OC w w' v (hyC P) := by
  obtain ⟨w1, hw1⟩ : ∃ w1, w1 = w.alloc (.cells #[.int .i64 0, .int .i64 0, .int .i64 0, .int .i64 0, .slice none 0 0, .slice none 0 0] 28) := ⟨_, rfl⟩
  obtain ⟨w2, hw2⟩ : ∃ w2, w2 = w1.alloc (.cells #[.int .i64 10, .int .i64 11, .int .i64 10, .int .i64 1, .slice none 0 0, .slice none 0 0] 28) := ⟨_, rfl⟩
  have hz1 : w1.heap.size = w.heap.size + 1 := by rw [hw1]; simp
  have hz2 : w2.heap.size = w.heap.size + 1 + 1 := by rw [hw2]; simp [hz1]
  have Hz1 := Lib.hid (show w2.heap[w.heap.size]? = some (.cells #[.int .i64 0, .int .i64 0, .int .i64 0, .int .i64 0, .slice none 0 0, .slice none 0 0] 28 (0, 0)) by rw [hw2]; exact (alloc_old (by omega)).trans (by rw [hw1]; exact heap_alloc_new w _))
  have Hz2 := Lib.hid (show w2.heap[w.heap.size + 1]? = some (.cells #[.int .i64 10, .int .i64 11, .int .i64 10, .int .i64 1, .slice none 0 0, .slice none 0 0] 28 (0, 0)) by rw [hw2, ← hz1]; exact heap_alloc_new w1 _)
  have Hs2 := Lib.hid hz2
  have Hb2 := Lib.hid (show Below w.heap.size w w2 by rw [hw2, hw1]; repeat' (first | with_reducible exact Below.refl _ _ | with_reducible refine Below.alloc ?_ ?_ _ | with_reducible refine Below.setCell ?_ ?_ _ | with_reducible refine Below.drew ?_ | with_reducible refine Below.draws ?_ _ | omega | (simp; done) | (simp; omega)))
  have Hb12 := Lib.hid (show Below w1.heap.size w1 w2 by rw [hw2]; repeat' (first | with_reducible exact Below.refl _ _ | with_reducible refine Below.alloc ?_ ?_ _ | with_reducible refine Below.setCell ?_ ?_ _ | with_reducible refine Below.drew ?_ | with_reducible refine Below.draws ?_ _ | omega | (simp; done) | (simp; omega)))
  have Hb01 := Lib.hid (show Below w.heap.size w w1 by rw [hw1]; repeat' (first | with_reducible exact Below.refl _ _ | with_reducible refine Below.alloc ?_ ?_ _ | with_reducible refine Below.setCell ?_ ?_ _ | with_reducible refine Below.drew ?_ | with_reducible refine Below.draws ?_ _ | omega | (simp; done) | (simp; omega)))
  have Hs1 := Lib.hid hz1
  have Hw1 := Lib.hid hw1
  have Hw2 := Lib.hid hw2
  have Hf0 := Lib.hid (show Pr OII OII w2 ((w2.alloc (.cells #[] 22)).alloc (.cells #[] 22)) (.slice (some ⟨w2.heap.size, 0, none⟩) 0 0) (.slice (some ⟨w2.heap.size + 1, 0, none⟩) 0 0) (hyTA 0) (hyTB 0) from by
    have e1 := (Fresh.empty (E := 22) (R := OI) (Below.refl w2.heap.size w2))
    have e2 := (Fresh.empty (E := 22) (R := OI) (Below.refl (w2.alloc (.cells #[] 22)).heap.size (w2.alloc (.cells #[] 22))))
    obtain ⟨S1, q1, q2, q3⟩ := e1
    obtain ⟨S2, r1, r2, r3⟩ := e2
    have l1 := OII.ok.lt q1
    rw [alloc_size] at r1 r2 l1
    exact ⟨S1, S2, OII.ok.keep q1 fun k hk => alloc_old (by rw [alloc_size]; exact l1 k hk), r1, fun k hk hm => by have := r2 k hm; have := l1 k hk; omega, q2, fun k hk => by have := r2 k hk; omega, by repeat' (first | with_reducible exact Below.refl _ _ | with_reducible refine Below.alloc ?_ ?_ _ | with_reducible refine Below.setCell ?_ ?_ _ | with_reducible refine Below.drew ?_ | with_reducible refine Below.draws ?_ _ | omega | (simp; done) | (simp; omega))⟩)
  have hsz1 : w.heap.size < w1.heap.size := by omega
  rw [hz2] at Hf0
  clear hw1 hw2 hz1 hz2
  go_enter Try.func81, Try.ntmps81
  go_wp2_with fail
  rw [← Hw1.out, ← Hw2.out]
  go_loopw [4, 5, 14] (fun iv lv xv wr => ∃ x : Nat, x ≤ 11 ∧ xv = .int .i64 x ∧ Hid (Pr OII OII w2 wr iv lv (hyTA x) (hyTB x))) (fun _ _ xv _ => 11 - (intOf xv).toNat)
  case atStart => exact ⟨0, Nat.zero_le _, rfl, Hf0⟩
  case round =>
    clear Hf0
    obtain ⟨x, hx, rfl, hf⟩ := hrel
    obtain ⟨W2, rfl⟩ : ∃ W2, W2 = wr := ⟨_, rfl⟩
    by_cases hx11 : x < 11
    · have Hr0 := Lib.hid (show Pr OI OI W2 ((W2.alloc (.cells #[] 2)).alloc (.cells #[] 2)) (.slice (some ⟨W2.heap.size, 0, none⟩) 0 0) (.slice (some ⟨W2.heap.size + 1, 0, none⟩) 0 0) (hyRA x 0) (hyRB x 0) from by
        have e1 := (Fresh.empty (E := 2) (R := oI) (Below.refl W2.heap.size W2))
        have e2 := (Fresh.empty (E := 2) (R := oI) (Below.refl (W2.alloc (.cells #[] 2)).heap.size (W2.alloc (.cells #[] 2))))
        obtain ⟨S1, q1, q2, q3⟩ := e1
        obtain ⟨S2, r1, r2, r3⟩ := e2
        have l1 := OI.ok.lt q1
        rw [alloc_size] at r1 r2 l1
        exact ⟨S1, S2, OI.ok.keep q1 fun k hk => alloc_old (by rw [alloc_size]; exact l1 k hk), r1, fun k hk hm => by have := r2 k hm; have := l1 k hk; omega, q2, fun k hk => by have := r2 k hk; omega, by repeat' (first | with_reducible exact Below.refl _ _ | with_reducible refine Below.alloc ?_ ?_ _ | with_reducible refine Below.setCell ?_ ?_ _ | with_reducible refine Below.drew ?_ | with_reducible refine Below.draws ?_ _ | omega | (simp; done) | (simp; omega))⟩)
      go_wp2
      generalize decide ((x : Int) < 11) = zb1
      go_loopw [7, 8, 19] (fun av bv dv wi => ∃ d : Nat, d ≤ 10 ∧ dv = .int .i64 d ∧ Hid (Pr OI OI W2 wi av bv (hyRA x d) (hyRB x d))) (fun _ _ dv _ => 10 - (intOf dv).toNat)
      case atStart => exact ⟨0, Nat.zero_le _, rfl, Hr0⟩
      case round =>
        clear Hr0
        obtain ⟨d, hd, rfl, hr⟩ := hrel
        obtain ⟨W3, rfl⟩ : ∃ W3, W3 = wr := ⟨_, rfl⟩
        by_cases hd10 : d < 10
        · obtain ⟨s1, s2, s3, s4, s5⟩ := hy_step x d hx11 hd10
          have hA0 := Lib.hid (hyA_zero (x := x) (d := d))
          have hZ0 := Lib.hid (hyZ_at (x := x) (d := d))
          have hsA := Lib.hid (hyRA_succ x d)
          have hsB := Lib.hid (hyRB_succ x d)
          have hlA := Lib.hid (hyRA_len x d)
          have hlB := Lib.hid (hyRB_len x d)
          generalize hyY x d = Y at *
          generalize hyZ x d = Z at *
          generalize hyA x d = A at *
          have s1' : ((x : Int) + d) % 10 = (Y : Int) := by rw [← s1, Int.tmod_eq_emod_of_nonneg (by omega)]
          obtain ⟨Sb, o8, hp8⟩ := hr.out.swap.pushL OI.ok OI.ok
          obtain ⟨a7, n7, c7, rfl⟩ := hr.out.fst.choose_spec.1.isSlice
          obtain ⟨a8, n8, c8, rfl⟩ := o8.isSlice
          have Ho8 := Lib.hid o8
          have Hp8 := Lib.hid hp8
          clear o8 hp8 hr
          by_cases hY : Y = 0
          · have hA9 := hA0.out hY
            subst hY hA9
            clear s2 hZ0 hA0
            go_wp2_with (at_builtin; first
              | (refine wpList_push rfl _ _ 22 rfl oI.ok Try.underlying22 infoI64 rfl Ho8.out (T := []) (y := (0 : Int)) ⟨rfl, rfl⟩ (by simp) (by have := hlB.out; omega) (by have := hlB.out; unfold maxLen; omega) rfl rfl ?_; intro v1 w5 S5 ho5 hn5 hS5; have hq := Hp8.out v1 w5 S5 _ ho5 hn5 hS5; obtain ⟨a9, n9, c9, rfl⟩ := ho5.isSlice; obtain ⟨Sa, o7, hp7⟩ := hq.swap.pushL OI.ok OI.ok; have Ho7 := Lib.hid o7; have Hp7 := Lib.hid hp7; clear ho5 hn5 hS5 hq o7 hp7)
              | (refine wpList_push rfl _ _ 22 rfl oI.ok Try.underlying22 infoI64 rfl Ho7.out (T := []) (y := (9 : Int)) ⟨rfl, rfl⟩ (by simp) (by have := hlA.out; omega) (by have := hlA.out; unfold maxLen; omega) rfl rfl ?_; intro v2 w6 S6 ho6 hn6 hS6; have Hq6 := Lib.hid (Hp7.out v2 w6 S6 _ ho6 hn6 hS6); clear ho6 hn6 hS6))
            go_roundw
            case rel => exact ⟨d + 1, by omega, by go_num, by rw [hsA.out, hsB.out]; exact Hq6⟩
            case measure => simp [intOf]; omega
          · have hZY := hZ0.out hY
            subst hZY
            have s2' : (2 * (Z : Int)) % 11 = (A : Int) := by rw [← s2, Int.tmod_eq_emod_of_nonneg (by omega)]
            clear hA0 hZ0
            go_wp2_with (at_builtin; first
              | (refine wpList_push rfl _ _ 22 rfl oI.ok Try.underlying22 infoI64 rfl Ho8.out (T := []) (y := (Z : Int)) ⟨rfl, rfl⟩ (by simp) (by have := hlB.out; omega) (by have := hlB.out; unfold maxLen; omega) rfl rfl ?_; intro v1 w5 S5 ho5 hn5 hS5; have hq := Hp8.out v1 w5 S5 _ ho5 hn5 hS5; obtain ⟨a9, n9, c9, rfl⟩ := ho5.isSlice; obtain ⟨Sa, o7, hp7⟩ := hq.swap.pushL OI.ok OI.ok; have Ho7 := Lib.hid o7; have Hp7 := Lib.hid hp7; clear ho5 hn5 hS5 hq o7 hp7)
              | (refine wpList_push rfl _ _ 22 rfl oI.ok Try.underlying22 infoI64 rfl Ho7.out (T := []) (y := (A : Int)) ⟨rfl, rfl⟩ (by simp) (by have := hlA.out; omega) (by have := hlA.out; unfold maxLen; omega) rfl rfl ?_; intro v2 w6 S6 ho6 hn6 hS6; have Hq6 := Lib.hid (Hp7.out v2 w6 S6 _ ho6 hn6 hS6); clear ho6 hn6 hS6))
            go_roundw
            case rel => exact ⟨d + 1, by omega, by go_num, by rw [hsA.out, hsB.out]; exact Hq6⟩
            case measure => simp [intOf]; omega
        · obtain ⟨hde⟩ : Nonempty (d = 10) := ⟨by omega⟩
          rw [hde] at hr
          clear hde
          have hsA := Lib.hid (hyTA_succ x)
          have hsB := Lib.hid (hyTB_succ x)
          have hlA := Lib.hid (hyTA_len x)
          have hlB := Lib.hid (hyTB_len x)
          obtain ⟨Sa, Ta, o1, o2, o3, hp⟩ := hf.out.both hr.out
          obtain ⟨a4, n4, c4, rfl⟩ := o1.isSlice
          obtain ⟨a7, n7, c7, rfl⟩ := o2.isSlice
          obtain ⟨a5, n5, c5, rfl⟩ := hf.out.swap.fst.choose_spec.1.isSlice
          obtain ⟨a8, n8, c8, rfl⟩ := hr.out.swap.fst.choose_spec.1.isSlice
          have Ho1 := Lib.hid o1
          have Ho2 := Lib.hid o2
          have Ho3 := Lib.hid o3
          have Hp := Lib.hid hp
          clear o1 o2 o3 hp hf hr
          go_wp2_with (at_builtin; first
            | (refine wpList_push rfl _ _ 38 rfl OI.ok Try.underlying38 infoSl' rfl Ho1.out Ho2.out Ho3.out (by have := hlA.out; omega) (by have := hlA.out; unfold maxLen; omega) rfl rfl ?_; intro v1 w5 S5 ho5 hn5 hS5; obtain ⟨Sb, Tb, q1, q2, q3, hq⟩ := Hp.out v1 w5 S5 ho5 hn5 hS5; obtain ⟨a9, n9, c9, rfl⟩ := ho5.isSlice; have Hq1 := Lib.hid q1; have Hq2 := Lib.hid q2; have Hq3 := Lib.hid q3; have Hq := Lib.hid hq; clear ho5 hn5 hS5 hq q1 q2 q3)
            | (refine wpList_push rfl _ _ 38 rfl OI.ok Try.underlying38 infoSl' rfl Hq1.out Hq2.out Hq3.out (by have := hlB.out; omega) (by have := hlB.out; unfold maxLen; omega) rfl rfl ?_; intro v2 w6 S6 ho6 hn6 hS6; have Hq6 := Lib.hid (Hq.out v2 w6 S6 ho6 hn6 hS6); clear ho6 hn6 hS6))
          go_roundw
          case rel => exact ⟨x + 1, by omega, by go_num, by rw [hsA.out, hsB.out]; exact Hq6⟩
          case measure => simp [intOf]; omega
    · obtain ⟨hxe⟩ : Nonempty (x = 11) := ⟨by omega⟩
      rw [hxe] at hf
      clear hxe
      have Hbw := Lib.hid (Hb12.out.trans (hf.out.bel.mono Hb12.out.size))
      have Hz4 := Lib.hid (below_heap hf.out.bel Hz1.out)
      have HJ := Lib.hid (show JS w1 (w.heap.size + 1) 10 11 10 1 [] [] (.slice none 0 0) (.slice none 0 0) [] [] W2 from ⟨below_heap hf.out.bel Hz2.out, own_nil _, own_nil _, by simp, by simp, by simp, by have := Hs1.out; omega, Hbw.out⟩)
      obtain ⟨Sa, Sb, hA, hB, dAB, lA, lB, hfb⟩ := hf.out
      obtain ⟨a4, n4, c4, rfl⟩ := hA.isSlice
      obtain ⟨a5, n5, c5, rfl⟩ := hB.isSlice
      have HA := Lib.hid hA
      have HB := Lib.hid hB
      have hzb := heap_lt HJ.out.box
      have HTa := Lib.hid (show ∀ j ∈ Sa, w1.heap.size ≤ j ∧ j ≠ w.heap.size + 1 ∧ j ∉ ([] : List Nat) from fun j hj => by have := lA j hj; have := Hs2.out; have := Hs1.out; exact ⟨by omega, by omega, by simp⟩)
      have HTb := Lib.hid (show ∀ j ∈ Sb, w1.heap.size ≤ j ∧ j ≠ w.heap.size + 1 ∧ j ∉ ([] : List Nat) from fun j hj => by have := lB j hj; have := Hs2.out; have := Hs1.out; exact ⟨by omega, by omega, by simp⟩)
      have HdAB := Lib.hid dAB
      have HlB := Lib.hid (OII.ok.lt hB)
      have e4 := heap_cell HJ.out.box (i := 4) rfl
      have f4 := frozen_at HJ.out.box 4
      clear hA hB dAB lA lB hfb hf
      by_cases hP1 : P = 1
      · subst hP1
        go_upto_region 21 with (at_builtin; refine wpList_push rfl _ _ 26 rfl OII.ok Try.underlying26 infoSl3J rfl HJ.out.tabs HB.out (by simp) (by simp) (by simp; unfold maxLen; omega) rfl rfl ?_; intro v7 w7 S8 ho7 hn7 hS8; obtain ⟨a12, n12, c12, rfl⟩ := ho7.isSlice; obtain ⟨hbx7, hst7⟩ := HJ.out.pushT HTb.out ho7 hn7 hS8; have f7 := frozen_at hbx7 4; have e7 := heap_cell hbx7 (i := 4) rfl; have Hst7 := Lib.hid hst7; have Hn7 := Lib.hid hn7; clear ho7 hn7 hS8 hbx7 hst7)
        have hmk := run_make_row' (P := Try.prog) 22 2 (.int .i64 0) 8 Try.underlying22 infoI64 rfl .i64 .i64 0 (by omega) (by omega)
        rw [show ((0 : Nat) : Int) = 0 from rfl] at hmk
        have hw0 : IntKind.i64.wrap 0 = 0 := IntWalk.i64_in _ (by omega)
        obtain ⟨W8, hW8⟩ : ∃ W8, W8 = w7.setCell ⟨w.heap.size + 1, 4, none⟩ (.slice a12 n12 c12) := ⟨_, rfl⟩
        have HJ8 := Lib.hid (show JS w1 (w.heap.size + 1) 10 11 10 1 [hyTB 11] [] (.slice a12 n12 c12) (.slice none 0 0) S8 [] W8 by rw [hW8]; exact Hst7.out)
        have r8 : W8.heap[w.heap.size]? = some (.cells #[.int .i64 0, .int .i64 0, .int .i64 0, .int .i64 0, .slice none 0 0, .slice none 0 0] 28 (0, 0)) := by rw [hW8]; exact (keep_set (p := ⟨w.heap.size + 1, 4, none⟩) (by show _ ≠ w.heap.size + 1; omega)).trans ((Hn7.out.block _ (heap_lt Hz4.out) (by simp)).trans Hz4.out)
        have HR8 := Lib.hid r8
        have hlen : n12 = 1 := by
          obtain ⟨a', c', e, _⟩ := Rd.isSlice (OIII.leads.to _ _ _ _ (fun _ => True) HJ8.out.tabs (fun _ _ => trivial))
          simp only [Value.slice.injEq] at e
          exact e.2.1
        rw [← hW8]
        subst hlen
        have e48 := heap_cell HJ8.out.box (i := 4) rfl
        have hz8 := heap_lt HJ8.out.box
        have f58 := frozen_at HJ8.out.box 5
        clear r8 hW8 e4 f4 f7 e7
        go_region_law (refine JS.stepM rfl _ _ rfl Try.underlying22 infoI64 rfl (by omega) (W8 := W8) (Q := 0) (y := 0) (by repeat' (first | with_reducible exact Below.refl _ _ | with_reducible refine Below.alloc ?_ ?_ _ | with_reducible refine Below.setCell ?_ ?_ _ | with_reducible refine Below.drew ?_ | with_reducible refine Below.draws ?_ _ | omega | (simp; done) | (simp; omega))) rfl rfl (by first | exact alloc_at (by first | rfl | (simp; done)) | exact (alloc_old (by first | (simp; done) | (simp; omega))).trans (alloc_at (by first | rfl | (simp; done)))) (by first | omega | (simp; done) | (simp; omega)) (by first | exact alloc_at (by first | rfl | (simp; done)) | exact (alloc_old (by first | (simp; done) | (simp; omega))).trans (alloc_at (by first | rfl | (simp; done)))) (by omega) ?_; intro v9 w9 S9 ho9 hb9 hS9; obtain ⟨a13, n13, c13, rfl⟩ := ho9.isSlice; obtain ⟨hbx9, hst9⟩ := HJ8.out.setP ho9 hb9 hS9; have e59 := heap_cell hbx9 (i := 5) rfl; have f59 := frozen_at hbx9 5; have hl9 := heap_lt hbx9; have Hst9 := Lib.hid hst9; have Hb9 := Lib.hid hb9; clear ho9 hb9 hS9 hbx9 hst9)
        all_goals go_upto_region 22 with fail
        all_goals
          obtain ⟨W9, hW9⟩ : ∃ W9, W9 = w9.setCell ⟨w.heap.size + 1, 5, none⟩ (.slice a13 n13 c13) := ⟨_, rfl⟩
          rw [← hW9] at Hst9
          rw [← hW9]
          have r9 : W9.heap[w.heap.size]? = some (.cells #[.int .i64 0, .int .i64 0, .int .i64 0, .int .i64 0, .slice none 0 0, .slice none 0 0] 28 (0, 0)) := by
            rw [hW9]
            exact (keep_set (p := ⟨w.heap.size + 1, 5, none⟩) (by show _ ≠ w.heap.size + 1; omega)).trans (below_heap Hb9.out HR8.out)
          have hfin := Lib.hid (Hst9.out.done (x := hyC 1) rfl)
          clear hW9 e48 f58 e59 f59 hl9 hz8
          have d0 := heap_cell Hst9.out.box (i := 0) rfl
          have d1 := heap_cell Hst9.out.box (i := 1) rfl
          have d2 := heap_cell Hst9.out.box (i := 2) rfl
          have d3 := heap_cell Hst9.out.box (i := 3) rfl
          have d4 := heap_cell Hst9.out.box (i := 4) rfl
          have d5 := heap_cell Hst9.out.box (i := 5) rfl
          have z0 := heap_cell r9 (i := 0) rfl
          have z1 := heap_cell r9 (i := 1) rfl
          have z2 := heap_cell r9 (i := 2) rfl
          have z3 := heap_cell r9 (i := 3) rfl
          have z4 := heap_cell r9 (i := 4) rfl
          have z5 := heap_cell r9 (i := 5) rfl
          have f0 := frozen_at r9 0
          have f1 := frozen_at r9 1
          have f2 := frozen_at r9 2
          have f3 := frozen_at r9 3
          have f4 := frozen_at r9 4
          have f5 := frozen_at r9 5
          clear r9
          go_wp2
          refine bodyPost_ret (v := .agg #[.int .i64 10, .int .i64 11, .int .i64 10, .int .i64 1, .slice a12 1 c12, .slice a13 n13 c13]) (by simp [results, Try.results81, go_sem, z0, z1, z2, z3, z4, z5]) rfl ⟨_, rfl, Fresh.turned OC.ok hfin.out Hb01.out hsz1 (by repeat' (first | with_reducible exact Only.refl _ _ | with_reducible refine Only.put ?_ ?_ _ _ | (simp; done)))⟩
      · have hP2 : 1 < (P : Int) := by omega
        obtain ⟨Q, hQ⟩ : ∃ Q, P = Q + 1 := ⟨P - 1, by omega⟩
        subst hQ
        have hQ1 : 1 ≤ Q ∧ Q ≤ 19 := by omega
        have hmk := run_make_row' (P := Try.prog) 22 2 (.int .i64 0) 8 Try.underlying22 infoI64 rfl .i64 .i64 Q (by omega) (by omega)
        have hw0 : IntKind.i64.wrap (Q : Int) = Q := IntWalk.i64_in _ (by omega)
        go_upto_region 20 with (at_builtin; refine wpList_push rfl _ _ 26 rfl OII.ok Try.underlying26 infoSl3J rfl HJ.out.tabs HA.out (by simp) (by simp) (by simp; unfold maxLen; omega) rfl rfl ?_; intro v7 w7 S8 ho7 hn7 hS8; obtain ⟨a12, n12, c12, rfl⟩ := ho7.isSlice; obtain ⟨hbx7, hst7⟩ := HJ.out.pushT HTa.out ho7 hn7 hS8; have f7 := frozen_at hbx7 4; have e7 := heap_cell hbx7 (i := 4) rfl; have Hst7 := Lib.hid hst7; have Hn7 := Lib.hid hn7; have HS8 := Lib.hid hS8; clear ho7 hn7 hS8 hbx7 hst7)
        obtain ⟨W6, hW6⟩ : ∃ W6, W6 = w7.setCell ⟨w.heap.size + 1, 4, none⟩ (.slice a12 n12 c12) := ⟨_, rfl⟩
        rw [← hW6] at Hst7
        rw [← hW6]
        have r6 : W6.heap[w.heap.size]? = some (.cells #[.int .i64 0, .int .i64 0, .int .i64 0, .int .i64 0, .slice none 0 0, .slice none 0 0] 28 (0, 0)) := by rw [hW6]; exact (keep_set (p := ⟨w.heap.size + 1, 4, none⟩) (by show _ ≠ w.heap.size + 1; omega)).trans ((Hn7.out.block _ (heap_lt Hz4.out) (by simp)).trans Hz4.out)
        have HB6 := Lib.hid (show OII W6 (.slice a5 n5 c5) (hyTB 11) Sb from OII.ok.keep HB.out fun k hk => by
          rw [hW6]
          exact (keep_set (p := ⟨w.heap.size + 1, 4, none⟩) (HTb.out k hk).2.1).trans (Hn7.out.block k (HlB.out k hk) (by simp)))
        have Hd6 := Lib.hid (show ∀ k ∈ Sb, k ∉ S8 from fun k hk hm => by
          have h1 := HlB.out k hk
          rcases HS8.out k hm with e | e | e
          · simp at e
          · exact HdAB.out k e hk
          · omega)
        have HR6 := Lib.hid r6
        have hz6 := heap_lt Hst7.out.box
        clear e4 f4 f7 e7 hW6 r6
        have e46 := heap_cell Hst7.out.box (i := 4) rfl
        have f46 := frozen_at Hst7.out.box 4
        go_upto_region 21 with (at_builtin; refine wpList_push rfl _ _ 26 rfl OII.ok Try.underlying26 infoSl3J rfl Hst7.out.tabs HB6.out Hd6.out (by simp) (by simp; unfold maxLen; omega) rfl rfl ?_; intro v10 w10 S10 ho10 hn10 hS10; obtain ⟨a22, n22, c22, rfl⟩ := ho10.isSlice; obtain ⟨hbx10, hst10⟩ := Hst7.out.pushT HTb.out ho10 hn10 hS10; have f10 := frozen_at hbx10 4; have e10 := heap_cell hbx10 (i := 4) rfl; have Hst10 := Lib.hid hst10; have Hn10 := Lib.hid hn10; clear ho10 hn10 hS10 hbx10 hst10)
        obtain ⟨W8, hW8⟩ : ∃ W8, W8 = w10.setCell ⟨w.heap.size + 1, 4, none⟩ (.slice a22 n22 c22) := ⟨_, rfl⟩
        have HJ8 := Lib.hid (show JS w1 (w.heap.size + 1) 10 11 10 1 [hyTA 11, hyTB 11] [] (.slice a22 n22 c22) (.slice none 0 0) S10 [] W8 by rw [hW8]; exact Hst10.out)
        have r8 : W8.heap[w.heap.size]? = some (.cells #[.int .i64 0, .int .i64 0, .int .i64 0, .int .i64 0, .slice none 0 0, .slice none 0 0] 28 (0, 0)) := by rw [hW8]; exact (keep_set (p := ⟨w.heap.size + 1, 4, none⟩) (by show _ ≠ w.heap.size + 1; omega)).trans ((Hn10.out.block _ (heap_lt HR6.out) (fun hm => by have := (Hst7.out.b1 _ hm).1; have := Hs1.out; omega)).trans HR6.out)
        have HR8 := Lib.hid r8
        have hlen : n22 = 2 := by
          obtain ⟨a', c', e, _⟩ := Rd.isSlice (OIII.leads.to _ _ _ _ (fun _ => True) HJ8.out.tabs (fun _ _ => trivial))
          simp only [Value.slice.injEq] at e
          exact e.2.1
        rw [← hW8]
        subst hlen
        have e48 := heap_cell HJ8.out.box (i := 4) rfl
        have hz8 := heap_lt HJ8.out.box
        have f58 := frozen_at HJ8.out.box 5
        clear r8 hW8 e46 f46 f10 e10
        go_region_law (refine JS.stepM rfl _ _ rfl Try.underlying22 infoI64 rfl (by omega) (W8 := W8) (Q := Q) (y := 1) (by repeat' (first | with_reducible exact Below.refl _ _ | with_reducible refine Below.alloc ?_ ?_ _ | with_reducible refine Below.setCell ?_ ?_ _ | with_reducible refine Below.drew ?_ | with_reducible refine Below.draws ?_ _ | omega | (simp; done) | (simp; omega))) rfl rfl (by first | exact alloc_at (by first | rfl | (simp; done)) | exact (alloc_old (by first | (simp; done) | (simp; omega))).trans (alloc_at (by first | rfl | (simp; done)))) (by first | omega | (simp; done) | (simp; omega)) (by first | exact alloc_at (by first | rfl | (simp; done)) | exact (alloc_old (by first | (simp; done) | (simp; omega))).trans (alloc_at (by first | rfl | (simp; done)))) (by omega) ?_; intro v9 w9 S9 ho9 hb9 hS9; obtain ⟨a13, n13, c13, rfl⟩ := ho9.isSlice; obtain ⟨hbx9, hst9⟩ := HJ8.out.setP ho9 hb9 hS9; have e59 := heap_cell hbx9 (i := 5) rfl; have f59 := frozen_at hbx9 5; have hl9 := heap_lt hbx9; have Hst9 := Lib.hid hst9; have Hb9 := Lib.hid hb9; clear ho9 hb9 hS9 hbx9 hst9)
        all_goals go_upto_region 22 with fail
        all_goals
          obtain ⟨W9, hW9⟩ : ∃ W9, W9 = w9.setCell ⟨w.heap.size + 1, 5, none⟩ (.slice a13 n13 c13) := ⟨_, rfl⟩
          rw [← hW9] at Hst9
          rw [← hW9]
          have r9 : W9.heap[w.heap.size]? = some (.cells #[.int .i64 0, .int .i64 0, .int .i64 0, .int .i64 0, .slice none 0 0, .slice none 0 0] 28 (0, 0)) := by
            rw [hW9]
            exact (keep_set (p := ⟨w.heap.size + 1, 5, none⟩) (by show _ ≠ w.heap.size + 1; omega)).trans (below_heap Hb9.out HR8.out)
          have hfin := Lib.hid (Hst9.out.done (x := hyC (Q + 1)) (by rw [hyC_more hP1]; rfl))
          clear hW9 e48 f58 e59 f59 hl9 hz8
          have d0 := heap_cell Hst9.out.box (i := 0) rfl
          have d1 := heap_cell Hst9.out.box (i := 1) rfl
          have d2 := heap_cell Hst9.out.box (i := 2) rfl
          have d3 := heap_cell Hst9.out.box (i := 3) rfl
          have d4 := heap_cell Hst9.out.box (i := 4) rfl
          have d5 := heap_cell Hst9.out.box (i := 5) rfl
          have z0 := heap_cell r9 (i := 0) rfl
          have z1 := heap_cell r9 (i := 1) rfl
          have z2 := heap_cell r9 (i := 2) rfl
          have z3 := heap_cell r9 (i := 3) rfl
          have z4 := heap_cell r9 (i := 4) rfl
          have z5 := heap_cell r9 (i := 5) rfl
          have f0 := frozen_at r9 0
          have f1 := frozen_at r9 1
          have f2 := frozen_at r9 2
          have f3 := frozen_at r9 3
          have f4 := frozen_at r9 4
          have f5 := frozen_at r9 5
          clear r9
          go_wp2
          refine bodyPost_ret (v := .agg #[.int .i64 10, .int .i64 11, .int .i64 10, .int .i64 1, .slice a22 2 c22, .slice a13 n13 c13]) (by simp [results, Try.results81, go_sem, z0, z1, z2, z3, z4, z5]) rfl ⟨_, rfl, Fresh.turned OC.ok hfin.out Hb01.out hsz1 (by repeat' (first | with_reducible exact Only.refl _ _ | with_reducible refine Only.put ?_ ?_ _ _ | (simp; done)))⟩
end Go.Proofs.Ytnpkanlieflbiaa
