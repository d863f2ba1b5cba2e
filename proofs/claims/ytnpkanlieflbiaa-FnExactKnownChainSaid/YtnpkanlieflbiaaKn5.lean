/- Known chains: the system of two moduli, the reference's walk. -/
import Derived.Test.YtnpkanlieflbiaaKn4
import Derived.Test.YtnpkanlieflbiaaT3
namespace Go.Proofs.Ytnpkanlieflbiaa
open Go.RowKit
set_option linter.unusedVariables false

theorem hyA_zero {x d : Nat} (h : hyY x d = 0) : hyA x d = 9 := by unfold hyA hyZ; rw [if_pos h]
theorem hyZ_at {x d : Nat} (h : ¬ hyY x d = 0) : hyZ x d = hyY x d := by unfold hyZ; rw [if_neg h]

/-- A field of a struct in a box, set to what was made just then. -/
theorem cbSet {w W2 W3 : World} {bx i rb : Nat} {cs cs' : Array Value} {E : TypeId} {v : Value} {o oz : Obj} (hW3 : W3 = (W2.setCell ⟨bx, i, none⟩ v).alloc o) (hb : W2.heap[bx]? = some (.cells cs E (0, 0))) (hr : W2.heap[rb]? = some oz) (hne : rb ≠ bx) (hbel : Below w.heap.size w W2) (hcs : cs.setIfInBounds i v = cs') (hbx : w.heap.size ≤ bx := by omega) :
    W3.heap.size = W2.heap.size + 1 ∧ W3.heap[bx]? = some (.cells cs' E (0, 0)) ∧ W3.heap[rb]? = some oz ∧ W3.heap[W2.heap.size]? = some o ∧ (∀ k, k < W2.heap.size → k ≠ bx → W3.heap[k]? = W2.heap[k]?) ∧ Below w.heap.size w W3 := by
  have hs : W3.heap.size = W2.heap.size + 1 := by rw [hW3]; simp
  have hz : (W2.setCell ⟨bx, i, none⟩ v).heap.size = W2.heap.size := by simp
  have hold : ∀ k, k < W2.heap.size → k ≠ bx → W3.heap[k]? = W2.heap[k]? := fun k hk hk2 => by
    rw [hW3]
    exact (alloc_old (by rw [hz]; exact hk)).trans (keep_set (p := ⟨bx, i, none⟩) hk2)
  have e2 := heap_setCell_same W2 bx i _ _ v hb
  rw [hcs] at e2
  refine ⟨hs, by rw [hW3]; exact (alloc_old (by rw [hz]; exact heap_lt hb)).trans e2, (hold rb (heap_lt hr) hne).trans hr, by rw [hW3]; exact alloc_at hz.symm, hold, by rw [hW3]; exact (hbel.setCell hbx v).alloc (by rw [hz]; exact hbel.size) _⟩

/-- A chain of two tables, out of its parts. -/
theorem hyDone {W1 wx : World} {iv lv pv : Value} {A B : List (List Int)} {pl : List Int} {Sa Sb Sp : List Nat} {gT : Nat} {c0 c1 c2 c3 : Int} (hA : OII wx iv A Sa) (hB : OII wx lv B Sb) (hP : OI wx pv pl Sp) (hT : wx.heap[gT]? = some (.cells #[iv, lv] 38 (0, 0)))
    (dAB : ∀ k ∈ Sa, k ∉ Sb) (dT : gT ∉ Sa ∧ gT ∉ Sb ∧ gT ∉ Sp) (dP : ∀ k ∈ Sp, k ∉ Sa ∧ k ∉ Sb) (lA : ∀ k ∈ Sa, W1.heap.size ≤ k) (lB : ∀ k ∈ Sb, W1.heap.size ≤ k) (lP : ∀ k ∈ Sp, W1.heap.size ≤ k) (lT : W1.heap.size ≤ gT) (hb : Below W1.heap.size W1 wx) :
    Fresh OC W1 wx (.agg #[.int .i64 c0, .int .i64 c1, .int .i64 c2, .int .i64 c3, .slice (some ⟨gT, 0, none⟩) 2 2, pv]) ⟨c0, c1, c2, c3, [A, B], pl⟩ := by
  have hn : (gT :: (Sa ++ Sb)).Nodup := by
    rw [List.nodup_cons]
    exact ⟨fun hm => by rcases List.mem_append.1 hm with e | e; exact dT.1 e; exact dT.2.1 e, List.nodup_append.2 ⟨OII.ok.nodup hA, OII.ok.nodup hB, fun a ha b hb e => dAB a ha (e ▸ hb)⟩⟩
  have h1 : OIII wx (.slice (some ⟨gT, 0, none⟩) 2 2) [A, B] (gT :: (Sa ++ Sb)) :=
    .inr ⟨gT, 2, #[iv, lv], [Sa, Sb], rfl, hT, rfl, Nat.le_refl _, by unfold maxLen; omega, by simp, hn, rfl, fun i hi => by
      have hi2 : i = 0 ∨ i = 1 := by simp at hi; omega
      rcases hi2 with rfl | rfl
      · exact ⟨_, rfl, hA⟩
      · exact ⟨_, rfl, hB⟩⟩
  refine ⟨gT :: (Sa ++ Sb) ++ Sp, ⟨_, _, _, _, rfl, h1, hP, rfl, fun k hk hm => ?_⟩, fun k hk => ?_, hb⟩
  · rcases List.mem_cons.1 hk with e | e
    · exact dT.2.2 (e ▸ hm)
    · rcases List.mem_append.1 e with f | f
      · exact (dP k hm).1 f
      · exact (dP k hm).2 f
  · rcases List.mem_append.1 hk with e | e
    · rcases List.mem_cons.1 e with f | f
      · omega
      · rcases List.mem_append.1 f with q | q
        · exact lA k q
        · exact lB k q
    · exact lP k e

set_option maxHeartbeats 6400000 in
set_option maxRecDepth 100000 in
theorem specHybrid (P : Nat) (hP : 1 ≤ P ∧ P ≤ 20) (w : World) :
    Calls Try.prog 76 #[.int .i64 P] w fun e w' => ∃ v, e = .returned v ∧ Fresh OC w w' v (hyC P) := by
  obtain ⟨w1, hw1⟩ : ∃ w1, w1 = w.alloc (.cells #[.int .i64 0, .int .i64 0, .int .i64 0, .int .i64 0, .slice none 0 0, .slice none 0 0] 28) := ⟨_, rfl⟩
  obtain ⟨w2, hw2⟩ : ∃ w2, w2 = w1.alloc (.cells #[.int .i64 10, .int .i64 11, .int .i64 10, .int .i64 1, .slice none 0 0, .slice none 0 0] 28) := ⟨_, rfl⟩
  have hz1 : w1.heap.size = w.heap.size + 1 := by rw [hw1]; simp
  have hz2 : w2.heap.size = w.heap.size + 1 + 1 := by rw [hw2]; simp [hz1]
  have Hz1 := Lib.hid (show w2.heap[w.heap.size]? = some (.cells #[.int .i64 0, .int .i64 0, .int .i64 0, .int .i64 0, .slice none 0 0, .slice none 0 0] 28 (0, 0)) by rw [hw2]; exact (alloc_old (by omega)).trans (by rw [hw1]; exact heap_alloc_new w _))
  have Hz2 := Lib.hid (show w2.heap[w.heap.size + 1]? = some (.cells #[.int .i64 10, .int .i64 11, .int .i64 10, .int .i64 1, .slice none 0 0, .slice none 0 0] 28 (0, 0)) by rw [hw2, ← hz1]; exact heap_alloc_new w1 _)
  have Hs2 := Lib.hid hz2
  have Hb2 := Lib.hid (show Below w.heap.size w w2 by rw [hw2, hw1]; repeat' (first | with_reducible exact Below.refl _ _ | with_reducible refine Below.alloc ?_ ?_ _ | with_reducible refine Below.setCell ?_ ?_ _ | with_reducible refine Below.drew ?_ | with_reducible refine Below.draws ?_ _ | omega | (simp; done) | (simp; omega)))
  have Hb12 := Lib.hid (show Below w1.heap.size w1 w2 by rw [hw2]; repeat' (first | with_reducible exact Below.refl _ _ | with_reducible refine Below.alloc ?_ ?_ _ | with_reducible refine Below.setCell ?_ ?_ _ | with_reducible refine Below.drew ?_ | with_reducible refine Below.draws ?_ _ | omega | (simp; done) | (simp; omega)))
  have Hb01 := Lib.hid (show Below w.heap.size w w1 by rw [hw1]; repeat' (first | with_reducible exact Below.refl _ _ | with_reducible refine Below.alloc ?_ ?_ _ | with_reducible refine Below.setCell ?_ ?_ _ | with_reducible refine Below.drew ?_ | with_reducible refine Below.draws ?_ _ | omega | (simp; done) | (simp; omega)))
  have Hs1 := Lib.hid hz1
  have Hw1 := Lib.hid hw1
  have Hw2 := Lib.hid hw2
  have Hf0 := Lib.hid (show Pr OII OII w2 ((w2.alloc (.cells #[] 22)).alloc (.cells #[] 22)) (.slice (some ⟨w2.heap.size, 0, none⟩) 0 0) (.slice (some ⟨w2.heap.size + 1, 0, none⟩) 0 0) (hyTA 0) (hyTB 0) from by
    have e1 := (Fresh.empty (E := 22) (R := OI) (Below.refl w2.heap.size w2))
    have e2 := (Fresh.empty (E := 22) (R := OI) (Below.refl (w2.alloc (.cells #[] 22)).heap.size (w2.alloc (.cells #[] 22))))
    obtain ⟨S1, q1, q2, q3⟩ := e1
    obtain ⟨S2, r1, r2, r3⟩ := e2
    have l1 := OII.ok.lt q1
    rw [alloc_size] at r1 r2 l1
    exact ⟨S1, S2, OII.ok.keep q1 fun k hk => alloc_old (by rw [alloc_size]; exact l1 k hk), r1, fun k hk hm => by have := r2 k hm; have := l1 k hk; omega, q2, fun k hk => by have := r2 k hk; omega, by repeat' (first | with_reducible exact Below.refl _ _ | with_reducible refine Below.alloc ?_ ?_ _ | with_reducible refine Below.setCell ?_ ?_ _ | with_reducible refine Below.drew ?_ | with_reducible refine Below.draws ?_ _ | omega | (simp; done) | (simp; omega))⟩)
  have hsz1 : w.heap.size < w1.heap.size := by omega
  rw [hz2] at Hf0
  clear hw1 hw2 hz1 hz2
  go_enter Try.func76, Try.ntmps76
  go_wp2_with fail
  rw [← Hw1.out, ← Hw2.out]
  go_loopw [4, 5, 6] (fun iv lv xv wr => ∃ x : Nat, x ≤ 11 ∧ xv = .int .i64 x ∧ Hid (Pr OII OII w2 wr iv lv (hyTA x) (hyTB x))) (fun _ _ xv _ => 11 - (intOf xv).toNat)
  case atStart => exact ⟨0, Nat.zero_le _, rfl, Hf0⟩
  case round =>
    clear Hf0
    obtain ⟨x, hx, rfl, hf⟩ := hrel
    obtain ⟨W2, rfl⟩ : ∃ W2, W2 = wr := ⟨_, rfl⟩
    by_cases hx11 : x < 11
    · have Hr0 := Lib.hid (show Pr OI OI W2 ((W2.alloc (.cells #[] 2)).alloc (.cells #[] 2)) (.slice (some ⟨W2.heap.size, 0, none⟩) 0 0) (.slice (some ⟨W2.heap.size + 1, 0, none⟩) 0 0) (hyRA x 0) (hyRB x 0) from by
        have e1 := (Fresh.empty (E := 2) (R := oI) (Below.refl W2.heap.size W2))
        have e2 := (Fresh.empty (E := 2) (R := oI) (Below.refl (W2.alloc (.cells #[] 2)).heap.size (W2.alloc (.cells #[] 2))))
        obtain ⟨S1, q1, q2, q3⟩ := e1
        obtain ⟨S2, r1, r2, r3⟩ := e2
        have l1 := OI.ok.lt q1
        rw [alloc_size] at r1 r2 l1
        exact ⟨S1, S2, OI.ok.keep q1 fun k hk => alloc_old (by rw [alloc_size]; exact l1 k hk), r1, fun k hk hm => by have := r2 k hm; have := l1 k hk; omega, q2, fun k hk => by have := r2 k hk; omega, by repeat' (first | with_reducible exact Below.refl _ _ | with_reducible refine Below.alloc ?_ ?_ _ | with_reducible refine Below.setCell ?_ ?_ _ | with_reducible refine Below.drew ?_ | with_reducible refine Below.draws ?_ _ | omega | (simp; done) | (simp; omega))⟩)
      go_wp2
      generalize decide ((x : Int) < 11) = zb1
      go_loopw [7, 8, 9] (fun av bv dv wi => ∃ d : Nat, d ≤ 10 ∧ dv = .int .i64 d ∧ Hid (Pr OI OI W2 wi av bv (hyRA x d) (hyRB x d))) (fun _ _ dv _ => 10 - (intOf dv).toNat)
      case atStart => exact ⟨0, Nat.zero_le _, rfl, Hr0⟩
      case round =>
        clear Hr0
        obtain ⟨d, hd, rfl, hr⟩ := hrel
        obtain ⟨W3, rfl⟩ : ∃ W3, W3 = wr := ⟨_, rfl⟩
        by_cases hd10 : d < 10
        · obtain ⟨s1, s2, s3, s4, s5⟩ := hy_step x d hx11 hd10
          have hA0 := Lib.hid (hyA_zero (x := x) (d := d))
          have hZ0 := Lib.hid (hyZ_at (x := x) (d := d))
          have hsA := Lib.hid (hyRA_succ x d)
          have hsB := Lib.hid (hyRB_succ x d)
          have hlA := Lib.hid (hyRA_len x d)
          have hlB := Lib.hid (hyRB_len x d)
          generalize hyY x d = Y at *
          generalize hyZ x d = Z at *
          generalize hyA x d = A at *
          have s1' : ((x : Int) + d) % 10 = (Y : Int) := by rw [← s1, Int.tmod_eq_emod_of_nonneg (by omega)]
          obtain ⟨Sb, o8, hp8⟩ := hr.out.swap.pushL OI.ok OI.ok
          obtain ⟨a7, n7, c7, rfl⟩ := hr.out.fst.choose_spec.1.isSlice
          obtain ⟨a8, n8, c8, rfl⟩ := o8.isSlice
          have Ho8 := Lib.hid o8
          have Hp8 := Lib.hid hp8
          clear o8 hp8 hr
          by_cases hY : Y = 0
          · have hA9 := hA0.out hY
            subst hY hA9
            clear s2 hZ0 hA0
            go_wp2_with (at_builtin; first
              | (refine wpList_push rfl _ _ 22 rfl oI.ok Try.underlying22 infoI64 rfl Ho8.out (T := []) (y := (0 : Int)) ⟨rfl, rfl⟩ (by simp) (by have := hlB.out; omega) (by have := hlB.out; unfold maxLen; omega) rfl rfl ?_; intro v1 w5 S5 ho5 hn5 hS5; have hq := Hp8.out v1 w5 S5 _ ho5 hn5 hS5; obtain ⟨a9, n9, c9, rfl⟩ := ho5.isSlice; obtain ⟨Sa, o7, hp7⟩ := hq.swap.pushL OI.ok OI.ok; have Ho7 := Lib.hid o7; have Hp7 := Lib.hid hp7; clear ho5 hn5 hS5 hq o7 hp7)
              | (refine wpList_push rfl _ _ 22 rfl oI.ok Try.underlying22 infoI64 rfl Ho7.out (T := []) (y := (9 : Int)) ⟨rfl, rfl⟩ (by simp) (by have := hlA.out; omega) (by have := hlA.out; unfold maxLen; omega) rfl rfl ?_; intro v2 w6 S6 ho6 hn6 hS6; have Hq6 := Lib.hid (Hp7.out v2 w6 S6 _ ho6 hn6 hS6); clear ho6 hn6 hS6))
            go_roundw
            case rel => exact ⟨d + 1, by omega, by go_num, by rw [hsA.out, hsB.out]; exact Hq6⟩
            case measure => simp [intOf]; omega
          · have hZY := hZ0.out hY
            subst hZY
            have s2' : (2 * (Z : Int)) % 11 = (A : Int) := by rw [← s2, Int.tmod_eq_emod_of_nonneg (by omega)]
            clear hA0 hZ0
            go_wp2_with (at_builtin; first
              | (refine wpList_push rfl _ _ 22 rfl oI.ok Try.underlying22 infoI64 rfl Ho8.out (T := []) (y := (Z : Int)) ⟨rfl, rfl⟩ (by simp) (by have := hlB.out; omega) (by have := hlB.out; unfold maxLen; omega) rfl rfl ?_; intro v1 w5 S5 ho5 hn5 hS5; have hq := Hp8.out v1 w5 S5 _ ho5 hn5 hS5; obtain ⟨a9, n9, c9, rfl⟩ := ho5.isSlice; obtain ⟨Sa, o7, hp7⟩ := hq.swap.pushL OI.ok OI.ok; have Ho7 := Lib.hid o7; have Hp7 := Lib.hid hp7; clear ho5 hn5 hS5 hq o7 hp7)
              | (refine wpList_push rfl _ _ 22 rfl oI.ok Try.underlying22 infoI64 rfl Ho7.out (T := []) (y := (A : Int)) ⟨rfl, rfl⟩ (by simp) (by have := hlA.out; omega) (by have := hlA.out; unfold maxLen; omega) rfl rfl ?_; intro v2 w6 S6 ho6 hn6 hS6; have Hq6 := Lib.hid (Hp7.out v2 w6 S6 _ ho6 hn6 hS6); clear ho6 hn6 hS6))
            go_roundw
            case rel => exact ⟨d + 1, by omega, by go_num, by rw [hsA.out, hsB.out]; exact Hq6⟩
            case measure => simp [intOf]; omega
        · obtain ⟨hde⟩ : Nonempty (d = 10) := ⟨by omega⟩
          rw [hde] at hr
          clear hde
          have hsA := Lib.hid (hyTA_succ x)
          have hsB := Lib.hid (hyTB_succ x)
          have hlA := Lib.hid (hyTA_len x)
          have hlB := Lib.hid (hyTB_len x)
          obtain ⟨Sa, Ta, o1, o2, o3, hp⟩ := hf.out.both hr.out
          obtain ⟨a4, n4, c4, rfl⟩ := o1.isSlice
          obtain ⟨a7, n7, c7, rfl⟩ := o2.isSlice
          obtain ⟨a5, n5, c5, rfl⟩ := hf.out.swap.fst.choose_spec.1.isSlice
          obtain ⟨a8, n8, c8, rfl⟩ := hr.out.swap.fst.choose_spec.1.isSlice
          have Ho1 := Lib.hid o1
          have Ho2 := Lib.hid o2
          have Ho3 := Lib.hid o3
          have Hp := Lib.hid hp
          clear o1 o2 o3 hp hf hr
          go_wp2_with (at_builtin; first
            | (refine wpList_push rfl _ _ 38 rfl OI.ok Try.underlying38 infoSl' rfl Ho1.out Ho2.out Ho3.out (by have := hlA.out; omega) (by have := hlA.out; unfold maxLen; omega) rfl rfl ?_; intro v1 w5 S5 ho5 hn5 hS5; obtain ⟨Sb, Tb, q1, q2, q3, hq⟩ := Hp.out v1 w5 S5 ho5 hn5 hS5; obtain ⟨a9, n9, c9, rfl⟩ := ho5.isSlice; have Hq1 := Lib.hid q1; have Hq2 := Lib.hid q2; have Hq3 := Lib.hid q3; have Hq := Lib.hid hq; clear ho5 hn5 hS5 hq q1 q2 q3)
            | (refine wpList_push rfl _ _ 38 rfl OI.ok Try.underlying38 infoSl' rfl Hq1.out Hq2.out Hq3.out (by have := hlB.out; omega) (by have := hlB.out; unfold maxLen; omega) rfl rfl ?_; intro v2 w6 S6 ho6 hn6 hS6; have Hq6 := Lib.hid (Hq.out v2 w6 S6 ho6 hn6 hS6); clear ho6 hn6 hS6))
          go_roundw
          case rel => exact ⟨x + 1, by omega, by go_num, by rw [hsA.out, hsB.out]; exact Hq6⟩
          case measure => simp [intOf]; omega
    · obtain ⟨hxe⟩ : Nonempty (x = 11) := ⟨by omega⟩
      rw [hxe] at hf
      clear hxe
      have hfb := hf.out.bel
      have hz4 := below_heap hfb Hz1.out
      have hz5 := below_heap hfb Hz2.out
      have z0 := heap_cell hz4 (i := 0) rfl
      have z1 := heap_cell hz4 (i := 1) rfl
      have z2 := heap_cell hz4 (i := 2) rfl
      have z3 := heap_cell hz4 (i := 3) rfl
      have z4 := heap_cell hz4 (i := 4) rfl
      have z5 := heap_cell hz4 (i := 5) rfl
      have f0 := frozen_at hz4 0
      have f1 := frozen_at hz4 1
      have f2 := frozen_at hz4 2
      have f3 := frozen_at hz4 3
      have f4 := frozen_at hz4 4
      have f5 := frozen_at hz4 5
      have d0 := heap_cell hz5 (i := 0) rfl
      have d1 := heap_cell hz5 (i := 1) rfl
      have d2 := heap_cell hz5 (i := 2) rfl
      have d3 := heap_cell hz5 (i := 3) rfl
      have d4 := heap_cell hz5 (i := 4) rfl
      have d5 := heap_cell hz5 (i := 5) rfl
      have k4 := frozen_at hz5 4
      have k5 := frozen_at hz5 5
      have hl4 := heap_lt hz4
      have hl5 := heap_lt hz5
      have hl4' : w.heap.size < W2.heap.size + 1 := by omega
      have hl5' : w.heap.size + 1 < W2.heap.size + 1 := by omega
      have Hz4 := Lib.hid hz4
      have Hz5 := Lib.hid hz5
      obtain ⟨a4, n4, c4, rfl⟩ := hf.out.fst.choose_spec.1.isSlice
      obtain ⟨a5, n5, c5, rfl⟩ := hf.out.swap.fst.choose_spec.1.isSlice
      clear hz4 hz5 hfb
      by_cases hP1 : P = 1
      · subst hP1
        go_upto_region 21 with fail
        obtain ⟨W3, hW3⟩ : ∃ W3, W3 = (W2.setCell ⟨w.heap.size + 1, 4, none⟩ (.slice (some ⟨W2.heap.size, 0, none⟩) 1 1)).alloc (.cells #[.slice a5 n5 c5] 38) := ⟨_, rfl⟩
        rw [← hW3]
        obtain ⟨hs3, b3, r3, g3, t3, bel3⟩ := cbSet hW3 Hz5.out Hz4.out (by omega) (Hb12.out.trans (hf.out.bel.mono Hb12.out.size)) (show _ = #[.int .i64 10, .int .i64 11, .int .i64 10, .int .i64 1, .slice (some ⟨W2.heap.size, 0, none⟩) 1 1, .slice none 0 0] from rfl) (by have := Hs1.out; omega)
        clear z0 z1 z2 z3 z4 z5 f0 f1 f2 f3 f4 f5 d0 d1 d2 d3 d4 d5 k4 k5
        have k5 := frozen_at b3 5
        have d5 := heap_cell b3 (i := 5) rfl
        have hl6 := heap_lt b3
        have B3 := Lib.hid b3
        have R3 := Lib.hid r3
        have G3 := Lib.hid g3
        have T3 := Lib.hid t3
        have Bel3 := Lib.hid bel3
        have Hs3 := Lib.hid hs3
        clear b3 r3 g3 t3 bel3 hs3 hW3
        go_upto_region 22 with fail
        obtain ⟨W4, hW4⟩ : ∃ W4, W4 = (W3.setCell ⟨w.heap.size + 1, 5, none⟩ (.slice (some ⟨W3.heap.size, 0, none⟩) 1 1)).alloc (.cells #[.int .i64 0] 2) := ⟨_, rfl⟩
        rw [← hW4]
        obtain ⟨hs4, b4, r4, g4, t4, bel4⟩ := cbSet hW4 B3.out R3.out (by omega) Bel3.out (show _ = #[.int .i64 10, .int .i64 11, .int .i64 10, .int .i64 1, .slice (some ⟨W2.heap.size, 0, none⟩) 1 1, .slice (some ⟨W3.heap.size, 0, none⟩) 1 1] from rfl) (by have := Hs1.out; omega)
        have hfin := Lib.hid (show Fresh OC w1 W4 (.agg #[.int .i64 10, .int .i64 11, .int .i64 10, .int .i64 1, .slice (some ⟨W2.heap.size, 0, none⟩) 1 1, .slice (some ⟨W3.heap.size, 0, none⟩) 1 1]) (hyC 1) from by
          have h1 := Hs2.out
          have h0 := Hs1.out
          have h2 := Hs3.out
          have h3 := hf.out.bel.size
          exact evDone (W1 := w1) (NP := 1) (a := 10) (b := 1) hf.out.swap.fst (by omega) ((t4 _ (by omega) (by omega)).trans G3.out) (by rw [g4]; kernel_rfl) (Nat.le_refl _) ⟨by omega, .inl (by omega)⟩ (by omega) (fun k hk1 hk2 => (t4 k (by omega) (by omega)).trans (T3.out k hk2 (by omega))) (by omega) bel4)
        clear d5 k5
        have d0 := heap_cell b4 (i := 0) rfl
        have d1 := heap_cell b4 (i := 1) rfl
        have d2 := heap_cell b4 (i := 2) rfl
        have d3 := heap_cell b4 (i := 3) rfl
        have d4 := heap_cell b4 (i := 4) rfl
        have d5 := heap_cell b4 (i := 5) rfl
        have z0 := heap_cell r4 (i := 0) rfl
        have z1 := heap_cell r4 (i := 1) rfl
        have z2 := heap_cell r4 (i := 2) rfl
        have z3 := heap_cell r4 (i := 3) rfl
        have z4 := heap_cell r4 (i := 4) rfl
        have z5 := heap_cell r4 (i := 5) rfl
        have f0 := frozen_at r4 0
        have f1 := frozen_at r4 1
        have f2 := frozen_at r4 2
        have f3 := frozen_at r4 3
        have f4 := frozen_at r4 4
        have f5 := frozen_at r4 5
        have Hs4 := Lib.hid hs4
        clear b4 r4 g4 t4 bel4 hs4 hW4 hl4 hl5 hl4' hl5' hl6
        go_wp2
        refine bodyPost_ret (v := .agg #[.int .i64 10, .int .i64 11, .int .i64 10, .int .i64 1, .slice (some ⟨W2.heap.size, 0, none⟩) 1 1, .slice (some ⟨W3.heap.size, 0, none⟩) 1 1]) (by simp [results, Try.results76, go_sem, z0, z1, z2, z3, z4, z5]) rfl ⟨_, rfl, Fresh.turned OC.ok hfin.out Hb01.out hsz1 (by repeat' (first | with_reducible exact Only.refl _ _ | with_reducible refine Only.put ?_ ?_ _ _ | (simp; done)))⟩
      · have hP2 : ¬ (P : Int) = 1 := by omega
        obtain ⟨Q, hQ⟩ : ∃ Q, P = Q + 1 := ⟨P - 1, by omega⟩
        have hQ1 : 1 ≤ Q ∧ Q ≤ 19 := by omega
        have hQ2 : (P : Int) - 1 = (Q : Int) := by omega
        have hmk := run_make_row' (P := Try.prog) 22 2 (.int .i64 0) 8 Try.underlying22 infoI64 rfl .i64 .i64 Q (by omega) (by omega)
        go_upto_region 24 with fail
        obtain ⟨W3, hW3⟩ : ∃ W3, W3 = (W2.setCell ⟨w.heap.size + 1, 4, none⟩ (.slice (some ⟨W2.heap.size, 0, none⟩) 2 2)).alloc (.cells #[.slice a4 n4 c4, .slice a5 n5 c5] 38) := ⟨_, rfl⟩
        rw [← hW3]
        obtain ⟨hs3, b3, r3, g3, t3, bel3⟩ := cbSet hW3 Hz5.out Hz4.out (by omega) (Hb12.out.trans (hf.out.bel.mono Hb12.out.size)) (show _ = #[.int .i64 10, .int .i64 11, .int .i64 10, .int .i64 1, .slice (some ⟨W2.heap.size, 0, none⟩) 2 2, .slice none 0 0] from rfl) (by have := Hs1.out; omega)
        clear z0 z1 z2 z3 z4 z5 f0 f1 f2 f3 f4 f5 d0 d1 d2 d3 d4 d5 k4 k5
        have k5 := frozen_at b3 5
        have d5 := heap_cell b3 (i := 5) rfl
        have hl6 := heap_lt b3
        have B3 := Lib.hid b3
        have R3 := Lib.hid r3
        have G3 := Lib.hid g3
        have T3 := Lib.hid t3
        have Bel3 := Lib.hid bel3
        have Hs3 := Lib.hid hs3
        have Hmd := Lib.hid (Own.made W3 2 fI 0 Q (by unfold maxLen; omega))
        clear b3 r3 g3 t3 bel3 hs3 hW3
        obtain ⟨Sa, Sb, hA, hB, dAB, lA, lB, hfb⟩ := hf.out
        have HA := Lib.hid hA
        have HB := Lib.hid hB
        have HdAB := Lib.hid dAB
        have HlA := Lib.hid lA
        have HlB := Lib.hid lB
        clear hA hB dAB lA lB hfb hf
        go_upto_region 25 with (at_builtin; refine wpList_push rfl _ _ 22 rfl oI.ok Try.underlying22 infoI64 rfl Hmd.out (T := []) (y := (1 : Int)) ⟨rfl, rfl⟩ (by simp) (by simp; omega) (by simp; unfold maxLen; omega) rfl (by rw [alloc_size]; rfl) ?_; intro v1 w5 S5 ho5 hn5 hS5; obtain ⟨a9, n9, c9, rfl⟩ := ho5.isSlice; have hb5 := (hn5.block (w.heap.size + 1) (by rw [alloc_size]; omega) (by simp; omega)).trans ((alloc_old hl6).trans B3.out); have k5' := frozen_at hb5 5; have d5' := heap_cell hb5 (i := 5) rfl; have Ho5 := Lib.hid ho5; have Hn5 := Lib.hid hn5; have HS5 := Lib.hid hS5; have Hb5 := Lib.hid hb5; clear ho5 hn5 hS5 hb5)
        obtain ⟨W6, hW6⟩ : ∃ W6, W6 = w5.setCell ⟨w.heap.size + 1, 5, none⟩ (.slice a9 n9 c9) := ⟨_, rfl⟩
        rw [← hW6]
        have e6 := heap_setCell_same w5 (w.heap.size + 1) 5 _ _ (.slice a9 n9 c9) Hb5.out
        rw [← hW6] at e6
        have e6' : W6.heap[w.heap.size + 1]? = some (.cells #[.int .i64 10, .int .i64 11, .int .i64 10, .int .i64 1, .slice (some ⟨W2.heap.size, 0, none⟩) 2 2, .slice a9 n9 c9] 28 (0, 0)) := e6
        have k6 : ∀ k, k < W3.heap.size → k ≠ w.heap.size + 1 → W6.heap[k]? = W3.heap[k]? := fun k hk hk2 => by
          rw [hW6]
          exact (keep_set (p := ⟨w.heap.size + 1, 5, none⟩) hk2).trans ((Hn5.out.block k (by rw [alloc_size]; omega) (by simp; omega)).trans (alloc_old hk))
        have k7 : ∀ k, k ≠ w.heap.size + 1 → W6.heap[k]? = w5.heap[k]? := fun k hk2 => by rw [hW6]; exact keep_set (p := ⟨w.heap.size + 1, 5, none⟩) hk2
        have h0 := Hs1.out
        have h1 := Hs2.out
        have h3 := Hs3.out
        have lAt := OII.ok.lt HA.out
        have lBt := OII.ok.lt HB.out
        have hfin := Lib.hid (show Fresh OC w1 W6 (.agg #[.int .i64 10, .int .i64 11, .int .i64 10, .int .i64 1, .slice (some ⟨W2.heap.size, 0, none⟩) 2 2, .slice a9 n9 c9]) (hyC P) from by
          rw [hyC_more hP1, show P - 1 = Q by omega]
          have hS : ∀ k ∈ S5, W3.heap.size ≤ k := fun k hk => by
            rcases HS5.out k hk with e | e | e
            · simp at e; omega
            · simp at e
            · rw [alloc_size] at e; omega
          refine hyDone (OII.ok.keep HA.out fun k hk => ?_) (OII.ok.keep HB.out fun k hk => ?_) (OI.ok.keep Ho5.out fun k hk => k7 k ?_) ((k6 _ (by omega) (by omega)).trans G3.out) HdAB.out ⟨fun hm => ?_, fun hm => ?_, fun hm => ?_⟩ (fun k hk => ⟨fun hm => ?_, fun hm => ?_⟩) (fun k hk => ?_) (fun k hk => ?_) (fun k hk => ?_) (by omega) ?_
          · have := lAt k hk; have := HlA.out k hk; exact (k6 k (by omega) (by omega)).trans (T3.out k (by omega) (by omega))
          · have := lBt k hk; have := HlB.out k hk; exact (k6 k (by omega) (by omega)).trans (T3.out k (by omega) (by omega))
          · have := hS k hk; omega
          · have := lAt _ hm; omega
          · have := lBt _ hm; omega
          · have := hS _ hm; omega
          · have := hS k hk; have := lAt k hm; omega
          · have := hS k hk; have := lBt k hm; omega
          · have := HlA.out k hk; omega
          · have := HlB.out k hk; omega
          · have := hS k hk; omega
          · rw [hW6]
            exact (below_only (Bel3.out.alloc Bel3.out.size _) Hn5.out (by rw [alloc_size]; omega) (fun j hj => by simp at hj; omega)).setCell (by show _ ≤ w.heap.size + 1; omega) _)
        have r6 := (k6 w.heap.size (by omega) (by omega)).trans R3.out
        clear d5 k5 k5' d5' e6 k6 k7 lAt lBt hW6 h0 h1 h3 hl4 hl5 hl4' hl5' hl6
        have d0 := heap_cell e6' (i := 0) rfl
        have d1 := heap_cell e6' (i := 1) rfl
        have d2 := heap_cell e6' (i := 2) rfl
        have d3 := heap_cell e6' (i := 3) rfl
        have d4 := heap_cell e6' (i := 4) rfl
        have d5 := heap_cell e6' (i := 5) rfl
        have z0 := heap_cell r6 (i := 0) rfl
        have z1 := heap_cell r6 (i := 1) rfl
        have z2 := heap_cell r6 (i := 2) rfl
        have z3 := heap_cell r6 (i := 3) rfl
        have z4 := heap_cell r6 (i := 4) rfl
        have z5 := heap_cell r6 (i := 5) rfl
        have f0 := frozen_at r6 0
        have f1 := frozen_at r6 1
        have f2 := frozen_at r6 2
        have f3 := frozen_at r6 3
        have f4 := frozen_at r6 4
        have f5 := frozen_at r6 5
        clear e6' r6
        go_wp2
        refine bodyPost_ret (v := .agg #[.int .i64 10, .int .i64 11, .int .i64 10, .int .i64 1, .slice (some ⟨W2.heap.size, 0, none⟩) 2 2, .slice a9 n9 c9]) (by simp [results, Try.results76, go_sem, z0, z1, z2, z3, z4, z5]) rfl ⟨_, rfl, Fresh.turned OC.ok hfin.out Hb01.out hsz1 (by repeat' (first | with_reducible exact Only.refl _ _ | with_reducible refine Only.put ?_ ?_ _ _ | (simp; done)))⟩
end Go.Proofs.Ytnpkanlieflbiaa
