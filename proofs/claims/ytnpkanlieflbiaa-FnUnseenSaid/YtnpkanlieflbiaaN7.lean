/- A weighting that an input chooses. -/
import Derived.Test.YtnpkanlieflbiaaN3
import Derived.Test.YtnpkanlieflbiaaF2
import Derived.Test.YtnpkanlieflbiaaR1
import Derived.Deep.DeepCutAuto
namespace Go.Proofs.Ytnpkanlieflbiaa
open Go.RowKit
set_option linter.unusedVariables false

def ambL : List Int := [10, 10, 2, 3, 5, 7, 11]
theorem amb_ok : ∀ i, i < 7 → 2 ≤ nth ambL i ∧ nth ambL i ≤ 11 := by
  intro i hi
  rcases i with _ | _ | _ | _ | _ | _ | _ | i
  all_goals first | (simp [ambL, nth]; done) | omega
/-- A weighting that is drawn. -/
structure DW (x : Wgt) : Prop where
  base : 2 ≤ x.base ∧ x.base ≤ 11
  modulus : 2 ≤ x.modulus ∧ x.modulus ≤ 13
  target : 0 ≤ x.target ∧ x.target < x.modulus
  len : 1 ≤ x.weights.length ∧ x.weights.length ≤ 4
  weight : ∀ i, i < x.weights.length → 0 ≤ nth x.weights i ∧ nth x.weights i < x.modulus

set_option maxRecDepth 10000 in
set_option maxHeartbeats 1600000 in
theorem specB10Weighting {B : Nat} {w : World} {v : Value} {zs : List UInt8} (h : Rd rY (· < B) w v zs) (hB : B ≤ w.heap.size) :
    Calls Try.prog 31 #[v] w fun e w' => ∃ (v' : Value) (x : Wgt), e = .returned v' ∧ Fresh OW w w' v' x ∧ DW x := by
  obtain ⟨w0, hw0, H0, hz0, hs0, hb0⟩ : ∃ w0, w0 = w.alloc (.cells #[.int .i64 0, .int .i64 0, .int .i64 0, .slice none 0 0] 31) ∧ Rd rY (· < B) w0 v zs ∧ w0.heap[w.heap.size]? = some (.cells #[.int .i64 0, .int .i64 0, .int .i64 0, .slice none 0 0] 31 (0, 0)) ∧ (w.heap.size + 1 ≤ w0.heap.size ∧ w0.heap.size ≤ w.heap.size + 1) ∧ Below w.heap.size w w0 :=
    ⟨_, rfl, (Rd.ok (R := rY) rleaf.ok).keep h fun k hk => Below.heap_alloc w _ k (by omega), heap_alloc_new w _, by simp, (Below.refl _ _).alloc (Nat.le_refl _) _⟩
  have H0 := Lib.hid H0
  have Hz0 := Lib.hid hz0
  have Hb0 := Lib.hid hb0
  clear h hz0 hb0
  go_enter Try.func31, Try.ntmps31
  go_wp2_with fail
  rw [← hw0]
  refine (srcFrom H0.out (by omega)).mono ?_
  rintro e w1 ⟨rfl, hs1, hb1, hz1⟩
  obtain ⟨b, hb⟩ : ∃ b, b = w0.heap.size := ⟨_, rfl⟩
  rw [← hb] at hs1 ⊢
  have hbw : w.heap.size + 1 ≤ b ∧ b ≤ w.heap.size + 1 := by omega
  have hw1s : w.heap.size + 2 ≤ w1.heap.size ∧ w1.heap.size ≤ w.heap.size + 2 := by omega
  have Hz1 := Lib.hid (below_heap hb1 Hz0.out)
  have Hs1 := Lib.hid hs1
  have Hb1 := Lib.hid (Hb0.out.trans (hb1.mono (by omega)))
  clear hs1 hb1 hz1 hw0 Hz0 Hb0 hs0 H0 hb
  have hlit := Lib.hid (Own.lit w1 2 fI ambL (by unfold maxLen; simp [ambL]))
  have hk1 := Lib.hid (Hs1.out.keep (w' := w1.alloc (.cells (ambL.map fI).toArray 2)) fun k hk => Below.heap_alloc w1 _ k (by omega))
  have hba := Lib.hid (show Below w.heap.size w (w1.alloc (.cells (ambL.map fI).toArray 2)) from Hb1.out.alloc (by omega) _)
  have hza := Lib.hid (show (w1.alloc (.cells (ambL.map fI).toArray 2)).heap[w.heap.size]? = _ from (Below.heap_alloc w1 _ _ (by omega)).trans Hz1.out)
  have hlr := Lib.hid (show RdI (· = w1.heap.size) (w1.alloc (.cells (ambL.map fI).toArray 2)) (.slice (some ⟨w1.heap.size, 0, none⟩) 7 7) ambL from hlit.out.rd (by simp))
  have hzs : w.heap.size + 3 ≤ (w1.alloc (.cells (ambL.map fI).toArray 2)).heap.size := by simp; omega
  obtain ⟨W2, hW2⟩ : ∃ W2, W2 = w1.alloc (.cells (ambL.map fI).toArray 2) := ⟨_, rfl⟩
  rw [← hW2] at hk1 hba hlr hzs hza
  have HW2 := Lib.hid hW2; clear hW2 hlit
  go_wp2_with fail
  have e0 : w1.alloc (.cells #[.int .i64 10, .int .i64 10, .int .i64 2, .int .i64 3, .int .i64 5, .int .i64 7, .int .i64 11] 2) = W2 := HW2.out.symm
  rw [e0]
  clear e0
  refine (srcAmong hk1.out (by omega) hlr.out (fun k hk => by have h1 : k = w1.heap.size := hk; omega) (by simp [ambL]) (by simp [ambL])).mono ?_
  rintro e w3 ⟨⟨i, hi, rfl⟩, hs3, ho3⟩
  have hab := amb_ok i (by simpa [ambL] using hi)
  obtain ⟨base, hbase⟩ : ∃ z, z = nth ambL i := ⟨_, rfl⟩
  rw [← hbase] at hab ⊢
  clear hbase hi
  have Hs3 := Lib.hid hs3; clear hs3
  have hz3 : w.heap.size + 3 ≤ w3.heap.size := by have := ho3.size; omega
  have Hb3 := Lib.hid (below_only hba.out ho3 (by omega) (by simp; omega))
  have Hz3 := Lib.hid (Only.heap ho3 hza.out (by simp; omega))
  clear ho3 hk1 hba hza hlr hzs HW2 Hz1 Hb1 Hs1 hw1s
  go_wp2_with fail
  refine (srcOne Hs3.out (by omega) 3 (by omega)).mono ?_
  rintro e w4 ⟨⟨r, rfl⟩, hs4, ho4⟩
  have Hs4 := Lib.hid hs4; clear hs4
  have hz4 : w.heap.size + 3 ≤ w4.heap.size := by have := ho4.size; omega
  have Hb4 := Lib.hid (below_only Hb3.out ho4 (by omega) (by simp; omega))
  have Hz4 := Lib.hid (Only.heap ho4 Hz3.out (by simp; omega))
  clear ho4 Hs3 Hb3 Hz3 hz3
  cases r
  · have Hs5 := Lib.hid (Hs4.out.more (show _ ≤ 6 by omega))
    obtain ⟨hz5, Hb5, Hz5⟩ : (w.heap.size + 3 ≤ w4.heap.size) ∧ Hid (Below w.heap.size w w4) ∧ Hid (w4.heap[w.heap.size]? = some (.cells #[.int .i64 0, .int .i64 0, .int .i64 0, .slice none 0 0] 31 (0, 0))) := ⟨hz4, Hb4, Hz4⟩
    clear Hs4 Hb4 Hz4 hz4
    go_wp2_with fail
    refine (srcPick Hs5.out (by omega) base (by omega)).mono ?_
    rintro e w6 ⟨⟨tg, htg, rfl⟩, hs6, ho6⟩
    have htg2 : tg < base := htg.2.1 (by omega)
    have htg1 : 0 ≤ tg := htg.1
    have Hb6 := Lib.hid (below_only Hb5.out ho6 (by omega) (by simp; omega))
    have Hz6 := Lib.hid (Only.heap ho6 Hz5.out (by simp; omega))
    have hz6 : w.heap.size + 3 ≤ w6.heap.size := by have := ho6.size; omega
    have Hs7 := Lib.hid (hs6.keep (w' := w6.alloc (.cells #[.int .i64 base, .int .i64 (base), .int .i64 tg, .slice none 0 0] 31)) fun k hk => Below.heap_alloc w6 _ k (by omega))
    have Hz7 := Lib.hid (show (w6.alloc (.cells #[.int .i64 base, .int .i64 (base), .int .i64 tg, .slice none 0 0] 31)).heap[w.heap.size]? = _ from (Below.heap_alloc w6 _ _ (by omega)).trans Hz6.out)
    have Hb7 := Lib.hid (show Below w.heap.size w (w6.alloc (.cells #[.int .i64 base, .int .i64 (base), .int .i64 tg, .slice none 0 0] 31)) from Hb6.out.alloc (by omega) _)
    have Hp7 := Lib.hid (heap_alloc_new w6 (.cells #[.int .i64 base, .int .i64 (base), .int .i64 tg, .slice none 0 0] 31))
    clear ho6 hs6 htg Hs5 Hb5 Hz5 hz5 Hz6 Hb6
    go_wp2_with fail
    refine (srcPick Hs7.out (by omega) 4 (by omega)).mono ?_
    rintro e w8 ⟨⟨n0, hn0, rfl⟩, hs8, ho8⟩
    obtain ⟨n0, rfl⟩ := Int.eq_ofNat_of_zero_le hn0.1
    have hn4 : n0 < 4 := by have := hn0.2.1 (by omega); omega
    have Hs8 := Lib.hid (hs8.more (show _ ≤ 20 + 2 * 0 by omega))
    have Hz8 := Lib.hid (Only.heap ho8 Hz7.out (by simp; omega))
    have Hp8 := Lib.hid (Only.heap ho8 Hp7.out (by simp; omega))
    have hz8 := heap_lt Hp8.out
    have Hb8 := Lib.hid (below_only Hb7.out ho8 (by simp; omega) (by simp; omega))
    have hn1 : (1 : Int) + (n0 : Int) = ((n0 + 1 : Nat) : Int) := by omega
    clear hs8 ho8 hn0 Hs7 Hz7 Hb7 Hp7
    obtain ⟨n, hn⟩ : ∃ n, n = n0 + 1 := ⟨_, rfl⟩
    rw [← hn] at hn1
    have hnb : 1 ≤ n ∧ n ≤ 4 := by omega
    clear hn hn4
    go_wp2_with fail
    go_loopw [7] (fun kv wr => ∃ (k j : Nat) (ov : Value) (xs : List Int) (S : List Nat), kv = .int .i64 k ∧ k + j = n ∧ j = xs.length ∧ Hid (∀ i, i < xs.length → 0 ≤ nth xs i ∧ nth xs i < base) ∧ Hid (OI wr ov xs S) ∧ Hid (∀ q ∈ S, w6.heap.size < q) ∧ Hid (Src B wr b (20 + 2 * j)) ∧
        Hid (wr.heap[w6.heap.size]? = some (.cells #[.int .i64 base, .int .i64 (base), .int .i64 tg, ov] 31 (0, 0))) ∧ Hid (wr.heap[w.heap.size]? = some (.cells #[.int .i64 0, .int .i64 0, .int .i64 0, .slice none 0 0] 31 (0, 0))) ∧ Hid (Below w.heap.size w wr)) (fun kv _ => (intOf kv).toNat)
    case atStart => exact ⟨n, 0, .slice none 0 0, [], [], by first | rfl | (rw [← hn1]), by omega, rfl, Lib.hid (fun i hi => by simp at hi), Lib.hid (own_nil _), Lib.hid (by simp), Hs8, Hp8, Hz8, Hb8⟩
    case round =>
      clear Hs8 Hz8 Hp8 Hb8 hn1
      obtain ⟨k, j, ov, xs, S, rfl, hkj, hjl, hx, hown, hS, hs, hp, hz, hbel⟩ := hrel
      obtain ⟨W2, rfl⟩ : ∃ W2, W2 = wr := ⟨_, rfl⟩
      have hpb := heap_lt hp.out
      obtain ⟨av, nv, cv, rfl⟩ := hown.out.isSlice
      by_cases hk0 : 0 < k
      · obtain ⟨k, rfl⟩ : ∃ q, k = q + 1 := ⟨k - 1, by omega⟩
        have c3 := heap_cell hp.out (i := 3) rfl
        have c3d : W2.drew.cell? ⟨w6.heap.size, 3, none⟩ = some (.slice av nv cv) := c3
        have hlx : xs.length ≤ 4 := by omega
        have hsd := Lib.hid (hs.out.keep (w' := W2.drew) fun _ _ => rfl)
        have hbd := Lib.hid (Below.draws hbel.out 1)
        have hkn : ((k + 1 : Nat) : Int) - 1 = (k : Int) := by omega
        have hkp : (0 : Int) < ((k + 1 : Nat) : Int) := by omega
        go_wp2
        refine wp_region_float 4 (fun w' => w'.cell? ⟨w6.heap.size, 3, none⟩ = some (.slice av nv cv)) (by kernel_rfl) (by kernel_rfl) c3d ?_
        intro hS0
        simp only [List.take_succ_cons, List.take_zero, List.drop_succ_cons, List.drop_zero]
        iterate 4 (refine wpReads_cons _ (by rfl) (by intro w' hSw; (try dsimp only at hSw); go_simp; try (with_reducible rfl)) ?_; try simp only [Act.put, List.setIfInBounds_toArray, List.set_cons_zero, List.set_cons_succ])
        refine wpReads_nil ?_
        refine wpTail_cons fun K hK => ?_
        go_simp
        refine (srcPick hsd.out (by omega) base (by omega)).mono ?_
        rintro e w3 ⟨⟨r, hr, rfl⟩, hs3, ho3⟩
        have hr1 : 0 ≤ r ∧ r < base := ⟨hr.1, hr.2.1 (by omega)⟩
        have Hp3 := Lib.hid (Only.heap (w := W2.drew) ho3 hp.out (by simp; omega))
        have Hz3 := Lib.hid (Only.heap (w := W2.drew) ho3 hz.out (by simp; omega))
        have Hown3 := Lib.hid (OI.ok.keep hown.out (w' := w3) fun q hq => ho3.block q (OI.ok.lt hown.out q hq) (by have := hS.out q hq; simp; omega))
        have Hb3 := Lib.hid (below_only hbd.out ho3 (by show _ ≤ W2.heap.size; omega) (by simp; omega))
        have Hs3 := Lib.hid hs3
        have c33 := heap_cell Hp3.out (i := 3) rfl
        have hl3 := heap_lt Hp3.out
        have c34 : (w3.alloc (.cells #[.int .i64 r] 2)).cell? ⟨w6.heap.size, 3, none⟩ = some (.slice av nv cv) := (World.cell?_alloc_past _ _ _ hl3).trans c33
        clear hs3 ho3 hr
        refine hK.out _ _ c33 ?_
        clear hK K hS0 c3 c3d
        try simp only [Act.put, List.setIfInBounds_toArray, List.set_cons_zero, List.set_cons_succ]
        refine wpTail_cons fun K hK => ?_
        go_simp
        refine hK.out _ _ c34 ?_
        clear hK K
        try simp only [Act.put, List.setIfInBounds_toArray, List.set_cons_zero, List.set_cons_succ]
        refine wpTail_cons fun K hK => ?_
        refine step_push rfl _ _ 22 rfl oI.ok Try.underlying22 infoI64 rfl w3 Hown3.out r [] ⟨rfl, rfl⟩ (by simp) (by omega) (by unfold maxLen; omega) rfl rfl rfl ?_
        intro v1 w5 S1 hown1 honly1 hS1
        obtain ⟨a1, n1, c1, rfl⟩ := hown1.isSlice
        have Hp5 := Lib.hid (Only.heap honly1 Hp3.out (fun hm => by have := hS.out _ hm; omega))
        have Hz5 := Lib.hid (Only.heap honly1 Hz3.out (fun hm => by have := hS.out _ hm; omega))
        have f5 := frozen_at Hp5.out 3
        have e5 := heap_cell Hp5.out (i := 3) rfl
        have Hbl5 := Lib.hid (below_only Hb3.out honly1 (by omega) fun q hq => by have := hS.out q hq; omega)
        have Hs5 := Lib.hid (Hs3.out.keep (w' := w5) fun q hq => honly1.block q (by have := Hs3.out.lt; omega) (fun hm => by have := hS.out _ hm; omega))
        have hS1' := Lib.hid (show ∀ q ∈ S1, w6.heap.size < q from fun q hq => by
          rcases hS1 q hq with h | h | h
          · exact hS.out q h
          · simp at h
          · omega)
        have Hon := Lib.hid hown1
        clear hown1 honly1 hS1
        refine hK.out _ _ e5 ?_
        clear hK K
        try simp only [Act.put, List.setIfInBounds_toArray, List.set_cons_zero, List.set_cons_succ]
        refine wpTail_cons fun K hK => ?_
        go_simp
        refine hK.out _ _ e5 ?_
        clear hK K
        try simp only [Act.put, List.setIfInBounds_toArray, List.set_cons_zero, List.set_cons_succ]
        refine wpTail_one ?_
        go_wp2_with fail
        refine NoPanic.normal ?_
        go_wp2
        go_roundw
        case rel =>
          refine ⟨k, j + 1, .slice a1 n1 c1, xs ++ [r], S1, by first | rfl | go_num, by omega, by simp; omega, Lib.hid (fun i hi => ?_), Lib.hid (OI.ok.keep Hon.out fun q hq => keep_set (by have := hS1'.out q hq; show q ≠ w6.heap.size; omega)), hS1', Lib.hid ((Hs5.out.keep fun q hq => keep_set (by show q ≠ w6.heap.size; omega)).more (by omega)), Lib.hid (heap_setCell_same _ _ 3 _ _ _ Hp5.out), Lib.hid (fset Hz5.out (by omega) _), Lib.hid (Below.setCell Hbl5.out (by show _ ≤ w6.heap.size; omega) _)⟩
          by_cases hi2 : i < xs.length
          · rw [nth_append_left hi2]; exact hx.out i hi2
          · obtain rfl : i = xs.length := by simp at hi; omega
            rw [nth_append_last]; exact hr1
        case measure => simp [intOf]
      · obtain rfl : k = 0 := by omega
        have hjn : xs.length = n := by omega
        have c0 := heap_cell hp.out (i := 0) rfl
        have c1 := heap_cell hp.out (i := 1) rfl
        have c2 := heap_cell hp.out (i := 2) rfl
        have c3 := heap_cell hp.out (i := 3) rfl
        have d0 := heap_cell hz.out (i := 0) rfl
        have d1 := heap_cell hz.out (i := 1) rfl
        have d2 := heap_cell hz.out (i := 2) rfl
        have d3 := heap_cell hz.out (i := 3) rfl
        have f0 := frozen_at hz.out 0
        have f1 := frozen_at hz.out 1
        have f2 := frozen_at hz.out 2
        have f3 := frozen_at hz.out 3
        have hslt := Lib.hid (OI.ok.lt hown.out)
        have Hjn := Lib.hid hjn; clear hjn hjl hkj
        go_wp2
        refine bodyPost_ret (v := aggW ⟨base, base, tg, xs⟩ (.slice av nv cv)) (by simp [results, Try.results31, go_sem, aggW, d0, d1, d2, d3]) rfl ⟨_, ⟨base, base, tg, xs⟩, rfl, ⟨S, ⟨_, rfl, OI.ok.keep hown.out fun i hi => ?_⟩, fun i hi => by have := hS.out i hi; omega, ?_⟩, ⟨hab, show 2 ≤ base ∧ base ≤ 13 by omega, ⟨htg1, htg2⟩, ?_, hx.out⟩⟩
        · exact Only.block (S := [w.heap.size]) (w := W2) (by repeat' (first | with_reducible exact Only.refl _ _ | with_reducible refine Only.put ?_ ?_ _ _ | (simp; done))) i (hslt.out i hi) (by have := hS.out i hi; simp; omega)
        · refine Below.trans hbel.out ?_
          repeat' (first | with_reducible exact Below.refl _ _ | with_reducible refine Below.alloc ?_ ?_ _ | with_reducible refine Below.setCell ?_ ?_ _ | with_reducible refine Below.drew ?_ | with_reducible refine Below.draws ?_ _ | omega | (simp; done) | (simp; omega))
        · show 1 ≤ xs.length ∧ xs.length ≤ 4
          have := Hjn.out; omega
  · go_wp2_with fail
    refine (srcPick Hs4.out (by omega) 12 (by omega)).mono ?_
    rintro e w5 ⟨⟨z, hz, rfl⟩, hs5, ho5⟩
    have hz12 : 0 ≤ z ∧ z < 12 := ⟨hz.1, hz.2.1 (by omega)⟩
    have Hs5 := Lib.hid (hs5.more (show _ ≤ 6 by omega)); clear hs5 hz
    have Hb5 := Lib.hid (below_only Hb4.out ho5 (by omega) (by simp; omega))
    have Hz5 := Lib.hid (Only.heap ho5 Hz4.out (by simp; omega))
    have hz5 : w.heap.size + 3 ≤ w5.heap.size := by have := ho5.size; omega
    obtain ⟨m, hm⟩ : ∃ m : Int, 2 + z = m := ⟨_, rfl⟩
    have hm2 : 2 ≤ m ∧ m ≤ 13 := by omega
    clear ho5 hz12 Hs4 Hb4 Hz4 hz4
    go_wp2_with fail
    clear hm
    refine (srcPick Hs5.out (by omega) m (by omega)).mono ?_
    rintro e w6 ⟨⟨tg, htg, rfl⟩, hs6, ho6⟩
    have htg2 : tg < m := htg.2.1 (by omega)
    have htg1 : 0 ≤ tg := htg.1
    have Hb6 := Lib.hid (below_only Hb5.out ho6 (by omega) (by simp; omega))
    have Hz6 := Lib.hid (Only.heap ho6 Hz5.out (by simp; omega))
    have hz6 : w.heap.size + 3 ≤ w6.heap.size := by have := ho6.size; omega
    have Hs7 := Lib.hid (hs6.keep (w' := w6.alloc (.cells #[.int .i64 base, .int .i64 (m), .int .i64 tg, .slice none 0 0] 31)) fun k hk => Below.heap_alloc w6 _ k (by omega))
    have Hz7 := Lib.hid (show (w6.alloc (.cells #[.int .i64 base, .int .i64 (m), .int .i64 tg, .slice none 0 0] 31)).heap[w.heap.size]? = _ from (Below.heap_alloc w6 _ _ (by omega)).trans Hz6.out)
    have Hb7 := Lib.hid (show Below w.heap.size w (w6.alloc (.cells #[.int .i64 base, .int .i64 (m), .int .i64 tg, .slice none 0 0] 31)) from Hb6.out.alloc (by omega) _)
    have Hp7 := Lib.hid (heap_alloc_new w6 (.cells #[.int .i64 base, .int .i64 (m), .int .i64 tg, .slice none 0 0] 31))
    clear ho6 hs6 htg Hs5 Hb5 Hz5 hz5 Hz6 Hb6
    go_wp2_with fail
    refine (srcPick Hs7.out (by omega) 4 (by omega)).mono ?_
    rintro e w8 ⟨⟨n0, hn0, rfl⟩, hs8, ho8⟩
    obtain ⟨n0, rfl⟩ := Int.eq_ofNat_of_zero_le hn0.1
    have hn4 : n0 < 4 := by have := hn0.2.1 (by omega); omega
    have Hs8 := Lib.hid (hs8.more (show _ ≤ 20 + 2 * 0 by omega))
    have Hz8 := Lib.hid (Only.heap ho8 Hz7.out (by simp; omega))
    have Hp8 := Lib.hid (Only.heap ho8 Hp7.out (by simp; omega))
    have hz8 := heap_lt Hp8.out
    have Hb8 := Lib.hid (below_only Hb7.out ho8 (by simp; omega) (by simp; omega))
    have hn1 : (1 : Int) + (n0 : Int) = ((n0 + 1 : Nat) : Int) := by omega
    clear hs8 ho8 hn0 Hs7 Hz7 Hb7 Hp7
    obtain ⟨n, hn⟩ : ∃ n, n = n0 + 1 := ⟨_, rfl⟩
    rw [← hn] at hn1
    have hnb : 1 ≤ n ∧ n ≤ 4 := by omega
    clear hn hn4
    go_wp2_with fail
    go_loopw [7] (fun kv wr => ∃ (k j : Nat) (ov : Value) (xs : List Int) (S : List Nat), kv = .int .i64 k ∧ k + j = n ∧ j = xs.length ∧ Hid (∀ i, i < xs.length → 0 ≤ nth xs i ∧ nth xs i < m) ∧ Hid (OI wr ov xs S) ∧ Hid (∀ q ∈ S, w6.heap.size < q) ∧ Hid (Src B wr b (20 + 2 * j)) ∧
        Hid (wr.heap[w6.heap.size]? = some (.cells #[.int .i64 base, .int .i64 (m), .int .i64 tg, ov] 31 (0, 0))) ∧ Hid (wr.heap[w.heap.size]? = some (.cells #[.int .i64 0, .int .i64 0, .int .i64 0, .slice none 0 0] 31 (0, 0))) ∧ Hid (Below w.heap.size w wr)) (fun kv _ => (intOf kv).toNat)
    case atStart => exact ⟨n, 0, .slice none 0 0, [], [], by first | rfl | (rw [← hn1]), by omega, rfl, Lib.hid (fun i hi => by simp at hi), Lib.hid (own_nil _), Lib.hid (by simp), Hs8, Hp8, Hz8, Hb8⟩
    case round =>
      clear Hs8 Hz8 Hp8 Hb8 hn1
      obtain ⟨k, j, ov, xs, S, rfl, hkj, hjl, hx, hown, hS, hs, hp, hz, hbel⟩ := hrel
      obtain ⟨W2, rfl⟩ : ∃ W2, W2 = wr := ⟨_, rfl⟩
      have hpb := heap_lt hp.out
      obtain ⟨av, nv, cv, rfl⟩ := hown.out.isSlice
      by_cases hk0 : 0 < k
      · obtain ⟨k, rfl⟩ : ∃ q, k = q + 1 := ⟨k - 1, by omega⟩
        have c3 := heap_cell hp.out (i := 3) rfl
        have c3d : W2.drew.cell? ⟨w6.heap.size, 3, none⟩ = some (.slice av nv cv) := c3
        have hlx : xs.length ≤ 4 := by omega
        have hsd := Lib.hid (hs.out.keep (w' := W2.drew) fun _ _ => rfl)
        have hbd := Lib.hid (Below.draws hbel.out 1)
        have hkn : ((k + 1 : Nat) : Int) - 1 = (k : Int) := by omega
        have hkp : (0 : Int) < ((k + 1 : Nat) : Int) := by omega
        go_wp2
        refine wp_region_float 4 (fun w' => w'.cell? ⟨w6.heap.size, 3, none⟩ = some (.slice av nv cv)) (by kernel_rfl) (by kernel_rfl) c3d ?_
        intro hS0
        simp only [List.take_succ_cons, List.take_zero, List.drop_succ_cons, List.drop_zero]
        iterate 4 (refine wpReads_cons _ (by rfl) (by intro w' hSw; (try dsimp only at hSw); go_simp; try (with_reducible rfl)) ?_; try simp only [Act.put, List.setIfInBounds_toArray, List.set_cons_zero, List.set_cons_succ])
        refine wpReads_nil ?_
        refine wpTail_cons fun K hK => ?_
        go_simp
        refine (srcPick hsd.out (by omega) m (by omega)).mono ?_
        rintro e w3 ⟨⟨r, hr, rfl⟩, hs3, ho3⟩
        have hr1 : 0 ≤ r ∧ r < m := ⟨hr.1, hr.2.1 (by omega)⟩
        have Hp3 := Lib.hid (Only.heap (w := W2.drew) ho3 hp.out (by simp; omega))
        have Hz3 := Lib.hid (Only.heap (w := W2.drew) ho3 hz.out (by simp; omega))
        have Hown3 := Lib.hid (OI.ok.keep hown.out (w' := w3) fun q hq => ho3.block q (OI.ok.lt hown.out q hq) (by have := hS.out q hq; simp; omega))
        have Hb3 := Lib.hid (below_only hbd.out ho3 (by show _ ≤ W2.heap.size; omega) (by simp; omega))
        have Hs3 := Lib.hid hs3
        have c33 := heap_cell Hp3.out (i := 3) rfl
        have hl3 := heap_lt Hp3.out
        have c34 : (w3.alloc (.cells #[.int .i64 r] 2)).cell? ⟨w6.heap.size, 3, none⟩ = some (.slice av nv cv) := (World.cell?_alloc_past _ _ _ hl3).trans c33
        clear hs3 ho3 hr
        refine hK.out _ _ c33 ?_
        clear hK K hS0 c3 c3d
        try simp only [Act.put, List.setIfInBounds_toArray, List.set_cons_zero, List.set_cons_succ]
        refine wpTail_cons fun K hK => ?_
        go_simp
        refine hK.out _ _ c34 ?_
        clear hK K
        try simp only [Act.put, List.setIfInBounds_toArray, List.set_cons_zero, List.set_cons_succ]
        refine wpTail_cons fun K hK => ?_
        refine step_push rfl _ _ 22 rfl oI.ok Try.underlying22 infoI64 rfl w3 Hown3.out r [] ⟨rfl, rfl⟩ (by simp) (by omega) (by unfold maxLen; omega) rfl rfl rfl ?_
        intro v1 w5 S1 hown1 honly1 hS1
        obtain ⟨a1, n1, c1, rfl⟩ := hown1.isSlice
        have Hp5 := Lib.hid (Only.heap honly1 Hp3.out (fun hm => by have := hS.out _ hm; omega))
        have Hz5 := Lib.hid (Only.heap honly1 Hz3.out (fun hm => by have := hS.out _ hm; omega))
        have f5 := frozen_at Hp5.out 3
        have e5 := heap_cell Hp5.out (i := 3) rfl
        have Hbl5 := Lib.hid (below_only Hb3.out honly1 (by omega) fun q hq => by have := hS.out q hq; omega)
        have Hs5 := Lib.hid (Hs3.out.keep (w' := w5) fun q hq => honly1.block q (by have := Hs3.out.lt; omega) (fun hm => by have := hS.out _ hm; omega))
        have hS1' := Lib.hid (show ∀ q ∈ S1, w6.heap.size < q from fun q hq => by
          rcases hS1 q hq with h | h | h
          · exact hS.out q h
          · simp at h
          · omega)
        have Hon := Lib.hid hown1
        clear hown1 honly1 hS1
        refine hK.out _ _ e5 ?_
        clear hK K
        try simp only [Act.put, List.setIfInBounds_toArray, List.set_cons_zero, List.set_cons_succ]
        refine wpTail_cons fun K hK => ?_
        go_simp
        refine hK.out _ _ e5 ?_
        clear hK K
        try simp only [Act.put, List.setIfInBounds_toArray, List.set_cons_zero, List.set_cons_succ]
        refine wpTail_one ?_
        go_wp2_with fail
        refine NoPanic.normal ?_
        go_wp2
        go_roundw
        case rel =>
          refine ⟨k, j + 1, .slice a1 n1 c1, xs ++ [r], S1, by first | rfl | go_num, by omega, by simp; omega, Lib.hid (fun i hi => ?_), Lib.hid (OI.ok.keep Hon.out fun q hq => keep_set (by have := hS1'.out q hq; show q ≠ w6.heap.size; omega)), hS1', Lib.hid ((Hs5.out.keep fun q hq => keep_set (by show q ≠ w6.heap.size; omega)).more (by omega)), Lib.hid (heap_setCell_same _ _ 3 _ _ _ Hp5.out), Lib.hid (fset Hz5.out (by omega) _), Lib.hid (Below.setCell Hbl5.out (by show _ ≤ w6.heap.size; omega) _)⟩
          by_cases hi2 : i < xs.length
          · rw [nth_append_left hi2]; exact hx.out i hi2
          · obtain rfl : i = xs.length := by simp at hi; omega
            rw [nth_append_last]; exact hr1
        case measure => simp [intOf]
      · obtain rfl : k = 0 := by omega
        have hjn : xs.length = n := by omega
        have c0 := heap_cell hp.out (i := 0) rfl
        have c1 := heap_cell hp.out (i := 1) rfl
        have c2 := heap_cell hp.out (i := 2) rfl
        have c3 := heap_cell hp.out (i := 3) rfl
        have d0 := heap_cell hz.out (i := 0) rfl
        have d1 := heap_cell hz.out (i := 1) rfl
        have d2 := heap_cell hz.out (i := 2) rfl
        have d3 := heap_cell hz.out (i := 3) rfl
        have f0 := frozen_at hz.out 0
        have f1 := frozen_at hz.out 1
        have f2 := frozen_at hz.out 2
        have f3 := frozen_at hz.out 3
        have hslt := Lib.hid (OI.ok.lt hown.out)
        have Hjn := Lib.hid hjn; clear hjn hjl hkj
        go_wp2
        refine bodyPost_ret (v := aggW ⟨base, m, tg, xs⟩ (.slice av nv cv)) (by simp [results, Try.results31, go_sem, aggW, d0, d1, d2, d3]) rfl ⟨_, ⟨base, m, tg, xs⟩, rfl, ⟨S, ⟨_, rfl, OI.ok.keep hown.out fun i hi => ?_⟩, fun i hi => by have := hS.out i hi; omega, ?_⟩, ⟨hab, show 2 ≤ m ∧ m ≤ 13 by omega, ⟨htg1, htg2⟩, ?_, hx.out⟩⟩
        · exact Only.block (S := [w.heap.size]) (w := W2) (by repeat' (first | with_reducible exact Only.refl _ _ | with_reducible refine Only.put ?_ ?_ _ _ | (simp; done))) i (hslt.out i hi) (by have := hS.out i hi; simp; omega)
        · refine Below.trans hbel.out ?_
          repeat' (first | with_reducible exact Below.refl _ _ | with_reducible refine Below.alloc ?_ ?_ _ | with_reducible refine Below.setCell ?_ ?_ _ | with_reducible refine Below.drew ?_ | with_reducible refine Below.draws ?_ _ | omega | (simp; done) | (simp; omega))
        · show 1 ≤ xs.length ∧ xs.length ≤ 4
          have := Hjn.out; omega
theorem DW.vw {x : Wgt} (h : DW x) : vW x = true := by
  refine vW_iff.2 ⟨⟨h.base.1, by have := h.base; omega⟩, ⟨h.modulus.1, by have := h.modulus; omega⟩, h.target, ⟨h.len.1, by have := h.len; omega⟩, ?_, h.weight⟩
  obtain ⟨b, hb⟩ := Int.eq_ofNat_of_zero_le (show 0 ≤ x.base by have := h.base; omega)
  have h1 := h.base
  have h2 := h.len
  rw [hb] at h1 ⊢
  generalize x.weights.length = n at *
  have h3 : b ^ n ≤ 11 ^ 4 := Nat.le_trans (Nat.pow_le_pow_left (by omega) n) (Nat.pow_le_pow_right (by omega) h2.2)
  have h4 : ((b : Int) ^ n) = ((b ^ n : Nat) : Int) := by simp
  have h5 : (11 : Nat) ^ 4 = 14641 := by decide
  rw [h4]; omega
end Go.Proofs.Ytnpkanlieflbiaa
