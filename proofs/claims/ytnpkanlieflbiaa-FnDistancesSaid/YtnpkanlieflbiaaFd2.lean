/- The walk of the law of distances (FnDistances): it returns true. Printed by gen_fd2.py. -/
import Derived.Test.YtnpkanlieflbiaaFd1
import Derived.Test.YtnpkanlieflbiaaU3
import Derived.Test.YtnpkanlieflbiaaD8
import Derived.Test.YtnpkanlieflbiaaE15
import Derived.Test.YtnpkanlieflbiaaLd7
import Derived.Test.YtnpkanlieflbiaaM3
import Derived.Test.YtnpkanlieflbiaaI0
import Derived.Deep.CutRange
import Derived.Deep.DeepCutAuto
namespace Go.Proofs.Ytnpkanlieflbiaa
open Go.RowKit
set_option linter.unusedVariables false

theorem Fresh.aggU2 {w w' : World} {v : Value} {x : Chn} (h : Fresh OC w w' v x) : ∃ u p, v = .agg #[.int .i64 x.base, .int .i64 x.states, .int .i64 x.start, .int .i64 x.stop, u, p] ∧ ∃ a b c d f, u = .slice a b c ∧ p = .slice d x.places.length f := by
  obtain ⟨S, ⟨u, p, Sa, Sb, rfl, ot, op, eS, hSS⟩, hS, hb⟩ := h
  obtain ⟨a, b, c, rfl⟩ := ot.isSlice
  obtain ⟨d, f, rfl, _, _⟩ := (Own.rd op (P := fun _ => True) (fun _ _ => trivial)).isSlice
  exact ⟨_, _, rfl, a, b, c, d, f, rfl, rfl⟩
theorem infoStrD : (Try.prog.info? 9).map (fun i => (i.zero, i.size, i.bytes)) = some (some (.string ⟨#[]⟩), 1, 16) := by kernel_rfl
/-- The words in order. -/
def wordsL (x : Chn) (k : Nat) : List ByteArray := (List.range k).map fun i => wordS (wordG x i)
theorem wordsL_succ (x : Chn) (k : Nat) : wordsL x (k + 1) = wordsL x k ++ [wordS (wordG x k)] := by simp [wordsL, List.range_succ]
theorem wordsL_len (x : Chn) (k : Nat) : (wordsL x k).length = k := by simp [wordsL]
theorem wordsL_nth {x : Chn} {k i : Nat} (h : i < k) : nth (wordsL x k) i = wordS (wordG x i) := nth_range_map h
/-- Places at which two lists differ, up to j. -/
def hamJ (u v : List Int) (j : Nat) : Nat := ham (u.take j) (v.take j)
theorem hamJ_zero (u v : List Int) : hamJ u v 0 = 0 := by simp [hamJ, ham]
theorem hamJ_succ {u v : List Int} {j : Nat} (hu : j < u.length) (hl : u.length = v.length) : hamJ u v (j + 1) = hamJ u v j + if nth u j = nth v j then 0 else 1 := by
  unfold hamJ
  rw [take_nth hu, take_nth (show j < v.length by omega), ham_snoc (by simp; omega)]
theorem hamJ_all {u v : List Int} (hl : u.length = v.length) : hamJ u v u.length = ham u v := by
  unfold hamJ
  rw [List.take_length, hl, List.take_length]
theorem hamJ_le (u v : List Int) (j : Nat) : hamJ u v j ≤ j := Nat.le_trans (ham_le _ _) (by simp; omega)
theorem symN_inj {a b : Nat} (ha : a < 36) (hb : b < 36) : (symN a).toNat = (symN b).toNat ↔ a = b := by
  constructor
  · intro h
    have h1 := dig_sym ha
    have h2 := dig_sym hb
    rw [h] at h1
    omega
  · rintro rfl; rfl
theorem cntW_le {x : Chn} (h : x.b ^ x.n ≤ 256) : cntW x ≤ 256 := by rw [cntW_eq]; exact Nat.le_trans (endsR_le _ _ _ _) h
theorem dOk_cnt {x : Chn} (hv : VC x) : dOk x = decide (1 < cntW x) := by
  unfold dOk
  rw [vC_iff.2 hv, Bool.true_and]
  exact decide_eq_decide.2 (two_iff hv.nat.2.2.2.2.2)
theorem caught0 {x : Chn} (hv : VC x) : caught x 0 = true ↔ ¬ 1 < cntW x ∨ 1 < distI x := by
  have hn := hv.nat.2.2.2.2.2
  have h0 := hv.nat.1
  rw [← two_iff hn, ← caught_iff hv hn]
  have hk : kindOk (0 : Int) x.base = true := by unfold kindOk; rw [inB_true.2 (by omega)]; simp
  have hu : uiOk x 0 = true := by unfold uiOk; rw [vC_iff.2 hv, hk]; rfl
  have hp : nPl x 0 = x.n := by unfold nPl; show x.places.length + 1 - 1 = x.places.length; omega
  unfold caught badIn
  rw [hu, hp, Bool.true_and, decide_eq_true_eq]
  constructor
  · intro h p hp
    rcases Nat.eq_zero_or_pos (badAt x 0 p) with h1 | h1
    · exact h1
    · have := sumN_pos.2 ⟨p, hp, h1⟩; omega
  · intro h
    exact sumN_zeros h

set_option maxRecDepth 100000 in
set_option maxHeartbeats 6400000 in
theorem lawDistances (w : World) (v0 : Value) (z0 : List UInt8) (r0 : Rd rY (· < w.heap.size) w v0 z0) (v1 : Value) (z1 : List UInt8) (r1 : Rd rY (· < w.heap.size) w v1 z1) :
    Calls Try.prog 12 #[v0, v1] w fun e w' => e = .returned (.bool true) ∧ Below w.heap.size w w' := by
  have R0 := Lib.hid r0; clear r0
  have R1 := Lib.hid r1; clear r1
  cases hb : longB8 z0.length z1.length
  rotate_left
  · have HB := Lib.hid hb; clear hb
    go_enter Try.func12, Try.ntmps12
    go_wp2_with fail
    refine (lawLong8 R0.out R1.out _ HB.out).mono ?_
    rintro e w' ⟨rfl, rfl⟩
    go_wp2
    go_ret
    exact ⟨rfl, Below.refl _ _⟩
  have HB := Lib.hid hb; clear hb
  go_enter Try.func12, Try.ntmps12
  go_wp2_with fail
  refine (lawLong8 R0.out R1.out _ HB.out).mono ?_
  rintro e w' ⟨rfl, rfl⟩
  go_wp2_with fail
  refine (specR8Chain R0.out (Nat.le_refl _)).mono ?_
  rintro e w1 ⟨v, x, rfl, hf, hx⟩
  obtain ⟨u, p, rfl, a7, n7, c7, a8, c8, rfl, rfl⟩ := hf.aggU2
  have Hrc1 := Lib.hid (show RdC (· < w1.heap.size) w1 _ x from hf.choose_spec.1 |> fun h => OC.leads.to _ _ _ _ _ h (OC.ok.lt h))
  have Hb1 := Lib.hid hf.bel
  have hz1 := hf.bel.size
  have Hx := Lib.hid hx
  clear hf hx
  obtain ⟨NP, hNP⟩ : ∃ n, x.places.length = n := ⟨_, rfl⟩
  rw [hNP] at Hrc1 ⊢
  have HNP := Lib.hid hNP
  have hpl := Hx.out.vc.places
  rw [hNP] at hpl
  clear hNP
  obtain ⟨w2, hw2⟩ : ∃ w2, w2 = w1.alloc (.cells #[.int .i64 x.base, .int .i64 x.states, .int .i64 x.start, .int .i64 x.stop, .slice a7 n7 c7, .slice a8 NP c8] 28) := ⟨_, rfl⟩
  have hb12 := (Below.refl w1.heap.size w1).alloc (Nat.le_refl _) (.cells #[.int .i64 x.base, .int .i64 x.states, .int .i64 x.start, .int .i64 x.stop, .slice a7 n7 c7, .slice a8 NP c8] 28)
  have Hbx := Lib.hid (show w2.heap[w1.heap.size]? = some (.cells #[.int .i64 x.base, .int .i64 x.states, .int .i64 x.start, .int .i64 x.stop, .slice a7 n7 c7, .slice a8 NP c8] 28 (0, 0)) by rw [hw2]; exact heap_alloc_new w1 _)
  rw [← hw2] at hb12
  have Hb2 := Lib.hid (Hb1.out.trans (hb12.mono hz1))
  have Hrc2 := Lib.hid (RdC.ok.keep Hrc1.out fun k hk => hb12.block k hk)
  have hz2 := hb12.size
  have hn1 := heap_lt Hbx.out
  have Hw2 := Lib.hid hw2
  clear hw2 hb12 Hrc1 Hb1
  have Hat := Lib.hid (fun (W : World) (hb : Below w2.heap.size w2 W) => (show RdC (· < w1.heap.size) W (.agg #[.int .i64 x.base, .int .i64 x.states, .int .i64 x.start, .int .i64 x.stop, .slice a7 n7 c7, .slice a8 NP c8]) x ∧ W.heap[w1.heap.size]? = some (.cells #[.int .i64 x.base, .int .i64 x.states, .int .i64 x.start, .int .i64 x.stop, .slice a7 n7 c7, .slice a8 NP c8] 28 (0, 0)) ∧ w1.heap.size ≤ W.heap.size from
    ⟨RdC.ok.keep Hrc2.out fun k hk => hb.block k (by have h9 : k < w1.heap.size := hk; omega), bheap hb Hbx.out, by have := hb.size; omega⟩))
  obtain ⟨N, hN⟩ : ∃ n, n = cntW x := ⟨_, rfl⟩
  have hN256 : N ≤ 256 := by rw [hN]; exact cntW_le Hx.out.words
  have HN := Lib.hid hN
  have hvc := Lib.hid (vC_iff.2 Hx.out.vc)
  have hcw := Lib.hid (show cntV x = (N : Int) by rw [cntV_yes hvc.out, hN]; rfl)
  have hdk := Lib.hid (show dOk x = decide (1 < N) by rw [hN]; exact dOk_cnt Hx.out.vc)
  have hwl := Lib.hid (show ∀ k, k < N → (wordG x k).length = NP ∧ ∀ i, i < NP → 0 ≤ nth (wordG x k) i ∧ nth (wordG x k) i < 36 from fun k hk => by
    have h1 := wordG_ok Hx.out.vc (R := k) (by rw [hN] at hk; exact hk)
    have h2 : (wordG x k).length = NP := h1.1.trans HNP.out
    exact ⟨h2, fun i hi => h1.2 i (by omega)⟩)
  have hwa := Lib.hid (fun (W : World) (hr : RdC (· < w1.heap.size) W (.agg #[.int .i64 x.base, .int .i64 x.states, .int .i64 x.start, .int .i64 x.stop, .slice a7 n7 c7, .slice a8 NP c8]) x) (hs : w1.heap.size ≤ W.heap.size) (k : Nat) (hk : k < N) => (show Calls Try.prog 56 #[.agg #[.int .i64 x.base, .int .i64 x.states, .int .i64 x.start, .int .i64 x.stop, .slice a7 n7 c7, .slice a8 NP c8], .int .i64 k] W fun e w' => e = .returned (.tuple #[.string (wordS (wordG x k)), .bool true]) ∧ Below W.heap.size W w' from by
    have h1 := implWordAtF hr hs Hx.out.sz (k : Int)
    have h2 : wrdB x (k : Int) = true := wrdB_at hvc.out (inB_true.2 (by have h5 : k < endsV x 0 x.start.toNat := (by rw [hN] at hk; exact hk); omega))
    rw [wrd_yes h2, h2, Int.toNat_natCast] at h1
    exact h1))
  clear hN
  have c0 := heap_cell Hbx.out (i := 0) rfl
  have c1 := heap_cell Hbx.out (i := 1) rfl
  have c2 := heap_cell Hbx.out (i := 2) rfl
  have c3 := heap_cell Hbx.out (i := 3) rfl
  have c4 := heap_cell Hbx.out (i := 4) rfl
  have c5 := heap_cell Hbx.out (i := 5) rfl
  go_wp2_with fail
  rw [← Hw2.out]
  refine (implCountWords Hrc2.out (by omega) Hx.out.sz).mono ?_
  rw [hcw.out, hvc.out]
  rintro e w3 ⟨rfl, hb3⟩
  have Hb3 := Lib.hid hb3
  obtain ⟨hr3, hx3, hs3⟩ := Hat.out w3 hb3
  clear c0 c1 c2 c3 c4 c5
  have c0 := heap_cell hx3 (i := 0) rfl
  have c1 := heap_cell hx3 (i := 1) rfl
  have c2 := heap_cell hx3 (i := 2) rfl
  have c3 := heap_cell hx3 (i := 3) rfl
  have c4 := heap_cell hx3 (i := 4) rfl
  have c5 := heap_cell hx3 (i := 5) rfl
  have hl3 := heap_lt hx3
  have Hr3 := Lib.hid hr3
  clear hb3 hr3 hx3
  by_cases h1N : 1 < N
  · have hok := Lib.hid (show dOk x = true by rw [hdk.out]; simp; omega)
    obtain ⟨D, hD⟩ : ∃ n, n = distI x := ⟨_, rfl⟩
    have hdv := Lib.hid (show dV x = (D : Int) by unfold dV; rw [hok.out, hD]; rfl)
    have hD20 : D ≤ 20 := by
      have h5 := (distI_is ((two_iff Hx.out.vc.nat.2.2.2.2.2).2 (by rw [← HN.out]; exact h1N))).le
      have h6 := Hx.out.vc.nat.2.2.2.2.2
      omega
    have hbd := Lib.hid (show bestP x N 0 = D by rw [HN.out, hD]; exact bestP_dist Hx.out.vc.nat.2.2.2.2.2 (by rw [← HN.out]; exact h1N))
    have hca := Lib.hid (show caught x 0 = decide (1 < D) by
      rw [Bool.eq_iff_iff, caught0 Hx.out.vc, ← HN.out, ← hD, decide_eq_true_eq]
      constructor
      · rintro (h | h)
        · exact absurd h1N h
        · exact h
      · exact .inr)
    clear hD
    go_wp2_with fail
    refine (implLeastDistance Hr3.out hs3 Hx.out.sz).mono ?_
    rw [hdv.out, hok.out]
    rintro e w4 ⟨rfl, hb4⟩
    have Hb4 := Lib.hid (Hb3.out.trans (hb4.mono Hb3.out.size))
    clear hb4 c0 c1 c2 c3 c4 c5 hl3
    have hNi : (1 : Int) < (N : Int) := by omega
    go_wp2
    go_loopw [10, 11] (fun sv iv wr => ∃ k : Nat, k ≤ N ∧ iv = .int .i64 k ∧ Fresh (Own 9 oS) w4 wr sv (wordsL x k)) (fun _ iv _ => N - (intOf iv).toNat)
    case atStart => exact ⟨0, Nat.zero_le _, rfl, Fresh.empty (Below.refl _ _)⟩
    case round =>
      obtain ⟨k, hk, rfl, hf⟩ := hrel
      obtain ⟨W5, rfl⟩ : ∃ W, W = wr := ⟨_, rfl⟩
      have hb5 := Hb4.out.trans (hf.bel.mono Hb4.out.size)
      by_cases hkN : k < N
      · obtain ⟨hr5, hx5, hs5⟩ := Hat.out W5 hb5
        have c0 := heap_cell hx5 (i := 0) rfl
        have c1 := heap_cell hx5 (i := 1) rfl
        have c2 := heap_cell hx5 (i := 2) rfl
        have c3 := heap_cell hx5 (i := 3) rfl
        have c4 := heap_cell hx5 (i := 4) rfl
        have c5 := heap_cell hx5 (i := 5) rfl
        have hl5 := heap_lt hx5
        have hcl := Lib.hid (hwa.out W5 hr5 hs5 k hkN)
        have hws := Lib.hid (wordsL_succ x k)
        have hln := Lib.hid (wordsL_len x k)
        have hsz : (wordS (wordG x k)).size = NP := by rw [wordS_size]; exact (hwl.out k hkN).1
        obtain ⟨sa, sn, sc, rfl⟩ := hf.choose_spec.1.isSlice
        have Hf := Lib.hid hf
        have Hb5 := Lib.hid hb5
        clear hr5 hx5 hf hb5
        generalize wordS (wordG x k) = SW at *
        go_wp2_with fail
        refine (Calls.mono hcl.out ?_)
        rintro e w6 ⟨rfl, hb6⟩
        have Hb6 := Lib.hid hb6
        obtain ⟨hr6, hx6, hs6⟩ := Hat.out w6 (Hb5.out.trans (hb6.mono Hb5.out.size))
        clear c0 c1 c2 c3 c4 c5 hl5
        have c5 := heap_cell hx6 (i := 5) rfl
        have hl6 := heap_lt hx6
        clear hr6 hx6 hb6
        go_wp2_with (at_builtin; refine wpList_pushF rfl (.tmp 68) (.tmp 70) 78 rfl (f := fS) (fun _ => rfl) Try.underlying78 infoStrD rfl (Fresh.stay (Own.ok oS.ok) Hf.out Hb6.out) SW (by have := hln.out; omega) (by have := hln.out; unfold maxLen; omega) rfl rfl ?_; intro v1 w7 hf1)
        go_roundw
        case rel => exact ⟨k + 1, by omega, by go_num, by rw [hws.out]; assumption⟩
        case measure => simp [intOf]; omega
      · obtain ⟨hkn⟩ : Nonempty (k = N) := ⟨by omega⟩
        rw [hkn] at hf
        have hrd := hf.rd (Own.leads leaf.leads) (Own.ok oS.ok)
        obtain ⟨sa, sc, rfl, g1, g2⟩ := hrd.isSlice
        have Hrd := Lib.hid hrd
        rw [wordsL_len] at g1 ⊢
        have hb5' := Lib.hid hb5
        clear hf hrd hb5 hkn
        have Hcell := Lib.hid (fun (W : World) (hb : Below W5.heap.size W5 W) (i : Nat) (hi : i < N) => (show ∃ b o, sa = some ⟨b, o, none⟩ ∧ W.cell? ⟨b, o + i, none⟩ = some (.string (wordS (wordG x i))) from by
          obtain ⟨b, o, u, e1, e2, e3, e4⟩ := Rd.elim Hrd.out i (by rw [wordsL_len]; exact hi)
          rw [wordsL_nth hi] at e4
          refine ⟨b, o, e1, ?_⟩
          rw [e4] at e3
          exact (hb.cell (p := ⟨b, o + i, none⟩) (cell_lt e3)).trans e3))
        unfold maxLen at g2
        go_wp2
        go_loopw [14, 15] (fun bv iv wr => ∃ i : Nat, i ≤ N ∧ iv = .int .i64 i ∧ bv = .int .i64 ((bestP x i 0 : Nat) : Int) ∧ Hid (Below W5.heap.size W5 wr)) (fun _ iv _ => N - (intOf iv).toNat)
        case atStart => exact ⟨0, Nat.zero_le _, rfl, rfl, Lib.hid (Below.refl _ _)⟩
        case round =>
          obtain ⟨i, hi, rfl, rfl, hbi⟩ := hrel
          obtain ⟨W6, rfl⟩ : ∃ W, W = wr := ⟨_, rfl⟩
          by_cases hiN : i < N
          · obtain ⟨hli, hdi⟩ := hwl.out i hiN
            have Hdi := Lib.hid hdi
            have Hli := Lib.hid hli
            have hsi : (wordS (wordG x i)).size = NP := by rw [wordS_size]; exact hli
            clear hdi hli
            have hbn := Lib.hid (bestP_next x i)
            generalize hBB : bestP x i 0 = BB at *
            have HBB := Lib.hid hBB; clear hBB
            go_wp2
            go_loopw [14, 16] (fun bv kv wr => ∃ (k B : Nat), k ≤ i ∧ kv = .int .i64 k ∧ bv = .int .i64 B ∧ B ≤ 99 ∧ Hid (B = bestP x i k) ∧ Hid (Below W5.heap.size W5 wr)) (fun _ kv _ => i - (intOf kv).toNat)
            case atStart => exact ⟨0, BB, Nat.zero_le _, rfl, rfl, by rw [← HBB.out]; exact bestP_le _ _ _, Lib.hid HBB.out.symm, hbi⟩
            case round =>
              clear hbi
              obtain ⟨k, B, hk, rfl, rfl, hB99, hBk, hbi⟩ := hrel
              obtain ⟨W7, rfl⟩ : ∃ W, W = wr := ⟨_, rfl⟩
              by_cases hki : k < i
              · obtain ⟨hlk, hdk2⟩ := hwl.out k (by omega)
                have Hdk := Lib.hid hdk2
                have Hlk := Lib.hid hlk
                have hsk : (wordS (wordG x k)).size = NP := by rw [wordS_size]; exact hlk
                clear hdk2 hlk
                go_wp2
                go_loopw [17, 18] (fun dv jv wr => ∃ (j d : Nat), j ≤ NP ∧ jv = .int .i64 j ∧ dv = .int .i64 d ∧ d ≤ j ∧ Hid (d = hamJ (wordG x i) (wordG x k) j) ∧ Hid (Below W5.heap.size W5 wr)) (fun _ jv _ => NP - (intOf jv).toNat)
                case atStart => exact ⟨0, 0, Nat.zero_le _, rfl, rfl, Nat.le_refl _, Lib.hid (hamJ_zero _ _).symm, hbi⟩
                case round =>
                  clear hbi
                  obtain ⟨j, d, hj, rfl, rfl, hdj, hdh, hbi⟩ := hrel
                  obtain ⟨W8, rfl⟩ : ∃ W, W = wr := ⟨_, rfl⟩
                  obtain ⟨b, o, rfl, ci⟩ := Hcell.out W8 hbi.out i hiN
                  obtain ⟨b', o', e9, ck⟩ := Hcell.out W8 hbi.out k (by omega)
                  simp only [Option.some.injEq, Addr.mk.injEq, and_true] at e9
                  obtain ⟨rfl, rfl⟩ := e9
                  by_cases hjN : j < NP
                  · have bi := wordS_byt (xs := wordG x i) (i := j) (by rw [Hli.out]; exact hjN)
                    have bk := wordS_byt (xs := wordG x k) (i := j) (by rw [Hlk.out]; exact hjN)
                    have hsucc := Lib.hid (hamJ_succ (u := wordG x i) (v := wordG x k) (j := j) (by rw [Hli.out]; exact hjN) (by rw [Hli.out, Hlk.out]))
                    have hinj := Lib.hid (show ((symN (nth (wordG x i) j).toNat).toNat = (symN (nth (wordG x k) j).toNat).toNat) ↔ nth (wordG x i) j = nth (wordG x k) j from by
                      have h1 := Hdi.out j hjN
                      have h2 := Hdk.out j hjN
                      rw [symN_inj (by omega) (by omega)]
                      omega)
                    go_wp2
                    refine wp_region_quiet_lit (by kernel_rfl) (by kernel_rfl) ?_
                    repeat (go_big_quiet_step (fail))
                    refine wpQuiet_nil ?_
                    rintro _ ⟨nq, rfl⟩
                    have hbq := Lib.hid (hbi.out.trans ((bel_draws (w := W8) (m := nq) rfl).mono hbi.out.size))
                    by_cases heq : byt (wordS (wordG x i)) j = byt (wordS (wordG x k)) j
                    · have hb1 : ((((wordS (wordG x i))[j]'(by rw [hsi]; exact hjN)).toNat : Int) != (((wordS (wordG x k))[j]'(by rw [hsk]; exact hjN)).toNat : Int)) = false := by rw [byt_eq, byt_eq]; simp [heq]
                      have hd2 := Lib.hid (show d = hamJ (wordG x i) (wordG x k) (j + 1) by
                        rw [hsucc.out, ← hdh.out, if_pos (hinj.out.1 (by rw [bi, bk] at heq; exact Int.ofNat.inj heq))]; rfl)
                      clear hdh hsucc hinj
                      go_wp2
                      go_roundw
                      case rel => exact ⟨j + 1, d, by omega, by go_num, rfl, by omega, hd2, hbq⟩
                      case measure => simp [intOf]; omega
                    · have hb1 : ((((wordS (wordG x i))[j]'(by rw [hsi]; exact hjN)).toNat : Int) != (((wordS (wordG x k))[j]'(by rw [hsk]; exact hjN)).toNat : Int)) = true := by rw [byt_eq, byt_eq]; simpa using heq
                      have hd2 := Lib.hid (show d + 1 = hamJ (wordG x i) (wordG x k) (j + 1) by
                        rw [hsucc.out, ← hdh.out, if_neg (fun h => heq (by rw [bi, bk]; exact congrArg Int.ofNat (hinj.out.2 h)))])
                      clear hdh hsucc hinj
                      go_wp2
                      go_roundw
                      case rel => exact ⟨j + 1, d + 1, by omega, by go_num, by go_num, by omega, hd2, hbq⟩
                      case measure => simp [intOf]; omega
                  · obtain ⟨hjn⟩ : Nonempty (j = NP) := ⟨by omega⟩
                    have hdd := Lib.hid (show d = ham (wordG x i) (wordG x k) by rw [hdh.out, hjn]; have := hamJ_all (u := wordG x i) (v := wordG x k) (by rw [Hli.out, Hlk.out]); rw [Hli.out] at this; exact this)
                    have hbs := Lib.hid (show min B d = bestP x i (k + 1) by rw [bestP_succ, ← hBk.out, ← hdd.out])
                    clear hdh hjn
                    by_cases hdB : d < B
                    · have hbs2 := Lib.hid (show d = bestP x i (k + 1) by rw [← hbs.out]; omega)
                      clear hbs
                      go_wp2
                      go_roundw
                      case rel => exact ⟨k + 1, d, by omega, by go_num, rfl, by omega, hbs2, hbi⟩
                      case measure => simp [intOf]; omega
                    · have hbs2 := Lib.hid (show B = bestP x i (k + 1) by rw [← hbs.out]; omega)
                      clear hbs
                      go_wp2
                      go_roundw
                      case rel => exact ⟨k + 1, B, by omega, by go_num, rfl, by omega, hbs2, hbi⟩
                      case measure => simp [intOf]; omega
              · obtain ⟨hkn⟩ : Nonempty (k = i) := ⟨by omega⟩
                have hBn := Lib.hid (show ((B : Nat) : Int) = ((bestP x (i + 1) 0 : Nat) : Int) by rw [hBk.out, hkn, hbn.out])
                clear hkn
                go_wp2
                go_roundw
                case rel => exact ⟨i + 1, by omega, by go_num, by rw [hBn.out], hbi⟩
                case measure => simp [intOf]; omega
          · obtain ⟨hin⟩ : Nonempty (i = N) := ⟨by omega⟩
            have hb6' := hb5'.out.trans (hbi.out.mono hb5'.out.size)
            obtain ⟨hr6, hx6, hs6⟩ := Hat.out W6 hb6'
            have c0 := heap_cell hx6 (i := 0) rfl
            have c1 := heap_cell hx6 (i := 1) rfl
            have c2 := heap_cell hx6 (i := 2) rfl
            have c3 := heap_cell hx6 (i := 3) rfl
            have c4 := heap_cell hx6 (i := 4) rfl
            have c5 := heap_cell hx6 (i := 5) rfl
            have hl6 := heap_lt hx6
            have hic := Lib.hid (implIsCaught hr6 hs6 Hx.out.sz 0)
            rw [hca.out] at hic
            have Hbe := Lib.hid (Hb2.out.trans (hb6'.mono Hb2.out.size))
            clear hr6 hx6 hb6'
            rw [hin, hbd.out]
            clear hin
            by_cases hD1 : 1 < D
            · rw [show decide (1 < D) = true by simpa using hD1] at hic
              go_wp2_with fail
              refine (Calls.mono hic.out ?_)
              rintro e w9 ⟨rfl, hb9⟩
              have Hb9 := Lib.hid (Hbe.out.trans (hb9.mono Hbe.out.size)); clear hb9
              have hd1 : decide ((1 : Int) < (D : Int)) = true := by simp; omega
              go_wp2
              go_ret
              exact ⟨by first | rfl | (rw [hd1]; rfl) | (simp [hd1]; done), Hb9.out⟩
            · rw [show decide (1 < D) = false by simpa using hD1] at hic
              go_wp2_with fail
              refine (Calls.mono hic.out ?_)
              rintro e w9 ⟨rfl, hb9⟩
              have Hb9 := Lib.hid (Hbe.out.trans (hb9.mono Hbe.out.size)); clear hb9
              have hd1 : decide ((1 : Int) < (D : Int)) = false := by simp; omega
              go_wp2
              go_ret
              exact ⟨by first | rfl | (rw [hd1]; rfl) | (simp [hd1]; done), Hb9.out⟩
  · have hok := Lib.hid (show dOk x = false by rw [hdk.out]; simp; omega)
    have hdv := Lib.hid (show dV x = 0 by unfold dV; rw [hok.out]; rfl)
    have hca := Lib.hid (show caught x 0 = true from (caught0 Hx.out.vc).2 (.inl (by rw [← HN.out]; exact h1N)))
    go_wp2_with fail
    refine (implLeastDistance Hr3.out hs3 Hx.out.sz).mono ?_
    rw [hdv.out, hok.out]
    rintro e w4 ⟨rfl, hb4⟩
    have Hb4 := Lib.hid (Hb3.out.trans (hb4.mono Hb3.out.size))
    clear hb4 c0 c1 c2 c3 c4 c5 hl3
    have hNi : ¬ (1 : Int) < (N : Int) := by omega
    go_wp2
    go_loopw [10, 11] (fun sv iv wr => ∃ k : Nat, k ≤ N ∧ iv = .int .i64 k ∧ Fresh (Own 9 oS) w4 wr sv (wordsL x k)) (fun _ iv _ => N - (intOf iv).toNat)
    case atStart => exact ⟨0, Nat.zero_le _, rfl, Fresh.empty (Below.refl _ _)⟩
    case round =>
      obtain ⟨k, hk, rfl, hf⟩ := hrel
      obtain ⟨W5, rfl⟩ : ∃ W, W = wr := ⟨_, rfl⟩
      have hb5 := Hb4.out.trans (hf.bel.mono Hb4.out.size)
      by_cases hkN : k < N
      · obtain ⟨hr5, hx5, hs5⟩ := Hat.out W5 hb5
        have c0 := heap_cell hx5 (i := 0) rfl
        have c1 := heap_cell hx5 (i := 1) rfl
        have c2 := heap_cell hx5 (i := 2) rfl
        have c3 := heap_cell hx5 (i := 3) rfl
        have c4 := heap_cell hx5 (i := 4) rfl
        have c5 := heap_cell hx5 (i := 5) rfl
        have hl5 := heap_lt hx5
        have hcl := Lib.hid (hwa.out W5 hr5 hs5 k hkN)
        have hws := Lib.hid (wordsL_succ x k)
        have hln := Lib.hid (wordsL_len x k)
        have hsz : (wordS (wordG x k)).size = NP := by rw [wordS_size]; exact (hwl.out k hkN).1
        obtain ⟨sa, sn, sc, rfl⟩ := hf.choose_spec.1.isSlice
        have Hf := Lib.hid hf
        have Hb5 := Lib.hid hb5
        clear hr5 hx5 hf hb5
        generalize wordS (wordG x k) = SW at *
        go_wp2_with fail
        refine (Calls.mono hcl.out ?_)
        rintro e w6 ⟨rfl, hb6⟩
        have Hb6 := Lib.hid hb6
        obtain ⟨hr6, hx6, hs6⟩ := Hat.out w6 (Hb5.out.trans (hb6.mono Hb5.out.size))
        clear c0 c1 c2 c3 c4 c5 hl5
        have c5 := heap_cell hx6 (i := 5) rfl
        have hl6 := heap_lt hx6
        clear hr6 hx6 hb6
        go_wp2_with (at_builtin; refine wpList_pushF rfl (.tmp 68) (.tmp 70) 78 rfl (f := fS) (fun _ => rfl) Try.underlying78 infoStrD rfl (Fresh.stay (Own.ok oS.ok) Hf.out Hb6.out) SW (by have := hln.out; omega) (by have := hln.out; unfold maxLen; omega) rfl rfl ?_; intro v1 w7 hf1)
        go_roundw
        case rel => exact ⟨k + 1, by omega, by go_num, by rw [hws.out]; assumption⟩
        case measure => simp [intOf]; omega
      · obtain ⟨hkn⟩ : Nonempty (k = N) := ⟨by omega⟩
        rw [hkn] at hf
        have hrd := hf.rd (Own.leads leaf.leads) (Own.ok oS.ok)
        obtain ⟨sa, sc, rfl, g1, g2⟩ := hrd.isSlice
        have Hrd := Lib.hid hrd
        rw [wordsL_len] at g1 ⊢
        have hb5' := Lib.hid hb5
        clear hf hrd hb5 hkn
        have Hcell := Lib.hid (fun (W : World) (hb : Below W5.heap.size W5 W) (i : Nat) (hi : i < N) => (show ∃ b o, sa = some ⟨b, o, none⟩ ∧ W.cell? ⟨b, o + i, none⟩ = some (.string (wordS (wordG x i))) from by
          obtain ⟨b, o, u, e1, e2, e3, e4⟩ := Rd.elim Hrd.out i (by rw [wordsL_len]; exact hi)
          rw [wordsL_nth hi] at e4
          refine ⟨b, o, e1, ?_⟩
          rw [e4] at e3
          exact (hb.cell (p := ⟨b, o + i, none⟩) (cell_lt e3)).trans e3))
        unfold maxLen at g2
        go_wp2
        go_loopw [14, 15] (fun bv iv wr => ∃ i : Nat, i ≤ N ∧ iv = .int .i64 i ∧ bv = .int .i64 ((bestP x i 0 : Nat) : Int) ∧ Hid (Below W5.heap.size W5 wr)) (fun _ iv _ => N - (intOf iv).toNat)
        case atStart => exact ⟨0, Nat.zero_le _, rfl, rfl, Lib.hid (Below.refl _ _)⟩
        case round =>
          obtain ⟨i, hi, rfl, rfl, hbi⟩ := hrel
          obtain ⟨W6, rfl⟩ : ∃ W, W = wr := ⟨_, rfl⟩
          by_cases hiN : i < N
          · obtain ⟨hli, hdi⟩ := hwl.out i hiN
            have Hdi := Lib.hid hdi
            have Hli := Lib.hid hli
            have hsi : (wordS (wordG x i)).size = NP := by rw [wordS_size]; exact hli
            clear hdi hli
            have hbn := Lib.hid (bestP_next x i)
            generalize hBB : bestP x i 0 = BB at *
            have HBB := Lib.hid hBB; clear hBB
            go_wp2
            go_loopw [14, 16] (fun bv kv wr => ∃ (k B : Nat), k ≤ i ∧ kv = .int .i64 k ∧ bv = .int .i64 B ∧ B ≤ 99 ∧ Hid (B = bestP x i k) ∧ Hid (Below W5.heap.size W5 wr)) (fun _ kv _ => i - (intOf kv).toNat)
            case atStart => exact ⟨0, BB, Nat.zero_le _, rfl, rfl, by rw [← HBB.out]; exact bestP_le _ _ _, Lib.hid HBB.out.symm, hbi⟩
            case round =>
              clear hbi
              obtain ⟨k, B, hk, rfl, rfl, hB99, hBk, hbi⟩ := hrel
              obtain ⟨W7, rfl⟩ : ∃ W, W = wr := ⟨_, rfl⟩
              by_cases hki : k < i
              · exfalso; omega
              · obtain ⟨hkn⟩ : Nonempty (k = i) := ⟨by omega⟩
                have hBn := Lib.hid (show ((B : Nat) : Int) = ((bestP x (i + 1) 0 : Nat) : Int) by rw [hBk.out, hkn, hbn.out])
                clear hkn
                go_wp2
                go_roundw
                case rel => exact ⟨i + 1, by omega, by go_num, by rw [hBn.out], hbi⟩
                case measure => simp [intOf]; omega
          · obtain ⟨hin⟩ : Nonempty (i = N) := ⟨by omega⟩
            have hb6' := hb5'.out.trans (hbi.out.mono hb5'.out.size)
            obtain ⟨hr6, hx6, hs6⟩ := Hat.out W6 hb6'
            have c0 := heap_cell hx6 (i := 0) rfl
            have c1 := heap_cell hx6 (i := 1) rfl
            have c2 := heap_cell hx6 (i := 2) rfl
            have c3 := heap_cell hx6 (i := 3) rfl
            have c4 := heap_cell hx6 (i := 4) rfl
            have c5 := heap_cell hx6 (i := 5) rfl
            have hl6 := heap_lt hx6
            have hic := Lib.hid (implIsCaught hr6 hs6 Hx.out.sz 0)
            rw [hca.out] at hic
            have Hbe := Lib.hid (Hb2.out.trans (hb6'.mono Hb2.out.size))
            clear hr6 hx6 hb6'
            clear hin
            generalize bestP x i 0 = BB at *
            go_wp2_with fail
            refine (Calls.mono hic.out ?_)
            rintro e w9 ⟨rfl, hb9⟩
            have Hb9 := Lib.hid (Hbe.out.trans (hb9.mono Hbe.out.size)); clear hb9
            go_wp2
            go_ret
            exact ⟨rfl, Hb9.out⟩
end Go.Proofs.Ytnpkanlieflbiaa
