/- The walk of the law of placed errors (FnPlaced): it returns true. -/
import Derived.Test.YtnpkanlieflbiaaU3
import Derived.Test.YtnpkanlieflbiaaE15
import Derived.Test.YtnpkanlieflbiaaI0
import Derived.Deep.CutRange
import Derived.Deep.DeepCutAuto
namespace Go.Proofs.Ytnpkanlieflbiaa
open Go.RowKit
set_option linter.unusedVariables false

theorem Fresh.aggU {w w' : World} {v : Value} {x : Chn} (h : Fresh OC w w' v x) : ∃ u p, v = .agg #[.int .i64 x.base, .int .i64 x.states, .int .i64 x.start, .int .i64 x.stop, u, p] ∧ ∃ a b c d f, u = .slice a b c ∧ p = .slice d x.places.length f := by
  obtain ⟨S, ⟨u, p, Sa, Sb, rfl, ot, op, eS, hSS⟩, hS, hb⟩ := h
  obtain ⟨a, b, c, rfl⟩ := ot.isSlice
  obtain ⟨d, f, rfl, _, _⟩ := (Own.rd op (P := fun _ => True) (fun _ _ => trivial)).isSlice
  exact ⟨_, _, rfl, a, b, c, d, f, rfl, rfl⟩
def upTo (f : Nat → Nat) (N p : Nat) : Nat := sumN (min p N) f
theorem upTo_zero (f : Nat → Nat) (N : Nat) : upTo f N 0 = 0 := by simp [upTo, sumN]
theorem upTo_in {f : Nat → Nat} {N p : Nat} (h : p < N) : upTo f N (p + 1) = upTo f N p + f p := by
  unfold upTo; rw [show min (p + 1) N = p + 1 by omega, show min p N = p by omega, sumN_succ]
theorem upTo_out {f : Nat → Nat} {N p : Nat} (h : N ≤ p) : upTo f N (p + 1) = upTo f N p := by
  unfold upTo; rw [show min (p + 1) N = N by omega, show min p N = N by omega]
theorem upTo_all {f : Nat → Nat} {N p : Nat} (h : N ≤ p) : upTo f N p = sumN N f := by unfold upTo; rw [show min p N = N by omega]
set_option maxRecDepth 100000 in
set_option maxHeartbeats 3200000 in
theorem lawPlaced (w : World) (v0 : Value) (z0 : List UInt8) (r0 : Rd rY (· < w.heap.size) w v0 z0) (v1 : Value) (z1 : List UInt8) (r1 : Rd rY (· < w.heap.size) w v1 z1) :
    Calls Try.prog 7 #[v0, v1] w fun e w' => e = .returned (.bool true) ∧ Below w.heap.size w w' := by
  have R0 := Lib.hid r0; clear r0
  have R1 := Lib.hid r1; clear r1
  cases hb : longB8 z0.length z1.length
  rotate_left
  · have HB := Lib.hid hb; clear hb
    go_enter Try.func7, Try.ntmps7
    go_wp2_with fail
    refine (lawLong8 R0.out R1.out _ HB.out).mono ?_
    rintro e w' ⟨rfl, rfl⟩
    go_wp2
    go_ret
    exact ⟨rfl, Below.refl _ _⟩
  have HB := Lib.hid hb; clear hb
  go_enter Try.func7, Try.ntmps7
  go_wp2_with fail
  refine (lawLong8 R0.out R1.out _ HB.out).mono ?_
  rintro e w' ⟨rfl, rfl⟩
  go_wp2_with fail
  refine (specR8Chain R0.out (Nat.le_refl _)).mono ?_
  rintro e w1 ⟨v, x, rfl, hf, hx⟩
  obtain ⟨u, p, rfl, a7, n7, c7, a8, c8, rfl, rfl⟩ := hf.aggU
  have Hrc1 := Lib.hid (show RdC (· < w1.heap.size) w1 _ x from hf.choose_spec.1 |> fun h => OC.leads.to _ _ _ _ _ h (OC.ok.lt h))
  have Hb1 := Lib.hid hf.bel
  have hz1 := hf.bel.size
  have Hx := Lib.hid hx
  clear hf hx
  obtain ⟨NP, hNP⟩ : ∃ n, x.places.length = n := ⟨_, rfl⟩
  rw [hNP] at Hrc1 ⊢
  have HNP := Lib.hid hNP
  have hpl := Hx.out.vc.places
  rw [hNP] at hpl
  clear hNP
  obtain ⟨w2, hw2⟩ : ∃ w2, w2 = w1.alloc (.cells #[.int .i64 x.base, .int .i64 x.states, .int .i64 x.start, .int .i64 x.stop, .slice a7 n7 c7, .slice a8 NP c8] 28) := ⟨_, rfl⟩
  have hb12 := (Below.refl w1.heap.size w1).alloc (Nat.le_refl _) (.cells #[.int .i64 x.base, .int .i64 x.states, .int .i64 x.start, .int .i64 x.stop, .slice a7 n7 c7, .slice a8 NP c8] 28)
  have Hbx := Lib.hid (show w2.heap[w1.heap.size]? = some (.cells #[.int .i64 x.base, .int .i64 x.states, .int .i64 x.start, .int .i64 x.stop, .slice a7 n7 c7, .slice a8 NP c8] 28 (0, 0)) by rw [hw2]; exact heap_alloc_new w1 _)
  rw [← hw2] at hb12
  have Hb2 := Lib.hid (Hb1.out.trans (hb12.mono hz1))
  have Hrc2 := Lib.hid (RdC.ok.keep Hrc1.out fun k hk => hb12.block k hk)
  have hz2 := hb12.size
  have Hw2 := Lib.hid hw2
  clear hw2 hb12 Hrc1 Hb1
  go_wp2_with fail
  rw [← Hw2.out]
  refine (lawAt8 (Rd.below (Rd.ok rleaf.ok) R1.out Hb2.out) 0 5 (by omega) (by omega) (by omega)).mono ?_
  rintro e w' ⟨⟨s, hs, rfl⟩, rfl⟩
  obtain ⟨K, rfl⟩ := Int.eq_ofNat_of_zero_le hs.1
  have hK4 : K ≤ 4 := by have := hs.2.1 (by omega); omega
  clear hs Hw2
  have hkd : kindOk (K : Int) x.base = true := by unfold kindOk; rw [inB_true.2 (by omega)]; simp; omega
  have hui := Lib.hid (show uiOk x (K : Int) = true by unfold uiOk; rw [vC_iff.2 Hx.out.vc, hkd]; rfl)
  have huv := Lib.hid (ui_yes hui.out)
  have Hkd := Lib.hid hkd; clear hkd
  have hua := Lib.hid (show ∀ p : Int, uaOk x (K : Int) p = inB p 0 ((NP : Int) - errLen (K : Int)) from fun p => by unfold uaOk; rw [vC_iff.2 Hx.out.vc, Hkd.out, HNP.out]; rfl)
  obtain ⟨SZ, hSZ⟩ : ∃ n, errLen (K : Int) = n := ⟨_, rfl⟩
  have hS3 := errLen_bd (K : Int)
  rw [hSZ] at hS3 hua
  have HSZ := Lib.hid hSZ; clear hSZ
  have hnp := Lib.hid (show nPl x (K : Int) = NP + 1 - SZ by unfold nPl; rw [HNP.out, HSZ.out])
  have hn1 := heap_lt Hbx.out
  have c0 := heap_cell Hbx.out (i := 0) rfl
  have c1 := heap_cell Hbx.out (i := 1) rfl
  have c2 := heap_cell Hbx.out (i := 2) rfl
  have c3 := heap_cell Hbx.out (i := 3) rfl
  have c4 := heap_cell Hbx.out (i := 4) rfl
  have c5 := heap_cell Hbx.out (i := 5) rfl
  have hin := Lib.hid (implUndetectedIn Hrc2.out (by omega) Hx.out.sz (K : Int))
  rw [hui.out, huv.out.1, huv.out.2] at hin
  obtain ⟨FB, hFB⟩ : ∃ f, f = badAt x (K : Int) := ⟨_, rfl⟩
  obtain ⟨FA, hFA⟩ : ∃ f, f = allAt x (K : Int) := ⟨_, rfl⟩
  obtain ⟨NN, hNN⟩ : ∃ n, n = nPl x (K : Int) := ⟨_, rfl⟩
  have hbI : badIn x (K : Int) = sumN NN FB := by rw [hNN, hFB]; rfl
  have haI : allIn' x (K : Int) = sumN NN FA := by rw [hNN, hFA]; rfl
  rw [hbI, haI] at hin
  have hle := Lib.hid (show ∀ p, FB p ≤ FA p from fun p => by rw [hFB, hFA]; exact badAt_le_allAt x _ p)
  have hsum := Lib.hid (show ∀ p, p ≤ NN → sumN p FA ≤ 800000000000000000 ∧ sumN p FB ≤ 800000000000000000 from fun p hp => by rw [hFB, hFA]; exact sum_le_at Hx.out.vc (by rw [← hNN]; exact hp))
  have hNP := Lib.hid (show NN = NP + 1 - SZ by rw [hNN]; exact hnp.out)
  have hat := Lib.hid (show ∀ (W : World) (p : Nat), RdC (· < w1.heap.size) W (.agg #[.int .i64 x.base, .int .i64 x.states, .int .i64 x.start, .int .i64 x.stop, .slice a7 n7 c7, .slice a8 NP c8]) x → w1.heap.size ≤ W.heap.size → ∀ (B1 A1 : Nat) (ok : Bool), ((p + SZ ≤ NP ∧ ok = true ∧ B1 = FB p ∧ A1 = FA p) ∨ (¬ p + SZ ≤ NP ∧ ok = false ∧ B1 = 0 ∧ A1 = 0)) →
      Calls Try.prog 40 #[.agg #[.int .i64 x.base, .int .i64 x.states, .int .i64 x.start, .int .i64 x.stop, .slice a7 n7 c7, .slice a8 NP c8], .int .i64 K, .int .i64 p] W fun e w' => e = .returned (.tuple #[.int .i64 (B1 : Nat), .int .i64 (A1 : Nat), .bool ok]) ∧ Below W.heap.size W w' from fun W p hr hW B1 A1 ok hc => by
    refine (implUndetectedAt hr hW Hx.out.sz (K : Int) (p : Int)).mono ?_
    rintro e w' ⟨rfl, hb⟩
    refine ⟨?_, hb⟩
    rcases hc with ⟨h1, rfl, rfl, rfl⟩ | ⟨h1, rfl, rfl, rfl⟩
    · have ho : uaOk x (K : Int) (p : Int) = true := by rw [hua.out]; exact inB_true.2 (by omega)
      rw [(ua_yes ho).1, (ua_yes ho).2, ho, hFB, hFA]
    · have ho : uaOk x (K : Int) (p : Int) = false := by
        rw [hua.out]
        cases e : inB (p : Int) 0 ((NP : Int) - SZ) with
        | false => rfl
        | true => have := inB_true.1 e; omega
      rw [(ua_no ho).1, (ua_no ho).2, ho]; rfl)
  clear hFB hFA hNN hbI haI
  have hk5 : K = 0 ∨ K = 1 ∨ K = 2 ∨ K = 3 ∨ K = 4 := by omega
  rcases hk5 with rfl | rfl | rfl | rfl | rfl
  · go_wp2_with fail
    refine (Calls.mono hin.out ?_)
    rintro e w3 ⟨rfl, hb3⟩
    have Hbx3 := Lib.hid (bheap hb3 Hbx.out)
    have Hb3 := Lib.hid (Hb2.out.trans (hb3.mono Hb2.out.size))
    have Hrc3 := Lib.hid (RdC.ok.keep Hrc2.out fun k hk => hb3.block k (by have : k < w1.heap.size := hk; omega))
    have hz3 := hb3.size
    clear hb3 hin c0 c1 c2 c3 c4 c5
    obtain rfl : SZ = 1 := HSZ.out.symm
    rw [show ((0 : Nat) : Int) = 0 from rfl] at hat
    go_wp2_with fail
    go_loopw [11, 12, 13] (fun mv av pv wr => ∃ p : Nat, p ≤ NP ∧ pv = .int .i64 p ∧ mv = .int .i64 ((upTo FB NN p : Nat) : Int) ∧ av = .int .i64 ((upTo FA NN p : Nat) : Int) ∧ Hid (Below w3.heap.size w3 wr)) (fun _ _ pv _ => NP - (intOf pv).toNat)
    case atStart => exact ⟨0, Nat.zero_le _, rfl, by rw [upTo_zero]; rfl, by rw [upTo_zero]; rfl, Lib.hid (Below.refl _ _)⟩
    case round =>
      obtain ⟨p, hp, rfl, rfl, rfl, hbl⟩ := hrel
      obtain ⟨W4, rfl⟩ : ∃ W, W = wr := ⟨_, rfl⟩
      have hb4 := bheap hbl.out Hbx3.out
      have hz4 := hbl.out.size
      have hn4 := heap_lt hb4
      have c0 := heap_cell hb4 (i := 0) rfl
      have c1 := heap_cell hb4 (i := 1) rfl
      have c2 := heap_cell hb4 (i := 2) rfl
      have c3 := heap_cell hb4 (i := 3) rfl
      have c4 := heap_cell hb4 (i := 4) rfl
      have c5 := heap_cell hb4 (i := 5) rfl
      have Hrc4 := Lib.hid (RdC.ok.keep Hrc3.out fun k hk => hbl.out.block k (by have : k < w1.heap.size := hk; omega))
      have Hb4 := Lib.hid hb4
      clear hb4
      have hs1 := (hsum.out (min p NN) (by omega)).1
      have hs2 := (hsum.out (min p NN) (by omega)).2
      have hs1' : upTo FA NN p ≤ 800000000000000000 := hs1
      have hs2' : upTo FB NN p ≤ 800000000000000000 := hs2
      clear hs1 hs2
      by_cases hpn : p < NP
      · have hpn2 : (p : Int) < (NP : Int) := by omega
        by_cases hps : p + 1 ≤ NP
        · have hpi : (p : Int) + 1 ≤ (NP : Int) := by omega
          have hpN : p < NN := by have := hNP.out; omega
          have e1 := Lib.hid (upTo_in (f := FB) hpN)
          have e2 := Lib.hid (upTo_in (f := FA) hpN)
          have hs3 : upTo FA NN (p + 1) ≤ 800000000000000000 := by have := (hsum.out (min (p + 1) NN) (by omega)).1; exact this
          have hs4 : upTo FB NN (p + 1) ≤ 800000000000000000 := by have := (hsum.out (min (p + 1) NN) (by omega)).2; exact this
          rw [e1.out] at hs4
          rw [e2.out] at hs3
          have hlp := hle.out p
          have hcl := Lib.hid (hat.out W4 p Hrc4.out (by omega) (FB p) (FA p) true (.inl ⟨hps, rfl, rfl, rfl⟩))
          generalize FB p = B1 at *
          generalize FA p = A1 at *
          generalize upTo FB NN p = UB at *
          generalize upTo FA NN p = UA at *
          have hx1 : ¬ ((A1 : Int) < (B1 : Int)) := by omega
          have hx2 : ¬ ((B1 : Int) < 0) := by omega
          clear hps hpi
          go_wp2_with fail
          refine (Calls.mono hcl.out ?_)
          rintro e w5 ⟨rfl, hb5⟩
          have hb5x := bheap hb5 Hb4.out
          have hbl5 := Lib.hid (hbl.out.trans (hb5.mono hbl.out.size))
          clear c0 c1 c2 c3 c4 c5
          have c5 := heap_cell hb5x (i := 5) rfl
          clear hb5 hb5x
          go_wp2
          go_roundw
          case rel => exact ⟨p + 1, by omega, by go_num, by rw [e1.out]; go_num, by rw [e2.out]; go_num, hbl5⟩
          case measure => simp [intOf]; omega
        · exfalso; omega
      · have hpN : NN ≤ p := by have := hNP.out; omega
        have e1 := upTo_all (f := FB) hpN
        have e2 := upTo_all (f := FA) hpN
        rw [e1, e2]
        generalize sumN NN FB = UB at *
        generalize sumN NN FA = UA at *
        have hq1 : ((UB : Int) == (UB : Int)) = true := by simp
        have hq2 : ((UA : Int) == (UA : Int)) = true := by simp
        have hbe := Lib.hid (show Below w.heap.size w W4 from Hb3.out.trans (hbl.out.mono Hb3.out.size))
        clear e1 e2 hs1' hs2'
        go_wp2
        go_ret
        exact ⟨rfl, hbe.out⟩
  · go_wp2_with fail
    refine (Calls.mono hin.out ?_)
    rintro e w3 ⟨rfl, hb3⟩
    have Hbx3 := Lib.hid (bheap hb3 Hbx.out)
    have Hb3 := Lib.hid (Hb2.out.trans (hb3.mono Hb2.out.size))
    have Hrc3 := Lib.hid (RdC.ok.keep Hrc2.out fun k hk => hb3.block k (by have : k < w1.heap.size := hk; omega))
    have hz3 := hb3.size
    clear hb3 hin c0 c1 c2 c3 c4 c5
    obtain rfl : SZ = 2 := HSZ.out.symm
    go_wp2_with fail
    go_loopw [11, 12, 13] (fun mv av pv wr => ∃ p : Nat, p ≤ NP ∧ pv = .int .i64 p ∧ mv = .int .i64 ((upTo FB NN p : Nat) : Int) ∧ av = .int .i64 ((upTo FA NN p : Nat) : Int) ∧ Hid (Below w3.heap.size w3 wr)) (fun _ _ pv _ => NP - (intOf pv).toNat)
    case atStart => exact ⟨0, Nat.zero_le _, rfl, by rw [upTo_zero]; rfl, by rw [upTo_zero]; rfl, Lib.hid (Below.refl _ _)⟩
    case round =>
      obtain ⟨p, hp, rfl, rfl, rfl, hbl⟩ := hrel
      obtain ⟨W4, rfl⟩ : ∃ W, W = wr := ⟨_, rfl⟩
      have hb4 := bheap hbl.out Hbx3.out
      have hz4 := hbl.out.size
      have hn4 := heap_lt hb4
      have c0 := heap_cell hb4 (i := 0) rfl
      have c1 := heap_cell hb4 (i := 1) rfl
      have c2 := heap_cell hb4 (i := 2) rfl
      have c3 := heap_cell hb4 (i := 3) rfl
      have c4 := heap_cell hb4 (i := 4) rfl
      have c5 := heap_cell hb4 (i := 5) rfl
      have Hrc4 := Lib.hid (RdC.ok.keep Hrc3.out fun k hk => hbl.out.block k (by have : k < w1.heap.size := hk; omega))
      have Hb4 := Lib.hid hb4
      clear hb4
      have hs1 := (hsum.out (min p NN) (by omega)).1
      have hs2 := (hsum.out (min p NN) (by omega)).2
      have hs1' : upTo FA NN p ≤ 800000000000000000 := hs1
      have hs2' : upTo FB NN p ≤ 800000000000000000 := hs2
      clear hs1 hs2
      by_cases hpn : p < NP
      · have hpn2 : (p : Int) < (NP : Int) := by omega
        by_cases hps : p + 2 ≤ NP
        · have hpi : (p : Int) + 2 ≤ (NP : Int) := by omega
          have hpN : p < NN := by have := hNP.out; omega
          have e1 := Lib.hid (upTo_in (f := FB) hpN)
          have e2 := Lib.hid (upTo_in (f := FA) hpN)
          have hs3 : upTo FA NN (p + 1) ≤ 800000000000000000 := by have := (hsum.out (min (p + 1) NN) (by omega)).1; exact this
          have hs4 : upTo FB NN (p + 1) ≤ 800000000000000000 := by have := (hsum.out (min (p + 1) NN) (by omega)).2; exact this
          rw [e1.out] at hs4
          rw [e2.out] at hs3
          have hlp := hle.out p
          have hcl := Lib.hid (hat.out W4 p Hrc4.out (by omega) (FB p) (FA p) true (.inl ⟨hps, rfl, rfl, rfl⟩))
          generalize FB p = B1 at *
          generalize FA p = A1 at *
          generalize upTo FB NN p = UB at *
          generalize upTo FA NN p = UA at *
          have hx1 : ¬ ((A1 : Int) < (B1 : Int)) := by omega
          have hx2 : ¬ ((B1 : Int) < 0) := by omega
          go_wp2_with fail
          refine (Calls.mono hcl.out ?_)
          rintro e w5 ⟨rfl, hb5⟩
          have hb5x := bheap hb5 Hb4.out
          have hbl5 := Lib.hid (hbl.out.trans (hb5.mono hbl.out.size))
          clear c0 c1 c2 c3 c4 c5
          have c5 := heap_cell hb5x (i := 5) rfl
          clear hb5 hb5x
          go_wp2
          go_roundw
          case rel => exact ⟨p + 1, by omega, by go_num, by rw [e1.out]; go_num, by rw [e2.out]; go_num, hbl5⟩
          case measure => simp [intOf]; omega
        · have hpi : ¬ ((p : Int) + 2 ≤ (NP : Int)) := by omega
          have hpN : NN ≤ p := by have := hNP.out; omega
          have e1 := Lib.hid (upTo_out (f := FB) hpN)
          have e2 := Lib.hid (upTo_out (f := FA) hpN)
          have hcl := Lib.hid (hat.out W4 p Hrc4.out (by omega) 0 0 false (.inr ⟨hps, rfl, rfl, rfl⟩))
          generalize upTo FB NN p = UB at *
          generalize upTo FA NN p = UA at *
          go_wp2_with fail
          refine (Calls.mono hcl.out ?_)
          rintro e w5 ⟨rfl, hb5⟩
          have hb5x := bheap hb5 Hb4.out
          have hbl5 := Lib.hid (hbl.out.trans (hb5.mono hbl.out.size))
          clear c0 c1 c2 c3 c4 c5
          have c5 := heap_cell hb5x (i := 5) rfl
          clear hb5 hb5x
          go_wp2
          go_roundw
          case rel => exact ⟨p + 1, by omega, by go_num, by first | (rw [e1.out]; done) | (rw [e1.out]; simp), by first | (rw [e2.out]; done) | (rw [e2.out]; simp), hbl5⟩
          case measure => simp [intOf]; omega
      · have hpN : NN ≤ p := by have := hNP.out; omega
        have e1 := upTo_all (f := FB) hpN
        have e2 := upTo_all (f := FA) hpN
        rw [e1, e2]
        generalize sumN NN FB = UB at *
        generalize sumN NN FA = UA at *
        have hq1 : ((UB : Int) == (UB : Int)) = true := by simp
        have hq2 : ((UA : Int) == (UA : Int)) = true := by simp
        have hbe := Lib.hid (show Below w.heap.size w W4 from Hb3.out.trans (hbl.out.mono Hb3.out.size))
        clear e1 e2 hs1' hs2'
        go_wp2
        go_ret
        exact ⟨rfl, hbe.out⟩
  · go_wp2_with fail
    refine (Calls.mono hin.out ?_)
    rintro e w3 ⟨rfl, hb3⟩
    have Hbx3 := Lib.hid (bheap hb3 Hbx.out)
    have Hb3 := Lib.hid (Hb2.out.trans (hb3.mono Hb2.out.size))
    have Hrc3 := Lib.hid (RdC.ok.keep Hrc2.out fun k hk => hb3.block k (by have : k < w1.heap.size := hk; omega))
    have hz3 := hb3.size
    clear hb3 hin c0 c1 c2 c3 c4 c5
    obtain rfl : SZ = 3 := HSZ.out.symm
    go_wp2_with fail
    go_loopw [11, 12, 13] (fun mv av pv wr => ∃ p : Nat, p ≤ NP ∧ pv = .int .i64 p ∧ mv = .int .i64 ((upTo FB NN p : Nat) : Int) ∧ av = .int .i64 ((upTo FA NN p : Nat) : Int) ∧ Hid (Below w3.heap.size w3 wr)) (fun _ _ pv _ => NP - (intOf pv).toNat)
    case atStart => exact ⟨0, Nat.zero_le _, rfl, by rw [upTo_zero]; rfl, by rw [upTo_zero]; rfl, Lib.hid (Below.refl _ _)⟩
    case round =>
      obtain ⟨p, hp, rfl, rfl, rfl, hbl⟩ := hrel
      obtain ⟨W4, rfl⟩ : ∃ W, W = wr := ⟨_, rfl⟩
      have hb4 := bheap hbl.out Hbx3.out
      have hz4 := hbl.out.size
      have hn4 := heap_lt hb4
      have c0 := heap_cell hb4 (i := 0) rfl
      have c1 := heap_cell hb4 (i := 1) rfl
      have c2 := heap_cell hb4 (i := 2) rfl
      have c3 := heap_cell hb4 (i := 3) rfl
      have c4 := heap_cell hb4 (i := 4) rfl
      have c5 := heap_cell hb4 (i := 5) rfl
      have Hrc4 := Lib.hid (RdC.ok.keep Hrc3.out fun k hk => hbl.out.block k (by have : k < w1.heap.size := hk; omega))
      have Hb4 := Lib.hid hb4
      clear hb4
      have hs1 := (hsum.out (min p NN) (by omega)).1
      have hs2 := (hsum.out (min p NN) (by omega)).2
      have hs1' : upTo FA NN p ≤ 800000000000000000 := hs1
      have hs2' : upTo FB NN p ≤ 800000000000000000 := hs2
      clear hs1 hs2
      by_cases hpn : p < NP
      · have hpn2 : (p : Int) < (NP : Int) := by omega
        by_cases hps : p + 3 ≤ NP
        · have hpi : (p : Int) + 3 ≤ (NP : Int) := by omega
          have hpN : p < NN := by have := hNP.out; omega
          have e1 := Lib.hid (upTo_in (f := FB) hpN)
          have e2 := Lib.hid (upTo_in (f := FA) hpN)
          have hs3 : upTo FA NN (p + 1) ≤ 800000000000000000 := by have := (hsum.out (min (p + 1) NN) (by omega)).1; exact this
          have hs4 : upTo FB NN (p + 1) ≤ 800000000000000000 := by have := (hsum.out (min (p + 1) NN) (by omega)).2; exact this
          rw [e1.out] at hs4
          rw [e2.out] at hs3
          have hlp := hle.out p
          have hcl := Lib.hid (hat.out W4 p Hrc4.out (by omega) (FB p) (FA p) true (.inl ⟨hps, rfl, rfl, rfl⟩))
          generalize FB p = B1 at *
          generalize FA p = A1 at *
          generalize upTo FB NN p = UB at *
          generalize upTo FA NN p = UA at *
          have hx1 : ¬ ((A1 : Int) < (B1 : Int)) := by omega
          have hx2 : ¬ ((B1 : Int) < 0) := by omega
          go_wp2_with fail
          refine (Calls.mono hcl.out ?_)
          rintro e w5 ⟨rfl, hb5⟩
          have hb5x := bheap hb5 Hb4.out
          have hbl5 := Lib.hid (hbl.out.trans (hb5.mono hbl.out.size))
          clear c0 c1 c2 c3 c4 c5
          have c5 := heap_cell hb5x (i := 5) rfl
          clear hb5 hb5x
          go_wp2
          go_roundw
          case rel => exact ⟨p + 1, by omega, by go_num, by rw [e1.out]; go_num, by rw [e2.out]; go_num, hbl5⟩
          case measure => simp [intOf]; omega
        · have hpi : ¬ ((p : Int) + 3 ≤ (NP : Int)) := by omega
          have hpN : NN ≤ p := by have := hNP.out; omega
          have e1 := Lib.hid (upTo_out (f := FB) hpN)
          have e2 := Lib.hid (upTo_out (f := FA) hpN)
          have hcl := Lib.hid (hat.out W4 p Hrc4.out (by omega) 0 0 false (.inr ⟨hps, rfl, rfl, rfl⟩))
          generalize upTo FB NN p = UB at *
          generalize upTo FA NN p = UA at *
          go_wp2_with fail
          refine (Calls.mono hcl.out ?_)
          rintro e w5 ⟨rfl, hb5⟩
          have hb5x := bheap hb5 Hb4.out
          have hbl5 := Lib.hid (hbl.out.trans (hb5.mono hbl.out.size))
          clear c0 c1 c2 c3 c4 c5
          have c5 := heap_cell hb5x (i := 5) rfl
          clear hb5 hb5x
          go_wp2
          go_roundw
          case rel => exact ⟨p + 1, by omega, by go_num, by first | (rw [e1.out]; done) | (rw [e1.out]; simp), by first | (rw [e2.out]; done) | (rw [e2.out]; simp), hbl5⟩
          case measure => simp [intOf]; omega
      · have hpN : NN ≤ p := by have := hNP.out; omega
        have e1 := upTo_all (f := FB) hpN
        have e2 := upTo_all (f := FA) hpN
        rw [e1, e2]
        generalize sumN NN FB = UB at *
        generalize sumN NN FA = UA at *
        have hq1 : ((UB : Int) == (UB : Int)) = true := by simp
        have hq2 : ((UA : Int) == (UA : Int)) = true := by simp
        have hbe := Lib.hid (show Below w.heap.size w W4 from Hb3.out.trans (hbl.out.mono Hb3.out.size))
        clear e1 e2 hs1' hs2'
        go_wp2
        go_ret
        exact ⟨rfl, hbe.out⟩
  · go_wp2_with fail
    refine (Calls.mono hin.out ?_)
    rintro e w3 ⟨rfl, hb3⟩
    have Hbx3 := Lib.hid (bheap hb3 Hbx.out)
    have Hb3 := Lib.hid (Hb2.out.trans (hb3.mono Hb2.out.size))
    have Hrc3 := Lib.hid (RdC.ok.keep Hrc2.out fun k hk => hb3.block k (by have : k < w1.heap.size := hk; omega))
    have hz3 := hb3.size
    clear hb3 hin c0 c1 c2 c3 c4 c5
    obtain rfl : SZ = 2 := HSZ.out.symm
    go_wp2_with fail
    go_loopw [11, 12, 13] (fun mv av pv wr => ∃ p : Nat, p ≤ NP ∧ pv = .int .i64 p ∧ mv = .int .i64 ((upTo FB NN p : Nat) : Int) ∧ av = .int .i64 ((upTo FA NN p : Nat) : Int) ∧ Hid (Below w3.heap.size w3 wr)) (fun _ _ pv _ => NP - (intOf pv).toNat)
    case atStart => exact ⟨0, Nat.zero_le _, rfl, by rw [upTo_zero]; rfl, by rw [upTo_zero]; rfl, Lib.hid (Below.refl _ _)⟩
    case round =>
      obtain ⟨p, hp, rfl, rfl, rfl, hbl⟩ := hrel
      obtain ⟨W4, rfl⟩ : ∃ W, W = wr := ⟨_, rfl⟩
      have hb4 := bheap hbl.out Hbx3.out
      have hz4 := hbl.out.size
      have hn4 := heap_lt hb4
      have c0 := heap_cell hb4 (i := 0) rfl
      have c1 := heap_cell hb4 (i := 1) rfl
      have c2 := heap_cell hb4 (i := 2) rfl
      have c3 := heap_cell hb4 (i := 3) rfl
      have c4 := heap_cell hb4 (i := 4) rfl
      have c5 := heap_cell hb4 (i := 5) rfl
      have Hrc4 := Lib.hid (RdC.ok.keep Hrc3.out fun k hk => hbl.out.block k (by have : k < w1.heap.size := hk; omega))
      have Hb4 := Lib.hid hb4
      clear hb4
      have hs1 := (hsum.out (min p NN) (by omega)).1
      have hs2 := (hsum.out (min p NN) (by omega)).2
      have hs1' : upTo FA NN p ≤ 800000000000000000 := hs1
      have hs2' : upTo FB NN p ≤ 800000000000000000 := hs2
      clear hs1 hs2
      by_cases hpn : p < NP
      · have hpn2 : (p : Int) < (NP : Int) := by omega
        by_cases hps : p + 2 ≤ NP
        · have hpi : (p : Int) + 2 ≤ (NP : Int) := by omega
          have hpN : p < NN := by have := hNP.out; omega
          have e1 := Lib.hid (upTo_in (f := FB) hpN)
          have e2 := Lib.hid (upTo_in (f := FA) hpN)
          have hs3 : upTo FA NN (p + 1) ≤ 800000000000000000 := by have := (hsum.out (min (p + 1) NN) (by omega)).1; exact this
          have hs4 : upTo FB NN (p + 1) ≤ 800000000000000000 := by have := (hsum.out (min (p + 1) NN) (by omega)).2; exact this
          rw [e1.out] at hs4
          rw [e2.out] at hs3
          have hlp := hle.out p
          have hcl := Lib.hid (hat.out W4 p Hrc4.out (by omega) (FB p) (FA p) true (.inl ⟨hps, rfl, rfl, rfl⟩))
          generalize FB p = B1 at *
          generalize FA p = A1 at *
          generalize upTo FB NN p = UB at *
          generalize upTo FA NN p = UA at *
          have hx1 : ¬ ((A1 : Int) < (B1 : Int)) := by omega
          have hx2 : ¬ ((B1 : Int) < 0) := by omega
          go_wp2_with fail
          refine (Calls.mono hcl.out ?_)
          rintro e w5 ⟨rfl, hb5⟩
          have hb5x := bheap hb5 Hb4.out
          have hbl5 := Lib.hid (hbl.out.trans (hb5.mono hbl.out.size))
          clear c0 c1 c2 c3 c4 c5
          have c5 := heap_cell hb5x (i := 5) rfl
          clear hb5 hb5x
          go_wp2
          go_roundw
          case rel => exact ⟨p + 1, by omega, by go_num, by rw [e1.out]; go_num, by rw [e2.out]; go_num, hbl5⟩
          case measure => simp [intOf]; omega
        · have hpi : ¬ ((p : Int) + 2 ≤ (NP : Int)) := by omega
          have hpN : NN ≤ p := by have := hNP.out; omega
          have e1 := Lib.hid (upTo_out (f := FB) hpN)
          have e2 := Lib.hid (upTo_out (f := FA) hpN)
          have hcl := Lib.hid (hat.out W4 p Hrc4.out (by omega) 0 0 false (.inr ⟨hps, rfl, rfl, rfl⟩))
          generalize upTo FB NN p = UB at *
          generalize upTo FA NN p = UA at *
          go_wp2_with fail
          refine (Calls.mono hcl.out ?_)
          rintro e w5 ⟨rfl, hb5⟩
          have hb5x := bheap hb5 Hb4.out
          have hbl5 := Lib.hid (hbl.out.trans (hb5.mono hbl.out.size))
          clear c0 c1 c2 c3 c4 c5
          have c5 := heap_cell hb5x (i := 5) rfl
          clear hb5 hb5x
          go_wp2
          go_roundw
          case rel => exact ⟨p + 1, by omega, by go_num, by first | (rw [e1.out]; done) | (rw [e1.out]; simp), by first | (rw [e2.out]; done) | (rw [e2.out]; simp), hbl5⟩
          case measure => simp [intOf]; omega
      · have hpN : NN ≤ p := by have := hNP.out; omega
        have e1 := upTo_all (f := FB) hpN
        have e2 := upTo_all (f := FA) hpN
        rw [e1, e2]
        generalize sumN NN FB = UB at *
        generalize sumN NN FA = UA at *
        have hq1 : ((UB : Int) == (UB : Int)) = true := by simp
        have hq2 : ((UA : Int) == (UA : Int)) = true := by simp
        have hbe := Lib.hid (show Below w.heap.size w W4 from Hb3.out.trans (hbl.out.mono Hb3.out.size))
        clear e1 e2 hs1' hs2'
        go_wp2
        go_ret
        exact ⟨rfl, hbe.out⟩
  · go_wp2_with fail
    refine (Calls.mono hin.out ?_)
    rintro e w3 ⟨rfl, hb3⟩
    have Hbx3 := Lib.hid (bheap hb3 Hbx.out)
    have Hb3 := Lib.hid (Hb2.out.trans (hb3.mono Hb2.out.size))
    have Hrc3 := Lib.hid (RdC.ok.keep Hrc2.out fun k hk => hb3.block k (by have : k < w1.heap.size := hk; omega))
    have hz3 := hb3.size
    clear hb3 hin c0 c1 c2 c3 c4 c5
    obtain rfl : SZ = 3 := HSZ.out.symm
    go_wp2_with fail
    go_loopw [11, 12, 13] (fun mv av pv wr => ∃ p : Nat, p ≤ NP ∧ pv = .int .i64 p ∧ mv = .int .i64 ((upTo FB NN p : Nat) : Int) ∧ av = .int .i64 ((upTo FA NN p : Nat) : Int) ∧ Hid (Below w3.heap.size w3 wr)) (fun _ _ pv _ => NP - (intOf pv).toNat)
    case atStart => exact ⟨0, Nat.zero_le _, rfl, by rw [upTo_zero]; rfl, by rw [upTo_zero]; rfl, Lib.hid (Below.refl _ _)⟩
    case round =>
      obtain ⟨p, hp, rfl, rfl, rfl, hbl⟩ := hrel
      obtain ⟨W4, rfl⟩ : ∃ W, W = wr := ⟨_, rfl⟩
      have hb4 := bheap hbl.out Hbx3.out
      have hz4 := hbl.out.size
      have hn4 := heap_lt hb4
      have c0 := heap_cell hb4 (i := 0) rfl
      have c1 := heap_cell hb4 (i := 1) rfl
      have c2 := heap_cell hb4 (i := 2) rfl
      have c3 := heap_cell hb4 (i := 3) rfl
      have c4 := heap_cell hb4 (i := 4) rfl
      have c5 := heap_cell hb4 (i := 5) rfl
      have Hrc4 := Lib.hid (RdC.ok.keep Hrc3.out fun k hk => hbl.out.block k (by have : k < w1.heap.size := hk; omega))
      have Hb4 := Lib.hid hb4
      clear hb4
      have hs1 := (hsum.out (min p NN) (by omega)).1
      have hs2 := (hsum.out (min p NN) (by omega)).2
      have hs1' : upTo FA NN p ≤ 800000000000000000 := hs1
      have hs2' : upTo FB NN p ≤ 800000000000000000 := hs2
      clear hs1 hs2
      by_cases hpn : p < NP
      · have hpn2 : (p : Int) < (NP : Int) := by omega
        by_cases hps : p + 3 ≤ NP
        · have hpi : (p : Int) + 3 ≤ (NP : Int) := by omega
          have hpN : p < NN := by have := hNP.out; omega
          have e1 := Lib.hid (upTo_in (f := FB) hpN)
          have e2 := Lib.hid (upTo_in (f := FA) hpN)
          have hs3 : upTo FA NN (p + 1) ≤ 800000000000000000 := by have := (hsum.out (min (p + 1) NN) (by omega)).1; exact this
          have hs4 : upTo FB NN (p + 1) ≤ 800000000000000000 := by have := (hsum.out (min (p + 1) NN) (by omega)).2; exact this
          rw [e1.out] at hs4
          rw [e2.out] at hs3
          have hlp := hle.out p
          have hcl := Lib.hid (hat.out W4 p Hrc4.out (by omega) (FB p) (FA p) true (.inl ⟨hps, rfl, rfl, rfl⟩))
          generalize FB p = B1 at *
          generalize FA p = A1 at *
          generalize upTo FB NN p = UB at *
          generalize upTo FA NN p = UA at *
          have hx1 : ¬ ((A1 : Int) < (B1 : Int)) := by omega
          have hx2 : ¬ ((B1 : Int) < 0) := by omega
          go_wp2_with fail
          refine (Calls.mono hcl.out ?_)
          rintro e w5 ⟨rfl, hb5⟩
          have hb5x := bheap hb5 Hb4.out
          have hbl5 := Lib.hid (hbl.out.trans (hb5.mono hbl.out.size))
          clear c0 c1 c2 c3 c4 c5
          have c5 := heap_cell hb5x (i := 5) rfl
          clear hb5 hb5x
          go_wp2
          go_roundw
          case rel => exact ⟨p + 1, by omega, by go_num, by rw [e1.out]; go_num, by rw [e2.out]; go_num, hbl5⟩
          case measure => simp [intOf]; omega
        · have hpi : ¬ ((p : Int) + 3 ≤ (NP : Int)) := by omega
          have hpN : NN ≤ p := by have := hNP.out; omega
          have e1 := Lib.hid (upTo_out (f := FB) hpN)
          have e2 := Lib.hid (upTo_out (f := FA) hpN)
          have hcl := Lib.hid (hat.out W4 p Hrc4.out (by omega) 0 0 false (.inr ⟨hps, rfl, rfl, rfl⟩))
          generalize upTo FB NN p = UB at *
          generalize upTo FA NN p = UA at *
          go_wp2_with fail
          refine (Calls.mono hcl.out ?_)
          rintro e w5 ⟨rfl, hb5⟩
          have hb5x := bheap hb5 Hb4.out
          have hbl5 := Lib.hid (hbl.out.trans (hb5.mono hbl.out.size))
          clear c0 c1 c2 c3 c4 c5
          have c5 := heap_cell hb5x (i := 5) rfl
          clear hb5 hb5x
          go_wp2
          go_roundw
          case rel => exact ⟨p + 1, by omega, by go_num, by first | (rw [e1.out]; done) | (rw [e1.out]; simp), by first | (rw [e2.out]; done) | (rw [e2.out]; simp), hbl5⟩
          case measure => simp [intOf]; omega
      · have hpN : NN ≤ p := by have := hNP.out; omega
        have e1 := upTo_all (f := FB) hpN
        have e2 := upTo_all (f := FA) hpN
        rw [e1, e2]
        generalize sumN NN FB = UB at *
        generalize sumN NN FA = UA at *
        have hq1 : ((UB : Int) == (UB : Int)) = true := by simp
        have hq2 : ((UA : Int) == (UA : Int)) = true := by simp
        have hbe := Lib.hid (show Below w.heap.size w W4 from Hb3.out.trans (hbl.out.mono Hb3.out.size))
        clear e1 e2 hs1' hs2'
        go_wp2
        go_ret
        exact ⟨rfl, hbe.out⟩
end Go.Proofs.Ytnpkanlieflbiaa
