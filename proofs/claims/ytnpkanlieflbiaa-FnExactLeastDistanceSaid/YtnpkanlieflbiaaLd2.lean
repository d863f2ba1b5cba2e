/- The least distance: the reference's search, walked. Printed by gen_ld2.py. -/
import Derived.Test.YtnpkanlieflbiaaLd1
import Derived.Test.YtnpkanlieflbiaaD4
import Derived.Test.YtnpkanlieflbiaaF1
import Derived.Test.YtnpkanlieflbiaaB1
import Derived.Deep.RegionHeld3
import Derived.StillTailTactics
import Derived.Deep.QuietTactic
import Derived.BigQuiet
import Derived.IntWalk
namespace Go.Proofs.Ytnpkanlieflbiaa
open Go.RowKit
set_option linter.unusedVariables false

set_option maxHeartbeats 6400000 in
set_option maxRecDepth 100000 in
theorem specLeastDistance {B : Nat} {v : Value} {x : Chn} {w : World} (h : RdC (· < B) w v x) (hB : B ≤ w.heap.size) :
    Calls Try.prog 53 #[v] w fun e w' => e = .returned (.tuple #[.int .i64 (dV x), .bool (dOk x)]) ∧ Below w.heap.size w w' := by
  obtain ⟨u, p, rfl, hu, hp⟩ := h
  obtain ⟨a, c, rfl, h1, h2⟩ := hu.isSlice
  obtain ⟨a', c', rfl, h3, h4⟩ := hp.isSlice
  have hbx := Lib.hid ((Below.refl w.heap.size w).alloc (Nat.le_refl _) (.cells #[.int .i64 x.base, .int .i64 x.states, .int .i64 x.start, .int .i64 x.stop, .slice a x.tables.length c, .slice a' x.places.length c'] 28))
  have Hbx := Lib.hid (BoxC.boxed hu hp hB); clear hu hp
  have hsz := Lib.hid (alloc_size w (.cells #[.int .i64 x.base, .int .i64 x.states, .int .i64 x.start, .int .i64 x.stop, .slice a x.tables.length c, .slice a' x.places.length c'] 28))
  unfold aggC
  unfold maxLen at h2 h4
  cases hv : vC x
  · have hr := Lib.hid (d_inv hv)
    have Hv := Lib.hid hv; clear hv
    go_enter Try.func53, Try.ntmps53
    go_wp2_with fail
    refine (specL02Is Hbx.out _ Hv.out).mono ?_
    rintro e w1 ⟨rfl, m, rfl⟩
    go_wp2
    go_ret2
    exact ⟨by rw [hr.out.1, hr.out.2]; rfl, Below.draws hbx.out _⟩
  have hvc := vC_iff.1 hv
  have hnat := hvc.nat
  have Hv := Lib.hid hvc
  have Hv' := Lib.hid hv
  clear hv hvc
  obtain ⟨NS, hNS⟩ : ∃ n : Nat, n = x.S := ⟨_, rfl⟩
  obtain ⟨NB, hNB⟩ : ∃ n : Nat, n = x.b := ⟨_, rfl⟩
  obtain ⟨NE, hNE⟩ : ∃ n : Nat, n = x.stop.toNat := ⟨_, rfl⟩
  obtain ⟨N0, hN0⟩ : ∃ n : Nat, n = x.start.toNat := ⟨_, rfl⟩
  rw [← hNS, ← hNB, ← hNE, ← hN0] at hnat
  obtain ⟨SI, hSI⟩ : ∃ z : Int, z = x.states := ⟨_, rfl⟩
  obtain ⟨BI, hBI⟩ : ∃ z : Int, z = x.base := ⟨_, rfl⟩
  obtain ⟨EI, hEI⟩ : ∃ z : Int, z = x.stop := ⟨_, rfl⟩
  obtain ⟨I0, hI0⟩ : ∃ z : Int, z = x.start := ⟨_, rfl⟩
  have eS : SI = (NS : Int) := by have := Hv.out.states; rw [hNS, hSI]; show x.states = (x.states.toNat : Int); omega
  have eB : BI = (NB : Int) := by have := Hv.out.base; rw [hNB, hBI]; show x.base = (x.base.toNat : Int); omega
  have eE : EI = (NE : Int) := by have := Hv.out.stop; rw [hNE, hEI]; omega
  have e0 : I0 = (N0 : Int) := by have := Hv.out.start; rw [hN0, hI0]; omega
  rw [← hSI, ← hBI, ← hEI, ← hI0] at hbx Hbx hsz ⊢
  have HNS := Lib.hid hNS; have HNB := Lib.hid hNB; have HNE := Lib.hid hNE; have HN0 := Lib.hid hN0
  have HES := Lib.hid eS
  have hS1 : SI ≤ (NS : Int) := by omega
  have hS2 : (NS : Int) ≤ SI := by omega
  have hB1 : BI ≤ (NB : Int) := by omega
  have hB2 : (NB : Int) ≤ BI := by omega
  have hE1 : EI ≤ (NE : Int) := by omega
  have hE2 : (NE : Int) ≤ EI := by omega
  have h01 : I0 ≤ (N0 : Int) := by omega
  have h02 : (N0 : Int) ≤ I0 := by omega
  have i00 : 0 ≤ I0 := by omega
  have i01 : I0 < (NS : Int) := by omega
  have i02 : 0 ≤ EI := by omega
  have tE : EI.toNat = NE := by omega
  have t0 : I0.toNat = N0 := by omega
  obtain ⟨M2, hM2⟩ : ∃ n : Nat, n = NS * NS := ⟨_, rfl⟩
  have hM2b : M2 ≤ 1296 := by
    have := Nat.mul_le_mul hnat.2.1.2 hnat.2.1.2
    omega
  have HM2 := Lib.hid hM2
  have m1 : SI * SI = (M2 : Int) := by rw [eS, hM2, Int.natCast_mul]
  have wM2 : wrap64 (SI * SI) = (M2 : Int) := by rw [m1]; exact IntWalk.wrap64_in _ (by omega)
  have hmul := Lib.hid (fun (s t : Nat) (z : Int) (hz : z = (s : Int)) (hs : s < NS) (ht : t < NS) => (show ∃ q : Nat, q = s * NS ∧ q + t < M2 ∧ z * SI = (q : Int) from
    ⟨s * NS, rfl, by rw [hM2]; exact pair_ltL hs ht, by rw [hz, eS, Int.natCast_mul]⟩))
  have Hm1 := Lib.hid m1
  clear hNS hNB hNE hN0 hSI hBI hEI hI0 eS eB eE e0 hM2 m1
  have hmk := run_make_row' (P := Try.prog) 22 2 (.int .i64 0) 8 Try.underlying22 infoI64 rfl .i64 .i64 M2 (by omega) (by omega)
  have hmkb := run_make_row' (P := Try.prog) 126 4 (.bool false) 1 Try.underlying126 infoBo rfl .i64 .i64 NS (by omega) (by omega)
  rw [← HES.out] at hmkb
  obtain ⟨NP, hNP⟩ : ∃ n : Nat, n = x.places.length := ⟨_, rfl⟩
  simp only [Chn.n] at hnat
  rw [← hNP] at hbx Hbx hsz hnat h3
  have HNP := Lib.hid hNP
  obtain ⟨FA, hFA⟩ : ∃ z : Int, (NP : Int) + 1 = z := ⟨_, rfl⟩
  have hFA1 : 2 ≤ FA ∧ FA ≤ 21 := by omega
  have HFA := Lib.hid hFA
  rw [← hNP]
  clear hNP
  go_enter Try.func53, Try.ntmps53
  go_wp2_with fail
  refine (specL02Is Hbx.out _ Hv'.out).mono ?_
  rintro e w1 ⟨rfl, m, hw1⟩
  have Hb1 := Lib.hid (show BoxC (· < B) w1 w.heap.size x by rw [← hw1]; exact (Hbx.out.draws m))
  have Hbel1 := Lib.hid (show Below w.heap.size w w1 by rw [← hw1]; exact Below.draws hbx.out m)
  have hlt1 : w.heap.size < w1.heap.size := by rw [← hw1]; show w.heap.size < (World.alloc _ _).heap.size; rw [hsz.out]; omega
  have Hx1 := Lib.hid (show w1.heap[w.heap.size]? = some (.cells #[.int .i64 BI, .int .i64 SI, .int .i64 I0, .int .i64 EI, .slice a x.tables.length c, .slice a' NP c'] 28 (0, 0)) by rw [← hw1]; exact heap_alloc_new w _)
  have Hl0 := Lib.hid (show Fresh OI w1 (w1.alloc (.cells (madeCells #[.int .i64 0] M2) 2)) (.slice (some ⟨w1.heap.size, 0, none⟩) M2 M2) (fillL M2 FA 0) by rw [fillL_zero]; exact Fresh.made (Below.refl _ _) 2 fI 0 M2 (by unfold maxLen; omega))
  have b1 := heap_cell Hx1.out (i := 1) rfl
  have b5 := heap_cell Hx1.out (i := 5) rfl
  clear hw1 hbx Hbx hsz
  go_wp2
  simp only [wM2]
  clear hFA wM2 b1 b5
  go_loopw [7] (fun iv wr => ∃ k : Nat, k ≤ M2 ∧ iv = .int .i64 k ∧ Hid (Fresh OI w1 wr (.slice (some ⟨w1.heap.size, 0, none⟩) M2 M2) (fillL M2 FA k))) (fun iv _ => M2 - (intOf iv).toNat)
  case atStart => exact ⟨0, Nat.zero_le _, rfl, Hl0⟩
  case round =>
    clear Hl0
    obtain ⟨k, hk, rfl, hf⟩ := hrel
    obtain ⟨W2, rfl⟩ : ∃ W2, W2 = wr := ⟨_, rfl⟩
    by_cases hlt : k < M2
    · obtain ⟨q0, q1, q2, q3, q4⟩ := hf.out.put1 (fun _ => rfl) (i := k) (by rw [fillL_len FA hk]; exact hlt)
      have hp := q4 W2 (Below.refl _ _) FA
      rw [fillL_succ FA hlt] at hp
      have Hp := Lib.hid hp
      clear hp q4 hf
      go_wp2
      go_roundw
      case rel => exact ⟨k + 1, by omega, by go_num, Hp⟩
      case measure => simp [intOf]; omega
    obtain ⟨hkM⟩ : Nonempty (k = M2) := ⟨by omega⟩
    rw [hkM, fillL_all] at hf
    have Hx2 := Lib.hid (below_heap hf.out.bel Hx1.out)
    have hlt2 : w.heap.size < W2.heap.size := heap_lt Hx2.out
    have b1 := heap_cell Hx2.out (i := 1) rfl
    have b2 := heap_cell Hx2.out (i := 2) rfl
    have hd0 := D2.start hf.out (M := NS) (by unfold maxLen; omega)
    have hd1 := Lib.hid (show D2 w1 (W2.alloc (.cells ((madeCells #[.bool false] NS).setIfInBounds N0 (.bool true)) 4)) w1.heap.size W2.heap.size M2 NS (dsAt x 0) from by
      have h := hd0.putS (Below.refl _ _) (i := N0) (by omega) true
      have e : dsAt x 0 = ⟨List.replicate M2 FA, (List.replicate NS false).set N0 true⟩ := by
        unfold dsAt
        rw [HM2.out, HNS.out, HN0.out, ← HFA.out, HNP.out]; rfl
      rw [e]
      simpa [go_sem] using h)
    have hmc : (madeCells #[Value.bool false] NS)[N0]? = some (.bool false) := by
      have : N0 < NS := by omega
      simp [madeCells, this, Nat.mod_one]
    clear hd0 hf hkM
    go_wp2
    clear b1 b2 hmc
    go_loopw [6, 8, 9] (fun lv ev iv wr => ∃ (k gl ge : Nat) (st : DSr), k ≤ NP ∧ iv = .int .i64 k ∧ lv = .slice (some ⟨gl, 0, none⟩) M2 M2 ∧ ev = .slice (some ⟨ge, 0, none⟩) NS NS ∧ Hid (st = dsAt x k) ∧ Hid (D2 w1 wr gl ge M2 NS st)) (fun _ _ iv _ => NP - (intOf iv).toNat)
    case atStart => exact ⟨0, _, _, _, Nat.zero_le _, rfl, rfl, rfl, Lib.hid rfl, hd1⟩
    case round =>
      clear hd1 Hx2
      obtain ⟨k, gl, ge, st, hk, rfl, rfl, rfl, hst, hd⟩ := hrel
      obtain ⟨W3, rfl⟩ : ∃ W3, W3 = wr := ⟨_, rfl⟩
      have Hx3 := Lib.hid (below_heap hd.out.bel Hx1.out)
      have hlt3 : w.heap.size < W3.heap.size := heap_lt Hx3.out
      have b1 := heap_cell Hx3.out (i := 1) rfl
      have b5 := heap_cell Hx3.out (i := 5) rfl
      have hglt := hd.out.ltN
      have hgel := hd.out.ltS
      by_cases hkP : k < NP
      · have Hl0 := Lib.hid (show Fresh OI W3 (W3.alloc (.cells (madeCells #[.int .i64 0] M2) 2)) (.slice (some ⟨W3.heap.size, 0, none⟩) M2 M2) (fillL M2 FA 0) by rw [fillL_zero]; exact Fresh.made (Below.refl _ _) 2 fI 0 M2 (by unfold maxLen; omega))
        have hkn : k < x.n := by show k < x.places.length; rw [← HNP.out]; exact hkP
        have Hkn := Lib.hid hkn
        have hsnd := Lib.hid (show Sound x k ((x.n : Int) + 1) st by rw [hst.out]; exact (ds_ok Hv.out k (by omega)).1)
        clear hkn
        go_wp2
        clear b1 b5
        go_loopw [11] (fun iv wr => ∃ j : Nat, j ≤ M2 ∧ iv = .int .i64 j ∧ Hid (Fresh OI W3 wr (.slice (some ⟨W3.heap.size, 0, none⟩) M2 M2) (fillL M2 FA j))) (fun iv _ => M2 - (intOf iv).toNat)
        case atStart => exact ⟨0, Nat.zero_le _, rfl, Hl0⟩
        case round =>
          clear Hl0
          obtain ⟨j, hj, rfl, hf⟩ := hrel
          obtain ⟨W4, rfl⟩ : ∃ W4, W4 = wr := ⟨_, rfl⟩
          by_cases hjl : j < M2
          · obtain ⟨q0, q1, q2, q3, q4⟩ := hf.out.put1 (fun _ => rfl) (i := j) (by rw [fillL_len FA hj]; exact hjl)
            have hp := q4 W4 (Below.refl _ _) FA
            rw [fillL_succ FA hjl] at hp
            have Hp := Lib.hid hp
            clear hp q4 hf
            go_wp2
            go_roundw
            case rel => exact ⟨j + 1, by omega, by go_num, Hp⟩
            case measure => simp [intOf]; omega
          obtain ⟨hjM⟩ : Nonempty (j = M2) := ⟨by omega⟩
          rw [hjM, fillL_all] at hf
          have Hx4 := Lib.hid (below_heap hf.out.bel Hx3.out)
          have hlt4 : w.heap.size < W4.heap.size := heap_lt Hx4.out
          have b1 := heap_cell Hx4.out (i := 1) rfl
          have hd0 := Lib.hid (show D2 W3 (W4.alloc (.cells (madeCells #[.bool false] NS) 4)) W3.heap.size W4.heap.size M2 NS (ds0 NS FA) by
            have := D2.start hf.out (M := NS) (by unfold maxLen; omega)
            rw [HM2.out] at this ⊢
            exact this)
          clear hf hjM
          go_wp2
          clear b1
          go_loopw [13] (fun rv wr => ∃ (r : Nat) (z : Int) (s4 : DSr), r ≤ NS ∧ z ≤ r ∧ (r : Int) ≤ z ∧ rv = .int .i64 z ∧ Hid (s4 = iterK (upR x k st.nx st.sm FA) (ds0 NS FA) r) ∧ Hid (D2 W3 wr W3.heap.size W4.heap.size M2 NS s4)) (fun rv _ => NS - (intOf rv).toNat)
          case atStart => exact ⟨0, 0, _, Nat.zero_le _, by omega, by omega, rfl, Lib.hid rfl, hd0⟩
          case round =>
            clear hd0 Hx4
            obtain ⟨r, z, s4, hr, hz1, hz2, rfl, hs4, hq⟩ := hrel
            obtain ⟨W5, rfl⟩ : ∃ W5, W5 = wr := ⟨_, rfl⟩
            have Hx5 := Lib.hid (below_heap hq.out.bel Hx3.out)
            have b1 := heap_cell Hx5.out (i := 1) rfl
            by_cases hrl : r < NS
            · have zSI : z < SI := by omega
              go_wp2
              clear b1
              go_loopw [14] (fun tv wr => ∃ (t : Nat) (s5 : DSr), t ≤ NS ∧ tv = .int .i64 t ∧ Hid (s5 = iterK (upT x k st.nx st.sm FA r) s4 t) ∧ Hid (D2 W3 wr W3.heap.size W4.heap.size M2 NS s5)) (fun tv _ => NS - (intOf tv).toNat)
              case atStart => exact ⟨0, _, Nat.zero_le _, rfl, Lib.hid rfl, hq⟩
              case round =>
                clear hq Hx5
                obtain ⟨t, s5, ht, rfl, hs5, hq⟩ := hrel
                obtain ⟨W6, rfl⟩ : ∃ W6, W6 = wr := ⟨_, rfl⟩
                have Hx6 := Lib.hid (below_heap hq.out.bel Hx3.out)
                have b1 := heap_cell Hx6.out (i := 1) rfl
                by_cases htl : t < NS
                · obtain ⟨qr, hqr, hqt, hzq⟩ := hmul.out r t z (by omega) hrl htl
                  have Hqr := Lib.hid hqr
                  have Hzq := Lib.hid hzq
                  have HW := Lib.hid (show wrap64 (z * SI) = (qr : Int) ∧ IntKind.i64.wrap (z * SI) = (qr : Int) ∧ IntKind.i64.wrap ((qr : Int) + (t : Int)) = (qr : Int) + (t : Int) ∧ ((qr : Int) + (t : Int)).toNat = qr + t ∧ (0 : Int) ≤ (qr : Int) + (t : Int) ∧ (qr : Int) + (t : Int) < (M2 : Int) from
                    ⟨by rw [hzq]; exact IntWalk.wrap64_in _ (by omega), by rw [hzq]; exact IntWalk.i64_in _ (by omega), IntWalk.i64_in _ (by omega), by omega, by omega, by omega⟩)
                  have zt : z.toNat = r := by omega
                  have z0 : 0 ≤ z := by omega
                  have tSI : (t : Int) < SI := by omega
                  have zS : z < (NS : Int) := by omega
                  have cL := (hq.out.bel.cell (p := ⟨gl, qr + t, none⟩) hglt).trans (hd.out.cellN hqt)
                  have cE := (hq.out.bel.cell (p := ⟨ge, r, none⟩) hgel).trans (hd.out.cellS hrl)
                  have hcap := hsnd.out.cap (qr + t) (by rw [← HNS.out, ← HM2.out]; exact hqt)
                  rw [show ((x.n : Int) + 1) = FA by rw [← HFA.out, HNP.out]] at hcap
                  have hLv := Lib.hid (show nth st.nx (r * x.S + t) = nth st.nx (qr + t) by rw [Hqr.out, HNS.out])
                  generalize hL : nth st.nx (qr + t) = L at *
                  have HL := Lib.hid hL; clear hL
                  clear hqr hzq
                  by_cases hrT : r = t
                  · have hzt : (z == (t : Int)) = true := by simp; omega
                    have HrT := Lib.hid hrT
                    cases hsM : nth st.sm r
                    · have HsM := Lib.hid hsM
                      rw [hsM] at cE
                      clear hrT hsM
                      by_cases hLF : L = FA
                      · have hbe : (L == FA) = true := by simpa using hLF
                        have hnx := Lib.hid (show s5 = iterK (upT x k st.nx st.sm FA r) s4 (t + 1) by
                          rw [iterK_succ, ← hs5.out, upT_far ((befV_off HsM.out).trans (hLv.out.trans hLF))])
                        clear hLF
                        obtain ⟨wz, wz1, wz2, wz3, wz4, wz5⟩ := HW.out
                        go_wp2
                        clear wz wz1 wz2 wz3 wz4 wz5
                        go_roundw
                        case rel => exact ⟨t + 1, _, by omega, by go_num, hnx, hq⟩
                        case measure => simp [intOf]; omega
                      · have hbe : (L == FA) = false := by simpa using hLF
                        have hbf := Lib.hid (show befV st.nx st.sm x.S r t = L from (befV_off HsM.out).trans hLv.out)
                        obtain ⟨wz, wz1, wz2, wz3, wz4, wz5⟩ := HW.out
                        go_wp2
                        clear b1 wz wz1 wz2 wz3 wz4 wz5
                        go_loopw [16] (fun dv wr => ∃ (d : Nat) (s6 : DSr), d ≤ NB ∧ dv = .int .i64 d ∧ Hid (s6 = iterK (upD x k st.nx st.sm FA r t) s5 d) ∧ Hid (D2 W3 wr W3.heap.size W4.heap.size M2 NS s6)) (fun dv _ => NB - (intOf dv).toNat)
                        case atStart => exact ⟨0, _, Nat.zero_le _, rfl, Lib.hid rfl, hq⟩
                        case round =>
                          clear hq Hx6 cL cE
                          obtain ⟨d, s6, hd', rfl, hs6, hq⟩ := hrel
                          obtain ⟨W7, rfl⟩ : ∃ W7, W7 = wr := ⟨_, rfl⟩
                          have Hx7 := Lib.hid (below_heap hq.out.bel Hx3.out)
                          have b0 := heap_cell Hx7.out (i := 0) rfl
                          by_cases hdl : d < NB
                          · have hrS : r < x.S := by rw [← HNS.out]; exact hrl
                            have htS : t < x.S := by rw [← HNS.out]; exact htl
                            have hdb : d < x.b := by rw [← HNB.out]; exact hdl
                            have hn1 := (Hv.out.cellN Hkn.out hrS hdb).2
                            rw [← HNS.out] at hn1
                            have Hdb := Lib.hid hdb
                            have dBI : (d : Int) < BI := by omega
                            have HrS := Lib.hid hrS
                            have HtS := Lib.hid htS
                            clear hrS htS hdb
                            go_wp2
                            clear b0
                            go_loopw [17] (fun ev wr => ∃ (e : Nat) (nx : List Int), e ≤ NB ∧ ev = .int .i64 e ∧ Hid (nx = iterK (upEN x k st.nx st.sm FA r t d) s6.nx e) ∧ Hid (D2 W3 wr W3.heap.size W4.heap.size M2 NS ⟨nx, s6.sm⟩)) (fun ev _ => NB - (intOf ev).toNat)
                            case atStart => exact ⟨0, _, Nat.zero_le _, rfl, Lib.hid rfl, hq⟩
                            case round =>
                              clear hq Hx7
                              obtain ⟨e, nx, he, rfl, hnx, hq⟩ := hrel
                              obtain ⟨W8, rfl⟩ : ∃ W8, W8 = wr := ⟨_, rfl⟩
                              have Hx8 := Lib.hid (below_heap hq.out.bel Hx3.out)
                              have b0 := heap_cell Hx8.out (i := 0) rfl
                              have b1 := heap_cell Hx8.out (i := 1) rfl
                              have hbox8 := Lib.hid (show BoxC (· < B) W8 w.heap.size x from Hb1.out.below (hd.out.bel.trans (hq.out.bel.mono hd.out.bel.size)) (by omega) hlt1)
                              have hzr := Lib.hid (show z = (r : Int) by omega)
                              have hcl1 := Lib.hid (show ∀ m, Calls Try.prog 101 #[.pointer (some ⟨w.heap.size, 0, none⟩), .int .i64 k, .int .i64 z, .int .i64 d] (W8.drewN m) fun e w' => e = .returned (.int .i64 (nxt x k r d)) ∧ ∃ m2, (W8.drewN m).drewN m2 = w' from fun m => by rw [hzr.out]; exact specNext (hbox8.out.draws m) Hv.out k r d Hkn.out HrS.out Hdb.out)
                              by_cases hel : e < NB
                              · have heb : e < x.b := by rw [← HNB.out]; exact hel
                                have eBI : (e : Int) < BI := by omega
                                have hn2 := (Hv.out.cellN Hkn.out HtS.out heb).2
                                rw [← HNS.out] at hn2
                                have hcl2 := Lib.hid (fun m => specNext (hbox8.out.draws m) Hv.out k t e Hkn.out HtS.out heb)
                                obtain ⟨q2, hq2, hq2t, hzq2⟩ := hmul.out (nxt x k r d) (nxt x k t e) _ rfl hn1 hn2
                                have cL := (hq.out.bel.cell (p := ⟨gl, qr + t, none⟩) hglt).trans (hd.out.cellN hqt)
                                rw [HL.out] at cL
                                have cN := hq.out.cellN hq2t
                                have fN := hq.out.on.frozen (q2 + nxt x k t e)
                                have hput := Lib.hid (fun w2 (h : Below W8.heap.size W8 w2) y => hq.out.putN h hq2t y)
                                have hup := Lib.hid (show iterK (upEN x k st.nx st.sm FA r t d) s6.nx (e + 1) = (if d ≠ e then nx.set (q2 + nxt x k t e) (min (nth nx (q2 + nxt x k t e)) (L + 1)) else if L < FA then nx.set (q2 + nxt x k t e) (min (nth nx (q2 + nxt x k t e)) L) else nx) by
                                  rw [iterK_succ, ← hnx.out]
                                  unfold upEN
                                  rw [hbf.out, hLv.out, ← HNS.out, ← hq2]
                                  try rfl)
                                have HY1 := Lib.hid (show IntKind.i64.wrap (((nxt x k r d : Nat) : Int) * SI) = (q2 : Int) by rw [hzq2]; exact IntWalk.i64_in _ (by omega))
                                clear hq2 hzq2 heb
                                generalize hN1 : nxt x k r d = n1 at *
                                have HN1 := Lib.hid hN1; clear hN1
                                generalize hN2 : nxt x k t e = n2 at *
                                have HN2 := Lib.hid hN2; clear hN2
                                have wy2 : IntKind.i64.wrap ((q2 : Int) + (n2 : Int)) = (q2 : Int) + (n2 : Int) := IntWalk.i64_in _ (by omega)
                                have wy3 : ((q2 : Int) + (n2 : Int)).toNat = q2 + n2 := by omega
                                have wy4 : (0 : Int) ≤ (q2 : Int) + (n2 : Int) := by omega
                                have wy5 : (q2 : Int) + (n2 : Int) < (M2 : Int) := by omega
                                generalize nth nx (q2 + n2) = V at *
                                have hbl8 := Lib.hid (fun m => bel_draws (w := W8) (m := m) rfl)
                                have hbx8 := Lib.hid hbox8.out
                                have wy1 := HY1.out
                                go_wp2
                                refine wp_region_quiet_lit (by kernel_rfl) (by kernel_rfl) ?_
                                repeat (go_big_quiet_step (first | with_reducible exact quiet_draws (hcl1.out _) | with_reducible exact quiet_draws (hcl2.out _)))
                                refine wpQuiet_nil ?_
                                rintro _ ⟨nq, rfl⟩
                                clear wy1 HY1
                                obtain ⟨W9, hW9⟩ : ∃ W9, W9 = W8.drewN nq := ⟨_, rfl⟩
                                rw [← hW9]
                                replace cL : W9.cell? ⟨gl, qr + t, none⟩ = some (.int .i64 L) := by rw [hW9]; exact cL
                                replace cN : W9.cell? ⟨W3.heap.size, q2 + n2, none⟩ = some (.int .i64 V) := by rw [hW9]; exact cN
                                replace fN : W9.frozen? ⟨W3.heap.size, q2 + n2, none⟩ = false := by rw [hW9]; exact fN
                                replace b0 : W9.cell? ⟨w.heap.size, 0, none⟩ = some (.int .i64 BI) := by rw [hW9]; exact b0
                                replace b1 : W9.cell? ⟨w.heap.size, 1, none⟩ = some (.int .i64 SI) := by rw [hW9]; exact b1
                                have hput9 := Lib.hid (fun w2 (h : Below W9.heap.size W9 w2) y => hput.out w2 (by rw [hW9] at h; exact (bel_draws rfl).trans h) y)
                                have hq9 := Lib.hid (show D2 W3 W9 W3.heap.size W4.heap.size M2 NS ⟨nx, s6.sm⟩ by rw [hW9]; exact hq.out.keep (bel_draws rfl))
                                clear hput hW9 hbl8 hbx8
                                by_cases hde : d = e
                                · have hdeb : ((d : Int) != (e : Int)) = false := by simp; omega
                                  rw [if_neg (not_not_intro hde : ¬ (d ≠ e))] at hup
                                  clear hde
                                  by_cases hLF : L < FA
                                  · obtain ⟨mn, hmn⟩ : ∃ y, (if V < L then V else L) = y := ⟨_, rfl⟩
                                    have hnx2 := Lib.hid (show nx.set (q2 + n2) mn = iterK (upEN x k st.nx st.sm FA r t d) s6.nx (e + 1) by rw [hup.out, if_pos hLF, ← hmn, min_if])
                                    clear hup
                                    obtain ⟨wz, wz1, wz2, wz3, wz4, wz5⟩ := HW.out
                                    go_wp2
                                    refine wp_region_quiet_tail_lit 17 (by kernel_rfl) (by kernel_rfl) ?_
                                    simp only [List.take_succ_cons, List.take_zero, List.drop_succ_cons, List.drop_zero]
                                    repeat (go_big_quiet_step ((go_at_call 112; exact quiet_same (specMin _ _ _ hmn _))))
                                    refine wpQuiet_nil ?_
                                    rintro _ ⟨nq2, rfl⟩
                                    clear wz wz1 wz2 wz3 wz4 wz5
                                    go_wp2
                                    go_roundw
                                    case rel => exact ⟨e + 1, _, by omega, by go_num, hnx2, Lib.hid (hput9.out _ (bel_draws rfl) _)⟩
                                    case measure => simp [intOf]; omega
                                  · exfalso; omega
                                · have hdeb : ((d : Int) != (e : Int)) = true := by simp; omega
                                  rw [if_pos (show d ≠ e from hde)] at hup
                                  obtain ⟨mn, hmn⟩ : ∃ y, (if V < L + 1 then V else L + 1) = y := ⟨_, rfl⟩
                                  have hnx2 := Lib.hid (show nx.set (q2 + n2) mn = iterK (upEN x k st.nx st.sm FA r t d) s6.nx (e + 1) by rw [hup.out, ← hmn, min_if])
                                  clear hup hde
                                  go_wp2_with (go_at_call 112; refine (specMin _ _ _ hmn _).mono ?_; rintro ee ww ⟨rfl, rfl⟩)
                                  go_roundw
                                  case rel => exact ⟨e + 1, _, by omega, by go_num, hnx2, Lib.hid (hput9.out _ (Below.refl _ _) _)⟩
                                  case measure => simp [intOf]; omega
                              · obtain ⟨hen⟩ : Nonempty (e = NB) := ⟨by omega⟩
                                have cE := (hq.out.bel.cell (p := ⟨ge, r, none⟩) hgel).trans (hd.out.cellS hrl)
                                rw [HsM.out] at cE
                                have hup2 := Lib.hid (show (⟨nx, s6.sm⟩ : DSr) = iterK (upD x k st.nx st.sm FA r t) s5 (d + 1) by
                                  rw [iterK_succ, ← hs6.out, upD_off (Nat.lt_of_le_of_lt (Nat.zero_le _) Hdb.out) HsM.out, hnx.out, hen, HNB.out])
                                clear hen
                                go_wp2
                                go_roundw
                                case rel => exact ⟨d + 1, _, by omega, by go_num, hup2, hq⟩
                                case measure => simp [intOf]; omega
                          · obtain ⟨hdn⟩ : Nonempty (d = NB) := ⟨by omega⟩
                            have hnx := Lib.hid (show s6 = iterK (upT x k st.nx st.sm FA r) s4 (t + 1) by
                              rw [iterK_succ, ← hs5.out, upT_go (by rw [hbf.out]; exact hLF), hs6.out, hdn, HNB.out])
                            clear hdn
                            go_wp2
                            go_roundw
                            case rel => exact ⟨t + 1, _, by omega, by go_num, hnx, hq⟩
                            case measure => simp [intOf]; omega
                    · have HsM := Lib.hid hsM
                      rw [hsM] at cE
                      have hbe : ((0 : Int) == FA) = false := by simp; omega
                      clear hrT hsM
                      have hbf := Lib.hid (show befV st.nx st.sm x.S r t = 0 from befV_zero HrT.out HsM.out)
                      obtain ⟨wz, wz1, wz2, wz3, wz4, wz5⟩ := HW.out
                      go_wp2
                      clear b1 wz wz1 wz2 wz3 wz4 wz5
                      go_loopw [16] (fun dv wr => ∃ (d : Nat) (s6 : DSr), d ≤ NB ∧ dv = .int .i64 d ∧ Hid (s6 = iterK (upD x k st.nx st.sm FA r t) s5 d) ∧ Hid (D2 W3 wr W3.heap.size W4.heap.size M2 NS s6)) (fun dv _ => NB - (intOf dv).toNat)
                      case atStart => exact ⟨0, _, Nat.zero_le _, rfl, Lib.hid rfl, hq⟩
                      case round =>
                        clear hq Hx6 cL cE
                        obtain ⟨d, s6, hd', rfl, hs6, hq⟩ := hrel
                        obtain ⟨W7, rfl⟩ : ∃ W7, W7 = wr := ⟨_, rfl⟩
                        have Hx7 := Lib.hid (below_heap hq.out.bel Hx3.out)
                        have b0 := heap_cell Hx7.out (i := 0) rfl
                        by_cases hdl : d < NB
                        · have hrS : r < x.S := by rw [← HNS.out]; exact hrl
                          have htS : t < x.S := by rw [← HNS.out]; exact htl
                          have hdb : d < x.b := by rw [← HNB.out]; exact hdl
                          have hn1 := (Hv.out.cellN Hkn.out hrS hdb).2
                          rw [← HNS.out] at hn1
                          have Hdb := Lib.hid hdb
                          have dBI : (d : Int) < BI := by omega
                          have HrS := Lib.hid hrS
                          have HtS := Lib.hid htS
                          clear hrS htS hdb
                          go_wp2
                          clear b0
                          go_loopw [17] (fun ev wr => ∃ (e : Nat) (nx : List Int), e ≤ NB ∧ ev = .int .i64 e ∧ Hid (nx = iterK (upEN x k st.nx st.sm FA r t d) s6.nx e) ∧ Hid (D2 W3 wr W3.heap.size W4.heap.size M2 NS ⟨nx, s6.sm⟩)) (fun ev _ => NB - (intOf ev).toNat)
                          case atStart => exact ⟨0, _, Nat.zero_le _, rfl, Lib.hid rfl, hq⟩
                          case round =>
                            clear hq Hx7
                            obtain ⟨e, nx, he, rfl, hnx, hq⟩ := hrel
                            obtain ⟨W8, rfl⟩ : ∃ W8, W8 = wr := ⟨_, rfl⟩
                            have Hx8 := Lib.hid (below_heap hq.out.bel Hx3.out)
                            have b0 := heap_cell Hx8.out (i := 0) rfl
                            have b1 := heap_cell Hx8.out (i := 1) rfl
                            have hbox8 := Lib.hid (show BoxC (· < B) W8 w.heap.size x from Hb1.out.below (hd.out.bel.trans (hq.out.bel.mono hd.out.bel.size)) (by omega) hlt1)
                            have hzr := Lib.hid (show z = (r : Int) by omega)
                            have hcl1 := Lib.hid (show ∀ m, Calls Try.prog 101 #[.pointer (some ⟨w.heap.size, 0, none⟩), .int .i64 k, .int .i64 z, .int .i64 d] (W8.drewN m) fun e w' => e = .returned (.int .i64 (nxt x k r d)) ∧ ∃ m2, (W8.drewN m).drewN m2 = w' from fun m => by rw [hzr.out]; exact specNext (hbox8.out.draws m) Hv.out k r d Hkn.out HrS.out Hdb.out)
                            by_cases hel : e < NB
                            · have heb : e < x.b := by rw [← HNB.out]; exact hel
                              have eBI : (e : Int) < BI := by omega
                              have hn2 := (Hv.out.cellN Hkn.out HtS.out heb).2
                              rw [← HNS.out] at hn2
                              have hcl2 := Lib.hid (fun m => specNext (hbox8.out.draws m) Hv.out k t e Hkn.out HtS.out heb)
                              obtain ⟨q2, hq2, hq2t, hzq2⟩ := hmul.out (nxt x k r d) (nxt x k t e) _ rfl hn1 hn2
                              have cL := (hq.out.bel.cell (p := ⟨gl, qr + t, none⟩) hglt).trans (hd.out.cellN hqt)
                              rw [HL.out] at cL
                              have cN := hq.out.cellN hq2t
                              have fN := hq.out.on.frozen (q2 + nxt x k t e)
                              have hput := Lib.hid (fun w2 (h : Below W8.heap.size W8 w2) y => hq.out.putN h hq2t y)
                              have hup := Lib.hid (show iterK (upEN x k st.nx st.sm FA r t d) s6.nx (e + 1) = (if d ≠ e then nx.set (q2 + nxt x k t e) (min (nth nx (q2 + nxt x k t e)) (1)) else if L < FA then nx.set (q2 + nxt x k t e) (min (nth nx (q2 + nxt x k t e)) L) else nx) by
                                rw [iterK_succ, ← hnx.out]
                                unfold upEN
                                rw [hbf.out, hLv.out, ← HNS.out, ← hq2]
                                try rfl)
                              have HY1 := Lib.hid (show IntKind.i64.wrap (((nxt x k r d : Nat) : Int) * SI) = (q2 : Int) by rw [hzq2]; exact IntWalk.i64_in _ (by omega))
                              clear hq2 hzq2 heb
                              generalize hN1 : nxt x k r d = n1 at *
                              have HN1 := Lib.hid hN1; clear hN1
                              generalize hN2 : nxt x k t e = n2 at *
                              have HN2 := Lib.hid hN2; clear hN2
                              have wy2 : IntKind.i64.wrap ((q2 : Int) + (n2 : Int)) = (q2 : Int) + (n2 : Int) := IntWalk.i64_in _ (by omega)
                              have wy3 : ((q2 : Int) + (n2 : Int)).toNat = q2 + n2 := by omega
                              have wy4 : (0 : Int) ≤ (q2 : Int) + (n2 : Int) := by omega
                              have wy5 : (q2 : Int) + (n2 : Int) < (M2 : Int) := by omega
                              generalize nth nx (q2 + n2) = V at *
                              have hbl8 := Lib.hid (fun m => bel_draws (w := W8) (m := m) rfl)
                              have hbx8 := Lib.hid hbox8.out
                              have wy1 := HY1.out
                              go_wp2
                              refine wp_region_quiet_lit (by kernel_rfl) (by kernel_rfl) ?_
                              repeat (go_big_quiet_step (first | with_reducible exact quiet_draws (hcl1.out _) | with_reducible exact quiet_draws (hcl2.out _)))
                              refine wpQuiet_nil ?_
                              rintro _ ⟨nq, rfl⟩
                              clear wy1 HY1
                              obtain ⟨W9, hW9⟩ : ∃ W9, W9 = W8.drewN nq := ⟨_, rfl⟩
                              rw [← hW9]
                              replace cL : W9.cell? ⟨gl, qr + t, none⟩ = some (.int .i64 L) := by rw [hW9]; exact cL
                              replace cN : W9.cell? ⟨W3.heap.size, q2 + n2, none⟩ = some (.int .i64 V) := by rw [hW9]; exact cN
                              replace fN : W9.frozen? ⟨W3.heap.size, q2 + n2, none⟩ = false := by rw [hW9]; exact fN
                              replace b0 : W9.cell? ⟨w.heap.size, 0, none⟩ = some (.int .i64 BI) := by rw [hW9]; exact b0
                              replace b1 : W9.cell? ⟨w.heap.size, 1, none⟩ = some (.int .i64 SI) := by rw [hW9]; exact b1
                              have hput9 := Lib.hid (fun w2 (h : Below W9.heap.size W9 w2) y => hput.out w2 (by rw [hW9] at h; exact (bel_draws rfl).trans h) y)
                              have hq9 := Lib.hid (show D2 W3 W9 W3.heap.size W4.heap.size M2 NS ⟨nx, s6.sm⟩ by rw [hW9]; exact hq.out.keep (bel_draws rfl))
                              clear hput hW9 hbl8 hbx8
                              by_cases hde : d = e
                              · have hdeb : ((d : Int) != (e : Int)) = false := by simp; omega
                                rw [if_neg (not_not_intro hde : ¬ (d ≠ e))] at hup
                                clear hde
                                by_cases hLF : L < FA
                                · obtain ⟨mn, hmn⟩ : ∃ y, (if V < L then V else L) = y := ⟨_, rfl⟩
                                  have hnx2 := Lib.hid (show nx.set (q2 + n2) mn = iterK (upEN x k st.nx st.sm FA r t d) s6.nx (e + 1) by rw [hup.out, if_pos hLF, ← hmn, min_if])
                                  clear hup
                                  obtain ⟨wz, wz1, wz2, wz3, wz4, wz5⟩ := HW.out
                                  go_wp2
                                  refine wp_region_quiet_tail_lit 17 (by kernel_rfl) (by kernel_rfl) ?_
                                  simp only [List.take_succ_cons, List.take_zero, List.drop_succ_cons, List.drop_zero]
                                  repeat (go_big_quiet_step ((go_at_call 112; exact quiet_same (specMin _ _ _ hmn _))))
                                  refine wpQuiet_nil ?_
                                  rintro _ ⟨nq2, rfl⟩
                                  clear wz wz1 wz2 wz3 wz4 wz5
                                  go_wp2
                                  go_roundw
                                  case rel => exact ⟨e + 1, _, by omega, by go_num, hnx2, Lib.hid (hput9.out _ (bel_draws rfl) _)⟩
                                  case measure => simp [intOf]; omega
                                · have hnx2 := Lib.hid (show nx = iterK (upEN x k st.nx st.sm FA r t d) s6.nx (e + 1) by rw [hup.out, if_neg hLF])
                                  clear hup
                                  obtain ⟨wz, wz1, wz2, wz3, wz4, wz5⟩ := HW.out
                                  go_wp2
                                  clear wz wz1 wz2 wz3 wz4 wz5
                                  go_roundw
                                  case rel => exact ⟨e + 1, _, by omega, by go_num, hnx2, hq9⟩
                                  case measure => simp [intOf]; omega
                              · have hdeb : ((d : Int) != (e : Int)) = true := by simp; omega
                                rw [if_pos (show d ≠ e from hde)] at hup
                                obtain ⟨mn, hmn⟩ : ∃ y, (if V < 1 then V else 1) = y := ⟨_, rfl⟩
                                have hnx2 := Lib.hid (show nx.set (q2 + n2) mn = iterK (upEN x k st.nx st.sm FA r t d) s6.nx (e + 1) by rw [hup.out, ← hmn, min_if])
                                clear hup hde
                                go_wp2_with (go_at_call 112; refine (specMin _ _ _ hmn _).mono ?_; rintro ee ww ⟨rfl, rfl⟩)
                                go_roundw
                                case rel => exact ⟨e + 1, _, by omega, by go_num, hnx2, Lib.hid (hput9.out _ (Below.refl _ _) _)⟩
                                case measure => simp [intOf]; omega
                            · obtain ⟨hen⟩ : Nonempty (e = NB) := ⟨by omega⟩
                              have cE := (hq.out.bel.cell (p := ⟨ge, r, none⟩) hgel).trans (hd.out.cellS hrl)
                              rw [HsM.out] at cE
                              have hcS := hq.out.cellS hn1
                              have fS := hq.out.os.frozen (nxt x k r d)
                              have hup2 := Lib.hid (show (⟨nx, s6.sm.set (nxt x k r d) true⟩ : DSr) = iterK (upD x k st.nx st.sm FA r t) s5 (d + 1) by
                                rw [iterK_succ, ← hs6.out, upD_on (Nat.lt_of_le_of_lt (Nat.zero_le _) Hdb.out) HrT.out HsM.out, hnx.out, hen, HNB.out])
                              have hput := Lib.hid (fun w2 (h : Below W8.heap.size W8 w2) => hq.out.putS h hn1 true)
                              clear hen
                              generalize hN1 : nxt x k r d = n1 at *
                              have HN1 := Lib.hid hN1; clear hN1
                              have wn0 : (0 : Int) ≤ (n1 : Int) := by omega
                              have wn1 : (n1 : Int) < (NS : Int) := by omega
                              go_wp2_with (go_at_call 101; refine (Calls.mono (hcl1.out 0) ?_); rintro ee ww ⟨rfl, mm, rfl⟩)
                              go_roundw
                              case rel => exact ⟨d + 1, _, by omega, by go_num, hup2, hput.out _ (bel_draws rfl)⟩
                              case measure => simp [intOf]; omega
                        · obtain ⟨hdn⟩ : Nonempty (d = NB) := ⟨by omega⟩
                          have hnx := Lib.hid (show s6 = iterK (upT x k st.nx st.sm FA r) s4 (t + 1) by
                            rw [iterK_succ, ← hs5.out, upT_go (by rw [hbf.out]; omega), hs6.out, hdn, HNB.out])
                          clear hdn
                          go_wp2
                          go_roundw
                          case rel => exact ⟨t + 1, _, by omega, by go_num, hnx, hq⟩
                          case measure => simp [intOf]; omega
                  · have hzt : (z == (t : Int)) = false := by simp; omega
                    have HrT := Lib.hid hrT
                    clear hrT cE
                    by_cases hLF : L = FA
                    · have hbe : (L == FA) = true := by simpa using hLF
                      have hnx := Lib.hid (show s5 = iterK (upT x k st.nx st.sm FA r) s4 (t + 1) by
                        rw [iterK_succ, ← hs5.out, upT_far ((befV_ne HrT.out).trans (hLv.out.trans hLF))])
                      clear hLF
                      obtain ⟨wz, wz1, wz2, wz3, wz4, wz5⟩ := HW.out
                      go_wp2
                      clear wz wz1 wz2 wz3 wz4 wz5
                      go_roundw
                      case rel => exact ⟨t + 1, _, by omega, by go_num, hnx, hq⟩
                      case measure => simp [intOf]; omega
                    · have hbe : (L == FA) = false := by simpa using hLF
                      have hbf := Lib.hid (show befV st.nx st.sm x.S r t = L from (befV_ne HrT.out).trans hLv.out)
                      obtain ⟨wz, wz1, wz2, wz3, wz4, wz5⟩ := HW.out
                      go_wp2
                      clear b1 wz wz1 wz2 wz3 wz4 wz5
                      go_loopw [16] (fun dv wr => ∃ (d : Nat) (s6 : DSr), d ≤ NB ∧ dv = .int .i64 d ∧ Hid (s6 = iterK (upD x k st.nx st.sm FA r t) s5 d) ∧ Hid (D2 W3 wr W3.heap.size W4.heap.size M2 NS s6)) (fun dv _ => NB - (intOf dv).toNat)
                      case atStart => exact ⟨0, _, Nat.zero_le _, rfl, Lib.hid rfl, hq⟩
                      case round =>
                        clear hq Hx6 cL
                        obtain ⟨d, s6, hd', rfl, hs6, hq⟩ := hrel
                        obtain ⟨W7, rfl⟩ : ∃ W7, W7 = wr := ⟨_, rfl⟩
                        have Hx7 := Lib.hid (below_heap hq.out.bel Hx3.out)
                        have b0 := heap_cell Hx7.out (i := 0) rfl
                        by_cases hdl : d < NB
                        · have hrS : r < x.S := by rw [← HNS.out]; exact hrl
                          have htS : t < x.S := by rw [← HNS.out]; exact htl
                          have hdb : d < x.b := by rw [← HNB.out]; exact hdl
                          have hn1 := (Hv.out.cellN Hkn.out hrS hdb).2
                          rw [← HNS.out] at hn1
                          have Hdb := Lib.hid hdb
                          have dBI : (d : Int) < BI := by omega
                          have HrS := Lib.hid hrS
                          have HtS := Lib.hid htS
                          clear hrS htS hdb
                          go_wp2
                          clear b0
                          go_loopw [17] (fun ev wr => ∃ (e : Nat) (nx : List Int), e ≤ NB ∧ ev = .int .i64 e ∧ Hid (nx = iterK (upEN x k st.nx st.sm FA r t d) s6.nx e) ∧ Hid (D2 W3 wr W3.heap.size W4.heap.size M2 NS ⟨nx, s6.sm⟩)) (fun ev _ => NB - (intOf ev).toNat)
                          case atStart => exact ⟨0, _, Nat.zero_le _, rfl, Lib.hid rfl, hq⟩
                          case round =>
                            clear hq Hx7
                            obtain ⟨e, nx, he, rfl, hnx, hq⟩ := hrel
                            obtain ⟨W8, rfl⟩ : ∃ W8, W8 = wr := ⟨_, rfl⟩
                            have Hx8 := Lib.hid (below_heap hq.out.bel Hx3.out)
                            have b0 := heap_cell Hx8.out (i := 0) rfl
                            have b1 := heap_cell Hx8.out (i := 1) rfl
                            have hbox8 := Lib.hid (show BoxC (· < B) W8 w.heap.size x from Hb1.out.below (hd.out.bel.trans (hq.out.bel.mono hd.out.bel.size)) (by omega) hlt1)
                            have hzr := Lib.hid (show z = (r : Int) by omega)
                            have hcl1 := Lib.hid (show ∀ m, Calls Try.prog 101 #[.pointer (some ⟨w.heap.size, 0, none⟩), .int .i64 k, .int .i64 z, .int .i64 d] (W8.drewN m) fun e w' => e = .returned (.int .i64 (nxt x k r d)) ∧ ∃ m2, (W8.drewN m).drewN m2 = w' from fun m => by rw [hzr.out]; exact specNext (hbox8.out.draws m) Hv.out k r d Hkn.out HrS.out Hdb.out)
                            by_cases hel : e < NB
                            · have heb : e < x.b := by rw [← HNB.out]; exact hel
                              have eBI : (e : Int) < BI := by omega
                              have hn2 := (Hv.out.cellN Hkn.out HtS.out heb).2
                              rw [← HNS.out] at hn2
                              have hcl2 := Lib.hid (fun m => specNext (hbox8.out.draws m) Hv.out k t e Hkn.out HtS.out heb)
                              obtain ⟨q2, hq2, hq2t, hzq2⟩ := hmul.out (nxt x k r d) (nxt x k t e) _ rfl hn1 hn2
                              have cL := (hq.out.bel.cell (p := ⟨gl, qr + t, none⟩) hglt).trans (hd.out.cellN hqt)
                              rw [HL.out] at cL
                              have cN := hq.out.cellN hq2t
                              have fN := hq.out.on.frozen (q2 + nxt x k t e)
                              have hput := Lib.hid (fun w2 (h : Below W8.heap.size W8 w2) y => hq.out.putN h hq2t y)
                              have hup := Lib.hid (show iterK (upEN x k st.nx st.sm FA r t d) s6.nx (e + 1) = (if d ≠ e then nx.set (q2 + nxt x k t e) (min (nth nx (q2 + nxt x k t e)) (L + 1)) else if L < FA then nx.set (q2 + nxt x k t e) (min (nth nx (q2 + nxt x k t e)) L) else nx) by
                                rw [iterK_succ, ← hnx.out]
                                unfold upEN
                                rw [hbf.out, hLv.out, ← HNS.out, ← hq2]
                                try rfl)
                              have HY1 := Lib.hid (show IntKind.i64.wrap (((nxt x k r d : Nat) : Int) * SI) = (q2 : Int) by rw [hzq2]; exact IntWalk.i64_in _ (by omega))
                              clear hq2 hzq2 heb
                              generalize hN1 : nxt x k r d = n1 at *
                              have HN1 := Lib.hid hN1; clear hN1
                              generalize hN2 : nxt x k t e = n2 at *
                              have HN2 := Lib.hid hN2; clear hN2
                              have wy2 : IntKind.i64.wrap ((q2 : Int) + (n2 : Int)) = (q2 : Int) + (n2 : Int) := IntWalk.i64_in _ (by omega)
                              have wy3 : ((q2 : Int) + (n2 : Int)).toNat = q2 + n2 := by omega
                              have wy4 : (0 : Int) ≤ (q2 : Int) + (n2 : Int) := by omega
                              have wy5 : (q2 : Int) + (n2 : Int) < (M2 : Int) := by omega
                              generalize nth nx (q2 + n2) = V at *
                              have hbl8 := Lib.hid (fun m => bel_draws (w := W8) (m := m) rfl)
                              have hbx8 := Lib.hid hbox8.out
                              have wy1 := HY1.out
                              go_wp2
                              refine wp_region_quiet_lit (by kernel_rfl) (by kernel_rfl) ?_
                              repeat (go_big_quiet_step (first | with_reducible exact quiet_draws (hcl1.out _) | with_reducible exact quiet_draws (hcl2.out _)))
                              refine wpQuiet_nil ?_
                              rintro _ ⟨nq, rfl⟩
                              clear wy1 HY1
                              obtain ⟨W9, hW9⟩ : ∃ W9, W9 = W8.drewN nq := ⟨_, rfl⟩
                              rw [← hW9]
                              replace cL : W9.cell? ⟨gl, qr + t, none⟩ = some (.int .i64 L) := by rw [hW9]; exact cL
                              replace cN : W9.cell? ⟨W3.heap.size, q2 + n2, none⟩ = some (.int .i64 V) := by rw [hW9]; exact cN
                              replace fN : W9.frozen? ⟨W3.heap.size, q2 + n2, none⟩ = false := by rw [hW9]; exact fN
                              replace b0 : W9.cell? ⟨w.heap.size, 0, none⟩ = some (.int .i64 BI) := by rw [hW9]; exact b0
                              replace b1 : W9.cell? ⟨w.heap.size, 1, none⟩ = some (.int .i64 SI) := by rw [hW9]; exact b1
                              have hput9 := Lib.hid (fun w2 (h : Below W9.heap.size W9 w2) y => hput.out w2 (by rw [hW9] at h; exact (bel_draws rfl).trans h) y)
                              have hq9 := Lib.hid (show D2 W3 W9 W3.heap.size W4.heap.size M2 NS ⟨nx, s6.sm⟩ by rw [hW9]; exact hq.out.keep (bel_draws rfl))
                              clear hput hW9 hbl8 hbx8
                              by_cases hde : d = e
                              · have hdeb : ((d : Int) != (e : Int)) = false := by simp; omega
                                rw [if_neg (not_not_intro hde : ¬ (d ≠ e))] at hup
                                clear hde
                                by_cases hLF : L < FA
                                · obtain ⟨mn, hmn⟩ : ∃ y, (if V < L then V else L) = y := ⟨_, rfl⟩
                                  have hnx2 := Lib.hid (show nx.set (q2 + n2) mn = iterK (upEN x k st.nx st.sm FA r t d) s6.nx (e + 1) by rw [hup.out, if_pos hLF, ← hmn, min_if])
                                  clear hup
                                  obtain ⟨wz, wz1, wz2, wz3, wz4, wz5⟩ := HW.out
                                  go_wp2
                                  refine wp_region_quiet_tail_lit 17 (by kernel_rfl) (by kernel_rfl) ?_
                                  simp only [List.take_succ_cons, List.take_zero, List.drop_succ_cons, List.drop_zero]
                                  repeat (go_big_quiet_step ((go_at_call 112; exact quiet_same (specMin _ _ _ hmn _))))
                                  refine wpQuiet_nil ?_
                                  rintro _ ⟨nq2, rfl⟩
                                  clear wz wz1 wz2 wz3 wz4 wz5
                                  go_wp2
                                  go_roundw
                                  case rel => exact ⟨e + 1, _, by omega, by go_num, hnx2, Lib.hid (hput9.out _ (bel_draws rfl) _)⟩
                                  case measure => simp [intOf]; omega
                                · exfalso; omega
                              · have hdeb : ((d : Int) != (e : Int)) = true := by simp; omega
                                rw [if_pos (show d ≠ e from hde)] at hup
                                obtain ⟨mn, hmn⟩ : ∃ y, (if V < L + 1 then V else L + 1) = y := ⟨_, rfl⟩
                                have hnx2 := Lib.hid (show nx.set (q2 + n2) mn = iterK (upEN x k st.nx st.sm FA r t d) s6.nx (e + 1) by rw [hup.out, ← hmn, min_if])
                                clear hup hde
                                go_wp2_with (go_at_call 112; refine (specMin _ _ _ hmn _).mono ?_; rintro ee ww ⟨rfl, rfl⟩)
                                go_roundw
                                case rel => exact ⟨e + 1, _, by omega, by go_num, hnx2, Lib.hid (hput9.out _ (Below.refl _ _) _)⟩
                                case measure => simp [intOf]; omega
                            · obtain ⟨hen⟩ : Nonempty (e = NB) := ⟨by omega⟩
                              have hup2 := Lib.hid (show (⟨nx, s6.sm⟩ : DSr) = iterK (upD x k st.nx st.sm FA r t) s5 (d + 1) by
                                rw [iterK_succ, ← hs6.out, upD_ne (Nat.lt_of_le_of_lt (Nat.zero_le _) Hdb.out) HrT.out, hnx.out, hen, HNB.out])
                              clear hen
                              go_wp2
                              go_roundw
                              case rel => exact ⟨d + 1, _, by omega, by go_num, hup2, hq⟩
                              case measure => simp [intOf]; omega
                        · obtain ⟨hdn⟩ : Nonempty (d = NB) := ⟨by omega⟩
                          have hnx := Lib.hid (show s6 = iterK (upT x k st.nx st.sm FA r) s4 (t + 1) by
                            rw [iterK_succ, ← hs5.out, upT_go (by rw [hbf.out]; exact hLF), hs6.out, hdn, HNB.out])
                          clear hdn
                          go_wp2
                          go_roundw
                          case rel => exact ⟨t + 1, _, by omega, by go_num, hnx, hq⟩
                          case measure => simp [intOf]; omega
                · obtain ⟨htn⟩ : Nonempty (t = NS) := ⟨by omega⟩
                  have hnx := Lib.hid (show s5 = iterK (upR x k st.nx st.sm FA) (ds0 NS FA) (r + 1) by
                    rw [iterK_succ, ← hs4.out, hs5.out, htn]
                    unfold upR
                    rw [HNS.out])
                  clear htn
                  go_wp2
                  go_roundw
                  case rel => exact ⟨r + 1, z + 1, _, by omega, by omega, by omega, by go_num, hnx, hq⟩
                  case measure => simp [intOf]; omega
            · obtain ⟨hrn⟩ : Nonempty (r = NS) := ⟨by omega⟩
              have hnx := Lib.hid (show s4 = dsAt x (k + 1) by
                rw [hs4.out, hrn]
                unfold dsAt
                rw [iterK_succ]
                change _ = upK x ((x.n : Int) + 1) (dsAt x k) k
                rw [← hst.out]
                unfold upK
                rw [show ((x.n : Int) + 1) = FA by rw [← HFA.out, HNP.out], ← HNS.out])
              have hq3 := Lib.hid (hq.out.widen hd.out.bel)
              clear hrn
              go_wp2
              go_roundw
              case rel => exact ⟨k + 1, _, _, _, by omega, by go_num, rfl, rfl, hnx, hq3⟩
              case measure => simp [intOf]; omega
      · obtain ⟨hkn⟩ : Nonempty (k = NP) := ⟨by omega⟩
        rw [hkn] at hst
        obtain ⟨qe, hqe, hqt, hzq⟩ := hmul.out NE NE EI (by omega) hnat.2.2.2.1 hnat.2.2.2.1
        have Hqe := Lib.hid hqe
        have b3 := heap_cell Hx3.out (i := 3) rfl
        have wz : wrap64 (EI * SI) = (qe : Int) := by rw [hzq]; exact IntWalk.wrap64_in _ (by omega)
        have wz3 : ((qe : Int) + EI).toNat = qe + NE := by omega
        have wz4 : (0 : Int) ≤ (qe : Int) + EI := by omega
        have wz5 : (qe : Int) + EI < (M2 : Int) := by omega
        have cL := hd.out.cellN hqt
        have hdv := Lib.hid (show nth st.nx (qe + NE) = distS x by
          unfold distS
          rw [hst.out, Hqe.out, ← HNE.out, ← HNS.out, HNP.out])
        have Hbel := Lib.hid hd.out.bel
        have hfar := Lib.hid (fun h => d_far Hv.out (show distS x = (x.n : Int) + 1 from h))
        have hnear := Lib.hid (fun h => d_near Hv.out (show distS x ≠ (x.n : Int) + 1 from h))
        rw [show ((x.n : Int) + 1) = FA by rw [← HFA.out, HNP.out]] at hfar hnear
        generalize nth st.nx (qe + NE) = D at *
        clear hqe hzq hkn
        by_cases hDF : D = FA
        · have hr := Lib.hid (hfar.out (by rw [← hdv.out]; exact hDF))
          have hb : (D == FA) = true := by simpa using hDF
          clear hDF
          go_wp2
          go_ret2
          exact ⟨by rw [hr.out.1, hr.out.2]; rfl, Hbel1.out.trans (Hbel.out.mono (by omega))⟩
        · have hr := Lib.hid (hnear.out (by rw [← hdv.out]; exact hDF))
          have hb : (D == FA) = false := by simpa using hDF
          clear hDF
          go_wp2
          go_ret2
          exact ⟨by rw [hr.out.1, hr.out.2, ← hdv.out]; rfl, Hbel1.out.trans (Hbel.out.mono (by omega))⟩
end Go.Proofs.Ytnpkanlieflbiaa
