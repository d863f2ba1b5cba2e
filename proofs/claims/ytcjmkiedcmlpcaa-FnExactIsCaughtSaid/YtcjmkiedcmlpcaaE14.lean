/- Numbers of undetected errors at a place, walked: the reference's. -/
import Derived.Test.YtcjmkiedcmlpcaaE9
import Derived.Test.YtcjmkiedcmlpcaaE13
import Derived.Test.YtcjmkiedcmlpcaaD4
import Derived.Test.YtcjmkiedcmlpcaaE10
namespace Go.Proofs.Ytcjmkiedcmlpcaa
open Go.RowKit
set_option linter.unusedVariables false

theorem pairIx (NS s t : Nat) (hN : NS ≤ 36) (hs : s < NS) (ht : t < NS) : s * NS + t < NS * NS ∧ IntKind.i64.wrap ((s : Int) * (NS : Int)) = ((s * NS : Nat) : Int) ∧ IntKind.i64.wrap (((s * NS : Nat) : Int) + (t : Int)) = ((s * NS + t : Nat) : Int) := by
  have h := pair_lt hs ht
  have h2 := Nat.mul_le_mul hN hN
  have e1 : ((s * NS : Nat) : Int) = (s : Int) * (NS : Int) := by rw [Int.natCast_mul]
  have e2 : ((s * NS + t : Nat) : Int) = ((s * NS : Nat) : Int) + (t : Int) := by rw [Int.natCast_add]
  exact ⟨h, by rw [← e1]; exact IntWalk.i64_in _ (by omega), by rw [← e2]; exact IntWalk.i64_in _ (by omega)⟩
theorem gridL_row {m r j : Nat} (f : Nat → Nat → Nat) (h : j < m) : nth (gridL m r f) j = rowL r (f j) := by rw [gridL, nth_range_map h]; rfl
theorem stP_done (F : List Int × List Int → Nat → Nat) (W : List (List Int × List Int)) (s k : Nat) (h : ∀ p, F p s = 0) : stP F W s k = stP F W (s + 1) 0 := by
  rw [stP_zero, sumN_succ]
  unfold stP
  rw [sumL_zero fun p _ => h p, sumL_zero fun p _ => h p]
/-- A row of a grid that was made, as it is read. -/
theorem gridRow {w0 w : World} {v : Value} {m r mm rr j : Nat} {f : Nat → Nat → Nat} (hf : Fresh OII w0 w v (gridL m r f)) (hm : m = mm) (hr : r = rr) (hj : j < mm) :
    ∃ g c a1 c1, v = .slice (some ⟨g, 0, none⟩) mm c ∧ w.cell? ⟨g, j, none⟩ = some (.slice a1 rr c1) ∧ RdI (· < w.heap.size) w (.slice a1 rr c1) (rowL rr (f j)) ∧ rr ≤ c1 ∧ c1 ≤ maxLen ∧ mm ≤ c ∧ c ≤ maxLen := by
  subst hm
  subst hr
  have hl := gridL_len m r f
  obtain ⟨g, c, rfl⟩ := hf.shape (by rw [hl]; omega)
  rw [hl] at hf
  have hrd := hf.rd OII.leads OII.ok
  have h3 := hf.len2
  obtain ⟨b, o, a1, c1, e, _, hc, q1, q2, hr⟩ := Rd.row hrd (x := j) (by rw [hl]; exact hj)
  simp only [Option.some.injEq, Addr.mk.injEq, and_true] at e
  obtain ⟨rfl, rfl⟩ := e
  rw [gridL_row f hj] at hc q1 hr
  rw [rowL_len] at hc q1 hr
  rw [Nat.zero_add] at hc
  exact ⟨_, c, a1, c1, by rw [hl], hc, hr, q1, q2, h3.2⟩

/-- What is known of each error that is listed. -/
theorem wrongP_digs {kind : Int} {b : Nat} (hb : 2 ≤ b) (hb10 : kind = 5 → 10 ≤ b) {p : List Int × List Int} (h : p ∈ wrongP kind b) : Digs b p.1 ∧ Digs b p.2 ∧ p.1.length = errLen kind ∧ p.2.length = errLen kind := by
  unfold wrongP at h
  obtain ⟨i, _, h2⟩ := List.mem_flatMap.1 h
  obtain ⟨t, ht, rfl⟩ := List.mem_map.1 h2
  have hl := tup_length b (errLen kind) i
  have hd := tup_digs (b := b) (by omega) (errLen kind) i
  have hc := chg_digs (kind := kind) (b := b) hb10 hb hd hl t ht
  exact ⟨hd, hc.1, hl, hc.2.trans hl⟩

set_option maxHeartbeats 3200000 in
set_option maxRecDepth 10000 in
theorem specAt {B bx : Nat} {x : Chn} {w : World} (h : BoxC (· < B) w bx x) (hB : B ≤ w.heap.size) (hbx : bx < w.heap.size) (hv : VC x) {kind : Int} (hkd : kindOk kind x.base = true) {place : Nat} (hp : place + errLen kind ≤ x.n) :
    Calls Try.prog 82 #[.pointer (some ⟨bx, 0, none⟩), .int .i64 kind, .int .i64 place] w fun e w' => e = .returned (.tuple #[.int .i64 (badAt x kind place : Nat), .int .i64 (allAt x kind place : Nat)]) ∧ Below w.heap.size w w' := by
  have hnat := hv.nat
  have H := Lib.hid h
  have Hv := Lib.hid hv; clear hv
  obtain ⟨a, c, a', c', g0, g1, g2, g3, g4, g5, hu, hpp, ⟨h1, h2⟩, h3, h4⟩ := h.cells
  obtain ⟨NS, hNS⟩ : ∃ n : Nat, n = x.S := ⟨_, rfl⟩
  obtain ⟨NB, hNB⟩ : ∃ n : Nat, n = x.b := ⟨_, rfl⟩
  have hbase : x.base = (NB : Int) := by have := Hv.out.base; rw [hNB]; show x.base = (x.base.toNat : Int); omega
  rw [hbase] at g0 hkd
  rw [show x.states = (NS : Int) by have := Hv.out.states; rw [hNS]; show x.states = (x.states.toNat : Int); omega] at g1
  rw [← hNS, ← hNB] at hnat
  have hkp := Lib.hid (show (0 ≤ kind ∧ kind ≤ 5) by simp only [kindOk, inB_true, Bool.and_eq_true] at hkd; exact hkd.1)
  have hk10 := Lib.hid (show kind = 5 → 10 ≤ NB from fun h5 => by
    simp only [kindOk, inB_true, Bool.and_eq_true, Bool.or_eq_true, decide_eq_true_eq] at hkd
    rcases hkd.2 with h | h
    · exact absurd h5 h
    · omega)
  have hel := errLen_bd kind
  obtain ⟨n, hn⟩ : ∃ n : Nat, n = errLen kind := ⟨_, rfl⟩
  have hsz := Lib.hid (show sizeK (NB : Int) kind = n by rw [hn]; exact sizeK_yes hkd)
  have hCS := Lib.hid (fun W => specSize (NB : Int) kind W)
  rw [hsz.out] at hCS
  have HNS := Lib.hid hNS; clear hNS
  have HNB := Lib.hid hNB; clear hNB
  have Hn := Lib.hid hn
  rw [← hn] at hp hel
  clear hu hpp h g2 g3 g4 g5 hn hbase hkd hsz
  unfold maxLen at h4
  simp only [Chn.n] at hnat hp
  obtain ⟨NP, hNP⟩ : ∃ k, k = x.places.length + 1 := ⟨_, rfl⟩
  have HNP := Lib.hid hNP
  obtain ⟨PN, hPN⟩ : ∃ k, k = place + n := ⟨_, rfl⟩
  have HPN := Lib.hid hPN
  have hwr : IntKind.i64.wrap ((place : Int) + (n : Int)) = (PN : Int) := by
    rw [hPN, Int.natCast_add]; exact IntWalk.i64_in _ (by omega)
  have hpn1 : place < NP := by omega
  have hpn2 : PN < NP := by omega
  clear hNP hPN
  go_enter Try.func82, Try.ntmps82
  go_wp2_with fail
  refine (Calls.mono (hCS.out _) ?_)
  rintro e w' ⟨rfl, rfl⟩
  go_wp2_with fail
  refine (Calls.mono (specBegins H.out hB hbx Hv.out) ?_)
  rintro e w1 ⟨v1, rfl, hf1⟩
  have hb1 := Lib.hid hf1.bel
  obtain ⟨gb, cb, a1, c1, rfl, hcb, hrb, q1, q2, q3, q4⟩ := gridRow hf1 (mm := NP) (j := place) HNP.out.symm HNS.out.symm hpn1
  have Hrb := Lib.hid hrb
  unfold maxLen at q2 q4
  clear hf1 hrb
  go_wp2_with fail
  refine (Calls.mono (specEnds (H.out.below hb1.out hB hbx) (by have := hb1.out.size; omega) (by have := hb1.out.size; omega) Hv.out) ?_)
  rintro e w2 ⟨v2, rfl, hf2⟩
  have hb2 := Lib.hid (hb1.out.trans (hf2.bel.mono hb1.out.size))
  have hb12 := Lib.hid hf2.bel
  have hf2' : Fresh OII w1 w2 v2 (gridL (x.n + 1) x.S (endsV x)) := hf2
  obtain ⟨ge, ce, a2, c2, rfl, hce, hre, r1, r2, r3, r4⟩ := gridRow hf2' (mm := NP) (j := PN) HNP.out.symm HNS.out.symm hpn2
  have Hre := Lib.hid hre
  unfold maxLen at r2 r4
  clear hf2 hf2' hre hcb q3 q4
  go_wp2_with fail
  refine (Calls.mono (specPairs (H.out.below hb2.out hB hbx) (by have := hb2.out.size; omega) (by have := hb2.out.size; omega) Hv.out) ?_)
  rintro e w3 ⟨v3, rfl, hf3⟩
  have hb3 := Lib.hid (hb2.out.trans (hf3.bel.mono hb2.out.size))
  have hb23 := Lib.hid hf3.bel
  have hf3' : Fresh OII w2 w3 v3 (gridL (x.n + 1) (x.S * x.S) (pairV x x.S)) := hf3
  obtain ⟨M2, hM2⟩ : ∃ k, k = x.S * x.S := ⟨_, rfl⟩
  have HM2 := Lib.hid hM2
  obtain ⟨gp, cp, a3, c3, rfl, hcp, hrp, s1, s2, s3, s4⟩ := gridRow hf3' (mm := NP) (j := PN) HNP.out.symm HM2.out.symm hpn2
  have Hrp := Lib.hid hrp
  unfold maxLen at s2 s4
  clear hf3 hf3' hrp hce r3 r4 hM2
  have e0 : w3.cell? ⟨bx, 0, none⟩ = some (.int .i64 NB) := (hb3.out.cell (p := ⟨bx, 0, none⟩) hbx).trans g0
  go_wp2_with fail
  refine (Calls.mono (specWrong kind hkp.out NB hnat.1.1 hnat.1.2 w3) ?_)
  rintro e w4 ⟨vf, vt, rfl, htwo⟩
  obtain ⟨S1, S2, t1, t2, _, _, _, hb34⟩ := htwo
  have Hb34 := Lib.hid hb34
  have hb4 := Lib.hid (hb3.out.trans (hb34.mono hb3.out.size))
  obtain ⟨L, hL⟩ : ∃ L, L = wrongS kind NB := ⟨_, rfl⟩
  rw [← hL] at t1 t2
  have HL := Lib.hid (show L = wrongP kind x.b by rw [hL, HNB.out]; exact wrongS_eq hkp.out _)
  have hLl : L.length ≤ 50000 := by rw [hL, ← wB_end]; exact wB_len kind hnat.1.1 hnat.1.2 (Nat.le_refl _) (by omega)
  have hrf := OII.leads.to _ _ _ _ (· < w4.heap.size) t1 (OII.ok.lt t1)
  have hrt := OII.leads.to _ _ _ _ (· < w4.heap.size) t2 (OII.ok.lt t2)
  obtain ⟨af, cf, rfl, u1, u2⟩ := hrf.isSlice
  obtain ⟨at', ct, rfl, u3, u4⟩ := hrt.isSlice
  rw [List.length_map] at u1 u3 hrf hrt
  rw [List.length_map, List.length_map]
  have Hrf := Lib.hid hrf
  have Hrt := Lib.hid hrt
  unfold maxLen at u2 u4
  have hbox4 := Lib.hid (H.out.below hb4.out hB hbx)
  have Hrb4 := Lib.hid (RdI.ok.keep Hrb.out (w' := w4) fun k hk => (Hb34.out.block k (by have h5 := hb12.out.size; have h6 := hb23.out.size; omega)).trans ((hb23.out.block k (by have h5 := hb12.out.size; omega)).trans (hb12.out.block k hk)))
  have Hre4 := Lib.hid (RdI.ok.keep Hre.out (w' := w4) fun k hk => (Hb34.out.block k (by have h6 := hb23.out.size; omega)).trans (hb23.out.block k hk))
  have Hrp4 := Lib.hid (RdI.ok.keep Hrp.out (w' := w4) fun k hk => Hb34.out.block k hk)
  clear t1 t2 hb34 hrf hrt hL hcp s3 s4 e0
  have hst0 := Lib.hid (show w4.drewN 0 = w4 from rfl)
  obtain ⟨FA, hFA⟩ : ∃ F, F = all1 x place n := ⟨_, rfl⟩
  obtain ⟨FB, hFB⟩ : ∃ F, F = bad1 x place n := ⟨_, rfl⟩
  have HFA := Lib.hid hFA; clear hFA
  have HFB := Lib.hid hFB; clear hFB
  have hzA := Lib.hid (stP_start FA L)
  have hzB := Lib.hid (stP_start FB L)
  have heA := Lib.hid (show stP FA L NS 0 = allAt x kind place by rw [HFA.out, HL.out, HNS.out, Hn.out]; exact stP_all)
  have heB := Lib.hid (show stP FB L NS 0 = badAt x kind place by rw [HFB.out, HL.out, HNS.out, Hn.out]; exact stP_bad)
  go_wp2
  go_loopw [14, 15, 16] (fun mv av xv wr => ∃ (s m A Z : Nat), s ≤ NS ∧ xv = .int .i64 s ∧ mv = .int .i64 Z ∧ av = .int .i64 A ∧ Hid (A = stP FA L s 0 ∧ Z = stP FB L s 0) ∧ Hid (w4.drewN m = wr)) (fun _ _ xv _ => NS - (intOf xv).toNat)
  case atStart => exact ⟨0, 0, 0, 0, Nat.zero_le _, rfl, rfl, rfl, Lib.hid ⟨hzA.out.symm, hzB.out.symm⟩, hst0⟩
  case round =>
    obtain ⟨s, m, A, Z, hs, rfl, rfl, rfl, hAZ, hm⟩ := hrel
    obtain ⟨W2, rfl⟩ : ∃ W2, W2 = wr := ⟨_, rfl⟩
    have e1 : W2.cell? ⟨bx, 1, none⟩ = some (.int .i64 NS) := by rw [← hm.out]; exact (hb4.out.cell (p := ⟨bx, 1, none⟩) hbx).trans g1
    by_cases hls : s < NS
    · go_wp2
      go_loopw [14, 15, 17] (fun mv av kv wr => ∃ (k m A Z : Nat), k ≤ L.length ∧ kv = .int .i64 k ∧ mv = .int .i64 Z ∧ av = .int .i64 A ∧ Hid (A = stP FA L s k ∧ Z = stP FB L s k) ∧ Hid (w4.drewN m = wr)) (fun _ _ kv _ => L.length - (intOf kv).toNat)
      case atStart => exact ⟨0, _, _, _, Nat.zero_le _, rfl, rfl, rfl, hAZ, hm⟩
      case round =>
        clear e1 hAZ hm
        obtain ⟨k, m, A, Z, hk, rfl, rfl, rfl, hAZ, hm⟩ := hrel
        obtain ⟨W3, rfl⟩ : ∃ W3, W3 = wr := ⟨_, rfl⟩
        have hsS : s < x.S := by rw [← HNS.out]; exact hls
        obtain ⟨b5, o5, w5, rfl, _, hc5, rfl⟩ := Rd.elim Hrb4.out s (by rw [rowL_len]; exact hls)
        rw [rowL_at _ hls] at hc5
        have hc6 : W3.cell? ⟨b5, o5 + s, none⟩ = some (.int .i64 (begV x place s : Nat)) := by rw [← hm.out]; exact hc5
        clear hc5
        by_cases hlk : k < L.length
        · by_cases hz : begV x place s = 0
          · have hAZ2 := Lib.hid (show A = stP FA L (s + 1) 0 ∧ Z = stP FB L (s + 1) 0 from
              ⟨hAZ.out.1.trans (stP_done FA L s k fun p => by rw [HFA.out]; exact all1_zero hz), hAZ.out.2.trans (stP_done FB L s k fun p => by rw [HFB.out]; exact bad1_zero hz)⟩)
            rw [hz] at hc6
            have hc7 : W3.cell? ⟨b5, o5 + s, none⟩ = some (.int .i64 0) := hc6
            clear hc6 hz
            go_wp2
            go_roundw
            case rel => exact ⟨s + 1, _, _, _, by omega, by go_num, rfl, rfl, hAZ2, hm⟩
            case measure => simp [intOf]; omega
          · have hgt : 0 < begV x place s := by omega
            have hmem : nth L k ∈ L := nth_mem hlk
            have hnl : nth (L.map Prod.fst) k = (nth L k).1 := nth_map hlk
            have hnl2 : nth (L.map Prod.snd) k = (nth L k).2 := nth_map hlk
            have hpd := wrongP_digs (kind := kind) (b := x.b) (by rw [← HNB.out]; exact hnat.1.1) (fun h5 => by rw [← HNB.out]; exact hk10.out h5) (by rw [← HL.out]; exact hmem)
            obtain ⟨p1, p2, p3, p4⟩ := hpd
            rw [← Hn.out] at p3 p4
            have hpl : place + n ≤ x.n := hp
            have hr1 := Hv.out.runLt p1 (k := place) (s := s) (by omega) hsS
            have hr2 := Hv.out.runLt p2 (k := place) (s := s) (by omega) hsS
            obtain ⟨b6, o6, a6, c6, rfl, _, hc8, y1, y2, hr6⟩ := Rd.row Hrf.out (x := k) (by rw [List.length_map]; exact hlk)
            obtain ⟨b7, o7, a7, c7, rfl, _, hc9, y3, y4, hr7⟩ := Rd.row Hrt.out (x := k) (by rw [List.length_map]; exact hlk)
            rw [hnl] at hc8 hr6
            rw [hnl2] at hc9 hr7
            have hc8' : W3.cell? ⟨b6, o6 + k, none⟩ = some (.slice a6 (nth L k).1.length c6) := by rw [← hm.out]; exact hc8
            have hc9' : W3.cell? ⟨b7, o7 + k, none⟩ = some (.slice a7 (nth L k).2.length c7) := by rw [← hm.out]; exact hc9
            have hbox3 : BoxC (· < B) W3 bx x := by rw [← hm.out]; exact hbox4.out.draws m
            have hr6' : RdI (· < w4.heap.size) W3 (.slice a6 (nth L k).1.length c6) (nth L k).1 := by rw [← hm.out]; exact rd_draws RdI.ok hr6 m
            have hr7' : RdI (· < w4.heap.size) W3 (.slice a7 (nth L k).2.length c7) (nth L k).2 := by rw [← hm.out]; exact rd_draws RdI.ok hr7 m
            have hcl1 := Lib.hid (fun q => specRun (hbox3.draws q) Hv.out place s (rd_draws RdI.ok hr6' q) p1 (by omega) hsS)
            have hcl2 := Lib.hid (fun q => specRun (hbox3.draws q) Hv.out place s (rd_draws RdI.ok hr7' q) p2 (by omega) hsS)
            rw [← HNS.out] at hr1 hr2
            obtain ⟨i1, i2, i3⟩ := pairIx NS (runN x place s (nth L k).1) (runN x place s (nth L k).2) hnat.2.1.2 hr1 hr2
            obtain ⟨b8, o8, w8, rfl, _, hd1, rfl⟩ := Rd.elim Hre4.out (runN x place s (nth L k).1) (by rw [rowL_len]; exact hr1)
            obtain ⟨b9, o9, w9, rfl, _, hd2, rfl⟩ := Rd.elim Hrp4.out (runN x place s (nth L k).1 * NS + runN x place s (nth L k).2) (by rw [rowL_len, HM2.out, ← HNS.out]; exact i1)
            rw [rowL_at _ hr1] at hd1
            rw [rowL_at _ (by rw [HM2.out, ← HNS.out]; exact i1), ← HNS.out, pairV_at x hr2] at hd2
            have hstA := stP_succ FA L s hlk
            have hstB := stP_succ FB L s hlk
            have ea : FA (nth L k) s = begV x place s * endsV x PN (runN x place s (nth L k).1) := by rw [HFA.out, HPN.out]; rfl
            have eb : FB (nth L k) s = begV x place s * bothV x PN (runN x place s (nth L k).1) (runN x place s (nth L k).2) := by rw [HFB.out, HPN.out]; rfl
            have hleA := stP_le FA L (s := s) (k := k + 1) (S := x.S) hsS
            have hleB := stP_le FB L (s := s) (k := k + 1) (S := x.S) hsS
            have hall := Hv.out.allAtLe (kind := kind) (place := place) (by rw [← Hn.out]; exact hp)
            have hbad := badAt_le_allAt x kind place
            have hallE : (sumN x.S fun r => sumL L fun p => FA p r) = allAt x kind place := by rw [HFA.out, HL.out, Hn.out]; exact (allAt_eq x kind place).symm
            have hbadE : (sumN x.S fun r => sumL L fun p => FB p r) = badAt x kind place := by rw [HFB.out, HL.out, Hn.out]; exact (badAt_eq x kind place).symm
            rw [hallE, hstA, ea, ← hAZ.out.1] at hleA
            rw [hbadE, hstB, eb, ← hAZ.out.2] at hleB
            rw [ea, ← hAZ.out.1] at hstA
            rw [eb, ← hAZ.out.2] at hstB
            have HstA := Lib.hid hstA.symm
            have HstB := Lib.hid hstB.symm
            have hlA : A + begV x place s * endsV x PN (runN x place s (nth L k).1) ≤ 36000000000000000 := by omega
            have hlZ : Z + begV x place s * bothV x PN (runN x place s (nth L k).1) (runN x place s (nth L k).2) ≤ 36000000000000000 := by omega
            have hln1 := p3
            have hln2 := p4
            clear hstA hstB ea eb hleA hleB hall hbad hallE hbadE hr6 hr7 hr6' hr7' hbox3 hc8 hc9 hz hsS hmem hnl hnl2 p1 p2
            rw [p3] at hc8' hcl1
            rw [p4] at hc9' hcl2
            clear p3 p4 hln1 hln2
            have hd1' : w4.cell? ⟨b8, o8 + runN x place s (nth L k).1, none⟩ = some (.int .i64 (endsV x PN (runN x place s (nth L k).1) : Nat)) := hd1
            have hd2' : w4.cell? ⟨b9, o9 + (runN x place s (nth L k).1 * NS + runN x place s (nth L k).2), none⟩ = some (.int .i64 (bothV x PN (runN x place s (nth L k).1) (runN x place s (nth L k).2) : Nat)) := hd2
            clear hd1 hd2
            generalize begV x place s = Mb at *
            generalize runN x place s (nth L k).1 = ra at *
            generalize runN x place s (nth L k).2 = rb at *
            generalize endsV x PN ra = E1 at *
            generalize bothV x PN ra rb = E2 at *
            have mA : ((Mb * E1 : Nat) : Int) = (Mb : Int) * (E1 : Int) := Int.natCast_mul _ _
            have mZ : ((Mb * E2 : Nat) : Int) = (Mb : Int) * (E2 : Int) := Int.natCast_mul _ _
            have v1 : IntKind.i64.wrap ((Mb : Int) * (E1 : Int)) = (Mb : Int) * (E1 : Int) := IntWalk.i64_in _ (by omega)
            have v2 : IntKind.i64.wrap ((A : Int) + (Mb : Int) * (E1 : Int)) = (A : Int) + (Mb : Int) * (E1 : Int) := IntWalk.i64_in _ (by omega)
            have v3 : IntKind.i64.wrap ((Mb : Int) * (E2 : Int)) = (Mb : Int) * (E2 : Int) := IntWalk.i64_in _ (by omega)
            have v4 : IntKind.i64.wrap ((Z : Int) + (Mb : Int) * (E2 : Int)) = (Z : Int) + (Mb : Int) * (E2 : Int) := IntWalk.i64_in _ (by omega)
            have hfA := Lib.hid (show Value.int .i64 ((A : Int) + (Mb : Int) * (E1 : Int)) = .int .i64 (A + Mb * E1 : Nat) by rw [Int.natCast_add, mA])
            have hfZ := Lib.hid (show Value.int .i64 ((Z : Int) + (Mb : Int) * (E2 : Int)) = .int .i64 (Z + Mb * E2 : Nat) by rw [Int.natCast_add, mZ])
            generalize hip : ra * NS + rb = ip at *
            generalize hiq : ra * NS = iq at *
            clear hip hiq mA mZ
            have hM2 : ip < M2 := by rw [HM2.out, ← HNS.out]; exact i1
            have k1 : (0 : Int) ≤ (ra : Int) := by omega
            have k2 : (ra : Int) < (NS : Int) := by omega
            have k3 : (0 : Int) ≤ (ip : Int) := by omega
            have k4 : (ip : Int) < (M2 : Int) := by omega
            have k5 : (0 : Int) ≤ (s : Int) := by omega
            have k6 : (s : Int) < (NS : Int) := by omega
            have f1 : W3.cell? ⟨bx, 1, none⟩ = some (.int .i64 NS) := by rw [← hm.out]; exact (hb4.out.cell (p := ⟨bx, 1, none⟩) hbx).trans g1
            have f2 : W3.cell? ⟨b8, o8 + ra, none⟩ = some (.int .i64 (E1 : Nat)) := by rw [← hm.out]; exact hd1'
            have f3 : W3.cell? ⟨b9, o9 + ip, none⟩ = some (.int .i64 (E2 : Nat)) := by rw [← hm.out]; exact hd2'
            clear hlA hlZ i1 hd1' hd2'
            have hq0 := Lib.hid (by have h := hcl1.out 0; rwa [World.drewN_zero] at h)
            have hfin := Lib.hid (show (A + Mb * E1 = stP FA L s (k + 1) ∧ Z + Mb * E2 = stP FB L s (k + 1)) from ⟨HstA.out, HstB.out⟩)
            have hmm := Lib.hid (fun q => show w4.drewN (m + q) = W3.drewN q by rw [← hm.out, World.drewN_drewN])
            go_wp2_with fail
            refine (Calls.mono hq0.out ?_)
            rintro e w5 ⟨rfl, m5, rfl⟩
            go_wp2_with fail
            refine (Calls.mono (hcl2.out m5) ?_)
            rintro e w6 ⟨rfl, m6, rfl⟩
            go_wp2
            go_quiet (fail)
            go_wp2
            go_quiet (fail)
            go_wp2
            go_roundw
            case rel => exact ⟨k + 1, _, _, _, by omega, by go_num, hfZ.out, hfA.out, hfin, Lib.hid (hmm.out _)⟩
            case measure => simp [intOf]; omega
        · obtain ⟨hkl⟩ : Nonempty (k = L.length) := ⟨by omega⟩
          have hAZ2 := Lib.hid (show A = stP FA L (s + 1) 0 ∧ Z = stP FB L (s + 1) 0 by rw [hkl] at hAZ; exact ⟨hAZ.out.1.trans (stP_next FA L s), hAZ.out.2.trans (stP_next FB L s)⟩)
          clear hkl
          go_wp2
          go_roundw
          case rel => exact ⟨s + 1, _, _, _, by omega, by go_num, rfl, rfl, hAZ2, hm⟩
          case measure => simp [intOf]; omega
    · obtain ⟨hsn⟩ : Nonempty (s = NS) := ⟨by omega⟩
      have hAZ2 := Lib.hid (show A = allAt x kind place ∧ Z = badAt x kind place by rw [hsn] at hAZ; exact ⟨hAZ.out.1.trans heA.out, hAZ.out.2.trans heB.out⟩)
      have hbw := Lib.hid (show Below w.heap.size w W2 by rw [← hm.out]; exact Below.draws hb4.out m)
      clear hsn
      go_wp2
      exact bodyPost_ret (v := .tuple #[.int .i64 (Z : Nat), .int .i64 (A : Nat)]) (by simp [results, Try.results82, go_sem]) rfl ⟨by rw [hAZ2.out.1, hAZ2.out.2], hbw.out⟩
end Go.Proofs.Ytcjmkiedcmlpcaa
