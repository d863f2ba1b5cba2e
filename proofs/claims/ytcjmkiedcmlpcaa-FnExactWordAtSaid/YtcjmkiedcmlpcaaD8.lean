/- WordAt, walked on both sides. -/
import Derived.Test.YtcjmkiedcmlpcaaD7
namespace Go.Proofs.Ytcjmkiedcmlpcaa
open Go.RowKit
set_option linter.unusedVariables false

def wrdB (x : Chn) (R : Int) : Bool := vC x && inB R 0 ((endsV x 0 x.start.toNat : Nat) - 1)
def wrdS (x : Chn) (R : Int) : ByteArray := if wrdB x R then wordS (wordG x R.toNat) else ⟨#[]⟩
theorem wrd_no {x : Chn} {R : Int} (h : wrdB x R = false) : wrdS x R = ⟨#[]⟩ := by simp [wrdS, h]
theorem wrd_yes {x : Chn} {R : Int} (h : wrdB x R = true) : wrdS x R = wordS (wordG x R.toNat) := by simp [wrdS, h]
theorem wrdB_v {x : Chn} {R : Int} (h : vC x = false) : wrdB x R = false := by simp [wrdB, h]
theorem wrdB_at {x : Chn} {R : Int} {b : Bool} (h : vC x = true) (h2 : inB R 0 ((endsV x 0 x.start.toNat : Nat) - 1) = b) : wrdB x R = b := by simp [wrdB, h, h2]
theorem wordG_ok {x : Chn} (hv : VC x) {R : Nat} (hR : R < endsV x 0 x.start.toNat) : (wordG x R).length = x.n ∧ (∀ i, i < (wordG x R).length → 0 ≤ nth (wordG x R) i ∧ nth (wordG x R) i < 36) := by
  have h := wordTo_inv hv hR x.n (Nat.le_refl _)
  have hb := hv.nat.1
  have hl : (wordG x R).length = x.n := h.len
  refine ⟨hl, fun i hi => ?_⟩
  have := h.sym i (by omega)
  unfold wordG
  omega

set_option maxRecDepth 10000 in
theorem implWordAtF {B : Nat} {v : Value} {x : Chn} {w : World} (h : RdC (· < B) w v x) (hB : B ≤ w.heap.size) (hn : szC x ≤ 1048576) (R : Int) :
    Calls Try.prog 36 #[v, .int .i64 R] w fun e w' => e = .returned (.tuple #[.string (wrdS x R), .bool (wrdB x R)]) ∧ Below w.heap.size w w' := by
  have Hr := Lib.hid h
  obtain ⟨u, p, rfl, hu, hp⟩ := h
  obtain ⟨a, c, rfl, h1, h2⟩ := hu.isSlice
  obtain ⟨a', c', rfl, h3, h4⟩ := hp.isSlice
  have hbx := Lib.hid ((Below.refl w.heap.size w).alloc (Nat.le_refl _) (.cells #[.int .i64 x.base, .int .i64 x.states, .int .i64 x.start, .int .i64 x.stop, .slice a x.tables.length c, .slice a' x.places.length c'] 28))
  have Hbx := Lib.hid (BoxC.boxed hu hp hB); clear hu hp
  have hsz := Lib.hid (alloc_size w (.cells #[.int .i64 x.base, .int .i64 x.states, .int .i64 x.start, .int .i64 x.stop, .slice a x.tables.length c, .slice a' x.places.length c'] 28))
  unfold aggC
  cases hv : vC x
  · have hr := Lib.hid (wrdB_v (R := R) hv)
    have Hv := Lib.hid hv; clear hv
    go_enter Try.func36, Try.ntmps36
    go_wp2_with fail
    refine (implValidChain (Rd.below RdC.ok Hr.out (hbx.out.mono hB)) (by rw [hsz.out]; omega) hn _ Hv.out).mono ?_
    rintro e w1 ⟨rfl, hb⟩
    have Hb := Lib.hid (hbx.out.trans (hb.mono (by rw [hsz.out]; omega))); clear hb
    go_wp2
    go_ret2
    exact ⟨ret_sb (wrd_no hr.out).symm hr.out.symm, Hb.out⟩
  · have hvc := vC_iff.1 hv
    have hnat := hvc.nat
    have hst := hvc.start
    have hE15 := hvc.endsLe (k := 0) x.start.toNat
    have Hv := Lib.hid hv
    have Hvc := Lib.hid hvc
    obtain ⟨NS, hNS⟩ : ∃ n : Nat, n = x.S := ⟨_, rfl⟩
    have hs2 : x.start < (NS : Int) := by rw [hNS]; show x.start < (x.states.toNat : Int); omega
    have HNS := Lib.hid hNS
    clear hv hvc hNS
    simp only [Chn.n] at hnat
    go_enter Try.func36, Try.ntmps36
    go_wp2_with fail
    refine (implValidChain (Rd.below RdC.ok Hr.out (hbx.out.mono hB)) (by rw [hsz.out]; omega) hn _ Hv.out).mono ?_
    rintro e w1 ⟨rfl, hb⟩
    have hs1 : w.heap.size < w1.heap.size := by have := hb.size; rw [hsz.out] at this; omega
    have Hb1 := Lib.hid (Hbx.out.keep fun k hk => hb.block k (by rw [hsz.out]; omega))
    have Hb := Lib.hid (hbx.out.trans (hb.mono (by rw [hsz.out]; omega))); clear hb
    go_wp2_with fail
    refine (implEnds Hb1.out (show B ≤ w1.heap.size by omega) hs1 Hvc.out).mono ?_
    rintro e w2 ⟨ve, rfl, hf⟩
    obtain ⟨g, cg, gx, cx, rfl, hq1, hk1, hq2, hk2, hk3, hb2⟩ := ends_post Hb1.out hs1 Hvc.out hf HNS.out
    have hs12 := hb2.size
    have Hb2 := Lib.hid (Hb1.out.below hb2 (by omega) hs1)
    have Hbb := Lib.hid (Hb.out.trans (hb2.mono (by omega)))
    have He := Lib.hid (show RdII (· < w2.heap.size) w2 _ (endsG x) from hf.rd OII.leads OII.ok)
    clear hf hb2
    have hEE := Lib.hid (wrdB_at (R := R) (b := inB R 0 ((endsV x 0 x.start.toNat : Nat) - 1)) Hv.out rfl)
    have hlt := Lib.hid (fun (h : inB R 0 ((endsV x 0 x.start.toNat : Nat) - 1) = true) => show ∃ N : Nat, R = N ∧ N < endsV x 0 x.start.toNat by have := inB_true.1 h; exact ⟨R.toNat, by omega, by omega⟩)
    have hwr : IntKind.i64.wrap (((endsV x 0 x.start.toNat : Nat) : Int) - 1) = ((endsV x 0 x.start.toNat : Nat) : Int) - 1 := IntWalk.i64_in _ (by omega)
    cases hin : inB R 0 (((endsV x 0 x.start.toNat : Nat) : Int) - 1)
    · rw [hin] at hEE
      go_wp2
      go_quiet ((go_at_call 53; exact quiet_same (implIn _ _ _ _ (by first | assumption | (rw [hwr]; assumption)) _)))
      go_wp2
      go_ret2
      exact ⟨ret_sb (wrd_no hEE.out).symm hEE.out.symm, (Below.draws Hbb.out _)⟩
    · rw [hin] at hEE
      obtain ⟨N, rfl, hR1⟩ := hlt.out hin
      clear hlt
      have hok := Lib.hid (wordG_ok Hvc.out hR1)
      have HR1 := Lib.hid hR1; clear hR1
      go_wp2
      go_quiet ((go_at_call 53; exact quiet_same (implIn _ _ _ _ (by first | assumption | (rw [hwr]; assumption)) _)))
      have Hb3 := Lib.hid (Hb2.out.draws nq)
      have He3 := Lib.hid (show RdII (· < (w2.drewN nq).heap.size) (w2.drewN nq) _ (endsG x) from rd_draws RdII.ok He.out nq)
      have Hbb3 := Lib.hid (Below.draws Hbb.out nq)
      have hs3 : w1.heap.size ≤ (w2.drewN nq).heap.size := hs12
      generalize w2.drewN nq = w3 at *
      clear hk1 hq2 hk2 hk3 hwr
      go_wp2_with fail
      refine (implWordAt Hb3.out (by omega) (by omega) Hvc.out He3.out hq1 _ HR1.out).mono ?_
      rintro e w4 ⟨vw, rfl, hf4⟩
      have hr4 := Lib.hid (hf4.rd OI.leads OI.ok)
      have Hbb4 := Lib.hid (Hbb3.out.trans (hf4.bel.mono (by omega)))
      have hs4 := hf4.bel.size
      clear hf4
      go_wp2_with fail
      refine (implWordOf hr4.out (fun k hk => hk) (by rw [hok.out.1]; show x.places.length ≤ _; omega) hok.out.2).mono ?_
      rintro e w5 ⟨rfl, hb5⟩
      have Hbb5 := Lib.hid (Hbb4.out.trans (hb5.mono (by omega)))
      go_wp2
      go_ret2
      exact ⟨ret_sb (by rw [wrd_yes hEE.out]; rfl) hEE.out.symm, Hbb5.out⟩

set_option maxHeartbeats 3200000 in
set_option maxRecDepth 10000 in
theorem specWordAt {B : Nat} {v : Value} {x : Chn} {w : World} (h : RdC (· < B) w v x) (hB : B ≤ w.heap.size) (R : Int) :
    Calls Try.prog 35 #[v, .int .i64 R] w fun e w' => e = .returned (.tuple #[.string (wrdS x R), .bool (wrdB x R)]) ∧ Below w.heap.size w w' := by
  obtain ⟨u, p, rfl, hu, hp⟩ := h
  obtain ⟨a, c, rfl, h1, h2⟩ := hu.isSlice
  obtain ⟨a', c', rfl, h3, h4⟩ := hp.isSlice
  have hbx := Lib.hid ((Below.refl w.heap.size w).alloc (Nat.le_refl _) (.cells #[.int .i64 x.base, .int .i64 x.states, .int .i64 x.start, .int .i64 x.stop, .slice a x.tables.length c, .slice a' x.places.length c'] 28))
  have Hbx := Lib.hid (BoxC.boxed hu hp hB); clear hu hp
  have hsz := Lib.hid (alloc_size w (.cells #[.int .i64 x.base, .int .i64 x.states, .int .i64 x.start, .int .i64 x.stop, .slice a x.tables.length c, .slice a' x.places.length c'] 28))
  unfold aggC
  cases hv : vC x
  · have hr := Lib.hid (wrdB_v (R := R) hv)
    have Hv := Lib.hid hv; clear hv
    go_enter Try.func35, Try.ntmps35
    go_wp2_with fail
    refine (specL02Is Hbx.out _ Hv.out).mono ?_
    rintro e w1 ⟨rfl, m, rfl⟩
    go_wp2
    go_ret2
    exact ⟨ret_sb (wrd_no hr.out).symm hr.out.symm, hbx.out.trans ⟨rfl, rfl, rfl, Nat.le_refl _, fun _ _ => rfl⟩⟩
  · have hvc := vC_iff.1 hv
    have hnat := hvc.nat
    have hst := hvc.start
    have hE15 := hvc.endsLe (k := 0) x.start.toNat
    have hv2 := Lib.hid hv
    have Hv := Lib.hid hvc
    obtain ⟨NS, hNS⟩ : ∃ n : Nat, n = x.S := ⟨_, rfl⟩
    obtain ⟨NB, hNB⟩ : ∃ n : Nat, n = x.b := ⟨_, rfl⟩
    obtain ⟨NT, hNT⟩ : ∃ n : Nat, n = x.start.toNat := ⟨_, rfl⟩
    have hs2 : x.start < (NS : Int) := by rw [hNS]; show x.start < (x.states.toNat : Int); omega
    have HNS := Lib.hid hNS
    have HNB := Lib.hid hNB
    have HNT := Lib.hid hNT
    rw [← hNS, ← hNB, ← hNT] at hnat
    clear hv hvc hNS hNB hNT
    simp only [Chn.n] at hnat
    unfold maxLen at h2 h4
    go_enter Try.func35, Try.ntmps35
    go_wp2_with fail
    refine (specL02Is Hbx.out _ hv2.out).mono ?_
    rintro e w1 ⟨rfl, m, rfl⟩
    have Hb1 := Lib.hid (Hbx.out.draws m)
    have Hb := Lib.hid (Below.draws hbx.out m)
    have hs1 : w.heap.size < ((w.alloc (.cells #[.int .i64 x.base, .int .i64 x.states, .int .i64 x.start, .int .i64 x.stop, .slice a x.tables.length c, .slice a' x.places.length c'] 28)).drewN m).heap.size := by have := hsz.out; show w.heap.size < (w.alloc _).heap.size; omega
    generalize (w.alloc (.cells #[.int .i64 x.base, .int .i64 x.states, .int .i64 x.start, .int .i64 x.stop, .slice a x.tables.length c, .slice a' x.places.length c'] 28)).drewN m = w1 at *
    obtain ⟨bx, hbxe⟩ : ∃ bx, bx = w.heap.size := ⟨_, rfl⟩
    rw [← hbxe] at Hb1
    have hs1' : bx < w1.heap.size := by omega
    have HBX := Lib.hid hbxe
    go_wp2_with fail
    rw [← HBX.out]
    refine (specEnds Hb1.out (show B ≤ w1.heap.size by omega) hs1' Hv.out).mono ?_
    rintro e w2 ⟨ve, rfl, hf⟩
    obtain ⟨be, ce, gx, cx, rfl, hce, hk1, hq2, hk2, hk3, hb2⟩ := ends_post Hb1.out hs1' Hv.out hf HNS.out
    have hs12 := hb2.size
    have Hb2 := Lib.hid (Hb1.out.below hb2 (by omega) hs1')
    have Hbb := Lib.hid (Hb.out.trans (hb2.mono (by omega)))
    have He2 := Lib.hid (show RdII (· < w2.heap.size) w2 _ (endsG x) from hf.rd OII.leads OII.ok)
    clear hf hb2 hbxe
    have hEE := Lib.hid (wrdB_at (R := R) (b := inB R 0 ((endsV x 0 x.start.toNat : Nat) - 1)) hv2.out rfl)
    have hlt := Lib.hid (fun (h : inB R 0 ((endsV x 0 x.start.toNat : Nat) - 1) = true) => show ∃ N : Nat, R = N ∧ N < endsV x 0 x.start.toNat by have := inB_true.1 h; exact ⟨R.toNat, by omega, by omega⟩)
    have hwr : IntKind.i64.wrap (((endsV x 0 x.start.toNat : Nat) : Int) - 1) = ((endsV x 0 x.start.toNat : Nat) : Int) - 1 := IntWalk.i64_in _ (by omega)
    cases hin : inB R 0 (((endsV x 0 x.start.toNat : Nat) : Int) - 1)
    · rw [hin] at hEE
      go_wp2
      go_quiet ((go_at_call 69; exact quiet_same (specIn _ _ _ _ (by first | assumption | (rw [hwr]; assumption)) _)))
      go_wp2
      go_ret2
      exact ⟨ret_sb (wrd_no hEE.out).symm hEE.out.symm, (Below.draws Hbb.out _)⟩
    · rw [hin] at hEE
      obtain ⟨R, rfl, hR1⟩ := hlt.out hin
      clear hlt
      have hok := Lib.hid (wordG_ok Hv.out hR1)
      have Hinv := Lib.hid (fun k hk => wordTo_inv Hv.out hR1 k hk)
      clear hR1
      go_wp2
      go_quiet ((go_at_call 69; exact quiet_same (specIn _ _ _ _ (by first | assumption | (rw [hwr]; assumption)) _)))
      have Hb3 := Lib.hid (Hb2.out.draws nq)
      have He := Lib.hid (show RdII (· < (w2.drewN nq).heap.size) (w2.drewN nq) _ (endsG x) from rd_draws RdII.ok He2.out nq)
      have Hbb3 := Lib.hid (Below.draws Hbb.out nq)
      have hs3 : w1.heap.size ≤ (w2.drewN nq).heap.size := hs12
      generalize w2.drewN nq = w3 at *
      clear hk1 hq2 hk2 hk3 hwr He2 Hb2
      have hB3 : B ≤ w3.heap.size := by omega
      have hbx3 : bx < w3.heap.size := by omega
      obtain ⟨_, _, _, _, g0, g1, g2, g3, g4, g5, _, _, _, _, _⟩ := Hb3.out.cells
      rw [show x.start = (NT : Int) by rw [HNT.out]; omega] at g2
      clear g0 g1 g3 g4
      go_wp2
      go_loopw [1, 7, 8, 9] (fun rv vo sv i wr => ∃ (k : Nat) (t : List Int × Nat × Nat), k ≤ x.places.length ∧ i = .int .i64 k ∧ Hid (wordTo x R k = t) ∧ rv = .int .i64 t.2.2 ∧ sv = .int .i64 t.2.1 ∧ Fresh OI w3 wr vo t.1) (fun _ _ _ i _ => x.places.length - (intOf i).toNat)
      case atStart =>
        refine ⟨0, ([], NT, R), Nat.zero_le _, rfl, Lib.hid ?_, rfl, rfl, ?_⟩
        · show ([], x.start.toNat, R) = _
          rw [HNT.out]
        · exact (show Fresh OI w3 (w3.alloc (.cells #[] 2)) (.slice (some ⟨w3.heap.size, 0, none⟩) 0 0) [] from Fresh.empty (Below.refl _ _))
      case round =>
        obtain ⟨k, ⟨ds, s, r⟩, hk, rfl, ht, rfl, rfl, hf⟩ := hrel
        obtain ⟨W2, rfl⟩ : ∃ W2, W2 = wr := ⟨_, rfl⟩
        have hinv := Hinv.out k hk
        rw [ht.out] at hinv
        have hl2 := Lib.hid (show ds.length ≤ 20 by have := hinv.len; simp only at this; omega)
        have Hf := Lib.hid hf
        have g5' := (hf.bel.cell (p := ⟨bx, 5, none⟩) hbx3).trans g5
        clear hf
        by_cases hlt : k < x.places.length
        · have Hbox := Lib.hid (Hb3.out.below Hf.out.bel hB3 hbx3)
          have Hrow := Lib.hid (Rd.below RdII.ok He.out Hf.out.bel)
          have hs : s < x.S := hinv.state
          have hr0 : r < restS (behind x k s) 0 x.b := by rw [behind_rest hlt]; exact hinv.rank
          have hr15 : r ≤ 1000000000000000 := Nat.le_trans (Nat.le_of_lt hinv.rank) (Hv.out.endsLe s)
          have Hs := Lib.hid hs
          have Hst := Lib.hid (show wordTo x R (k + 1) = (ds ++ [((pickD (behind x k s) x.b 0 r).1 : Int)], nxt x k s (pickD (behind x k s) x.b 0 r).1, (pickD (behind x k s) x.b 0 r).2) by
            show ((wordTo x R k).1 ++ _, _, _) = _
            rw [ht.out])
          have Hr0 := Lib.hid (show r < restS (behind x k s) 0 (NB - 0) by rw [HNB.out]; exact hr0)
          clear hinv hs hr0
          go_wp2
          go_loopw [1, 10] (fun rv dv wi => ∃ d q m : Nat, rv = .int .i64 q ∧ dv = .int .i64 d ∧ q ≤ 1000000000000000 ∧ Hid (pickD (behind x k s) (NB - d) d q = pickD (behind x k s) NB 0 r) ∧ Hid (q < restS (behind x k s) d (NB - d)) ∧ Hid (W2.drewN m = wi)) (fun _ d _ => NB - (intOf d).toNat)
          case atStart => exact ⟨0, r, 0, rfl, rfl, hr15, Lib.hid rfl, Hr0, Lib.hid rfl⟩
          case round =>
            obtain ⟨d, q, m, rfl, rfl, hq, hpk, hqr, hm⟩ := hrel
            obtain ⟨W3, rfl⟩ : ∃ W3, W3 = wr := ⟨_, rfl⟩
            have Hbox3 := Lib.hid (show BoxC (· < B) W3 bx x by rw [← hm.out]; exact Hbox.out.draws m)
            have Hrow3 := Lib.hid (show RdII (· < w3.heap.size) W3 (.slice (some ⟨be, 0, none⟩) (x.places.length + 1) ce) (endsG x) by rw [← hm.out]; exact rd_draws RdII.ok Hrow.out m)
            have hd : d < NB := restS_lt hqr.out
            have hn2 := Hv.out.cellN (show k < x.n from hlt) Hs.out (show d < x.b by rw [← HNB.out]; exact hd)
            obtain ⟨b2, o2, c2, q1, q2, q3⟩ := ends_cell Hrow3.out (i := k + 1) (s := nxt x k s d) (show k + 1 ≤ x.n from hlt) hn2.2 HNS.out
            have hcl := Lib.hid (fun m2 => specNext (Hbox3.out.draws m2) Hv.out k s d hlt Hs.out (show d < x.b by rw [← HNB.out]; exact hd))
            have hle := Hv.out.endsLe (k := k + 1) (nxt x k s d)
            have hnS : nxt x k s d < NS := by rw [HNS.out]; exact hn2.2
            rw [Nat.zero_add] at q1
            clear hn2
            have hpu := Lib.hid (fun (h : ¬ q < endsV x (k + 1) (nxt x k s d)) => show pickD (behind x k s) (NB - (d + 1)) (d + 1) (q - endsV x (k + 1) (nxt x k s d)) = pickD (behind x k s) NB 0 r by rw [← hpk.out, pickD_go hd h]; rfl)
            have hps := Lib.hid (fun (h : q < endsV x (k + 1) (nxt x k s d)) => show pickD (behind x k s) NB 0 r = (d, q) by rw [← hpk.out, pickD_stop hd h])
            have hrs := Lib.hid (fun (h : ¬ q < endsV x (k + 1) (nxt x k s d)) => show q - endsV x (k + 1) (nxt x k s d) < restS (behind x k s) (d + 1) (NB - (d + 1)) from restS_go hd hqr.out h)
            generalize hNX : nxt x k s d = nx at *
            have HNX := Lib.hid hNX; clear hNX
            generalize hEE : endsV x (k + 1) nx = E at *
            have HE := Lib.hid hEE; clear hEE
            have wf1 : IntKind.i64.wrap ((k : Int) + 1) = (k : Int) + 1 := IntWalk.i64_in _ (by omega)
            have wf3 : (0 : Int) ≤ (k : Int) + 1 := by omega
            have wf4 : ((k : Int) + 1).toNat = k + 1 := by omega
            by_cases hc : q < E
            · have Hps := Lib.hid (hps.out hc)
              clear hpu hrs hps hpk hqr
              go_wp2
              go_quiet ((go_at_call 76; exact quiet_draws (hcl.out _)))
              have hf4 := Lib.hid (Hf.out.stay OI.ok (bel_draws (draws_more hm.out nq)))
              have hbl4 := Lib.hid (bel_draws (draws_more hm.out nq))
              generalize W3.drewN nq = W4 at *
              clear hcl q1 q3 wf1 wf3 wf4
              have hcl5 := Lib.hid (fun w5 (hb5 : Below w3.heap.size w3 w5) => specNext ((Hb3.out.below hb5 hB3 hbx3).draws 0) Hv.out k s d hlt Hs.out (show d < x.b by rw [← HNB.out]; exact hd))
              go_wp2_with (first
                | (at_builtin; refine wpList_pushF rfl _ _ 23 rfl (f := fI) (fun _ => rfl) Try.underlying23 infoI64 rfl hf4.out (d : Int) (by have := hl2.out; omega) (by have := hl2.out; unfold maxLen; omega) rfl rfl ?_; intro v1 w5 hf5; have Hcl5 := Lib.hid (hcl5.out w5 hf5.bel); have Hf5 := Lib.hid hf5; clear hf5)
                | (refine (Calls.mono Hcl5.out ?_); rintro e w6 ⟨rfl, m6, rfl⟩))
              have Hf6 := Lib.hid (Hf5.out.drewN OI.ok m6)
              go_wp2
              go_roundw
              case rel => exact ⟨k + 1, (ds ++ [(d : Int)], nx, q), by omega, by go_num, Lib.hid (by rw [Hst.out, ← HNB.out, Hps.out, HNX.out]), rfl, by show Value.int .i64 ((nxt x k s d : Nat) : Int) = .int .i64 ((nx : Nat) : Int); rw [HNX.out], Hf6.out⟩
              case measure => simp [intOf]; omega
            · have Hpu := Lib.hid (hpu.out hc)
              have Hrs := Lib.hid (hrs.out hc)
              have wf2 : IntKind.i64.wrap ((q : Int) - E) = (q : Int) - E := IntWalk.i64_in _ (by omega)
              clear hpu hrs hps hpk hqr
              go_wp2
              go_quiet ((go_at_call 76; exact quiet_draws (hcl.out _)))
              obtain ⟨m4, hm4⟩ : ∃ m4, W2.drewN m4 = W3.drewN nq := ⟨_, draws_more hm.out nq⟩
              have hm4 := Lib.hid hm4
              have Hbox4 := Lib.hid (show BoxC (· < B) (W3.drewN nq) bx x by rw [← hm4.out]; exact Hbox.out.draws _)
              have Hrow4 := Lib.hid (show RdII (· < w3.heap.size) (W3.drewN nq) (.slice (some ⟨be, 0, none⟩) (x.places.length + 1) ce) (endsG x) by rw [← hm4.out]; exact rd_draws RdII.ok Hrow.out _)
              generalize W3.drewN nq = W4 at *
              clear hcl q1 q2 q3
              obtain ⟨b2, o2, c2, q1, q2, q3⟩ := ends_cell Hrow4.out (i := k + 1) (s := nx) (show k + 1 ≤ x.n from hlt) (by rw [← HNS.out]; exact hnS) HNS.out
              rw [Nat.zero_add] at q1
              rw [← HNX.out] at q3
              have hcl := Lib.hid (fun m2 => specNext (Hbox4.out.draws m2) Hv.out k s d hlt Hs.out (show d < x.b by rw [← HNB.out]; exact hd))
              rw [HNX.out] at q3 hcl
              have q3' : W4.cell? ⟨b2, o2 + nx, none⟩ = some (.int .i64 E) := by rw [← HE.out]; exact q3
              clear q3
              go_wp2
              go_quiet ((go_at_call 76; exact quiet_draws (hcl.out _)))
              clear hcl q1 q2 q3' wf1 wf3 wf4
              go_wp2
              go_roundw
              case rel => exact ⟨d + 1, q - E, m4 + nq, congrArg (Value.int .i64) (show (q : Int) - E = ((q - E : Nat) : Int) by omega), by go_num, by omega, Hpu, Hrs, Lib.hid (draws_more hm4.out nq)⟩
              case measure => simp [intOf]; omega
        · obtain rfl : k = x.places.length := by omega
          have hr := Lib.hid (show wordG x R = ds by show (wordTo x R x.places.length).1 = ds; rw [ht.out])
          have hr4 := Lib.hid (Hf.out.rd OI.leads OI.ok)
          have Hbb4 := Lib.hid (Hbb3.out.trans (Hf.out.bel.mono (by omega)))
          have hs4 := Hf.out.bel.size
          have hok2 := hok.out
          rw [hr.out] at hok2
          have Hok2 := Lib.hid hok2
          clear hok2 hinv
          go_wp2_with fail
          refine (specFrom hr4.out (fun k hk => hk) (by rw [Hok2.out.1]; show x.places.length ≤ _; omega) Hok2.out.2).mono ?_
          rintro e w5 ⟨rfl, hb5⟩
          have Hbb5 := Lib.hid (Hbb4.out.trans (hb5.mono (by omega)))
          go_wp2
          go_ret2
          exact ⟨ret_sb (by rw [wrd_yes hEE.out, ← hr.out]; rfl) hEE.out.symm, Hbb5.out⟩
end Go.Proofs.Ytcjmkiedcmlpcaa
