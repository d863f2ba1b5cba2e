/- The word of a rank, walked: impl's inner. -/
import Derived.Test.YtnpkanlieflbiaaD4
import Derived.Test.YtnpkanlieflbiaaC4
import Derived.Test.YtnpkanlieflbiaaW1
import Derived.Deep.QuietTactic
import Derived.BigQuiet
import Derived.IntWalk
namespace Go.Proofs.Ytnpkanlieflbiaa
open Go.RowKit
set_option linter.unusedVariables false

theorem ends_cell {P : Nat → Prop} {w : World} {b o n c : Nat} {x : Chn} (h : RdII P w (.slice (some ⟨b, o, none⟩) n c) (endsG x)) {i s : Nat} (hi : i ≤ x.n) (hs : s < x.S) {NS : Nat} (hNS : NS = x.S) :
    ∃ b2 o2 c2, w.cell? ⟨b, o + i, none⟩ = some (.slice (some ⟨b2, o2, none⟩) NS c2) ∧ (NS ≤ c2 ∧ c2 ≤ 9223372036854775807) ∧ w.cell? ⟨b2, o2 + s, none⟩ = some (.int .i64 (endsV x i s)) := by
  subst hNS
  have hg := gridL_grid (x.n + 1) x.S (endsV x)
  have hlen : (endsG x).length = x.n + 1 := hg.1
  have hrow := hg.2 i (by omega)
  have hrl : (nth (endsG x) i).length = x.S := hrow.1
  have hrv : nth (nth (endsG x) i) s = (endsV x i s : Nat) := hrow.2 s hs
  obtain ⟨b', o', u, e, hP, hc, hu⟩ := Rd.elim h i (by omega)
  simp only [Option.some.injEq, Addr.mk.injEq, and_true] at e
  obtain ⟨rfl, rfl⟩ := e
  obtain ⟨a2, c2, rfl, g1, g2, hrd⟩ := hu
  obtain ⟨b2, o2, u2, rfl, hP2, hc2, rfl⟩ := hrd s (by omega)
  rw [hrl] at hc g1
  rw [hrv] at hc2
  unfold maxLen at g2
  exact ⟨b2, o2, c2, hc, ⟨g1, g2⟩, hc2⟩

set_option maxHeartbeats 1600000 in
set_option maxRecDepth 10000 in
theorem implWordAt {B bx : Nat} {x : Chn} {w : World} (h : BoxC (· < B) w bx x) (hB : B ≤ w.heap.size) (hbx : bx < w.heap.size) (hv : VC x) {be oe ce : Nat} (he : RdII (· < w.heap.size) w (.slice (some ⟨be, oe, none⟩) (x.places.length + 1) ce) (endsG x)) (hce : x.places.length + 1 ≤ ce ∧ ce ≤ 9223372036854775807)
    (R : Nat) (hR : R < endsV x 0 x.start.toNat) :
    Calls Try.prog 115 #[.pointer (some ⟨bx, 0, none⟩), .slice (some ⟨be, oe, none⟩) (x.places.length + 1) ce, .int .i64 R] w fun e w' => ∃ v, e = .returned v ∧ Fresh OI w w' v (wordG x R) := by
  have hnat := hv.nat
  have H := Lib.hid h
  have Hv := Lib.hid hv
  have He := Lib.hid he
  have Hinv := Lib.hid (fun k hk => wordTo_inv hv hR k hk)
  have hst := hv.start
  clear hv he
  obtain ⟨a, c, a', c', g0, g1, g2, g3, g4, g5, hu, hp, ⟨h1, h2⟩, h3, h4⟩ := h.cells
  obtain ⟨NS, hNS⟩ : ∃ n : Nat, n = x.S := ⟨_, rfl⟩
  obtain ⟨NB, hNB⟩ : ∃ n : Nat, n = x.b := ⟨_, rfl⟩
  obtain ⟨NT, hNT⟩ : ∃ n : Nat, n = x.start.toNat := ⟨_, rfl⟩
  rw [show x.start = (NT : Int) by rw [hNT]; omega] at g2
  rw [← hNS, ← hNB, ← hNT] at hnat
  have HNS := Lib.hid hNS; clear hNS
  have HNB := Lib.hid hNB; clear hNB
  have HNT := Lib.hid hNT; clear hNT
  clear hu hp h g0 g1 g3 g4 hst hR
  unfold maxLen at h2 h4
  simp only [Chn.n] at hnat
  go_enter Try.func115, Try.ntmps115
  go_wp2
  go_region
  all_goals go_wp2
  go_loopw [2, 7, 8, 21] (fun rv vo sv i wr => ∃ (k : Nat) (t : List Int × Nat × Nat), k ≤ x.places.length ∧ i = .int .i64 k ∧ Hid (wordTo x R k = t) ∧ rv = .int .i64 t.2.2 ∧ sv = .int .i64 t.2.1 ∧ Fresh OI w wr vo t.1) (fun _ _ _ i _ => x.places.length - (intOf i).toNat)
  case atStart =>
    refine ⟨0, ([], NT, R), Nat.zero_le _, rfl, Lib.hid ?_, rfl, rfl, ?_⟩
    · show ([], x.start.toNat, R) = _
      rw [HNT.out]
    · exact (show Fresh OI w (w.alloc (.cells #[] 2)) (.slice (some ⟨w.heap.size, 0, none⟩) 0 0) [] from Fresh.empty (Below.refl _ _)).drew OI.ok
  case round =>
    obtain ⟨k, ⟨ds, s, r⟩, hk, rfl, ht, rfl, rfl, hf⟩ := hrel
    obtain ⟨W2, rfl⟩ : ∃ W2, W2 = wr := ⟨_, rfl⟩
    have hinv := Hinv.out k hk
    rw [ht.out] at hinv
    have hl2 := Lib.hid (show ds.length ≤ 20 by have := hinv.len; simp only at this; omega)
    have Hf := Lib.hid hf
    have g5' := (hf.bel.cell (p := ⟨bx, 5, none⟩) hbx).trans g5
    clear hf
    by_cases hlt : k < x.places.length
    · have Hbox := Lib.hid (H.out.below Hf.out.bel hB hbx)
      have Hrow := Lib.hid (Rd.below RdII.ok He.out Hf.out.bel)
      have hs : s < x.S := hinv.state
      have hr0 : r < restS (behind x k s) 0 x.b := by rw [behind_rest hlt]; exact hinv.rank
      have hr15 : r ≤ 1000000000000000 := Nat.le_trans (Nat.le_of_lt hinv.rank) (Hv.out.endsLe s)
      have Hs := Lib.hid hs
      have Hst := Lib.hid (show wordTo x R (k + 1) = (ds ++ [((pickD (behind x k s) x.b 0 r).1 : Int)], nxt x k s (pickD (behind x k s) x.b 0 r).1, (pickD (behind x k s) x.b 0 r).2) by
        show ((wordTo x R k).1 ++ _, _, _) = _
        rw [ht.out])
      have Hr0 := Lib.hid (show r < restS (behind x k s) 0 (NB - 0) by rw [HNB.out]; exact hr0)
      clear hinv hs hr0
      go_wp2
      go_loopw [2, 10] (fun rv dv wi => ∃ d q m : Nat, rv = .int .i64 q ∧ dv = .int .i64 d ∧ q ≤ 1000000000000000 ∧ Hid (pickD (behind x k s) (NB - d) d q = pickD (behind x k s) NB 0 r) ∧ Hid (q < restS (behind x k s) d (NB - d)) ∧ Hid (W2.drewN m = wi)) (fun _ d _ => NB - (intOf d).toNat)
      case atStart => exact ⟨0, r, 0, rfl, rfl, hr15, Lib.hid rfl, Hr0, Lib.hid rfl⟩
      case round =>
        obtain ⟨d, q, m, rfl, rfl, hq, hpk, hqr, hm⟩ := hrel
        obtain ⟨W3, rfl⟩ : ∃ W3, W3 = wr := ⟨_, rfl⟩
        have Hbox3 := Lib.hid (show BoxC (· < B) W3 bx x by rw [← hm.out]; exact Hbox.out.draws m)
        have Hrow3 := Lib.hid (show RdII (· < w.heap.size) W3 (.slice (some ⟨be, oe, none⟩) (x.places.length + 1) ce) (endsG x) by rw [← hm.out]; exact rd_draws RdII.ok Hrow.out m)
        have hd : d < NB := restS_lt hqr.out
        have hn2 := Hv.out.cellN (show k < x.n from hlt) Hs.out (show d < x.b by rw [← HNB.out]; exact hd)
        obtain ⟨b2, o2, c2, q1, q2, q3⟩ := ends_cell Hrow3.out (i := k + 1) (s := nxt x k s d) (show k + 1 ≤ x.n from hlt) hn2.2 HNS.out
        have hcl := Lib.hid (fun m2 => implNext (Hbox3.out.draws m2) Hv.out k s d hlt Hs.out (show d < x.b by rw [← HNB.out]; exact hd))
        have hle := Hv.out.endsLe (k := k + 1) (nxt x k s d)
        have hnS : nxt x k s d < NS := by rw [HNS.out]; exact hn2.2
        have q1' := q1
        rw [← Nat.add_assoc] at q1'
        clear hn2
        have hpu := Lib.hid (fun (h : ¬ q < endsV x (k + 1) (nxt x k s d)) => show pickD (behind x k s) (NB - (d + 1)) (d + 1) (q - endsV x (k + 1) (nxt x k s d)) = pickD (behind x k s) NB 0 r by rw [← hpk.out, pickD_go hd h]; rfl)
        have hps := Lib.hid (fun (h : q < endsV x (k + 1) (nxt x k s d)) => show pickD (behind x k s) NB 0 r = (d, q) by rw [← hpk.out, pickD_stop hd h])
        have hrs := Lib.hid (fun (h : ¬ q < endsV x (k + 1) (nxt x k s d)) => show q - endsV x (k + 1) (nxt x k s d) < restS (behind x k s) (d + 1) (NB - (d + 1)) from restS_go hd hqr.out h)
        generalize hNX : nxt x k s d = nx at *
        have HNX := Lib.hid hNX; clear hNX
        generalize hEE : endsV x (k + 1) nx = E at *
        have HE := Lib.hid hEE; clear hEE
        have w1 : IntKind.i64.wrap ((k : Int) + 1) = (k : Int) + 1 := IntWalk.i64_in _ (by omega)
        have w3 : (0 : Int) ≤ (k : Int) + 1 := by omega
        have w4 : ((k : Int) + 1).toNat = k + 1 := by omega
        by_cases hc : q < E
        · have Hps := Lib.hid (hps.out hc)
          clear hpu hrs hps hpk hqr
          go_wp2
          go_quiet ((go_at_call 103; exact quiet_draws (hcl.out _)))
          have hf4 := Lib.hid (Hf.out.stay OI.ok (bel_draws (draws_more hm.out nq)))
          have hbl4 := Lib.hid (bel_draws (draws_more hm.out nq))
          generalize W3.drewN nq = W4 at *
          clear hcl q1 q1' q3 w1 w3 w4
          have hcl5 := Lib.hid (fun w5 (hb5 : Below w.heap.size w w5) => implNext ((H.out.below hb5 hB hbx).draws 0) Hv.out k s d hlt Hs.out (show d < x.b by rw [← HNB.out]; exact hd))
          go_wp2_with (first
            | (at_builtin; refine wpList_pushF rfl _ _ 22 rfl (f := fI) (fun _ => rfl) Try.underlying22 infoI64 rfl hf4.out (d : Int) (by have := hl2.out; omega) (by have := hl2.out; unfold maxLen; omega) rfl rfl ?_; intro v1 w5 hf5; have Hcl5 := Lib.hid (hcl5.out w5 hf5.bel); have Hf5 := Lib.hid hf5; clear hf5)
            | (refine (Calls.mono Hcl5.out ?_); rintro e w6 ⟨rfl, m6, rfl⟩))
          have Hf6 := Lib.hid (Hf5.out.drewN OI.ok m6)
          go_wp2
          go_roundw
          case rel => exact ⟨k + 1, (ds ++ [(d : Int)], nx, q), by omega, by go_num, Lib.hid (by rw [Hst.out, ← HNB.out, Hps.out, HNX.out]), rfl, by show Value.int .i64 ((nxt x k s d : Nat) : Int) = .int .i64 ((nx : Nat) : Int); rw [HNX.out], Hf6.out⟩
          case measure => simp [intOf]; omega
        · have Hpu := Lib.hid (hpu.out hc)
          have Hrs := Lib.hid (hrs.out hc)
          have w2 : IntKind.i64.wrap ((q : Int) - E) = (q : Int) - E := IntWalk.i64_in _ (by omega)
          clear hpu hrs hps hpk hqr
          go_wp2
          go_quiet ((go_at_call 103; exact quiet_draws (hcl.out _)))
          obtain ⟨m4, hm4⟩ : ∃ m4, W2.drewN m4 = W3.drewN nq := ⟨_, draws_more hm.out nq⟩
          have hm4 := Lib.hid hm4
          have Hbox4 := Lib.hid (show BoxC (· < B) (W3.drewN nq) bx x by rw [← hm4.out]; exact Hbox.out.draws _)
          have Hrow4 := Lib.hid (show RdII (· < w.heap.size) (W3.drewN nq) (.slice (some ⟨be, oe, none⟩) (x.places.length + 1) ce) (endsG x) by rw [← hm4.out]; exact rd_draws RdII.ok Hrow.out _)
          generalize W3.drewN nq = W4 at *
          clear hcl q1 q1' q2 q3
          obtain ⟨b2, o2, c2, q1, q2, q3⟩ := ends_cell Hrow4.out (i := k + 1) (s := nx) (show k + 1 ≤ x.n from hlt) (by rw [← HNS.out]; exact hnS) HNS.out
          rw [← HNX.out] at q3
          have hcl := Lib.hid (fun m2 => implNext (Hbox4.out.draws m2) Hv.out k s d hlt Hs.out (show d < x.b by rw [← HNB.out]; exact hd))
          rw [HNX.out] at q3 hcl
          have q3' : W4.cell? ⟨b2, o2 + nx, none⟩ = some (.int .i64 E) := by rw [← HE.out]; exact q3
          clear q3
          go_wp2
          go_quiet ((go_at_call 103; exact quiet_draws (hcl.out _)))
          clear hcl q1 q2 q3' w1 w3 w4
          go_wp2
          go_roundw
          case rel => exact ⟨d + 1, q - E, m4 + nq, congrArg (Value.int .i64) (show (q : Int) - E = ((q - E : Nat) : Int) by omega), by go_num, by omega, Hpu, Hrs, Lib.hid (draws_more hm4.out nq)⟩
          case measure => simp [intOf]; omega
    · obtain rfl : k = x.places.length := by omega
      have hr := Lib.hid (show wordG x R = ds by show (wordTo x R x.places.length).1 = ds; rw [ht.out])
      go_wp2
      go_ret
      exact ⟨_, rfl, by rw [hr.out]; exact Hf.out⟩
end Go.Proofs.Ytnpkanlieflbiaa
