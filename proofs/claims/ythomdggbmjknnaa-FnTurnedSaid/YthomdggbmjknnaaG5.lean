/- The walk of the law of turned quasigroups (FnTurned): it returns true. Printed by gen_g5.py. -/
import Derived.Test.YthomdggbmjknnaaG4
import Derived.Test.YthomdggbmjknnaaI0
import Derived.IntWalk
import Derived.Deep.QuietTactic
import Derived.BigQuiet
namespace Go.Proofs.Ythomdggbmjknnaa
open Go.RowKit
set_option linter.unusedVariables false

theorem lawSame8 {P Q : Nat → Prop} {va vb : Value} {xs : List Int} {w : World} (ha : Rd rI P w va xs) (hb : Rd rI Q w vb xs) :
    Calls Try.prog 43 #[va, vb] w fun e w' => e = .returned (.bool true) ∧ ∃ n, w.drewN n = w' := by
  obtain ⟨a, c, rfl, h1, h2, hrd⟩ := ha
  obtain ⟨a', c', rfl, h1', h2', hrd'⟩ := hb
  have Hrd := Lib.hid hrd; clear hrd
  have Hrd' := Lib.hid hrd'; clear hrd'
  unfold maxLen at h2 h2'
  go_enter Try.func43, Try.ntmps43
  go_wp2
  go_loopw [5] (fun i wr => ∃ (k m : Nat), k ≤ xs.length ∧ i = .int .i64 k ∧ w.drewN m = wr) (fun i _ => xs.length - (intOf i).toNat)
  case atStart => exact ⟨0, 0, Nat.zero_le _, rfl, rfl⟩
  case round =>
    obtain ⟨k, m, hk, rfl, rfl⟩ := hrel
    by_cases hlt : k < xs.length
    · obtain ⟨b, o, u, rfl, hPb, hc, rfl⟩ := Hrd.out k hlt
      obtain ⟨b', o', u', rfl, hPb', hc', rfl⟩ := Hrd'.out k hlt
      go_wp2
      go_quiet (fail)
      go_wp2
      go_roundw
      case rel => exact ⟨k + 1, _, by omega, by go_num, rfl⟩
      case measure => simp [intOf]; omega
    · obtain rfl : k = xs.length := by omega
      go_wp2
      go_ret
      exact ⟨rfl, m, rfl⟩
theorem lawTables8 {P Q : Nat → Prop} {va vb : Value} {xs : List (List Int)} {w : World} (ha : RdII P w va xs) (hb : RdII Q w vb xs) :
    Calls Try.prog 21 #[va, vb] w fun e w' => e = .returned (.bool true) ∧ ∃ n, w.drewN n = w' := by
  obtain ⟨a, c, rfl, h1, h2, hrd⟩ := ha
  obtain ⟨a', c', rfl, h1', h2', hrd'⟩ := hb
  have Hrd := Lib.hid hrd; clear hrd
  have Hrd' := Lib.hid hrd'; clear hrd'
  unfold maxLen at h2 h2'
  go_enter Try.func21, Try.ntmps21
  go_wp2
  go_loopw [5] (fun i wr => ∃ (k m : Nat), k ≤ xs.length ∧ i = .int .i64 k ∧ Hid (w.drewN m = wr)) (fun i _ => xs.length - (intOf i).toNat)
  case atStart => exact ⟨0, 0, Nat.zero_le _, rfl, Lib.hid rfl⟩
  case round =>
    obtain ⟨k, m, hk, rfl, hm⟩ := hrel
    by_cases hlt : k < xs.length
    · obtain ⟨b, o, u, rfl, hPb, hc, hu⟩ := Hrd.out k hlt
      obtain ⟨b', o', u', rfl, hPb', hc', hu'⟩ := Hrd'.out k hlt
      have Hu := Lib.hid (RdI.ok.keep (w' := wr) hu fun _ _ => by rw [← hm.out]; rfl)
      have Hu' := Lib.hid (RdI.ok.keep (w' := wr) hu' fun _ _ => by rw [← hm.out]; rfl)
      have hc1 : wr.cell? ⟨b, o + k, none⟩ = some u := by rw [← hm.out]; exact hc
      have hc1' : wr.cell? ⟨b', o' + k, none⟩ = some u' := by rw [← hm.out]; exact hc'
      clear hu hu' hc hc'
      go_wp2
      go_quiet ((go_at_call 43; exact quiet_draws (lawSame8 (RdI.ok.keep Hu.out fun _ _ => rfl) (RdI.ok.keep Hu'.out fun _ _ => rfl))))
      go_wp2
      go_roundw
      case rel => exact ⟨k + 1, _, by omega, by go_num, Lib.hid (draws_more hm.out _)⟩
      case measure => simp [intOf]; omega
    · obtain rfl : k = xs.length := by omega
      go_wp2
      go_ret
      exact ⟨rfl, m, hm.out⟩
theorem rdII_up {w w' : World} {v : Value} {t : List (List Int)} (h : RdII (· < w.heap.size) w v t) (hb : Below w.heap.size w w') : RdII (· < w'.heap.size) w' v t :=
  RdII.ok.mono (RdII.ok.keep h fun k hk => hb.block k hk) fun k hk => Nat.lt_of_lt_of_le hk hb.size
theorem QN.cell {P : Nat → Prop} {w : World} {g n c : Nat} {t : List (List Int)} (q : QN n t) (h : RdII P w (.slice (some ⟨g, 0, none⟩) n c) t) {x y : Nat} (hx : x < n) (hy : y < n) {z : Int} (hz : nth (nth t x) y = z) :
    ∃ b o c', w.cell? ⟨g, x, none⟩ = some (.slice (some ⟨b, o, none⟩) n c') ∧ w.cell? ⟨b, o + y, none⟩ = some (.int .i64 z) ∧ n ≤ c' ∧ c' ≤ 9223372036854775807 := by
  have e := q.sq.2 x hx
  obtain ⟨b, o, b', o', c', e1, _, _, h1, h2, h3, h4⟩ := h.cell (x := x) (y := y) (by rw [q.sq.1]; exact hx) (by rw [e]; exact hy)
  simp only [Option.some.injEq, Addr.mk.injEq, and_true] at e1
  obtain ⟨rfl, rfl⟩ := e1
  rw [e] at h1 h3
  rw [Nat.zero_add] at h1
  rw [hz] at h2
  unfold maxLen at h4
  exact ⟨b', o', c', h1, h2, h3, h4⟩

set_option maxRecDepth 100000 in
set_option maxHeartbeats 6400000 in
theorem lawTurned (w : World) (v0 : Value) (z0 : List UInt8) (r0 : Rd rY (· < w.heap.size) w v0 z0) (v1 : Value) (z1 : List UInt8) (r1 : Rd rY (· < w.heap.size) w v1 z1) :
    Calls Try.prog 4 #[v0, v1] w fun e w' => e = .returned (.bool true) ∧ Below w.heap.size w w' := by
  have R0 := Lib.hid r0; clear r0
  have R1 := Lib.hid r1; clear r1
  cases hb : longB8 z0.length z1.length
  rotate_left
  · have HB := Lib.hid hb; clear hb
    go_enter Try.func4, Try.ntmps4
    go_wp2_with fail
    refine (lawLong8 R0.out R1.out _ HB.out).mono ?_
    rintro e w' ⟨rfl, rfl⟩
    go_wp2
    go_ret
    exact ⟨rfl, Below.refl _ _⟩
  have HB := Lib.hid hb; clear hb
  go_enter Try.func4, Try.ntmps4
  go_wp2_with fail
  refine (lawLong8 R0.out R1.out _ HB.out).mono ?_
  rintro e w' ⟨rfl, rfl⟩
  go_wp2_with fail
  refine (specR8Table R0.out (Nat.le_refl _)).mono ?_
  rintro e w1 ⟨vt, n, t, rfl, hn7, hq, hf⟩
  have hn1 := hq.n1
  have htl := hq.sq.1
  obtain ⟨gt, ct, rfl⟩ := hf.shape (by omega)
  rw [htl] at hf ⊢
  have hct := hf.len2
  rw [htl] at hct
  unfold maxLen at hct
  have Hb1 := Lib.hid hf.bel
  have hz1 := Hb1.out.size
  have Rt1 := Lib.hid (hf.rd OII.leads OII.ok)
  have Hq := Lib.hid hq
  clear hf hq htl
  go_wp2_with fail
  refine (lawAt8 ((Rd.ok rleaf.ok).keep R1.out fun k hk => Hb1.out.block k hk) 0 5 (by omega) (by omega) (by omega)).mono ?_
  rintro e w' ⟨⟨s, hs, rfl⟩, rfl⟩
  have hs4 : 0 ≤ s ∧ s ≤ 4 := by have := hs.1; have := hs.2.1 (by omega); omega
  clear hs
  have Hok := Lib.hid (show turnOk t s = true by simp [turnOk, Hq.out.is, inB_true.2 hs4])
  have Hqu := Lib.hid (Hq.out.turn hs4)
  have Hbk := Lib.hid (turn_back Hq.out hs4)
  have Hfa := Lib.hid (turn_facts Hq.out hs4).2.1
  have kc : s = 0 ∨ s = 1 ∨ s = 2 ∨ s = 3 ∨ s = 4 := by omega
  clear hs4
  rcases kc with rfl | rfl | rfl | rfl | rfl
  · obtain ⟨u, hu⟩ : ∃ u, u = turnT t 0 := ⟨_, rfl⟩
    rw [← hu] at Hqu Hbk Hfa
    rw [show backK 0 = 0 by decide] at Hbk
    have Hok2 := Lib.hid (show turnOk u 0 = true by simp [turnOk, Hqu.out.is, inB])
    have Hu := Lib.hid hu
    clear hu
    go_wp2_with fail
    refine (implTurnTable Rt1.out (Nat.le_refl _) 0).mono ?_
    rw [Hok.out, turnV_yes Hok.out, ← Hu.out]
    rintro e w2 ⟨vu, rfl, hfu⟩
    have hul := Hqu.out.sq.1
    obtain ⟨gu, cu, rfl⟩ := hfu.shape (by omega)
    rw [hul] at hfu ⊢
    have hcu := hfu.len2
    rw [hul] at hcu
    unfold maxLen at hcu
    have Ru2 := Lib.hid (hfu.rd OII.leads OII.ok)
    have Rt2 := Lib.hid (rdII_up Rt1.out hfu.bel)
    have Hb2 := Lib.hid (Hb1.out.trans (hfu.bel.mono hz1))
    have hz2 := Hb2.out.size
    clear hfu hul Hb1 Rt1 hz1
    go_wp2_with fail
    refine (implTurnTable Ru2.out (Nat.le_refl _) 0).mono ?_
    rw [Hok2.out, turnV_yes Hok2.out, Hbk.out]
    rintro e w3 ⟨vv, rfl, hfv⟩
    have htl := Hq.out.sq.1
    obtain ⟨gv, cv, rfl⟩ := hfv.shape (by omega)
    rw [htl] at hfv ⊢
    have hcv := hfv.len2
    rw [htl] at hcv
    unfold maxLen at hcv
    have Rv3 := Lib.hid (hfv.rd OII.leads OII.ok)
    have Ru3 := Lib.hid (rdII_up Ru2.out hfv.bel)
    have Rt3 := Lib.hid (rdII_up Rt2.out hfv.bel)
    have Hb3 := Lib.hid (Hb2.out.trans (hfv.bel.mono hz2))
    have hz3 := Hb3.out.size
    clear hfv htl Hb2 Rt2 Ru2 hz2
    go_wp2_with fail
    refine (implIsQuasigroup Ru3.out (Nat.le_refl _)).mono ?_
    rw [Hqu.out.is]
    rintro e w4 ⟨rfl, hb4⟩
    have Rv4 := Lib.hid (rdII_up Rv3.out hb4)
    have Ru4 := Lib.hid (rdII_up Ru3.out hb4)
    have Rt4 := Lib.hid (rdII_up Rt3.out hb4)
    have Hb4 := Lib.hid (Hb3.out.trans (hb4.mono hz3))
    clear hb4 Rv3 Ru3 Rt3 Hb3 hz3
    go_wp2_with fail
    refine (lawTables8 Rv4.out Rt4.out).mono ?_
    rintro e w5 ⟨rfl, m, hm⟩
    have hb5 : Below w4.heap.size w4 w5 := by rw [← hm]; exact ⟨rfl, rfl, rfl, Nat.le_refl _, fun _ _ => rfl⟩
    have Ru5 := Lib.hid (rdII_up Ru4.out hb5)
    have Rt5 := Lib.hid (rdII_up Rt4.out hb5)
    have Hb5 := Lib.hid (Hb4.out.trans (hb5.mono Hb4.out.size))
    clear hm hb5 Rv4 Ru4 Rt4 Hb4
    go_wp2_with fail
    refine (lawAt8 ((Rd.ok rleaf.ok).keep R1.out fun k hk => Hb5.out.block k hk) 1 n (by omega) (by omega) (by omega)).mono ?_
    rintro e w' ⟨⟨r, hr, rfl⟩, rfl⟩
    obtain ⟨X, rfl⟩ := Int.eq_ofNat_of_zero_le hr.1
    have hX : X < n := by
      by_cases h : (n : Int) ≤ 1
      · have := hr.2.2 h; omega
      · have := hr.2.1 (by omega); omega
    clear hr
    go_wp2_with fail
    refine (lawAt8 ((Rd.ok rleaf.ok).keep R1.out fun k hk => Hb5.out.block k hk) 2 n (by omega) (by omega) (by omega)).mono ?_
    rintro e w' ⟨⟨r, hr, rfl⟩, rfl⟩
    obtain ⟨Y, rfl⟩ := Int.eq_ofNat_of_zero_le hr.1
    have hY : Y < n := by
      by_cases h : (n : Int) ≤ 1
      · have := hr.2.2 h; omega
      · have := hr.2.1 (by omega); omega
    clear hr
    have hbz := Hq.out.bd X Y hX hY
    have hfx := Hfa.out X Y hX hY
    obtain ⟨Z, hZ⟩ := Int.eq_ofNat_of_zero_le hbz.1
    rw [hZ] at hbz hfx
    have hZn : Z < n := by omega
    simp [tpos, tval] at hfx
    obtain ⟨b1, o1, c1, e1, e2, e3, e4⟩ := Hq.out.cell Rt5.out hX hY hZ
    obtain ⟨b2, o2, c2, e5, e6, e7, e8⟩ := Hqu.out.cell Ru5.out hY hX hfx
    clear hbz hfx hZ Hfa Hok Hbk Hok2 Hu
    go_wp2_with fail
    go_ret
    exact ⟨rfl, Hb5.out⟩
  · obtain ⟨u, hu⟩ : ∃ u, u = turnT t 1 := ⟨_, rfl⟩
    rw [← hu] at Hqu Hbk Hfa
    rw [show backK 1 = 1 by decide] at Hbk
    have Hok2 := Lib.hid (show turnOk u 1 = true by simp [turnOk, Hqu.out.is, inB])
    have Hu := Lib.hid hu
    clear hu
    go_wp2_with fail
    refine (implTurnTable Rt1.out (Nat.le_refl _) 1).mono ?_
    rw [Hok.out, turnV_yes Hok.out, ← Hu.out]
    rintro e w2 ⟨vu, rfl, hfu⟩
    have hul := Hqu.out.sq.1
    obtain ⟨gu, cu, rfl⟩ := hfu.shape (by omega)
    rw [hul] at hfu ⊢
    have hcu := hfu.len2
    rw [hul] at hcu
    unfold maxLen at hcu
    have Ru2 := Lib.hid (hfu.rd OII.leads OII.ok)
    have Rt2 := Lib.hid (rdII_up Rt1.out hfu.bel)
    have Hb2 := Lib.hid (Hb1.out.trans (hfu.bel.mono hz1))
    have hz2 := Hb2.out.size
    clear hfu hul Hb1 Rt1 hz1
    go_wp2_with fail
    refine (implTurnTable Ru2.out (Nat.le_refl _) 1).mono ?_
    rw [Hok2.out, turnV_yes Hok2.out, Hbk.out]
    rintro e w3 ⟨vv, rfl, hfv⟩
    have htl := Hq.out.sq.1
    obtain ⟨gv, cv, rfl⟩ := hfv.shape (by omega)
    rw [htl] at hfv ⊢
    have hcv := hfv.len2
    rw [htl] at hcv
    unfold maxLen at hcv
    have Rv3 := Lib.hid (hfv.rd OII.leads OII.ok)
    have Ru3 := Lib.hid (rdII_up Ru2.out hfv.bel)
    have Rt3 := Lib.hid (rdII_up Rt2.out hfv.bel)
    have Hb3 := Lib.hid (Hb2.out.trans (hfv.bel.mono hz2))
    have hz3 := Hb3.out.size
    clear hfv htl Hb2 Rt2 Ru2 hz2
    go_wp2_with fail
    refine (implIsQuasigroup Ru3.out (Nat.le_refl _)).mono ?_
    rw [Hqu.out.is]
    rintro e w4 ⟨rfl, hb4⟩
    have Rv4 := Lib.hid (rdII_up Rv3.out hb4)
    have Ru4 := Lib.hid (rdII_up Ru3.out hb4)
    have Rt4 := Lib.hid (rdII_up Rt3.out hb4)
    have Hb4 := Lib.hid (Hb3.out.trans (hb4.mono hz3))
    clear hb4 Rv3 Ru3 Rt3 Hb3 hz3
    go_wp2_with fail
    refine (lawTables8 Rv4.out Rt4.out).mono ?_
    rintro e w5 ⟨rfl, m, hm⟩
    have hb5 : Below w4.heap.size w4 w5 := by rw [← hm]; exact ⟨rfl, rfl, rfl, Nat.le_refl _, fun _ _ => rfl⟩
    have Ru5 := Lib.hid (rdII_up Ru4.out hb5)
    have Rt5 := Lib.hid (rdII_up Rt4.out hb5)
    have Hb5 := Lib.hid (Hb4.out.trans (hb5.mono Hb4.out.size))
    clear hm hb5 Rv4 Ru4 Rt4 Hb4
    go_wp2_with fail
    refine (lawAt8 ((Rd.ok rleaf.ok).keep R1.out fun k hk => Hb5.out.block k hk) 1 n (by omega) (by omega) (by omega)).mono ?_
    rintro e w' ⟨⟨r, hr, rfl⟩, rfl⟩
    obtain ⟨X, rfl⟩ := Int.eq_ofNat_of_zero_le hr.1
    have hX : X < n := by
      by_cases h : (n : Int) ≤ 1
      · have := hr.2.2 h; omega
      · have := hr.2.1 (by omega); omega
    clear hr
    go_wp2_with fail
    refine (lawAt8 ((Rd.ok rleaf.ok).keep R1.out fun k hk => Hb5.out.block k hk) 2 n (by omega) (by omega) (by omega)).mono ?_
    rintro e w' ⟨⟨r, hr, rfl⟩, rfl⟩
    obtain ⟨Y, rfl⟩ := Int.eq_ofNat_of_zero_le hr.1
    have hY : Y < n := by
      by_cases h : (n : Int) ≤ 1
      · have := hr.2.2 h; omega
      · have := hr.2.1 (by omega); omega
    clear hr
    have hbz := Hq.out.bd X Y hX hY
    have hfx := Hfa.out X Y hX hY
    obtain ⟨Z, hZ⟩ := Int.eq_ofNat_of_zero_le hbz.1
    rw [hZ] at hbz hfx
    have hZn : Z < n := by omega
    simp [tpos, tval] at hfx
    obtain ⟨b1, o1, c1, e1, e2, e3, e4⟩ := Hq.out.cell Rt5.out hX hY hZ
    obtain ⟨b2, o2, c2, e5, e6, e7, e8⟩ := Hqu.out.cell Ru5.out hX hZn hfx
    clear hbz hfx hZ Hfa Hok Hbk Hok2 Hu
    go_wp2_with fail
    go_ret
    exact ⟨rfl, Hb5.out⟩
  · obtain ⟨u, hu⟩ : ∃ u, u = turnT t 2 := ⟨_, rfl⟩
    rw [← hu] at Hqu Hbk Hfa
    rw [show backK 2 = 2 by decide] at Hbk
    have Hok2 := Lib.hid (show turnOk u 2 = true by simp [turnOk, Hqu.out.is, inB])
    have Hu := Lib.hid hu
    clear hu
    go_wp2_with fail
    refine (implTurnTable Rt1.out (Nat.le_refl _) 2).mono ?_
    rw [Hok.out, turnV_yes Hok.out, ← Hu.out]
    rintro e w2 ⟨vu, rfl, hfu⟩
    have hul := Hqu.out.sq.1
    obtain ⟨gu, cu, rfl⟩ := hfu.shape (by omega)
    rw [hul] at hfu ⊢
    have hcu := hfu.len2
    rw [hul] at hcu
    unfold maxLen at hcu
    have Ru2 := Lib.hid (hfu.rd OII.leads OII.ok)
    have Rt2 := Lib.hid (rdII_up Rt1.out hfu.bel)
    have Hb2 := Lib.hid (Hb1.out.trans (hfu.bel.mono hz1))
    have hz2 := Hb2.out.size
    clear hfu hul Hb1 Rt1 hz1
    go_wp2_with fail
    refine (implTurnTable Ru2.out (Nat.le_refl _) 2).mono ?_
    rw [Hok2.out, turnV_yes Hok2.out, Hbk.out]
    rintro e w3 ⟨vv, rfl, hfv⟩
    have htl := Hq.out.sq.1
    obtain ⟨gv, cv, rfl⟩ := hfv.shape (by omega)
    rw [htl] at hfv ⊢
    have hcv := hfv.len2
    rw [htl] at hcv
    unfold maxLen at hcv
    have Rv3 := Lib.hid (hfv.rd OII.leads OII.ok)
    have Ru3 := Lib.hid (rdII_up Ru2.out hfv.bel)
    have Rt3 := Lib.hid (rdII_up Rt2.out hfv.bel)
    have Hb3 := Lib.hid (Hb2.out.trans (hfv.bel.mono hz2))
    have hz3 := Hb3.out.size
    clear hfv htl Hb2 Rt2 Ru2 hz2
    go_wp2_with fail
    refine (implIsQuasigroup Ru3.out (Nat.le_refl _)).mono ?_
    rw [Hqu.out.is]
    rintro e w4 ⟨rfl, hb4⟩
    have Rv4 := Lib.hid (rdII_up Rv3.out hb4)
    have Ru4 := Lib.hid (rdII_up Ru3.out hb4)
    have Rt4 := Lib.hid (rdII_up Rt3.out hb4)
    have Hb4 := Lib.hid (Hb3.out.trans (hb4.mono hz3))
    clear hb4 Rv3 Ru3 Rt3 Hb3 hz3
    go_wp2_with fail
    refine (lawTables8 Rv4.out Rt4.out).mono ?_
    rintro e w5 ⟨rfl, m, hm⟩
    have hb5 : Below w4.heap.size w4 w5 := by rw [← hm]; exact ⟨rfl, rfl, rfl, Nat.le_refl _, fun _ _ => rfl⟩
    have Ru5 := Lib.hid (rdII_up Ru4.out hb5)
    have Rt5 := Lib.hid (rdII_up Rt4.out hb5)
    have Hb5 := Lib.hid (Hb4.out.trans (hb5.mono Hb4.out.size))
    clear hm hb5 Rv4 Ru4 Rt4 Hb4
    go_wp2_with fail
    refine (lawAt8 ((Rd.ok rleaf.ok).keep R1.out fun k hk => Hb5.out.block k hk) 1 n (by omega) (by omega) (by omega)).mono ?_
    rintro e w' ⟨⟨r, hr, rfl⟩, rfl⟩
    obtain ⟨X, rfl⟩ := Int.eq_ofNat_of_zero_le hr.1
    have hX : X < n := by
      by_cases h : (n : Int) ≤ 1
      · have := hr.2.2 h; omega
      · have := hr.2.1 (by omega); omega
    clear hr
    go_wp2_with fail
    refine (lawAt8 ((Rd.ok rleaf.ok).keep R1.out fun k hk => Hb5.out.block k hk) 2 n (by omega) (by omega) (by omega)).mono ?_
    rintro e w' ⟨⟨r, hr, rfl⟩, rfl⟩
    obtain ⟨Y, rfl⟩ := Int.eq_ofNat_of_zero_le hr.1
    have hY : Y < n := by
      by_cases h : (n : Int) ≤ 1
      · have := hr.2.2 h; omega
      · have := hr.2.1 (by omega); omega
    clear hr
    have hbz := Hq.out.bd X Y hX hY
    have hfx := Hfa.out X Y hX hY
    obtain ⟨Z, hZ⟩ := Int.eq_ofNat_of_zero_le hbz.1
    rw [hZ] at hbz hfx
    have hZn : Z < n := by omega
    simp [tpos, tval] at hfx
    obtain ⟨b1, o1, c1, e1, e2, e3, e4⟩ := Hq.out.cell Rt5.out hX hY hZ
    obtain ⟨b2, o2, c2, e5, e6, e7, e8⟩ := Hqu.out.cell Ru5.out hZn hY hfx
    clear hbz hfx hZ Hfa Hok Hbk Hok2 Hu
    go_wp2_with fail
    go_ret
    exact ⟨rfl, Hb5.out⟩
  · obtain ⟨u, hu⟩ : ∃ u, u = turnT t 3 := ⟨_, rfl⟩
    rw [← hu] at Hqu Hbk Hfa
    rw [show backK 3 = 4 by decide] at Hbk
    have Hok2 := Lib.hid (show turnOk u 4 = true by simp [turnOk, Hqu.out.is, inB])
    have Hu := Lib.hid hu
    clear hu
    go_wp2_with fail
    refine (implTurnTable Rt1.out (Nat.le_refl _) 3).mono ?_
    rw [Hok.out, turnV_yes Hok.out, ← Hu.out]
    rintro e w2 ⟨vu, rfl, hfu⟩
    have hul := Hqu.out.sq.1
    obtain ⟨gu, cu, rfl⟩ := hfu.shape (by omega)
    rw [hul] at hfu ⊢
    have hcu := hfu.len2
    rw [hul] at hcu
    unfold maxLen at hcu
    have Ru2 := Lib.hid (hfu.rd OII.leads OII.ok)
    have Rt2 := Lib.hid (rdII_up Rt1.out hfu.bel)
    have Hb2 := Lib.hid (Hb1.out.trans (hfu.bel.mono hz1))
    have hz2 := Hb2.out.size
    clear hfu hul Hb1 Rt1 hz1
    go_wp2_with fail
    refine (implTurnTable Ru2.out (Nat.le_refl _) 4).mono ?_
    rw [Hok2.out, turnV_yes Hok2.out, Hbk.out]
    rintro e w3 ⟨vv, rfl, hfv⟩
    have htl := Hq.out.sq.1
    obtain ⟨gv, cv, rfl⟩ := hfv.shape (by omega)
    rw [htl] at hfv ⊢
    have hcv := hfv.len2
    rw [htl] at hcv
    unfold maxLen at hcv
    have Rv3 := Lib.hid (hfv.rd OII.leads OII.ok)
    have Ru3 := Lib.hid (rdII_up Ru2.out hfv.bel)
    have Rt3 := Lib.hid (rdII_up Rt2.out hfv.bel)
    have Hb3 := Lib.hid (Hb2.out.trans (hfv.bel.mono hz2))
    have hz3 := Hb3.out.size
    clear hfv htl Hb2 Rt2 Ru2 hz2
    go_wp2_with fail
    refine (implIsQuasigroup Ru3.out (Nat.le_refl _)).mono ?_
    rw [Hqu.out.is]
    rintro e w4 ⟨rfl, hb4⟩
    have Rv4 := Lib.hid (rdII_up Rv3.out hb4)
    have Ru4 := Lib.hid (rdII_up Ru3.out hb4)
    have Rt4 := Lib.hid (rdII_up Rt3.out hb4)
    have Hb4 := Lib.hid (Hb3.out.trans (hb4.mono hz3))
    clear hb4 Rv3 Ru3 Rt3 Hb3 hz3
    go_wp2_with fail
    refine (lawTables8 Rv4.out Rt4.out).mono ?_
    rintro e w5 ⟨rfl, m, hm⟩
    have hb5 : Below w4.heap.size w4 w5 := by rw [← hm]; exact ⟨rfl, rfl, rfl, Nat.le_refl _, fun _ _ => rfl⟩
    have Ru5 := Lib.hid (rdII_up Ru4.out hb5)
    have Rt5 := Lib.hid (rdII_up Rt4.out hb5)
    have Hb5 := Lib.hid (Hb4.out.trans (hb5.mono Hb4.out.size))
    clear hm hb5 Rv4 Ru4 Rt4 Hb4
    go_wp2_with fail
    refine (lawAt8 ((Rd.ok rleaf.ok).keep R1.out fun k hk => Hb5.out.block k hk) 1 n (by omega) (by omega) (by omega)).mono ?_
    rintro e w' ⟨⟨r, hr, rfl⟩, rfl⟩
    obtain ⟨X, rfl⟩ := Int.eq_ofNat_of_zero_le hr.1
    have hX : X < n := by
      by_cases h : (n : Int) ≤ 1
      · have := hr.2.2 h; omega
      · have := hr.2.1 (by omega); omega
    clear hr
    go_wp2_with fail
    refine (lawAt8 ((Rd.ok rleaf.ok).keep R1.out fun k hk => Hb5.out.block k hk) 2 n (by omega) (by omega) (by omega)).mono ?_
    rintro e w' ⟨⟨r, hr, rfl⟩, rfl⟩
    obtain ⟨Y, rfl⟩ := Int.eq_ofNat_of_zero_le hr.1
    have hY : Y < n := by
      by_cases h : (n : Int) ≤ 1
      · have := hr.2.2 h; omega
      · have := hr.2.1 (by omega); omega
    clear hr
    have hbz := Hq.out.bd X Y hX hY
    have hfx := Hfa.out X Y hX hY
    obtain ⟨Z, hZ⟩ := Int.eq_ofNat_of_zero_le hbz.1
    rw [hZ] at hbz hfx
    have hZn : Z < n := by omega
    simp [tpos, tval] at hfx
    obtain ⟨b1, o1, c1, e1, e2, e3, e4⟩ := Hq.out.cell Rt5.out hX hY hZ
    obtain ⟨b2, o2, c2, e5, e6, e7, e8⟩ := Hqu.out.cell Ru5.out hY hZn hfx
    clear hbz hfx hZ Hfa Hok Hbk Hok2 Hu
    go_wp2_with fail
    go_ret
    exact ⟨rfl, Hb5.out⟩
  · obtain ⟨u, hu⟩ : ∃ u, u = turnT t 4 := ⟨_, rfl⟩
    rw [← hu] at Hqu Hbk Hfa
    rw [show backK 4 = 3 by decide] at Hbk
    have Hok2 := Lib.hid (show turnOk u 3 = true by simp [turnOk, Hqu.out.is, inB])
    have Hu := Lib.hid hu
    clear hu
    go_wp2_with fail
    refine (implTurnTable Rt1.out (Nat.le_refl _) 4).mono ?_
    rw [Hok.out, turnV_yes Hok.out, ← Hu.out]
    rintro e w2 ⟨vu, rfl, hfu⟩
    have hul := Hqu.out.sq.1
    obtain ⟨gu, cu, rfl⟩ := hfu.shape (by omega)
    rw [hul] at hfu ⊢
    have hcu := hfu.len2
    rw [hul] at hcu
    unfold maxLen at hcu
    have Ru2 := Lib.hid (hfu.rd OII.leads OII.ok)
    have Rt2 := Lib.hid (rdII_up Rt1.out hfu.bel)
    have Hb2 := Lib.hid (Hb1.out.trans (hfu.bel.mono hz1))
    have hz2 := Hb2.out.size
    clear hfu hul Hb1 Rt1 hz1
    go_wp2_with fail
    refine (implTurnTable Ru2.out (Nat.le_refl _) 3).mono ?_
    rw [Hok2.out, turnV_yes Hok2.out, Hbk.out]
    rintro e w3 ⟨vv, rfl, hfv⟩
    have htl := Hq.out.sq.1
    obtain ⟨gv, cv, rfl⟩ := hfv.shape (by omega)
    rw [htl] at hfv ⊢
    have hcv := hfv.len2
    rw [htl] at hcv
    unfold maxLen at hcv
    have Rv3 := Lib.hid (hfv.rd OII.leads OII.ok)
    have Ru3 := Lib.hid (rdII_up Ru2.out hfv.bel)
    have Rt3 := Lib.hid (rdII_up Rt2.out hfv.bel)
    have Hb3 := Lib.hid (Hb2.out.trans (hfv.bel.mono hz2))
    have hz3 := Hb3.out.size
    clear hfv htl Hb2 Rt2 Ru2 hz2
    go_wp2_with fail
    refine (implIsQuasigroup Ru3.out (Nat.le_refl _)).mono ?_
    rw [Hqu.out.is]
    rintro e w4 ⟨rfl, hb4⟩
    have Rv4 := Lib.hid (rdII_up Rv3.out hb4)
    have Ru4 := Lib.hid (rdII_up Ru3.out hb4)
    have Rt4 := Lib.hid (rdII_up Rt3.out hb4)
    have Hb4 := Lib.hid (Hb3.out.trans (hb4.mono hz3))
    clear hb4 Rv3 Ru3 Rt3 Hb3 hz3
    go_wp2_with fail
    refine (lawTables8 Rv4.out Rt4.out).mono ?_
    rintro e w5 ⟨rfl, m, hm⟩
    have hb5 : Below w4.heap.size w4 w5 := by rw [← hm]; exact ⟨rfl, rfl, rfl, Nat.le_refl _, fun _ _ => rfl⟩
    have Ru5 := Lib.hid (rdII_up Ru4.out hb5)
    have Rt5 := Lib.hid (rdII_up Rt4.out hb5)
    have Hb5 := Lib.hid (Hb4.out.trans (hb5.mono Hb4.out.size))
    clear hm hb5 Rv4 Ru4 Rt4 Hb4
    go_wp2_with fail
    refine (lawAt8 ((Rd.ok rleaf.ok).keep R1.out fun k hk => Hb5.out.block k hk) 1 n (by omega) (by omega) (by omega)).mono ?_
    rintro e w' ⟨⟨r, hr, rfl⟩, rfl⟩
    obtain ⟨X, rfl⟩ := Int.eq_ofNat_of_zero_le hr.1
    have hX : X < n := by
      by_cases h : (n : Int) ≤ 1
      · have := hr.2.2 h; omega
      · have := hr.2.1 (by omega); omega
    clear hr
    go_wp2_with fail
    refine (lawAt8 ((Rd.ok rleaf.ok).keep R1.out fun k hk => Hb5.out.block k hk) 2 n (by omega) (by omega) (by omega)).mono ?_
    rintro e w' ⟨⟨r, hr, rfl⟩, rfl⟩
    obtain ⟨Y, rfl⟩ := Int.eq_ofNat_of_zero_le hr.1
    have hY : Y < n := by
      by_cases h : (n : Int) ≤ 1
      · have := hr.2.2 h; omega
      · have := hr.2.1 (by omega); omega
    clear hr
    have hbz := Hq.out.bd X Y hX hY
    have hfx := Hfa.out X Y hX hY
    obtain ⟨Z, hZ⟩ := Int.eq_ofNat_of_zero_le hbz.1
    rw [hZ] at hbz hfx
    have hZn : Z < n := by omega
    simp [tpos, tval] at hfx
    obtain ⟨b1, o1, c1, e1, e2, e3, e4⟩ := Hq.out.cell Rt5.out hX hY hZ
    obtain ⟨b2, o2, c2, e5, e6, e7, e8⟩ := Hqu.out.cell Ru5.out hZn hX hfx
    clear hbz hfx hZ Hfa Hok Hbk Hok2 Hu
    go_wp2_with fail
    go_ret
    exact ⟨rfl, Hb5.out⟩
end Go.Proofs.Ythomdggbmjknnaa
