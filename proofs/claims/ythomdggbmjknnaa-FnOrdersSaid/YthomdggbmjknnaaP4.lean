/- The walk of the law of orders (FnOrders): it returns true. -/
import Derived.Test.YthomdggbmjknnaaP3
import Derived.Test.YthomdggbmjknnaaO5
import Derived.Test.YthomdggbmjknnaaI0
import Derived.Test.YthomdggbmjknnaaQ1
import Derived.IntWalk
import Derived.Deep.QuietTactic
import Derived.BigQuiet
namespace Go.Proofs.Ythomdggbmjknnaa
open Go.RowKit
set_option linter.unusedVariables false

/-- A row that is there, cell by cell. -/
theorem rdFlat {P : Nat → Prop} {w : World} {v : Value} {xs : List Int} {n : Nat} (h : RdI P w v xs) (hl : xs.length = n) (hn : 1 ≤ n) : ∃ b o c, v = .slice (some ⟨b, o, none⟩) n c ∧ n ≤ c ∧ c ≤ 9223372036854775807 ∧ P b ∧ ∀ i, i < n → w.cell? ⟨b, o + i, none⟩ = some (.int .i64 (nth xs i)) := by
  obtain ⟨a, c, rfl, h1, h2, hrd⟩ := h
  obtain ⟨b, o, u, rfl, hP, _, _⟩ := hrd 0 (by omega)
  unfold maxLen at h2
  refine ⟨b, o, c, by rw [hl], by omega, by omega, hP, fun i hi => ?_⟩
  obtain ⟨b2, o2, u2, e, _, hc, rfl⟩ := hrd i (by omega)
  simp only [Option.some.injEq, Addr.mk.injEq, and_true] at e
  obtain ⟨rfl, rfl⟩ := e
  exact hc
theorem cells_more {w w' : World} {B b o n : Nat} {xs : List Int} (h : ∀ i, i < n → w.cell? ⟨b, o + i, none⟩ = some (.int .i64 (nth xs i))) (hb : Below B w w') (hB : b < B) : ∀ i, i < n → w'.cell? ⟨b, o + i, none⟩ = some (.int .i64 (nth xs i)) :=
  fun i hi => (hb.cell (p := ⟨b, o + i, none⟩) hB).trans (h i hi)

set_option maxRecDepth 10000 in
set_option maxHeartbeats 1600000 in
theorem specB10Order {B : Nat} {w : World} {v : Value} {zs : List UInt8} (h : Rd rY (· < B) w v zs) (hB : B ≤ w.heap.size) (n : Nat) (hn : 1 ≤ n) (hn2 : n ≤ 12) :
    Calls Try.prog 10 #[v, .int .i64 n] w fun e w' => ∃ (v' : Value) (xs : List Int), e = .returned v' ∧ Fresh OI w w' v' xs ∧ Ordr n xs := by
  have H := Lib.hid h; clear h
  go_enter Try.func10, Try.ntmps10
  go_wp2_with fail
  refine (srcFrom H.out hB).mono ?_
  rintro e w1 ⟨rfl, hs1, hb1, hz1⟩
  have Hz1 := Lib.hid hz1; clear hz1
  have Hs1 := Lib.hid hs1; clear hs1
  have Hb1 := Lib.hid hb1; clear hb1
  go_wp2_with fail
  refine (srcOrder Hs1.out (by omega) n hn (by omega)).mono ?_
  rintro e w5 ⟨v5, xs, rfl, hd, ho⟩
  obtain ⟨S, hown, hS⟩ := hd.own
  have hz1 := Hz1.out
  have hf := Lib.hid (show Fresh OI w w5 v5 xs from ⟨S, hown, fun k hk => by have := hS k hk; omega, below_only Hb1.out hd.only (by omega) (by simp)⟩)
  have Ho := Lib.hid ho
  clear hown hS hd ho hz1
  go_wp2
  go_ret
  exact ⟨_, xs, rfl, hf.out, Ho.out⟩
theorem Below.draws' {B : Nat} {a w : World} (h : Below B a w) (n : Nat) : Below B a (w.drewN n) := ⟨h.os, h.tape, h.output, h.size, h.block⟩
set_option maxRecDepth 100000 in
set_option maxHeartbeats 3200000 in
theorem lawOrders (w : World) (v0 : Value) (z0 : List UInt8) (r0 : Rd rY (· < w.heap.size) w v0 z0) (v1 : Value) (z1 : List UInt8) (r1 : Rd rY (· < w.heap.size) w v1 z1) :
    Calls Try.prog 3 #[v0, v1] w fun e w' => e = .returned (.bool true) ∧ Below w.heap.size w w' := by
  have R0 := Lib.hid r0; clear r0
  have R1 := Lib.hid r1; clear r1
  cases hb : longB z0.length z1.length
  rotate_left
  · have HB := Lib.hid hb; clear hb
    go_enter Try.func3, Try.ntmps3
    go_wp2_with fail
    refine (lawLong R0.out R1.out _ HB.out).mono ?_
    rintro e w' ⟨rfl, rfl⟩
    go_wp2
    go_ret
    exact ⟨rfl, Below.refl _ _⟩
  have HB := Lib.hid hb; clear hb
  go_enter Try.func3, Try.ntmps3
  go_wp2_with fail
  refine (lawLong R0.out R1.out _ HB.out).mono ?_
  rintro e w' ⟨rfl, rfl⟩
  go_wp2_with fail
  refine (lawAt R1.out 0 12 (by omega) (by omega) (by omega)).mono ?_
  rintro e w' ⟨⟨s, hs, rfl⟩, rfl⟩
  obtain ⟨n, rfl⟩ : ∃ n : Nat, s = (n : Int) - 1 := ⟨(s + 1).toNat, by have := hs.1; omega⟩
  have hn1 : 1 ≤ n := by have := hs.1; omega
  have hn12 : n ≤ 12 := by have := hs.2.1 (by omega); omega
  clear hs
  have hm4 : (1 : Int) + ((n : Int) - 1) = n := by omega
  go_wp2_with fail
  refine (specB10Order R0.out (Nat.le_refl _) n hn1 hn12).mono ?_
  rintro e w1 ⟨vf, f, rfl, hf, of⟩
  clear hm4
  have Of := Lib.hid of; clear of
  have Hb1 := Lib.hid hf.bel
  have Hf1 := Lib.hid (show RdI (· < w1.heap.size) w1 vf f from hf.rd OI.leads OI.ok); clear hf
  have hz1 := Hb1.out.size
  go_wp2_with fail
  refine (specB10Order (Rd.below (Rd.ok rleaf.ok) R1.out Hb1.out) (by omega) n hn1 hn12).mono ?_
  rintro e w2 ⟨vg, g, rfl, hg, og⟩
  have Og := Lib.hid og; clear og
  have Hb2 := Lib.hid (Hb1.out.trans (hg.bel.mono hz1))
  have hz2 := hg.bel.size
  have Hg2 := Lib.hid (show RdI (· < w2.heap.size) w2 vg g from hg.rd OI.leads OI.ok)
  have Hf2 := Lib.hid (show RdI (· < w2.heap.size) w2 vf f from RdI.ok.mono (RdI.ok.keep Hf1.out fun k hk => hg.bel.block k hk) fun k hk => by show k < _; have : k < w1.heap.size := hk; omega); clear hg
  have hfo := Lib.hid (Of.out.is hn1 (by omega))
  have hgo := Lib.hid (Og.out.is hn1 (by omega))
  have hfl := Lib.hid Of.out.1
  have hgl := Lib.hid Og.out.1
  go_wp2_with fail
  refine (implInverseOrder Hf2.out (Nat.le_refl _) (by rw [hfl.out]; omega)).mono ?_
  rw [hfo.out, invV'_yes hfo.out]
  rintro e w3 ⟨vb, rfl, hb3⟩
  have Ob := Lib.hid Of.out.inv
  have hbl := Lib.hid Ob.out.1.1
  have hz3 := hb3.bel.size
  have Hb3 := Lib.hid (Hb2.out.trans (hb3.bel.mono Hb2.out.size))
  have Hv3 := Lib.hid (show RdI (· < w3.heap.size) w3 vb (invL f) from hb3.rd OI.leads OI.ok)
  have up3 : ∀ {v : Value} {xs : List Int}, RdI (· < w2.heap.size) w2 v xs → RdI (· < w3.heap.size) w3 v xs := fun h => RdI.ok.mono (RdI.ok.keep h fun k hk => hb3.bel.block k hk) fun k hk => by show k < _; have : k < w2.heap.size := hk; omega
  have Hf3 := Lib.hid (up3 Hf2.out)
  have Hg3 := Lib.hid (up3 Hg2.out)
  clear hb3 up3
  have hok3 := Lib.hid (show cmpOk f (invL f) = true by unfold cmpOk; rw [hfo.out, Ob.out.1.is hn1 (by omega), hfl.out, hbl.out]; simp)
  have hok4 := Lib.hid (show cmpOk f g = true by unfold cmpOk; rw [hfo.out, hgo.out, hfl.out, hgl.out]; simp)
  obtain ⟨a3, c3, rfl, _, _⟩ := Hv3.out.isSlice
  go_wp2_with fail
  refine (implComposeOrders Hf3.out Hv3.out (Nat.le_refl _) (by rw [hfl.out]; omega) (by rw [hbl.out]; omega)).mono ?_
  rw [hok3.out, cmpV_yes hok3.out]
  rintro e w4 ⟨vn, rfl, hb4⟩
  have hz4 := hb4.bel.size
  have Hb4 := Lib.hid (Hb3.out.trans (hb4.bel.mono Hb3.out.size))
  have Hn4 := Lib.hid (show RdI (· < w4.heap.size) w4 vn (compL f (invL f)) from hb4.rd OI.leads OI.ok)
  have up4 : ∀ {v : Value} {xs : List Int}, RdI (· < w3.heap.size) w3 v xs → RdI (· < w4.heap.size) w4 v xs := fun h => RdI.ok.mono (RdI.ok.keep h fun k hk => hb4.bel.block k hk) fun k hk => by show k < _; have : k < w3.heap.size := hk; omega
  have Hf4 := Lib.hid (up4 Hf3.out)
  have Hg4 := Lib.hid (up4 Hg3.out)
  clear hb4 up4
  obtain ⟨a4, c4, rfl, _, _⟩ := Hn4.out.isSlice
  go_wp2_with fail
  refine (implComposeOrders Hf4.out Hg4.out (Nat.le_refl _) (by rw [hfl.out]; omega) (by rw [hgl.out]; omega)).mono ?_
  rw [hok4.out, cmpV_yes hok4.out]
  rintro e w5 ⟨vc, rfl, hb5⟩
  have hz5 := hb5.bel.size
  have Hb5 := Lib.hid (Hb4.out.trans (hb5.bel.mono Hb4.out.size))
  have Hc5 := Lib.hid (show RdI (· < w5.heap.size) w5 vc (compL f g) from hb5.rd OI.leads OI.ok)
  have up5 : ∀ {v : Value} {xs : List Int}, RdI (· < w4.heap.size) w4 v xs → RdI (· < w5.heap.size) w5 v xs := fun h => RdI.ok.mono (RdI.ok.keep h fun k hk => hb5.bel.block k hk) fun k hk => by show k < _; have : k < w4.heap.size := hk; omega
  have Hf5 := Lib.hid (up5 Hf4.out)
  have Hg5 := Lib.hid (up5 Hg4.out)
  have Hn5 := Lib.hid (up5 Hn4.out)
  clear hb5 up5
  obtain ⟨a5, c5, rfl, _, _⟩ := Hc5.out.isSlice
  go_wp2_with fail
  refine (implCyclesOf Hf5.out (Nat.le_refl _) (by rw [hfl.out]; omega)).mono ?_
  rw [hfo.out, cycV_yes hfo.out]
  rintro e w6 ⟨vy, rfl, hb6⟩
  have hz6 := hb6.bel.size
  have Hb6 := Lib.hid (Hb5.out.trans (hb6.bel.mono Hb5.out.size))
  have Hy6 := Lib.hid (show RdII (· < w6.heap.size) w6 vy (cycL f) from hb6.rd OII.leads OII.ok)
  have up6 : ∀ {v : Value} {xs : List Int}, RdI (· < w5.heap.size) w5 v xs → RdI (· < w6.heap.size) w6 v xs := fun h => RdI.ok.mono (RdI.ok.keep h fun k hk => hb6.bel.block k hk) fun k hk => by show k < _; have : k < w5.heap.size := hk; omega
  have Hf6 := Lib.hid (up6 Hf5.out)
  have Hg6 := Lib.hid (up6 Hg5.out)
  have Hn6 := Lib.hid (up6 Hn5.out)
  have Hc6 := Lib.hid (up6 Hc5.out)
  clear hb6 up6
  obtain ⟨a6, c6, rfl, y1, y2⟩ := Hy6.out.isSlice
  go_wp2_with fail
  refine (lawAt (Rd.below (Rd.ok rleaf.ok) R1.out Hb6.out) 1 30 (by omega) (by omega) (by omega)).mono ?_
  rintro e w' ⟨⟨s, hs, rfl⟩, rfl⟩
  obtain ⟨r, rfl⟩ := Int.eq_ofNat_of_zero_le hs.1
  have hr30 : r < 30 := by have := hs.2.1 (by omega); omega
  clear hs
  have hpo := Lib.hid (show powOk f r = true by unfold powOk; rw [hfo.out, inB_true.2 (by omega)]; rfl)
  go_wp2_with fail
  refine (implPowerOrder Hf6.out (Nat.le_refl _) r (by rw [hfl.out]; omega)).mono ?_
  rw [hpo.out, powV_yes hpo.out]
  rintro e w7 ⟨vp, rfl, hb7⟩
  have hz7 := hb7.bel.size
  have Hb7 := Lib.hid (Hb6.out.trans (hb7.bel.mono Hb6.out.size))
  have Hp7 := Lib.hid (show RdI (· < w7.heap.size) w7 vp (powL f r) from hb7.rd OI.leads OI.ok)
  have up7 : ∀ {v : Value} {xs : List Int}, RdI (· < w6.heap.size) w6 v xs → RdI (· < w7.heap.size) w7 v xs := fun h => RdI.ok.mono (RdI.ok.keep h fun k hk => hb7.bel.block k hk) fun k hk => by show k < _; have : k < w6.heap.size := hk; omega
  have Hf7 := Lib.hid (up7 Hf6.out)
  have Hg7 := Lib.hid (up7 Hg6.out)
  have Hn7 := Lib.hid (up7 Hn6.out)
  have Hc7 := Lib.hid (up7 Hc6.out)
  have Hy7 := Lib.hid (RdII.ok.keep Hy6.out fun k hk => hb7.bel.block k hk)
  clear hb7 up7
  have hio := Lib.hid (implIsOrder Hc7.out (Nat.le_refl _) (by rw [compL_length, hgl.out]; omega))
  rw [(Of.out.comp Og.out).is hn1 (by omega)] at hio
  obtain ⟨bp, op, cp, rfl, p1, p2, hPp, hcp⟩ := rdFlat Hp7.out (by rw [powL_length]; exact hfl.out) hn1
  obtain ⟨bf, of, cf, rfl, p3, p4, hPf, hcf⟩ := rdFlat Hf7.out hfl.out hn1
  obtain ⟨bg, og, cg, rfl, p5, p6, hPg, hcg⟩ := rdFlat Hg7.out hgl.out hn1
  obtain ⟨bn, on, cn, en, p7, p8, hPn, hcn⟩ := rdFlat Hn7.out (by rw [compL_length]; exact hbl.out) hn1
  obtain ⟨bc, oc, cc, ec, p9, p10, hPc, hcc⟩ := rdFlat Hc7.out (by rw [compL_length]; exact hgl.out) hn1
  rw [en, ec]
  rw [ec] at hio
  have Hcp := Lib.hid hcp
  have Hcf := Lib.hid hcf
  have Hcg := Lib.hid hcg
  have Hcn := Lib.hid hcn
  have Hcc := Lib.hid hcc
  obtain ⟨NY, hNY⟩ : ∃ q, (cycL f).length = q := ⟨_, rfl⟩
  rw [hNY] at y1 ⊢
  have HNY := Lib.hid hNY
  rw [hNY] at Hy7
  unfold maxLen at y2
  clear hcp hcf hcg hcn hcc en ec hNY
  have hnn : ((n : Int) != (n : Int)) = false := by simp
  go_wp2_with fail
  refine (Calls.mono hio.out ?_)
  rintro e w8 ⟨rfl, hb8⟩
  have Hb8 := Lib.hid (Hb7.out.trans (hb8.mono Hb7.out.size))
  have Hy8 := Lib.hid (RdII.ok.keep Hy7.out fun k hk => hb8.block k (by have : k < w6.heap.size := hk; omega))
  have kp := Lib.hid (cells_more Hcp.out hb8 hPp)
  have kf := Lib.hid (cells_more Hcf.out hb8 hPf)
  have kg := Lib.hid (cells_more Hcg.out hb8 hPg)
  have kn := Lib.hid (cells_more Hcn.out hb8 hPn)
  have kc := Lib.hid (cells_more Hcc.out hb8 hPc)
  clear hb8 hio Hcp Hcf Hcg Hcn Hcc
  have hcl := Lib.hid Of.out.closed
  go_wp2
  go_loopw [19] (fun iv wr => ∃ i m : Nat, i ≤ n ∧ iv = .int .i64 i ∧ Hid (w8.drewN m = wr)) (fun iv _ => n - (intOf iv).toNat)
  case atStart => exact ⟨0, 0, Nat.zero_le _, rfl, Lib.hid rfl⟩
  case round =>
    obtain ⟨i, m, hi, rfl, hm⟩ := hrel
    obtain ⟨W2, rfl⟩ : ∃ W2, W2 = wr := ⟨_, rfl⟩
    by_cases hin : i < n
    · have hin2 : (i : Int) < (n : Int) := by omega
      have hif : i < f.length := by rw [hfl.out]; exact hin
      go_wp2
      go_loop [20, 21] (fun xv kv => ∃ k : Nat, k ≤ r ∧ kv = .int .i64 k ∧ xv = .int .i64 ((itn f k i : Nat) : Int)) (fun _ kv => r - (intOf kv).toNat)
      case atStart => exact ⟨0, Nat.zero_le _, rfl, rfl⟩
      case round =>
        obtain ⟨k, hk, rfl, rfl⟩ := hrel
        by_cases hkr : k < r
        · have hx := itn_lt hcl.out hif k
          rw [hfl.out] at hx
          have hc1 : W2.cell? ⟨bf, of + itn f k i, none⟩ = some (.int .i64 ((itn f (k + 1) i : Nat) : Int)) := by
            rw [← hm.out]
            have h1 := kf.out _ hx
            have h2 := hcl.out (itn f k i) (by rw [hfl.out]; exact hx)
            have h3 : nth f (itn f k i) = ((itn f (k + 1) i : Nat) : Int) := by show _ = ((stp f (itn f k i) : Nat) : Int); unfold stp; omega
            rw [← h3]; exact h1
          have hk2 : (k : Int) < (r : Int) := by omega
          obtain ⟨X1, hX1⟩ : ∃ y, y = itn f (k + 1) i := ⟨_, rfl⟩
          rw [← hX1] at hc1
          have hs := Lib.hid hX1; clear hX1
          generalize hX : itn f k i = X at *
          have hX2 : (X : Int) < (n : Int) := by omega
          clear hX
          go_wp2
          go_round
          case rel => exact ⟨k + 1, by omega, by go_num, by rw [← hs.out]⟩
          case measure => simp [intOf]; omega
        · obtain ⟨hkr⟩ : Nonempty (k = r) := ⟨by omega⟩
          have hx := itn_lt hcl.out hif r
          rw [hfl.out] at hx
          have e1 : nth (powL f r) i = ((itn f r i : Nat) : Int) := by rw [nth_powL hif]; exact itf_itn hcl.out hif r
          have e2 : nth (compL f (invL f)) i = (i : Int) := by rw [nth_compL (by rw [hbl.out]; exact hin)]; exact Ob.out.2 i hin
          have hg := Og.out.2.1 i hin
          obtain ⟨q, hq⟩ := Int.eq_ofNat_of_zero_le hg.1
          have e3 : nth (compL f g) i = nth f q := by rw [nth_compL (by rw [hgl.out]; exact hin), hq]; rfl
          have hqn : q < n := by omega
          have c1 : W2.cell? ⟨bn, on + i, none⟩ = some (.int .i64 (i : Int)) := by rw [← hm.out, ← e2]; exact kn.out i hin
          have c2 : W2.cell? ⟨bc, oc + i, none⟩ = some (.int .i64 (nth f q)) := by rw [← hm.out, ← e3]; exact kc.out i hin
          have c3' : W2.cell? ⟨bg, og + i, none⟩ = some (.int .i64 (q : Int)) := by rw [← hm.out]; have := kg.out i hin; rw [hq] at this; exact this
          have c4' : W2.cell? ⟨bf, of + q, none⟩ = some (.int .i64 (nth f q)) := by rw [← hm.out]; exact kf.out q hqn
          have c5' : W2.cell? ⟨bp, op + i, none⟩ = some (.int .i64 ((itn f r i : Nat) : Int)) := by rw [← hm.out, ← e1]; exact kp.out i hin
          rw [hkr]
          clear e1 e2 e3 hg hq hkr
          generalize itn f r i = X at *
          generalize nth f q = F at *
          have b1 : ((i : Int) != (i : Int)) = false := by simp
          have b2 : (F != F) = false := by simp
          have b3 : ((X : Int) != (X : Int)) = false := by simp
          have hqi : (q : Int) < (n : Int) := by omega
          go_wp2
          go_quiet (fail)
          go_wp2
          go_roundw
          case rel => exact ⟨i + 1, _, by omega, by go_num, Lib.hid (draws_more hm.out _)⟩
          case measure => simp [intOf]; omega
    · clear kp kg kn kc
      go_wp2
      go_loopw [22, 23] (fun cv iv wr => ∃ i q : Nat, i ≤ NY ∧ iv = .int .i64 i ∧ cv = .int .i64 ((lensL ((cycL f).take i) : Nat) : Int) ∧ Hid (w8.drewN q = wr)) (fun _ iv _ => NY - (intOf iv).toNat)
      case atStart => exact ⟨0, m, Nat.zero_le _, rfl, rfl, hm⟩
      case round =>
        obtain ⟨i, q, hiN, rfl, rfl, hq⟩ := hrel
        obtain ⟨W3, rfl⟩ : ∃ W3, W3 = wr := ⟨_, rfl⟩
        by_cases hiy : i < NY
        · have hiy2 : i < (cycL f).length := by rw [HNY.out]; exact hiy
          have hsum := Lib.hid (lensL_take hiy2)
          have hfrm := Lib.hid (fun k hk => cyc_place hcl.out Of.out.ord hiy2 (k := k) hk)
          have hlen : 1 ≤ (nth (cycL f) i).length ∧ (nth (cycL f) i).length ≤ 12 := by
            have hmem : nth (cycL f) i ∈ cycL f := nth_mem hiy2
            have h1 := (cycTo_len f f.length).2.2 (nth (cycL f) i) hmem
            have h2 := cycL_form hcl.out Of.out.ord (nth_mem hiy2)
            obtain ⟨_, mm, _, h3, _, h4⟩ := h2
            have h5 : (nth (cycL f) i).length = mm := by rw [h4]; simp
            have := hfl.out
            omega
          have hlb : lensL ((cycL f).take i) ≤ 200 := by
            have h1 : lensL ((cycL f).take i) ≤ lensL (cycL f) := by
              have h2 : lensL (cycL f) = lensL ((cycL f).take i) + lensL ((cycL f).drop i) := by
                conv => lhs; rw [← List.take_append_drop i (cycL f)]
                unfold lensL; rw [List.map_append, List.sum_append]
              omega
            rw [cyc_sum hcl.out Of.out.ord] at h1
            have := hfl.out
            omega
          obtain ⟨by_, oy, uy, rfl, hPy, hcy, hry⟩ := Rd.elim Hy8.out i hiy2
          obtain ⟨br, or_, cr, rfl, r1, r2, hPr, hcr⟩ := rdFlat hry rfl hlen.1
          have Hcr := Lib.hid hcr
          have Hcy := Lib.hid hcy
          clear hcr hcy hry hiy2
          generalize nth (cycL f) i = ro at *
          obtain ⟨NR, hNR⟩ : ∃ z, ro.length = z := ⟨_, rfl⟩
          rw [hNR] at hsum hfrm hlen r1 Hcr Hcy
          clear hNR
          have hcy3 : W3.cell? ⟨by_, oy + i, none⟩ = some (.slice (some ⟨br, or_, none⟩) NR cr) := by rw [← hq.out]; exact Hcy.out
          have hiyi : (i : Int) < (NY : Int) := by omega
          go_wp2
          go_loopw [24] (fun kv wr => ∃ k q : Nat, k ≤ NR ∧ kv = .int .i64 k ∧ Hid (w8.drewN q = wr)) (fun kv _ => NR - (intOf kv).toNat)
          case atStart => exact ⟨0, q, Nat.zero_le _, rfl, hq⟩
          case round =>
            obtain ⟨k, q4, hkR, rfl, hq4⟩ := hrel
            obtain ⟨W4, rfl⟩ : ∃ W4, W4 = wr := ⟨_, rfl⟩
            have hcy4 : W4.cell? ⟨by_, oy + i, none⟩ = some (.slice (some ⟨br, or_, none⟩) NR cr) := by rw [← hq4.out]; exact Hcy.out
            clear hcy3
            by_cases hkl : k < NR
            · obtain ⟨x1, x2, x3, x4⟩ := hfrm.out k hkl
              obtain ⟨X, hX⟩ := Int.eq_ofNat_of_zero_le x1
              have hX0 : nth ro k = (X : Int) := hX
              rw [hX0] at x2 x3 x4
              rw [hfl.out] at x2
              have hXn : X < n := by omega
              obtain ⟨K1, hK1⟩ : ∃ z, z = (k + 1) % NR := ⟨_, rfl⟩
              have hK1l : K1 < NR := by rw [hK1]; exact Nat.mod_lt _ (by omega)
              rw [← hK1] at x3
              have c1 : W4.cell? ⟨br, or_ + k, none⟩ = some (.int .i64 (X : Int)) := by rw [← hq4.out, ← hX0]; exact Hcr.out k hkl
              have c2 : W4.cell? ⟨bf, of + X, none⟩ = some (.int .i64 (nth f X)) := by rw [← hq4.out]; exact kf.out X hXn
              have c3' : W4.cell? ⟨br, or_ + K1, none⟩ = some (.int .i64 (nth f X)) := by
                rw [← hq4.out, show nth f X = nth ro K1 from x3]
                exact Hcr.out K1 hK1l
              have c4' : W4.cell? ⟨br, or_, none⟩ = some (.int .i64 (nth ro 0)) := by rw [← hq4.out]; exact Hcr.out 0 (by omega)
              have t1 : IntKind.i64.wrap ((k : Int) + 1) = (k : Int) + 1 := IntWalk.i64_in _ (by omega)
              have t2 : Int.tmod ((k : Int) + 1) (NR : Int) = (K1 : Int) := by
                rw [Int.tmod_eq_emod_of_nonneg (by omega), hK1, Int.natCast_emod]; rfl
              have t3 : IntKind.i64.wrap (K1 : Int) = (K1 : Int) := IntWalk.i64_in _ (by omega)
              have hK0 : (0 : Int) ≤ (K1 : Int) := by omega
              have hK2 : (K1 : Int) < (NR : Int) := by omega
              have hNR0 : ¬ NR = 0 := by omega
              have hNR1 : ¬ (NR : Int) = 0 := by omega
              have hNRp : (0 : Int) < (NR : Int) := by omega
              have hNRn : 0 < NR := by omega
              have hki : (k : Int) < (NR : Int) := by omega
              clear hX hX0 x1 x3 hK1
              generalize nth f X = F at *
              have b1 : (F != F) = false := by simp
              have b2 : ¬ ((X : Int) < 0) := by omega
              have b3 : ¬ ((n : Int) ≤ (X : Int)) := by omega
              have b4 : ¬ ((X : Int) < nth ro 0) := by omega
              generalize nth ro 0 = R0' at *
              go_wp2
              go_quiet (fail)
              go_wp2
              go_roundw
              case rel => exact ⟨k + 1, _, by omega, by go_num, Lib.hid (draws_more hq4.out _)⟩
              case measure => simp [intOf]; omega
            · obtain ⟨hkl⟩ : Nonempty (k = NR) := ⟨by omega⟩
              go_wp2
              go_roundw
              case rel => exact ⟨i + 1, _, by omega, by go_num, by rw [hsum.out]; go_num, hq4⟩
              case measure => simp [intOf]; omega
        · obtain ⟨hie⟩ : Nonempty (i = NY) := ⟨by omega⟩
          have hs := cyc_sum hcl.out Of.out.ord
          have he : lensL ((cycL f).take i) = n := by rw [hie, ← HNY.out, List.take_length, hs]; exact hfl.out
          rw [he]
          have hnn2 : ((n : Int) == (n : Int)) = true := by simp
          have hb := Lib.hid (show Below w.heap.size w W3 by rw [← hq.out]; exact Below.draws' Hb8.out q)
          clear hie hs he
          go_wp2
          go_ret
          exact ⟨rfl, hb.out⟩
end Go.Proofs.Ythomdggbmjknnaa
