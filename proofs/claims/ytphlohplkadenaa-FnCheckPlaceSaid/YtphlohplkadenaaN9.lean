/- The law of check places, walked: it returns true. -/
import Derived.Test.YtphlohplkadenaaN8
namespace Go.Proofs.Ytphlohplkadenaa
open Go.RowKit
set_option linter.unusedVariables false

theorem mul_nat_i64 {a b : Nat} (ha : a ≤ 2000) (hb : b ≤ 11) : IntKind.i64.wrap ((a : Int) * (b : Int)) = ((a * b : Nat) : Int) ∧ wrap64 ((a : Int) * (b : Int)) = ((a * b : Nat) : Int) := by
  have h : a * b ≤ 2000 * 11 := Nat.mul_le_mul ha hb
  have e : (a : Int) * (b : Int) = ((a * b : Nat) : Int) := by simp
  rw [e]
  exact ⟨IntWalk.i64_in _ (by omega), IntWalk.wrap64_in _ (by omega)⟩

theorem pow_bd {n j : Nat} (hn : n ≤ 11) (hj : j ≤ 2) : n ^ j ≤ 121 := Nat.le_trans (Nat.pow_le_pow_left hn j) (Nat.le_trans (Nat.pow_le_pow_right (by omega) hj) (by decide))
set_option maxRecDepth 10000 in
set_option maxHeartbeats 3200000 in
theorem lawCheckPlace (w : World) (v0 : Value) (z0 : List UInt8) (r0 : Rd rY (· < w.heap.size) w v0 z0) (v1 : Value) (z1 : List UInt8) (r1 : Rd rY (· < w.heap.size) w v1 z1) :
    Calls Try.prog 3 #[v0, v1] w fun e w' => e = .returned (.bool true) ∧ Below w.heap.size w w' := by
  have R0 := Lib.hid r0; clear r0
  have R1 := Lib.hid r1; clear r1
  cases hb : longB z0.length z1.length
  rotate_left
  · have HB := Lib.hid hb; clear hb
    go_enter Try.func3, Try.ntmps3
    go_wp2_with fail
    refine (lawLong R0.out R1.out _ HB.out).mono ?_
    rintro e w' ⟨rfl, rfl⟩
    go_wp2
    go_ret
    exact ⟨rfl, Below.refl _ _⟩
  have HB := Lib.hid hb; clear hb
  go_enter Try.func3, Try.ntmps3
  go_wp2_with fail
  refine (lawLong R0.out R1.out _ HB.out).mono ?_
  rintro e w' ⟨rfl, rfl⟩
  go_wp2_with fail
  refine (specB10Weighting R0.out (Nat.le_refl _)).mono ?_
  rintro e w1 ⟨v, x, rfl, hf, hx⟩
  obtain ⟨S0, hS0, hS1, hbf⟩ := hf
  have Hb1 := Lib.hid hbf
  have Hr1 := Lib.hid (show RdW (· < w1.heap.size) w1 v x from OW.leads.to _ _ _ _ _ hS0 (OW.ok.lt hS0))
  clear hS0 hS1 hbf
  obtain ⟨xb, xm, xt, xs⟩ := x
  obtain ⟨u, rfl, hu⟩ := Hr1.out
  obtain ⟨a, c, rfl, h1, h2⟩ := hu.isSlice
  have hu' : RdI (· < w1.heap.size) w1 (.slice a xs.length c) xs := hu
  clear hu Hr1
  unfold maxLen at h2
  have hxb : 2 ≤ xb ∧ xb ≤ 11 := hx.base
  have hxl : 1 ≤ xs.length ∧ xs.length ≤ 4 := hx.len
  obtain ⟨NB, rfl⟩ := Int.eq_ofNat_of_zero_le (show 0 ≤ xb by omega)
  unfold aggW
  have hsz1 := Hb1.out.size
  have h1' : xs.length ≤ c := h1
  clear h1
  have Hc2 := Lib.hid (heap_alloc_new w1 (.cells #[.int .i64 NB, .int .i64 xm, .int .i64 xt, .slice a xs.length c] 26))
  have Hk2 := Lib.hid (show ∀ k, k < w1.heap.size → (w1.alloc (.cells #[.int .i64 NB, .int .i64 xm, .int .i64 xt, .slice a xs.length c] 26)).heap[k]? = w1.heap[k]? from fun k hk => Below.heap_alloc w1 _ k hk)
  have Hbl2 := Lib.hid (show Below w.heap.size w (w1.alloc (.cells #[.int .i64 NB, .int .i64 xm, .int .i64 xt, .slice a xs.length c] 26)) from Hb1.out.alloc hsz1 _)
  by_cases hl3 : 3 < xs.length
  · obtain ⟨ys, hys⟩ : ∃ ys, ys = xs.take 3 := ⟨_, rfl⟩
    have hyl : ys.length = 3 := by rw [hys]; simp; omega
    have HL := Lib.hid hyl
    have hy : DW ⟨(NB : Int), xm, xt, ys⟩ := by rw [hys]; exact hx.take.1
    have hrt := RdI.take3 hu' hl3
    rw [← hys] at hrt
    have hls : (3 : Int) ≤ (c : Int) := by omega
    have hi3 : (3 : Int) < (xs.length : Int) := by omega
    have Hbx := Lib.hid (heap_alloc_new w1 (.cells #[.int .i64 NB, .int .i64 xm, .int .i64 xt, .slice a 3 c] 26))
    have Hrd := Lib.hid (show RdI (· < w1.heap.size) (w1.alloc (.cells #[.int .i64 NB, .int .i64 xm, .int .i64 xt, .slice a 3 c] 26)) (.slice a 3 c) ys from RdI.ok.keep hrt fun k hk => Below.heap_alloc w1 _ k hk)
    have Hb2 := Lib.hid (show Below w.heap.size w (w1.alloc (.cells #[.int .i64 NB, .int .i64 xm, .int .i64 xt, .slice a 3 c] 26)) from Hb1.out.alloc hsz1 _)
    clear hu' hys hrt hx hyl Hc2 Hk2 Hbl2
    go_wp2_with fail
    generalize w1.alloc (.cells #[.int .i64 NB, .int .i64 xm, .int .i64 xt, .slice a 3 c] 26) = W2 at *
    have Hbx : Hid (W2.heap[w1.heap.size]? = some (.cells #[.int .i64 NB, .int .i64 xm, .int .i64 xt, .slice a 3 c] 26 (0, 0))) := Hbx
    have hbx1 := heap_lt Hbx.out
    have Hy := Hrd
    clear hl3 hi3 hxl h1'
    have hyn : 1 ≤ ys.length := by have := HL.out; omega
    have hnb : 2 ≤ (NB : Int) ∧ (NB : Int) ≤ 11 := hy.base
    have hnm : 2 ≤ xm ∧ xm ≤ 13 := hy.modulus
    have hnt : 0 ≤ xt ∧ xt < xm := hy.target
    have Hw := Lib.hid (show ∀ i, i < ys.length → 0 ≤ nth ys i ∧ nth ys i < xm from hy.weight)
    have hpw := Lib.hid (fun j (hj : j ≤ 2) => pow_bd (n := NB) (j := j) (by omega) hj)
    obtain ⟨b3, o3, u3, hae, hP3, hc3, _⟩ := Rd.elim Hy.out 0 (by omega)
    have hcells := Lib.hid (show ∀ k, k < ys.length → W2.cell? ⟨b3, o3 + k, none⟩ = some (.int .i64 (nth ys k)) from fun k hk => by
      obtain ⟨b4, o4, u4, h4, _, h5, h6⟩ := Rd.elim Hy.out k hk
      rw [hae] at h4
      simp only [Option.some.injEq, Addr.mk.injEq, and_true] at h4
      obtain ⟨rfl, rfl⟩ := h4
      rw [h5, h6])
    clear hc3 hP3
    subst hae
    have Hy0 := Lib.hid hy
    have E0 := Lib.hid (heap_cell Hbx.out (i := 0) rfl)
    have E1 := Lib.hid (heap_cell Hbx.out (i := 1) rfl)
    have E2 := Lib.hid (heap_cell Hbx.out (i := 2) rfl)
    have E3 := Lib.hid (heap_cell Hbx.out (i := 3) rfl)
    clear hy
    have e0 := E0.out
    have e1 := E1.out
    have e2 := E2.out
    have e3 := E3.out
    refine (lawAt ((Rd.ok rleaf.ok).keep R1.out fun k hk => Hb2.out.block k hk) 0 3 (by omega) (by omega) (by omega)).mono ?_
    rintro e w' ⟨⟨s, hs, rfl⟩, rfl⟩
    obtain ⟨p, rfl⟩ := Int.eq_ofNat_of_zero_le hs.1
    have hpl : p < 3 := by
      by_cases h1 : (1 : Int) ≤ 3
      · have := hs.2.1 h1; omega
      · have := HL.out; omega
    have hrng := Lib.hid (st_bd Hy0.out p)
    clear hs
    obtain ⟨y, hyy⟩ : ∃ y : Wgt, y = ⟨(NB : Int), xm, xt, ys⟩ := ⟨_, rfl⟩
    have hstep := Lib.hid (show ∀ X k, k ≠ p → stS y p X (k + 1) = ((stS y p X k).1 + nth ys k * (((stS y p X k).2 % NB : Nat) : Int), (stS y p X k).2 / NB) from fun X k hk => by rw [hyy]; exact stS_step hk)
    have hhit := Lib.hid (show ∀ X k, k = p → stS y p X (k + 1) = stS y p X k from fun X k hk => stS_hit hk)
    have hh0 := Lib.hid (show ∀ s, hitsN y p s 0 = 0 from fun s => rfl)
    have hhs := Lib.hid (show ∀ s d, hitsN y p s (d + 1) = hitsN y p s d + if (s + nth ys p * (d : Nat)) % xm = xt then 1 else 0 from fun s d => by rw [hyy]; exact hitsN_succ _ p s d)
    have hhl := Lib.hid (fun s d => hitsN_le y p s d)
    have hbd := Lib.hid (show ∀ X k, k ≤ ys.length → 0 ≤ (stS y p X k).1 ∧ (stS y p X k).1 ≤ 200 * (k : Int) ∧ (stS y p X k).2 ≤ X from fun X k hk => by rw [hyy]; exact hrng.out X k hk)
    have hfin := Lib.hid (show isCP y p = allB (NB ^ (ys.length - 1)) (fun X => decide (hitsN y p (stS y p X ys.length).1 NB = 1)) by
      rw [hyy]
      have h1 := DW.vw Hy0.out
      have h2 : inB (p : Int) 0 ((ys.length : Int) - 1) = true := inB_true.2 (by have := HL.out; omega)
      show (vW _ && (inB (p : Int) 0 ((ys.length : Int) - 1) && chkPl _ ((p : Int)).toNat)) = _
      rw [h1, h2, Bool.true_and, Bool.true_and]
      exact chkPl_words (x := ⟨(NB : Int), xm, xt, ys⟩) (by show 1 ≤ (NB : Int); omega) (by show 1 ≤ xm; omega) (p := p) (by show p < ys.length; have := HL.out; omega))
    have Hyy := Lib.hid hyy; clear hyy hrng
    clear Hy
    go_wp2_with fail
    go_loopw [7, 8] (fun av iv wr => ∃ (i P : Nat), 1 ≤ i ∧ i ≤ 3 ∧ iv = .int .i64 i ∧ av = .int .i64 P ∧ Hid (P = NB ^ (i - 1)) ∧ P ≤ 121 ∧ W2 = wr) (fun _ iv _ => 3 - (intOf iv).toNat)
    case atStart => exact ⟨1, 1, by omega, by omega, rfl, rfl, Lib.hid (by simp), by omega, rfl⟩
    case round =>
    obtain ⟨i, P, hi1, hi2, rfl, rfl, hP, hP2, rfl⟩ := hrel
    by_cases hlt : i < 3
    · obtain ⟨f1, f2⟩ := mul_nat_i64 (a := P) (b := NB) (by omega) (by omega)
      have hPn := Lib.hid (show P * NB = NB ^ (i + 1 - 1) by rw [hP.out, ← Nat.pow_succ]; congr 1; omega)
      have hPb : P * NB ≤ 121 := by rw [hPn.out]; exact hpw.out _ (by omega)
      generalize P * NB = P2 at *
      go_wp2
      go_roundw
      case rel => exact ⟨i + 1, P2, by omega, by omega, by go_num, rfl, hPn, hPb, by trivial⟩
      case measure => simp [intOf]; omega
    obtain ⟨hiL⟩ : Nonempty (i = 3) := ⟨by omega⟩
    have hPe := Lib.hid (show P = NB ^ (ys.length - 1) by rw [hP.out]; congr 1; have := HL.out; omega)
    clear hiL hP
    go_wp2
    go_loopw [9, 10] (fun fv xv wr => ∃ (X m : Nat) (f : Bool), X ≤ P ∧ xv = .int .i64 X ∧ fv = .bool f ∧ Hid (f = allB X (fun X => decide (hitsN y p (stS y p X ys.length).1 NB = 1))) ∧ Hid (W2.drewN m = wr)) (fun _ xv _ => P - (intOf xv).toNat)
    case atStart => exact ⟨0, 0, true, Nat.zero_le _, rfl, rfl, Lib.hid rfl, Lib.hid rfl⟩
    case round =>
    clear e0 e1 e2 e3
    obtain ⟨X, m, f, hX, rfl, rfl, hf, hm⟩ := hrel
    obtain ⟨W3, rfl⟩ : ∃ W3, W3 = wr := ⟨_, rfl⟩
    by_cases hXl : X < P
    · have e3 : W3.cell? ⟨w1.heap.size, 3, none⟩ = some (.slice (some ⟨b3, o3, none⟩) 3 c) := by rw [← hm.out]; exact E3.out
      have hst0 := Lib.hid (show stS y p X 0 = (0, X) from rfl)
      go_wp2
      go_loopw [11, 12, 13] (fun rv sv iv wr => ∃ (k m : Nat) (S : Int) (R : Nat), k ≤ 3 ∧ iv = .int .i64 k ∧ rv = .int .i64 R ∧ sv = .int .i64 S ∧ Hid (stS y p X k = (S, R)) ∧ Hid (W2.drewN m = wr)) (fun _ _ iv _ => 3 - (intOf iv).toNat)
      case atStart => exact ⟨0, m, 0, X, Nat.zero_le _, rfl, rfl, rfl, hst0, hm⟩
      case round =>
      clear e3
      obtain ⟨k, m2, S, R, hk, rfl, rfl, rfl, hst, hm2⟩ := hrel
      obtain ⟨W4, rfl⟩ : ∃ W4, W4 = wr := ⟨_, rfl⟩
      have e3 : W4.cell? ⟨w1.heap.size, 3, none⟩ = some (.slice (some ⟨b3, o3, none⟩) 3 c) := by rw [← hm2.out]; exact E3.out
      have hsb := hbd.out X k (by have := HL.out; omega)
      rw [hst.out] at hsb
      have hs1 : 0 ≤ S ∧ S ≤ 600 := ⟨hsb.1, by have := hsb.2.1; dsimp only at this; omega⟩
      have hR1 : R ≤ 121 := by have := hsb.2.2; dsimp only at this; omega
      clear hsb
      by_cases hkl : k < 3
      · by_cases hkp : k = p
        · subst hkp
          have hst2 := Lib.hid (show stS y k X (k + 1) = (S, R) by rw [hhit.out X k rfl]; exact hst.out)
          have hne : ((k : Int) != (k : Int)) = false := by simp
          go_wp2
          go_roundw
          case rel => exact ⟨k + 1, m2, S, R, by omega, by go_num, rfl, rfl, hst2, hm2⟩
          case measure => simp [intOf]; omega
        · have hst2 := Lib.hid (show stS y p X (k + 1) = (S + nth ys k * ((R % NB : Nat) : Int), R / NB) by rw [hstep.out X k hkp, hst.out])
          have e0 : W4.cell? ⟨w1.heap.size, 0, none⟩ = some (.int .i64 NB) := by rw [← hm2.out]; exact E0.out
          have hc : W4.cell? ⟨b3, o3 + k, none⟩ = some (.int .i64 (nth ys k)) := by rw [← hm2.out]; exact hcells.out k (by have := HL.out; omega)
          have hw := Hw.out k (by show k < ys.length; have := HL.out; omega)
          have hw1 : 0 ≤ nth ys k ∧ nth ys k ≤ 12 := ⟨hw.1, by have := hw.2; omega⟩
          have hq : R % NB < NB := Nat.mod_lt _ (by omega)
          have t1 : Int.tmod (R : Int) (NB : Int) = ((R % NB : Nat) : Int) := rfl
          have t2 : Int.tdiv (R : Int) (NB : Int) = ((R / NB : Nat) : Int) := rfl
          have hdl : R / NB ≤ R := Nat.div_le_self _ _
          have hne : ((k : Int) != (p : Int)) = true := by simp; omega
          clear hw
          generalize R % NB = q at *
          generalize R / NB = R2 at *
          have t3 : IntKind.i64.wrap (q : Int) = (q : Int) := IntWalk.i64_in _ (by omega)
          have t4 : wrap64 (R2 : Int) = (R2 : Int) := IntWalk.wrap64_in _ (by omega)
          have h4 : 0 ≤ nth ys k * (q : Int) := Int.mul_nonneg hw1.1 (by omega)
          have h5 : nth ys k * (q : Int) ≤ 12 * 10 := Int.mul_le_mul hw1.2 (by omega) (by omega) (by omega)
          generalize nth ys k = wk at *
          have t5 : IntKind.i64.wrap (wk * (q : Int)) = wk * (q : Int) := IntWalk.i64_in _ (by omega)
          have t6 : IntKind.i64.wrap (S + wk * (q : Int)) = S + wk * (q : Int) := IntWalk.i64_in _ (by omega)
          have hn0 : ¬ (NB : Int) = 0 := by omega
          have hn1 : ¬ NB = 0 := by omega
          have k0 : (0 : Int) ≤ (k : Int) := by omega
          have k1 : (k : Int) < ((3 : Nat) : Int) := by omega
          go_wp2
          go_quiet (fail)
          go_wp2
          go_roundw
          case rel => exact ⟨k + 1, _, S + wk * (q : Int), R2, by omega, by go_num, by first | rfl | (rw [t4]), by first | rfl | (rw [t6]), hst2, Lib.hid (draws_more hm2.out _)⟩
          case measure => simp [intOf]; omega
      obtain ⟨hkL⟩ : Nonempty (k = 3) := ⟨by omega⟩
      have hstL := Lib.hid (show (stS y p X ys.length).1 = S by rw [show ys.length = k by have := HL.out; omega, hst.out])
      clear hkL hst hst0
      have e0 : W4.cell? ⟨w1.heap.size, 0, none⟩ = some (.int .i64 NB) := by rw [← hm2.out]; exact E0.out
      go_wp2
      go_loopw [14, 15] (fun nv dv wr => ∃ (d m N : Nat), d ≤ NB ∧ dv = .int .i64 d ∧ nv = .int .i64 N ∧ Hid (hitsN y p S d = N) ∧ Hid (W2.drewN m = wr)) (fun _ dv _ => NB - (intOf dv).toNat)
      case atStart => exact ⟨0, m2, 0, Nat.zero_le _, rfl, rfl, Lib.hid (hh0.out S), hm2⟩
      case round =>
      clear e0 e3
      obtain ⟨d, m4, N, hd, rfl, rfl, hN, hm4⟩ := hrel
      obtain ⟨W5, rfl⟩ : ∃ W5, W5 = wr := ⟨_, rfl⟩
      have e0 : W5.cell? ⟨w1.heap.size, 0, none⟩ = some (.int .i64 NB) := by rw [← hm4.out]; exact E0.out
      have hNd : N ≤ d := by rw [← hN.out]; exact hhl.out S d
      by_cases hdl : d < NB
      · have e1 : W5.cell? ⟨w1.heap.size, 1, none⟩ = some (.int .i64 xm) := by rw [← hm4.out]; exact E1.out
        have e2 : W5.cell? ⟨w1.heap.size, 2, none⟩ = some (.int .i64 xt) := by rw [← hm4.out]; exact E2.out
        have e3 : W5.cell? ⟨w1.heap.size, 3, none⟩ = some (.slice (some ⟨b3, o3, none⟩) 3 c) := by rw [← hm4.out]; exact E3.out
        have hc : W5.cell? ⟨b3, o3 + p, none⟩ = some (.int .i64 (nth ys p)) := by rw [← hm4.out]; exact hcells.out p (by have := HL.out; omega)
        have hw := Hw.out p (by show p < ys.length; have := HL.out; omega)
        have hw1 : 0 ≤ nth ys p ∧ nth ys p ≤ 12 := ⟨hw.1, by have := hw.2; omega⟩
        have h4 : 0 ≤ nth ys p * (d : Int) := Int.mul_nonneg hw1.1 (by omega)
        have h5 : nth ys p * (d : Int) ≤ 12 * 10 := Int.mul_le_mul hw1.2 (by omega) (by omega) (by omega)
        have hsx := hhs.out S d
        clear hw
        generalize nth ys p = wp at *
        have t5 : IntKind.i64.wrap (wp * (d : Int)) = wp * (d : Int) := IntWalk.i64_in _ (by omega)
        have t6 : IntKind.i64.wrap (S + wp * (d : Int)) = S + wp * (d : Int) := IntWalk.i64_in _ (by omega)
        have t1 : Int.tmod (S + wp * (d : Int)) xm = (S + wp * (d : Int)) % xm := Int.tmod_eq_emod_of_nonneg (by omega)
        have g1 := Int.emod_nonneg (S + wp * (d : Int)) (show xm ≠ 0 by omega)
        have g2 := Int.emod_lt_of_pos (S + wp * (d : Int)) (show 0 < xm by omega)
        have hm0 : ¬ xm = 0 := by omega
        have k0 : (0 : Int) ≤ (p : Int) := by omega
        have k1 : (p : Int) < ((3 : Nat) : Int) := by omega
        by_cases hh : (S + wp * (d : Int)) % xm = xt
        · rw [if_pos hh, hN.out] at hsx
          have Hsx := Lib.hid hsx; clear hsx
          have hbq : ((S + wp * (d : Int)) % xm == xt) = true := by simp [hh]
          have hbe : ((S + wp * (d : Int)) % xm) = xt := hh
          generalize (S + wp * (d : Int)) % xm = Q at *
          have t7 : IntKind.i64.wrap Q = Q := IntWalk.i64_in _ (by omega)
          go_wp2
          go_quiet (fail)
          go_wp2
          go_roundw
          case rel => exact ⟨d + 1, _, N + 1, by omega, by go_num, by go_num, Hsx, Lib.hid (draws_more hm4.out _)⟩
          case measure => simp [intOf]; omega
        · rw [if_neg hh, hN.out] at hsx
          have Hsx := Lib.hid hsx; clear hsx
          have hbq : ((S + wp * (d : Int)) % xm == xt) = false := by simp [hh]
          generalize (S + wp * (d : Int)) % xm = Q at *
          have t7 : IntKind.i64.wrap Q = Q := IntWalk.i64_in _ (by omega)
          go_wp2
          go_quiet (fail)
          go_wp2
          go_roundw
          case rel => exact ⟨d + 1, _, N, by omega, by go_num, rfl, Hsx, Lib.hid (draws_more hm4.out _)⟩
          case measure => simp [intOf]; omega
      obtain ⟨hdN⟩ : Nonempty (d = NB) := ⟨by omega⟩
      have hf2 := Lib.hid (show (f && decide (N = 1)) = allB (X + 1) (fun X => decide (hitsN y p (stS y p X ys.length).1 NB = 1)) by
        rw [allB_succ, ← hf.out, hstL.out, ← hN.out, hdN])
      clear hdN hN
      cases f
      · go_wp2
        go_roundw
        case rel => exact ⟨X + 1, m4, false, by omega, by go_num, rfl, hf2, hm4⟩
        case measure => simp [intOf]; omega
      · by_cases hN1 : N = 1
        · subst hN1
          go_wp2
          go_roundw
          case rel => exact ⟨X + 1, m4, true, by omega, by go_num, rfl, hf2, hm4⟩
          case measure => simp [intOf]; omega
        · have hN2 : ((N : Int) == 1) = false := by simp; omega
          have hf3 := Lib.hid (show false = allB (X + 1) (fun X => decide (hitsN y p (stS y p X ys.length).1 NB = 1)) by rw [← hf2.out]; simp [hN1])
          go_wp2
          go_roundw
          case rel => exact ⟨X + 1, m4, false, by omega, by go_num, rfl, hf3, hm4⟩
          case measure => simp [intOf]; omega
    · obtain ⟨hXP⟩ : Nonempty (X = P) := ⟨by omega⟩
      have hcp := Lib.hid (show isCP y p = f by rw [hfin.out, hf.out, hXP, hPe.out])
      clear hXP hf
      have e0 : W3.cell? ⟨w1.heap.size, 0, none⟩ = some (.int .i64 NB) := by rw [← hm.out]; exact E0.out
      have e1 : W3.cell? ⟨w1.heap.size, 1, none⟩ = some (.int .i64 xm) := by rw [← hm.out]; exact E1.out
      have e2 : W3.cell? ⟨w1.heap.size, 2, none⟩ = some (.int .i64 xt) := by rw [← hm.out]; exact E2.out
      have e3 : W3.cell? ⟨w1.heap.size, 3, none⟩ = some (.slice (some ⟨b3, o3, none⟩) 3 c) := by rw [← hm.out]; exact E3.out
      have Hrw := Lib.hid (show ∀ w', Below W3.heap.size W3 w' → RdW (· < w1.heap.size) w' (aggW y (.slice (some ⟨b3, o3, none⟩) 3 c)) y from fun w' hb => by
        have h1 := Hrd.out
        refine RdW.ok.keep (w := W2) ?_ fun k hk => (hb.block k (by rw [← hm.out]; show k < W2.heap.size; omega)).trans (by rw [← hm.out]; rfl)
        rw [Hyy.out]; exact ⟨_, rfl, h1⟩)
      have hsz3 : w1.heap.size < W3.heap.size := by rw [← hm.out]; exact hbx1
      have hszy := Lib.hid (show szW y ≤ 1048576 by rw [Hyy.out]; show ys.length ≤ _; have := HL.out; omega)
      have hvy := Lib.hid (show vW y = true by rw [Hyy.out]; exact DW.vw Hy0.out)
      have Hbw := Lib.hid (show Below w.heap.size w W3 by rw [← hm.out]; exact Below.draws Hb2.out m)
      have hcall := Lib.hid (implIsCheckPlace (Hrw.out W3 (Below.refl _ _)) (by omega) hszy.out p)
      rw [hcp.out] at hcall
      have hcall2 := Lib.hid (fun w' hb => implValidWeighting (Hrw.out w' hb) (by have := hb.size; omega) hszy.out true hvy.out)
      unfold aggW at hcall hcall2
      rw [show y.base = (NB : Int) by rw [Hyy.out], show y.modulus = xm by rw [Hyy.out], show y.target = xt by rw [Hyy.out]] at hcall hcall2
      go_wp2_with fail
      refine (Calls.mono hcall.out ?_)
      rintro e w7 ⟨rfl, hb7⟩
      have e0' := (hb7.cell (p := ⟨w1.heap.size, 0, none⟩) hsz3).trans e0
      have e1' := (hb7.cell (p := ⟨w1.heap.size, 1, none⟩) hsz3).trans e1
      have e2' := (hb7.cell (p := ⟨w1.heap.size, 2, none⟩) hsz3).trans e2
      have e3' := (hb7.cell (p := ⟨w1.heap.size, 3, none⟩) hsz3).trans e3
      have hc7 := Lib.hid (hcall2.out w7 hb7)
      have Hb7 := Lib.hid (Hbw.out.trans (hb7.mono (by have := Hbw.out.size; exact this)))
      have hff : (f == f) = true := by simp
      clear hb7 e0 e1 e2 e3
      go_wp2_with fail
      refine (Calls.mono hc7.out ?_)
      rintro e w8 ⟨rfl, hb8⟩
      have Hb8 := Lib.hid (Hb7.out.trans (hb8.mono (by have := Hb7.out.size; exact this)))
      clear hb8
      go_wp2
      go_ret
      exact ⟨rfl, Hb8.out⟩
  · have hnl : ¬ (3 : Int) < (xs.length : Int) := by omega
    have hy := hx
    obtain ⟨ys, hys⟩ : ∃ ys, ys = xs := ⟨_, rfl⟩
    subst hys
    obtain ⟨n, hn⟩ : ∃ n, ys.length = n := ⟨_, rfl⟩
    have HL := Lib.hid hn
    rw [hn] at hnl hxl hl3 h1' hu' Hc2 Hk2 Hbl2 ⊢
    have Hbx := Hc2
    have Hrd := Lib.hid (show RdI (· < w1.heap.size) (w1.alloc (.cells #[.int .i64 NB, .int .i64 xm, .int .i64 xt, .slice a n c] 26)) (.slice a n c) ys from RdI.ok.keep hu' fun k hk => Hk2.out k hk)
    have Hb2 := Hbl2
    clear hu' hx Hk2 Hbl2 Hc2 hn
    go_wp2_with fail
    generalize w1.alloc (.cells #[.int .i64 NB, .int .i64 xm, .int .i64 xt, .slice a n c] 26) = W2 at *
    have hbx1 := heap_lt Hbx.out
    have Hy := Hrd
    clear hnl
    have hyn : 1 ≤ ys.length := by have := HL.out; omega
    have hnb : 2 ≤ (NB : Int) ∧ (NB : Int) ≤ 11 := hy.base
    have hnm : 2 ≤ xm ∧ xm ≤ 13 := hy.modulus
    have hnt : 0 ≤ xt ∧ xt < xm := hy.target
    have Hw := Lib.hid (show ∀ i, i < ys.length → 0 ≤ nth ys i ∧ nth ys i < xm from hy.weight)
    have hpw := Lib.hid (fun j (hj : j ≤ 2) => pow_bd (n := NB) (j := j) (by omega) hj)
    obtain ⟨b3, o3, u3, hae, hP3, hc3, _⟩ := Rd.elim Hy.out 0 (by omega)
    have hcells := Lib.hid (show ∀ k, k < ys.length → W2.cell? ⟨b3, o3 + k, none⟩ = some (.int .i64 (nth ys k)) from fun k hk => by
      obtain ⟨b4, o4, u4, h4, _, h5, h6⟩ := Rd.elim Hy.out k hk
      rw [hae] at h4
      simp only [Option.some.injEq, Addr.mk.injEq, and_true] at h4
      obtain ⟨rfl, rfl⟩ := h4
      rw [h5, h6])
    clear hc3 hP3
    subst hae
    have Hy0 := Lib.hid hy
    have E0 := Lib.hid (heap_cell Hbx.out (i := 0) rfl)
    have E1 := Lib.hid (heap_cell Hbx.out (i := 1) rfl)
    have E2 := Lib.hid (heap_cell Hbx.out (i := 2) rfl)
    have E3 := Lib.hid (heap_cell Hbx.out (i := 3) rfl)
    clear hy
    have e0 := E0.out
    have e1 := E1.out
    have e2 := E2.out
    have e3 := E3.out
    refine (lawAt ((Rd.ok rleaf.ok).keep R1.out fun k hk => Hb2.out.block k hk) 0 n (by omega) (by omega) (by omega)).mono ?_
    rintro e w' ⟨⟨s, hs, rfl⟩, rfl⟩
    obtain ⟨p, rfl⟩ := Int.eq_ofNat_of_zero_le hs.1
    have hpl : p < n := by
      by_cases h1 : (1 : Int) ≤ n
      · have := hs.2.1 h1; omega
      · have := HL.out; omega
    have hrng := Lib.hid (st_bd Hy0.out p)
    clear hs
    obtain ⟨y, hyy⟩ : ∃ y : Wgt, y = ⟨(NB : Int), xm, xt, ys⟩ := ⟨_, rfl⟩
    have hstep := Lib.hid (show ∀ X k, k ≠ p → stS y p X (k + 1) = ((stS y p X k).1 + nth ys k * (((stS y p X k).2 % NB : Nat) : Int), (stS y p X k).2 / NB) from fun X k hk => by rw [hyy]; exact stS_step hk)
    have hhit := Lib.hid (show ∀ X k, k = p → stS y p X (k + 1) = stS y p X k from fun X k hk => stS_hit hk)
    have hh0 := Lib.hid (show ∀ s, hitsN y p s 0 = 0 from fun s => rfl)
    have hhs := Lib.hid (show ∀ s d, hitsN y p s (d + 1) = hitsN y p s d + if (s + nth ys p * (d : Nat)) % xm = xt then 1 else 0 from fun s d => by rw [hyy]; exact hitsN_succ _ p s d)
    have hhl := Lib.hid (fun s d => hitsN_le y p s d)
    have hbd := Lib.hid (show ∀ X k, k ≤ ys.length → 0 ≤ (stS y p X k).1 ∧ (stS y p X k).1 ≤ 200 * (k : Int) ∧ (stS y p X k).2 ≤ X from fun X k hk => by rw [hyy]; exact hrng.out X k hk)
    have hfin := Lib.hid (show isCP y p = allB (NB ^ (ys.length - 1)) (fun X => decide (hitsN y p (stS y p X ys.length).1 NB = 1)) by
      rw [hyy]
      have h1 := DW.vw Hy0.out
      have h2 : inB (p : Int) 0 ((ys.length : Int) - 1) = true := inB_true.2 (by have := HL.out; omega)
      show (vW _ && (inB (p : Int) 0 ((ys.length : Int) - 1) && chkPl _ ((p : Int)).toNat)) = _
      rw [h1, h2, Bool.true_and, Bool.true_and]
      exact chkPl_words (x := ⟨(NB : Int), xm, xt, ys⟩) (by show 1 ≤ (NB : Int); omega) (by show 1 ≤ xm; omega) (p := p) (by show p < ys.length; have := HL.out; omega))
    have Hyy := Lib.hid hyy; clear hyy hrng
    clear Hy
    go_wp2_with fail
    go_loopw [7, 8] (fun av iv wr => ∃ (i P : Nat), 1 ≤ i ∧ i ≤ n ∧ iv = .int .i64 i ∧ av = .int .i64 P ∧ Hid (P = NB ^ (i - 1)) ∧ P ≤ 121 ∧ W2 = wr) (fun _ iv _ => n - (intOf iv).toNat)
    case atStart => exact ⟨1, 1, by omega, by omega, rfl, rfl, Lib.hid (by simp), by omega, rfl⟩
    case round =>
    obtain ⟨i, P, hi1, hi2, rfl, rfl, hP, hP2, rfl⟩ := hrel
    by_cases hlt : i < n
    · obtain ⟨f1, f2⟩ := mul_nat_i64 (a := P) (b := NB) (by omega) (by omega)
      have hPn := Lib.hid (show P * NB = NB ^ (i + 1 - 1) by rw [hP.out, ← Nat.pow_succ]; congr 1; omega)
      have hPb : P * NB ≤ 121 := by rw [hPn.out]; exact hpw.out _ (by omega)
      generalize P * NB = P2 at *
      go_wp2
      go_roundw
      case rel => exact ⟨i + 1, P2, by omega, by omega, by go_num, rfl, hPn, hPb, by trivial⟩
      case measure => simp [intOf]; omega
    obtain ⟨hiL⟩ : Nonempty (i = n) := ⟨by omega⟩
    have hPe := Lib.hid (show P = NB ^ (ys.length - 1) by rw [hP.out]; congr 1; have := HL.out; omega)
    clear hiL hP
    go_wp2
    go_loopw [9, 10] (fun fv xv wr => ∃ (X m : Nat) (f : Bool), X ≤ P ∧ xv = .int .i64 X ∧ fv = .bool f ∧ Hid (f = allB X (fun X => decide (hitsN y p (stS y p X ys.length).1 NB = 1))) ∧ Hid (W2.drewN m = wr)) (fun _ xv _ => P - (intOf xv).toNat)
    case atStart => exact ⟨0, 0, true, Nat.zero_le _, rfl, rfl, Lib.hid rfl, Lib.hid rfl⟩
    case round =>
    clear e0 e1 e2 e3
    obtain ⟨X, m, f, hX, rfl, rfl, hf, hm⟩ := hrel
    obtain ⟨W3, rfl⟩ : ∃ W3, W3 = wr := ⟨_, rfl⟩
    by_cases hXl : X < P
    · have e3 : W3.cell? ⟨w1.heap.size, 3, none⟩ = some (.slice (some ⟨b3, o3, none⟩) n c) := by rw [← hm.out]; exact E3.out
      have hst0 := Lib.hid (show stS y p X 0 = (0, X) from rfl)
      go_wp2
      go_loopw [11, 12, 13] (fun rv sv iv wr => ∃ (k m : Nat) (S : Int) (R : Nat), k ≤ n ∧ iv = .int .i64 k ∧ rv = .int .i64 R ∧ sv = .int .i64 S ∧ Hid (stS y p X k = (S, R)) ∧ Hid (W2.drewN m = wr)) (fun _ _ iv _ => n - (intOf iv).toNat)
      case atStart => exact ⟨0, m, 0, X, Nat.zero_le _, rfl, rfl, rfl, hst0, hm⟩
      case round =>
      clear e3
      obtain ⟨k, m2, S, R, hk, rfl, rfl, rfl, hst, hm2⟩ := hrel
      obtain ⟨W4, rfl⟩ : ∃ W4, W4 = wr := ⟨_, rfl⟩
      have e3 : W4.cell? ⟨w1.heap.size, 3, none⟩ = some (.slice (some ⟨b3, o3, none⟩) n c) := by rw [← hm2.out]; exact E3.out
      have hsb := hbd.out X k (by have := HL.out; omega)
      rw [hst.out] at hsb
      have hs1 : 0 ≤ S ∧ S ≤ 600 := ⟨hsb.1, by have := hsb.2.1; dsimp only at this; omega⟩
      have hR1 : R ≤ 121 := by have := hsb.2.2; dsimp only at this; omega
      clear hsb
      by_cases hkl : k < n
      · by_cases hkp : k = p
        · subst hkp
          have hst2 := Lib.hid (show stS y k X (k + 1) = (S, R) by rw [hhit.out X k rfl]; exact hst.out)
          have hne : ((k : Int) != (k : Int)) = false := by simp
          go_wp2
          go_roundw
          case rel => exact ⟨k + 1, m2, S, R, by omega, by go_num, rfl, rfl, hst2, hm2⟩
          case measure => simp [intOf]; omega
        · have hst2 := Lib.hid (show stS y p X (k + 1) = (S + nth ys k * ((R % NB : Nat) : Int), R / NB) by rw [hstep.out X k hkp, hst.out])
          have e0 : W4.cell? ⟨w1.heap.size, 0, none⟩ = some (.int .i64 NB) := by rw [← hm2.out]; exact E0.out
          have hc : W4.cell? ⟨b3, o3 + k, none⟩ = some (.int .i64 (nth ys k)) := by rw [← hm2.out]; exact hcells.out k (by have := HL.out; omega)
          have hw := Hw.out k (by show k < ys.length; have := HL.out; omega)
          have hw1 : 0 ≤ nth ys k ∧ nth ys k ≤ 12 := ⟨hw.1, by have := hw.2; omega⟩
          have hq : R % NB < NB := Nat.mod_lt _ (by omega)
          have t1 : Int.tmod (R : Int) (NB : Int) = ((R % NB : Nat) : Int) := rfl
          have t2 : Int.tdiv (R : Int) (NB : Int) = ((R / NB : Nat) : Int) := rfl
          have hdl : R / NB ≤ R := Nat.div_le_self _ _
          have hne : ((k : Int) != (p : Int)) = true := by simp; omega
          clear hw
          generalize R % NB = q at *
          generalize R / NB = R2 at *
          have t3 : IntKind.i64.wrap (q : Int) = (q : Int) := IntWalk.i64_in _ (by omega)
          have t4 : wrap64 (R2 : Int) = (R2 : Int) := IntWalk.wrap64_in _ (by omega)
          have h4 : 0 ≤ nth ys k * (q : Int) := Int.mul_nonneg hw1.1 (by omega)
          have h5 : nth ys k * (q : Int) ≤ 12 * 10 := Int.mul_le_mul hw1.2 (by omega) (by omega) (by omega)
          generalize nth ys k = wk at *
          have t5 : IntKind.i64.wrap (wk * (q : Int)) = wk * (q : Int) := IntWalk.i64_in _ (by omega)
          have t6 : IntKind.i64.wrap (S + wk * (q : Int)) = S + wk * (q : Int) := IntWalk.i64_in _ (by omega)
          have hn0 : ¬ (NB : Int) = 0 := by omega
          have hn1 : ¬ NB = 0 := by omega
          have k0 : (0 : Int) ≤ (k : Int) := by omega
          have k1 : (k : Int) < ((n : Nat) : Int) := by omega
          go_wp2
          go_quiet (fail)
          go_wp2
          go_roundw
          case rel => exact ⟨k + 1, _, S + wk * (q : Int), R2, by omega, by go_num, by first | rfl | (rw [t4]), by first | rfl | (rw [t6]), hst2, Lib.hid (draws_more hm2.out _)⟩
          case measure => simp [intOf]; omega
      obtain ⟨hkL⟩ : Nonempty (k = n) := ⟨by omega⟩
      have hstL := Lib.hid (show (stS y p X ys.length).1 = S by rw [show ys.length = k by have := HL.out; omega, hst.out])
      clear hkL hst hst0
      have e0 : W4.cell? ⟨w1.heap.size, 0, none⟩ = some (.int .i64 NB) := by rw [← hm2.out]; exact E0.out
      go_wp2
      go_loopw [14, 15] (fun nv dv wr => ∃ (d m N : Nat), d ≤ NB ∧ dv = .int .i64 d ∧ nv = .int .i64 N ∧ Hid (hitsN y p S d = N) ∧ Hid (W2.drewN m = wr)) (fun _ dv _ => NB - (intOf dv).toNat)
      case atStart => exact ⟨0, m2, 0, Nat.zero_le _, rfl, rfl, Lib.hid (hh0.out S), hm2⟩
      case round =>
      clear e0 e3
      obtain ⟨d, m4, N, hd, rfl, rfl, hN, hm4⟩ := hrel
      obtain ⟨W5, rfl⟩ : ∃ W5, W5 = wr := ⟨_, rfl⟩
      have e0 : W5.cell? ⟨w1.heap.size, 0, none⟩ = some (.int .i64 NB) := by rw [← hm4.out]; exact E0.out
      have hNd : N ≤ d := by rw [← hN.out]; exact hhl.out S d
      by_cases hdl : d < NB
      · have e1 : W5.cell? ⟨w1.heap.size, 1, none⟩ = some (.int .i64 xm) := by rw [← hm4.out]; exact E1.out
        have e2 : W5.cell? ⟨w1.heap.size, 2, none⟩ = some (.int .i64 xt) := by rw [← hm4.out]; exact E2.out
        have e3 : W5.cell? ⟨w1.heap.size, 3, none⟩ = some (.slice (some ⟨b3, o3, none⟩) n c) := by rw [← hm4.out]; exact E3.out
        have hc : W5.cell? ⟨b3, o3 + p, none⟩ = some (.int .i64 (nth ys p)) := by rw [← hm4.out]; exact hcells.out p (by have := HL.out; omega)
        have hw := Hw.out p (by show p < ys.length; have := HL.out; omega)
        have hw1 : 0 ≤ nth ys p ∧ nth ys p ≤ 12 := ⟨hw.1, by have := hw.2; omega⟩
        have h4 : 0 ≤ nth ys p * (d : Int) := Int.mul_nonneg hw1.1 (by omega)
        have h5 : nth ys p * (d : Int) ≤ 12 * 10 := Int.mul_le_mul hw1.2 (by omega) (by omega) (by omega)
        have hsx := hhs.out S d
        clear hw
        generalize nth ys p = wp at *
        have t5 : IntKind.i64.wrap (wp * (d : Int)) = wp * (d : Int) := IntWalk.i64_in _ (by omega)
        have t6 : IntKind.i64.wrap (S + wp * (d : Int)) = S + wp * (d : Int) := IntWalk.i64_in _ (by omega)
        have t1 : Int.tmod (S + wp * (d : Int)) xm = (S + wp * (d : Int)) % xm := Int.tmod_eq_emod_of_nonneg (by omega)
        have g1 := Int.emod_nonneg (S + wp * (d : Int)) (show xm ≠ 0 by omega)
        have g2 := Int.emod_lt_of_pos (S + wp * (d : Int)) (show 0 < xm by omega)
        have hm0 : ¬ xm = 0 := by omega
        have k0 : (0 : Int) ≤ (p : Int) := by omega
        have k1 : (p : Int) < ((n : Nat) : Int) := by omega
        by_cases hh : (S + wp * (d : Int)) % xm = xt
        · rw [if_pos hh, hN.out] at hsx
          have Hsx := Lib.hid hsx; clear hsx
          have hbq : ((S + wp * (d : Int)) % xm == xt) = true := by simp [hh]
          have hbe : ((S + wp * (d : Int)) % xm) = xt := hh
          generalize (S + wp * (d : Int)) % xm = Q at *
          have t7 : IntKind.i64.wrap Q = Q := IntWalk.i64_in _ (by omega)
          go_wp2
          go_quiet (fail)
          go_wp2
          go_roundw
          case rel => exact ⟨d + 1, _, N + 1, by omega, by go_num, by go_num, Hsx, Lib.hid (draws_more hm4.out _)⟩
          case measure => simp [intOf]; omega
        · rw [if_neg hh, hN.out] at hsx
          have Hsx := Lib.hid hsx; clear hsx
          have hbq : ((S + wp * (d : Int)) % xm == xt) = false := by simp [hh]
          generalize (S + wp * (d : Int)) % xm = Q at *
          have t7 : IntKind.i64.wrap Q = Q := IntWalk.i64_in _ (by omega)
          go_wp2
          go_quiet (fail)
          go_wp2
          go_roundw
          case rel => exact ⟨d + 1, _, N, by omega, by go_num, rfl, Hsx, Lib.hid (draws_more hm4.out _)⟩
          case measure => simp [intOf]; omega
      obtain ⟨hdN⟩ : Nonempty (d = NB) := ⟨by omega⟩
      have hf2 := Lib.hid (show (f && decide (N = 1)) = allB (X + 1) (fun X => decide (hitsN y p (stS y p X ys.length).1 NB = 1)) by
        rw [allB_succ, ← hf.out, hstL.out, ← hN.out, hdN])
      clear hdN hN
      cases f
      · go_wp2
        go_roundw
        case rel => exact ⟨X + 1, m4, false, by omega, by go_num, rfl, hf2, hm4⟩
        case measure => simp [intOf]; omega
      · by_cases hN1 : N = 1
        · subst hN1
          go_wp2
          go_roundw
          case rel => exact ⟨X + 1, m4, true, by omega, by go_num, rfl, hf2, hm4⟩
          case measure => simp [intOf]; omega
        · have hN2 : ((N : Int) == 1) = false := by simp; omega
          have hf3 := Lib.hid (show false = allB (X + 1) (fun X => decide (hitsN y p (stS y p X ys.length).1 NB = 1)) by rw [← hf2.out]; simp [hN1])
          go_wp2
          go_roundw
          case rel => exact ⟨X + 1, m4, false, by omega, by go_num, rfl, hf3, hm4⟩
          case measure => simp [intOf]; omega
    · obtain ⟨hXP⟩ : Nonempty (X = P) := ⟨by omega⟩
      have hcp := Lib.hid (show isCP y p = f by rw [hfin.out, hf.out, hXP, hPe.out])
      clear hXP hf
      have e0 : W3.cell? ⟨w1.heap.size, 0, none⟩ = some (.int .i64 NB) := by rw [← hm.out]; exact E0.out
      have e1 : W3.cell? ⟨w1.heap.size, 1, none⟩ = some (.int .i64 xm) := by rw [← hm.out]; exact E1.out
      have e2 : W3.cell? ⟨w1.heap.size, 2, none⟩ = some (.int .i64 xt) := by rw [← hm.out]; exact E2.out
      have e3 : W3.cell? ⟨w1.heap.size, 3, none⟩ = some (.slice (some ⟨b3, o3, none⟩) n c) := by rw [← hm.out]; exact E3.out
      have Hrw := Lib.hid (show ∀ w', Below W3.heap.size W3 w' → RdW (· < w1.heap.size) w' (aggW y (.slice (some ⟨b3, o3, none⟩) n c)) y from fun w' hb => by
        have h1 := Hrd.out
        refine RdW.ok.keep (w := W2) ?_ fun k hk => (hb.block k (by rw [← hm.out]; show k < W2.heap.size; omega)).trans (by rw [← hm.out]; rfl)
        rw [Hyy.out]; exact ⟨_, rfl, h1⟩)
      have hsz3 : w1.heap.size < W3.heap.size := by rw [← hm.out]; exact hbx1
      have hszy := Lib.hid (show szW y ≤ 1048576 by rw [Hyy.out]; show ys.length ≤ _; have := HL.out; omega)
      have hvy := Lib.hid (show vW y = true by rw [Hyy.out]; exact DW.vw Hy0.out)
      have Hbw := Lib.hid (show Below w.heap.size w W3 by rw [← hm.out]; exact Below.draws Hb2.out m)
      have hcall := Lib.hid (implIsCheckPlace (Hrw.out W3 (Below.refl _ _)) (by omega) hszy.out p)
      rw [hcp.out] at hcall
      have hcall2 := Lib.hid (fun w' hb => implValidWeighting (Hrw.out w' hb) (by have := hb.size; omega) hszy.out true hvy.out)
      unfold aggW at hcall hcall2
      rw [show y.base = (NB : Int) by rw [Hyy.out], show y.modulus = xm by rw [Hyy.out], show y.target = xt by rw [Hyy.out]] at hcall hcall2
      go_wp2_with fail
      refine (Calls.mono hcall.out ?_)
      rintro e w7 ⟨rfl, hb7⟩
      have e0' := (hb7.cell (p := ⟨w1.heap.size, 0, none⟩) hsz3).trans e0
      have e1' := (hb7.cell (p := ⟨w1.heap.size, 1, none⟩) hsz3).trans e1
      have e2' := (hb7.cell (p := ⟨w1.heap.size, 2, none⟩) hsz3).trans e2
      have e3' := (hb7.cell (p := ⟨w1.heap.size, 3, none⟩) hsz3).trans e3
      have hc7 := Lib.hid (hcall2.out w7 hb7)
      have Hb7 := Lib.hid (Hbw.out.trans (hb7.mono (by have := Hbw.out.size; exact this)))
      have hff : (f == f) = true := by simp
      clear hb7 e0 e1 e2 e3
      go_wp2_with fail
      refine (Calls.mono hc7.out ?_)
      rintro e w8 ⟨rfl, hb8⟩
      have Hb8 := Lib.hid (Hb7.out.trans (hb8.mono (by have := Hb7.out.size; exact this)))
      clear hb8
      go_wp2
      go_ret
      exact ⟨rfl, Hb8.out⟩
end Go.Proofs.Ytphlohplkadenaa
