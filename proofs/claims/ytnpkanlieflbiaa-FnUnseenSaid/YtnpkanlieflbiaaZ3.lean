/- The walk of the law of unseen pairs (FnUnseen): it returns true. -/
import Derived.Test.YtnpkanlieflbiaaZ2
import Derived.Test.YtnpkanlieflbiaaY6
import Derived.Test.YtnpkanlieflbiaaE15
import Derived.Test.YtnpkanlieflbiaaN7
import Derived.Test.YtnpkanlieflbiaaI0
import Derived.Deep.CutRange
import Derived.Deep.DeepCutAuto
import Derived.IntWalk
namespace Go.Proofs.Ytnpkanlieflbiaa
open Go.RowKit
set_option linter.unusedVariables false

/-- Is the pair (a, b) unseen? -/
def puB (m by_ : Int) (a b : Nat) : Nat := b2n (decide (a ≠ b) && zeroAt m by_ ((a : Int) - b))
def puT (m by_ : Int) (n a b : Nat) : Nat := (sumN a fun i => sumN n fun j => puB m by_ i j) + sumN b fun j => puB m by_ a j
theorem puT_zero (m by_ : Int) (n : Nat) : puT m by_ n 0 0 = 0 := rfl
theorem puT_succ (m by_ : Int) (n a b : Nat) : puT m by_ n a (b + 1) = puT m by_ n a b + puB m by_ a b := by unfold puT; rw [sumN_succ (n := b)]; omega
theorem puT_next (m by_ : Int) (n a : Nat) : puT m by_ n a n = puT m by_ n (a + 1) 0 := by unfold puT; rw [sumN_succ (n := a), sumN_zero]; rfl
theorem puT_end (m by_ : Int) (n : Nat) : puT m by_ n n 0 = pairsN m by_ n := by unfold puT; rw [sumN_zero]; rfl
theorem puB_le (m by_ : Int) (a b : Nat) : puB m by_ a b ≤ 1 := by unfold puB b2n; split <;> omega
theorem puT_le (m by_ : Int) {n a b : Nat} (hn : n ≤ 11) (ha : a ≤ n) (hb : b ≤ n) : puT m by_ n a b ≤ 200 := by
  unfold puT
  have h1 : (sumN a fun i => sumN n fun j => puB m by_ i j) ≤ a * (n * 1) := sumN_le fun i _ => sumN_le fun j _ => puB_le m by_ i j
  have h2 : (sumN b fun j => puB m by_ a j) ≤ b * 1 := sumN_le fun j _ => puB_le m by_ a j
  have h3 : a * (n * 1) ≤ 11 * (11 * 1) := Nat.mul_le_mul (by omega) (by omega)
  omega
theorem mulBd {A D : Int} (hA : 0 ≤ A ∧ A ≤ 12) (hD : -11 ≤ D ∧ D ≤ 11) : -132 ≤ A * D ∧ A * D ≤ 132 := by
  have h1 : A * D ≤ A * 11 := Int.mul_le_mul_of_nonneg_left hD.2 hA.1
  have h2 : A * (-11) ≤ A * D := Int.mul_le_mul_of_nonneg_left hD.1 hA.1
  omega
theorem modZ (E : Int) {M : Int} (hM : 2 ≤ M ∧ M ≤ 13) : ∃ R : Int, Int.tmod E M = R ∧ (-13 ≤ R ∧ R ≤ 13) ∧ (E % M = 0 ↔ R = 0) := by
  have h1 := Int.emod_nonneg E (show M ≠ 0 by omega)
  have h2 := Int.emod_lt_of_pos E (show 0 < M by omega)
  refine ⟨_, rfl, ?_, ?_⟩
  · rw [Int.tmod_eq_emod]
    split <;> omega
  · constructor
    · intro h; exact Int.tmod_eq_zero_of_dvd (Int.dvd_of_emod_eq_zero h)
    · intro h; exact Int.emod_eq_zero_of_dvd (Int.dvd_of_tmod_eq_zero h)
theorem puB_is {M BY E R : Int} {a b : Nat} (hE : BY * ((a : Int) - b) = E) (hR : E % M = 0 ↔ R = 0) : puB M BY a b = if a ≠ b ∧ R = 0 then 1 else 0 := by
  unfold puB b2n zeroAt
  rw [hE]
  by_cases h1 : a = b <;> by_cases h2 : R = 0 <;> simp [h1, h2, hR]
def finB (x : Wgt) (K : Int) (p : Nat) : Bool := allB p fun q => decide (unsN x K q = 0)
theorem finB_succ (x : Wgt) (K : Int) (p : Nat) : finB x K (p + 1) = (finB x K p && decide (unsN x K p = 0)) := allB_succ _ _
theorem pairs_uns {x : Wgt} {K : Int} (hK : K ≠ 5) (p : Nat) : pairsN x.modulus (byW K (nth x.weights p) (nth x.weights (p + errLen K - 1))) x.base.toNat = unsN x K p := by unfold unsN; rw [if_neg hK, pairs_diff]
theorem dw_uok {x : Wgt} (h : DW x) {K : Int} (hK : 0 ≤ K ∧ K ≤ 4) (p : Int) : uOk x K p = inB p 0 ((x.weights.length : Int) - errLen K) := by
  unfold uOk
  rw [h.vw, uOk_in]
  have h1 : kindOk K x.base = true := by unfold kindOk; rw [inB_true.2 (by omega)]; simp; omega
  rw [h1]; rfl
theorem dw_cat {x : Wgt} (h : DW x) {K : Int} (hK : 0 ≤ K ∧ K ≤ 4) {p : Nat} (hp : ∀ q, q + errLen K ≤ x.weights.length ↔ q < p) : catW x K = finB x K p := by
  have h1 : kindOk K x.base = true := by unfold kindOk; rw [inB_true.2 (by omega)]; simp; omega
  have h2 : plcs x K = p := by
    have h3 := hp p
    have h4 := errLen_bd K
    unfold plcs
    cases p with
    | zero => omega
    | succ p => have h5 := hp p; omega
  unfold catW catV
  rw [h.vw, h1, h2, Bool.eq_iff_iff]
  simp only [Bool.true_and, decide_eq_true_eq, finB, allB_iff]
  constructor
  · intro h3 q hq
    rcases Nat.eq_zero_or_pos (unsN x K q) with h | h
    · exact h
    · have : 0 < sumU x K p := sumN_pos.2 ⟨q, hq, h⟩
      omega
  · intro h3
    exact sumN_zeros h3
set_option maxRecDepth 100000 in
set_option maxHeartbeats 6400000 in
theorem lawUnseen (w : World) (v0 : Value) (z0 : List UInt8) (r0 : Rd rY (· < w.heap.size) w v0 z0) (v1 : Value) (z1 : List UInt8) (r1 : Rd rY (· < w.heap.size) w v1 z1) :
    Calls Try.prog 6 #[v0, v1] w fun e w' => e = .returned (.bool true) ∧ Below w.heap.size w w' := by
  have R0 := Lib.hid r0; clear r0
  have R1 := Lib.hid r1; clear r1
  cases hb : longB z0.length z1.length
  rotate_left
  · have HB := Lib.hid hb; clear hb
    go_enter Try.func6, Try.ntmps6
    go_wp2_with fail
    refine (lawLong R0.out R1.out _ HB.out).mono ?_
    rintro e w' ⟨rfl, rfl⟩
    go_wp2
    go_ret
    exact ⟨rfl, Below.refl _ _⟩
  have HB := Lib.hid hb; clear hb
  go_enter Try.func6, Try.ntmps6
  go_wp2_with fail
  refine (lawLong R0.out R1.out _ HB.out).mono ?_
  rintro e w' ⟨rfl, rfl⟩
  go_wp2_with fail
  refine (specB10Weighting R0.out (Nat.le_refl _)).mono ?_
  rintro e w1 ⟨v, x, rfl, hf, hx⟩
  have Hb1 := Lib.hid hf.bel
  obtain ⟨S0, hS0, hS1, hbf⟩ := hf
  have Hr1 := Lib.hid (show RdW (· < w1.heap.size) w1 v x from OW.leads.to _ _ _ _ _ hS0 (OW.ok.lt hS0))
  clear hS0 hS1 hbf
  obtain ⟨u, rfl, hu⟩ := Hr1.out
  obtain ⟨a, c, rfl, h1, h2⟩ := hu.isSlice
  unfold maxLen at h2
  have hxb := hx.base
  have hxm := hx.modulus
  have hxl := hx.len
  have Hx := Lib.hid hx; clear hx
  have Hu := Lib.hid hu; clear hu
  unfold aggW
  have hsz1 := Hb1.out.size
  obtain ⟨NL, hNL⟩ : ∃ n, x.weights.length = n := ⟨_, rfl⟩
  rw [hNL] at h1 hxl Hr1 Hu ⊢
  have HNL := Lib.hid hNL; clear hNL
  unfold aggW at Hr1
  obtain ⟨W2, hW2⟩ : ∃ W2, W2 = w1.alloc (.cells #[.int .i64 x.base, .int .i64 x.modulus, .int .i64 x.target, .slice a NL c] 31) := ⟨_, rfl⟩
  have Hbx := Lib.hid (show W2.heap[w1.heap.size]? = some (.cells #[.int .i64 x.base, .int .i64 x.modulus, .int .i64 x.target, .slice a NL c] 31 (0, 0)) by rw [hW2]; exact heap_alloc_new w1 _)
  have hb12 := (Below.refl w1.heap.size w1).alloc (Nat.le_refl _) (.cells #[.int .i64 x.base, .int .i64 x.modulus, .int .i64 x.target, .slice a NL c] 31)
  rw [← hW2] at hb12
  have Hb2 := Lib.hid (Hb1.out.trans (hb12.mono hsz1))
  have Hu2 := Lib.hid (RdI.ok.keep Hu.out fun k hk => hb12.block k hk)
  have hW2' := Lib.hid hW2; clear hW2 hb12 Hr1
  go_wp2_with fail
  rw [← hW2'.out]
  refine (lawAt (Rd.below (Rd.ok rleaf.ok) R1.out Hb2.out) 0 5 (by omega) (by omega) (by omega)).mono ?_
  rintro e w' ⟨⟨s, hs, rfl⟩, rfl⟩
  obtain ⟨K, rfl⟩ := Int.eq_ofNat_of_zero_le hs.1
  have hK4 : K ≤ 4 := by have := hs.2.1 (by omega); omega
  clear hs hW2'
  go_upto_region 5 with fail
  go_cut [7] (fun s0 wx => s0 = .int .i64 ((errLen (K : Int) : Nat) : Int) ∧ Below W2.heap.size W2 wx)
  case first =>
    have hk5 : K = 0 ∨ K = 1 ∨ K = 2 ∨ K = 3 ∨ K = 4 := by omega
    rcases hk5 with rfl | rfl | rfl | rfl | rfl
    all_goals
      go_wp2_with fail
      go_meet
      exact ⟨rfl, (Below.refl _ _).alloc (Nat.le_refl _) _⟩
  case rest =>
  obtain ⟨W3, rfl⟩ : ∃ W, W = wc := ⟨_, rfl⟩
  obtain ⟨rfl, hb3⟩ := hcut
  obtain ⟨SZ, hSZ⟩ : ∃ n, errLen (K : Int) = n := ⟨_, rfl⟩
  have hS3 := errLen_bd (K : Int)
  rw [hSZ] at hS3 ⊢
  have HSZ := Lib.hid hSZ; clear hSZ
  obtain ⟨NB, eb⟩ := Int.eq_ofNat_of_zero_le (show 0 ≤ x.base by omega)
  rw [eb] at hxb Hbx
  have Heb := Lib.hid eb; clear eb
  have hn1 := heap_lt Hbx.out
  have Hbx3 := Lib.hid (below_heap hb3 Hbx.out)
  have Hu3 := Lib.hid (RdI.ok.keep Hu2.out fun k hk => hb3.block k (by have : k < w1.heap.size := hk; omega))
  have Hb3 := Lib.hid (Hb2.out.trans (hb3.mono Hb2.out.size))
  have hz3 := hb3.size
  clear hb3 Hbx Hu2 Hb2 Hb1 Hu
  have hrd : ∀ (W : World), RdI (· < w1.heap.size) W (.slice a NL c) x.weights → RdW (· < w1.heap.size) W (.agg #[.int .i64 NB, .int .i64 x.modulus, .int .i64 x.target, .slice a NL c]) x := fun _ h => ⟨_, by unfold aggW; rw [Heb.out], h⟩
  have Hrd := Lib.hid hrd; clear hrd
  have hvw := Lib.hid Hx.out.vw
  have hvx := Lib.hid (vW_iff.1 hvw.out)
  have c0 := heap_cell Hbx3.out (i := 0) rfl
  have c1 := heap_cell Hbx3.out (i := 1) rfl
  have c2 := heap_cell Hbx3.out (i := 2) rfl
  have c3 := heap_cell Hbx3.out (i := 3) rfl
  have hsW : szW x ≤ 1048576 := by show x.weights.length ≤ _; rw [HNL.out]; omega
  have HsW := Lib.hid hsW; clear hsW
  go_wp2_with fail
  refine (implWeightChain (Hrd.out _ Hu3.out) (by omega) HsW.out).mono ?_
  rw [hvw.out, wcV_yes hvw.out]
  rintro e w4 ⟨v4, rfl, hf4⟩
  obtain ⟨u, p, rfl, a7, n7, c7, a8, n8, c8, rfl, rfl⟩ := hf4.aggC
  have hrc := Lib.hid (show RdC (· < w4.heap.size) w4 _ (wchn x) from hf4.choose_spec.1 |> fun h => OC.leads.to _ _ _ _ _ h (OC.ok.lt h))
  have Hbx4 := Lib.hid (below_heap hf4.bel Hbx3.out)
  have Hu4 := Lib.hid (RdI.ok.keep Hu3.out fun k hk => hf4.bel.block k (by have : k < w1.heap.size := hk; omega))
  have Hb4 := Lib.hid (Hb3.out.trans (hf4.bel.mono Hb3.out.size))
  have hz4 := hf4.bel.size
  clear hf4 Hbx3 Hu3 c0 c1 c2 c3
  obtain ⟨w5, hw5⟩ : ∃ w5, w5 = w4.alloc (.cells #[.int .i64 (wchn x).base, .int .i64 (wchn x).states, .int .i64 (wchn x).start, .int .i64 (wchn x).stop, .slice a7 n7 c7, .slice a8 n8 c8] 28) := ⟨_, rfl⟩
  have hb45 := (Below.refl w4.heap.size w4).alloc (Nat.le_refl _) (.cells #[.int .i64 (wchn x).base, .int .i64 (wchn x).states, .int .i64 (wchn x).start, .int .i64 (wchn x).stop, .slice a7 n7 c7, .slice a8 n8 c8] 28)
  have Hcx5 := Lib.hid (show w5.heap[w4.heap.size]? = some (.cells #[.int .i64 (wchn x).base, .int .i64 (wchn x).states, .int .i64 (wchn x).start, .int .i64 (wchn x).stop, .slice a7 n7 c7, .slice a8 n8 c8] 28 (0, 0)) by rw [hw5]; exact heap_alloc_new w4 _)
  rw [← hw5] at hb45
  have Hbx5 := Lib.hid (below_heap hb45 Hbx4.out)
  have Hu5 := Lib.hid (RdI.ok.keep Hu4.out fun k hk => hb45.block k (by have : k < w1.heap.size := hk; omega))
  have Hb5 := Lib.hid (Hb4.out.trans (hb45.mono Hb4.out.size))
  have hrc5 := Lib.hid (RdC.ok.keep hrc.out fun k hk => hb45.block k hk)
  have hz5 := hb45.size
  have Hw5 := Lib.hid hw5; clear hw5 hb45
  have c0 := heap_cell Hbx4.out (i := 0) rfl
  have c1 := heap_cell Hbx4.out (i := 1) rfl
  have c2 := heap_cell Hbx4.out (i := 2) rfl
  have c3 := heap_cell Hbx4.out (i := 3) rfl
  have hn4 : w1.heap.size < w4.heap.size := by omega
  obtain ⟨CB, hCB⟩ : ∃ b, catW x (K : Int) = b := ⟨_, rfl⟩
  have HCB := Lib.hid hCB; clear hCB
  go_wp2_with fail
  rw [← Hw5.out]
  refine (implWeightCatches (Hrd.out _ Hu5.out) (by omega) HsW.out (K : Int)).mono ?_
  rw [HCB.out]
  rintro e w6 ⟨rfl, hb6⟩
  clear c0 c1 c2 c3 hn4 Hbx4 Hu4 Hw5 hrc
  have hz6 := hb6.size
  have Hcx6 := Lib.hid (below_heap hb6 Hcx5.out)
  have Hbx6 := Lib.hid (below_heap hb6 Hbx5.out)
  have Hu6 := Lib.hid (RdI.ok.keep Hu5.out fun k hk => hb6.block k (by have : k < w1.heap.size := hk; omega))
  have Hb6 := Lib.hid (Hb5.out.trans (hb6.mono Hb5.out.size))
  have hrc6 := Lib.hid (RdC.ok.keep hrc5.out fun k hk => hb6.block k (by have : k < w4.heap.size := hk; omega))
  clear hb6 Hcx5 Hbx5 Hu5 Hb5 hrc5
  have hcat := Lib.hid (dw_cat Hx.out (K := (K : Int)) (by omega) (p := NL + 1 - SZ) (fun q => by rw [HSZ.out, HNL.out]; omega))
  go_upto_region 8 with fail
  go_cut [50] (fun s0 wx => s0 = .bool false ∧ Below w6.heap.size w6 wx)
  case first =>
    cases CB
    · go_wp2_with fail
      go_meet
      exact ⟨rfl, Below.refl _ _⟩
    · have hct := Lib.hid (wchn_caught hvx.out (kind := (K : Int)) (by omega) (fun p hp => by
        have h1 := hcat.out
        rw [HCB.out] at h1
        have h2 := allB_iff.1 h1.symm p (by rw [HSZ.out, HNL.out] at hp; omega)
        simpa using h2))
      have d0 := heap_cell Hcx6.out (i := 0) rfl
      have d1 := heap_cell Hcx6.out (i := 1) rfl
      have d2 := heap_cell Hcx6.out (i := 2) rfl
      have d3 := heap_cell Hcx6.out (i := 3) rfl
      have d4 := heap_cell Hcx6.out (i := 4) rfl
      have d5 := heap_cell Hcx6.out (i := 5) rfl
      have hszc := Lib.hid (Nat.le_trans (wchn_sz hvx.out) (show 30000 ≤ 1048576 by omega))
      have hic := Lib.hid (implIsCaught hrc6.out (by omega) hszc.out (K : Int))
      rw [hct.out] at hic
      go_wp2_with fail
      refine (Calls.mono hic.out ?_)
      rintro e w7 ⟨rfl, hb7⟩
      go_wp2_with fail
      go_meet
      exact ⟨rfl, hb7⟩
  case rest =>
  obtain ⟨W7, rfl⟩ : ∃ W, W = wc := ⟨_, rfl⟩
  obtain ⟨rfl, hb7⟩ := hcut
  have hz7 := hb7.size
  have Hbx7 := Lib.hid (below_heap hb7 Hbx6.out)
  have Hu7 := Lib.hid (RdI.ok.keep Hu6.out fun k hk => hb7.block k (by have : k < w1.heap.size := hk; omega))
  have Hb7 := Lib.hid (Hb6.out.trans (hb7.mono Hb6.out.size))
  clear hb7 Hcx6 Hbx6 Hu6 Hb6 hrc6
  have hn7 : w1.heap.size < W7.heap.size := by omega
  have Hwt := Lib.hid Hx.out.weight
  have Huk := Lib.hid (fun p => dw_uok Hx.out (K := (K : Int)) (by omega) p)
  rw [HSZ.out, HNL.out] at Huk
  go_wp2_with fail
  go_loopw [11, 12] (fun fv pv wr => ∃ p : Nat, p ≤ NL + 1 - SZ ∧ pv = .int .i64 p ∧ fv = .bool (finB x (K : Int) p) ∧ Hid (Below W7.heap.size W7 wr)) (fun _ pv _ => NL + 1 - SZ - (intOf pv).toNat)
  case atStart => exact ⟨0, Nat.zero_le _, rfl, rfl, Lib.hid (Below.refl _ _)⟩
  case round =>
    obtain ⟨p, hp, rfl, rfl, hbl⟩ := hrel
    obtain ⟨W8, rfl⟩ : ∃ W, W = wr := ⟨_, rfl⟩
    have hz8 := hbl.out.size
    have hb8 := below_heap hbl.out Hbx7.out
    have c0 := heap_cell hb8 (i := 0) rfl
    have c1 := heap_cell hb8 (i := 1) rfl
    have c2 := heap_cell hb8 (i := 2) rfl
    have c3 := heap_cell hb8 (i := 3) rfl
    have Hb8 := Lib.hid hb8; clear hb8
    have Hu8 := Lib.hid (RdI.ok.keep Hu7.out fun k hk => hbl.out.block k (by have : k < w1.heap.size := hk; omega))
    by_cases hpl : p + SZ ≤ NL
    · have hpi : (p : Int) + (SZ : Int) ≤ (NL : Int) := by omega
      have huo := Lib.hid (show uOk x (K : Int) (p : Int) = true by rw [Huk.out]; exact inB_true.2 (by omega))
      have huv := Lib.hid (show uV x (K : Int) (p : Int) = ((unsN x (K : Int) p : Nat) : Int) by rw [uV_yes huo.out]; rfl)
      have hpu := Lib.hid (pairs_uns (x := x) (K := (K : Int)) (by omega) p)
      go_wp2_with fail
      refine (implUnseenPairs (Hrd.out _ Hu8.out) (by omega) HsW.out (K : Int) (p : Int)).mono ?_
      rw [huo.out, huv.out]
      rintro e w9 ⟨rfl, hb9⟩
      have hbl9 := Lib.hid (hbl.out.trans (hb9.mono hbl.out.size))
      have hb9x := below_heap hb9 Hb8.out
      clear c0 c1 c2 c3
      have c0 := heap_cell hb9x (i := 0) rfl
      have c1 := heap_cell hb9x (i := 1) rfl
      have c3 := heap_cell hb9x (i := 3) rfl
      have hu9 := RdI.ok.keep Hu8.out (w' := w9) fun k hk => hb9.block k (by have : k < w1.heap.size := hk; omega)
      have hz9 := hb9.size
      obtain ⟨QZ, hQZ⟩ : ∃ q, q = p + SZ - 1 := ⟨_, rfl⟩
      rw [HSZ.out, ← hQZ, Heb.out, Int.toNat_natCast] at hpu
      obtain ⟨b3, o3, u3, rfl, hP3, hc4, rfl⟩ := Rd.elim hu9 p (by rw [HNL.out]; omega)
      obtain ⟨b4, o4, u4, eb, hP4, hc5, rfl⟩ := Rd.elim hu9 QZ (by rw [HNL.out]; omega)
      simp only [Option.some.injEq, Addr.mk.injEq, and_true] at eb
      obtain ⟨rfl, rfl⟩ := eb
      have hA := Hwt.out p (by rw [HNL.out]; omega)
      have hZ := Hwt.out QZ (by rw [HNL.out]; omega)
      have c4 : w9.cell? ⟨b3, o3 + p, none⟩ = some (.int .i64 (nth x.weights p)) := hc4
      have c5 : w9.cell? ⟨b3, o3 + QZ, none⟩ = some (.int .i64 (nth x.weights QZ)) := hc5
      clear hc4 hc5 hb9x hb9 hu9 huo huv
      generalize nth x.weights p = A at *
      generalize nth x.weights QZ = Z at *
      generalize hxm' : x.modulus = M at *
      have Hxm := Lib.hid hxm'; clear hxm'
      have hq1 : (p : Int) + (SZ : Int) - 1 = (QZ : Int) := by omega
      have hq2 : QZ < NL := by omega
      have hq3 : (QZ : Int) < (NL : Int) := by omega
      have hp3 : (p : Int) < (NL : Int) := by omega
      have hM0 : ¬ M = 0 := by omega
      clear hQZ
      have hfs := Lib.hid (finB_succ x (K : Int) p)
      generalize unsN x (K : Int) p = U at *
      obtain ⟨BY, hBY⟩ : ∃ b, b = byW (K : Int) A Z := ⟨_, rfl⟩
      rw [← hBY] at hpu
      have HBY := Lib.hid hBY; clear hBY
      go_wp2
      go_loop [15, 16] (fun nv av => ∃ ai : Nat, ai ≤ NB ∧ av = .int .i64 ai ∧ nv = .int .i64 ((puT M BY NB ai 0 : Nat) : Int)) (fun _ av => NB - (intOf av).toNat)
      case atStart => exact ⟨0, Nat.zero_le _, rfl, rfl⟩
      case round =>
        obtain ⟨ai, hai, rfl, rfl⟩ := hrel
        by_cases hal : ai < NB
        · have hal2 : (ai : Int) < (NB : Int) := by omega
          go_wp2
          go_loop [15, 17] (fun nv bv => ∃ bi : Nat, bi ≤ NB ∧ bv = .int .i64 bi ∧ nv = .int .i64 ((puT M BY NB ai bi : Nat) : Int)) (fun _ bv => NB - (intOf bv).toNat)
          case atStart => exact ⟨0, Nat.zero_le _, rfl, rfl⟩
          case round =>
            obtain ⟨bi, hbi, rfl, rfl⟩ := hrel
            by_cases hbl2 : bi < NB
            · have hbl3 : (bi : Int) < (NB : Int) := by omega
              have hle := puT_le M BY (n := NB) (a := ai) (b := bi) (by omega) hai hbi
              have hs := Lib.hid (puT_succ M BY NB ai bi)
              have m1 := mulBd (A := A) (D := (ai : Int) - bi) (by omega) (by omega)
              have m2 := mulBd (A := Z) (D := (bi : Int) - ai) (by omega) (by omega)
              have m3 := mulBd (A := Z) (D := (ai : Int) - bi) (by omega) (by omega)
              have t1 : wrap64 (A * ((ai : Int) - bi)) = A * ((ai : Int) - bi) := IntWalk.wrap64_in _ (by omega)
              have t2 : wrap64 (Z * ((bi : Int) - ai)) = Z * ((bi : Int) - ai) := IntWalk.wrap64_in _ (by omega)
              have t3 : wrap64 (Z * ((ai : Int) - bi)) = Z * ((ai : Int) - bi) := IntWalk.wrap64_in _ (by omega)
              have hk5 : K = 0 ∨ K = 1 ∨ K = 2 ∨ K = 3 ∨ K = 4 := by omega
              rcases hk5 with rfl | rfl | rfl | rfl | rfl
              · obtain ⟨R, hR, hRb, hRz⟩ := modZ (A * ((ai : Int) - bi)) hxm
                have hpb := puB_is (M := M) (BY := BY) (E := A * ((ai : Int) - bi)) (R := R) (a := ai) (b := bi) (by rw [HBY.out]; rfl) hRz
                have t4 : wrap64 (A * ((ai : Int) - bi)) = A * ((ai : Int) - bi) := IntWalk.wrap64_in _ (by omega)
                have t5 : wrap64 R = R := IntWalk.wrap64_in _ (by omega)
                clear hRz
                by_cases he : ai = bi
                · rw [if_neg (by omega)] at hpb
                  rw [hpb] at hs
                  have b1 : ((ai : Int) != (bi : Int)) = false := by simp [he]
                  clear he hpb
                  go_wp2
                  go_round
                  case rel => exact ⟨bi + 1, by omega, by go_num, by rw [hs.out]; rfl⟩
                  case measure => simp [intOf]; omega
                · have b1 : ((ai : Int) != (bi : Int)) = true := by simp; omega
                  by_cases hr : R = 0
                  · rw [if_pos ⟨he, hr⟩] at hpb
                    rw [hpb] at hs
                    rw [hr] at hR
                    clear he hpb hr t5 hRb
                    go_wp2
                    go_round
                    case rel => exact ⟨bi + 1, by omega, by go_num, by rw [hs.out]; go_num⟩
                    case measure => simp [intOf]; omega
                  · rw [if_neg (by omega)] at hpb
                    rw [hpb] at hs
                    have b2 : (R == 0) = false := by simp [hr]
                    clear he hpb
                    go_wp2
                    go_round
                    case rel => exact ⟨bi + 1, by omega, by go_num, by rw [hs.out]; rfl⟩
                    case measure => simp [intOf]; omega
              · obtain ⟨R, hR, hRb, hRz⟩ := modZ (A * ((ai : Int) - bi) + Z * ((bi : Int) - ai)) hxm
                have hpb := puB_is (M := M) (BY := BY) (E := A * ((ai : Int) - bi) + Z * ((bi : Int) - ai)) (R := R) (a := ai) (b := bi) (by rw [HBY.out]; show (A - Z) * ((ai : Int) - bi) = _; rw [Int.sub_mul, Int.mul_sub, Int.mul_sub, Int.mul_sub]; omega) hRz
                have t4 : wrap64 (A * ((ai : Int) - bi) + Z * ((bi : Int) - ai)) = A * ((ai : Int) - bi) + Z * ((bi : Int) - ai) := IntWalk.wrap64_in _ (by omega)
                have t5 : wrap64 R = R := IntWalk.wrap64_in _ (by omega)
                clear hRz
                by_cases he : ai = bi
                · rw [if_neg (by omega)] at hpb
                  rw [hpb] at hs
                  have b1 : ((ai : Int) != (bi : Int)) = false := by simp [he]
                  clear he hpb
                  go_wp2
                  go_round
                  case rel => exact ⟨bi + 1, by omega, by go_num, by rw [hs.out]; rfl⟩
                  case measure => simp [intOf]; omega
                · have b1 : ((ai : Int) != (bi : Int)) = true := by simp; omega
                  by_cases hr : R = 0
                  · rw [if_pos ⟨he, hr⟩] at hpb
                    rw [hpb] at hs
                    rw [hr] at hR
                    clear he hpb hr t5 hRb
                    go_wp2
                    go_round
                    case rel => exact ⟨bi + 1, by omega, by go_num, by rw [hs.out]; go_num⟩
                    case measure => simp [intOf]; omega
                  · rw [if_neg (by omega)] at hpb
                    rw [hpb] at hs
                    have b2 : (R == 0) = false := by simp [hr]
                    clear he hpb
                    go_wp2
                    go_round
                    case rel => exact ⟨bi + 1, by omega, by go_num, by rw [hs.out]; rfl⟩
                    case measure => simp [intOf]; omega
              · obtain ⟨R, hR, hRb, hRz⟩ := modZ (A * ((ai : Int) - bi) + Z * ((bi : Int) - ai)) hxm
                have hpb := puB_is (M := M) (BY := BY) (E := A * ((ai : Int) - bi) + Z * ((bi : Int) - ai)) (R := R) (a := ai) (b := bi) (by rw [HBY.out]; show (A - Z) * ((ai : Int) - bi) = _; rw [Int.sub_mul, Int.mul_sub, Int.mul_sub, Int.mul_sub]; omega) hRz
                have t4 : wrap64 (A * ((ai : Int) - bi) + Z * ((bi : Int) - ai)) = A * ((ai : Int) - bi) + Z * ((bi : Int) - ai) := IntWalk.wrap64_in _ (by omega)
                have t5 : wrap64 R = R := IntWalk.wrap64_in _ (by omega)
                clear hRz
                by_cases he : ai = bi
                · rw [if_neg (by omega)] at hpb
                  rw [hpb] at hs
                  have b1 : ((ai : Int) != (bi : Int)) = false := by simp [he]
                  clear he hpb
                  go_wp2
                  go_round
                  case rel => exact ⟨bi + 1, by omega, by go_num, by rw [hs.out]; rfl⟩
                  case measure => simp [intOf]; omega
                · have b1 : ((ai : Int) != (bi : Int)) = true := by simp; omega
                  by_cases hr : R = 0
                  · rw [if_pos ⟨he, hr⟩] at hpb
                    rw [hpb] at hs
                    rw [hr] at hR
                    clear he hpb hr t5 hRb
                    go_wp2
                    go_round
                    case rel => exact ⟨bi + 1, by omega, by go_num, by rw [hs.out]; go_num⟩
                    case measure => simp [intOf]; omega
                  · rw [if_neg (by omega)] at hpb
                    rw [hpb] at hs
                    have b2 : (R == 0) = false := by simp [hr]
                    clear he hpb
                    go_wp2
                    go_round
                    case rel => exact ⟨bi + 1, by omega, by go_num, by rw [hs.out]; rfl⟩
                    case measure => simp [intOf]; omega
              · obtain ⟨R, hR, hRb, hRz⟩ := modZ (A * ((ai : Int) - bi) + Z * ((ai : Int) - bi)) hxm
                have hpb := puB_is (M := M) (BY := BY) (E := A * ((ai : Int) - bi) + Z * ((ai : Int) - bi)) (R := R) (a := ai) (b := bi) (by rw [HBY.out]; show (A + Z) * ((ai : Int) - bi) = _; rw [Int.add_mul]) hRz
                have t4 : wrap64 (A * ((ai : Int) - bi) + Z * ((ai : Int) - bi)) = A * ((ai : Int) - bi) + Z * ((ai : Int) - bi) := IntWalk.wrap64_in _ (by omega)
                have t5 : wrap64 R = R := IntWalk.wrap64_in _ (by omega)
                clear hRz
                by_cases he : ai = bi
                · rw [if_neg (by omega)] at hpb
                  rw [hpb] at hs
                  have b1 : ((ai : Int) != (bi : Int)) = false := by simp [he]
                  clear he hpb
                  go_wp2
                  go_round
                  case rel => exact ⟨bi + 1, by omega, by go_num, by rw [hs.out]; rfl⟩
                  case measure => simp [intOf]; omega
                · have b1 : ((ai : Int) != (bi : Int)) = true := by simp; omega
                  by_cases hr : R = 0
                  · rw [if_pos ⟨he, hr⟩] at hpb
                    rw [hpb] at hs
                    rw [hr] at hR
                    clear he hpb hr t5 hRb
                    go_wp2
                    go_round
                    case rel => exact ⟨bi + 1, by omega, by go_num, by rw [hs.out]; go_num⟩
                    case measure => simp [intOf]; omega
                  · rw [if_neg (by omega)] at hpb
                    rw [hpb] at hs
                    have b2 : (R == 0) = false := by simp [hr]
                    clear he hpb
                    go_wp2
                    go_round
                    case rel => exact ⟨bi + 1, by omega, by go_num, by rw [hs.out]; rfl⟩
                    case measure => simp [intOf]; omega
              · obtain ⟨R, hR, hRb, hRz⟩ := modZ (A * ((ai : Int) - bi) + Z * ((ai : Int) - bi)) hxm
                have hpb := puB_is (M := M) (BY := BY) (E := A * ((ai : Int) - bi) + Z * ((ai : Int) - bi)) (R := R) (a := ai) (b := bi) (by rw [HBY.out]; show (A + Z) * ((ai : Int) - bi) = _; rw [Int.add_mul]) hRz
                have t4 : wrap64 (A * ((ai : Int) - bi) + Z * ((ai : Int) - bi)) = A * ((ai : Int) - bi) + Z * ((ai : Int) - bi) := IntWalk.wrap64_in _ (by omega)
                have t5 : wrap64 R = R := IntWalk.wrap64_in _ (by omega)
                clear hRz
                by_cases he : ai = bi
                · rw [if_neg (by omega)] at hpb
                  rw [hpb] at hs
                  have b1 : ((ai : Int) != (bi : Int)) = false := by simp [he]
                  clear he hpb
                  go_wp2
                  go_round
                  case rel => exact ⟨bi + 1, by omega, by go_num, by rw [hs.out]; rfl⟩
                  case measure => simp [intOf]; omega
                · have b1 : ((ai : Int) != (bi : Int)) = true := by simp; omega
                  by_cases hr : R = 0
                  · rw [if_pos ⟨he, hr⟩] at hpb
                    rw [hpb] at hs
                    rw [hr] at hR
                    clear he hpb hr t5 hRb
                    go_wp2
                    go_round
                    case rel => exact ⟨bi + 1, by omega, by go_num, by rw [hs.out]; go_num⟩
                    case measure => simp [intOf]; omega
                  · rw [if_neg (by omega)] at hpb
                    rw [hpb] at hs
                    have b2 : (R == 0) = false := by simp [hr]
                    clear he hpb
                    go_wp2
                    go_round
                    case rel => exact ⟨bi + 1, by omega, by go_num, by rw [hs.out]; rfl⟩
                    case measure => simp [intOf]; omega
            · obtain ⟨hbe⟩ : Nonempty (bi = NB) := ⟨by omega⟩
              have hs := Lib.hid (show puT M BY NB ai bi = puT M BY NB (ai + 1) 0 by rw [hbe]; exact puT_next M BY NB ai)
              rw [hs.out]
              clear hbe
              go_wp2
              go_round
              case rel => exact ⟨ai + 1, by omega, by go_num, rfl⟩
              case measure => simp [intOf]; omega
        · obtain ⟨hae⟩ : Nonempty (ai = NB) := ⟨by omega⟩
          have hs := Lib.hid (show puT M BY NB ai 0 = U by rw [hae, puT_end]; exact hpu.out)
          rw [hs.out]
          clear hae
          have b1 : ((U : Int) != (U : Int)) = false := by simp
          cases hF : finB x (K : Int) p
          · rw [hF] at hfs
            clear hF hs
            by_cases hU : U = 0
            · have b2 : ((U : Int) == 0) = true := by simp [hU]
              clear hU
              go_wp2
              go_roundw
              case rel => exact ⟨p + 1, by omega, by go_num, by rw [hfs.out]; rfl, hbl9⟩
              case measure => simp [intOf]; omega
            · have b2 : ((U : Int) == 0) = false := by simp [hU]
              clear hU
              go_wp2
              go_roundw
              case rel => exact ⟨p + 1, by omega, by go_num, by rw [hfs.out]; rfl, hbl9⟩
              case measure => simp [intOf]; omega
          · rw [hF] at hfs
            clear hF hs
            by_cases hU : U = 0
            · have b2 : ((U : Int) == 0) = true := by simp [hU]
              have hd : decide (U = 0) = true := by simp [hU]
              rw [hd] at hfs
              clear hU hd
              go_wp2
              go_roundw
              case rel => exact ⟨p + 1, by omega, by go_num, by rw [hfs.out]; rfl, hbl9⟩
              case measure => simp [intOf]; omega
            · have b2 : ((U : Int) == 0) = false := by simp [hU]
              have hd : decide (U = 0) = false := by simp [hU]
              rw [hd] at hfs
              clear hU hd
              go_wp2
              go_roundw
              case rel => exact ⟨p + 1, by omega, by go_num, by rw [hfs.out]; rfl, hbl9⟩
              case measure => simp [intOf]; omega
    · obtain ⟨hpe⟩ : Nonempty (p = NL + 1 - SZ) := ⟨by omega⟩
      have hpi : ¬ ((p : Int) + (SZ : Int) ≤ (NL : Int)) := by omega
      have hfc : finB x (K : Int) p = CB := by rw [hpe, ← hcat.out, HCB.out]
      rw [hfc]
      have huo := Lib.hid (show uOk x (K : Int) ((NL : Int) - (SZ : Int) + 1) = false by
        rw [Huk.out]
        cases e : inB ((NL : Int) - (SZ : Int) + 1) 0 ((NL : Int) - (SZ : Int)) with
        | false => rfl
        | true => have := inB_true.1 e; omega)
      have hcbb : (CB == CB) = true := by cases CB <;> rfl
      clear hfc hpe
      go_wp2_with fail
      refine (implUnseenPairs (Hrd.out _ Hu8.out) (by omega) HsW.out (K : Int) ((NL : Int) - (SZ : Int) + 1)).mono ?_
      rw [huo.out]
      rintro e w9 ⟨rfl, hb9⟩
      have hbe := Lib.hid (show Below w.heap.size w w9 from Hb7.out.trans ((hbl.out.trans (hb9.mono hbl.out.size)).mono Hb7.out.size))
      clear hb9
      go_wp2
      go_ret
      exact ⟨rfl, hbe.out⟩
end Go.Proofs.Ytnpkanlieflbiaa
