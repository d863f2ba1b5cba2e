/- The least distance: impl's LeastDistance, walked. -/
import Derived.Test.YtnpkanlieflbiaaLd7
namespace Go.Proofs.Ytnpkanlieflbiaa
open Go.RowKit
set_option linter.unusedVariables false

theorem dist_far {x : Chn} (hv : vC x = true) (h : farN ≤ distI x) : dOk x = false ∧ dV x = 0 := by
  have h1 : ¬ distI x < farN := by omega
  have : dOk x = false := by simp [dOk, h1]
  exact ⟨this, by simp [dV, this]⟩
theorem dist_near {x : Chn} (hv : vC x = true) (h : distI x < farN) : dOk x = true ∧ dV x = (distI x : Nat) := by
  have : dOk x = true := by simp [dOk, h, hv]
  exact ⟨this, by simp [dV, this]⟩
set_option maxHeartbeats 1600000 in
set_option maxRecDepth 100000 in
theorem implLeastDistance {B : Nat} {v : Value} {x : Chn} {w : World} (h : RdC (· < B) w v x) (hB : B ≤ w.heap.size) (hn : szC x ≤ 1048576) :
    Calls Try.prog 54 #[v] w fun e w' => e = .returned (.tuple #[.int .i64 (dV x), .bool (dOk x)]) ∧ Below w.heap.size w w' := by
  have Hr := Lib.hid h
  obtain ⟨u, p, rfl, hu, hp⟩ := h
  obtain ⟨a, c, rfl, h1, h2⟩ := hu.isSlice
  obtain ⟨a', c', rfl, h3, h4⟩ := hp.isSlice
  have hbx := Lib.hid ((Below.refl w.heap.size w).alloc (Nat.le_refl _) (.cells #[.int .i64 x.base, .int .i64 x.states, .int .i64 x.start, .int .i64 x.stop, .slice a x.tables.length c, .slice a' x.places.length c'] 28))
  have Hbx := Lib.hid (BoxC.boxed hu hp hB); clear hu hp
  have hsz := Lib.hid (alloc_size w (.cells #[.int .i64 x.base, .int .i64 x.states, .int .i64 x.start, .int .i64 x.stop, .slice a x.tables.length c, .slice a' x.places.length c'] 28))
  unfold aggC
  cases hv : vC x
  · have hr := Lib.hid (d_inv hv)
    have Hv := Lib.hid hv; clear hv
    go_enter Try.func54, Try.ntmps54
    go_wp2_with fail
    refine (implValidChain (Rd.below RdC.ok Hr.out (hbx.out.mono hB)) (by rw [hsz.out]; omega) hn _ Hv.out).mono ?_
    rintro e w1 ⟨rfl, hb⟩
    have Hb := Lib.hid (hbx.out.trans (hb.mono (by rw [hsz.out]; omega))); clear hb
    go_wp2
    go_ret2
    exact ⟨by rw [hr.out.1, hr.out.2]; rfl, Hb.out⟩
  · have hvc := vC_iff.1 hv
    have hfar := Lib.hid (fun h => dist_far hv h)
    have hnear := Lib.hid (fun h => dist_near hv h)
    have Hv := Lib.hid hv
    have Hvc := Lib.hid hvc
    clear hv hvc
    go_enter Try.func54, Try.ntmps54
    go_wp2_with fail
    refine (implValidChain (Rd.below RdC.ok Hr.out (hbx.out.mono hB)) (by rw [hsz.out]; omega) hn _ Hv.out).mono ?_
    rintro e w1 ⟨rfl, hb⟩
    have hs1 : w.heap.size < w1.heap.size := by have := hb.size; rw [hsz.out] at this; omega
    have Hb1 := Lib.hid (Hbx.out.keep fun k hk => hb.block k (by rw [hsz.out]; omega))
    have Hb := Lib.hid (hbx.out.trans (hb.mono (by rw [hsz.out]; omega))); clear hb
    go_wp2_with fail
    refine (implLeast Hb1.out (show B ≤ w1.heap.size by omega) hs1 Hvc.out).mono ?_
    rintro e w2 ⟨he, hb2⟩
    obtain ⟨D, hDD⟩ : ∃ D, D = distI x := ⟨_, rfl⟩
    rw [← hDD] at he hfar hnear
    obtain ⟨DI, hDI⟩ : ∃ z : Int, z = (D : Nat) := ⟨_, rfl⟩
    rw [← hDI] at he hnear
    subst he
    clear hDD
    have Hb2 := Lib.hid (Hb.out.trans (hb2.mono Hb.out.size)); clear hb2
    by_cases hD : D < farN
    · have hr := Lib.hid (hnear.out hD)
      have hD2 : DI < 1099511627776 := by unfold farN at hD; omega
      clear hD hDI hfar hnear
      go_wp2
      go_ret2
      exact ⟨by rw [hr.out.1, hr.out.2]; rfl, Hb2.out⟩
    · have hr := Lib.hid (hfar.out (by omega))
      have hD2 : (1099511627776 : Int) ≤ DI := by unfold farN at hD; omega
      clear hD hDI hfar hnear
      go_wp2
      go_ret2
      exact ⟨by rw [hr.out.1, hr.out.2]; rfl, Hb2.out⟩
end Go.Proofs.Ytnpkanlieflbiaa
