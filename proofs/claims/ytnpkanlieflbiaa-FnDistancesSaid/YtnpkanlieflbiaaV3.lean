/- Validity of weightings, walked. -/
import Derived.Test.YtnpkanlieflbiaaV2
import Derived.Test.YtnpkanlieflbiaaW1
namespace Go.Proofs.Ytnpkanlieflbiaa
open Go.RowKit
set_option linter.unusedVariables false

theorem implVW1 (d m : Int) (b : Nat) (w : World) (hc : w.cell? ⟨b, 1, none⟩ = some (.int .i64 m)) (hm : 2 ≤ m ∧ m ≤ 36) :
    Calls Try.prog 120 #[.int .i64 d, .pointer (some ⟨b, 0, none⟩)] w fun e w' => e = .returned (.bool (!inB d 0 (m - 1))) ∧ w = w' := by
  cases hin : inB d 0 (m - 1)
  · go_enter Try.func120, Try.ntmps120
    go_wp2_with (go_at_call 78; refine (implIn _ _ _ _ (by assumption) _).mono ?_; rintro e w' ⟨rfl, rfl⟩)
    go_ret
    exact ⟨rfl, rfl⟩
  · go_enter Try.func120, Try.ntmps120
    go_wp2_with (go_at_call 78; refine (implIn _ _ _ _ (by assumption) _).mono ?_; rintro e w' ⟨rfl, rfl⟩)
    go_ret
    exact ⟨rfl, rfl⟩

theorem implValidWeighting {B : Nat} {v : Value} {x : Wgt} {w : World} (h : RdW (· < B) w v x) (hB : B ≤ w.heap.size) (hn : szW x ≤ 1048576) (b : Bool) (hb : vW x = b) :
    Calls Try.prog 61 #[v] w fun e w' => e = .returned (.bool b) ∧ Below w.heap.size w w' := by
  have HB := Lib.hid hb; clear hb
  have hmf : ∀ (fn : Fn) (first cap : Array Value) (w : World), (Instr.makeFunc fn first cap).run Try.prog w = .ok (.func fn first cap) w := fun _ _ _ _ => rfl
  obtain ⟨u, rfl, hu⟩ := h
  obtain ⟨a, c, rfl, h1, h2⟩ := hu.isSlice
  have Hu := Lib.hid hu; clear hu
  unfold maxLen at h2
  unfold szW at hn
  have hbx := Lib.hid ((Below.refl w.heap.size w).alloc (Nat.le_refl _) (.cells #[.int .i64 x.base, .int .i64 x.modulus, .int .i64 x.target, .slice a x.weights.length c] 31))
  unfold aggW
  cases hbase : inB x.base 2 36
  · have hr := Lib.hid (show vW x = false by simp [vW, manyB, hbase])
    go_enter Try.func61, Try.ntmps61
    go_wp2_with (go_at_call 118; refine (implBase _ _ (by assumption) _).mono ?_; rintro e w' ⟨rfl, rfl⟩)
    go_ret
    exact ⟨by rw [← HB.out, hr.out]; rfl, hbx.out⟩
  cases hmod : inB x.modulus 2 36
  · have hr := Lib.hid (show vW x = false by simp [vW, hmod])
    go_enter Try.func61, Try.ntmps61
    go_wp2_with (first | (go_at_call 118; refine (implBase _ _ (by assumption) _).mono ?_; rintro e w' ⟨rfl, rfl⟩) | (go_at_call 78; refine (implIn _ _ _ _ (by assumption) _).mono ?_; rintro e w' ⟨rfl, rfl⟩))
    go_ret
    exact ⟨by rw [← HB.out, hr.out]; rfl, hbx.out⟩
  have hmd := inB_true.1 hmod
  cases htar : inB x.target 0 (x.modulus - 1)
  · have hr := Lib.hid (show vW x = false by simp [vW, htar])
    go_enter Try.func61, Try.ntmps61
    go_wp2_with (first | (go_at_call 118; refine (implBase _ _ (by assumption) _).mono ?_; rintro e w' ⟨rfl, rfl⟩) | (go_at_call 78; refine (implIn _ _ _ _ (by assumption) _).mono ?_; rintro e w' ⟨rfl, rfl⟩))
    go_ret
    exact ⟨by rw [← HB.out, hr.out]; rfl, hbx.out⟩
  cases hlen : inB x.weights.length 1 20
  · have hr := Lib.hid (show vW x = false by simp [vW, manyB, hlen])
    go_enter Try.func61, Try.ntmps61
    go_wp2_with (first | (go_at_call 118; refine (implBase _ _ (by assumption) _).mono ?_; rintro e w' ⟨rfl, rfl⟩) | (go_at_call 78; refine (implIn _ _ _ _ (by assumption) _).mono ?_; rintro e w' ⟨rfl, rfl⟩))
    go_ret
    exact ⟨by rw [← HB.out, hr.out]; rfl, hbx.out⟩
  have hbd := Lib.hid (inB_true.1 hbase)
  cases hpow : powB x.base x.weights.length
  · have hr := Lib.hid (show vW x = false by simp [vW, manyB, hpow])
    have Hp := Lib.hid hpow; clear hpow
    go_enter Try.func61, Try.ntmps61
    go_wp2_with (first | (go_at_call 118; refine (implBase _ _ (by assumption) _).mono ?_; rintro e w' ⟨rfl, rfl⟩) | (go_at_call 78; refine (implIn _ _ _ _ (by assumption) _).mono ?_; rintro e w' ⟨rfl, rfl⟩) | (go_at_call 79; refine (implPowerOk _ _ hbd.out hn _ Hp.out _).mono ?_; rintro e w' ⟨rfl, rfl⟩))
    go_ret
    exact ⟨by rw [← HB.out, hr.out]; rfl, hbx.out⟩
  have hp : ∀ d, d ∈ x.weights → Calls Try.prog 120 (#[.int .i64 d] ++ #[.pointer (some ⟨w.heap.size, 0, none⟩)]) (w.alloc (.cells #[.int .i64 x.base, .int .i64 x.modulus, .int .i64 x.target, .slice a x.weights.length c] 31)) fun e w' => e = .returned (.bool (!inB d 0 (x.modulus - 1))) ∧ (w.alloc (.cells #[.int .i64 x.base, .int .i64 x.modulus, .int .i64 x.target, .slice a x.weights.length c] 31)) = w' :=
    fun d _ => implVW1 d x.modulus w.heap.size _ (by simp) hmd
  have Hc := Lib.hid hp; clear hp
  have hany := Lib.hid (any_allIn x.weights 0 (x.modulus - 1))
  cases hall : allIn x.weights 0 (x.modulus - 1)
  all_goals
    have hr := Lib.hid (show vW x = _ from by simp only [vW, manyB, hbase, hmod, htar, hlen, hpow, hall]; rfl)
    have hany2 := Lib.hid (show (x.weights.any fun d => !inB d 0 (x.modulus - 1)) = _ by rw [hany.out, hall])
    have Hp := Lib.hid hpow; clear hpow
    clear hall
    go_enter Try.func61, Try.ntmps61
    go_wp2_with (first | (go_at_call 118; refine (implBase _ _ (by assumption) _).mono ?_; rintro e w' ⟨rfl, rfl⟩) | (go_at_call 78; refine (implIn _ _ _ _ (by assumption) _).mono ?_; rintro e w' ⟨rfl, rfl⟩) | (go_at_call 79; refine (implPowerOk _ _ hbd.out hn _ Hp.out _).mono ?_; rintro e w' ⟨rfl, rfl⟩) | (go_at_call 119; refine (slContainsFunc (RdI.ok.keep Hu.out fun k hk => hbx.out.block k (by omega)) _ _ _ Hc.out (fun _ _ => by kernel_rfl) _ hany2.out).mono ?_; rintro e w' ⟨rfl, rfl⟩))
    go_ret
    exact ⟨by rw [← HB.out, hr.out]; rfl, hbx.out⟩

theorem specL03Is {P : Nat → Prop} {bx : Nat} {x : Wgt} {w : World} (h : BoxW P w bx x) (hn : szW x ≤ 1048576) (b : Bool) (hb : vW x = b) :
    Calls Try.prog 58 #[.pointer (some ⟨bx, 0, none⟩)] w fun e w' => e = .returned (.bool b) ∧ ∃ m, w.drewN m = w' := by
  have HB := Lib.hid hb; clear hb
  obtain ⟨a, c, g0, g1, g2, g3, hrd, h1, h2⟩ := h.cells
  have Hrd := Lib.hid (fun n => rd_draws RdI.ok hrd n); clear hrd
  unfold maxLen at h2
  unfold szW at hn
  cases hm : manyB x.base x.weights.length
  · have hr := Lib.hid (show vW x = false by simp [vW, hm])
    have Hm := Lib.hid hm; clear hm
    go_enter Try.func58, Try.ntmps58
    go_wp2
    go_quiet ((go_at_call 74; exact quiet_same (specMany _ _ hn _ Hm.out _)))
    go_wp2
    go_ret
    exact ⟨by rw [← HB.out, hr.out]; rfl, _, rfl⟩
  cases hmod : inB x.modulus 2 36
  · have hr := Lib.hid (show vW x = false by simp [vW, hmod])
    have Hm := Lib.hid hm; clear hm
    go_enter Try.func58, Try.ntmps58
    go_wp2
    go_quiet ((first | (go_at_call 74; exact quiet_same (specMany _ _ hn _ Hm.out _)) | (go_at_call 73; exact quiet_same (specIn _ _ _ _ (by assumption) _))))
    go_wp2
    go_ret
    exact ⟨by rw [← HB.out, hr.out]; rfl, _, rfl⟩
  have hmd := inB_true.1 hmod
  have hwr := wrap_pred hmod
  cases htar : inB x.target 0 (x.modulus - 1)
  · have hr := Lib.hid (show vW x = false by simp [vW, htar])
    have Hm := Lib.hid hm; clear hm
    go_enter Try.func58, Try.ntmps58
    go_wp2
    go_quiet ((first | (go_at_call 74; exact quiet_same (specMany _ _ hn _ Hm.out _)) | (go_at_call 73; exact quiet_same (specIn _ _ _ _ (by first | assumption | (rw [hwr]; assumption)) _))))
    go_wp2
    go_ret
    exact ⟨by rw [← HB.out, hr.out]; rfl, _, rfl⟩
  cases hall : allIn x.weights 0 (x.modulus - 1)
  all_goals
    have hr := Lib.hid (show vW x = _ from by simp only [vW, hm, hmod, htar, hall]; rfl)
    have Hbl := Lib.hid (fun n => (specBelow (Hrd.out n) x.modulus).mono fun e w' (h : _ ∧ _) => (show e = .returned (.bool _) ∧ _ from ⟨by rw [h.1, hwr, hall], h.2⟩))
    have Hm := Lib.hid hm; clear hm
    clear hall
    go_enter Try.func58, Try.ntmps58
    go_wp2
    go_quiet ((first | (go_at_call 74; exact quiet_same (specMany _ _ hn _ Hm.out _)) | (go_at_call 73; exact quiet_same (specIn _ _ _ _ (by first | assumption | (rw [hwr]; assumption)) _)) | (go_at_call 116; exact quiet_same (Hbl.out _))))
    go_wp2
    go_ret
    exact ⟨by rw [← HB.out, hr.out]; rfl, _, rfl⟩

end Go.Proofs.Ytnpkanlieflbiaa
