/- The text of a weighting, both sides walked. -/
import Derived.Test.YthomdggbmjknnaaDoorDc7
import Derived.Test.YthomdggbmjknnaaDoorV3
import Derived.Lib.QuietBelow
import Derived.Deep.QuietTactic
import Derived.BigQuiet
namespace Go.Proofs.YthomdggbmjknnaaDoor
open Go.RowKit Go.Sort
set_option linter.unusedVariables false

def wtS (x : Wgt) : ByteArray := dS x.base ++ ⟨#[47]⟩ ++ dS x.modulus ++ ⟨#[47]⟩ ++ dS x.target ++ ⟨#[47]⟩ ++ ltV x.weights
def wtV (x : Wgt) : ByteArray := if vW x then wtS x else ⟨#[]⟩
theorem wtV_yes {x : Wgt} (h : vW x = true) : wtV x = wtS x := by simp [wtV, h]
theorem wtV_no {x : Wgt} (h : vW x = false) : wtV x = ⟨#[]⟩ := by simp [wtV, h]
theorem vW_bds {x : Wgt} (h : vW x = true) : (2 ≤ x.base ∧ x.base ≤ 36) ∧ (2 ≤ x.modulus ∧ x.modulus ≤ 36) ∧ (0 ≤ x.target ∧ x.target ≤ 36) ∧ x.weights.length ≤ 20 ∧ ∀ i, i < x.weights.length → -9223372036854775808 ≤ nth x.weights i ∧ nth x.weights i ≤ 9223372036854775807 := by
  simp only [vW, manyB, Bool.and_eq_true, inB_true] at h
  obtain ⟨⟨h1, h2, h3⟩, h4, h5, h6⟩ := h
  exact ⟨h1, h4, by omega, by omega, fun i hi => by have := allIn_at h6 hi; omega⟩
theorem ltV_size {t : List Int} (h : t.length ≤ 20) (hb : ∀ i, i < t.length → -9223372036854775808 ≤ nth t i ∧ nth t i ≤ 9223372036854775807) : (ltV t).size ≤ 444 := by
  unfold ltV
  split
  · decide
  · have := lt_size hb t.length (Nat.le_refl _); omega

set_option maxHeartbeats 12800000 in
set_option maxRecDepth 100000 in
theorem implWText {B : Nat} {v : Value} {x : Wgt} {w : World} (h : RdW (· < B) w v x) (hB : B ≤ w.heap.size) (hv : vW x = true) (htab : Lib.TabIs Tryd.prog w "internal/strconv.uint64pow10" .u64 Lib.pow10Tab) :
    Calls Tryd.prog 46 #[v] w fun e w' => e = .returned (.string (wtS x)) ∧ Below w.heap.size w w' := by
  obtain ⟨u, rfl, hu⟩ := h
  obtain ⟨hb1, hb2, hb3, hb4, hb5⟩ := vW_bds hv
  have hbx := BoxW.boxed hu hB
  have hb0 := (Below.refl w.heap.size w).alloc (Nat.le_refl _) (.cells #[.int .i64 x.base, .int .i64 x.modulus, .int .i64 x.target, u] 40)
  obtain ⟨W1, hW1⟩ : ∃ W1, W1 = w.alloc (.cells #[.int .i64 x.base, .int .i64 x.modulus, .int .i64 x.target, u] 40) := ⟨_, rfl⟩
  rw [← hW1] at hbx hb0
  have ht1 := tabBelow htab hb0
  obtain ⟨a, c, g0, g1, g2, g3, hrd, g4, g5⟩ := hbx.cells
  have hsz : B ≤ W1.heap.size := by have := hb0.size; omega
  have s1 := dS_size (n := x.base) (by omega) (by omega)
  have s2 := dS_size (n := x.modulus) (by omega) (by omega)
  have s3 := dS_size (n := x.target) (by omega) (by omega)
  have s4 := ltV_size hb4 hb5
  have c1 : ∀ d os, Calls Tryd.prog 10 #[.int .i64 x.base] (grow (redrawn W1 d) os) fun e w'' => e = .returned (.string (dS x.base)) ∧ ∃ p : Regrown, w'' = grow (redrawn W1 p.d) p.os := fun d os => Calls.regrown_of (implDecimal x.base (by omega) (by omega) _ (tabBelow ht1 (below_regrown W1 d os)))
  have c2 : ∀ d os, Calls Tryd.prog 10 #[.int .i64 x.modulus] (grow (redrawn W1 d) os) fun e w'' => e = .returned (.string (dS x.modulus)) ∧ ∃ p : Regrown, w'' = grow (redrawn W1 p.d) p.os := fun d os => Calls.regrown_of (implDecimal x.modulus (by omega) (by omega) _ (tabBelow ht1 (below_regrown W1 d os)))
  have c3 : ∀ d os, Calls Tryd.prog 10 #[.int .i64 x.target] (grow (redrawn W1 d) os) fun e w'' => e = .returned (.string (dS x.target)) ∧ ∃ p : Regrown, w'' = grow (redrawn W1 p.d) p.os := fun d os => Calls.regrown_of (implDecimal x.target (by omega) (by omega) _ (tabBelow ht1 (below_regrown W1 d os)))
  have c4 : ∀ d os, Calls Tryd.prog 37 #[.slice a x.weights.length c] (grow (redrawn W1 d) os) fun e w'' => e = .returned (.string (ltV x.weights)) ∧ ∃ p : Regrown, w'' = grow (redrawn W1 p.d) p.os := fun d os => Calls.regrown_of (implListText0 (B := B) (RdI.ok.keep hrd fun k hk => (below_regrown W1 d os).block k (by omega)) (by have := (below_regrown W1 d os).size; omega) (by omega) hb5 (tabBelow ht1 (below_regrown W1 d os)))
  have C1 := Lib.hid c1
  have C2 := Lib.hid c2
  have C3 := Lib.hid c3
  have C4 := Lib.hid c4
  have k0 := cell_regrown g0
  have k1 := cell_regrown g1
  have k2 := cell_regrown g2
  have k3 := cell_regrown g3
  have HW1 := Lib.hid hW1
  have Hb0 := Lib.hid hb0
  have hwt : Hid (wtS x = dS x.base ++ ⟨#[47]⟩ ++ dS x.modulus ++ ⟨#[47]⟩ ++ dS x.target ++ ⟨#[47]⟩ ++ ltV x.weights) := Lib.hid rfl
  clear hbx ht1 htab hv hW1 hb0 hu hrd c1 c2 c3 c4 hb5 g0 g1 g2 g3
  generalize dS x.base = S1 at *
  generalize dS x.modulus = S2 at *
  generalize dS x.target = S3 at *
  generalize ltV x.weights = S4 at *
  have n1 : ¬ 9223372036854775807 < S1.size + 1 := by omega
  have n2 : ¬ 9223372036854775807 < S1.size + 1 + S2.size := by omega
  have n3 : ¬ 9223372036854775807 < S1.size + 1 + S2.size + 1 := by omega
  have n4 : ¬ 9223372036854775807 < S1.size + 1 + S2.size + 1 + S3.size := by omega
  have n5 : ¬ 9223372036854775807 < S1.size + 1 + S2.size + 1 + S3.size + 1 := by omega
  have n6 : ¬ 9223372036854775807 < S1.size + 1 + S2.size + 1 + S3.size + 1 + S4.size := by omega
  unfold aggW
  go_enter Tryd.func46, Tryd.ntmps46
  go_wp2
  rw [← HW1.out]
  refine wp_region_quiet_below (by kernel_rfl) (by kernel_rfl) ?_
  repeat (go_big_quiet_step (first | with_reducible exact C1.out _ _ | with_reducible exact C2.out _ _ | with_reducible exact C3.out _ _ | with_reducible exact C4.out _ _))
  refine wpQuiet_nil ?_
  intro _ hw'
  obtain ⟨⟨dq, osq⟩, hw''⟩ := hw'
  subst hw''
  go_wp2
  go_ret
  exact ⟨by rw [hwt.out]; rfl, Hb0.out.trans ((below_regrown W1 dq osq).mono Hb0.out.size)⟩

set_option maxHeartbeats 12800000 in
set_option maxRecDepth 100000 in
theorem specWText {B bx : Nat} {x : Wgt} {w : World} (h : BoxW (· < B) w bx x) (hB : B ≤ w.heap.size) (hv : vW x = true) :
    Calls Tryd.prog 44 #[.pointer (some ⟨bx, 0, none⟩)] w fun e w' => e = .returned (.string (wtS x)) ∧ Below w.heap.size w w' := by
  obtain ⟨hb1, hb2, hb3, hb4, hb5⟩ := vW_bds hv
  obtain ⟨a, c, g0, g1, g2, g3, hrd, g4, g5⟩ := h.cells
  have s1 := dS_size (n := x.base) (by omega) (by omega)
  have s2 := dS_size (n := x.modulus) (by omega) (by omega)
  have s3 := dS_size (n := x.target) (by omega) (by omega)
  have s4 := ltV_size hb4 hb5
  have c1 : ∀ d os, Calls Tryd.prog 30 #[.int .i64 x.base] (grow (redrawn w d) os) fun e w'' => e = .returned (.string (dS x.base)) ∧ ∃ p : Regrown, w'' = grow (redrawn w p.d) p.os := fun d os => Calls.regrown_of (specDec x.base (by omega) (by omega) _)
  have c2 : ∀ d os, Calls Tryd.prog 30 #[.int .i64 x.modulus] (grow (redrawn w d) os) fun e w'' => e = .returned (.string (dS x.modulus)) ∧ ∃ p : Regrown, w'' = grow (redrawn w p.d) p.os := fun d os => Calls.regrown_of (specDec x.modulus (by omega) (by omega) _)
  have c3 : ∀ d os, Calls Tryd.prog 30 #[.int .i64 x.target] (grow (redrawn w d) os) fun e w'' => e = .returned (.string (dS x.target)) ∧ ∃ p : Regrown, w'' = grow (redrawn w p.d) p.os := fun d os => Calls.regrown_of (specDec x.target (by omega) (by omega) _)
  have c4 : ∀ d os, Calls Tryd.prog 33 #[.slice a x.weights.length c] (grow (redrawn w d) os) fun e w'' => e = .returned (.string (ltV x.weights)) ∧ ∃ p : Regrown, w'' = grow (redrawn w p.d) p.os := fun d os => Calls.regrown_of (specL01Text (B := B) (RdI.ok.keep hrd fun k hk => (below_regrown w d os).block k (by omega)) (by have := (below_regrown w d os).size; omega) (by omega) hb5)
  have C1 := Lib.hid c1
  have C2 := Lib.hid c2
  have C3 := Lib.hid c3
  have C4 := Lib.hid c4
  have k0 := cell_regrown g0
  have k1 := cell_regrown g1
  have k2 := cell_regrown g2
  have k3 := cell_regrown g3
  have hwt : Hid (wtS x = dS x.base ++ ⟨#[47]⟩ ++ dS x.modulus ++ ⟨#[47]⟩ ++ dS x.target ++ ⟨#[47]⟩ ++ ltV x.weights) := Lib.hid rfl
  clear h hv hrd c1 c2 c3 c4 hb5 g0 g1 g2 g3
  generalize dS x.base = S1 at *
  generalize dS x.modulus = S2 at *
  generalize dS x.target = S3 at *
  generalize ltV x.weights = S4 at *
  have n1 : ¬ 9223372036854775807 < S1.size + 1 := by omega
  have n2 : ¬ 9223372036854775807 < S1.size + 1 + S2.size := by omega
  have n3 : ¬ 9223372036854775807 < S1.size + 1 + S2.size + 1 := by omega
  have n4 : ¬ 9223372036854775807 < S1.size + 1 + S2.size + 1 + S3.size := by omega
  have n5 : ¬ 9223372036854775807 < S1.size + 1 + S2.size + 1 + S3.size + 1 := by omega
  have n6 : ¬ 9223372036854775807 < S1.size + 1 + S2.size + 1 + S3.size + 1 + S4.size := by omega
  go_enter Tryd.func44, Tryd.ntmps44
  go_wp2
  refine wp_region_quiet_below (by kernel_rfl) (by kernel_rfl) ?_
  repeat (go_big_quiet_step (first | with_reducible exact C1.out _ _ | with_reducible exact C2.out _ _ | with_reducible exact C3.out _ _ | with_reducible exact C4.out _ _))
  refine wpQuiet_nil ?_
  intro _ hw'
  obtain ⟨⟨dq, osq⟩, hw''⟩ := hw'
  subst hw''
  go_wp2
  go_ret
  exact ⟨by rw [hwt.out]; rfl, below_regrown w dq osq⟩
end Go.Proofs.YthomdggbmjknnaaDoor
