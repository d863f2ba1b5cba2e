/- Unseen pairs, walked. -/
import Derived.Test.YtnpkanlieflbiaaV2
import Derived.Test.YtnpkanlieflbiaaW1
import Derived.Test.YtnpkanlieflbiaaF1
namespace Go.Proofs.Ytnpkanlieflbiaa
open Go.RowKit
set_option linter.unusedVariables false

theorem implErrorLength (kind : Int) (w : World) : Calls Try.prog 135 #[.int .i64 kind] w fun e w' => e = .returned (.int .i64 (errLen kind)) ∧ w = w' := by
  by_cases h0 : kind = 0
  · subst h0
    go_enter Try.func135, Try.ntmps135
    go_wp2
    go_ret
    exact ⟨rfl, rfl⟩
  by_cases h2 : kind = 2
  · subst h2
    go_enter Try.func135, Try.ntmps135
    go_wp2
    go_ret
    exact ⟨rfl, rfl⟩
  by_cases h4 : kind = 4
  · subst h4
    go_enter Try.func135, Try.ntmps135
    go_wp2
    go_ret
    exact ⟨rfl, rfl⟩
  have e : errLen kind = 2 := by simp [errLen, h0, h2, h4]
  rw [e]
  have b0 : (kind == 0) = false := by simpa using h0
  have b2 : (kind == 2) = false := by simpa using h2
  have b4 : (kind == 4) = false := by simpa using h4
  clear h0 h2 h4 e
  go_enter Try.func135, Try.ntmps135
  go_wp2
  go_ret
  exact ⟨rfl, rfl⟩
theorem implLastPlace (n : Nat) (hn : n ≤ 1048576) (kind : Int) (w : World) : Calls Try.prog 92 #[.int .i64 n, .int .i64 kind] w fun e w' => e = .returned (.int .i64 ((n : Int) - errLen kind)) ∧ w = w' := by
  have hb := errLen_bd kind
  go_enter Try.func92, Try.ntmps92
  go_wp2_with (go_at_call 135; refine (implErrorLength kind _).mono ?_; rintro e w' ⟨rfl, rfl⟩)
  go_ret
  exact ⟨rfl, rfl⟩
theorem implKindOk (kind base : Int) (b : Bool) (hb : kindOk kind base = b) (w : World) : Calls Try.prog 90 #[.int .i64 kind, .int .i64 base] w fun e w' => e = .returned (.bool b) ∧ w = w' := by
  have HB := Lib.hid hb; clear hb
  cases hin : inB kind 0 5
  · have hr := Lib.hid (show kindOk kind base = false by simp [kindOk, hin])
    go_enter Try.func90, Try.ntmps90
    go_wp2_with (go_at_call 78; refine (implIn _ _ _ _ (by assumption) _).mono ?_; rintro e w' ⟨rfl, rfl⟩)
    go_ret
    exact ⟨by rw [← HB.out, hr.out]; rfl, rfl⟩
  by_cases h5 : kind = 5
  · by_cases h10 : 10 ≤ base
    · have hr := Lib.hid (show kindOk kind base = true by simp [kindOk, hin, h10])
      have b5 : (kind != 5) = false := by simpa using h5
      have b6 : (kind == 5) = true := by simpa using h5
      clear h5
      go_enter Try.func90, Try.ntmps90
      go_wp2_with (go_at_call 78; refine (implIn _ _ _ _ (by assumption) _).mono ?_; rintro e w' ⟨rfl, rfl⟩)
      go_ret
      exact ⟨by rw [← HB.out, hr.out]; rfl, rfl⟩
    · have hr := Lib.hid (show kindOk kind base = false by simp [kindOk, h5, h10])
      have b5 : (kind != 5) = false := by simpa using h5
      have b6 : (kind == 5) = true := by simpa using h5
      clear h5
      go_enter Try.func90, Try.ntmps90
      go_wp2_with (go_at_call 78; refine (implIn _ _ _ _ (by assumption) _).mono ?_; rintro e w' ⟨rfl, rfl⟩)
      go_ret
      exact ⟨ret_bool' (by rw [← HB.out, hr.out]; first | rfl | (simp; omega)), rfl⟩
  · have hr := Lib.hid (show kindOk kind base = true by simp [kindOk, hin, h5])
    have b5 : (kind != 5) = true := by simpa using h5
    have b6 : (kind == 5) = false := by simpa using h5
    clear h5
    go_enter Try.func90, Try.ntmps90
    go_wp2_with (go_at_call 78; refine (implIn _ _ _ _ (by assumption) _).mono ?_; rintro e w' ⟨rfl, rfl⟩)
    go_ret
    exact ⟨by rw [← HB.out, hr.out]; rfl, rfl⟩

def clip (z : Int) : Int := if z < 0 then 0 else z
/-- How many places an error of a kind can be at. -/
def plcN (x : Wgt) (kind : Int) : Int := if kindOk kind x.base then clip ((x.weights.length : Int) - errLen kind + 1) else -1
theorem plcN_no {x : Wgt} {kind : Int} (h : kindOk kind x.base = false) : plcN x kind = -1 := by simp [plcN, h]
theorem plcN_yes {x : Wgt} {kind : Int} (h : kindOk kind x.base = true) : plcN x kind = clip ((x.weights.length : Int) - errLen kind + 1) := by simp [plcN, h]
/-- A weight of a weighting in a box. -/
theorem BoxW.weight {P : Nat → Prop} {w : World} {bx : Nat} {x : Wgt} (h : BoxW P w bx x) {i : Nat} (hi : i < x.weights.length) :
    ∃ b o c, w.cell? ⟨bx, 3, none⟩ = some (.slice (some ⟨b, o, none⟩) x.weights.length c) ∧ x.weights.length ≤ c ∧ c ≤ maxLen ∧ ∀ j, j < x.weights.length → w.cell? ⟨b, o + j, none⟩ = some (.int .i64 (nth x.weights j)) := by
  obtain ⟨a, c, g0, g1, g2, g3, hrd, h1, h2⟩ := h.cells
  obtain ⟨b, o, u, rfl, _, _, _⟩ := Rd.elim hrd i hi
  refine ⟨b, o, c, g3, h1, h2, fun j hj => ?_⟩
  obtain ⟨b', o', u', e, _, hc, rfl⟩ := Rd.elim hrd j hj
  simp only [Option.some.injEq, Addr.mk.injEq, and_true] at e
  obtain ⟨rfl, rfl⟩ := e
  exact hc
theorem phonN_succ (m a b : Int) (k : Nat) : phonN m a b (k + 1) = phonN m a b k + if (a * (k + 2) - a - b * (k + 2)) % m = 0 then 2 else 0 := sumN_succ _ _
theorem phonN_le (m a b : Int) (k : Nat) : phonN m a b k ≤ 2 * k := by
  induction k with
  | zero => simp [phonN, sumN]
  | succ k ih => rw [phonN_succ]; split <;> omega
theorem unsN_phon {x : Wgt} {place : Nat} : unsN x 5 place = phonN x.modulus (nth x.weights place) (nth x.weights (place + 1)) 8 := by simp [unsN]
theorem wt_bd {a : Int} {m : Int} {d : Int} (h1 : 0 ≤ a) (h2 : a < m) (hm : m ≤ 36) (hd1 : 0 ≤ d) (hd2 : d ≤ 36) : 0 ≤ a * d ∧ a * d ≤ 36 * 36 :=
  ⟨Int.mul_nonneg h1 hd1, Int.mul_le_mul (by omega) hd2 hd1 (by omega)⟩
end Go.Proofs.Ytnpkanlieflbiaa
