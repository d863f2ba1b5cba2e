/- Orders: the inverse. -/
import Derived.Test.YthomdggbmjknnaaO2
import Derived.Test.YthomdggbmjknnaaP1
import Derived.Test.YthomdggbmjknnaaF1
namespace Go.Proofs.Ythomdggbmjknnaa
open Go.RowKit
set_option linter.unusedVariables false

def invTo (f : List Int) (k : Nat) : List Int := iterK (fun out i => out.set (nth f i).toNat (i : Nat)) (List.replicate f.length 0) k
theorem invTo_len (f : List Int) (k : Nat) : (invTo f k).length = f.length := by
  induction k with
  | zero => show (List.replicate f.length (0 : Int)).length = _; simp
  | succ k ih => show ((invTo f k).set _ _).length = _; rw [List.length_set, ih]
def invL (f : List Int) : List Int := invTo f f.length
/-- The inverse of an order: what it has at an element is its place. -/
theorem invL_at {f : List Int} {n : Int} (h : ordB f n f.length = true) (hc : Closed f) {i : Nat} (hi : i < f.length) : nth (invL f) (nth f i).toNat = i := by
  have hk : ∀ k, k ≤ f.length → ((invTo f k).length = f.length ∧ ∀ i, i < k → nth (invTo f k) (nth f i).toNat = i) := by
    refine iterK_inv (step := fun out i => out.set (nth f i).toNat ((i : Nat) : Int)) (a := List.replicate f.length 0) (fun k out => out.length = f.length ∧ ∀ i, i < k → nth out (nth f i).toNat = (i : Int)) ⟨by simp, fun i h => absurd h (Nat.not_lt_zero _)⟩ ?_
    intro out k hk hp
    refine ⟨by rw [List.length_set]; exact hp.1, fun i hi => ?_⟩
    have bk := hc k hk
    have bi := hc i (by omega)
    rw [nth_set (by rw [hp.1]; omega)]
    split
    · rename_i e
      have := ord_inj (Nat.le_refl _) h hk (show i < f.length by omega) (by omega)
      rw [this]
    · rename_i e
      refine hp.2 i ?_
      rcases Nat.lt_succ_iff_lt_or_eq.1 hi with h | rfl
      · exact h
      · exact absurd rfl e
  exact (hk f.length (Nat.le_refl _)).2 i hi

def invV' (f : List Int) : List Int := if isOrd f 36 then invL f else []
theorem invV'_no {f : List Int} (h : isOrd f 36 = false) : invV' f = [] := by simp [invV', h]
theorem invV'_yes {f : List Int} (h : isOrd f 36 = true) : invV' f = invL f := by simp [invV', h]
theorem invV'_len (f : List Int) : (invV' f).length ≤ 36 := by
  unfold invV'
  split
  · rename_i h; rw [invL, invTo_len]; exact (isOrd_len h).2
  · simp

theorem implInverseOrder {B : Nat} {v : Value} {f : List Int} {w : World} (h : RdI (· < B) w v f) (hB : B ≤ w.heap.size) (hn : f.length ≤ 1048576) :
    Calls Try.prog 11 #[v] w fun e w' => ∃ v, e = .returned (.tuple #[v, .bool (isOrd f 36)]) ∧ Fresh OI w w' v (invV' f) := by
  have h0 := Lib.hid h
  cases ho : isOrd f 36
  · have hr := Lib.hid (invV'_no ho)
    go_enter Try.func11, Try.ntmps11
    go_wp2_with fail
    refine (implIsOrder h0.out hB hn).mono ?_
    rw [ho]
    rintro e w1 ⟨rfl, hb⟩
    go_wp2_with fail
    go_ret2
    exact ⟨_, rfl, by rw [hr.out]; exact Fresh.nil hb⟩
  have hr := Lib.hid (invV'_yes ho)
  have Hc := Lib.hid (isOrd_closed ho)
  have ho' := Lib.hid ho
  clear ho
  obtain ⟨a, c, rfl, h1, h2, _⟩ := id h
  have hmk := run_make_row' (P := Try.prog) 25 2 (.int .i64 0) 8 Try.underlying25 infoI64 rfl .i64 .i64 f.length (by omega) (by omega)
  unfold maxLen at h2
  clear h
  go_enter Try.func11, Try.ntmps11
  go_wp2_with fail
  refine (implIsOrder h0.out hB hn).mono ?_
  rw [ho'.out]
  rintro e w1 ⟨rfl, hb⟩
  have Hb := Lib.hid hb
  clear hb
  go_wp2_with fail
  go_loopw [15] (fun i wr => ∃ k : Nat, k ≤ f.length ∧ i = .int .i64 k ∧ Hid (Fresh OI w wr (.slice (some ⟨w1.heap.size, 0, none⟩) f.length f.length) (invTo f k))) (fun i _ => f.length - (intOf i).toNat)
  case atStart => exact ⟨0, Nat.zero_le _, rfl, Lib.hid (Fresh.made Hb.out _ fI 0 _ (by unfold maxLen; omega))⟩
  case round =>
    obtain ⟨k, hk, rfl, hf⟩ := hrel
    by_cases hlt : k < f.length
    · obtain ⟨b, o, u, e0, hPb, hcl, rfl⟩ := (Rd.below RdI.ok h0.out (hf.out.bel.mono hB)).elim k hlt
      subst e0
      obtain ⟨Z, hZ⟩ := Int.eq_ofNat_of_zero_le (Hc.out k hlt).1
      have hZl : Z < f.length := by have := (Hc.out k hlt).2; omega
      have hc1 : wr.cell? ⟨b, o + k, none⟩ = some (Value.int .i64 Z) := by rw [← hZ]; exact hcl
      clear hcl
      obtain ⟨hc2, hfz, hge, _, hput⟩ := hf.out.put1 (fun _ => rfl) (i := Z) (by rw [invTo_len]; exact hZl)
      have hres := Lib.hid (show Fresh OI w (wr.setCell ⟨w1.heap.size, Z, none⟩ (.int .i64 k)) (.slice (some ⟨w1.heap.size, 0, none⟩) f.length f.length) (invTo f (k + 1)) by
        have := hput wr (Below.refl _ _) (k : Int)
        rwa [show (invTo f k).set Z (k : Int) = invTo f (k + 1) by show _ = (invTo f k).set (nth f k).toNat _; rw [hZ]; rfl] at this)
      clear hput hZ
      go_wp2
      go_roundw
      case rel => exact ⟨k + 1, by omega, by go_num, hres⟩
      case measure => simp [intOf]; omega
    · obtain rfl : k = f.length := by omega
      go_wp2
      go_ret2
      exact ⟨_, rfl, by rw [hr.out]; exact hf.out⟩
end Go.Proofs.Ythomdggbmjknnaa
