/- A number put into its place among rising ones: spec.l00Put. -/
import Derived.Test.YtphlohplkadenaaV1
import Derived.Test.YtphlohplkadenaaO2
namespace Go.Proofs.Ytphlohplkadenaa
open Go.RowKit
set_option linter.unusedVariables false

theorem putL_len_le (xs : List Int) (n : Int) : (putL xs n).length ≤ xs.length + 1 := by
  have h := putTo_len (xs := xs) (n := n) (Nat.le_refl _)
  unfold putL
  cases hd : (putTo xs n xs.length).1
  · have := h.2 hd
    simp; omega
  · simpa using h.1

set_option maxHeartbeats 1600000 in
theorem specPut {P : Nat → Prop} {vf : Value} {xs : List Int} {w : World} (h : RdI P w vf xs) (hP : ∀ k, P k → k < w.heap.size) (hn : xs.length ≤ 1048000) (n : Int) :
    Calls Try.prog 80 #[vf, .int .i64 n] w fun e w' => ∃ v, e = .returned v ∧ Fresh OI w w' v (putL xs n) := by
  obtain ⟨a, c, rfl, h1, h2, hrd⟩ := h
  have Hrd := Lib.hid hrd; clear hrd
  unfold maxLen at h2
  go_enter Try.func80, Try.ntmps80
  go_wp2
  go_loopw [5, 6, 7] (fun v dn i wr => ∃ (k : Nat) (b : Bool) (ys : List Int), k ≤ xs.length ∧ i = .int .i64 k ∧ dn = .bool b ∧ Hid (putTo xs n k = (b, ys)) ∧ Fresh OI w wr v ys) (fun _ _ i _ => xs.length - (intOf i).toNat)
  case atStart => exact ⟨0, false, [], Nat.zero_le _, rfl, rfl, Lib.hid rfl, Fresh.empty (Below.refl _ _)⟩
  case round =>
    obtain ⟨k, bd, ys, hk, rfl, rfl, hpt, hf⟩ := hrel
    have hpl := putTo_len (xs := xs) (n := n) hk
    rw [hpt.out] at hpl
    have hl2 := Lib.hid (show ys.length ≤ 1048100 by have := hpl.1; simp at this; omega)
    clear hpl
    by_cases hlt : k < xs.length
    · obtain ⟨b, o, u, rfl, hPb, hc, rfl⟩ := Hrd.out k hlt
      have hc1 : wr.cell? ⟨b, o + k, none⟩ = some (Value.int .i64 (nth xs k)) := (hf.bel.cell (hP b hPb)).trans hc
      have hs := Lib.hid (putTo_succ (n := n) hlt)
      rw [hpt.out, putS] at hs
      have Hc := Lib.hid (fun (w1 : World) (hb : Below w.heap.size w w1) => (hb.cell (p := ⟨b, o + k, none⟩) (hP b hPb)).trans hc)
      clear hc
      generalize nth xs k = X at *
      cases bd
      · by_cases h1 : n ≤ X
        · by_cases h2 : n < X
          · rw [if_pos ⟨rfl, h1⟩, if_pos h2] at hs
            go_wp2_with (first
              | (at_builtin; refine wpList_pushF rfl _ _ 24 rfl (f := fI) (fun _ => rfl) Try.underlying24 infoI64 rfl hf n (by have := hl2.out; omega) (by have := hl2.out; unfold maxLen; omega) rfl rfl ?_; intro v1 w1 hf1; have hc2 := Hc.out w1 hf1.bel)
              | (at_builtin; refine wpList_pushF rfl _ _ 24 rfl (f := fI) (fun _ => rfl) Try.underlying24 infoI64 rfl hf1 X (by have := hl2.out; simp; omega) (by have := hl2.out; unfold maxLen; simp; omega) rfl rfl ?_; intro v2 w2 hf2))
            go_roundw
            case rel => exact ⟨k + 1, true, _, by omega, by go_num, rfl, hs, by assumption⟩
            case measure => simp [intOf]; omega
          · rw [if_pos ⟨rfl, h1⟩, if_neg h2] at hs
            go_wp2_with (at_builtin; refine wpList_pushF rfl _ _ 24 rfl (f := fI) (fun _ => rfl) Try.underlying24 infoI64 rfl hf X (by have := hl2.out; omega) (by have := hl2.out; unfold maxLen; omega) rfl rfl ?_; intro v1 w1 hf1)
            go_roundw
            case rel => exact ⟨k + 1, true, _, by omega, by go_num, rfl, hs, by assumption⟩
            case measure => simp [intOf]; omega
        · rw [if_neg (by simp [h1])] at hs
          go_wp2_with (at_builtin; refine wpList_pushF rfl _ _ 24 rfl (f := fI) (fun _ => rfl) Try.underlying24 infoI64 rfl hf X (by have := hl2.out; omega) (by have := hl2.out; unfold maxLen; omega) rfl rfl ?_; intro v1 w1 hf1)
          go_roundw
          case rel => exact ⟨k + 1, false, _, by omega, by go_num, rfl, hs, by assumption⟩
          case measure => simp [intOf]; omega
      · rw [if_neg (by simp)] at hs
        go_wp2_with (at_builtin; refine wpList_pushF rfl _ _ 24 rfl (f := fI) (fun _ => rfl) Try.underlying24 infoI64 rfl hf X (by have := hl2.out; omega) (by have := hl2.out; unfold maxLen; omega) rfl rfl ?_; intro v1 w1 hf1)
        go_roundw
        case rel => exact ⟨k + 1, true, _, by omega, by go_num, rfl, hs, by assumption⟩
        case measure => simp [intOf]; omega
    · obtain rfl : k = xs.length := by omega
      cases bd
      · have hr := Lib.hid (show putL xs n = ys ++ [n] by unfold putL; rw [hpt.out]; rfl)
        go_wp2_with (at_builtin; refine wpList_pushF rfl _ _ 24 rfl (f := fI) (fun _ => rfl) Try.underlying24 infoI64 rfl hf n (by have := hl2.out; omega) (by have := hl2.out; unfold maxLen; omega) rfl rfl ?_; intro v1 w1 hf1)
        go_ret
        exact ⟨_, rfl, by rw [hr.out]; assumption⟩
      · have hr := Lib.hid (show putL xs n = ys by unfold putL; rw [hpt.out]; rfl)
        go_wp2
        go_ret
        exact ⟨_, rfl, by rw [hr.out]; assumption⟩
end Go.Proofs.Ytphlohplkadenaa
