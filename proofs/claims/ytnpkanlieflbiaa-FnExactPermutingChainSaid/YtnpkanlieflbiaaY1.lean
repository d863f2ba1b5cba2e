/- The table that adds numbers, walked (the reference). -/
import Derived.Test.YtnpkanlieflbiaaC8
import Derived.Test.YtnpkanlieflbiaaF2
import Derived.Test.YtnpkanlieflbiaaF1
import Derived.Test.YtnpkanlieflbiaaB1
namespace Go.Proofs.Ytnpkanlieflbiaa
open Go.RowKit
set_option linter.unusedVariables false

/-- A row made behind a list of rows goes to its end. -/
theorem pushRow {α : Type} [Inhabited α] {E : TypeId} {R : Rep α} (hR : R.Ok) {w W2 W4 : World} {ov rv : Value} {L : List α} {r : α} (h : Fresh (Own E R) w W2 ov L) (hr : Fresh R W2 W4 rv r) :
    ∃ S T, Own E R W4 ov L S ∧ R W4 rv r T ∧ (∀ j ∈ T, j ∉ S) ∧ ∀ v1 w5 S1, Own E R w5 v1 (L ++ [r]) S1 → Only S W4 w5 → (∀ k ∈ S1, k ∈ S ∨ k ∈ T ∨ W4.heap.size ≤ k) → Fresh (Own E R) w w5 v1 (L ++ [r]) := by
  obtain ⟨S, hS, hS2, hb⟩ := h
  obtain ⟨T, hT, hT2, hb2⟩ := hr
  have hs := hb.size
  have hs2 := hb2.size
  refine ⟨S, T, (Own.ok hR).keep hS (fun k hk => hb2.block k ((Own.ok hR).lt hS k hk)), hT, fun j hj hm => by have := (Own.ok hR).lt hS j hm; have := hT2 j hj; omega, fun v1 w5 S1 ho hon hS1 => ⟨S1, ho, fun k hk => ?_, below_only (hb.trans (hb2.mono hs)) hon (by omega) hS2⟩⟩
  rcases hS1 k hk with h | h | h
  · exact hS2 k h
  · have := hT2 k h; omega
  · omega
def tabTo (m : Nat) (xs : List Int) (k : Nat) : List (List Int) := (List.range k).map fun (s : Nat) => xs.map fun n => ((s : Int) + n) % m
def rowTo (m : Nat) (xs : List Int) (s j : Nat) : List Int := (xs.take j).map fun n => ((s : Int) + n) % m
theorem tabTo_succ (m : Nat) (xs : List Int) (k : Nat) : tabTo m xs (k + 1) = tabTo m xs k ++ [rowTo m xs k xs.length] := by
  unfold tabTo rowTo; rw [List.range_succ, List.map_append, List.take_length]; rfl
theorem rowTo_succ {m : Nat} {xs : List Int} {s j : Nat} (h : j < xs.length) : rowTo m xs s (j + 1) = rowTo m xs s j ++ [((s : Int) + nth xs j) % m] := by
  unfold rowTo; rw [take_nth h, List.map_append]; rfl
theorem tabTo_len (m : Nat) (xs : List Int) (k : Nat) : (tabTo m xs k).length = k := by simp [tabTo]
theorem rowTo_len {m : Nat} {xs : List Int} {s j : Nat} (h : j ≤ xs.length) : (rowTo m xs s j).length = j := by simp [rowTo]; omega

set_option maxHeartbeats 1600000 in
set_option maxRecDepth 10000 in
theorem specTable {P : Nat → Prop} {v : Value} {xs : List Int} {w : World} (h : RdI P w v xs) (hP : ∀ k, P k → k < w.heap.size) (hl : xs.length ≤ 36) (m : Nat) (hm : 1 ≤ m ∧ m ≤ 36) (hx : ∀ i, i < xs.length → 0 ≤ nth xs i ∧ nth xs i ≤ 2000) :
    Calls Try.prog 125 #[v, .int .i64 m] w fun e w' => ∃ v', e = .returned v' ∧ Fresh OII w w' v' (tabOf m xs) := by
  have H := Lib.hid h
  have HP := Lib.hid hP
  have Hx := Lib.hid hx
  obtain ⟨a, c, rfl, h1, h2, _⟩ := h
  unfold maxLen at h2
  clear hP hx
  go_enter Try.func125, Try.ntmps125
  go_wp2
  go_loopw [5, 6] (fun lv sv wr => ∃ k : Nat, k ≤ m ∧ sv = .int .i64 k ∧ Hid (Fresh OII w wr lv (tabTo m xs k))) (fun _ sv _ => m - (intOf sv).toNat)
  case atStart => exact ⟨0, Nat.zero_le _, rfl, Lib.hid (Fresh.empty (Below.refl _ _))⟩
  case round =>
    obtain ⟨k, hk, rfl, hf⟩ := hrel
    obtain ⟨W2, rfl⟩ : ∃ W2, W2 = wr := ⟨_, rfl⟩
    by_cases hkm : k < m
    · go_wp2
      go_loopw [7, 8] (fun rv jv wr => ∃ j : Nat, j ≤ xs.length ∧ jv = .int .i64 j ∧ Hid (Fresh OI W2 wr rv (rowTo m xs k j))) (fun _ jv _ => xs.length - (intOf jv).toNat)
      case atStart => exact ⟨0, Nat.zero_le _, rfl, Lib.hid (Fresh.empty (Below.refl _ _))⟩
      case round =>
        obtain ⟨j, hj, rfl, hg⟩ := hrel
        obtain ⟨W3, rfl⟩ : ∃ W3, W3 = wr := ⟨_, rfl⟩
        by_cases hjl : j < xs.length
        · have H3 := RdI.ok.keep H.out (w' := W3) fun i hi => (hg.out.bel.block i (by have := hf.out.bel.size; have := HP.out i hi; omega)).trans (hf.out.bel.block i (HP.out i hi))
          obtain ⟨b3, o3, u3, rfl, _, hc3, rfl⟩ := Rd.elim H3 j hjl
          have hc : W3.cell? ⟨b3, o3 + j, none⟩ = some (.int .i64 (nth xs j)) := hc3
          have hxj := Hx.out j hjl
          have hs := Lib.hid (rowTo_succ (m := m) (s := k) hjl)
          have hln := Lib.hid (rowTo_len (m := m) (s := k) hj)
          clear hc3 H3
          generalize nth xs j = z at *
          have g1 := Int.emod_nonneg ((k : Int) + z) (show (m : Int) ≠ 0 by omega)
          have g2 := Int.emod_lt_of_pos ((k : Int) + z) (show (0 : Int) < (m : Int) by omega)
          have t1 : Int.tmod ((k : Int) + z) (m : Int) = ((k : Int) + z) % (m : Int) := Int.tmod_eq_emod_of_nonneg (by omega)
          have t2 : wrap64 ((k : Int) + z) = (k : Int) + z := IntWalk.wrap64_in _ (by omega)
          have t3 : wrap64 (((k : Int) + z) % (m : Int)) = ((k : Int) + z) % (m : Int) := IntWalk.wrap64_in _ (by omega)
          have hm0 : ¬ m = 0 := by omega
          have hm1 : ¬ (m : Int) = 0 := by omega
          go_wp2_with (at_builtin; refine wpList_pushF rfl _ _ 22 rfl (f := fI) (fun _ => rfl) Try.underlying22 infoI64 rfl hg.out (((k : Int) + z) % (m : Int)) (by have := hln.out; omega) (by have := hln.out; unfold maxLen; omega) rfl rfl ?_; intro v1 w1 hf1; have Hf1 := Lib.hid hf1; clear hf1)
          go_roundw
          case rel => exact ⟨j + 1, by omega, by go_num, by rw [hs.out]; exact Hf1⟩
          case measure => simp [intOf]; omega
        · obtain ⟨hje⟩ : Nonempty (j = xs.length) := ⟨by omega⟩
          have hg2 : Hid (Fresh OI W2 W3 _ (rowTo m xs k xs.length)) := Lib.hid (by rw [hje] at hg; exact hg.out)
          obtain ⟨S, T, p1, p2, p3, p4⟩ := pushRow OI.ok hf.out hg2.out
          have Hp1 := Lib.hid p1
          have Hp2 := Lib.hid p2
          have Hp3 := Lib.hid p3
          have Hp4 := Lib.hid p4
          have hln := Lib.hid (tabTo_len m xs k)
          have hs := Lib.hid (tabTo_succ m xs k)
          obtain ⟨av, nv, cv, rfl⟩ := p1.isSlice
          obtain ⟨a7, n7, c7, rfl⟩ := p2.isSlice
          clear p1 p2 p3 p4 hje hg hg2
          go_wp2_with (at_builtin; refine wpList_push rfl _ _ 38 rfl OI.ok Try.underlying38 infoSl' rfl Hp1.out Hp2.out Hp3.out (by have := hln.out; omega) (by have := hln.out; unfold maxLen; omega) rfl rfl ?_; intro v1 w5 S1 hown1 honly1 hS1; have Hf5 := Lib.hid (Hp4.out v1 w5 S1 hown1 honly1 hS1); clear hown1 honly1 hS1)
          go_roundw
          case rel => exact ⟨k + 1, by omega, by go_num, by rw [hs.out]; exact Hf5⟩
          case measure => simp [intOf]; omega
    · obtain ⟨hkm⟩ : Nonempty (k = m) := ⟨by omega⟩
      have hf2 : Hid (Fresh OII w W2 _ (tabOf m xs)) := Lib.hid (by rw [hkm] at hf; exact hf.out)
      clear hkm hf
      go_wp2
      go_ret
      exact ⟨_, rfl, hf2.out⟩
end Go.Proofs.Ytnpkanlieflbiaa
