/- The chain of one table at all places, walked. -/
import Derived.Test.YthomdggbmjknnaaT1
import Derived.Test.YthomdggbmjknnaaO2
import Derived.Test.YthomdggbmjknnaaD2
import Derived.Test.YthomdggbmjknnaaF2
namespace Go.Proofs.Ythomdggbmjknnaa
open Go.RowKit
set_option linter.unusedVariables false

set_option maxHeartbeats 800000 in
set_option maxRecDepth 100000 in
theorem implCloneTable {B : Nat} {v : Value} {t : List (List Int)} {w : World} (h : RdII (· < B) w v t) (hB : B ≤ w.heap.size) (hn : szL List.length t ≤ 1048576) :
    Calls Try.prog 51 #[v] w fun e w' => ∃ v', e = .returned v' ∧ Fresh OII w w' v' t := by
  have Hr := Lib.hid h
  obtain ⟨a, c, rfl, h1, h2⟩ := h.isSlice
  clear h
  unfold maxLen at h2
  have hl : t.length ≤ 1048576 := by have := szL_len List.length t; omega
  have Hrow := Lib.hid (show ∀ x, x < t.length → (nth t x).length ≤ 1048576 from fun x hx => by have := szL_nth List.length hx; omega)
  clear hn
  go_enter Try.func51, Try.ntmps51
  go_wp2
  go_loopw [3, 9] (fun ov iv wr => ∃ k : Nat, k ≤ t.length ∧ iv = .int .i64 k ∧ Hid (Fresh OII w wr ov (t.take k))) (fun _ iv _ => t.length - (intOf iv).toNat)
  case atStart => exact ⟨0, Nat.zero_le _, rfl, Lib.hid (Fresh.empty (E := 25) (R := OI) (Below.refl _ _))⟩
  case round =>
    obtain ⟨k, hk, rfl, hf⟩ := hrel
    obtain ⟨W2, rfl⟩ : ∃ W2, W2 = wr := ⟨_, rfl⟩
    by_cases hlt : k < t.length
    · have hb2 := hf.out.bel.size
      obtain ⟨b, o, a1, c1, rfl, hP, hc, g1, g2, hr⟩ := Rd.row (RdII.ok.keep Hr.out (w' := W2) fun j hj => hf.out.bel.block j (by omega)) hlt
      have Hcl := Lib.hid (slClone hr (fun j hj => by have : j < B := hj; omega) (Hrow.out k hlt))
      have hs := Lib.hid (take_nth hlt)
      have hlk := Lib.hid (show (t.take k).length ≤ 1048576 by simp; omega)
      obtain ⟨a0, n0, c0, rfl⟩ := hf.out.choose_spec.1.isSlice
      unfold maxLen at g2
      clear hr
      go_wp2_with fail
      refine (Calls.mono Hcl.out ?_)
      rintro e w5 ⟨v5, rfl, hf5⟩
      obtain ⟨S, T, p1, p2, p3, p4⟩ := pushRow OI.ok hf.out hf5
      have Hp1 := Lib.hid p1
      have Hp2 := Lib.hid p2
      have Hp3 := Lib.hid p3
      have Hp4 := Lib.hid p4
      obtain ⟨a3, n3, c3, rfl⟩ := p2.isSlice
      clear p1 p2 p3 p4 hf5
      go_wp2_with (at_builtin; refine wpList_push rfl _ _ 30 rfl OI.ok Try.underlying30 infoSl' rfl Hp1.out Hp2.out Hp3.out (by have := hlk.out; omega) (by have := hlk.out; unfold maxLen; omega) rfl rfl ?_; intro v1 w8 S8 hown1 honly1 hS8; have Hf5 := Lib.hid (Hp4.out v1 w8 S8 hown1 honly1 hS8); clear hown1 honly1 hS8)
      go_roundw
      case rel => exact ⟨k + 1, by omega, by go_num, by rw [hs.out]; exact Hf5⟩
      case measure => simp [intOf]; omega
    · obtain ⟨hkn⟩ : Nonempty (k = t.length) := ⟨by omega⟩
      have hx : t.take k = t := by rw [hkn, List.take_length]
      rw [hx] at hf
      clear hkn
      go_wp2
      go_ret
      exact ⟨_, rfl, hf.out⟩

theorem specOwn {P : Nat → Prop} {v : Value} {xs : List Int} {w : World} (h : RdI P w v xs) (hP : ∀ k, P k → k < w.heap.size) (hn : xs.length ≤ 1048576) :
    Calls Try.prog 66 #[v] w fun e w' => ∃ v, e = .returned v ∧ Fresh OI w w' v xs := by
  have h0 := Lib.hid h
  obtain ⟨a, c, rfl, h1, h2, hrd⟩ := h
  clear hrd
  have hsrc : RdI P (w.alloc (.cells #[] 2)) (.slice a xs.length c) xs := RdI.ok.keep h0.out fun k hk => Below.heap_alloc w _ k (hP k hk)
  have Hsrc := Lib.hid hsrc; clear hsrc
  have hf0 : Fresh OI w (w.alloc (.cells #[] 2)) (.slice (some ⟨w.heap.size, 0, none⟩) 0 0) [] := Fresh.empty (Below.refl _ _)
  have Hf0 := Lib.hid hf0; clear hf0
  go_enter Try.func66, Try.ntmps66
  go_wp2_with (at_builtin; refine wpList_appendF rfl (.tmp 3) (.tmp 4) 25 rfl (f := fI) (fun _ => rfl) Try.underlying25 infoI64 rfl Hf0.out Hsrc.out (by simp; omega) (by simp; unfold maxLen; omega) rfl rfl ?_; intro v1 w1 hf1)
  go_ret
  exact ⟨_, rfl, by rw [List.nil_append] at hf1; exact hf1⟩

section evs
variable {w : World} {c0 c1 c2 c3 : Int} {NP : Nat} {T : List (List Int)} {tv : Value} {S : List Nat} {wr : World}
theorem alloc_at {w : World} {o : Obj} {k : Nat} (h : k = w.heap.size) : (w.alloc o).heap[k]? = some o := by subst h; exact heap_alloc_new w o
theorem alloc_old {w : World} {o : Obj} {k : Nat} (h : k < w.heap.size) : (w.alloc o).heap[k]? = w.heap[k]? := Below.heap_alloc w o k h
end evs

theorem evC_agg (t : List (List Int)) (p a b : Int) (u q : Value) : aggC (evC t p a b) u q = .agg #[.int .i64 ((nth t 0).length : Int), .int .i64 t.length, .int .i64 a, .int .i64 b, u, q] := rfl
theorem nil_fresh {w w' : World} (h : Below w.heap.size w w') : Fresh OC w w' (aggC Chn.nil (.slice none 0 0) (.slice none 0 0)) Chn.nil :=
  ⟨[], ⟨_, _, [], [], rfl, own_nil _, own_nil _, rfl, by simp⟩, by simp, h⟩

end Go.Proofs.Ythomdggbmjknnaa
