/- Numbers read from their text: the reference's walk. Printed by gen_rd2.py. -/
import Derived.Test.YthomdggbmjknnaaDoorRd1
import Derived.Test.YthomdggbmjknnaaDoorW1
import Derived.Test.YthomdggbmjknnaaDoorDc2
namespace Go.Proofs.YthomdggbmjknnaaDoor
open Go.RowKit
set_option linter.unusedVariables false

theorem itoaB (v : Int) (s : ByteArray) : (Lib.itoa v == s.toList) = decide (dS v = s) := by
  rw [Bool.eq_iff_iff, beq_iff_eq, decide_eq_true_eq, ByteArray.toList_eq]
  constructor
  · intro h
    apply ByteArray.ext
    apply Array.toList_inj.1
    rw [dS_data, h]
  · intro h
    rw [← h, dS_data]
theorem byt_list {s : ByteArray} {k : Nat} (h : k < s.size) : ∃ c : UInt8, s.data.toList[k]? = some c ∧ byt s k = (c.toNat : Int) ∧ s.data.toList.take (k + 1) = s.data.toList.take k ++ [c] := by
  have hl : s.data.toList.length = s.size := by simp
  have h' : k < s.data.toList.length := by omega
  refine ⟨s.data.toList[k], List.getElem?_eq_getElem h', ?_, List.take_succ_eq_append_getElem h'⟩
  rw [← byt_eq h]; rfl
def dvI (s : ByteArray) (k : Nat) : Int := ((digVal 0 (s.data.toList.take k) : Nat) : Int)
def dvOk (s : ByteArray) (k : Nat) : Bool := (s.data.toList.take k).all isDig
theorem dv_step {s : ByteArray} {k : Nat} (h : k < s.size) (h1 : 48 ≤ byt s k) (h2 : byt s k ≤ 57) : dvI s (k + 1) = 10 * dvI s k + (byt s k - 48) ∧ dvOk s (k + 1) = dvOk s k := by
  obtain ⟨c, e1, e2, e3⟩ := byt_list h
  unfold dvI dvOk
  rw [e3, digVal_append, List.all_append]
  refine ⟨?_, ?_⟩
  · show ((10 * digVal 0 (s.data.toList.take k) + (c.toNat - 48) : Nat) : Int) = _
    omega
  · have : isDig c = true := isDig_iff.2 (by omega)
    simp [this]
theorem dv_bd {s : ByteArray} {k : Nat} (hk : k ≤ 16) (h : dvOk s k = true) : 0 ≤ dvI s k ∧ dvI s k < 10000000000000000 := by
  have h1 := digVal_lt 0 _ h
  have h2 : (s.data.toList.take k).length ≤ 16 := by rw [List.length_take]; omega
  have h3 : 10 ^ (s.data.toList.take k).length ≤ 10 ^ 16 := Nat.pow_le_pow_right (by omega) h2
  have h4 : (10 : Nat) ^ 16 = 10000000000000000 := by decide
  unfold dvI
  omega
theorem dv_all {s : ByteArray} : dvI s s.size = ((digVal 0 s.data.toList : Nat) : Int) ∧ dvOk s s.size = s.data.toList.all isDig := by
  unfold dvI dvOk
  rw [List.take_of_length_le (by simp)]
  exact ⟨rfl, rfl⟩
theorem dv_no {s : ByteArray} {k : Nat} (h : k < s.size) (h1 : byt s k < 48 ∨ 57 < byt s k) : s.data.toList.all isDig = false := by
  obtain ⟨c, e1, e2, e3⟩ := byt_list h
  cases hb : s.data.toList.all isDig
  · rfl
  · exfalso
    have := isDig_iff.1 (List.all_eq_true.1 hb c (List.mem_of_getElem? e1))
    omega
theorem head45 {s : ByteArray} : s.data.toList.head? = some 45 ↔ 0 < s.size ∧ byt s 0 = 45 := by
  constructor
  · intro h
    have h0 : 0 < s.size := by
      cases hs : s.data.toList with
      | nil => rw [hs] at h; simp at h
      | cons c r => have : s.data.toList.length = s.size := by simp
                    rw [hs] at this; simp at this; omega
    obtain ⟨c, e1, e2, _⟩ := byt_list h0
    rw [List.head?_eq_getElem?, e1] at h
    simp at h
    subst h
    exact ⟨h0, e2⟩
  · rintro ⟨h0, h1⟩
    obtain ⟨c, e1, e2, _⟩ := byt_list h0
    rw [List.head?_eq_getElem?, e1]
    have : c.toNat = (45 : UInt8).toNat := by have : (45 : UInt8).toNat = 45 := rfl
                                              omega
    rw [UInt8.toNat_inj.1 this]
theorem rd_minus {s : ByteArray} (h0 : 0 < s.size) (h1 : byt s 0 = 45) : (s.extract 1 s.size).data.toList = rdDigits s.data.toList ∧ rdNum s.data.toList = -((digVal 0 (rdDigits s.data.toList) : Nat) : Int) ∧ (s.extract 1 s.size).size + 1 = s.size := by
  have hh := head45.2 ⟨h0, h1⟩
  have e : (s.extract 1 s.size).data.toList = s.data.toList.tail := by
    rw [ByteArray.data_extract]
    rw [Array.toList_extract]
    simp [List.extract_eq_take_drop]
    exact List.take_of_length_le (by simp)
  refine ⟨by rw [e]; unfold rdDigits; rw [if_pos hh], by unfold rdNum rdDigits; rw [if_pos hh, if_pos hh], ?_⟩
  have : (s.extract 1 s.size).size = (s.extract 1 s.size).data.toList.length := by simp
  rw [this, e, List.length_tail]
  have : s.data.toList.length = s.size := by simp
  omega
theorem rd_plus {s : ByteArray} (h : ¬ (0 < s.size ∧ byt s 0 = 45)) : s.data.toList = rdDigits s.data.toList ∧ rdNum s.data.toList = ((digVal 0 (rdDigits s.data.toList) : Nat) : Int) := by
  have hh : ¬ s.data.toList.head? = some 45 := fun e => h (head45.1 e)
  exact ⟨by unfold rdDigits; rw [if_neg hh], by unfold rdNum rdDigits; rw [if_neg hh, if_neg hh]⟩
theorem rdB_len {s dg : ByteArray} (hD : dg.data.toList = rdDigits s.data.toList) (h : ¬ (1 ≤ dg.size ∧ dg.size ≤ 16)) : rdB s = false := by
  apply rdB_no
  have : dg.data.toList.length = dg.size := by simp
  unfold rdIn
  rw [← hD, this]
  by_cases h1 : 1 ≤ dg.size
  · have : ¬ dg.size ≤ 16 := fun h2 => h ⟨h1, h2⟩
    simp [this]
  · simp [h1]
theorem rdB_dig {s dg : ByteArray} (hD : dg.data.toList = rdDigits s.data.toList) (h : dg.data.toList.all isDig = false) : rdB s = false := by
  apply rdB_no
  unfold rdIn
  rw [← hD, h]
  simp
theorem rdIn_yes {s dg : ByteArray} (hD : dg.data.toList = rdDigits s.data.toList) (h1 : 1 ≤ dg.size) (h2 : dg.size ≤ 16) (h : dg.data.toList.all isDig = true) : rdIn s.data.toList = true := by
  have : dg.data.toList.length = dg.size := by simp
  unfold rdIn
  rw [← hD, this, h]
  simp [h1, h2]

set_option maxHeartbeats 3200000 in
set_option maxRecDepth 100000 in
theorem specValue_m (s : ByteArray) (hs : s.size ≤ maxLen) (w : World) (h0 : 0 < s.size) (h1 : byt s 0 = 45) :
    Calls Tryd.prog 38 #[.string s] w fun e w' => e = .returned (.tuple #[.int .i64 (rdV s), .bool (rdB s)]) ∧ Below w.heap.size w w' := by
  obtain ⟨hD0, hN0, hz0⟩ := rd_minus h0 h1
  have hsl : ∀ W, (Instr.slice 9 (.string s) (some (.int .i64 1)) none none).run Tryd.prog W = .ok (.string (s.extract 1 s.size)) W := fun W => by
    rw [run_slice_string_from_if W 9 s .i64 _ Tryd.underlying9, if_pos ⟨by omega, by omega⟩]
    rfl
  generalize s.extract 1 s.size = dg at hsl hD0 hz0
  have HD := Lib.hid hD0
  have HN := Lib.hid hN0
  have hlt : dg.size < s.size := by omega
  have hb := get_bt s
  unfold maxLen at hs
  clear hD0 hN0
  by_cases hl1 : dg.size < 1
  · have hv := Lib.hid (rdB_len HD.out (by omega))
    have hz := Lib.hid (rdV_no hv.out)
    clear hz0
    go_enter Tryd.func38, Tryd.ntmps38
    go_wp2
    go_ret2
    exact ⟨by rw [hv.out, hz.out]; rfl, Below.refl _ _⟩
  by_cases hl2 : 16 < dg.size
  · have hv := Lib.hid (rdB_len HD.out (by omega))
    have hz := Lib.hid (rdV_no hv.out)
    clear hz0
    go_enter Tryd.func38, Tryd.ntmps38
    go_wp2
    go_ret2
    exact ⟨by rw [hv.out, hz.out]; rfl, Below.refl _ _⟩
  clear hz0
  have hbd := get_bt dg
  go_enter Tryd.func38, Tryd.ntmps38
  go_wp2
  go_loop [5, 6] (fun nv iv => ∃ k : Nat, k ≤ dg.size ∧ iv = .int .i64 k ∧ ∃ y : Int, 0 ≤ y ∧ y < 10000000000000000 ∧ nv = .int .i64 y ∧ Hid (y = dvI dg k ∧ dvOk dg k = true)) (fun _ iv => dg.size - (intOf iv).toNat)
  case atStart => exact ⟨0, Nat.zero_le _, rfl, 0, by omega, by omega, rfl, Lib.hid ⟨rfl, rfl⟩⟩
  case round =>
    obtain ⟨k, hk, rfl, y, hy0, hy1, rfl, Hy⟩ := hrel
    by_cases hkl : k < dg.size
    · have hby := byt_bd dg k
      by_cases hd1 : byt dg k < 48
      · have hv := Lib.hid (rdB_dig HD.out (dv_no hkl (.inl hd1)))
        have hz := Lib.hid (rdV_no hv.out)
        go_wp2
        go_ret2
        exact ⟨by rw [hv.out, hz.out]; rfl, Below.refl _ _⟩
      by_cases hd2 : 57 < byt dg k
      · have hv := Lib.hid (rdB_dig HD.out (dv_no hkl (.inr hd2)))
        have hz := Lib.hid (rdV_no hv.out)
        go_wp2
        go_ret2
        exact ⟨by rw [hv.out, hz.out]; rfl, Below.refl _ _⟩
      have hst := dv_step hkl (by omega) (by omega)
      have hnx := Lib.hid (show 10 * y + (byt dg k - 48) = dvI dg (k + 1) ∧ dvOk dg (k + 1) = true by rw [hst.1, hst.2, Hy.out.1]; exact ⟨rfl, Hy.out.2⟩)
      have hnb := dv_bd (s := dg) (k := k + 1) (by omega) hnx.out.2
      rw [← hnx.out.1] at hnb
      clear hst
      go_wp2
      go_round
      case rel => exact ⟨k + 1, by omega, by go_num, 10 * y + (byt dg k - 48), hnb.1, hnb.2, rfl, hnx⟩
      case measure => simp [intOf]; omega
    · obtain ⟨hke⟩ : Nonempty (k = dg.size) := ⟨by omega⟩
      rw [hke] at Hy
      have hal := dv_all (s := dg)
      have hin := Lib.hid (rdIn_yes HD.out (by omega) (by omega) (hal.2.symm.trans Hy.out.2))
      have hnum := Lib.hid (show rdNum s.data.toList = -y by rw [HN.out, ← HD.out, ← hal.1, Hy.out.1])
      clear hal hke
      cases hrg : inB (-y) (-1000000000000000) 1000000000000000
      · have hv := Lib.hid (rdB_in hin.out (by rw [hnum.out]; exact hrg))
        have hz := Lib.hid (rdV_no hv.out)
        go_wp2_with (go_at_call 49; refine (specIn _ _ _ _ (by assumption) _).mono ?_; rintro e w' ⟨rfl, rfl⟩)
        go_ret2
        exact ⟨by rw [hv.out, hz.out]; rfl, Below.refl _ _⟩
      · have hrb := Lib.hid (rdB_at hin.out (by rw [hnum.out]; exact hrg))
        by_cases heq : dS (-y) = s
        · have hv := Lib.hid (show rdB s = true by rw [hrb.out, hnum.out, heq]; simp)
          have hz := Lib.hid (show rdV s = -y by rw [rdV_yes hv.out, hnum.out])
          have heq' := Lib.hid heq
          have hs1 : (Lib.itoa (-y) == s.toList) = true := (itoaB _ _).trans (by rw [heq]; simp)
          clear heq
          go_wp2_with (first
            | (go_at_call 49; refine (specIn _ _ _ _ (by assumption) _).mono ?_; rintro e w' ⟨rfl, rfl⟩)
            | (go_at_call 30; refine (specDec _ (by omega) (by omega) _).mono ?_; rintro e w1 ⟨rfl, hb1⟩))
          go_ret2
          exact ⟨by rw [hv.out, hz.out]; rfl, hb1⟩
        · have hv := Lib.hid (show rdB s = false by rw [hrb.out, hnum.out]; simpa using heq)
          have hz := Lib.hid (rdV_no hv.out)
          have hs1 : (Lib.itoa (-y) == s.toList) = false := (itoaB _ _).trans (by simpa using heq)
          clear heq
          go_wp2_with (first
            | (go_at_call 49; refine (specIn _ _ _ _ (by assumption) _).mono ?_; rintro e w' ⟨rfl, rfl⟩)
            | (go_at_call 30; refine (specDec _ (by omega) (by omega) _).mono ?_; rintro e w1 ⟨rfl, hb1⟩))
          go_ret2
          exact ⟨by rw [hv.out, hz.out]; rfl, hb1⟩

set_option maxHeartbeats 3200000 in
set_option maxRecDepth 100000 in
theorem specValue_p (s : ByteArray) (hs : s.size ≤ maxLen) (w : World) (h : ¬ (0 < s.size ∧ byt s 0 = 45)) :
    Calls Tryd.prog 38 #[.string s] w fun e w' => e = .returned (.tuple #[.int .i64 (rdV s), .bool (rdB s)]) ∧ Below w.heap.size w w' := by
  obtain ⟨hD0, hN0⟩ := rd_plus h
  have HD := Lib.hid hD0
  have HN := Lib.hid hN0
  have hb := get_bt s
  unfold maxLen at hs
  clear hD0 hN0
  have hc : ¬ 0 < s.size ∨ (0 < s.size ∧ ¬ byt s 0 = 45) := by
    by_cases h0 : 0 < s.size
    · exact .inr ⟨h0, fun h1 => h ⟨h0, h1⟩⟩
    · exact .inl h0
  clear h
  by_cases hl1 : s.size < 1
  · have hv := Lib.hid (rdB_len HD.out (by omega))
    have hz := Lib.hid (rdV_no hv.out)
    have hl1' : s.size = 0 := by omega
    have hH := Lib.hid hl1'
    clear hc hl1' hb
    go_enter Tryd.func38, Tryd.ntmps38
    go_wp2
    go_ret2
    exact ⟨by rw [hv.out, hz.out]; rfl, Below.refl _ _⟩
  have h0 : 0 < s.size := by omega
  have hne : ¬ byt s 0 = 45 := by
    rcases hc with h | h
    · omega
    · exact h.2
  clear hc
  by_cases hl2 : 16 < s.size
  · have hv := Lib.hid (rdB_len HD.out (by omega))
    have hz := Lib.hid (rdV_no hv.out)
    go_enter Tryd.func38, Tryd.ntmps38
    go_wp2
    go_ret2
    exact ⟨by rw [hv.out, hz.out]; rfl, Below.refl _ _⟩
  have hbd := get_bt s
  go_enter Tryd.func38, Tryd.ntmps38
  go_wp2
  go_loop [5, 6] (fun nv iv => ∃ k : Nat, k ≤ s.size ∧ iv = .int .i64 k ∧ ∃ y : Int, 0 ≤ y ∧ y < 10000000000000000 ∧ nv = .int .i64 y ∧ Hid (y = dvI s k ∧ dvOk s k = true)) (fun _ iv => s.size - (intOf iv).toNat)
  case atStart => exact ⟨0, Nat.zero_le _, rfl, 0, by omega, by omega, rfl, Lib.hid ⟨rfl, rfl⟩⟩
  case round =>
    obtain ⟨k, hk, rfl, y, hy0, hy1, rfl, Hy⟩ := hrel
    by_cases hkl : k < s.size
    · have hby := byt_bd s k
      by_cases hd1 : byt s k < 48
      · have hv := Lib.hid (rdB_dig HD.out (dv_no hkl (.inl hd1)))
        have hz := Lib.hid (rdV_no hv.out)
        go_wp2
        go_ret2
        exact ⟨by rw [hv.out, hz.out]; rfl, Below.refl _ _⟩
      by_cases hd2 : 57 < byt s k
      · have hv := Lib.hid (rdB_dig HD.out (dv_no hkl (.inr hd2)))
        have hz := Lib.hid (rdV_no hv.out)
        go_wp2
        go_ret2
        exact ⟨by rw [hv.out, hz.out]; rfl, Below.refl _ _⟩
      have hst := dv_step hkl (by omega) (by omega)
      have hnx := Lib.hid (show 10 * y + (byt s k - 48) = dvI s (k + 1) ∧ dvOk s (k + 1) = true by rw [hst.1, hst.2, Hy.out.1]; exact ⟨rfl, Hy.out.2⟩)
      have hnb := dv_bd (s := s) (k := k + 1) (by omega) hnx.out.2
      rw [← hnx.out.1] at hnb
      clear hst
      go_wp2
      go_round
      case rel => exact ⟨k + 1, by omega, by go_num, 10 * y + (byt s k - 48), hnb.1, hnb.2, rfl, hnx⟩
      case measure => simp [intOf]; omega
    · obtain ⟨hke⟩ : Nonempty (k = s.size) := ⟨by omega⟩
      rw [hke] at Hy
      have hal := dv_all (s := s)
      have hin := Lib.hid (rdIn_yes HD.out (by omega) (by omega) (hal.2.symm.trans Hy.out.2))
      have hnum := Lib.hid (show rdNum s.data.toList = y by rw [HN.out, ← HD.out, ← hal.1, Hy.out.1])
      clear hal hke
      cases hrg : inB (y) (-1000000000000000) 1000000000000000
      · have hv := Lib.hid (rdB_in hin.out (by rw [hnum.out]; exact hrg))
        have hz := Lib.hid (rdV_no hv.out)
        go_wp2_with (go_at_call 49; refine (specIn _ _ _ _ (by assumption) _).mono ?_; rintro e w' ⟨rfl, rfl⟩)
        go_ret2
        exact ⟨by rw [hv.out, hz.out]; rfl, Below.refl _ _⟩
      · have hrb := Lib.hid (rdB_at hin.out (by rw [hnum.out]; exact hrg))
        by_cases heq : dS (y) = s
        · have hv := Lib.hid (show rdB s = true by rw [hrb.out, hnum.out, heq]; simp)
          have hz := Lib.hid (show rdV s = y by rw [rdV_yes hv.out, hnum.out])
          have heq' := Lib.hid heq
          have hs1 : (Lib.itoa (y) == s.toList) = true := (itoaB _ _).trans (by rw [heq]; simp)
          clear heq
          go_wp2_with (first
            | (go_at_call 49; refine (specIn _ _ _ _ (by assumption) _).mono ?_; rintro e w' ⟨rfl, rfl⟩)
            | (go_at_call 30; refine (specDec _ (by omega) (by omega) _).mono ?_; rintro e w1 ⟨rfl, hb1⟩))
          go_ret2
          exact ⟨by rw [hv.out, hz.out]; rfl, hb1⟩
        · have hv := Lib.hid (show rdB s = false by rw [hrb.out, hnum.out]; simpa using heq)
          have hz := Lib.hid (rdV_no hv.out)
          have hs1 : (Lib.itoa (y) == s.toList) = false := (itoaB _ _).trans (by simpa using heq)
          clear heq
          go_wp2_with (first
            | (go_at_call 49; refine (specIn _ _ _ _ (by assumption) _).mono ?_; rintro e w' ⟨rfl, rfl⟩)
            | (go_at_call 30; refine (specDec _ (by omega) (by omega) _).mono ?_; rintro e w1 ⟨rfl, hb1⟩))
          go_ret2
          exact ⟨by rw [hv.out, hz.out]; rfl, hb1⟩

theorem specValue (s : ByteArray) (hs : s.size ≤ maxLen) (w : World) :
    Calls Tryd.prog 38 #[.string s] w fun e w' => e = .returned (.tuple #[.int .i64 (rdV s), .bool (rdB s)]) ∧ Below w.heap.size w w' := by
  by_cases h : 0 < s.size ∧ byt s 0 = 45
  · exact specValue_m s hs w h.1 h.2
  · exact specValue_p s hs w h
end Go.Proofs.YthomdggbmjknnaaDoor
