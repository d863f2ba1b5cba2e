/- ListText: the text of a list, on both sides. -/
import Derived.Test.YthomdggbmjknnaaDoorDc2
import Derived.Test.YthomdggbmjknnaaDoorDc4
namespace Go.Proofs.YthomdggbmjknnaaDoor
open Go.RowKit
set_option linter.unusedVariables false

theorem infoStr : (Tryd.prog.info? 9).map (fun i => (i.zero, i.size, i.bytes)) = some (some (.string ⟨#[]⟩), 1, 16) := by kernel_rfl
def dS (n : Int) : ByteArray := ⟨(Lib.itoa n).toArray⟩
theorem dS_size {n : Int} (h0 : -9223372036854775808 ≤ n) (h1 : n ≤ 9223372036854775807) : (dS n).size ≤ 21 := by
  show (Lib.itoa n).toArray.size ≤ 21
  have h := dec_len (u := n.natAbs) (by omega)
  rw [List.size_toArray, Lib.itoa]
  split
  · simp; omega
  · rw [show n.toNat = n.natAbs by omega]; omega
def ltTo (xs : List Int) : Nat → ByteArray
  | 0 => ⟨#[]⟩
  | k + 1 => (if 0 < k then ltTo xs k ++ ⟨#[32]⟩ else ltTo xs k) ++ dS (nth xs k)
theorem ltTo_one {t : List Int} {k : Nat} (h : ¬ 0 < k) : ltTo t (k + 1) = ltTo t k ++ dS (nth t k) := by simp [ltTo, h]
theorem ltTo_more {t : List Int} {k : Nat} (h : 0 < k) : ltTo t (k + 1) = ltTo t k ++ ⟨#[32]⟩ ++ dS (nth t k) := by simp [ltTo, h]
def ltV (xs : List Int) : ByteArray := if xs.length = 0 then ⟨#[110, 111, 110, 101]⟩ else ltTo xs xs.length
theorem ltTo_list (x : Int) (r : List Int) (k : Nat) (hk : k ≤ r.length) :
    (ltTo (x :: r) (k + 1)).data.toList = Lib.itoa x ++ Lib.joinTail [32] ((r.map Lib.itoa).take k) := by
  induction k with
  | zero => simp [ltTo, dS, nth, Lib.joinTail]
  | succ k ih =>
    have e : (r.map Lib.itoa)[k]? = some (Lib.itoa (nth (x :: r) (k + 1))) := by
      rw [List.getElem?_map, List.getElem?_eq_getElem (by omega)]
      rw [nth_eq (by simp; omega)]; simp
    rw [ltTo_more (by omega), Lib.joinTail_take_succ _ _ _ _ e]
    have h := ih (by omega)
    simp only [ByteArray.data_append, Array.toList_append, h, dS, List.append_assoc]
theorem lt_join {t : List Int} (h : 1 ≤ t.length) :
    Lib.join ((t.map dS).map (·.data.toList)) [32] = (ltTo t t.length).data.toList := by
  obtain ⟨x, r, rfl⟩ : ∃ x r, t = x :: r := by
    cases t with
    | nil => simp at h
    | cons a t => exact ⟨a, t, rfl⟩
  have e : ((x :: r).map dS).map (·.data.toList) = Lib.itoa x :: r.map Lib.itoa := by simp [dS, Function.comp_def]
  rw [e, Lib.join_cons, List.length_cons, ltTo_list x r r.length (Nat.le_refl _), List.take_of_length_le (by simp)]
theorem lt_size {t : List Int} (h : ∀ i, i < t.length → -9223372036854775808 ≤ nth t i ∧ nth t i ≤ 9223372036854775807) (k : Nat) (hk : k ≤ t.length) : (ltTo t k).size ≤ 22 * k := by
  induction k with
  | zero => simp [ltTo]; rfl
  | succ k ih =>
    have h1 := ih (by omega)
    have h2 := dS_size (h k (by omega)).1 (h k (by omega)).2
    by_cases h0 : 0 < k
    · rw [ltTo_more h0, ByteArray.size_append, ByteArray.size_append]
      have : (⟨#[32]⟩ : ByteArray).size = 1 := rfl
      omega
    · rw [ltTo_one h0, ByteArray.size_append]; omega

theorem specL01Text {B : Nat} {v : Value} {t : List Int} {w : World} (h : RdI (· < B) w v t) (hB : B ≤ w.heap.size) (hn : t.length ≤ 40) (hb : ∀ i, i < t.length → -9223372036854775808 ≤ nth t i ∧ nth t i ≤ 9223372036854775807) :
    Calls Tryd.prog 33 #[v] w fun e w' => e = .returned (.string (ltV t)) ∧ Below w.heap.size w w' := by
  have h0 := Lib.hid h
  obtain ⟨a, c, rfl, h1, h2⟩ := Rd.isSlice' h
  have Hb := Lib.hid hb
  have Hsz := Lib.hid (fun k hk => lt_size (t := t) hb k hk)
  clear h hb
  unfold maxLen at h2
  go_enter Tryd.func33, Tryd.ntmps33
  go_wp2
  go_loopw [3, 4] (fun s i wr => ∃ k : Nat, k ≤ t.length ∧ i = .int .i64 k ∧ s = .string (ltTo t k) ∧ Below w.heap.size w wr) (fun _ i _ => t.length - (intOf i).toNat)
  case atStart => exact ⟨0, Nat.zero_le _, rfl, rfl, Below.refl _ _⟩
  case round =>
    obtain ⟨k, hk, rfl, rfl, hbel⟩ := hrel
    have Hbel := Lib.hid hbel
    have hsz := Hsz.out k hk
    by_cases hlt : k < t.length
    · obtain ⟨a', c', e, g1, g2, hrd⟩ := Rd.below RdI.ok h0.out (hbel.mono hB)
      obtain ⟨b, o, u, e2, hPb, hc, rfl⟩ := hrd k hlt
      simp only [Value.slice.injEq] at e
      obtain ⟨rfl, _, rfl⟩ := e
      subst e2
      have hd1 := (Hb.out k hlt).1
      have hd2 := (Hb.out k hlt).2
      have hBw := hbel.size
      have hz2 : (⟨(Lib.itoa (nth t k)).toArray⟩ : ByteArray).size ≤ 21 := dS_size hd1 hd2
      clear hrd hbel
      by_cases h0k : 0 < k
      · have hs := Lib.hid (ltTo_more (t := t) h0k)
        have hz1 : (ltTo t k ++ ⟨#[32]⟩).size ≤ 2000 := by rw [ByteArray.size_append]; have : (⟨#[32]⟩ : ByteArray).size = 1 := rfl; omega
        go_wp2_with (go_at_call 30; refine (specDec (nth t k) hd1 hd2 _).mono ?_; rintro e w1 ⟨rfl, hb1⟩)
        go_roundw
        case rel => exact ⟨k + 1, by omega, by go_num, by rw [hs.out]; rfl, Hbel.out.trans (hb1.mono hBw)⟩
        case measure => simp [intOf]; omega
      · have hs := Lib.hid (ltTo_one (t := t) h0k)
        go_wp2_with (go_at_call 30; refine (specDec (nth t k) hd1 hd2 _).mono ?_; rintro e w1 ⟨rfl, hb1⟩)
        go_roundw
        case rel => exact ⟨k + 1, by omega, by go_num, by rw [hs.out]; rfl, Hbel.out.trans (hb1.mono hBw)⟩
        case measure => simp [intOf]; omega
    · obtain rfl : k = t.length := by omega
      clear hbel
      by_cases hz : t.length = 0
      · have hv := Lib.hid (show ltV t = ⟨#[110, 111, 110, 101]⟩ by simp [ltV, hz])
        go_wp2
        go_ret
        exact ⟨by rw [hv.out]; rfl, Hbel.out⟩
      · have hv := Lib.hid (show ltV t = ltTo t t.length by simp [ltV, hz])
        go_wp2
        go_ret
        exact ⟨by rw [hv.out]; rfl, Hbel.out⟩
end Go.Proofs.YthomdggbmjknnaaDoor
