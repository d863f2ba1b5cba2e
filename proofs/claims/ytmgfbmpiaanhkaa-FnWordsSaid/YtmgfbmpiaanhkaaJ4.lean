/- The law of words, walked: it returns true. -/
import Derived.Test.YtmgfbmpiaanhkaaM3
import Derived.Test.YtmgfbmpiaanhkaaR2
import Derived.Test.YtmgfbmpiaanhkaaI0
import Derived.Test.YtmgfbmpiaanhkaaA4
namespace Go.Proofs.Ytmgfbmpiaanhkaa
open Go.RowKit
set_option linter.unusedVariables false

theorem lawNums {P Q : Nat → Prop} {va vb : Value} {xs : List Int} {w : World} (ha : Rd rI P w va xs) (hb : Rd rI Q w vb xs) :
    Calls Try.prog 40 #[va, vb] w fun e w' => e = .returned (.bool true) ∧ ∃ n, w.drewN n = w' := by
  obtain ⟨a, c, rfl, h1, h2, hrd⟩ := ha
  obtain ⟨a', c', rfl, h1', h2', hrd'⟩ := hb
  have Hrd := Lib.hid hrd; clear hrd
  have Hrd' := Lib.hid hrd'; clear hrd'
  unfold maxLen at h2 h2'
  go_enter Try.func40, Try.ntmps40
  go_wp2
  go_loopw [5] (fun i wr => ∃ (k m : Nat), k ≤ xs.length ∧ i = .int .i64 k ∧ w.drewN m = wr) (fun i _ => xs.length - (intOf i).toNat)
  case atStart => exact ⟨0, 0, Nat.zero_le _, rfl, rfl⟩
  case round =>
    obtain ⟨k, m, hk, rfl, rfl⟩ := hrel
    by_cases hlt : k < xs.length
    · obtain ⟨b, o, u, rfl, hPb, hc, rfl⟩ := Hrd.out k hlt
      obtain ⟨b', o', u', rfl, hPb', hc', rfl⟩ := Hrd'.out k hlt
      go_wp2
      go_quiet (fail)
      go_wp2
      go_roundw
      case rel => exact ⟨k + 1, _, by omega, by go_num, rfl⟩
      case measure => simp [intOf]; omega
    · obtain rfl : k = xs.length := by omega
      go_wp2
      go_ret
      exact ⟨rfl, m, rfl⟩

def basesL : List Int := [10, 2, 11, 16, 36, 7]
theorem bases_ok : ∀ i, i < 6 → 2 ≤ nth basesL i ∧ nth basesL i ≤ 36 := by
  intro i hi
  rcases i with _ | _ | _ | _ | _ | _ | i
  all_goals first | (simp [basesL, nth]; done) | omega
set_option maxRecDepth 10000 in
set_option maxHeartbeats 1600000 in
theorem specB10Digits {B : Nat} {w : World} {v : Value} {zs : List UInt8} (h : Rd rY (· < B) w v zs) (hB : B ≤ w.heap.size) :
    Calls Try.prog 39 #[v] w fun e w' => ∃ (base : Nat) (v' : Value) (xs : List Int), e = .returned (.tuple #[.int .i64 base, v']) ∧ Fresh OI w w' v' xs ∧ (2 ≤ base ∧ base ≤ 36) ∧ xs.length ≤ 11 ∧ ∀ i, i < xs.length → 0 ≤ nth xs i ∧ nth xs i < base := by
  have H := Lib.hid h; clear h
  go_enter Try.func39, Try.ntmps39
  go_wp2_with fail
  refine (srcFrom H.out hB).mono ?_
  rintro e w1 ⟨rfl, hs1, hb1, hz1⟩
  have Hz1 := Lib.hid hz1; clear hz1
  have Hs1 := Lib.hid hs1; clear hs1
  have Hb1 := Lib.hid hb1; clear hb1
  have hlit := Lib.hid (Own.lit w1 2 fI basesL (by unfold maxLen; simp [basesL]))
  have hk1 := Lib.hid (Hs1.out.keep (w' := w1.alloc (.cells (basesL.map fI).toArray 2)) fun k hk => Below.heap_alloc w1 _ k (by have := Hz1.out; omega))
  have hba := Lib.hid (show Below w.heap.size w (w1.alloc (.cells (basesL.map fI).toArray 2)) from Hb1.out.alloc (by have := Hz1.out; omega) _)
  have hlr := Lib.hid (show RdI (· = w1.heap.size) (w1.alloc (.cells (basesL.map fI).toArray 2)) (.slice (some ⟨w1.heap.size, 0, none⟩) 6 6) basesL from hlit.out.rd (by simp))
  have hza : (w1.alloc (.cells (basesL.map fI).toArray 2)).heap.size = w.heap.size + 2 := by have := Hz1.out; simp; omega
  obtain ⟨W2, hW2⟩ : ∃ W2, W2 = w1.alloc (.cells (basesL.map fI).toArray 2) := ⟨_, rfl⟩
  rw [← hW2] at hk1 hba hlr hza
  have Hza := Lib.hid hza; clear hza
  have HW2 := Lib.hid hW2; clear hW2 hlit
  go_wp2_with fail
  have e0 : w1.alloc (.cells #[.int .i64 10, .int .i64 2, .int .i64 11, .int .i64 16, .int .i64 36, .int .i64 7] 2) = W2 := HW2.out.symm
  rw [e0]
  clear e0
  refine (srcAmong hk1.out (by omega) hlr.out (fun k hk => by have h1 := Hz1.out; have h2 := Hza.out; omega) (by simp [basesL]) (by simp [basesL])).mono ?_
  rintro e w3 ⟨⟨i, hi, rfl⟩, hs3, ho3⟩
  obtain ⟨hb2, hb36⟩ := bases_ok i (by simpa [basesL] using hi)
  obtain ⟨base, hbase⟩ := Int.eq_ofNat_of_zero_le (show 0 ≤ nth basesL i by omega)
  rw [hbase] at hb2 hb36 ⊢
  clear hbase hi
  have Hs3 := Lib.hid hs3; clear hs3
  have Hb3 := Lib.hid (below_only hba.out ho3 (by have := Hza.out; omega) (by simp))
  have hz30 := ho3.size
  clear ho3
  have hz3 : w.heap.size + 2 ≤ w3.heap.size := by have := Hza.out; omega
  go_wp2_with fail
  refine (srcPick Hs3.out (by omega) 12 (by omega)).mono ?_
  rintro e w4 ⟨⟨z, hz, rfl⟩, hs4, ho4⟩
  obtain ⟨n, rfl⟩ := Int.eq_ofNat_of_zero_le hz.1
  have hn : n ≤ 11 := by have := hz.2.1 (by omega); omega
  have Hs4 := Lib.hid hs4; clear hs4 hz
  have Hb4 := Lib.hid (below_only Hb3.out ho4 (by omega) (by simp)); clear ho4
  go_wp2_with fail
  refine (srcDigits Hs4.out (by omega) base (by omega) n (by omega)).mono ?_
  rintro e w5 ⟨v5, xs, rfl, hd, hl, hx⟩
  obtain ⟨S, hown, hS⟩ := hd.own
  have hz4 := Hb4.out.size
  have hf := Lib.hid (show Fresh OI w w5 v5 xs from ⟨S, hown, fun k hk => by have := hS k hk; omega, below_only Hb4.out hd.only (by omega) (by simp)⟩)
  have hxx := Lib.hid (show ∀ i, i < xs.length → 0 ≤ nth xs i ∧ nth xs i < base from fun i hi => by
    have := hx _ (nth_mem hi)
    exact ⟨this.1, this.2.1 (by omega)⟩)
  have hll : xs.length ≤ 11 := by omega
  obtain ⟨av, nv, cv, rfl⟩ := hown.isSlice
  clear hown hS hd hl hx
  clear hz4 hz3 hz30 hn Hs4 Hs3 hlr hk1
  go_wp2
  go_ret2
  exact ⟨base, _, xs, rfl, hf.out, ⟨by omega, by omega⟩, hll, hxx.out⟩

theorem rem_word {s : ByteArray} {base m : Int} (h : isWord s base = true) (hm : 1 ≤ m ∧ m ≤ 1000) : isRem s base m = true ∧ remV s base m = wrem s base m s.size := by
  have h1 : isRem s base m = true := by unfold isRem; rw [h, show inB m 1 1000 = true from inB_true.2 hm]; rfl
  exact ⟨h1, by unfold remV; rw [if_pos h1]⟩
theorem symbol_yes {d : Nat} (hd : d < 36) (w : World) :
    Calls Try.prog 41 #[.int .i64 d] w fun e w' => e = .returned (.tuple #[.string ⟨#[symN d]⟩, .bool true]) ∧ w = w' := by
  refine (implSymbolOf (d : Int) w).mono ?_
  rintro e w' ⟨rfl, h⟩
  rw [show inB (d : Int) 0 35 = true from inB_true.2 (by omega)]
  exact ⟨rfl, h⟩
theorem extract_wordS {xs : List Int} {k d : Nat} (hk : k < xs.length) (hd : nth xs k = Int.ofNat d) : (wordS xs).extract k (k + 1) = ⟨#[symN d]⟩ := by
  refine ba_ext ?_
  have hk2 : k < (syms xs).length := by rw [syms_length]; exact hk
  have h : (syms xs)[k] = symN d := by
    rw [nth_eq hk] at hd
    simp [syms, hd]
  rw [ByteArray.data_extract]
  show ((syms xs).toArray.extract k (k + 1)).toList = [symN d]
  rw [List.extract_toArray]
  simp [List.extract_eq_take_drop]
  rw [List.drop_eq_getElem_cons hk2, h]
  rfl
set_option maxRecDepth 100000 in
set_option maxHeartbeats 1600000 in
theorem lawWords (w : World) (v0 : Value) (z0 : List UInt8) (r0 : Rd rY (· < w.heap.size) w v0 z0) (v1 : Value) (z1 : List UInt8) (r1 : Rd rY (· < w.heap.size) w v1 z1) :
    Calls Try.prog 11 #[v0, v1] w fun e w' => e = .returned (.bool true) ∧ Below w.heap.size w w' := by
  have R0 := Lib.hid r0; clear r0
  have R1 := Lib.hid r1; clear r1
  cases hb : longB z0.length z1.length
  rotate_left
  · have HB := Lib.hid hb; clear hb
    go_enter Try.func11, Try.ntmps11
    go_wp2_with fail
    refine (lawLong R0.out R1.out _ HB.out).mono ?_
    rintro e w' ⟨rfl, rfl⟩
    go_wp2
    go_ret
    exact ⟨rfl, Below.refl _ _⟩
  have HB := Lib.hid hb; clear hb
  go_enter Try.func11, Try.ntmps11
  go_wp2_with fail
  refine (lawLong R0.out R1.out _ HB.out).mono ?_
  rintro e w' ⟨rfl, rfl⟩
  go_wp2_with fail
  refine (specB10Digits R0.out (Nat.le_refl _)).mono ?_
  rintro e w1 ⟨base, v, xs, rfl, hf, hbb, hl, hx⟩
  have Hx := Lib.hid hx; clear hx
  have Hr := Lib.hid (show RdI (· < w1.heap.size) w1 v xs from hf.rd OI.leads OI.ok)
  have Hb1 := Lib.hid hf.bel; clear hf
  have hd := Lib.hid (isDigits_yes (xs := xs) (base := base) (by omega) (by omega) Hx.out)
  have hw := Lib.hid (isWord_wordS (xs := xs) (base := base) (by omega) (by omega) Hx.out)
  have hdo := Lib.hid (digitsOf_wordS (xs := xs) (base := base) (by omega) (by omega) Hx.out)
  have hwv := Lib.hid (show wordOfV xs base = wordS xs by unfold wordOfV; rw [if_pos hd.out])
  have hsz := Lib.hid (wordS_size xs)
  obtain ⟨a1, c1, rfl, p1, p2⟩ : ∃ a c, v = .slice a xs.length c ∧ xs.length ≤ c ∧ c ≤ maxLen := by obtain ⟨a, c, h1, h2, h3, _⟩ := Hr.out; exact ⟨a, c, h1, h2, h3⟩
  unfold maxLen at p2
  have hln : (((wordS xs).size : Int) != (xs.length : Int)) = false := by rw [hsz.out]; simp
  go_wp2_with fail
  refine (implWordOfX Hr.out (Nat.le_refl _) base (by omega)).mono ?_
  rw [hwv.out, hd.out]
  rintro e w2 ⟨rfl, hb2⟩
  have Hr2 := Lib.hid (Rd.below RdI.ok Hr.out hb2)
  have hz12 := hb2.size
  have Hb2 := Lib.hid (Hb1.out.trans (hb2.mono Hb1.out.size)); clear hb2
  go_wp2_with fail
  refine (implDigitsOf (wordS xs) base _ (by rw [hsz.out]; omega)).mono ?_
  rw [hdo.out, hw.out]
  rintro e w3 ⟨v3, rfl, hf3⟩
  have Hr3 := Lib.hid (show RdI (· < w3.heap.size) w3 v3 xs from hf3.rd OI.leads OI.ok)
  have Hr2' := Lib.hid (RdI.ok.keep Hr2.out fun k hk => hf3.bel.block k (by omega))
  have hz23 := hf3.bel.size
  have Hb3 := Lib.hid (Hb2.out.trans (hf3.bel.mono Hb2.out.size)); clear hf3
  obtain ⟨a3, c3, rfl, p3, p4⟩ : ∃ a c, v3 = .slice a xs.length c ∧ xs.length ≤ c ∧ c ≤ maxLen := by obtain ⟨a, c, h1, h2, h3, _⟩ := Hr3.out; exact ⟨a, c, h1, h2, h3⟩
  unfold maxLen at p4
  go_wp2_with fail
  refine (lawAt ((Rd.ok rleaf.ok).keep R1.out fun k hk => Hb3.out.block k hk) 0 200 (by omega) (by omega) (by omega)).mono ?_
  rintro e w' ⟨⟨s, hs, rfl⟩, rfl⟩
  obtain ⟨m, rfl⟩ : ∃ m : Nat, s = (m : Int) - 1 := ⟨(s + 1).toNat, by have := hs.1; omega⟩
  have hm1 : 1 ≤ m := by have := hs.1; omega
  have hm2 : m ≤ 200 := by have := hs.2.1 (by omega); omega
  clear hs
  have hm4 : (1 : Int) + ((m : Int) - 1) = m := by omega
  have hre := Lib.hid (rem_word (m := m) hw.out (by omega))
  have hwr := Lib.hid (wrem_wordS (xs := xs) (fun i hi => by have := Hx.out i hi; omega) base m)
  go_wp2_with fail
  refine (implWordRemainder (wordS xs) base m (by rw [hsz.out]; omega) _).mono ?_
  rw [hre.out.1, hre.out.2, hwr.out]
  rintro e w4 ⟨rfl, hb4⟩
  have Hr4 := Lib.hid (Rd.below RdI.ok Hr3.out hb4)
  have Hr4' := Lib.hid (RdI.ok.keep Hr2'.out fun k hk => hb4.block k (by omega))
  have hz34 := hb4.size
  have Hb4 := Lib.hid (Hb3.out.trans (hb4.mono Hb3.out.size)); clear hb4
  clear hm4
  go_wp2_with fail
  refine (lawNums Hr4.out Hr4'.out).mono ?_
  rintro e w5 ⟨rfl, n5, rfl⟩
  go_wp2_with fail
  refine (implIsWordOf (wordS xs) base _ (by rw [hsz.out]; omega)).mono ?_
  rw [hw.out]
  rintro e w6 ⟨rfl, hb6⟩
  have Hb6 := Lib.hid (show Below w.heap.size w w6 from ((⟨Hb4.out.os, Hb4.out.tape, Hb4.out.output, Hb4.out.size, Hb4.out.block⟩ : Below w.heap.size w (w4.drewN n5))).trans (hb6.mono (show w.heap.size ≤ w4.heap.size from Hb4.out.size)))
  have Hr6 := Lib.hid (show RdI (· < w1.heap.size) w6 (.slice a1 xs.length c1) xs from RdI.ok.keep Hr4'.out fun k hk => hb6.block k (show k < w4.heap.size by omega))
  clear hb6
  go_wp2_with fail
  go_loop [14, 15] (fun sv iv => ∃ k : Nat, k ≤ xs.length ∧ iv = .int .i64 k ∧ sv = .int .i64 (wfold xs base m k)) (fun _ iv => xs.length - (intOf iv).toNat)
  case atStart => exact ⟨0, Nat.zero_le _, rfl, rfl⟩
  case round =>
    obtain ⟨k, hk, rfl, rfl⟩ := hrel
    by_cases hlt : k < xs.length
    · obtain ⟨b3, o3, u3, rfl, _, hc3, rfl⟩ := Rd.elim Hr6.out k hlt
      obtain ⟨d, hdn⟩ := Int.eq_ofNat_of_zero_le (Hx.out k hlt).1
      have hdb : d < base := by have := (Hx.out k hlt).2; omega
      have hc4 : w6.cell? ⟨b3, o3 + k, none⟩ = some (.int .i64 (d : Int)) := by rw [← hdn]; exact hc3
      have hwb := wfold_bd xs base (m := m) (by omega) k
      have hws := Lib.hid (show wfold xs base m (k + 1) = (wfold xs base m k * base + d) % m by rw [wfold_succ, hdn])
      have hmb : wfold xs base m k * base ≤ 200 * 36 := Int.mul_le_mul (by omega) (by omega) (by omega) (by omega)
      have hmb0 : 0 ≤ wfold xs base m k * base := Int.mul_nonneg hwb.1 (by omega)
      have hsy := Lib.hid (fun w => symbol_yes (d := d) (by omega) w)
      have hex : (wordS xs).extract k (k + 1) = ⟨#[symN d]⟩ := extract_wordS hlt hdn
      have hk1 : k + 1 ≤ (wordS xs).size := by rw [hsz.out]; omega
      have hk2 : (k : Int) + 1 ≤ ((wordS xs).size : Int) := by omega
      clear hc3 hdn
      generalize wfold xs base m k = F at *
      go_wp2_with fail
      refine (Calls.mono (hsy.out _) ?_)
      rintro e w' ⟨rfl, rfl⟩
      go_wp2
      go_round
      case rel => exact ⟨k + 1, by omega, by go_num, by rw [hws.out]⟩
      case measure => simp [intOf]; omega
    · obtain rfl : k = xs.length := by omega
      go_wp2
      go_ret
      exact ⟨by simp, Hb6.out⟩
end Go.Proofs.Ytmgfbmpiaanhkaa
