/- The laws' small functions over [][][]int64. Printed by gen_h.py. -/
import Derived.Test.YtnpkanlieflbiaaH2
namespace Go.Proofs.Ytnpkanlieflbiaa
open Go.RowKit
set_option linter.unusedVariables false

/-! ### Int64SSS -/
theorem toInt64SSS {P : Nat → Prop} {v : Value} {xs : List (List (List Int))} {w : World} (h : RdIII P w v xs) (hP : ∀ k, P k → k < w.heap.size) (hn : szL (szL List.length) xs ≤ 1048576) :
    Calls Try.prog 102 #[v] w fun e w' => ∃ v', e = .returned v' ∧ Fresh OIII w w' v' xs := by
  obtain ⟨a, c, rfl, h1, h2, hrd⟩ := h
  have hlen : xs.length ≤ 1048576 := Nat.le_trans (szL_len (szL List.length) xs) hn
  have hmk := run_make_row' (P := Try.prog) 26 38 (.slice none 0 0) 24 Try.underlying26 infoSl2 rfl .i64 .i64 xs.length (by omega) (by omega)
  have Hrd := Lib.hid hrd; clear hrd
  go_enter Try.func102, Try.ntmps102
  go_wp2
  go_loopw [4] (fun i wr => ∃ (k : Nat) (ys : List (List (List Int))) (S : List Nat), k ≤ xs.length ∧ i = .int .i64 k ∧ Hid (ys.length = xs.length ∧ ∀ j, j < k → nth ys j = nth xs j) ∧
      OIII wr (.slice (some ⟨w.heap.size, 0, none⟩) xs.length xs.length) ys S ∧ Below w.heap.size w wr ∧ Hid (∀ j ∈ S, w.heap.size ≤ j)) (fun i _ => xs.length - (intOf i).toNat)
  case atStart => exact ⟨0, List.replicate xs.length [], _, Nat.zero_le _, rfl, Lib.hid ⟨by simp, fun _ h => absurd h (Nat.not_lt_zero _)⟩, Own.madeR w _ own_nil _ (by unfold maxLen at h2 ⊢; omega), (Below.refl _ _).alloc (Nat.le_refl _) _, Lib.hid (by simp)⟩
  case round =>
    obtain ⟨k, ys, S, hk, rfl, hys, hown, hbel, hS⟩ := hrel
    by_cases hlt : k < xs.length
    · obtain ⟨b, o, u, rfl, hPb, hc, hu⟩ := Hrd.out k hlt
      have hly := hys.out.1
      have hc1 : wr.cell? ⟨b, o + k, none⟩ = some u := (hbel.cell (hP b hPb)).trans hc
      have hu1 := Lib.hid (RdII.ok.keep hu fun j hj => hbel.block j (hP j hj))
      have hPr := Lib.hid (fun j (hj : P j) => Nat.lt_of_lt_of_le (hP j hj) hbel.size)
      have hszk := Lib.hid (Nat.le_trans (szL_nth (szL List.length) hlt) hn)
      have hys2 := Lib.hid (show (ys.set k (nth xs k)).length = xs.length ∧ ∀ j, j < k + 1 → nth (ys.set k (nth xs k)) j = nth xs j from
        ⟨by simpa using hly, fun j hj => by
          rw [nth_set (by omega)]
          split
          · rename_i e; rw [e]
          · exact hys.out.2 j (by omega)⟩)
      have Hown := Lib.hid hown
      have Hbel := Lib.hid hbel
      have hlty : k < ys.length := by omega
      clear hly hown hbel hys hc hu
      go_wp2_with fail
      refine (toInt64SSx hu1.out hPr.out hszk.out).mono ?_
      rintro e w1 ⟨v1, rfl, T, hT, hT2, hb1⟩
      obtain ⟨av, nv, cv, rfl⟩ := hT.isSlice
      have hown1 := Own.below OII.ok Hown.out hb1
      have hf2 := hown1.frozen k
      obtain ⟨u2, T2, hc2, _⟩ := hown1.at hlty
      obtain ⟨S', hp, hS'⟩ := hown1.putR OII.ok hlty hT (fun j hj hm => by have h1 := hT2 j hj; have h2 := OIII.ok.lt Hown.out j hm; omega)
      have Hp := Lib.hid hp
      have HS' := Lib.hid (show ∀ j ∈ S', w.heap.size ≤ j from fun j hj => by
        rcases hS' j hj with h | h
        · exact hS.out j h
        · exact Nat.le_trans Hbel.out.size (hT2 j h))
      have hb2 := Lib.hid (Hbel.out.trans (hb1.mono Hbel.out.size))
      clear hp hS' hT hT2 hb1 hown1
      go_wp2
      go_roundw
      case rel => exact ⟨k + 1, _, S', by omega, by go_num, hys2, Hp.out, hb2.out.setCell (Nat.le_refl _) _, HS'⟩
      case measure => simp [intOf]; omega
    · obtain rfl : k = xs.length := by omega
      have e : ys = xs := ext_nth hys.out.1 (fun i hi => hys.out.2 i (by have := hys.out.1; omega))
      subst e
      go_wp2
      go_ret
      exact ⟨_, rfl, S, hown, hS.out, hbel⟩
theorem toInt64SSSx {P : Nat → Prop} {v : Value} {xs : List (List (List Int))} {w : World} (h : RdIII P w v xs) (hP : ∀ k, P k → k < w.heap.size) (hn : szL (szL List.length) xs ≤ 1048576) :
    Calls Try.prog 102 #[v] w fun e w' => ∃ v', e = .returned v' ∧ Fresh OIII w w' v' xs := toInt64SSS h hP hn

theorem szInt64SSS {P : Nat → Prop} {v : Value} {xs : List (List (List Int))} {w : World} (h : RdIII P w v xs) (left : Int) (hl : 0 ≤ left) (hl2 : left ≤ 1048576) :
    Calls Try.prog 100 #[v, .int .i64 left] w fun e w' => e = .returned (.int .i64 (szR (szL (szL List.length) xs) left)) ∧ w = w' := by
  obtain ⟨a, c, rfl, h1, h2, hrd⟩ := h
  have Hrd := Lib.hid hrd; clear hrd
  unfold maxLen at h2
  by_cases hle : (xs.length : Int) ≤ left
  · go_enter Try.func100, Try.ntmps100
    go_wp2
    go_loop [1, 5] (fun x i => ∃ k : Nat, k ≤ xs.length ∧ i = .int .i64 k ∧ x = .int .i64 (left - xs.length - (cntL (szL List.length) (xs.take k) : Nat)) ∧ (cntL (szL List.length) (xs.take k) : Int) ≤ left - xs.length) (fun _ i => xs.length - (intOf i).toNat)
    case atStart => exact ⟨0, Nat.zero_le _, rfl, by simp [cntL], by simp [cntL]; omega⟩
    case round =>
      obtain ⟨k, hk, rfl, rfl, hle2⟩ := hrel
      by_cases hlt : k < xs.length
      · obtain ⟨b, o, u, rfl, hPb, hc, hu⟩ := Hrd.out k hlt
        have hst := cntL_take_succ (szL List.length) hlt
        have Hu := Lib.hid hu; clear hu
        generalize hC : cntL (szL List.length) (xs.take k) = C at hle2 hst ⊢
        by_cases hle3 : ((szL List.length) (nth xs k) : Int) ≤ left - xs.length - C
        · have hr := szR_yes hle3
          generalize hD : (szL List.length) (nth xs k) = D at hst hle3 hr
          go_wp2_with fail
          refine (szInt64SS Hu.out _ (by omega) (by omega)).mono ?_
          rw [hD, hr]
          rintro e w' ⟨rfl, rfl⟩
          go_wp2
          go_round
          case rel => exact ⟨k + 1, by omega, by go_num, by go_num, by omega⟩
          case measure => simp [intOf]; omega
        · have hr := szR_no (n := (szL List.length) (nth xs k)) (left := left - xs.length - C) (by omega)
          have hr2 := Lib.hid (szR_no (n := szL (szL List.length) xs) (left := left) (by have := szL_take (szL List.length) hlt; rw [hC] at this; omega))
          generalize hD : (szL List.length) (nth xs k) = D at hst hle3 hr
          go_wp2_with fail
          refine (szInt64SS Hu.out _ (by omega) (by omega)).mono ?_
          rw [hD, hr]
          rintro e w' ⟨rfl, rfl⟩
          go_wp2
          go_ret
          exact ⟨ret_int' (by rw [hr2.out]), rfl⟩
      · obtain rfl : k = xs.length := by omega
        rw [List.take_length] at hle2 ⊢
        have hr := Lib.hid (show szR (szL (szL List.length) xs) left = left - xs.length - (cntL (szL List.length) xs : Nat) by rw [szR_yes (by rw [szL_eq]; omega)]; rw [szL_eq]; omega)
        go_wp2
        go_ret
        exact ⟨ret_int' (by rw [hr.out]), rfl⟩
  · have hr := Lib.hid (szR_no (n := szL (szL List.length) xs) (left := left) (by have := szL_len (szL List.length) xs; omega))
    go_enter Try.func100, Try.ntmps100
    go_wp2
    go_ret
    exact ⟨ret_int' (by rw [hr.out]), rfl⟩

theorem eqInt64SSS {P Q : Nat → Prop} {va vb : Value} {xs : List (List (List Int))} {w : World} (ha : RdIII P w va xs) (hb : RdIII Q w vb xs) :
    Calls Try.prog 63 #[va, vb] w fun e w' => e = .returned (.bool true) ∧ ∃ n, w.drewN n = w' := by
  obtain ⟨a, c, rfl, h1, h2, hrd⟩ := ha
  obtain ⟨a', c', rfl, h1', h2', hrd'⟩ := hb
  have Hrd := Lib.hid hrd; clear hrd
  have Hrd' := Lib.hid hrd'; clear hrd'
  unfold maxLen at h2 h2'
  go_enter Try.func63, Try.ntmps63
  go_wp2
  go_loopw [5] (fun i wr => ∃ (k m : Nat), k ≤ xs.length ∧ i = .int .i64 k ∧ Hid (w.drewN m = wr)) (fun i _ => xs.length - (intOf i).toNat)
  case atStart => exact ⟨0, 0, Nat.zero_le _, rfl, Lib.hid rfl⟩
  case round =>
    obtain ⟨k, m, hk, rfl, hm⟩ := hrel
    by_cases hlt : k < xs.length
    · obtain ⟨b, o, u, rfl, hPb, hc, hu⟩ := Hrd.out k hlt
      obtain ⟨b', o', u', rfl, hPb', hc', hu'⟩ := Hrd'.out k hlt
      have Hu := Lib.hid (RdII.ok.keep (w' := wr) hu fun _ _ => by rw [← hm.out]; rfl)
      have Hu' := Lib.hid (RdII.ok.keep (w' := wr) hu' fun _ _ => by rw [← hm.out]; rfl)
      have hc1 : wr.cell? ⟨b, o + k, none⟩ = some u := by rw [← hm.out]; exact hc
      have hc1' : wr.cell? ⟨b', o' + k, none⟩ = some u' := by rw [← hm.out]; exact hc'
      clear hu hu' hc hc'
      go_wp2
      go_quiet ((go_at_call 45; exact quiet_draws (eqInt64SS (RdII.ok.keep Hu.out fun _ _ => rfl) (RdII.ok.keep Hu'.out fun _ _ => rfl))))
      go_wp2
      go_roundw
      case rel => exact ⟨k + 1, _, by omega, by go_num, Lib.hid (draws_more hm.out _)⟩
      case measure => simp [intOf]; omega
    · obtain rfl : k = xs.length := by omega
      go_wp2
      go_ret
      exact ⟨rfl, m, hm.out⟩

theorem markInt64SSS {v : Value} {xs : List (List (List Int))} {S : List Nat} {w : World} {k : Int} (h : OIII w v xs S) (hk : 0 ≤ k) (hk2 : k + cntL (cntL List.length) xs ≤ 4611686018427387904) :
    Calls Try.prog 66 #[v, .int .i64 k] w fun e w' => e = .returned (.int .i64 (k + cntL (cntL List.length) xs)) ∧ OIII w' v (mkS3 k xs) S ∧ Only S w w' := by
  rcases h.shape with ⟨rfl, rfl⟩ | ⟨g, c, rfl, hg⟩
  · go_enter Try.func66, Try.ntmps66
    go_wp2
    refine wp_loop_rounds 1 ?_
    rw [rounds_succ]
    go_wp2
    go_ret
    exact ⟨ret_int' (by simp [cntL]), by simpa [mkL] using h, Only.refl _ _⟩
  · have hl := h.len
    have hl3 := hl.2.2
    unfold maxLen at hl3
    go_enter Try.func66, Try.ntmps66
    go_wp2
    go_loopw [1, 5] (fun x i wr => ∃ (j : Nat) (ys : List (List (List Int))), j ≤ xs.length ∧ i = .int .i64 j ∧ x = .int .i64 (k + (cntL (cntL List.length) (xs.take j) : Nat)) ∧
        Hid (ys.length = xs.length ∧ (∀ i, i < j → nth ys i = mkS2 (k + (cntL (cntL List.length) (xs.take i) : Nat)) (nth xs i)) ∧ ∀ i, j ≤ i → i < xs.length → nth ys i = nth xs i) ∧
        OIII wr (.slice (some ⟨g, 0, none⟩) xs.length c) ys S ∧ Only S w wr) (fun _ i _ => xs.length - (intOf i).toNat)
    case atStart => exact ⟨0, xs, Nat.zero_le _, rfl, by simp [cntL], Lib.hid ⟨rfl, fun _ h => absurd h (Nat.not_lt_zero _), fun _ _ _ => rfl⟩, h, Only.refl _ _⟩
    case round =>
      obtain ⟨j, ys, hj, rfl, rfl, hys, hown, honly⟩ := hrel
      by_cases hlt : j < xs.length
      · have hly := hys.out.1
        obtain ⟨u, T, hc, hu, hT, hput⟩ := hown.turnAt OII.ok (i := j) (by omega)
        have hst := cntL_take_succ (cntL List.length) hlt
        have hle := cntL_take_le (cntL List.length) xs (j + 1)
        have hys2 := Lib.hid (show (ys.set j (mkS2 (k + (cntL (cntL List.length) (xs.take j) : Nat)) (nth xs j))).length = xs.length ∧ (∀ i, i < j + 1 → nth (ys.set j (mkS2 (k + (cntL (cntL List.length) (xs.take j) : Nat)) (nth xs j))) i = mkS2 (k + (cntL (cntL List.length) (xs.take i) : Nat)) (nth xs i)) ∧ ∀ i, j + 1 ≤ i → i < xs.length → nth (ys.set j (mkS2 (k + (cntL (cntL List.length) (xs.take j) : Nat)) (nth xs j))) i = nth xs i from
          ⟨by simpa using hly, fun i hi => by
            rw [nth_set (by omega)]
            split
            · rename_i e; rw [e]
            · exact hys.out.2.1 i (by omega), fun i hi hi2 => by
            rw [nth_set (by omega), if_neg (by omega)]; exact hys.out.2.2 i (by omega) hi2⟩)
        rw [hys.out.2.2 j (Nat.le_refl _) hlt] at hu
        have Hu := Lib.hid hu
        have HT := Lib.hid hT
        have Hput := Lib.hid hput
        have honly2 := Lib.hid honly
        clear hly hown honly hys hu hT hput
        generalize hC : cntL (cntL List.length) (xs.take j) = C at *
        go_wp2_with fail
        refine (markInt64SS Hu.out (by omega) (by omega)).mono ?_
        rintro e w1 ⟨rfl, ho1, hb1⟩
        have Ho := Lib.hid (Hput.out _ _ hb1 ho1)
        have Hb := Lib.hid (show Only S w w1 from honly2.out.trans ⟨hb1.os, hb1.tape, hb1.output, hb1.size, fun i hi hS => hb1.block i hi fun hm => hS (HT.out i hm).1⟩)
        clear ho1 hb1
        go_wp2
        go_roundw
        case rel => exact ⟨j + 1, _, by omega, by go_num, by rw [hst]; go_num, hys2, Ho.out, Hb.out⟩
        case measure => simp [intOf]; omega
      · obtain rfl : j = xs.length := by omega
        have e : ys = mkS3 k xs := ext_nth (by rw [hys.out.1, mkL_length]) (fun i hi => by rw [hys.out.2.1 i (by have := hys.out.1; omega), nth_mkL _ _ _ _ (by have := hys.out.1; omega)])
        subst e
        rw [List.take_length]
        go_wp2
        go_ret
        exact ⟨rfl, hown, honly⟩

theorem heldInt64SSS {P : Nat → Prop} {v : Value} {xs : List (List (List Int))} {w : World} {k : Int} (h : RdIII P w v (mkS3 k xs)) (hk : 0 ≤ k) (hk2 : k + cntL (cntL List.length) xs ≤ 4611686018427387904) :
    Calls Try.prog 67 #[v, .int .i64 k] w fun e w' => e = .returned (.int .i64 (k + cntL (cntL List.length) xs)) ∧ w = w' := by
  obtain ⟨a, c, rfl, h1, h2, hrd⟩ := h
  rw [mkL_length] at h1 hrd ⊢
  have Hrd := Lib.hid hrd; clear hrd
  unfold maxLen at h2
  go_enter Try.func67, Try.ntmps67
  go_wp2
  go_loop [1, 5] (fun x i => ∃ (j : Nat), j ≤ xs.length ∧ i = .int .i64 j ∧ x = .int .i64 (k + (cntL (cntL List.length) (xs.take j) : Nat))) (fun _ i => xs.length - (intOf i).toNat)
  case atStart => exact ⟨0, Nat.zero_le _, rfl, by simp [cntL]⟩
  case round =>
    obtain ⟨j, hj, rfl, rfl⟩ := hrel
    by_cases hlt : j < xs.length
    · obtain ⟨b, o, u, rfl, hPb, hc, hu⟩ := Hrd.out j hlt
      rw [nth_mkL _ _ _ _ hlt] at hu
      have hst := cntL_take_succ (cntL List.length) hlt
      have hle := cntL_take_le (cntL List.length) xs (j + 1)
      have Hu := Lib.hid hu; clear hu
      generalize hC : cntL (cntL List.length) (xs.take j) = C at *
      go_wp2_with fail
      refine (heldInt64SS Hu.out (by omega) (by omega)).mono ?_
      rintro e w1 ⟨rfl, rfl⟩
      go_wp2
      go_round
      case rel => exact ⟨j + 1, by omega, by go_num, by rw [hst]; go_num⟩
      case measure => simp [intOf]; omega
    · obtain rfl : j = xs.length := by omega
      rw [List.take_length]
      go_wp2
      go_ret
      exact ⟨rfl, rfl⟩

theorem toInt64SSS_t {B : Nat} {v : Value} {xs : List (List (List Int))} {w : World} (h : RdIII (· < B) w v xs) (hB : B ≤ w.heap.size) (hn : szL (szL List.length) xs ≤ 1048576) :
    Calls Try.prog 102 #[v] w fun e w' => ∃ v', e = .returned v' ∧ In OIII w.heap.size w'.heap.size w' v' xs ∧ Turn 0 0 w w' := by
  refine (toInt64SSS h (fun k hk => by omega) hn).mono ?_
  rintro e w' ⟨v', rfl, hf⟩
  exact ⟨_, rfl, In.of_fresh OIII.ok hf⟩
theorem eqInt64SSS_t {a b c d : Nat} {va vb : Value} {xs : List (List (List Int))} {w : World} (ha : In OIII a b w va xs) (hb : In OIII c d w vb xs) :
    Calls Try.prog 63 #[va, vb] w fun e w' => e = .returned (.bool true) ∧ Turn 0 0 w w' :=
  (eqInt64SSS (ha.rd OIII.leads) (hb.rd OIII.leads)).mono fun e w' ⟨he, h⟩ => ⟨he, Turn.of_draws h⟩
theorem markInt64SSS_t {lo hi : Nat} {v : Value} {xs : List (List (List Int))} {w : World} {k : Int} (h : In OIII lo hi w v xs) (hk : 0 ≤ k) (hk2 : k + cntL (cntL List.length) xs ≤ 4611686018427387904) :
    Calls Try.prog 66 #[v, .int .i64 k] w fun e w' => e = .returned (.int .i64 (k + cntL (cntL List.length) xs)) ∧ In OIII lo hi w' v (mkS3 k xs) ∧ Turn lo hi w w' := by
  obtain ⟨S, h1, h2⟩ := h
  refine (markInt64SSS h1 hk hk2).mono ?_
  rintro e w' ⟨rfl, ho, hb⟩
  exact ⟨rfl, ⟨S, ho, h2⟩, ⟨hb.os, hb.tape, hb.output, hb.size, fun k hk hd => hb.block k hk fun hS => by have := h2 k hS; omega⟩⟩
theorem heldInt64SSS_t {lo hi : Nat} {v : Value} {xs : List (List (List Int))} {w : World} {k : Int} (h : In OIII lo hi w v (mkS3 k xs)) (hk : 0 ≤ k) (hk2 : k + cntL (cntL List.length) xs ≤ 4611686018427387904) :
    Calls Try.prog 67 #[v, .int .i64 k] w fun e w' => e = .returned (.int .i64 (k + cntL (cntL List.length) xs)) ∧ Turn 0 0 w w' :=
  (heldInt64SSS (h.rd OIII.leads) hk hk2).mono fun e w' ⟨he, h⟩ => ⟨he, Turn.of_draws ⟨0, h⟩⟩
end Go.Proofs.Ytnpkanlieflbiaa
