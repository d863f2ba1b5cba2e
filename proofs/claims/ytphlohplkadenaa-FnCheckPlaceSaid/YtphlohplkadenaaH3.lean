/- The laws' small functions over [][][]int64. Printed by gen_h.py. -/
import Derived.Test.YtphlohplkadenaaH2
namespace Go.Proofs.Ytphlohplkadenaa
open Go.RowKit
set_option linter.unusedVariables false

/-! ### Int64SSS -/
theorem eqInt64SSS {P Q : Nat → Prop} {va vb : Value} {xs : List (List (List Int))} {w : World} (ha : RdIII P w va xs) (hb : RdIII Q w vb xs) :
    Calls Try.prog 94 #[va, vb] w fun e w' => e = .returned (.bool true) ∧ ∃ n, w.drewN n = w' := by
  obtain ⟨a, c, rfl, h1, h2, hrd⟩ := ha
  obtain ⟨a', c', rfl, h1', h2', hrd'⟩ := hb
  have Hrd := Lib.hid hrd; clear hrd
  have Hrd' := Lib.hid hrd'; clear hrd'
  unfold maxLen at h2 h2'
  go_enter Try.func94, Try.ntmps94
  go_wp2
  go_loopw [5] (fun i wr => ∃ (k m : Nat), k ≤ xs.length ∧ i = .int .i64 k ∧ Hid (w.drewN m = wr)) (fun i _ => xs.length - (intOf i).toNat)
  case atStart => exact ⟨0, 0, Nat.zero_le _, rfl, Lib.hid rfl⟩
  case round =>
    obtain ⟨k, m, hk, rfl, hm⟩ := hrel
    by_cases hlt : k < xs.length
    · obtain ⟨b, o, u, rfl, hPb, hc, hu⟩ := Hrd.out k hlt
      obtain ⟨b', o', u', rfl, hPb', hc', hu'⟩ := Hrd'.out k hlt
      have Hu := Lib.hid (RdII.ok.keep (w' := wr) hu fun _ _ => by rw [← hm.out]; rfl)
      have Hu' := Lib.hid (RdII.ok.keep (w' := wr) hu' fun _ _ => by rw [← hm.out]; rfl)
      have hc1 : wr.cell? ⟨b, o + k, none⟩ = some u := by rw [← hm.out]; exact hc
      have hc1' : wr.cell? ⟨b', o' + k, none⟩ = some u' := by rw [← hm.out]; exact hc'
      clear hu hu' hc hc'
      go_wp2
      go_quiet ((go_at_call 79; exact quiet_draws (eqInt64SS (RdII.ok.keep Hu.out fun _ _ => rfl) (RdII.ok.keep Hu'.out fun _ _ => rfl))))
      go_wp2
      go_roundw
      case rel => exact ⟨k + 1, _, by omega, by go_num, Lib.hid (draws_more hm.out _)⟩
      case measure => simp [intOf]; omega
    · obtain rfl : k = xs.length := by omega
      go_wp2
      go_ret
      exact ⟨rfl, m, hm.out⟩

theorem markInt64SSS {v : Value} {xs : List (List (List Int))} {S : List Nat} {w : World} {k : Int} (h : OIII w v xs S) (hk : 0 ≤ k) (hk2 : k + cntL (cntL List.length) xs ≤ 4611686018427387904) :
    Calls Try.prog 95 #[v, .int .i64 k] w fun e w' => e = .returned (.int .i64 (k + cntL (cntL List.length) xs)) ∧ OIII w' v (mkS3 k xs) S ∧ Only S w w' := by
  rcases h.shape with ⟨rfl, rfl⟩ | ⟨g, c, rfl, hg⟩
  · go_enter Try.func95, Try.ntmps95
    go_wp2
    refine wp_loop_rounds 1 ?_
    rw [rounds_succ]
    go_wp2
    go_ret
    exact ⟨ret_int' (by simp [cntL]), by simpa [mkL] using h, Only.refl _ _⟩
  · have hl := h.len
    have hl3 := hl.2.2
    unfold maxLen at hl3
    go_enter Try.func95, Try.ntmps95
    go_wp2
    go_loopw [1, 5] (fun x i wr => ∃ (j : Nat) (ys : List (List (List Int))), j ≤ xs.length ∧ i = .int .i64 j ∧ x = .int .i64 (k + (cntL (cntL List.length) (xs.take j) : Nat)) ∧
        Hid (ys.length = xs.length ∧ (∀ i, i < j → nth ys i = mkS2 (k + (cntL (cntL List.length) (xs.take i) : Nat)) (nth xs i)) ∧ ∀ i, j ≤ i → i < xs.length → nth ys i = nth xs i) ∧
        OIII wr (.slice (some ⟨g, 0, none⟩) xs.length c) ys S ∧ Only S w wr) (fun _ i _ => xs.length - (intOf i).toNat)
    case atStart => exact ⟨0, xs, Nat.zero_le _, rfl, by simp [cntL], Lib.hid ⟨rfl, fun _ h => absurd h (Nat.not_lt_zero _), fun _ _ _ => rfl⟩, h, Only.refl _ _⟩
    case round =>
      obtain ⟨j, ys, hj, rfl, rfl, hys, hown, honly⟩ := hrel
      by_cases hlt : j < xs.length
      · have hly := hys.out.1
        obtain ⟨u, T, hc, hu, hT, hput⟩ := hown.turnAt OII.ok (i := j) (by omega)
        have hst := cntL_take_succ (cntL List.length) hlt
        have hle := cntL_take_le (cntL List.length) xs (j + 1)
        have hys2 := Lib.hid (show (ys.set j (mkS2 (k + (cntL (cntL List.length) (xs.take j) : Nat)) (nth xs j))).length = xs.length ∧ (∀ i, i < j + 1 → nth (ys.set j (mkS2 (k + (cntL (cntL List.length) (xs.take j) : Nat)) (nth xs j))) i = mkS2 (k + (cntL (cntL List.length) (xs.take i) : Nat)) (nth xs i)) ∧ ∀ i, j + 1 ≤ i → i < xs.length → nth (ys.set j (mkS2 (k + (cntL (cntL List.length) (xs.take j) : Nat)) (nth xs j))) i = nth xs i from
          ⟨by simpa using hly, fun i hi => by
            rw [nth_set (by omega)]
            split
            · rename_i e; rw [e]
            · exact hys.out.2.1 i (by omega), fun i hi hi2 => by
            rw [nth_set (by omega), if_neg (by omega)]; exact hys.out.2.2 i (by omega) hi2⟩)
        rw [hys.out.2.2 j (Nat.le_refl _) hlt] at hu
        have Hu := Lib.hid hu
        have HT := Lib.hid hT
        have Hput := Lib.hid hput
        have honly2 := Lib.hid honly
        clear hly hown honly hys hu hT hput
        generalize hC : cntL (cntL List.length) (xs.take j) = C at *
        go_wp2_with fail
        refine (markInt64SS Hu.out (by omega) (by omega)).mono ?_
        rintro e w1 ⟨rfl, ho1, hb1⟩
        have Ho := Lib.hid (Hput.out _ _ hb1 ho1)
        have Hb := Lib.hid (show Only S w w1 from honly2.out.trans ⟨hb1.os, hb1.tape, hb1.output, hb1.size, fun i hi hS => hb1.block i hi fun hm => hS (HT.out i hm).1⟩)
        clear ho1 hb1
        go_wp2
        go_roundw
        case rel => exact ⟨j + 1, _, by omega, by go_num, by rw [hst]; go_num, hys2, Ho.out, Hb.out⟩
        case measure => simp [intOf]; omega
      · obtain rfl : j = xs.length := by omega
        have e : ys = mkS3 k xs := ext_nth (by rw [hys.out.1, mkL_length]) (fun i hi => by rw [hys.out.2.1 i (by have := hys.out.1; omega), nth_mkL _ _ _ _ (by have := hys.out.1; omega)])
        subst e
        rw [List.take_length]
        go_wp2
        go_ret
        exact ⟨rfl, hown, honly⟩

theorem heldInt64SSS {P : Nat → Prop} {v : Value} {xs : List (List (List Int))} {w : World} {k : Int} (h : RdIII P w v (mkS3 k xs)) (hk : 0 ≤ k) (hk2 : k + cntL (cntL List.length) xs ≤ 4611686018427387904) :
    Calls Try.prog 96 #[v, .int .i64 k] w fun e w' => e = .returned (.int .i64 (k + cntL (cntL List.length) xs)) ∧ w = w' := by
  obtain ⟨a, c, rfl, h1, h2, hrd⟩ := h
  rw [mkL_length] at h1 hrd ⊢
  have Hrd := Lib.hid hrd; clear hrd
  unfold maxLen at h2
  go_enter Try.func96, Try.ntmps96
  go_wp2
  go_loop [1, 5] (fun x i => ∃ (j : Nat), j ≤ xs.length ∧ i = .int .i64 j ∧ x = .int .i64 (k + (cntL (cntL List.length) (xs.take j) : Nat))) (fun _ i => xs.length - (intOf i).toNat)
  case atStart => exact ⟨0, Nat.zero_le _, rfl, by simp [cntL]⟩
  case round =>
    obtain ⟨j, hj, rfl, rfl⟩ := hrel
    by_cases hlt : j < xs.length
    · obtain ⟨b, o, u, rfl, hPb, hc, hu⟩ := Hrd.out j hlt
      rw [nth_mkL _ _ _ _ hlt] at hu
      have hst := cntL_take_succ (cntL List.length) hlt
      have hle := cntL_take_le (cntL List.length) xs (j + 1)
      have Hu := Lib.hid hu; clear hu
      generalize hC : cntL (cntL List.length) (xs.take j) = C at *
      go_wp2_with fail
      refine (heldInt64SS Hu.out (by omega) (by omega)).mono ?_
      rintro e w1 ⟨rfl, rfl⟩
      go_wp2
      go_round
      case rel => exact ⟨j + 1, by omega, by go_num, by rw [hst]; go_num⟩
      case measure => simp [intOf]; omega
    · obtain rfl : j = xs.length := by omega
      rw [List.take_length]
      go_wp2
      go_ret
      exact ⟨rfl, rfl⟩

theorem eqInt64SSS_t {a b c d : Nat} {va vb : Value} {xs : List (List (List Int))} {w : World} (ha : In OIII a b w va xs) (hb : In OIII c d w vb xs) :
    Calls Try.prog 94 #[va, vb] w fun e w' => e = .returned (.bool true) ∧ Turn 0 0 w w' :=
  (eqInt64SSS (ha.rd OIII.leads) (hb.rd OIII.leads)).mono fun e w' ⟨he, h⟩ => ⟨he, Turn.of_draws h⟩
theorem markInt64SSS_t {lo hi : Nat} {v : Value} {xs : List (List (List Int))} {w : World} {k : Int} (h : In OIII lo hi w v xs) (hk : 0 ≤ k) (hk2 : k + cntL (cntL List.length) xs ≤ 4611686018427387904) :
    Calls Try.prog 95 #[v, .int .i64 k] w fun e w' => e = .returned (.int .i64 (k + cntL (cntL List.length) xs)) ∧ In OIII lo hi w' v (mkS3 k xs) ∧ Turn lo hi w w' := by
  obtain ⟨S, h1, h2⟩ := h
  refine (markInt64SSS h1 hk hk2).mono ?_
  rintro e w' ⟨rfl, ho, hb⟩
  exact ⟨rfl, ⟨S, ho, h2⟩, ⟨hb.os, hb.tape, hb.output, hb.size, fun k hk hd => hb.block k hk fun hS => by have := h2 k hS; omega⟩⟩
theorem heldInt64SSS_t {lo hi : Nat} {v : Value} {xs : List (List (List Int))} {w : World} {k : Int} (h : In OIII lo hi w v (mkS3 k xs)) (hk : 0 ≤ k) (hk2 : k + cntL (cntL List.length) xs ≤ 4611686018427387904) :
    Calls Try.prog 96 #[v, .int .i64 k] w fun e w' => e = .returned (.int .i64 (k + cntL (cntL List.length) xs)) ∧ Turn 0 0 w w' :=
  (heldInt64SSS (h.rd OIII.leads) hk hk2).mono fun e w' ⟨he, h⟩ => ⟨he, Turn.of_draws ⟨0, h⟩⟩
end Go.Proofs.Ytphlohplkadenaa
