/- The law of linear tables, walked: it returns true. -/
import Derived.Test.YtakliggacjckpaaM2
import Derived.Test.YtakliggacjckpaaI0
namespace Go.Proofs.Ytakliggacjckpaa
open Go.RowKit
set_option linter.unusedVariables false

theorem lawGcd8 (a0 b0 : Nat) (w : World) :
    Calls Try.prog 18 #[.int .i64 a0, .int .i64 b0] w fun e w' => e = .returned (.int .i64 (Nat.gcd a0 b0 : Nat)) ∧ w = w' := by
  go_enter Try.func18, Try.ntmps18
  go_wp2
  go_loop [0, 1] (fun x y => ∃ a b : Nat, x = .int .i64 a ∧ y = .int .i64 b ∧ Hid (Nat.gcd a b = Nat.gcd a0 b0)) (fun _ y => (intOf y).toNat)
  case atStart => exact ⟨a0, b0, rfl, rfl, Lib.hid rfl⟩
  case round =>
    obtain ⟨a, b, rfl, rfl, hg⟩ := hrel
    by_cases h0 : 0 < b
    · go_wp2
      go_round
      case rel => exact ⟨b, a % b, rfl, by go_num, Lib.hid (by rw [← hg.out, Nat.gcd_comm a b, Nat.gcd_rec b a, Nat.gcd_comm])⟩
      case measure => simp [intOf]; have := Nat.mod_lt a h0; omega
    · obtain rfl : b = 0 := by omega
      go_wp2
      go_ret
      exact ⟨ret_int (by have := hg.out; rw [Nat.gcd_zero_right] at this; rw [← this]), rfl⟩
theorem lawGcd8z (z : Int) (a0 b0 G : Nat) (hz : z = a0) (hG : Nat.gcd a0 b0 = G) (w : World) :
    Calls Try.prog 18 #[.int .i64 z, .int .i64 b0] w fun e w' => e = .returned (.int .i64 G) ∧ w = w' := by
  subst hz hG; exact lawGcd8 a0 b0 w
theorem eq1_yes {G : Nat} (h : G = 1) : (((G : Nat) : Int) == 1) = true := by simp [h]
theorem eq1_no {G : Nat} (h : ¬ G = 1) : (((G : Nat) : Int) == 1) = false := by simp; omega

set_option maxRecDepth 100000 in
set_option maxHeartbeats 1600000 in
theorem lawLinear (w : World) (v0 : Value) (z0 : List UInt8) (r0 : Rd rY (· < w.heap.size) w v0 z0) (v1 : Value) (z1 : List UInt8) (r1 : Rd rY (· < w.heap.size) w v1 z1) :
    Calls Try.prog 3 #[v0, v1] w fun e w' => e = .returned (.bool true) ∧ Below w.heap.size w w' := by
  have R0 := Lib.hid r0; clear r0
  have R1 := Lib.hid r1; clear r1
  cases hb : longB8 z0.length z1.length
  rotate_left
  · have HB := Lib.hid hb; clear hb
    go_enter Try.func3, Try.ntmps3
    go_wp2_with fail
    refine (lawLong8 R0.out R1.out _ HB.out).mono ?_
    rintro e w' ⟨rfl, rfl⟩
    go_wp2
    go_ret
    exact ⟨rfl, Below.refl _ _⟩
  have HB := Lib.hid hb; clear hb
  go_enter Try.func3, Try.ntmps3
  go_wp2_with fail
  refine (lawLong8 R0.out R1.out _ HB.out).mono ?_
  rintro e w' ⟨rfl, rfl⟩
  go_wp2_with fail
  refine (lawAt8 R0.out 0 12 (by omega) (by omega) (by omega)).mono ?_
  rintro e w' ⟨⟨s, hs, rfl⟩, rfl⟩
  obtain ⟨n, rfl⟩ : ∃ n : Nat, s = (n : Int) - 1 := ⟨(s + 1).toNat, by have := hs.1; omega⟩
  have hn1 : 1 ≤ n := by have := hs.1; omega
  have hn2 : n ≤ 12 := by have := hs.2.1 (by omega); omega
  clear hs
  have hm4 : (1 : Int) + ((n : Int) - 1) = n := by omega
  go_wp2_with fail
  refine (lawAt8 R1.out 0 n (by omega) (by omega) (by omega)).mono ?_
  rintro e w' ⟨⟨s, hs, rfl⟩, rfl⟩
  obtain ⟨a, rfl⟩ := Int.eq_ofNat_of_zero_le hs.1
  have ha : a < n := by have := hs.2.1 (by omega); omega
  clear hs hm4
  go_wp2_with fail
  refine (lawAt8 R1.out 1 n (by omega) (by omega) (by omega)).mono ?_
  rintro e w' ⟨⟨s, hs, rfl⟩, rfl⟩
  obtain ⟨b, rfl⟩ := Int.eq_ofNat_of_zero_le hs.1
  have hbn : b < n := by have := hs.2.1 (by omega); omega
  clear hs
  go_wp2_with fail
  refine (lawAt8 R1.out 2 n (by omega) (by omega) (by omega)).mono ?_
  rintro e w' ⟨⟨s, hs, rfl⟩, rfl⟩
  obtain ⟨c, rfl⟩ := Int.eq_ofNat_of_zero_le hs.1
  have hcn : c < n := by have := hs.2.1 (by omega); omega
  clear hs
  have hok : linOk (n : Int) a b c = true := by simp [linOk, inB]; omega
  have hq := Lib.hid (lin_isQ (a := a) (b := b) (c := c) hn1 (show n ≤ 36 by omega))
  have ht := Lib.hid (fun h => lin_isT (a := a) (b := b) (c := c) hn1 (show n ≤ 36 by omega) (by omega) h)
  have hR := Lib.hid (show linR (n : Int) a b c = isQ (linT n a b c) by simp [linR, hok])
  have hV := Lib.hid (fun (h : isQ (linT (n : Int) a b c) = true) => show linV (n : Int) a b c = linT n a b c by simp [linV, linR, hok, h])
  clear hok
  obtain ⟨G1, hG1⟩ : ∃ G, Nat.gcd a n = G := ⟨_, rfl⟩
  obtain ⟨G2, hG2⟩ : ∃ G, Nat.gcd b n = G := ⟨_, rfl⟩
  rw [hG1, hG2] at hq
  have H1 := Lib.hid (fun w => lawGcd8z (a : Int) a n G1 rfl hG1 w)
  have H2 := Lib.hid (fun w => lawGcd8z (b : Int) b n G2 rfl hG2 w)
  clear hG1 hG2
  go_wp2_with fail
  refine (implLinearTable n a b c _).mono ?_
  rintro e w1 ⟨v, rfl, hf⟩
  have Hf := Lib.hid hf; clear hf
  have Hb1 := Lib.hid Hf.out.bel
  by_cases h1 : G1 = 1
  · have e1 := eq1_yes h1
    by_cases h2 : G2 = 1
    · have e2 := eq1_yes h2
      have hQ := hq.out.2 ⟨h1, h2⟩
      rw [hR.out, hQ]
      have Hf2 := Lib.hid (show Fresh OII w w1 v (linT n a b c) by rw [← hV.out hQ]; exact Hf.out)
      have ht2 := Lib.hid (ht.out hQ)
      clear h1 h2 hQ
      obtain ⟨G3, hG3⟩ : ∃ G, Nat.gcd (a + n - 1) n = G := ⟨_, rfl⟩
      obtain ⟨G4, hG4⟩ : ∃ G, Nat.gcd (a + n - b) n = G := ⟨_, rfl⟩
      rw [hG3, hG4] at ht2
      have H3 := Lib.hid (fun w => lawGcd8z ((a : Int) + n - 1) (a + n - 1) n G3 (by omega) hG3 w)
      have H4 := Lib.hid (fun w => lawGcd8z ((a : Int) + n - b) (a + n - b) n G4 (by omega) hG4 w)
      clear hG3 hG4
      obtain ⟨gt, gc, rfl⟩ := Hf2.out.shape (by rw [lin_len]; exact hn1)
      have hl := Hf2.out.len2
      rw [lin_len] at hl
      unfold maxLen at hl
      obtain ⟨_, hl2, hl3⟩ := hl
      have Hr := Lib.hid (show RdII (· < w1.heap.size) w1 _ (linT n a b c) from Hf2.out.rd OII.leads OII.ok)
      have hlen := lin_len (n := n) (a := a) (b := b) (c := c)
      rw [hlen] at Hr ⊢
      clear hlen
      by_cases h3 : G3 = 1
      · have e3 := eq1_yes h3
        by_cases h4 : G4 = 1
        · have e4 := eq1_yes h4
          have hT := ht2.out.2 ⟨h3, h4⟩
          clear h3 h4
          go_wp2_with fail
          refine (Calls.mono (H1.out _) ?_)
          rintro e w' ⟨rfl, rfl⟩
          go_wp2_with fail
          refine (Calls.mono (H2.out _) ?_)
          rintro e w' ⟨rfl, rfl⟩
          go_wp2_with fail
          refine (implIsTotally Hr.out (Nat.le_refl _)).mono ?_
          rw [hT]
          rintro e w2 ⟨rfl, hb2⟩
          have Hb2 := Lib.hid (Hb1.out.trans (hb2.mono Hb1.out.size)); clear hb2
          go_wp2_with fail
          refine (Calls.mono (H3.out _) ?_)
          rintro e w' ⟨rfl, rfl⟩
          go_wp2_with fail
          refine (Calls.mono (H4.out _) ?_)
          rintro e w' ⟨rfl, rfl⟩
          go_wp2
          go_ret
          exact ⟨rfl, Hb2.out⟩
        · have e4 := eq1_no h4
          have hT : isT (linT (n : Int) a b c) = false := by cases h : isT (linT (n : Int) a b c) with
            | false => rfl
            | true => exact absurd (ht2.out.1 h).2 h4
          clear h3 h4
          go_wp2_with fail
          refine (Calls.mono (H1.out _) ?_)
          rintro e w' ⟨rfl, rfl⟩
          go_wp2_with fail
          refine (Calls.mono (H2.out _) ?_)
          rintro e w' ⟨rfl, rfl⟩
          go_wp2_with fail
          refine (implIsTotally Hr.out (Nat.le_refl _)).mono ?_
          rw [hT]
          rintro e w2 ⟨rfl, hb2⟩
          have Hb2 := Lib.hid (Hb1.out.trans (hb2.mono Hb1.out.size)); clear hb2
          go_wp2_with fail
          refine (Calls.mono (H3.out _) ?_)
          rintro e w' ⟨rfl, rfl⟩
          go_wp2_with fail
          refine (Calls.mono (H4.out _) ?_)
          rintro e w' ⟨rfl, rfl⟩
          go_wp2
          go_ret
          exact ⟨rfl, Hb2.out⟩
      · have e3 := eq1_no h3
        have hT : isT (linT (n : Int) a b c) = false := by cases h : isT (linT (n : Int) a b c) with
          | false => rfl
          | true => exact absurd (ht2.out.1 h).1 h3
        clear h3
        go_wp2_with fail
        refine (Calls.mono (H1.out _) ?_)
        rintro e w' ⟨rfl, rfl⟩
        go_wp2_with fail
        refine (Calls.mono (H2.out _) ?_)
        rintro e w' ⟨rfl, rfl⟩
        go_wp2_with fail
        refine (implIsTotally Hr.out (Nat.le_refl _)).mono ?_
        rw [hT]
        rintro e w2 ⟨rfl, hb2⟩
        have Hb2 := Lib.hid (Hb1.out.trans (hb2.mono Hb1.out.size)); clear hb2
        go_wp2_with fail
        refine (Calls.mono (H3.out _) ?_)
        rintro e w' ⟨rfl, rfl⟩
        go_wp2
        go_ret
        exact ⟨rfl, Hb2.out⟩
    · have e2 := eq1_no h2
      rw [hR.out, show isQ (linT (n : Int) a b c) = false by cases h : isQ (linT (n : Int) a b c) with
        | false => rfl
        | true => exact absurd (hq.out.1 h).2 h2]
      clear h1 h2
      go_wp2_with fail
      refine (Calls.mono (H1.out _) ?_)
      rintro e w' ⟨rfl, rfl⟩
      go_wp2_with fail
      refine (Calls.mono (H2.out _) ?_)
      rintro e w' ⟨rfl, rfl⟩
      go_wp2
      go_ret
      exact ⟨rfl, Hb1.out⟩
  · have e1 := eq1_no h1
    rw [hR.out, show isQ (linT (n : Int) a b c) = false by cases h : isQ (linT (n : Int) a b c) with
      | false => rfl
      | true => exact absurd (hq.out.1 h).1 h1]
    clear h1
    go_wp2_with fail
    refine (Calls.mono (H1.out _) ?_)
    rintro e w' ⟨rfl, rfl⟩
    go_wp2
    go_ret
    exact ⟨rfl, Hb1.out⟩
end Go.Proofs.Ytakliggacjckpaa
