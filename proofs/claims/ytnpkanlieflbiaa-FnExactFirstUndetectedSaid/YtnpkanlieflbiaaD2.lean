/- Validity of chains, walked: spec. -/
import Derived.Test.YtnpkanlieflbiaaD1
namespace Go.Proofs.Ytnpkanlieflbiaa
open Go.RowKit
set_option linter.unusedVariables false

theorem wrap_in {z : Int} (h : -9223372036854775808 ≤ z ∧ z ≤ 9223372036854775807) : wrap64 z = z := by unfold wrap64; omega
theorem specMin (a b : Int) (z : Int) (hz : (if a < b then a else b) = z) (w : World) :
    Calls Try.prog 112 #[.int .i64 a, .int .i64 b] w fun e w' => e = .returned (.int .i64 z) ∧ w = w' := by
  have HZ := Lib.hid hz; clear hz
  by_cases h : a < b
  · have hr := Lib.hid (show (if a < b then a else b) = a from if_pos h)
    go_enter Try.func112, Try.ntmps112
    go_wp2
    go_ret
    exact ⟨ret_int' (by rw [← HZ.out, hr.out]), rfl⟩
  · have hr := Lib.hid (show (if a < b then a else b) = b from if_neg h)
    go_enter Try.func112, Try.ntmps112
    go_wp2
    go_ret
    exact ⟨ret_int' (by rw [← HZ.out, hr.out]), rfl⟩

/-- How many words, at most one more than allowed. -/
def capP (b : Int) (k : Nat) : Int := if b ^ k < 1000000000000001 then b ^ k else 1000000000000001
theorem capP_zero (b : Int) : capP b 0 = 1 := by simp [capP]
theorem capP_bd {b : Int} (hb : 1 ≤ b) (k : Nat) : 1 ≤ capP b k ∧ capP b k ≤ 1000000000000001 := by
  have := pow_ge1 hb k
  unfold capP; split <;> omega
theorem capP_succ {b : Int} (hb : 1 ≤ b) (k : Nat) : (if capP b k * b < 1000000000000001 then capP b k * b else 1000000000000001) = capP b (k + 1) := by
  have h1 := pow_ge1 hb k
  unfold capP
  by_cases h : b ^ k < 1000000000000001
  · rw [if_pos h, Int.pow_succ]
  · rw [if_neg h]
    have h2 := pow_up hb k
    rw [if_neg (show ¬ b ^ (k + 1) < 1000000000000001 by omega)]
    have h3 := Int.mul_le_mul_of_nonneg_left hb (show (0 : Int) ≤ 1000000000000001 by omega)
    rw [if_neg (by omega)]
theorem capP_le {b : Int} (n : Nat) : powB b n = decide (capP b n ≤ 1000000000000000) := by
  unfold powB capP
  split
  · rfl
  · rename_i h
    rw [Bool.eq_iff_iff]; simp; omega
theorem plsC_no {x : Chn} {k : Nat} (hk : k < x.places.length) (h : inB (nth x.places k) 0 ((x.tables.length : Int) - 1) = false) : vC x = false := by
  have : plsC x = false := allIn_no hk h
  simp [vC, this]
theorem tabIn_cell_no {states base : Int} {t : List (List Int)} {j d : Nat} (hj : j < t.length) (hd : d < (nth t j).length) (h : inB (nth (nth t j) d) 0 (states - 1) = false) : tabIn states base t = false := by
  refine tabIn_row_no hj ?_
  have : allIn (nth t j) 0 (states - 1) = false := allIn_no hd h
  simp [rowIn, this]

set_option maxHeartbeats 1600000 in
set_option maxRecDepth 10000 in
theorem specL02Is {P : Nat → Prop} {bx : Nat} {x : Chn} {w : World} (h : BoxC P w bx x) (b : Bool) (hb : vC x = b) :
    Calls Try.prog 98 #[.pointer (some ⟨bx, 0, none⟩)] w fun e w' => e = .returned (.bool b) ∧ ∃ m, w.drewN m = w' := by
  have HB := Lib.hid hb; clear hb
  obtain ⟨a, c, a', c', g0, g1, g2, g3, g4, g5, hu, hp, ⟨h1, h2⟩, h3, h4⟩ := h.cells
  have Hu := Lib.hid hu; clear hu
  have Hp := Lib.hid hp; clear hp
  unfold maxLen at h2 h4
  cases hbase : inB x.base 2 36
  · have hr := Lib.hid (show vC x = false by simp [vC, headC, hbase])
    go_enter Try.func98, Try.ntmps98
    go_wp2
    go_quiet ((go_at_call 73; exact quiet_same (specIn _ _ _ _ (by assumption) _)))
    go_wp2
    go_ret
    exact ⟨by rw [← HB.out, hr.out]; rfl, _, rfl⟩
  cases hst : inB x.states 1 36
  · have hr := Lib.hid (show vC x = false by simp [vC, headC, hst])
    go_enter Try.func98, Try.ntmps98
    go_wp2
    go_quiet ((go_at_call 73; exact quiet_same (specIn _ _ _ _ (by assumption) _)))
    go_wp2
    go_ret
    exact ⟨by rw [← HB.out, hr.out]; rfl, _, rfl⟩
  have hsd := inB_true.1 hst
  have hwr : wrap64 (x.states - 1) = x.states - 1 := wrap_in (by omega)
  have hbd := inB_true.1 hbase
  cases hsr : inB x.start 0 (x.states - 1)
  · have hr := Lib.hid (show vC x = false by simp [vC, headC, hsr])
    go_enter Try.func98, Try.ntmps98
    go_wp2
    go_quiet ((go_at_call 73; exact quiet_same (specIn _ _ _ _ (by first | assumption | (rw [hwr]; assumption)) _)))
    go_wp2
    go_ret
    exact ⟨by rw [← HB.out, hr.out]; rfl, _, rfl⟩
  cases hsp : inB x.stop 0 (x.states - 1)
  · have hr := Lib.hid (show vC x = false by simp [vC, headC, hsp])
    go_enter Try.func98, Try.ntmps98
    go_wp2
    go_quiet ((go_at_call 73; exact quiet_same (specIn _ _ _ _ (by first | assumption | (rw [hwr]; assumption)) _)))
    go_wp2
    go_ret
    exact ⟨by rw [← HB.out, hr.out]; rfl, _, rfl⟩
  cases htb : inB x.tables.length 1 20
  · have hr := Lib.hid (show vC x = false by simp [vC, headC, htb])
    go_enter Try.func98, Try.ntmps98
    go_wp2
    go_quiet ((go_at_call 73; exact quiet_same (specIn _ _ _ _ (by first | assumption | (rw [hwr]; assumption)) _)))
    go_wp2
    go_ret
    exact ⟨by rw [← HB.out, hr.out]; rfl, _, rfl⟩
  have htd := inB_true.1 htb
  cases hpl : inB x.places.length 1 20
  · have hr := Lib.hid (show vC x = false by simp [vC, headC, hpl])
    go_enter Try.func98, Try.ntmps98
    go_wp2
    go_quiet ((go_at_call 73; exact quiet_same (specIn _ _ _ _ (by first | assumption | (rw [hwr]; assumption)) _)))
    go_wp2
    go_ret
    exact ⟨by rw [← HB.out, hr.out]; rfl, _, rfl⟩
  have hpd := inB_true.1 hpl
  have hhead := Lib.hid (show headC x = true by simp [headC, hbase, hst, hsr, hsp, htb, hpl])
  go_enter Try.func98, Try.ntmps98
  go_wp2
  go_quiet ((go_at_call 73; exact quiet_same (specIn _ _ _ _ (by first | assumption | (rw [hwr]; assumption)) _)))
  clear hbase hst hsr hsp htb hpl
  go_wp2
  go_loopw [3] (fun i wr => ∃ k m : Nat, k ≤ x.tables.length ∧ i = .int .i64 k ∧ Hid (allB k (fun i => tabIn x.states x.base (nth x.tables i)) = true) ∧ Hid (w.drewN m = wr)) (fun i _ => x.tables.length - (intOf i).toNat)
  case atStart => exact ⟨0, _, Nat.zero_le _, rfl, Lib.hid rfl, Lib.hid rfl⟩
  case round =>
    obtain ⟨k, m, hk, rfl, hok, hm⟩ := hrel
    obtain ⟨W1, rfl⟩ : ∃ W1, W1 = wr := ⟨_, rfl⟩
    have e0 : W1.cell? ⟨bx, 0, none⟩ = some (.int .i64 x.base) := by rw [← hm.out]; exact g0
    have e1 : W1.cell? ⟨bx, 1, none⟩ = some (.int .i64 x.states) := by rw [← hm.out]; exact g1
    have e4 : W1.cell? ⟨bx, 4, none⟩ = some (.slice a x.tables.length c) := by rw [← hm.out]; exact g4
    have e5 : W1.cell? ⟨bx, 5, none⟩ = some (.slice a' x.places.length c') := by rw [← hm.out]; exact g5
    by_cases hlt : k < x.tables.length
    · have Hu1 := Lib.hid (show RdIII P W1 _ x.tables by rw [← hm.out]; exact rd_draws RdIII.ok Hu.out m)
      obtain ⟨bt, ot, a1, c1, rfl, _, hc1, q1, q2, hr1⟩ := Rd.row Hu1.out hlt
      have Hr1 := Lib.hid hr1; clear hr1
      unfold maxLen at q2
      by_cases hlen : ((nth x.tables k).length : Int) = x.states
      · have hlb : (((nth x.tables k).length : Int) != x.states) = false := by simp [hlen]
        have Hlen := Lib.hid hlen
        clear hlen
        go_wp2
        go_quiet (fail)
        go_wp2
        go_loopw [4] (fun i wr => ∃ j m : Nat, j ≤ (nth x.tables k).length ∧ i = .int .i64 j ∧ Hid (allB j (fun y => rowIn x.states x.base (nth (nth x.tables k) y)) = true) ∧ Hid (w.drewN m = wr)) (fun i _ => (nth x.tables k).length - (intOf i).toNat)
        case atStart => exact ⟨0, _, Nat.zero_le _, rfl, Lib.hid rfl, Lib.hid (draws_more hm.out _)⟩
        case round =>
          clear e0 e1 e4 e5 hc1 Hr1 Hu1
          obtain ⟨j, m, hj, rfl, hoj, hm⟩ := hrel
          obtain ⟨W2, rfl⟩ : ∃ W2, W2 = wr := ⟨_, rfl⟩
          have e0 : W2.cell? ⟨bx, 0, none⟩ = some (.int .i64 x.base) := by rw [← hm.out]; exact g0
          have e1 : W2.cell? ⟨bx, 1, none⟩ = some (.int .i64 x.states) := by rw [← hm.out]; exact g1
          have e4 : W2.cell? ⟨bx, 4, none⟩ = some (.slice (some ⟨bt, ot, none⟩) x.tables.length c) := by rw [← hm.out]; exact g4
          have Hu1 := Lib.hid (show RdIII P W2 _ x.tables by rw [← hm.out]; exact rd_draws RdIII.ok Hu.out m)
          obtain ⟨bt', ot', a1', c1', ea, _, hc1, q3, q4, hr1⟩ := Rd.row Hu1.out hlt
          simp only [Option.some.injEq, Addr.mk.injEq, and_true] at ea
          obtain ⟨rfl, rfl⟩ := ea
          have Hr1 := Lib.hid hr1; clear hr1
          unfold maxLen at q4
          by_cases hlj : j < (nth x.tables k).length
          · obtain ⟨br, or_, a2, c2, rfl, _, hc2, q5, q6, hr2⟩ := Rd.row Hr1.out hlj
            have Hr2 := Lib.hid hr2; clear hr2
            unfold maxLen at q6
            by_cases hrl : ((nth (nth x.tables k) j).length : Int) = x.base
            · have hrb : (((nth (nth x.tables k) j).length : Int) != x.base) = false := by simp [hrl]
              have Hrl := Lib.hid hrl
              clear hrl
              go_wp2
              go_quiet (fail)
              go_wp2
              go_loopw [5] (fun i wr => ∃ d m : Nat, d ≤ (nth (nth x.tables k) j).length ∧ i = .int .i64 d ∧ Hid (∀ e, e < d → inB (nth (nth (nth x.tables k) j) e) 0 (x.states - 1) = true) ∧ Hid (w.drewN m = wr)) (fun i _ => (nth (nth x.tables k) j).length - (intOf i).toNat)
              case atStart => exact ⟨0, _, Nat.zero_le _, rfl, Lib.hid (fun _ h => absurd h (Nat.not_lt_zero _)), Lib.hid (draws_more hm.out _)⟩
              case round =>
                clear e0 e1 e4 hc1 hc2 Hr1 Hr2 Hu1
                obtain ⟨d, m, hd, rfl, hod, hm⟩ := hrel
                obtain ⟨W3, rfl⟩ : ∃ W3, W3 = wr := ⟨_, rfl⟩
                have e1 : W3.cell? ⟨bx, 1, none⟩ = some (.int .i64 x.states) := by rw [← hm.out]; exact g1
                have e4 : W3.cell? ⟨bx, 4, none⟩ = some (.slice (some ⟨bt, ot, none⟩) x.tables.length c) := by rw [← hm.out]; exact g4
                have Hu1 := Lib.hid (show RdIII P W3 _ x.tables by rw [← hm.out]; exact rd_draws RdIII.ok Hu.out m)
                obtain ⟨bt2, ot2, a12, c12, ea, _, hc1, q7, q8, hr1⟩ := Rd.row Hu1.out hlt
                simp only [Option.some.injEq, Addr.mk.injEq, and_true] at ea
                obtain ⟨rfl, rfl⟩ := ea
                obtain ⟨br2, or2, a22, c22, rfl, _, hc2, q9, q10, hr2⟩ := Rd.row hr1 hlj
                have Hr2 := Lib.hid hr2; clear hr1 hr2
                unfold maxLen at q8 q10
                by_cases hld : d < (nth (nth x.tables k) j).length
                · obtain ⟨b3, o3, u3, rfl, _, hc3, rfl⟩ := Rd.elim Hr2.out d hld
                  have hc4 : W3.cell? ⟨b3, o3 + d, none⟩ = some (.int .i64 (nth (nth (nth x.tables k) j) d)) := hc3
                  clear hc3
                  cases hin : inB (nth (nth (nth x.tables k) j) d) 0 (x.states - 1)
                  · have hr := Lib.hid (vC_tab_no hlt (tabIn_cell_no hlj hld hin))
                    go_wp2
                    go_quiet ((go_at_call 73; exact quiet_same (specIn _ _ _ _ (by first | assumption | (rw [hwr]; assumption)) _)))
                    go_wp2
                    go_ret
                    exact ⟨by rw [← HB.out, hr.out]; rfl, _, draws_more hm.out _⟩
                  · have hod2 := Lib.hid (show ∀ e, e < d + 1 → inB (nth (nth (nth x.tables k) j) e) 0 (x.states - 1) = true from fun e he => by
                      rcases Nat.lt_succ_iff_lt_or_eq.1 he with h | rfl
                      · exact hod.out e h
                      · exact hin)
                    go_wp2
                    go_quiet ((go_at_call 73; exact quiet_same (specIn _ _ _ _ (by first | assumption | (rw [hwr]; assumption)) _)))
                    go_wp2
                    go_roundw
                    case rel => exact ⟨d + 1, _, by omega, by go_num, hod2, Lib.hid (draws_more hm.out _)⟩
                    case measure => simp [intOf]; omega
                · obtain rfl : d = (nth (nth x.tables k) j).length := by omega
                  have hoj2 := Lib.hid (allB_more hoj.out (show rowIn x.states x.base (nth (nth x.tables k) j) = true from rowIn_all Hrl.out (allIn_yes hod.out)))
                  go_wp2
                  go_roundw
                  case rel => exact ⟨j + 1, _, by omega, by go_num, hoj2, Lib.hid hm.out⟩
                  case measure => simp [intOf]; omega
            · have hrb : (((nth (nth x.tables k) j).length : Int) != x.base) = true := by simpa using hrl
              have hr := Lib.hid (vC_tab_no hlt (tabIn_row_no hlj (rowIn_len_no hrl)))
              clear hrl
              go_wp2
              go_quiet (fail)
              go_wp2
              go_ret
              exact ⟨by rw [← HB.out, hr.out]; rfl, _, draws_more hm.out _⟩
          · obtain rfl : j = (nth x.tables k).length := by omega
            have hok2 := Lib.hid (allB_more hok.out (tabIn_yes Hlen.out hoj.out))
            go_wp2
            go_roundw
            case rel => exact ⟨k + 1, _, by omega, by go_num, hok2, Lib.hid hm.out⟩
            case measure => simp [intOf]; omega
      · have hlb : (((nth x.tables k).length : Int) != x.states) = true := by simpa using hlen
        have hr := Lib.hid (vC_tab_no hlt (tabIn_len_no hlen))
        clear hlen
        go_wp2
        go_quiet (fail)
        go_wp2
        go_ret
        exact ⟨by rw [← HB.out, hr.out]; rfl, _, draws_more hm.out _⟩
    · obtain rfl : k = x.tables.length := by omega
      have hta := Lib.hid (show tabsC x = true from hok.out)
      go_wp2
      go_loopw [6, 7] (fun o i wr => ∃ k m : Nat, k ≤ x.places.length ∧ i = .int .i64 k ∧ o = .int .i64 (capP x.base k) ∧ Hid (∀ j, j < k → inB (nth x.places j) 0 ((x.tables.length : Int) - 1) = true) ∧ Hid (w.drewN m = wr)) (fun _ i _ => x.places.length - (intOf i).toNat)
      case atStart => exact ⟨0, _, Nat.zero_le _, rfl, by rw [capP_zero], Lib.hid (fun _ h => absurd h (Nat.not_lt_zero _)), hm⟩
      case round =>
        clear e0 e1 e4 e5
        obtain ⟨k, m, hk, rfl, rfl, hok, hm⟩ := hrel
        obtain ⟨W2, rfl⟩ : ∃ W2, W2 = wr := ⟨_, rfl⟩
        have e0 : W2.cell? ⟨bx, 0, none⟩ = some (.int .i64 x.base) := by rw [← hm.out]; exact g0
        have e4 : W2.cell? ⟨bx, 4, none⟩ = some (.slice a x.tables.length c) := by rw [← hm.out]; exact g4
        have e5 : W2.cell? ⟨bx, 5, none⟩ = some (.slice a' x.places.length c') := by rw [← hm.out]; exact g5
        have hcb := capP_bd (show 1 ≤ x.base by omega) k
        by_cases hlt : k < x.places.length
        · have Hp1 := Lib.hid (show RdI P W2 _ x.places by rw [← hm.out]; exact rd_draws RdI.ok Hp.out m)
          obtain ⟨b3, o3, u3, rfl, _, hc3, rfl⟩ := Rd.elim Hp1.out k hlt
          have hc4 : W2.cell? ⟨b3, o3 + k, none⟩ = some (.int .i64 (nth x.places k)) := hc3
          clear hc3
          cases hin : inB (nth x.places k) 0 ((x.tables.length : Int) - 1)
          · have hr := Lib.hid (plsC_no hlt hin)
            have hwt : wrap64 ((x.tables.length : Int) - 1) = (x.tables.length : Int) - 1 := wrap_in (by omega)
            go_wp2
            go_quiet ((go_at_call 73; exact quiet_same (specIn _ _ _ _ (by first | assumption | (rw [hwt]; assumption)) _)))
            go_wp2
            go_ret
            exact ⟨by rw [← HB.out, hr.out]; rfl, _, draws_more hm.out _⟩
          · have hok2 := Lib.hid (show ∀ e, e < k + 1 → inB (nth x.places e) 0 ((x.tables.length : Int) - 1) = true from fun e he => by
              rcases Nat.lt_succ_iff_lt_or_eq.1 he with h | rfl
              · exact hok.out e h
              · exact hin)
            have hcs := Lib.hid (capP_succ (show 1 ≤ x.base by omega) k)
            have hwt : wrap64 ((x.tables.length : Int) - 1) = (x.tables.length : Int) - 1 := wrap_in (by omega)
            have hm1 : capP x.base k * x.base ≤ 1000000000000001 * 36 := Int.mul_le_mul hcb.2 hbd.2 (by omega) (by omega)
            have hm0 : 0 ≤ capP x.base k * x.base := Int.mul_nonneg (by omega) (by omega)
            generalize capP x.base k = C at *
            go_wp2
            go_quiet ((go_at_call 73; exact quiet_same (specIn _ _ _ _ (by first | assumption | (rw [hwt]; assumption)) _)))
            clear hwt hin
            go_wp2_with (go_at_call 112; refine (specMin _ _ _ hcs.out _).mono ?_; rintro e w' ⟨rfl, rfl⟩)
            go_roundw
            case rel => exact ⟨k + 1, _, by omega, by go_num, rfl, hok2, Lib.hid (draws_more hm.out _)⟩
            case measure => simp [intOf]; omega
        · obtain rfl : k = x.places.length := by omega
          have hpa := Lib.hid (show plsC x = true from allIn_yes hok.out)
          have hv := Lib.hid (show vC x = decide (capP x.base x.places.length ≤ 1000000000000000) by simp only [vC, hhead.out, hta.out, hpa.out, capP_le, Bool.true_and, Bool.and_true])
          go_wp2
          go_ret
          exact ⟨by rw [← HB.out, hv.out]; rfl, _, hm.out⟩

end Go.Proofs.Ytnpkanlieflbiaa
