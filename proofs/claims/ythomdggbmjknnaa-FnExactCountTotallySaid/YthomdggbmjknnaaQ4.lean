/- Quasigroups: SwapClashes, ChainClashes, IsTotally, walked. -/
import Derived.Test.YthomdggbmjknnaaQ3
namespace Go.Proofs.Ythomdggbmjknnaa
open Go.RowKit
set_option linter.unusedVariables false

theorem rd_at {α : Type} {R : RRep α} (hR : R.Ok) {P : Nat → Prop} {w wr : World} {m : Nat} {v : Value} {x : α} (h : R P w v x) (hm : w.drewN m = wr) : R P wr v x := by rw [← hm]; exact rd_draws hR h m
/-- A square table of numbers below its length. -/
structure WQ (t : List (List Int)) : Prop where
  len : 1 ≤ t.length ∧ t.length ≤ 36
  row : ∀ x, x < t.length → (nth t x).length = t.length
  cell : ∀ x y, x < t.length → y < t.length → 0 ≤ nth (nth t x) y ∧ nth (nth t x) y < t.length
theorem isQ_wq {t : List (List Int)} (h : isQ t = true) : WQ t := ⟨isQ_len h, fun _ hx => isQ_rowLen h hx, fun _ _ hx hy => isQ_bd h hx hy⟩
theorem below_at {w0 w wr : World} {m : Nat} (h : Below w0.heap.size w0 w) (hm : w.drewN m = wr) : Below w0.heap.size w0 wr := h.trans ((below_draws ⟨m, hm⟩).mono h.size)

set_option maxRecDepth 10000 in
theorem specSwaps {B : Nat} {v : Value} {t : List (List Int)} {w : World} (h : RdII (· < B) w v t) (hq : WQ t) :
    Calls Try.prog 75 #[v] w fun e w' => e = .returned (.int .i64 (swapN t)) ∧ ∃ m, w.drewN m = w' := by
  have h0 := Lib.hid h
  have hl := hq.len
  have hrl := Lib.hid (fun x (hx : x < t.length) => hq.row x hx)
  obtain ⟨a, c, rfl, h1, h2⟩ := h.isSlice
  unfold maxLen at h2
  clear h hq
  rw [← swapN_eq]
  go_enter Try.func75, Try.ntmps75
  go_wp2
  go_loopw [3, 4] (fun o i wr => ∃ k m : Nat, k ≤ t.length ∧ i = .int .i64 k ∧ o = .int .i64 (sumB k fun x => cntB (t.length - (x + 1)) fun j => swapQ t x (x + 1 + j)) ∧ Hid (w.drewN m = wr)) (fun _ i _ => t.length - (intOf i).toNat)
  case atStart => exact ⟨0, 0, Nat.zero_le _, rfl, rfl, Lib.hid rfl⟩
  case round =>
    obtain ⟨x, m, hk, rfl, rfl, hm⟩ := hrel
    obtain ⟨W1, rfl⟩ : ∃ W1, W1 = wr := ⟨_, rfl⟩
    have hS : sumB x (fun x => cntB (t.length - (x + 1)) fun j => swapQ t x (x + 1 + j)) ≤ x * 36 := sumB_le fun i _ => by have := cntB_le (t.length - (i + 1)) fun j => swapQ t i (i + 1 + j); omega
    have hst := Lib.hid (sumB_succ x fun x => cntB (t.length - (x + 1)) fun j => swapQ t x (x + 1 + j))
    by_cases hlt : x < t.length
    · generalize hSS : sumB x (fun x => cntB (t.length - (x + 1)) fun j => swapQ t x (x + 1 + j)) = S at hS hst ⊢
      clear hSS
      go_wp2
      go_loopw [3, 5] (fun o i wc => ∃ j m : Nat, x + 1 + j ≤ t.length ∧ i = .int .i64 (x + 1 + j : Nat) ∧ o = .int .i64 (S + cntB j (fun j => swapQ t x (x + 1 + j)) : Nat) ∧ Hid (w.drewN m = wc)) (fun _ i _ => t.length - (intOf i).toNat)
      case atStart => exact ⟨0, m, by omega, by go_num, by rw [cntB_zero]; rfl, hm⟩
      case round =>
        obtain ⟨j, m2, hj, rfl, rfl, hm2⟩ := hrel
        have hC := cntB_le j fun j => swapQ t x (x + 1 + j)
        have hCs := cntB_succ j fun j => swapQ t x (x + 1 + j)
        by_cases hlt2 : x + 1 + j < t.length
        · generalize cntB j (fun j => swapQ t x (x + 1 + j)) = C at hC hCs ⊢
          obtain ⟨b, o, b1, o1, c1, rfl, _, _, hc1, hc2, g1, g2⟩ := (rd_at RdII.ok h0.out hm2.out).cell hlt (y := x + 1 + j) (by rw [hrl.out x hlt]; exact hlt2)
          obtain ⟨b', o', b3, o3, c3, e3, _, _, hc3, hc4, g3, g4⟩ := (rd_at RdII.ok h0.out hm2.out).cell hlt2 (y := x) (by rw [hrl.out _ hlt2]; exact hlt)
          simp only [Option.some.injEq, Addr.mk.injEq, and_true] at e3
          obtain ⟨rfl, rfl⟩ := e3
          rw [hrl.out x hlt] at hc1 g1
          rw [hrl.out _ hlt2] at hc3 g3
          unfold maxLen at g2 g4
          cases hb : swapQ t x (x + 1 + j)
          · have hbb : (nth (nth t x) (x + 1 + j) == nth (nth t (x + 1 + j)) x) = false := hb
            rw [hb] at hCs
            generalize hY : x + 1 + j = Y at *
            go_wp2
            go_quiet (fail)
            go_wp2
            go_roundw
            case rel => exact ⟨j + 1, _, by omega, by go_num, by rw [hCs]; rfl, Lib.hid (draws_more hm2.out _)⟩
            case measure => simp [intOf]; omega
          · have hbb : (nth (nth t x) (x + 1 + j) == nth (nth t (x + 1 + j)) x) = true := hb
            rw [hb] at hCs
            generalize hY : x + 1 + j = Y at *
            go_wp2
            go_quiet (fail)
            go_wp2
            go_roundw
            case rel => exact ⟨j + 1, _, by omega, by go_num, by rw [hCs]; go_num, Lib.hid (draws_more hm2.out _)⟩
            case measure => simp [intOf]; omega
        · have e : j = t.length - (x + 1) := by omega
          rw [e] at hC hCs ⊢
          generalize cntB (t.length - (x + 1)) (fun j => swapQ t x (x + 1 + j)) = C at hC hCs hst ⊢
          go_wp2
          go_roundw
          case rel => exact ⟨x + 1, _, by omega, by go_num, by rw [hst.out], hm2⟩
          case measure => simp [intOf]; omega
    · obtain rfl : x = t.length := by omega
      have hr := Lib.hid (show (sumB t.length fun x => cntB (t.length - (x + 1)) fun j => swapQ t x (x + 1 + j)) = swapN' t from rfl)
      rw [hr.out] at hS ⊢
      go_wp2
      go_ret
      exact ⟨rfl, m, hm.out⟩
set_option maxRecDepth 10000 in
set_option maxHeartbeats 1000000 in
theorem specChains {B : Nat} {v : Value} {t : List (List Int)} {w : World} (h : RdII (· < B) w v t) (hq : WQ t) :
    Calls Try.prog 76 #[v] w fun e w' => e = .returned (.int .i64 (chainN t)) ∧ ∃ m, w.drewN m = w' := by
  have h0 := Lib.hid h
  have hl := hq.len
  have hrl := Lib.hid (fun x (hx : x < t.length) => hq.row x hx)
  have hbd := Lib.hid (fun x y (hx : x < t.length) (hy : y < t.length) => hq.cell x y hx hy)
  obtain ⟨a, cp, rfl, h1, h2⟩ := h.isSlice
  unfold maxLen at h2
  clear h hq
  rw [← chainN_eq]
  go_enter Try.func76, Try.ntmps76
  go_wp2
  go_loopw [3, 4] (fun o i wr => ∃ k m : Nat, k ≤ t.length ∧ i = .int .i64 k ∧ o = .int .i64 (sumB k fun c => (sumB t.length fun x => (cntB (t.length - (x + 1)) fun j => chainQ t c x (x + 1 + j)))) ∧ Hid (w.drewN m = wr)) (fun _ i _ => t.length - (intOf i).toNat)
  case atStart => exact ⟨0, 0, Nat.zero_le _, rfl, rfl, Lib.hid rfl⟩
  case round =>
    obtain ⟨c, m0, hkc, rfl, rfl, hm0⟩ := hrel
    obtain ⟨W0, rfl⟩ : ∃ W0, W0 = wr := ⟨_, rfl⟩
    have hR : (sumB c fun c => (sumB t.length fun x => (cntB (t.length - (x + 1)) fun j => chainQ t c x (x + 1 + j)))) ≤ c * (36 * 36) := sumB_le fun c _ => by
      have : (sumB t.length fun x => (cntB (t.length - (x + 1)) fun j => chainQ t c x (x + 1 + j))) ≤ t.length * 36 := sumB_le fun i _ => by have := cntB_le (t.length - (i + 1)) fun j => chainQ t c i (i + 1 + j); omega
      omega
    have hstc := Lib.hid (sumB_succ c fun c => (sumB t.length fun x => (cntB (t.length - (x + 1)) fun j => chainQ t c x (x + 1 + j))))
    by_cases hlc : c < t.length
    · generalize (sumB c fun c => (sumB t.length fun x => (cntB (t.length - (x + 1)) fun j => chainQ t c x (x + 1 + j)))) = R at hR hstc ⊢
      go_wp2
      go_loopw [3, 5] (fun o i wr => ∃ k m : Nat, k ≤ t.length ∧ i = .int .i64 k ∧ o = .int .i64 (R + (sumB k fun x => (cntB (t.length - (x + 1)) fun j => chainQ t c x (x + 1 + j))) : Nat) ∧ Hid (w.drewN m = wr)) (fun _ i _ => t.length - (intOf i).toNat)
      case atStart => exact ⟨0, m0, Nat.zero_le _, rfl, by rw [sumB_zero]; rfl, hm0⟩
      case round =>
        obtain ⟨x, m, hk, rfl, rfl, hm⟩ := hrel
        obtain ⟨W1, rfl⟩ : ∃ W1, W1 = wr := ⟨_, rfl⟩
        have hS : (sumB x fun x => (cntB (t.length - (x + 1)) fun j => chainQ t c x (x + 1 + j))) ≤ x * 36 := sumB_le fun i _ => by have := cntB_le (t.length - (i + 1)) fun j => chainQ t c i (i + 1 + j); omega
        have hst := Lib.hid (sumB_succ x fun x => (cntB (t.length - (x + 1)) fun j => chainQ t c x (x + 1 + j)))
        by_cases hlt : x < t.length
        · generalize (sumB x fun x => (cntB (t.length - (x + 1)) fun j => chainQ t c x (x + 1 + j))) = S at hS hst ⊢
          go_wp2
          go_loopw [3, 6] (fun o i wc => ∃ j m : Nat, x + 1 + j ≤ t.length ∧ i = .int .i64 (x + 1 + j : Nat) ∧ o = .int .i64 (R + S + cntB j (fun j => chainQ t c x (x + 1 + j)) : Nat) ∧ Hid (w.drewN m = wc)) (fun _ i _ => t.length - (intOf i).toNat)
          case atStart => exact ⟨0, m, by omega, by go_num, by rw [cntB_zero]; rfl, hm⟩
          case round =>
            obtain ⟨j, m2, hj, rfl, rfl, hm2⟩ := hrel
            have hC := cntB_le j fun j => chainQ t c x (x + 1 + j)
            have hCs := cntB_succ j fun j => chainQ t c x (x + 1 + j)
            by_cases hlt2 : x + 1 + j < t.length
            · generalize cntB j (fun j => chainQ t c x (x + 1 + j)) = C at hC hCs ⊢
              obtain ⟨X, hX⟩ := Int.eq_ofNat_of_zero_le (hbd.out c x hlc hlt).1
              obtain ⟨Y, hY⟩ := Int.eq_ofNat_of_zero_le (hbd.out c (x + 1 + j) hlc hlt2).1
              have hXl : X < t.length := by have := (hbd.out c x hlc hlt).2; omega
              have hYl : Y < t.length := by have := (hbd.out c (x + 1 + j) hlc hlt2).2; omega
              obtain ⟨b, o, b1, o1, c1, rfl, _, _, hc1, hc2, g1, g2⟩ := (rd_at RdII.ok h0.out hm2.out).cell hlc (y := x) (by rw [hrl.out c hlc]; exact hlt)
              obtain ⟨b', o', b3, o3, c3, e3, _, _, hc3, hc4, g3, g4⟩ := (rd_at RdII.ok h0.out hm2.out).cell hlc (y := (x + 1 + j)) (by rw [hrl.out c hlc]; exact hlt2)
              simp only [Option.some.injEq, Addr.mk.injEq, and_true] at e3
              obtain ⟨rfl, rfl⟩ := e3
              obtain ⟨b', o', b5, o5, c5, e3, _, _, hc5, hc6, g5, g6⟩ := (rd_at RdII.ok h0.out hm2.out).cell hXl (y := (x + 1 + j)) (by rw [hrl.out _ hXl]; exact hlt2)
              simp only [Option.some.injEq, Addr.mk.injEq, and_true] at e3
              obtain ⟨rfl, rfl⟩ := e3
              obtain ⟨b', o', b7, o7, c7, e3, _, _, hc7, hc8, g7, g8⟩ := (rd_at RdII.ok h0.out hm2.out).cell hYl (y := x) (by rw [hrl.out _ hYl]; exact hlt)
              simp only [Option.some.injEq, Addr.mk.injEq, and_true] at e3
              obtain ⟨rfl, rfl⟩ := e3
              have e13 := hc3.symm.trans hc1
              simp only [Option.some.injEq, Value.slice.injEq, Addr.mk.injEq, and_true, true_and] at e13
              obtain ⟨⟨rfl, rfl⟩, rfl⟩ := e13
              rw [hrl.out c hlc] at hc1 hc3 g1 g3
              rw [hrl.out _ hXl] at hc5 g5
              rw [hrl.out _ hYl] at hc7 g7
              rw [hX] at hc2
              rw [hY] at hc4
              unfold maxLen at g2 g4 g6 g8
              have hQ : chainQ t c x (x + 1 + j) = (nth (nth t X) (x + 1 + j) == nth (nth t Y) x) := by unfold chainQ; rw [hX, hY, Int.toNat_natCast, Int.toNat_natCast]
              cases hb : chainQ t c x (x + 1 + j)
              · have hbb := hQ.symm.trans hb
                rw [hb] at hCs
                clear hQ hX hY
                generalize hY : x + 1 + j = Y' at *
                go_wp2
                go_quiet (fail)
                go_wp2
                go_roundw
                case rel => exact ⟨j + 1, _, by omega, by go_num, by rw [hCs]; rfl, Lib.hid (draws_more hm2.out _)⟩
                case measure => simp [intOf]; omega
              · have hbb := hQ.symm.trans hb
                rw [hb] at hCs
                clear hQ hX hY
                generalize hY : x + 1 + j = Y' at *
                go_wp2
                go_quiet (fail)
                go_wp2
                go_roundw
                case rel => exact ⟨j + 1, _, by omega, by go_num, by rw [hCs]; go_num, Lib.hid (draws_more hm2.out _)⟩
                case measure => simp [intOf]; omega
            · have e : j = t.length - (x + 1) := by omega
              rw [e] at hC hCs ⊢
              generalize cntB (t.length - (x + 1)) (fun j => chainQ t c x (x + 1 + j)) = C at hC hCs hst ⊢
              go_wp2
              go_roundw
              case rel => exact ⟨x + 1, _, by omega, by go_num, by rw [hst.out, Nat.add_assoc], hm2⟩
              case measure => simp [intOf]; omega
        · obtain rfl : x = t.length := by omega
          generalize (sumB t.length fun x => (cntB (t.length - (x + 1)) fun j => chainQ t c x (x + 1 + j))) = S at hS hst hstc ⊢
          go_wp2
          go_roundw
          case rel => exact ⟨c + 1, _, by omega, by go_num, by rw [hstc.out], hm⟩
          case measure => simp [intOf]; omega
    · obtain rfl : c = t.length := by omega
      have hr := Lib.hid (show (sumB t.length fun c => (sumB t.length fun x => (cntB (t.length - (x + 1)) fun j => chainQ t c x (x + 1 + j)))) = chainN' t from rfl)
      rw [hr.out] at hR ⊢
      go_wp2
      go_ret
      exact ⟨rfl, m0, hm0.out⟩

/-! ### IsTotally -/
def isT (t : List (List Int)) : Bool := isQ t && (decide (swapN t = 0) && decide (chainN t = 0))
theorem isT_no {t : List (List Int)} (h : isQ t = false) : isT t = false := by simp [isT, h]
theorem isT_yes {t : List (List Int)} (h : isQ t = true) : isT t = (decide (swapN t = 0) && decide (chainN t = 0)) := by simp [isT, h]

def totB (t : List (List Int)) : Bool := decide (swapN t = 0) && decide (chainN t = 0)
theorem totB_eq (t : List (List Int)) : totB t = (decide (swapN t = 0) && decide (chainN t = 0)) := rfl
theorem specTotallyW {B : Nat} {v : Value} {t : List (List Int)} {w : World} (h : RdII (· < B) w v t) (hq : WQ t) :
    Calls Try.prog 65 #[v] w fun e w' => e = .returned (.bool (totB t)) ∧ ∃ m, w.drewN m = w' := by
  have hr := Lib.hid (totB_eq t)
  have hq' := Lib.hid hq
  clear hq
  go_enter Try.func65, Try.ntmps65
  go_wp2_with fail
  refine (specSwaps h hq'.out).mono ?_
  rintro e w1 ⟨rfl, m, hm⟩
  by_cases e1 : swapN t = 0
  · rw [e1]
    rw [e1] at hr
    go_wp2_with fail
    refine (specChains (rd_at RdII.ok h hm) hq'.out).mono ?_
    rintro e w2 ⟨rfl, m2, hm2⟩
    have hmm := Lib.hid (draws_more hm m2)
    by_cases e2 : chainN t = 0
    · rw [e2]
      rw [e2] at hr
      go_wp2_with fail
      go_ret
      exact ⟨by rw [hr.out]; rfl, _, hmm.out.trans hm2⟩
    · have e2b : ((chainN t : Int) == 0) = false := by simp; omega
      have e2c := Lib.hid (show decide (chainN t = 0) = false by simp [e2])
      clear e2
      go_wp2_with fail
      go_ret
      exact ⟨by rw [hr.out, e2c.out]; rfl, _, hmm.out.trans hm2⟩
  · have e1b : ((swapN t : Int) == 0) = false := by simp; omega
    have e1c := Lib.hid (show decide (swapN t = 0) = false by simp [e1])
    clear e1
    go_wp2_with fail
    go_ret
    exact ⟨by rw [hr.out, e1c.out]; rfl, _, hm⟩

theorem specTotally {B : Nat} {v : Value} {t : List (List Int)} {w : World} (h : RdII (· < B) w v t) (hq : isQ t = true) :
    Calls Try.prog 65 #[v] w fun e w' => e = .returned (.bool (isT t)) ∧ ∃ m, w.drewN m = w' := by
  rw [isT_yes hq]
  exact specTotallyW h (isQ_wq hq)

end Go.Proofs.Ythomdggbmjknnaa
