/- ValidPermuting, walked on both sides. -/
import Derived.Test.YtnpkanlieflbiaaJ1
import Derived.Test.YtnpkanlieflbiaaV3
import Derived.Test.YtnpkanlieflbiaaS1
namespace Go.Proofs.Ytnpkanlieflbiaa
open Go.RowKit
set_option linter.unusedVariables false

def ordOk (base : Int) (o : List Int) : Bool := decide ((o.length : Int) = base) && isOrd o 36
def vP (x : Prm) : Bool := manyB x.base x.orders.length && (inB x.target 0 (x.base - 1) && allB x.orders.length fun i => ordOk x.base (nth x.orders i))
theorem any_allB (n : Nat) (p : Nat → Bool) : ((List.range n).any fun i => !p i) = !allB n p := by
  unfold allB
  rw [List.any_eq_not_all_not]
  simp
theorem vP_many {x : Prm} (h : manyB x.base x.orders.length = false) : vP x = false := by simp [vP, h]
theorem vP_tar {x : Prm} (h : inB x.target 0 (x.base - 1) = false) : vP x = false := by simp [vP, h]
theorem vP_at {x : Prm} (h : manyB x.base x.orders.length = true) (h2 : inB x.target 0 (x.base - 1) = true) {b : Bool} (h3 : allB x.orders.length (fun i => ordOk x.base (nth x.orders i)) = b) : vP x = b := by simp [vP, h, h2, h3]
theorem many_parts {base : Int} {n : Nat} : manyB base n = (inB base 2 36 && (inB n 1 20 && powB base n)) := rfl

theorem implVP1 {B : Nat} {u : Value} {o : List Int} {b : Nat} {w : World} (base : Int) (hu : RdI (· < B) w u o) (hP : B ≤ w.heap.size) (hc : w.cell? ⟨b, 0, none⟩ = some (.int .i64 base)) (hn : o.length ≤ 1048576) :
    Calls Try.prog 127 (#[u] ++ #[.pointer (some ⟨b, 0, none⟩)]) w fun e w' => e = .returned (.bool (!ordOk base o)) ∧ Below w.heap.size w w' := by
  have Hu := Lib.hid hu
  have HP := Lib.hid hP; clear hP
  obtain ⟨a, c, rfl, g1, g2, _⟩ := hu
  unfold maxLen at g2
  by_cases hl : (o.length : Int) = base
  · have hlb : ((o.length : Int) != base) = false := by simp [hl]
    have hr := Lib.hid (show (!ordOk base o) = !isOrd o 36 by simp [ordOk, hl])
    clear hl
    show Calls Try.prog 127 #[.slice a o.length c, .pointer (some ⟨b, 0, none⟩)] w _
    go_enter Try.func127, Try.ntmps127
    go_wp2_with (go_at_call 128; refine (implIsOrder Hu.out HP.out hn).mono ?_; rintro e w' ⟨rfl, hb2⟩)
    go_ret
    exact ⟨by rw [hr.out]; cases isOrd o 36 <;> rfl, by assumption⟩
  · have hlb : ((o.length : Int) != base) = true := by simp [hl]
    have hr := Lib.hid (show (!ordOk base o) = true by simp [ordOk, hl])
    clear hl
    show Calls Try.prog 127 #[.slice a o.length c, .pointer (some ⟨b, 0, none⟩)] w _
    go_enter Try.func127, Try.ntmps127
    go_wp2
    go_ret
    exact ⟨ret_bool hr.out.symm, Below.refl _ _⟩

theorem ordOk_eq {base : Int} {o : List Int} (hb : 2 ≤ base ∧ base ≤ 36) : (ordB o base o.length && decide ((o.length : Int) = base)) = ordOk base o := by
  unfold ordOk isOrd
  by_cases h : (o.length : Int) = base
  · rw [← h] at hb ⊢
    simp
    omega
  · simp [h]
theorem wrap_pred' {z : Int} (h : 2 ≤ z ∧ z ≤ 36) : IntKind.i64.wrap (z - 1) = z - 1 := IntWalk.i64_in _ (by omega)

set_option maxRecDepth 10000 in
set_option maxHeartbeats 1600000 in
theorem implValidPermuting {B : Nat} {v : Value} {x : Prm} {w : World} (h : RdP (· < B) w v x) (hB : B ≤ w.heap.size) (hn : szP x ≤ 1048576) (b : Bool) (hb : vP x = b) :
    Calls Try.prog 71 #[v] w fun e w' => e = .returned (.bool b) ∧ Below w.heap.size w w' := by
  have HB := Lib.hid hb; clear hb
  obtain ⟨u, rfl, hu⟩ := h
  obtain ⟨a, c, rfl, h1, h2⟩ := hu.isSlice
  have Hu := Lib.hid hu; clear hu
  have hln : x.orders.length ≤ 1048576 := Nat.le_trans (szL_len List.length x.orders) hn
  have hrl := Lib.hid (fun i (hi : i < x.orders.length) => Nat.le_trans (szL_nth List.length hi) hn)
  have hbx := Lib.hid ((Below.refl w.heap.size w).alloc (Nat.le_refl _) (.cells #[.int .i64 x.base, .int .i64 x.target, .slice a x.orders.length c] 43))
  unfold maxLen at h2
  unfold aggP
  cases hbase : inB x.base 2 36
  · have hr := Lib.hid (show vP x = false by simp [vP, manyB, hbase])
    go_enter Try.func71, Try.ntmps71
    go_wp2_with (go_at_call 118; refine (implBase _ _ (by assumption) _).mono ?_; rintro e w' ⟨rfl, rfl⟩)
    go_ret
    exact ⟨by rw [← HB.out, hr.out]; rfl, hbx.out⟩
  have hbd := inB_true.1 hbase
  have hwr := wrap_pred' hbd
  cases htar : inB x.target 0 (x.base - 1)
  · have hr := Lib.hid (vP_tar htar)
    go_enter Try.func71, Try.ntmps71
    go_wp2_with (first | (go_at_call 118; refine (implBase _ _ (by assumption) _).mono ?_; rintro e w' ⟨rfl, rfl⟩) | (go_at_call 78; refine (implIn _ _ _ _ (by assumption) _).mono ?_; rintro e w' ⟨rfl, rfl⟩))
    go_ret
    exact ⟨by rw [← HB.out, hr.out]; rfl, hbx.out⟩
  cases hlen : inB x.orders.length 1 20
  · have hr := Lib.hid (show vP x = false by simp [vP, manyB, hlen])
    go_enter Try.func71, Try.ntmps71
    go_wp2_with (first | (go_at_call 118; refine (implBase _ _ (by assumption) _).mono ?_; rintro e w' ⟨rfl, rfl⟩) | (go_at_call 78; refine (implIn _ _ _ _ (by assumption) _).mono ?_; rintro e w' ⟨rfl, rfl⟩))
    go_ret
    exact ⟨by rw [← HB.out, hr.out]; rfl, hbx.out⟩
  have Hbd := Lib.hid hbd
  cases hpow : powB x.base x.orders.length
  · have hr := Lib.hid (show vP x = false by simp [vP, manyB, hpow])
    have Hp := Lib.hid hpow; clear hpow
    go_enter Try.func71, Try.ntmps71
    go_wp2_with (first | (go_at_call 118; refine (implBase _ _ (by assumption) _).mono ?_; rintro e w' ⟨rfl, rfl⟩) | (go_at_call 78; refine (implIn _ _ _ _ (by assumption) _).mono ?_; rintro e w' ⟨rfl, rfl⟩) | (go_at_call 79; refine (implPowerOk _ _ Hbd.out hln _ Hp.out _).mono ?_; rintro e w' ⟨rfl, rfl⟩))
    go_ret
    exact ⟨by rw [← HB.out, hr.out]; rfl, hbx.out⟩
  obtain ⟨W1, hW1⟩ : ∃ W1, W1 = w.alloc (.cells #[.int .i64 x.base, .int .i64 x.target, .slice a x.orders.length c] 43) := ⟨_, rfl⟩
  have hs1 : W1.heap.size = w.heap.size + 1 := by rw [hW1]; simp
  have hcell : W1.cell? ⟨w.heap.size, 0, none⟩ = some (.int .i64 x.base) := by rw [hW1]; exact heap_cell (heap_alloc_new w _) rfl
  rw [← hW1] at hbx
  have Hu1 := Lib.hid (RdII.ok.keep Hu.out fun k hk => hbx.out.block k (by omega))
  have HW1 := Lib.hid hW1; clear hW1
  have Hc := Lib.hid (fun i (hi : i < x.orders.length) (u : Value) w1 (hb1 : Below W1.heap.size W1 w1) (hu1 : RdI (· < B) w1 u (nth x.orders i)) => implVP1 (b := w.heap.size) (w := w1) x.base hu1 (by have := hb1.size; omega) ((hb1.cell (p := ⟨w.heap.size, 0, none⟩) (by show w.heap.size < W1.heap.size; omega)).trans hcell) (hrl.out i hi))
  have hany := Lib.hid (any_allB x.orders.length fun i => ordOk x.base (nth x.orders i))
  cases hall : allB x.orders.length fun i => ordOk x.base (nth x.orders i)
  all_goals
    have hr := Lib.hid (vP_at (x := x) (by simp only [manyB, hbase, hlen, hpow]; rfl) htar hall)
    have hany2 := Lib.hid (hany.out.trans (by rw [hall]))
    have Hp := Lib.hid hpow; clear hpow
    clear hall hany hcell
    go_enter Try.func71, Try.ntmps71
    go_wp2_with (first | (go_at_call 118; refine (implBase _ _ (by assumption) _).mono ?_; rintro e w' ⟨rfl, rfl⟩) | (go_at_call 78; refine (implIn _ _ _ _ (by assumption) _).mono ?_; rintro e w' ⟨rfl, rfl⟩) | (go_at_call 79; refine (implPowerOk _ _ Hbd.out hln _ Hp.out _).mono ?_; rintro e w' ⟨rfl, rfl⟩))
    rw [← HW1.out]
    refine (slContainsFunc2 Hu1.out (by omega) 127 #[.pointer (some ⟨w.heap.size, 0, none⟩)] _ Hc.out (fun _ _ => by kernel_rfl) _ hany2.out).mono ?_
    rintro e w2 ⟨rfl, hb2⟩
    have Hb2 := Lib.hid (hbx.out.trans (hb2.mono (by omega))); clear hb2
    go_wp2
    go_ret
    exact ⟨by rw [← HB.out, hr.out]; rfl, Hb2.out⟩

set_option maxRecDepth 10000 in
set_option maxHeartbeats 1600000 in
theorem specL03Permuting {P : Nat → Prop} {bx : Nat} {x : Prm} {w : World} (h : BoxP P w bx x) (hn : szP x ≤ 1048576) (b : Bool) (hb : vP x = b) :
    Calls Try.prog 69 #[.pointer (some ⟨bx, 0, none⟩)] w fun e w' => e = .returned (.bool b) ∧ ∃ m, w.drewN m = w' := by
  have HB := Lib.hid hb; clear hb
  have H := Lib.hid h
  obtain ⟨a, c, g0, g1, g2, hu, h1, h2⟩ := h.cells
  have Hu := Lib.hid hu; clear hu h
  have hln : x.orders.length ≤ 1048576 := Nat.le_trans (szL_len List.length x.orders) hn
  unfold maxLen at h2
  cases hm : manyB x.base x.orders.length
  · have hr := Lib.hid (vP_many hm)
    have Hm := Lib.hid hm; clear hm
    go_enter Try.func69, Try.ntmps69
    go_wp2
    go_quiet ((go_at_call 74; exact quiet_same (specMany _ _ hln _ Hm.out _)))
    go_wp2
    go_ret
    exact ⟨by rw [← HB.out, hr.out]; rfl, _, rfl⟩
  have hbd : 2 ≤ x.base ∧ x.base ≤ 36 := by simp only [manyB, Bool.and_eq_true, inB_true] at hm; exact hm.1
  have hl20 : x.orders.length ≤ 20 := by simp only [manyB, Bool.and_eq_true, inB_true] at hm; omega
  have hwr := wrap_pred' hbd
  cases htar : inB x.target 0 (x.base - 1)
  · have hr := Lib.hid (vP_tar htar)
    have Hm := Lib.hid hm; clear hm
    go_enter Try.func69, Try.ntmps69
    go_wp2
    go_quiet ((first | (go_at_call 74; exact quiet_same (specMany _ _ hln _ Hm.out _)) | (go_at_call 73; exact quiet_same (specIn _ _ _ _ (by first | assumption | (rw [hwr]; assumption)) _))))
    go_wp2
    go_ret
    exact ⟨by rw [← HB.out, hr.out]; rfl, _, rfl⟩
  have hvp := Lib.hid (fun (b : Bool) (h3 : allB x.orders.length (fun i => ordOk x.base (nth x.orders i)) = b) => vP_at hm htar h3)
  have Hm := Lib.hid hm; clear hm
  go_enter Try.func69, Try.ntmps69
  go_wp2
  go_quiet ((first | (go_at_call 74; exact quiet_same (specMany _ _ hln _ Hm.out _)) | (go_at_call 73; exact quiet_same (specIn _ _ _ _ (by first | assumption | (rw [hwr]; assumption)) _))))
  go_wp2
  go_loopw [3, 4] (fun dv iv wr => ∃ k d m : Nat, k ≤ x.orders.length ∧ d ≤ k ∧ iv = .int .i64 k ∧ dv = .int .i64 d ∧ Hid (allB k (fun i => ordOk x.base (nth x.orders i)) = true) ∧ Hid (w.drewN m = wr)) (fun _ iv _ => x.orders.length - (intOf iv).toNat)
  case atStart => exact ⟨0, 0, nq, Nat.zero_le _, Nat.le_refl _, rfl, rfl, Lib.hid rfl, Lib.hid rfl⟩
  case round =>
    clear hwr htar
    obtain ⟨k, d, m, hk, hdk, rfl, rfl, hok, hm⟩ := hrel
    obtain ⟨W2, rfl⟩ : ∃ W2, W2 = wr := ⟨_, rfl⟩
    have e0 : W2.cell? ⟨bx, 0, none⟩ = some (.int .i64 x.base) := by rw [← hm.out]; exact g0
    have e2 : W2.cell? ⟨bx, 2, none⟩ = some (.slice a x.orders.length c) := by rw [← hm.out]; exact g2
    have Hu1 := Lib.hid (show RdII P W2 _ x.orders by rw [← hm.out]; exact rd_draws RdII.ok Hu.out m)
    by_cases hlt : k < x.orders.length
    · obtain ⟨b2, o2, a1, c1, rfl, _, hc1, q1, q2, hr1⟩ := Rd.row Hu1.out hlt
      have Hr1 := Lib.hid hr1; clear hr1
      have hso := Lib.hid (fun n => specOrder (rd_draws RdI.ok Hr1.out n) x.base (by omega) (by omega))
      have hoe := Lib.hid (ordOk_eq (o := nth x.orders k) hbd)
      unfold maxLen at q2
      cases hin : ordOk x.base (nth x.orders k)
      · have hr := Lib.hid (hvp.out false (allB_no hlt hin))
        rw [hin] at hoe
        go_wp2
        go_quiet ((go_at_call 123; exact quiet_draws ((hso.out _).mono (by rw [hoe.out]; exact fun _ _ h => h))))
        go_wp2
        go_ret
        exact ⟨by rw [← HB.out, hr.out]; rfl, _, draws_more hm.out _⟩
      · have hok2 := Lib.hid (allB_more hok.out hin)
        rw [hin] at hoe
        clear hin
        go_wp2
        go_quiet ((go_at_call 123; exact quiet_draws ((hso.out _).mono (by rw [hoe.out]; exact fun _ _ h => h))))
        have hm2 := Lib.hid (draws_more hm.out nq)
        generalize W2.drewN nq = W3 at *
        clear e0 e2 hc1
        go_wp2
        go_loopw [5, 6] (fun fv jv wi => ∃ (j m : Nat) (f : Bool), j ≤ k ∧ jv = .int .i64 j ∧ fv = .bool f ∧ Hid (w.drewN m = wi)) (fun _ jv _ => k - (intOf jv).toNat)
        case atStart => exact ⟨0, _, true, Nat.zero_le _, rfl, rfl, hm2⟩
        case round =>
          obtain ⟨j, m3, f, hj, rfl, rfl, hm3⟩ := hrel
          obtain ⟨W4, rfl⟩ : ∃ W4, W4 = wr := ⟨_, rfl⟩
          by_cases hjk : j < k
          · cases f
            · go_wp2
              go_quiet (fail)
              go_wp2
              go_roundw
              case rel => exact ⟨j + 1, _, false, by omega, by go_num, rfl, Lib.hid (draws_more hm3.out _)⟩
              case measure => simp [intOf]; omega
            · have e2 : W4.cell? ⟨bx, 2, none⟩ = some (.slice (some ⟨b2, o2, none⟩) x.orders.length c) := by rw [← hm3.out]; exact g2
              have Hu4 := Lib.hid (show RdII P W4 _ x.orders by rw [← hm3.out]; exact rd_draws RdII.ok Hu.out m3)
              obtain ⟨b5, o5, a5, c5, ea, _, hc5, q5, q6, hr5⟩ := Rd.row Hu4.out hlt
              obtain ⟨b6, o6, a6, c6, eb, _, hc6, q7, q8, hr6⟩ := Rd.row Hu4.out (show j < x.orders.length by omega)
              simp only [Option.some.injEq, Addr.mk.injEq, and_true] at ea eb
              obtain ⟨rfl, rfl⟩ := ea
              obtain ⟨rfl, rfl⟩ := eb
              have hss := Lib.hid (fun n => specSame (rd_draws RdI.ok hr6 n) (rd_draws RdI.ok hr5 n))
              have hjo : j < x.orders.length := by omega
              clear hr5 hr6
              unfold maxLen at q6 q8
              go_wp2
              go_quiet ((go_at_call 124; exact quiet_draws (hss.out _)))
              go_wp2
              go_roundw
              case rel => exact ⟨j + 1, _, _, by omega, by go_num, rfl, Lib.hid (draws_more hm3.out _)⟩
              case measure => simp [intOf]; omega
          · obtain rfl : j = k := by omega
            cases f
            · go_wp2
              go_roundw
              case rel => exact ⟨j + 1, d, _, by omega, by omega, by go_num, rfl, hok2, hm3⟩
              case measure => simp [intOf]; omega
            · go_wp2
              go_roundw
              case rel => exact ⟨j + 1, d + 1, _, by omega, by omega, by go_num, by go_num, hok2, hm3⟩
              case measure => simp [intOf]; omega
    · obtain rfl : k = x.orders.length := by omega
      have hr := Lib.hid (hvp.out true hok.out)
      have hd20 : (d : Int) ≤ 20 := by omega
      go_wp2
      go_ret
      exact ⟨by rw [← HB.out, hr.out]; rfl, _, hm.out⟩

end Go.Proofs.Ytnpkanlieflbiaa
