/- RenameTable. -/
import Derived.Test.YtakliggacjckpaaB4
namespace Go.Proofs.Ytakliggacjckpaa
open Go.RowKit
set_option linter.unusedVariables false

def ordN (t : List (List Int)) (xs : List Int) : Bool := decide (xs.length = t.length) && isOrd xs 36
theorem ordN_spec {t : List (List Int)} (h1 : 1 ≤ t.length) (h2 : t.length ≤ 36) (xs : List Int) : (ordB xs (t.length : Int) xs.length && decide ((xs.length : Int) = t.length)) = ordN t xs := by
  unfold ordN isOrd
  by_cases e : xs.length = t.length
  · rw [e]; simp; omega
  · have : ¬ ((xs.length : Int) = t.length) := by omega
    simp [e, this]
theorem ordN_len {t : List (List Int)} {xs : List Int} (h : ordN t xs = true) : xs.length = t.length := by simp only [ordN, Bool.and_eq_true, decide_eq_true_eq] at h; exact h.1
theorem ordN_bd {t : List (List Int)} {xs : List Int} (h : ordN t xs = true) {i : Nat} (hi : i < t.length) : 0 ≤ nth xs i ∧ nth xs i < t.length := by
  have hl := ordN_len h
  simp only [ordN, isOrd, Bool.and_eq_true] at h
  have := (ordB_at h.2.1 (k := i) (by omega)).1
  omega
def renSet (t : List (List Int)) (r c v : List Int) (x y : Nat) (out : List (List Int)) : List (List Int) := set2 out (nth r x).toNat (nth c y).toNat (nth v (nth (nth t x) y).toNat)
def renRow (t : List (List Int)) (r c v : List Int) (x : Nat) (out : List (List Int)) (y : Nat) : List (List Int) := iterTo (fun out y => renSet t r c v x y out) out y
def renTo (t : List (List Int)) (r c v : List Int) (x : Nat) : List (List Int) := iterTo (fun out x => renRow t r c v x out t.length) (zeros t.length) x
def renOk (t : List (List Int)) (r c v : List Int) : Bool := isQ t && (ordN t r && (ordN t c && ordN t v))
def renV (t : List (List Int)) (r c v : List Int) : List (List Int) := if renOk t r c v then renTo t r c v t.length else []
theorem renV_no {t : List (List Int)} {r c v : List Int} (h : renOk t r c v = false) : renV t r c v = [] := by simp [renV, h]
theorem renV_yes {t : List (List Int)} {r c v : List Int} (h : renOk t r c v = true) : renV t r c v = renTo t r c v t.length := by simp [renV, h]
theorem renRow_sq {t : List (List Int)} {r c v : List Int} (hr : ordN t r = true) {x : Nat} (hx : x < t.length) {out : List (List Int)} (h : Sq t.length out) {y : Nat} (hy : y ≤ t.length) : Sq t.length (renRow t r c v x out y) :=
  iterTo_inv (Sq t.length) h (fun b k hk hb => set2_sq hb _ _ _ (by have := ordN_bd hr hx; omega)) y hy
theorem renTo_sq {t : List (List Int)} {r c v : List Int} (hr : ordN t r = true) {x : Nat} (hx : x ≤ t.length) : Sq t.length (renTo t r c v x) :=
  iterTo_inv (Sq t.length) (zeros_sq _) (fun b k hk hb => renRow_sq hr hk hb (Nat.le_refl _)) x hx
theorem renV_cnt (t : List (List Int)) (r c v : List Int) : cntL List.length (renV t r c v) ≤ 1296 := by
  unfold renV
  split
  · rename_i h
    simp only [renOk, Bool.and_eq_true] at h
    exact sq_cnt (renTo_sq h.2.1 (Nat.le_refl _)) (isQ_len h.1).2
  · simp [cntL]

set_option maxRecDepth 10000 in
set_option maxHeartbeats 1000000 in
theorem specRename {B : Nat} {vt vr vc vv : Value} {t : List (List Int)} {r c v : List Int} {w : World} (h : RdII (· < B) w vt t) (hr : RdI (· < B) w vr r) (hc : RdI (· < B) w vc c) (hv : RdI (· < B) w vv v) (hB : B ≤ w.heap.size) (hq : isQ t = true) (ho1 : ordN t r = true) (ho2 : ordN t c = true) (ho3 : ordN t v = true) :
    Calls Try.prog 73 #[vt, vr, vc, vv] w fun e w' => ∃ v', e = .returned v' ∧ Fresh OII w w' v' (renTo t r c v t.length) := by
  have hq' := Lib.hid hq
  have h0 := Lib.hid h
  have hl := isQ_len hq
  have hrl := Lib.hid (fun x (hx : x < t.length) => isQ_rowLen hq hx)
  have hbd := Lib.hid (fun x y (hx : x < t.length) (hy : y < t.length) => isQ_bd hq hx hy)
  obtain ⟨a, cp, rfl, h1, h2⟩ := h.isSlice
  obtain ⟨ar, cpr, rfl, k1, k2⟩ := hr.isSlice
  obtain ⟨ac, cpc, rfl, k3, k4⟩ := hc.isSlice
  obtain ⟨av, cpv, rfl, k5, k6⟩ := hv.isSlice
  have Hrr := Lib.hid hr
  have Hrc := Lib.hid hc
  have Hrv := Lib.hid hv
  have lr := ordN_len ho1
  have lc := ordN_len ho2
  have lv := ordN_len ho3
  have hor := Lib.hid ho1
  have hoc := Lib.hid ho2
  have hov := Lib.hid ho3
  rw [lr] at k1 Hrr
  rw [lc] at k3 Hrc
  rw [lv] at k5 Hrv
  unfold maxLen at h2 k2 k4 k6
  clear h hq hr hc hv
  rw [lr, lc, lv]
  go_enter Try.func73, Try.ntmps73
  go_wp2_with fail
  refine (specBlank t.length hl.2 w).mono ?_
  rintro e w1 ⟨v1, rfl, hf⟩
  obtain ⟨gt, ct, rfl⟩ := hf.shape (by simp [zeros]; omega)
  have hl3 := hf.len2
  rw [show (zeros t.length).length = t.length by simp [zeros]] at *
  have Hf := Lib.hid hf
  clear hf
  unfold maxLen at hl3
  go_wp2_with fail
  go_loopw [10] (fun i wr => ∃ k : Nat, k ≤ t.length ∧ i = .int .i64 k ∧ Hid (Fresh OII w wr (.slice (some ⟨gt, 0, none⟩) t.length ct) (renTo t r c v k))) (fun i _ => t.length - (intOf i).toNat)
  case atStart => exact ⟨0, Nat.zero_le _, rfl, Hf⟩
  case round =>
    obtain ⟨x, hk, rfl, hf⟩ := hrel
    by_cases hlt : x < t.length
    · obtain ⟨b, o, a', c', rfl, hb, hcw, g1, g2, hr⟩ := h0.out.row hlt
      have Hr := Lib.hid hr
      clear hr
      rw [hrl.out x hlt] at hcw g1 Hr
      have hc := (hf.out.bel.cell (Nat.lt_of_lt_of_le hb hB)).trans hcw
      have Hcw := Lib.hid hcw
      clear hcw
      unfold maxLen at g2
      go_wp2
      go_loopw [11] (fun i wr => ∃ k : Nat, k ≤ t.length ∧ i = .int .i64 k ∧ Hid (Fresh OII w wr (.slice (some ⟨gt, 0, none⟩) t.length ct) (renRow t r c v x (renTo t r c v x) k))) (fun i _ => t.length - (intOf i).toNat)
      case atStart => exact ⟨0, Nat.zero_le _, rfl, hf⟩
      case round =>
        clear hc
        obtain ⟨y, hky, rfl, hg⟩ := hrel
        by_cases hlty : y < t.length
        · have hsq := renRow_sq (c := c) (v := v) (hor.out) hlt (renTo_sq (c := c) (v := v) hor.out (Nat.le_of_lt hlt)) hky
          have hc := (hg.out.bel.cell (Nat.lt_of_lt_of_le hb hB)).trans Hcw.out
          obtain ⟨b', o', rfl, hPb', hc4⟩ := RdI.cell (Rd.below RdI.ok Hr.out (hg.out.bel.mono hB)) (i := y) (by rw [hrl.out x hlt]; exact hlty)
          obtain ⟨Z, hZ⟩ := Int.eq_ofNat_of_zero_le (hbd.out x y hlt hlty).1
          have hZl : Z < t.length := by have := (hbd.out x y hlt hlty).2; omega
          obtain ⟨X, hX⟩ := Int.eq_ofNat_of_zero_le (ordN_bd hor.out hlt).1
          have hXl : X < t.length := by have := (ordN_bd hor.out hlt).2; omega
          obtain ⟨Y, hY⟩ := Int.eq_ofNat_of_zero_le (ordN_bd hoc.out hlty).1
          have hYl : Y < t.length := by have := (ordN_bd hoc.out hlty).2; omega
          obtain ⟨br, or_, er, _, hcr⟩ := RdI.cell (Rd.below RdI.ok Hrr.out (hg.out.bel.mono hB)) (i := x) (by rw [ordN_len hor.out]; exact hlt)
          obtain ⟨bc, oc, ec, _, hcc⟩ := RdI.cell (Rd.below RdI.ok Hrc.out (hg.out.bel.mono hB)) (i := y) (by rw [ordN_len hoc.out]; exact hlty)
          obtain ⟨bv, ov, ev, _, hcv⟩ := RdI.cell (Rd.below RdI.ok Hrv.out (hg.out.bel.mono hB)) (i := Z) (by rw [ordN_len hov.out]; exact hZl)
          subst er ec ev
          have hnext : renRow t r c v x (renTo t r c v x) (y + 1) = set2 (renRow t r c v x (renTo t r c v x) y) X Y (nth v Z) := by
            rw [show renRow t r c v x (renTo t r c v x) (y + 1) = renSet t r c v x y (renRow t r c v x (renTo t r c v x) y) from rfl]
            generalize renRow t r c v x (renTo t r c v x) y = O
            unfold renSet
            rw [hX, hY, hZ]; rfl
          rw [hZ] at hc4
          rw [hX] at hcr
          rw [hY] at hcc
          obtain ⟨gx, cx, hd, g5, g6, hc2, hfz, hge, hput⟩ := hg.out.put2 (x := X) (y := Y) (by rw [hsq.1]; exact hXl) (by rw [hsq.2 _ hXl]; exact hYl)
          rw [hsq.2 _ hXl] at hd g5
          unfold maxLen at g6
          have Hput := Lib.hid hput
          have Hn := Lib.hid hnext
          clear hput hnext
          go_wp2
          go_still_tail 22, (by kernel_rfl)
          change wpList _ _ _ _ _ wr.drew
          generalize hwd : wr.drew = W2
          have hfz2 : W2.frozen? ⟨gx, Y, none⟩ = false := by rw [← hwd]; exact hfz
          have hc22 : W2.cell? ⟨gx, Y, none⟩ = some (.int .i64 (nth (nth (renRow t r c v x (renTo t r c v x) y) X) Y)) := by rw [← hwd]; exact hc2
          have Hwd := Lib.hid hwd
          clear hwd
          go_wp2
          go_roundw
          case rel => exact ⟨y + 1, by omega, by go_num, Lib.hid (by rw [Hn.out, ← Hwd.out]; exact Hput.out _ ((Below.refl _ _).drew) _)⟩
          case measure => simp [intOf]; omega
        · obtain rfl : y = t.length := by omega
          go_wp2
          go_roundw
          case rel => exact ⟨x + 1, by omega, by go_num, hg⟩
          case measure => simp [intOf]; omega
    · obtain rfl : x = t.length := by omega
      go_wp2
      go_ret
      exact ⟨_, rfl, hf.out⟩

theorem specRenameTable {B : Nat} {vt vr vc vv : Value} {t : List (List Int)} {r c v : List Int} {w : World} (h : RdII (· < B) w vt t) (hr : RdI (· < B) w vr r) (hc : RdI (· < B) w vc c) (hv : RdI (· < B) w vv v) (hB : B ≤ w.heap.size) (hn1 : r.length ≤ 1048576) (hn2 : c.length ≤ 1048576) (hn3 : v.length ≤ 1048576) :
    Calls Try.prog 42 #[vt, vr, vc, vv] w fun e w' => ∃ v', e = .returned (.tuple #[v', .bool (renOk t r c v)]) ∧ Fresh OII w w' v' (renV t r c v) := by
  obtain ⟨a, cp, rfl, h1, h2⟩ := h.isSlice
  unfold maxLen at h2
  cases hq : isQ t
  · have hr' := Lib.hid (show renOk t r c v = false by simp [renOk, hq])
    go_enter Try.func42, Try.ntmps42
    go_wp2_with fail
    refine (specL04Is h hB).mono ?_
    rw [hq]
    rintro e w1 ⟨rfl, b0⟩
    have B0 := Lib.hid b0; clear b0
    go_wp2_with fail
    go_ret2
    exact ⟨_, by rw [hr'.out]; rfl, by rw [renV_no hr'.out]; exact Fresh.nil B0.out⟩
  have Hhq := Lib.hid hq
  have hl := Lib.hid (isQ_len hq)
  have hl2 := hl.out.2
  cases ho1 : ordN t r
  · have hr' := Lib.hid (show renOk t r c v = false by simp [renOk, ho1])
    go_enter Try.func42, Try.ntmps42
    go_wp2_with fail
    refine (specL04Is h hB).mono ?_
    rw [Hhq.out]
    rintro e w1 ⟨rfl, b0⟩
    have B0 := Lib.hid b0; clear b0
    go_wp2_with fail
    refine (specOrder (Rd.below RdI.ok hr (B0.out.mono hB)) (t.length : Int) (by omega) (by omega)).mono ?_
    rw [ordN_spec hl.out.1 hl.out.2, ho1]
    rintro e w2 ⟨rfl, b0⟩
    have B1 := Lib.hid (B0.out.trans ((below_draws b0).mono B0.out.size)); clear b0
    go_wp2_with fail
    go_ret2
    exact ⟨_, by rw [hr'.out]; rfl, by rw [renV_no hr'.out]; exact Fresh.nil B1.out⟩
  have Hho1 := Lib.hid ho1
  clear ho1
  cases ho2 : ordN t c
  · have hr' := Lib.hid (show renOk t r c v = false by simp [renOk, ho2])
    go_enter Try.func42, Try.ntmps42
    go_wp2_with fail
    refine (specL04Is h hB).mono ?_
    rw [Hhq.out]
    rintro e w1 ⟨rfl, b0⟩
    have B0 := Lib.hid b0; clear b0
    go_wp2_with fail
    refine (specOrder (Rd.below RdI.ok hr (B0.out.mono hB)) (t.length : Int) (by omega) (by omega)).mono ?_
    rw [ordN_spec hl.out.1 hl.out.2, Hho1.out]
    rintro e w2 ⟨rfl, b0⟩
    have B1 := Lib.hid (B0.out.trans ((below_draws b0).mono B0.out.size)); clear b0
    go_wp2_with fail
    refine (specOrder (Rd.below RdI.ok hc (B1.out.mono hB)) (t.length : Int) (by omega) (by omega)).mono ?_
    rw [ordN_spec hl.out.1 hl.out.2, ho2]
    rintro e w3 ⟨rfl, b0⟩
    have B2 := Lib.hid (B1.out.trans ((below_draws b0).mono B1.out.size)); clear b0
    go_wp2_with fail
    go_ret2
    exact ⟨_, by rw [hr'.out]; rfl, by rw [renV_no hr'.out]; exact Fresh.nil B2.out⟩
  have Hho2 := Lib.hid ho2
  clear ho2
  cases ho3 : ordN t v
  · have hr' := Lib.hid (show renOk t r c v = false by simp [renOk, ho3])
    go_enter Try.func42, Try.ntmps42
    go_wp2_with fail
    refine (specL04Is h hB).mono ?_
    rw [Hhq.out]
    rintro e w1 ⟨rfl, b0⟩
    have B0 := Lib.hid b0; clear b0
    go_wp2_with fail
    refine (specOrder (Rd.below RdI.ok hr (B0.out.mono hB)) (t.length : Int) (by omega) (by omega)).mono ?_
    rw [ordN_spec hl.out.1 hl.out.2, Hho1.out]
    rintro e w2 ⟨rfl, b0⟩
    have B1 := Lib.hid (B0.out.trans ((below_draws b0).mono B0.out.size)); clear b0
    go_wp2_with fail
    refine (specOrder (Rd.below RdI.ok hc (B1.out.mono hB)) (t.length : Int) (by omega) (by omega)).mono ?_
    rw [ordN_spec hl.out.1 hl.out.2, Hho2.out]
    rintro e w3 ⟨rfl, b0⟩
    have B2 := Lib.hid (B1.out.trans ((below_draws b0).mono B1.out.size)); clear b0
    go_wp2_with fail
    refine (specOrder (Rd.below RdI.ok hv (B2.out.mono hB)) (t.length : Int) (by omega) (by omega)).mono ?_
    rw [ordN_spec hl.out.1 hl.out.2, ho3]
    rintro e w4 ⟨rfl, b0⟩
    have B3 := Lib.hid (B2.out.trans ((below_draws b0).mono B2.out.size)); clear b0
    go_wp2_with fail
    go_ret2
    exact ⟨_, by rw [hr'.out]; rfl, by rw [renV_no hr'.out]; exact Fresh.nil B3.out⟩
  have Hho3 := Lib.hid ho3
  clear ho3
  have hr' := Lib.hid (show renOk t r c v = true by simp [renOk, Hhq.out, Hho1.out, Hho2.out, Hho3.out])
  go_enter Try.func42, Try.ntmps42
  go_wp2_with fail
  refine (specL04Is h hB).mono ?_
  rw [Hhq.out]
  rintro e w1 ⟨rfl, b0⟩
  have B0 := Lib.hid b0; clear b0
  go_wp2_with fail
  refine (specOrder (Rd.below RdI.ok hr (B0.out.mono hB)) (t.length : Int) (by omega) (by omega)).mono ?_
  rw [ordN_spec hl.out.1 hl.out.2, Hho1.out]
  rintro e w2 ⟨rfl, b0⟩
  have B1 := Lib.hid (B0.out.trans ((below_draws b0).mono B0.out.size)); clear b0
  go_wp2_with fail
  refine (specOrder (Rd.below RdI.ok hc (B1.out.mono hB)) (t.length : Int) (by omega) (by omega)).mono ?_
  rw [ordN_spec hl.out.1 hl.out.2, Hho2.out]
  rintro e w3 ⟨rfl, b0⟩
  have B2 := Lib.hid (B1.out.trans ((below_draws b0).mono B1.out.size)); clear b0
  go_wp2_with fail
  refine (specOrder (Rd.below RdI.ok hv (B2.out.mono hB)) (t.length : Int) (by omega) (by omega)).mono ?_
  rw [ordN_spec hl.out.1 hl.out.2, Hho3.out]
  rintro e w4 ⟨rfl, b0⟩
  have B3 := Lib.hid (B2.out.trans ((below_draws b0).mono B2.out.size)); clear b0
  go_wp2_with fail
  refine (specRename (Rd.below RdII.ok h (B3.out.mono hB)) (Rd.below RdI.ok hr (B3.out.mono hB)) (Rd.below RdI.ok hc (B3.out.mono hB)) (Rd.below RdI.ok hv (B3.out.mono hB)) (Nat.le_trans hB B3.out.size) Hhq.out Hho1.out Hho2.out Hho3.out).mono ?_
  rintro e w5 ⟨v5, rfl, hf⟩
  have hf2 := hf.back B3.out
  go_wp2_with fail
  go_ret2
  exact ⟨_, by rw [hr'.out]; rfl, by rw [renV_yes hr'.out]; exact hf2⟩

set_option maxRecDepth 10000 in
set_option maxHeartbeats 1000000 in
theorem implRenameTable {B : Nat} {vt vr vc vv : Value} {t : List (List Int)} {r c v : List Int} {w : World} (h : RdII (· < B) w vt t) (hr : RdI (· < B) w vr r) (hc : RdI (· < B) w vc c) (hv : RdI (· < B) w vv v) (hB : B ≤ w.heap.size) (hn0 : t.length ≤ 1048576) (hn1 : r.length ≤ 1048576) (hn2 : c.length ≤ 1048576) (hn3 : v.length ≤ 1048576) :
    Calls Try.prog 44 #[vt, vr, vc, vv] w fun e w' => ∃ v', e = .returned (.tuple #[v', .bool (renOk t r c v)]) ∧ Fresh OII w w' v' (renV t r c v) := by
  obtain ⟨a, cp, rfl, h1, h2⟩ := h.isSlice
  obtain ⟨ar, cpr, rfl, k1, k2⟩ := hr.isSlice
  obtain ⟨ac, cpc, rfl, k3, k4⟩ := hc.isSlice
  obtain ⟨av, cpv, rfl, k5, k6⟩ := hv.isSlice
  unfold maxLen at h2 k2 k4 k6
  have hh := Lib.hid h
  have hhr := Lib.hid hr
  have hhc := Lib.hid hc
  have hhv := Lib.hid hv
  clear h hr hc hv
  go_enter Try.func44, Try.ntmps44
  go_wp2_with fail
  have HW := Lib.hid (rfl : (w.alloc (.cells #[.slice ar r.length cpr, .slice ac c.length cpc, .slice av v.length cpv] 41)) = (w.alloc (.cells #[.slice ar r.length cpr, .slice ac c.length cpc, .slice av v.length cpv] 41)))
  have hbw : Below w.heap.size w (w.alloc (.cells #[.slice ar r.length cpr, .slice ac c.length cpc, .slice av v.length cpv] 41)) := (Below.refl _ _).alloc (Nat.le_refl _) _
  have hws := alloc_size w (.cells #[.slice ar r.length cpr, .slice ac c.length cpc, .slice av v.length cpv] 41)
  have hc0 : (w.alloc (.cells #[.slice ar r.length cpr, .slice ac c.length cpc, .slice av v.length cpv] 41)).cell? ⟨w.heap.size, 0, none⟩ = some (.slice ar r.length cpr) := by simp
  have hc1 : (w.alloc (.cells #[.slice ar r.length cpr, .slice ac c.length cpc, .slice av v.length cpv] 41)).cell? ⟨w.heap.size, 1, none⟩ = some (.slice ac c.length cpc) := by simp
  have hc2 : (w.alloc (.cells #[.slice ar r.length cpr, .slice ac c.length cpc, .slice av v.length cpv] 41)).cell? ⟨w.heap.size, 2, none⟩ = some (.slice av v.length cpv) := by simp
  generalize w.alloc (.cells #[.slice ar r.length cpr, .slice ac c.length cpc, .slice av v.length cpv] 41) = WL at *
  have Hbw := Lib.hid hbw
  clear hbw HW
  go_loopw [25] (fun i wr => ∃ k : Nat, k ≤ 3 ∧ i = .int .i64 k ∧ Hid ((1 ≤ k → ordN t r = true) ∧ (2 ≤ k → ordN t c = true) ∧ (3 ≤ k → ordN t v = true)) ∧ Below WL.heap.size WL wr) (fun i _ => 3 - (intOf i).toNat)
  case atStart => exact ⟨0, by omega, rfl, Lib.hid ⟨by omega, by omega, by omega⟩, Below.refl _ _⟩
  case round =>
    obtain ⟨k, hk, rfl, hok, hbel⟩ := hrel
    have Hb := Lib.hid (Hbw.out.trans (hbel.mono (by omega)))
    by_cases hlt : k < 3
    · have hkk : k = 0 ∨ k = 1 ∨ k = 2 := by omega
      rcases hkk with rfl | rfl | rfl
      · have hcc := (hbel.cell (p := ⟨w.heap.size, 0, none⟩) (by show w.heap.size < _; omega)).trans hc0
        have hrd := Lib.hid (Rd.below RdI.ok hhr.out (Hb.out.mono hB))
        have Hbel := Lib.hid hbel
        clear hbel hc0 hc1 hc2
        by_cases hle : r.length = t.length
        · have hlb : ((r.length : Int) != t.length) = false := by simp [hle]
          cases ho : isOrd r 36
          · have hr' := Lib.hid (show renOk t r c v = false by simp [renOk, ordN, ho])
            clear hle
            go_wp2_with fail
            refine (implOrderOf hrd.out (fun k hk => Nat.lt_of_lt_of_le hk (Nat.le_trans hB Hb.out.size)) 36 hn1).mono ?_
            rw [ho]
            rintro e w1 ⟨rfl, hb1⟩
            have hb2 := Hb.out.trans (hb1.mono Hb.out.size)
            go_wp2_with fail
            go_ret2
            exact ⟨_, by rw [hr'.out]; rfl, by rw [renV_no hr'.out]; exact Fresh.nil hb2⟩
          · have hor := Lib.hid (show ordN t r = true by simp [ordN, ho, hle])
            clear hle
            go_wp2_with fail
            refine (implOrderOf hrd.out (fun k hk => Nat.lt_of_lt_of_le hk (Nat.le_trans hB Hb.out.size)) 36 hn1).mono ?_
            rw [ho]
            rintro e w1 ⟨rfl, hb1⟩
            have hb2 := Lib.hid (Hbel.out.trans (hb1.mono Hbel.out.size))
            clear hb1
            go_wp2_with fail
            go_roundw
            case rel => exact ⟨1, by omega, by go_num, Lib.hid ⟨by first | exact fun _ => hor.out | exact fun _ => hok.out.1 (by omega) | omega, by first | exact fun _ => hor.out | exact fun _ => hok.out.2.1 (by omega) | omega, by first | exact fun _ => hor.out | omega⟩, hb2.out⟩
            case measure => simp [intOf]
        · have hlb : ((r.length : Int) != t.length) = true := by simp; omega
          have hr' := Lib.hid (show renOk t r c v = false by simp [renOk, ordN, hle])
          clear hle
          go_wp2
          go_ret2
          exact ⟨_, by rw [hr'.out]; rfl, by rw [renV_no hr'.out]; exact Fresh.nil Hb.out⟩
      · have hcc := (hbel.cell (p := ⟨w.heap.size, 1, none⟩) (by show w.heap.size < _; omega)).trans hc1
        have hrd := Lib.hid (Rd.below RdI.ok hhc.out (Hb.out.mono hB))
        have Hbel := Lib.hid hbel
        clear hbel hc0 hc1 hc2
        by_cases hle : c.length = t.length
        · have hlb : ((c.length : Int) != t.length) = false := by simp [hle]
          cases ho : isOrd c 36
          · have hr' := Lib.hid (show renOk t r c v = false by simp [renOk, ordN, ho])
            clear hle
            go_wp2_with fail
            refine (implOrderOf hrd.out (fun k hk => Nat.lt_of_lt_of_le hk (Nat.le_trans hB Hb.out.size)) 36 hn2).mono ?_
            rw [ho]
            rintro e w1 ⟨rfl, hb1⟩
            have hb2 := Hb.out.trans (hb1.mono Hb.out.size)
            go_wp2_with fail
            go_ret2
            exact ⟨_, by rw [hr'.out]; rfl, by rw [renV_no hr'.out]; exact Fresh.nil hb2⟩
          · have hor := Lib.hid (show ordN t c = true by simp [ordN, ho, hle])
            clear hle
            go_wp2_with fail
            refine (implOrderOf hrd.out (fun k hk => Nat.lt_of_lt_of_le hk (Nat.le_trans hB Hb.out.size)) 36 hn2).mono ?_
            rw [ho]
            rintro e w1 ⟨rfl, hb1⟩
            have hb2 := Lib.hid (Hbel.out.trans (hb1.mono Hbel.out.size))
            clear hb1
            go_wp2_with fail
            go_roundw
            case rel => exact ⟨2, by omega, by go_num, Lib.hid ⟨by first | exact fun _ => hor.out | exact fun _ => hok.out.1 (by omega) | omega, by first | exact fun _ => hor.out | exact fun _ => hok.out.2.1 (by omega) | omega, by first | exact fun _ => hor.out | omega⟩, hb2.out⟩
            case measure => simp [intOf]
        · have hlb : ((c.length : Int) != t.length) = true := by simp; omega
          have hr' := Lib.hid (show renOk t r c v = false by simp [renOk, ordN, hle])
          clear hle
          go_wp2
          go_ret2
          exact ⟨_, by rw [hr'.out]; rfl, by rw [renV_no hr'.out]; exact Fresh.nil Hb.out⟩
      · have hcc := (hbel.cell (p := ⟨w.heap.size, 2, none⟩) (by show w.heap.size < _; omega)).trans hc2
        have hrd := Lib.hid (Rd.below RdI.ok hhv.out (Hb.out.mono hB))
        have Hbel := Lib.hid hbel
        clear hbel hc0 hc1 hc2
        by_cases hle : v.length = t.length
        · have hlb : ((v.length : Int) != t.length) = false := by simp [hle]
          cases ho : isOrd v 36
          · have hr' := Lib.hid (show renOk t r c v = false by simp [renOk, ordN, ho])
            clear hle
            go_wp2_with fail
            refine (implOrderOf hrd.out (fun k hk => Nat.lt_of_lt_of_le hk (Nat.le_trans hB Hb.out.size)) 36 hn3).mono ?_
            rw [ho]
            rintro e w1 ⟨rfl, hb1⟩
            have hb2 := Hb.out.trans (hb1.mono Hb.out.size)
            go_wp2_with fail
            go_ret2
            exact ⟨_, by rw [hr'.out]; rfl, by rw [renV_no hr'.out]; exact Fresh.nil hb2⟩
          · have hor := Lib.hid (show ordN t v = true by simp [ordN, ho, hle])
            clear hle
            go_wp2_with fail
            refine (implOrderOf hrd.out (fun k hk => Nat.lt_of_lt_of_le hk (Nat.le_trans hB Hb.out.size)) 36 hn3).mono ?_
            rw [ho]
            rintro e w1 ⟨rfl, hb1⟩
            have hb2 := Lib.hid (Hbel.out.trans (hb1.mono Hbel.out.size))
            clear hb1
            go_wp2_with fail
            go_roundw
            case rel => exact ⟨3, by omega, by go_num, Lib.hid ⟨by first | exact fun _ => hor.out | exact fun _ => hok.out.1 (by omega) | omega, by first | exact fun _ => hor.out | exact fun _ => hok.out.2.1 (by omega) | omega, by first | exact fun _ => hor.out | omega⟩, hb2.out⟩
            case measure => simp [intOf]
        · have hlb : ((v.length : Int) != t.length) = true := by simp; omega
          have hr' := Lib.hid (show renOk t r c v = false by simp [renOk, ordN, hle])
          clear hle
          go_wp2
          go_ret2
          exact ⟨_, by rw [hr'.out]; rfl, by rw [renV_no hr'.out]; exact Fresh.nil Hb.out⟩
    · obtain rfl : k = 3 := by omega
      have ho1 := hok.out.1 (by omega)
      have ho2 := hok.out.2.1 (by omega)
      have ho3 := hok.out.2.2 (by omega)
      clear hbel hc0 hc1 hc2
      cases hq : isQ t
      · have hr' := Lib.hid (show renOk t r c v = false by simp [renOk, hq])
        clear ho1 ho2 ho3
        go_wp2_with fail
        refine (implIsQuasigroup (Rd.below RdII.ok hh.out (Hb.out.mono hB)) (Nat.le_trans hB Hb.out.size)).mono ?_
        rw [hq]
        rintro e w1 ⟨rfl, hb1⟩
        have hb2 := Hb.out.trans (hb1.mono Hb.out.size)
        go_wp2_with fail
        go_ret2
        exact ⟨_, by rw [hr'.out]; rfl, by rw [renV_no hr'.out]; exact Fresh.nil hb2⟩
      have hr' := Lib.hid (show renOk t r c v = true by simp [renOk, hq, ho1, ho2, ho3])
      have h0 := hh
      have hq' := Lib.hid hq
      have hl := isQ_len hq
      have hrl := Lib.hid (fun x (hx : x < t.length) => isQ_rowLen hq hx)
      have hbd := Lib.hid (fun x y (hx : x < t.length) (hy : y < t.length) => isQ_bd hq hx hy)
      have Hrr := hhr
      have Hrc := hhc
      have Hrv := hhv
      have lr := ordN_len ho1
      have lc := ordN_len ho2
      have lv := ordN_len ho3
      have hor := Lib.hid ho1
      have hoc := Lib.hid ho2
      have hov := Lib.hid ho3
      rw [lr] at k1 Hrr
      rw [lc] at k3 Hrc
      rw [lv] at k5 Hrv
      clear hq ho1 ho2 ho3 hok
      rw [lr, lc, lv]
      go_wp2_with fail
      refine (implIsQuasigroup (Rd.below RdII.ok hh.out (Hb.out.mono hB)) (Nat.le_trans hB Hb.out.size)).mono ?_
      rw [hq'.out]
      rintro e w1 ⟨rfl, hb1⟩
      have Hb1 := Lib.hid (Hb.out.trans (hb1.mono Hb.out.size))
      clear hb1
      go_wp2_with fail
      refine (implBlank t.length hl.2 _).mono ?_
      rintro e w2 ⟨v1, rfl, hf0⟩
      have hf := hf0.back Hb1.out
      clear hf0
      obtain ⟨gt, ct, rfl⟩ := hf.shape (by simp [zeros]; omega)
      have hl3 := hf.len2
      rw [show (zeros t.length).length = t.length by simp [zeros]] at *
      have Hf := Lib.hid hf
      clear hf
      unfold maxLen at hl3
      go_wp2_with fail
      go_loopw [46] (fun i wr => ∃ k : Nat, k ≤ t.length ∧ i = .int .i64 k ∧ Hid (Fresh OII w wr (.slice (some ⟨gt, 0, none⟩) t.length ct) (renTo t r c v k))) (fun i _ => t.length - (intOf i).toNat)
      case atStart => exact ⟨0, Nat.zero_le _, rfl, Hf⟩
      case round =>
        obtain ⟨x, hk, rfl, hf⟩ := hrel
        by_cases hlt : x < t.length
        · obtain ⟨b, o, a', c', rfl, hb, hcw, g1, g2, hr⟩ := h0.out.row hlt
          have Hr := Lib.hid hr
          clear hr
          rw [hrl.out x hlt] at hcw g1 Hr
          have hc := (hf.out.bel.cell (Nat.lt_of_lt_of_le hb hB)).trans hcw
          have Hcw := Lib.hid hcw
          clear hcw
          unfold maxLen at g2
          go_wp2
          go_loopw [53] (fun i wr => ∃ k : Nat, k ≤ t.length ∧ i = .int .i64 k ∧ Hid (Fresh OII w wr (.slice (some ⟨gt, 0, none⟩) t.length ct) (renRow t r c v x (renTo t r c v x) k))) (fun i _ => t.length - (intOf i).toNat)
          case atStart => exact ⟨0, Nat.zero_le _, rfl, hf⟩
          case round =>
            clear hc
            obtain ⟨y, hky, rfl, hg⟩ := hrel
            by_cases hlty : y < t.length
            · have hsq := renRow_sq (c := c) (v := v) (hor.out) hlt (renTo_sq (c := c) (v := v) hor.out (Nat.le_of_lt hlt)) hky
              have hc := (hg.out.bel.cell (Nat.lt_of_lt_of_le hb hB)).trans Hcw.out
              obtain ⟨b', o', rfl, hPb', hc4⟩ := RdI.cell (Rd.below RdI.ok Hr.out (hg.out.bel.mono hB)) (i := y) (by rw [hrl.out x hlt]; exact hlty)
              obtain ⟨Z, hZ⟩ := Int.eq_ofNat_of_zero_le (hbd.out x y hlt hlty).1
              have hZl : Z < t.length := by have := (hbd.out x y hlt hlty).2; omega
              obtain ⟨X, hX⟩ := Int.eq_ofNat_of_zero_le (ordN_bd hor.out hlt).1
              have hXl : X < t.length := by have := (ordN_bd hor.out hlt).2; omega
              obtain ⟨Y, hY⟩ := Int.eq_ofNat_of_zero_le (ordN_bd hoc.out hlty).1
              have hYl : Y < t.length := by have := (ordN_bd hoc.out hlty).2; omega
              obtain ⟨br, or_, er, _, hcr⟩ := RdI.cell (Rd.below RdI.ok Hrr.out (hg.out.bel.mono hB)) (i := x) (by rw [ordN_len hor.out]; exact hlt)
              obtain ⟨bc, oc, ec, _, hcc⟩ := RdI.cell (Rd.below RdI.ok Hrc.out (hg.out.bel.mono hB)) (i := y) (by rw [ordN_len hoc.out]; exact hlty)
              obtain ⟨bv, ov, ev, _, hcv⟩ := RdI.cell (Rd.below RdI.ok Hrv.out (hg.out.bel.mono hB)) (i := Z) (by rw [ordN_len hov.out]; exact hZl)
              subst er ec ev
              have hnext : renRow t r c v x (renTo t r c v x) (y + 1) = set2 (renRow t r c v x (renTo t r c v x) y) X Y (nth v Z) := by
                rw [show renRow t r c v x (renTo t r c v x) (y + 1) = renSet t r c v x y (renRow t r c v x (renTo t r c v x) y) from rfl]
                generalize renRow t r c v x (renTo t r c v x) y = O
                unfold renSet
                rw [hX, hY, hZ]; rfl
              rw [hZ] at hc4
              rw [hX] at hcr
              rw [hY] at hcc
              obtain ⟨gx, cx, hd, g5, g6, hc2, hfz, hge, hput⟩ := hg.out.put2 (x := X) (y := Y) (by rw [hsq.1]; exact hXl) (by rw [hsq.2 _ hXl]; exact hYl)
              rw [hsq.2 _ hXl] at hd g5
              unfold maxLen at g6
              have Hput := Lib.hid hput
              have Hn := Lib.hid hnext
              clear hput hnext
              go_wp2
              go_still_tail 16, (by kernel_rfl)
              change wpList _ _ _ _ _ wr.drew
              generalize hwd : wr.drew = W2
              have hfz2 : W2.frozen? ⟨gx, Y, none⟩ = false := by rw [← hwd]; exact hfz
              have hc22 : W2.cell? ⟨gx, Y, none⟩ = some (.int .i64 (nth (nth (renRow t r c v x (renTo t r c v x) y) X) Y)) := by rw [← hwd]; exact hc2
              have Hwd := Lib.hid hwd
              clear hwd
              go_wp2
              go_roundw
              case rel => exact ⟨y + 1, by omega, by go_num, Lib.hid (by rw [Hn.out, ← Hwd.out]; exact Hput.out _ ((Below.refl _ _).drew) _)⟩
              case measure => simp [intOf]; omega
            · obtain rfl : y = t.length := by omega
              go_wp2
              go_roundw
              case rel => exact ⟨x + 1, by omega, by go_num, hg⟩
              case measure => simp [intOf]; omega
        · obtain rfl : x = t.length := by omega
          go_wp2
          go_ret2
          exact ⟨_, by rw [hr'.out]; rfl, by rw [renV_yes hr'.out]; exact hf.out⟩

end Go.Proofs.Ytakliggacjckpaa
