/- RenameTable. -/
import Derived.Test.YthomdggbmjknnaaB4
namespace Go.Proofs.Ythomdggbmjknnaa
open Go.RowKit
set_option linter.unusedVariables false

def ordN (t : List (List Int)) (xs : List Int) : Bool := decide (xs.length = t.length) && isOrd xs 36
theorem ordN_spec {t : List (List Int)} (h1 : 1 ≤ t.length) (h2 : t.length ≤ 36) (xs : List Int) : (ordB xs (t.length : Int) xs.length && decide ((xs.length : Int) = t.length)) = ordN t xs := by
  unfold ordN isOrd
  by_cases e : xs.length = t.length
  · rw [e]; simp; omega
  · have : ¬ ((xs.length : Int) = t.length) := by omega
    simp [e, this]
theorem ordN_len {t : List (List Int)} {xs : List Int} (h : ordN t xs = true) : xs.length = t.length := by simp only [ordN, Bool.and_eq_true, decide_eq_true_eq] at h; exact h.1
theorem ordN_bd {t : List (List Int)} {xs : List Int} (h : ordN t xs = true) {i : Nat} (hi : i < t.length) : 0 ≤ nth xs i ∧ nth xs i < t.length := by
  have hl := ordN_len h
  simp only [ordN, isOrd, Bool.and_eq_true] at h
  have := (ordB_at h.2.1 (k := i) (by omega)).1
  omega
def renSet (t : List (List Int)) (r c v : List Int) (x y : Nat) (out : List (List Int)) : List (List Int) := set2 out (nth r x).toNat (nth c y).toNat (nth v (nth (nth t x) y).toNat)
def renRow (t : List (List Int)) (r c v : List Int) (x : Nat) (out : List (List Int)) (y : Nat) : List (List Int) := iterTo (fun out y => renSet t r c v x y out) out y
def renTo (t : List (List Int)) (r c v : List Int) (x : Nat) : List (List Int) := iterTo (fun out x => renRow t r c v x out t.length) (zeros t.length) x
def renOk (t : List (List Int)) (r c v : List Int) : Bool := isQ t && (ordN t r && (ordN t c && ordN t v))
def renV (t : List (List Int)) (r c v : List Int) : List (List Int) := if renOk t r c v then renTo t r c v t.length else []
theorem renV_no {t : List (List Int)} {r c v : List Int} (h : renOk t r c v = false) : renV t r c v = [] := by simp [renV, h]
theorem renV_yes {t : List (List Int)} {r c v : List Int} (h : renOk t r c v = true) : renV t r c v = renTo t r c v t.length := by simp [renV, h]
theorem renRow_sq {t : List (List Int)} {r c v : List Int} (hr : ordN t r = true) {x : Nat} (hx : x < t.length) {out : List (List Int)} (h : Sq t.length out) {y : Nat} (hy : y ≤ t.length) : Sq t.length (renRow t r c v x out y) :=
  iterTo_inv (Sq t.length) h (fun b k hk hb => set2_sq hb _ _ _ (by have := ordN_bd hr hx; omega)) y hy
theorem renTo_sq {t : List (List Int)} {r c v : List Int} (hr : ordN t r = true) {x : Nat} (hx : x ≤ t.length) : Sq t.length (renTo t r c v x) :=
  iterTo_inv (Sq t.length) (zeros_sq _) (fun b k hk hb => renRow_sq hr hk hb (Nat.le_refl _)) x hx
theorem renV_cnt (t : List (List Int)) (r c v : List Int) : cntL List.length (renV t r c v) ≤ 1296 := by
  unfold renV
  split
  · rename_i h
    simp only [renOk, Bool.and_eq_true] at h
    exact sq_cnt (renTo_sq h.2.1 (Nat.le_refl _)) (isQ_len h.1).2
  · simp [cntL]

set_option maxRecDepth 10000 in
set_option maxHeartbeats 1000000 in
theorem specRename {B : Nat} {vt vr vc vv : Value} {t : List (List Int)} {r c v : List Int} {w : World} (h : RdII (· < B) w vt t) (hr : RdI (· < B) w vr r) (hc : RdI (· < B) w vc c) (hv : RdI (· < B) w vv v) (hB : B ≤ w.heap.size) (hq : isQ t = true) (ho1 : ordN t r = true) (ho2 : ordN t c = true) (ho3 : ordN t v = true) :
    Calls Try.prog 64 #[vt, vr, vc, vv] w fun e w' => ∃ v', e = .returned v' ∧ Fresh OII w w' v' (renTo t r c v t.length) := by
  have hq' := Lib.hid hq
  have h0 := Lib.hid h
  have hl := isQ_len hq
  have hrl := Lib.hid (fun x (hx : x < t.length) => isQ_rowLen hq hx)
  have hbd := Lib.hid (fun x y (hx : x < t.length) (hy : y < t.length) => isQ_bd hq hx hy)
  obtain ⟨a, cp, rfl, h1, h2⟩ := h.isSlice
  obtain ⟨ar, cpr, rfl, k1, k2⟩ := hr.isSlice
  obtain ⟨ac, cpc, rfl, k3, k4⟩ := hc.isSlice
  obtain ⟨av, cpv, rfl, k5, k6⟩ := hv.isSlice
  have Hrr := Lib.hid hr
  have Hrc := Lib.hid hc
  have Hrv := Lib.hid hv
  have lr := ordN_len ho1
  have lc := ordN_len ho2
  have lv := ordN_len ho3
  have hor := Lib.hid ho1
  have hoc := Lib.hid ho2
  have hov := Lib.hid ho3
  rw [lr] at k1 Hrr
  rw [lc] at k3 Hrc
  rw [lv] at k5 Hrv
  unfold maxLen at h2 k2 k4 k6
  clear h hq hr hc hv
  rw [lr, lc, lv]
  go_enter Try.func64, Try.ntmps64
  go_wp2_with fail
  refine (specBlank t.length hl.2 w).mono ?_
  rintro e w1 ⟨v1, rfl, hf⟩
  obtain ⟨gt, ct, rfl⟩ := hf.shape (by simp [zeros]; omega)
  have hl3 := hf.len2
  rw [show (zeros t.length).length = t.length by simp [zeros]] at *
  have Hf := Lib.hid hf
  clear hf
  unfold maxLen at hl3
  go_wp2_with fail
  go_loopw [10] (fun i wr => ∃ k : Nat, k ≤ t.length ∧ i = .int .i64 k ∧ Hid (Fresh OII w wr (.slice (some ⟨gt, 0, none⟩) t.length ct) (renTo t r c v k))) (fun i _ => t.length - (intOf i).toNat)
  case atStart => exact ⟨0, Nat.zero_le _, rfl, Hf⟩
  case round =>
    obtain ⟨x, hk, rfl, hf⟩ := hrel
    by_cases hlt : x < t.length
    · obtain ⟨b, o, a', c', rfl, hb, hcw, g1, g2, hr⟩ := h0.out.row hlt
      have Hr := Lib.hid hr
      clear hr
      rw [hrl.out x hlt] at hcw g1 Hr
      have hc := (hf.out.bel.cell (Nat.lt_of_lt_of_le hb hB)).trans hcw
      have Hcw := Lib.hid hcw
      clear hcw
      unfold maxLen at g2
      go_wp2
      go_loopw [11] (fun i wr => ∃ k : Nat, k ≤ t.length ∧ i = .int .i64 k ∧ Hid (Fresh OII w wr (.slice (some ⟨gt, 0, none⟩) t.length ct) (renRow t r c v x (renTo t r c v x) k))) (fun i _ => t.length - (intOf i).toNat)
      case atStart => exact ⟨0, Nat.zero_le _, rfl, hf⟩
      case round =>
        clear hc
        obtain ⟨y, hky, rfl, hg⟩ := hrel
        by_cases hlty : y < t.length
        · have hsq := renRow_sq (c := c) (v := v) (hor.out) hlt (renTo_sq (c := c) (v := v) hor.out (Nat.le_of_lt hlt)) hky
          have hc := (hg.out.bel.cell (Nat.lt_of_lt_of_le hb hB)).trans Hcw.out
          obtain ⟨b', o', rfl, hPb', hc4⟩ := RdI.cell (Rd.below RdI.ok Hr.out (hg.out.bel.mono hB)) (i := y) (by rw [hrl.out x hlt]; exact hlty)
          obtain ⟨Z, hZ⟩ := Int.eq_ofNat_of_zero_le (hbd.out x y hlt hlty).1
          have hZl : Z < t.length := by have := (hbd.out x y hlt hlty).2; omega
          obtain ⟨X, hX⟩ := Int.eq_ofNat_of_zero_le (ordN_bd hor.out hlt).1
          have hXl : X < t.length := by have := (ordN_bd hor.out hlt).2; omega
          obtain ⟨Y, hY⟩ := Int.eq_ofNat_of_zero_le (ordN_bd hoc.out hlty).1
          have hYl : Y < t.length := by have := (ordN_bd hoc.out hlty).2; omega
          obtain ⟨br, or_, er, _, hcr⟩ := RdI.cell (Rd.below RdI.ok Hrr.out (hg.out.bel.mono hB)) (i := x) (by rw [ordN_len hor.out]; exact hlt)
          obtain ⟨bc, oc, ec, _, hcc⟩ := RdI.cell (Rd.below RdI.ok Hrc.out (hg.out.bel.mono hB)) (i := y) (by rw [ordN_len hoc.out]; exact hlty)
          obtain ⟨bv, ov, ev, _, hcv⟩ := RdI.cell (Rd.below RdI.ok Hrv.out (hg.out.bel.mono hB)) (i := Z) (by rw [ordN_len hov.out]; exact hZl)
          subst er ec ev
          have hnext : renRow t r c v x (renTo t r c v x) (y + 1) = set2 (renRow t r c v x (renTo t r c v x) y) X Y (nth v Z) := by
            rw [show renRow t r c v x (renTo t r c v x) (y + 1) = renSet t r c v x y (renRow t r c v x (renTo t r c v x) y) from rfl]
            generalize renRow t r c v x (renTo t r c v x) y = O
            unfold renSet
            rw [hX, hY, hZ]; rfl
          rw [hZ] at hc4
          rw [hX] at hcr
          rw [hY] at hcc
          obtain ⟨gx, cx, hd, g5, g6, hc2, hfz, hge, hput⟩ := hg.out.put2 (x := X) (y := Y) (by rw [hsq.1]; exact hXl) (by rw [hsq.2 _ hXl]; exact hYl)
          rw [hsq.2 _ hXl] at hd g5
          unfold maxLen at g6
          have Hput := Lib.hid hput
          have Hn := Lib.hid hnext
          clear hput hnext
          go_wp2
          go_still_tail 22, (by kernel_rfl)
          change wpList _ _ _ _ _ wr.drew
          generalize hwd : wr.drew = W2
          have hfz2 : W2.frozen? ⟨gx, Y, none⟩ = false := by rw [← hwd]; exact hfz
          have hc22 : W2.cell? ⟨gx, Y, none⟩ = some (.int .i64 (nth (nth (renRow t r c v x (renTo t r c v x) y) X) Y)) := by rw [← hwd]; exact hc2
          have Hwd := Lib.hid hwd
          clear hwd
          go_wp2
          go_roundw
          case rel => exact ⟨y + 1, by omega, by go_num, Lib.hid (by rw [Hn.out, ← Hwd.out]; exact Hput.out _ ((Below.refl _ _).drew) _)⟩
          case measure => simp [intOf]; omega
        · obtain rfl : y = t.length := by omega
          go_wp2
          go_roundw
          case rel => exact ⟨x + 1, by omega, by go_num, hg⟩
          case measure => simp [intOf]; omega
    · obtain rfl : x = t.length := by omega
      go_wp2
      go_ret
      exact ⟨_, rfl, hf.out⟩

end Go.Proofs.Ythomdggbmjknnaa
