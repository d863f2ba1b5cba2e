/- ZeroDiagonal. -/
import Derived.Test.YtakliggacjckpaaB4
import Derived.Test.YtakliggacjckpaaB6
import Derived.Test.YtakliggacjckpaaP1
namespace Go.Proofs.Ytakliggacjckpaa
open Go.RowKit
set_option linter.unusedVariables false

theorem isQ_ord {t : List (List Int)} (h : isQ t = true) {x : Nat} (hx : x < t.length) : isOrd (nth t x) 36 = true := by
  simp only [isQ, Bool.and_eq_true, allB_iff, rowOk] at h
  exact (h.2.1 x hx).2
theorem isQ_has {t : List (List Int)} (h : isQ t = true) {x z : Nat} (hx : x < t.length) (hz : z < t.length) : ∃ i, i < t.length ∧ nth (nth t x) i = z := by
  have ho := isQ_ord h hx
  have hl := isQ_rowLen h hx
  simp only [isOrd, Bool.and_eq_true] at ho
  obtain ⟨i, hi, e⟩ := ord_surj ho.1 (z := z) (by omega)
  exact ⟨i, by omega, e⟩

/-- The first index at which a list has v. -/
def idxOf (xs : List Int) (v : Int) : Nat := xs.findIdx (· == v)
theorem idxOf_lt {xs : List Int} {v : Int} {i : Nat} (hi : i < xs.length) (h : nth xs i = v) : idxOf xs v < xs.length :=
  List.findIdx_lt_length_of_exists ⟨v, by rw [← h, nth_eq hi]; exact List.getElem_mem hi, by simp⟩
theorem idxOf_at {xs : List Int} {v : Int} (h : idxOf xs v < xs.length) : nth xs (idxOf xs v) = v := by
  rw [nth_eq h]
  have := List.findIdx_getElem (p := (· == v)) (xs := xs) (w := h)
  simp only [beq_iff_eq] at this
  exact this
theorem idxOf_before {xs : List Int} {v : Int} {j : Nat} (h : j < idxOf xs v) (hl : idxOf xs v < xs.length) : nth xs j ≠ v := by
  rw [nth_eq (by omega)]
  have := List.not_of_lt_findIdx (p := (· == v)) (xs := xs) h
  simpa using this
theorem idxOf_eq {xs : List Int} {v : Int} {k : Nat} (hk : k < xs.length) (h : nth xs k = v) (hn : ∀ j, j < k → nth xs j ≠ v) : idxOf xs v = k := by
  have hlt := idxOf_lt hk h
  rcases Nat.lt_trichotomy (idxOf xs v) k with h1 | h1 | h1
  · exact absurd (idxOf_at hlt) (hn _ h1)
  · exact h1
  · exact absurd h (idxOf_before h1 hlt)

theorem slIndex {P : Nat → Prop} {v : Value} {xs : List Int} {w : World} (h : RdI P w v xs) (y : Int) {i : Nat} (hi : i < xs.length) (hy : nth xs i = y) :
    Calls Try.prog 71 #[v, .int .i64 y] w fun e w' => e = .returned (.int .i64 (idxOf xs y)) ∧ w = w' := by
  obtain ⟨a, c, rfl, h1, h2, hrd⟩ := h
  have Hrd := Lib.hid hrd; clear hrd
  have hlt0 := idxOf_lt hi hy
  unfold maxLen at h2
  go_enter Try.func71, Try.ntmps71
  go_wp2
  go_loop [8] (fun i => ∃ k : Nat, k ≤ xs.length ∧ i = .int .i64 k ∧ Hid (∀ j, j < k → nth xs j ≠ y)) (fun i => xs.length - (intOf i).toNat)
  case atStart => exact ⟨0, Nat.zero_le _, rfl, Lib.hid fun _ h => absurd h (Nat.not_lt_zero _)⟩
  case round =>
    obtain ⟨k, hk, rfl, hok⟩ := hrel
    have hlt : k < xs.length := by
      rcases Nat.lt_or_ge k xs.length with h | h
      · exact h
      · exact absurd hy (hok.out i (by omega))
    obtain ⟨b, o, u, rfl, hPb, hc, rfl⟩ := Hrd.out k hlt
    have hc1 : w.cell? ⟨b, o + k, none⟩ = some (Value.int .i64 (nth xs k)) := hc
    clear hc
    by_cases hx : nth xs k = y
    · have hr := Lib.hid (idxOf_eq hlt hx hok.out)
      have hxb : (y == nth xs k) = true := by simp [hx]
      clear hx hy
      go_wp2
      go_ret
      exact ⟨ret_int' (by rw [hr.out]), rfl⟩
    · have hok2 := Lib.hid (show ∀ j, j < k + 1 → nth xs j ≠ y from fun j hj => by
        rcases Nat.lt_succ_iff_lt_or_eq.1 hj with h | rfl
        · exact hok.out j h
        · exact hx)
      have hxb : (y == nth xs k) = false := by simp; exact fun e => hx e.symm
      clear hx
      go_wp2
      go_round
      case rel => exact ⟨k + 1, by omega, by go_num, hok2⟩
      case measure => simp [intOf]; omega

def zF (t : List (List Int)) (x y : Nat) : Int := nth (nth t x) (idxOf (nth t y) 0)
def zV (t : List (List Int)) : List (List Int) := if isQ t then tab t.length (zF t) else []
theorem zV_no {t : List (List Int)} (h : isQ t = false) : zV t = [] := by simp [zV, h]
theorem zV_yes {t : List (List Int)} (h : isQ t = true) : zV t = tab t.length (zF t) := by simp [zV, h]
theorem zV_cnt (t : List (List Int)) : cntL List.length (zV t) ≤ 1296 := by
  unfold zV
  split
  · rename_i h; exact sq_cnt (tab_sq _ _) (isQ_len h).2
  · simp [cntL]
theorem isQ_idx {t : List (List Int)} (h : isQ t = true) {y : Nat} (hy : y < t.length) : idxOf (nth t y) 0 < t.length ∧ nth (nth t y) (idxOf (nth t y) 0) = 0 := by
  obtain ⟨i, hi, e⟩ := isQ_has h hy (show 0 < t.length by omega)
  have hl := isQ_rowLen h hy
  have hlt := idxOf_lt (xs := nth t y) (v := 0) (by omega) e
  exact ⟨by omega, idxOf_at hlt⟩

theorem implZero1 {P : Nat → Prop} {t : List (List Int)} {adt : Option Addr} {ct kt : Nat} {w : World} (ht : RdII P w (.slice adt t.length ct) t) (hq : isQ t = true)
    {x y : Nat} (hx : x < t.length) (hy : y < t.length) (h1 : w.cell? ⟨kt, 0, none⟩ = some (.slice adt t.length ct)) :
    Calls Try.prog 70 #[.int .i64 x, .int .i64 y, .pointer (some ⟨kt, 0, none⟩)] w fun e w' => e = .returned (.int .i64 (zF t x y)) ∧ ∃ m, w.drewN m = w' := by
  have hl := isQ_len hq
  have hix := isQ_idx hq hy
  have hrx := isQ_rowLen hq hx
  have hry := isQ_rowLen hq hy
  have hF := Lib.hid (show zF t x y = nth (nth t x) (idxOf (nth t y) 0) from rfl)
  obtain ⟨b, o, a1, c1, e0, _, hc1, g1, g2, hr1⟩ := ht.row hy
  obtain ⟨b', o', b3, o3, c3, rfl, _, _, hc3, hc4, g3, g4⟩ := ht.cell hx (y := idxOf (nth t y) 0) (by rw [hrx]; exact hix.1)
  simp only [Option.some.injEq, Addr.mk.injEq, and_true] at e0
  obtain ⟨rfl, rfl⟩ := e0
  rw [hrx] at hc3 g3
  rw [hry] at hc1 g1 hr1
  unfold maxLen at g2 g4
  have Hr1 := Lib.hid (fun n => rd_draws RdI.ok hr1 n)
  have hat := Lib.hid hix.2
  have hil := hix.1
  have hyl : idxOf (nth t y) 0 < (nth t y).length := by omega
  clear ht hq hr1 hix hrx
  generalize hI : idxOf (nth t y) 0 = I at *
  go_enter Try.func70, Try.ntmps70
  go_wp2
  go_quiet ((go_at_call 71; exact quiet_same ((slIndex (Hr1.out _) 0 hyl hat.out).mono (by rw [hI]; exact fun _ _ h => h))))
  go_wp2
  go_ret
  exact ⟨ret_int' hF.out.symm, _, rfl⟩

set_option maxRecDepth 10000 in
theorem implZeroDiagonal {B : Nat} {v : Value} {t : List (List Int)} {w : World} (h : RdII (· < B) w v t) (hB : B ≤ w.heap.size) :
    Calls Try.prog 41 #[v] w fun e w' => ∃ v, e = .returned (.tuple #[v, .bool (isQ t)]) ∧ Fresh OII w w' v (zV t) := by
  have h0 := Lib.hid h
  obtain ⟨at1, ct, rfl, h1, h2⟩ := h.isSlice
  unfold maxLen at h2
  clear h
  have Hbw := Lib.hid (show Below w.heap.size w (w.alloc (.cells #[.slice at1 t.length ct] 25)) from (Below.refl _ _).alloc (Nat.le_refl _) _)
  have hx1 := box_at w (.slice at1 t.length ct) 25
  have hsz := alloc_size w (.cells #[.slice at1 t.length ct] 25)
  cases hq : isQ t
  · have hr := Lib.hid (zV_no hq)
    go_enter Try.func41, Try.ntmps41
    go_wp2_with fail
    refine (implIsQuasigroup (Rd.below RdII.ok h0.out (Hbw.out.mono hB)) (Nat.le_trans hB Hbw.out.size)).mono ?_
    rw [hq]
    rintro e w1 ⟨rfl, hb⟩
    have hb2 := Hbw.out.trans (hb.mono Hbw.out.size)
    go_wp2_with fail
    go_ret2
    exact ⟨_, rfl, by rw [hr.out]; exact Fresh.nil hb2⟩
  · have hr := Lib.hid (zV_yes hq)
    have hq' := Lib.hid hq
    have hl := isQ_len hq
    have hmf : ∀ (fn : Fn) (first cap : Array Value) (w : World), (Instr.makeFunc fn first cap).run Try.prog w = .ok (.func fn first cap) w := fun _ _ _ _ => rfl
    clear hq
    go_enter Try.func41, Try.ntmps41
    go_wp2_with fail
    refine (implIsQuasigroup (Rd.below RdII.ok h0.out (Hbw.out.mono hB)) (Nat.le_trans hB Hbw.out.size)).mono ?_
    rw [hq'.out]
    rintro e w1 ⟨rfl, hb⟩
    have C0 := Lib.hid hb
    have B0 := Lib.hid (Hbw.out.trans (hb.mono Hbw.out.size))
    have p1 := (hb.cell (p := ⟨w.heap.size, 0, none⟩) (by rw [hsz]; show w.heap.size < _; omega)).trans hx1
    clear hb
    have hcl := Lib.hid (show ∀ i k : Nat, i < t.length → k < t.length → ∀ w', Below w1.heap.size w1 w' →
        Calls Try.prog 70 (#[.int .i64 i, .int .i64 k] ++ #[.pointer (some ⟨w.heap.size, 0, none⟩)]) w' fun e w'' => e = .returned (.int .i64 (zF t i k)) ∧ ∃ m, w'.drewN m = w'' from
      fun i k hi hk w' hw' => by
        have hw6 := B0.out.trans (hw'.mono B0.out.size)
        exact implZero1 (Rd.below RdII.ok h0.out (hw6.mono hB)) hq'.out hi hk ((hw'.cell (by show w.heap.size < _; have := C0.out.size; rw [hsz] at this; omega)).trans p1))
    have hfn := Lib.hid (implMade t.length hl.1 hl.2 w1 70 #[.pointer (some ⟨w.heap.size, 0, none⟩)] (zF t))
    go_wp2_with fail
    refine (hfn.out hcl.out (fun _ _ => by kernel_rfl)).mono ?_
    rintro e w5 ⟨v5, rfl, hf⟩
    have hf2 := hf.back B0.out
    go_wp2_with fail
    go_ret2
    exact ⟨_, rfl, by rw [hr.out]; exact hf2⟩

/-- Filled column by column. -/
def FilledC (n : Nat) (f : Nat → Nat → Int) (x y : Nat) (t : List (List Int)) : Prop := Sq n t ∧ ∀ i j, i < n → j < n → (j < x ∨ (j = x ∧ i < y)) → nth (nth t i) j = f i j
theorem FilledC.start (n : Nat) (f : Nat → Nat → Int) {t : List (List Int)} (h : Sq n t) : FilledC n f 0 0 t := ⟨h, fun i j _ _ h => by omega⟩
theorem FilledC.more {n : Nat} {f : Nat → Nat → Int} {x y : Nat} {t : List (List Int)} (h : FilledC n f x y t) (hx : x < n) (hy : y < n) {z : Int} (hz : z = f y x) : FilledC n f x (y + 1) (set2 t y x z) := by
  refine ⟨set2_sq h.1 y x z hy, fun i j hi hj hij => ?_⟩
  rw [nth_set2 h.1 hy hx]
  split
  · rename_i e; rw [hz, e.1, e.2]
  · rename_i e
    exact h.2 i j hi hj (by omega)
theorem FilledC.next {n : Nat} {f : Nat → Nat → Int} {x : Nat} {t : List (List Int)} (h : FilledC n f x n t) : FilledC n f (x + 1) 0 t := ⟨h.1, fun i j hi hj hij => h.2 i j hi hj (by omega)⟩
theorem FilledC.whole {n : Nat} {f : Nat → Nat → Int} {t : List (List Int)} (h : FilledC n f n 0 t) : t = tab n f :=
  h.1.ext (tab_sq n f) fun x y hx hy => by rw [h.2 x y hx hy (.inl hy), nth_tab hx hy]

set_option maxRecDepth 10000 in
theorem specZeroDiagonal {B : Nat} {v : Value} {t : List (List Int)} {w : World} (h : RdII (· < B) w v t) (hB : B ≤ w.heap.size) :
    Calls Try.prog 40 #[v] w fun e w' => ∃ v, e = .returned (.tuple #[v, .bool (isQ t)]) ∧ Fresh OII w w' v (zV t) := by
  have h0 := Lib.hid h
  obtain ⟨at1, ct, rfl, h1, h2⟩ := h.isSlice
  unfold maxLen at h2
  clear h
  cases hq : isQ t
  · have hr := Lib.hid (zV_no hq)
    go_enter Try.func40, Try.ntmps40
    go_wp2_with fail
    refine (specL04Is h0.out hB).mono ?_
    rw [hq]
    rintro e w1 ⟨rfl, hb⟩
    go_wp2_with fail
    go_ret2
    exact ⟨_, rfl, by rw [hr.out]; exact Fresh.nil hb⟩
  have hr := Lib.hid (zV_yes hq)
  have hq' := Lib.hid hq
  have hl := isQ_len hq
  have hrl := Lib.hid (fun x (hx : x < t.length) => isQ_rowLen hq hx)
  clear hq
  go_enter Try.func40, Try.ntmps40
  go_wp2_with fail
  refine (specL04Is h0.out hB).mono ?_
  rw [hq'.out]
  rintro e w1 ⟨rfl, hb⟩
  have B0 := Lib.hid hb
  clear hb
  go_wp2_with fail
  refine (specBlank t.length hl.2 _).mono ?_
  rintro e w3 ⟨v1, rfl, hf0⟩
  have hf := hf0.back B0.out
  clear hf0
  obtain ⟨gt, gc, rfl⟩ := hf.shape (by simp [zeros]; omega)
  have hl3 := hf.len2
  rw [show (zeros t.length).length = t.length by simp [zeros]] at *
  have Hf := Lib.hid hf
  clear hf
  unfold maxLen at hl3
  go_wp2_with fail
  go_loopw [5] (fun i wr => ∃ k : Nat, k ≤ t.length ∧ i = .int .i64 k ∧ ∃ z, Hid (FilledC t.length (zF t) k 0 z) ∧ Hid (Fresh OII w wr (.slice (some ⟨gt, 0, none⟩) t.length gc) z)) (fun i _ => t.length - (intOf i).toNat)
  case atStart => exact ⟨0, Nat.zero_le _, rfl, _, Lib.hid (FilledC.start _ _ (zeros_sq _)), Hf⟩
  case round =>
    obtain ⟨x, hk, rfl, z, hz, hf⟩ := hrel
    obtain ⟨W1, rfl⟩ : ∃ W1, W1 = wr := ⟨_, rfl⟩
    by_cases hlt : x < t.length
    · have hrd := Lib.hid (Rd.below RdII.ok h0.out (hf.out.bel.mono hB))
      have hix := isQ_idx hq'.out hlt
      have hrx := hrl.out x hlt
      have hbef := Lib.hid (fun j (hj : j < idxOf (nth t x) 0) => idxOf_before hj (show idxOf (nth t x) 0 < (nth t x).length by rw [hrx]; exact hix.1))
      go_wp2
      go_loop [6] (fun i => ∃ k : Nat, k ≤ idxOf (nth t x) 0 ∧ i = .int .i64 k) (fun i => t.length - (intOf i).toNat)
      case atStart => exact ⟨0, Nat.zero_le _, rfl⟩
      case round =>
        obtain ⟨k, hkk, rfl⟩ := hrel
        have hkt : k < t.length := by omega
        obtain ⟨b, o, b1, o1, c1, rfl, _, _, hc1, hc2, g1, g2⟩ := hrd.out.cell hlt (y := k) (by rw [hrx]; exact hkt)
        rw [hrx] at hc1 g1
        unfold maxLen at g2
        by_cases hlk : k < idxOf (nth t x) 0
        · have hne := hbef.out k hlk
          have hneb : (nth (nth t x) k != 0) = true := by simpa using hne
          clear hne
          go_wp2
          go_round
          case rel => exact ⟨k + 1, by omega, by go_num⟩
          case measure => simp [intOf]; omega
        · obtain rfl : k = idxOf (nth t x) 0 := by omega
          rw [hix.2] at hc2
          have hF := Lib.hid (show ∀ y, nth (nth t y) (idxOf (nth t x) 0) = zF t y x from fun _ => rfl)
          clear hix hbef hlk
          generalize idxOf (nth t x) 0 = I at *
          go_wp2
          go_loopw [7] (fun i wr => ∃ k : Nat, k ≤ t.length ∧ i = .int .i64 k ∧ ∃ z, Hid (FilledC t.length (zF t) x k z) ∧ Hid (Fresh OII w wr (.slice (some ⟨gt, 0, none⟩) t.length gc) z)) (fun i _ => t.length - (intOf i).toNat)
          case atStart => exact ⟨0, Nat.zero_le _, rfl, _, hz, hf⟩
          case round =>
            obtain ⟨y, hky, rfl, z, hz, hg⟩ := hrel
            by_cases hlty : y < t.length
            · obtain ⟨gx, cx, hcl, g3, g4, hc5, hfz, hge, hput⟩ := hg.out.put2 (x := y) (y := x) (by rw [hz.out.1.1]; exact hlty) (by rw [hz.out.1.2 y hlty]; exact hlt)
              rw [hz.out.1.2 y hlty] at hcl g3
              unfold maxLen at g4
              have Hput := Lib.hid hput
              clear hput hc1 hc2
              obtain ⟨b', o', b3, o3, c3, e3, _, _, hc6, hc7, g5, g6⟩ := (Rd.below RdII.ok h0.out (hg.out.bel.mono hB)).cell hlty (y := I) (by rw [hrl.out y hlty]; exact hkt)
              simp only [Option.some.injEq, Addr.mk.injEq, and_true] at e3
              obtain ⟨rfl, rfl⟩ := e3
              rw [hrl.out y hlty] at hc6 g5
              unfold maxLen at g6
              go_wp2
              go_still_tail 13, (by kernel_rfl)
              change wpList _ _ _ _ _ wr.drew
              generalize hwd : wr.drew = W2
              have hfz2 : W2.frozen? ⟨gx, x, none⟩ = false := by rw [← hwd]; exact hfz
              have hc22 : W2.cell? ⟨gx, x, none⟩ = some (.int .i64 (nth (nth z y) x)) := by rw [← hwd]; exact hc5
              have Hwd := Lib.hid hwd
              clear hwd
              go_wp2
              go_roundw
              case rel => exact ⟨y + 1, by omega, by go_num, _, Lib.hid (hz.out.more hlt hlty (hF.out y)), Lib.hid (by rw [← Hwd.out]; exact Hput.out _ ((Below.refl _ _).drew) _)⟩
              case measure => simp [intOf]; omega
            · obtain rfl : y = t.length := by omega
              have ht2 := Lib.hid hz.out.next
              clear hc1 hc2
              go_wp2
              go_roundw
              case rel => exact ⟨x + 1, by omega, by go_num, z, ht2, hg⟩
              case measure => simp [intOf]; omega
    · obtain rfl : x = t.length := by omega
      have e := hz.out.whole
      subst e
      go_wp2
      go_ret2
      exact ⟨_, rfl, by rw [hr.out]; exact hf.out⟩
end Go.Proofs.Ytakliggacjckpaa
