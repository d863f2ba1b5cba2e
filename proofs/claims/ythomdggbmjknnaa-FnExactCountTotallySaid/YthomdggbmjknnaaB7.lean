/- ZeroDiagonal. -/
import Derived.Test.YthomdggbmjknnaaB4
import Derived.Test.YthomdggbmjknnaaB6
import Derived.Test.YthomdggbmjknnaaP1
namespace Go.Proofs.Ythomdggbmjknnaa
open Go.RowKit
set_option linter.unusedVariables false

theorem isQ_ord {t : List (List Int)} (h : isQ t = true) {x : Nat} (hx : x < t.length) : isOrd (nth t x) 36 = true := by
  simp only [isQ, Bool.and_eq_true, allB_iff, rowOk] at h
  exact (h.2.1 x hx).2
theorem isQ_has {t : List (List Int)} (h : isQ t = true) {x z : Nat} (hx : x < t.length) (hz : z < t.length) : ∃ i, i < t.length ∧ nth (nth t x) i = z := by
  have ho := isQ_ord h hx
  have hl := isQ_rowLen h hx
  simp only [isOrd, Bool.and_eq_true] at ho
  obtain ⟨i, hi, e⟩ := ord_surj ho.1 (z := z) (by omega)
  exact ⟨i, by omega, e⟩

/-- The first index at which a list has v. -/
def idxOf (xs : List Int) (v : Int) : Nat := xs.findIdx (· == v)
theorem idxOf_lt {xs : List Int} {v : Int} {i : Nat} (hi : i < xs.length) (h : nth xs i = v) : idxOf xs v < xs.length :=
  List.findIdx_lt_length_of_exists ⟨v, by rw [← h, nth_eq hi]; exact List.getElem_mem hi, by simp⟩
theorem idxOf_at {xs : List Int} {v : Int} (h : idxOf xs v < xs.length) : nth xs (idxOf xs v) = v := by
  rw [nth_eq h]
  have := List.findIdx_getElem (p := (· == v)) (xs := xs) (w := h)
  simp only [beq_iff_eq] at this
  exact this
theorem idxOf_before {xs : List Int} {v : Int} {j : Nat} (h : j < idxOf xs v) (hl : idxOf xs v < xs.length) : nth xs j ≠ v := by
  rw [nth_eq (by omega)]
  have := List.not_of_lt_findIdx (p := (· == v)) (xs := xs) h
  simpa using this
theorem idxOf_eq {xs : List Int} {v : Int} {k : Nat} (hk : k < xs.length) (h : nth xs k = v) (hn : ∀ j, j < k → nth xs j ≠ v) : idxOf xs v = k := by
  have hlt := idxOf_lt hk h
  rcases Nat.lt_trichotomy (idxOf xs v) k with h1 | h1 | h1
  · exact absurd (idxOf_at hlt) (hn _ h1)
  · exact h1
  · exact absurd h (idxOf_before h1 hlt)

theorem slIndex {P : Nat → Prop} {v : Value} {xs : List Int} {w : World} (h : RdI P w v xs) (y : Int) {i : Nat} (hi : i < xs.length) (hy : nth xs i = y) :
    Calls Try.prog 77 #[v, .int .i64 y] w fun e w' => e = .returned (.int .i64 (idxOf xs y)) ∧ w = w' := by
  obtain ⟨a, c, rfl, h1, h2, hrd⟩ := h
  have Hrd := Lib.hid hrd; clear hrd
  have hlt0 := idxOf_lt hi hy
  unfold maxLen at h2
  go_enter Try.func77, Try.ntmps77
  go_wp2
  go_loop [8] (fun i => ∃ k : Nat, k ≤ xs.length ∧ i = .int .i64 k ∧ Hid (∀ j, j < k → nth xs j ≠ y)) (fun i => xs.length - (intOf i).toNat)
  case atStart => exact ⟨0, Nat.zero_le _, rfl, Lib.hid fun _ h => absurd h (Nat.not_lt_zero _)⟩
  case round =>
    obtain ⟨k, hk, rfl, hok⟩ := hrel
    have hlt : k < xs.length := by
      rcases Nat.lt_or_ge k xs.length with h | h
      · exact h
      · exact absurd hy (hok.out i (by omega))
    obtain ⟨b, o, u, rfl, hPb, hc, rfl⟩ := Hrd.out k hlt
    have hc1 : w.cell? ⟨b, o + k, none⟩ = some (Value.int .i64 (nth xs k)) := hc
    clear hc
    by_cases hx : nth xs k = y
    · have hr := Lib.hid (idxOf_eq hlt hx hok.out)
      have hxb : (y == nth xs k) = true := by simp [hx]
      clear hx hy
      go_wp2
      go_ret
      exact ⟨ret_int' (by rw [hr.out]), rfl⟩
    · have hok2 := Lib.hid (show ∀ j, j < k + 1 → nth xs j ≠ y from fun j hj => by
        rcases Nat.lt_succ_iff_lt_or_eq.1 hj with h | rfl
        · exact hok.out j h
        · exact hx)
      have hxb : (y == nth xs k) = false := by simp; exact fun e => hx e.symm
      clear hx
      go_wp2
      go_round
      case rel => exact ⟨k + 1, by omega, by go_num, hok2⟩
      case measure => simp [intOf]; omega

def zF (t : List (List Int)) (x y : Nat) : Int := nth (nth t x) (idxOf (nth t y) 0)
def zV (t : List (List Int)) : List (List Int) := if isQ t then tab t.length (zF t) else []
theorem zV_no {t : List (List Int)} (h : isQ t = false) : zV t = [] := by simp [zV, h]
theorem zV_yes {t : List (List Int)} (h : isQ t = true) : zV t = tab t.length (zF t) := by simp [zV, h]
theorem zV_cnt (t : List (List Int)) : cntL List.length (zV t) ≤ 1296 := by
  unfold zV
  split
  · rename_i h; exact sq_cnt (tab_sq _ _) (isQ_len h).2
  · simp [cntL]
theorem isQ_idx {t : List (List Int)} (h : isQ t = true) {y : Nat} (hy : y < t.length) : idxOf (nth t y) 0 < t.length ∧ nth (nth t y) (idxOf (nth t y) 0) = 0 := by
  obtain ⟨i, hi, e⟩ := isQ_has h hy (show 0 < t.length by omega)
  have hl := isQ_rowLen h hy
  have hlt := idxOf_lt (xs := nth t y) (v := 0) (by omega) e
  exact ⟨by omega, idxOf_at hlt⟩

/-- Filled column by column. -/
def FilledC (n : Nat) (f : Nat → Nat → Int) (x y : Nat) (t : List (List Int)) : Prop := Sq n t ∧ ∀ i j, i < n → j < n → (j < x ∨ (j = x ∧ i < y)) → nth (nth t i) j = f i j
theorem FilledC.start (n : Nat) (f : Nat → Nat → Int) {t : List (List Int)} (h : Sq n t) : FilledC n f 0 0 t := ⟨h, fun i j _ _ h => by omega⟩
theorem FilledC.more {n : Nat} {f : Nat → Nat → Int} {x y : Nat} {t : List (List Int)} (h : FilledC n f x y t) (hx : x < n) (hy : y < n) {z : Int} (hz : z = f y x) : FilledC n f x (y + 1) (set2 t y x z) := by
  refine ⟨set2_sq h.1 y x z hy, fun i j hi hj hij => ?_⟩
  rw [nth_set2 h.1 hy hx]
  split
  · rename_i e; rw [hz, e.1, e.2]
  · rename_i e
    exact h.2 i j hi hj (by omega)
theorem FilledC.next {n : Nat} {f : Nat → Nat → Int} {x : Nat} {t : List (List Int)} (h : FilledC n f x n t) : FilledC n f (x + 1) 0 t := ⟨h.1, fun i j hi hj hij => h.2 i j hi hj (by omega)⟩
theorem FilledC.whole {n : Nat} {f : Nat → Nat → Int} {t : List (List Int)} (h : FilledC n f n 0 t) : t = tab n f :=
  h.1.ext (tab_sq n f) fun x y hx hy => by rw [h.2 x y hx hy (.inl hy), nth_tab hx hy]

end Go.Proofs.Ythomdggbmjknnaa
