/- Quasigroups: spec.l04Is. -/
import Derived.Test.YthomdggbmjknnaaQ1
namespace Go.Proofs.Ythomdggbmjknnaa
open Go.RowKit
set_option linter.unusedVariables false

theorem infoBool : (Try.prog.info? 4).map (fun i => (i.zero, i.size, i.bytes)) = some (some (.bool false), 1, 1) := by kernel_rfl
abbrev OB := OwnB 4
theorem OB.ok : Rep.Ok OB := Own.ok oB.ok

theorem idx_inj {n a b c d : Nat} (ha : a < n) (hc : c < n) (h : b * n + a = d * n + c) : b = d ∧ a = c := by
  have h1 : (b * n + a) / n = b := by rw [Nat.mul_comm, Nat.mul_add_div (by omega), Nat.div_eq_of_lt ha]; omega
  have h2 : (d * n + c) / n = d := by rw [Nat.mul_comm, Nat.mul_add_div (by omega), Nat.div_eq_of_lt hc]; omega
  have : b = d := by rw [← h1, h, h2]
  subst this
  exact ⟨rfl, by omega⟩
theorem idx_lt {n a b : Nat} (ha : a < n) (hb : b < n) : b * n + a < n * n := by
  have := Nat.mul_le_mul_right n (show b + 1 ≤ n from hb)
  rw [Nat.add_mul] at this
  omega

theorem isQ_cell {t : List (List Int)} (h1 : 1 ≤ t.length) (h2 : t.length ≤ 36) {x y : Nat} (hx : x < t.length) (hy : y < t.length) (h : cellQ t x y = false) : isQ t = false := by
  rw [isQ_eq h1 h2]
  exact allB_no hx (by rw [rowQ, allB_no hy h, Bool.and_false])

/-- What the columns' marks are, in the row x before y. -/
def ColS (t : List (List Int)) (x y : Nat) (cs : List Bool) : Prop := cs.length = t.length * t.length ∧ ∀ b z : Nat, b < t.length → z < t.length → nth cs (b * t.length + z) = hasI ((colL t b).take (if b < y then x + 1 else x)) z
def RowS (t : List (List Int)) (x y : Nat) (rs : List Bool) : Prop := rs.length = t.length ∧ ∀ z : Nat, z < t.length → nth rs z = hasI ((nth t x).take y) z
theorem RowS.start (t : List (List Int)) (x : Nat) : RowS t x 0 (List.replicate t.length false) := ⟨by simp, fun z hz => by rw [nth_replicate hz]; simp [hasI]⟩
theorem ColS.start (t : List (List Int)) : ColS t 0 0 (List.replicate (t.length * t.length) false) := ⟨by simp, fun b z hb hz => by rw [nth_replicate (idx_lt hz hb)]; simp [hasI]⟩
theorem ColS.next {t : List (List Int)} {x : Nat} {cs : List Bool} (h : ColS t x t.length cs) : ColS t (x + 1) 0 cs := ⟨h.1, fun b z hb hz => by rw [h.2 b z hb hz, if_pos hb, if_neg (by omega)]⟩
theorem RowS.more {t : List (List Int)} {x y Z : Nat} {rs : List Bool} (h : RowS t x y rs) (hy : y < (nth t x).length) (hz : nth (nth t x) y = (Z : Int)) (hZ : Z < t.length) : RowS t x (y + 1) (rs.set Z true) := by
  refine ⟨by rw [List.length_set]; exact h.1, fun z hzl => ?_⟩
  rw [nth_set (by rw [h.1]; exact hZ), hasI_take_succ hy, hz]
  by_cases e : Z = z
  · subst e; simp
  · rw [if_neg e, h.2 z hzl]
    have : ((Z : Int) == (z : Int)) = false := by simp; omega
    rw [this, Bool.or_false]
theorem ColS.more {t : List (List Int)} {x y Z : Nat} {cs : List Bool} (h : ColS t x y cs) (hx : x < t.length) (hy : y < t.length) (hz : nth (nth t x) y = (Z : Int)) (hZ : Z < t.length) : ColS t x (y + 1) (cs.set (y * t.length + Z) true) := by
  refine ⟨by rw [List.length_set]; exact h.1, fun b z hb hzl => ?_⟩
  rw [nth_set (by rw [h.1]; exact idx_lt hZ hy)]
  by_cases e : y * t.length + Z = b * t.length + z
  · obtain ⟨rfl, rfl⟩ := idx_inj hZ hzl e
    rw [if_pos rfl, if_pos (by omega), hasI_take_succ (by rw [colL_length]; exact hx), nth_colL hx, hz]; simp
  · rw [if_neg e, h.2 b z hb hzl]
    by_cases hby : b = y
    · subst hby
      rw [if_neg (by omega), if_pos (by omega), hasI_take_succ (by rw [colL_length]; exact hx), nth_colL hx, hz]
      have : ((Z : Int) == (z : Int)) = false := by simp; omega
      rw [this, Bool.or_false]
    · by_cases hlt : b < y
      · rw [if_pos hlt, if_pos (by omega)]
      · rw [if_neg hlt, if_neg (by omega)]

set_option maxRecDepth 10000 in
theorem specL04Is {B : Nat} {v : Value} {t : List (List Int)} {w : World} (h : RdII (· < B) w v t) (hB : B ≤ w.heap.size) :
    Calls Try.prog 56 #[v] w fun e w' => e = .returned (.bool (isQ t)) ∧ Below w.heap.size w w' := by
  have h0 := Lib.hid h
  obtain ⟨a, c, rfl, h1, h2⟩ := h.isSlice
  unfold maxLen at h2
  clear h
  cases hin : inB (t.length : Int) 1 36
  · have hr := Lib.hid (show isQ t = false by
      by_cases hl1 : 1 ≤ t.length
      · exact isQ_great (fun h => by rw [inB_true.2 (by omega)] at hin; cases hin)
      · exact isQ_small hl1)
    go_enter Try.func56, Try.ntmps56
    go_wp2_with (go_at_call 44; refine (specIn _ _ _ _ (by assumption) _).mono ?_; rintro e w' ⟨rfl, rfl⟩)
    go_ret
    exact ⟨by rw [hr.out]; rfl, Below.refl _ _⟩
  have hl := inB_true.1 hin
  have hl1 : 1 ≤ t.length := by omega
  have hl2 : t.length ≤ 36 := by omega
  have hnn : t.length * t.length ≤ 1296 := by have := Nat.mul_le_mul hl2 hl2; omega
  have hmk := run_make_row' (P := Try.prog) 51 4 (.bool false) 1 Try.underlying51 infoBool rfl .i64 .i64 (t.length * t.length) (by omega) (by omega)
  have hmk2 := run_make_row' (P := Try.prog) 51 4 (.bool false) 1 Try.underlying51 infoBool rfl .i64 .i64 t.length (by omega) (by omega)
  rw [Int.natCast_mul] at hmk
  have hnnI : (t.length : Int) * t.length ≤ 1296 := by rw [← Int.natCast_mul]; omega
  have hnnI0 : 0 ≤ (t.length : Int) * t.length := by rw [← Int.natCast_mul]; omega
  go_enter Try.func56, Try.ntmps56
  go_wp2_with (go_at_call 44; refine (specIn _ _ _ _ (by assumption) _).mono ?_; rintro e w' ⟨rfl, rfl⟩)
  go_loopw [5] (fun i wr => ∃ (k : Nat) (cs : List Bool), k ≤ t.length ∧ i = .int .i64 k ∧ Hid (allB k (rowQ t) = true) ∧ Hid (ColS t k 0 cs) ∧ OB wr (.slice (some ⟨w.heap.size, 0, none⟩) (t.length * t.length) (t.length * t.length)) cs [w.heap.size] ∧ Below w.heap.size w wr) (fun i _ => t.length - (intOf i).toNat)
  case atStart => exact ⟨0, _, Nat.zero_le _, rfl, Lib.hid rfl, Lib.hid (ColS.start t), Own.made w _ fB false _ (by unfold maxLen; omega), (Below.refl _ _).alloc (Nat.le_refl _) _⟩
  case round =>
    obtain ⟨x, cs, hk, rfl, hok, hcs, hown, hbel⟩ := hrel
    obtain ⟨W1, rfl⟩ : ∃ W1, W1 = wr := ⟨_, rfl⟩
    have Hbel := Lib.hid hbel
    have hrd := Rd.below RdII.ok h0.out (hbel.mono hB)
    have Hown := Lib.hid hown
    by_cases hlt : x < t.length
    · obtain ⟨b, o, a', c', rfl, hb, hc, g1, g2, hr⟩ := hrd.row hlt
      clear hr hbel hrd hown
      unfold maxLen at g2
      by_cases hle : (nth t x).length = t.length
      · have hlb : (((nth t x).length : Int) != t.length) = false := by simp [hle]
        have Hle := Lib.hid hle
        clear hle
        go_wp2
        go_loopw [7] (fun i wc => ∃ (k : Nat) (cs rs : List Bool), k ≤ t.length ∧ i = .int .i64 k ∧ Hid (allB k (cellQ t x) = true) ∧ Hid (ColS t x k cs) ∧ Hid (RowS t x k rs) ∧
          OB wc (.slice (some ⟨w.heap.size, 0, none⟩) (t.length * t.length) (t.length * t.length)) cs [w.heap.size] ∧ OB wc (.slice (some ⟨W1.heap.size, 0, none⟩) t.length t.length) rs [W1.heap.size] ∧ Below w.heap.size w wc) (fun i _ => t.length - (intOf i).toNat)
        case atStart => exact ⟨0, _, _, Nat.zero_le _, rfl, Lib.hid rfl, hcs, Lib.hid (RowS.start t x), Own.alloc oB.ok Hown.out _, Own.made W1 _ fB false _ (by unfold maxLen; omega), Hbel.out.alloc Hbel.out.size _⟩
        case round =>
          obtain ⟨y, cs, rs, hky, rfl, hoky, hcs, hrs, hoc, hor, hbel⟩ := hrel
          have hlw := Hbel.out.size
          have hwlt : w.heap.size < W1.heap.size := by have := OB.ok.lt Hown.out w.heap.size (by simp); omega
          clear Hown
          have Hbel := Lib.hid hbel
          have Hoc := Lib.hid hoc
          have Hor := Lib.hid hor
          by_cases hlty : y < t.length
          · obtain ⟨b2, o2, b', o', c2, e2, hPb, hPb', hc3, hc4, g3, g4⟩ := (Rd.below RdII.ok h0.out (hbel.mono hB)).cell hlt (y := y) (by rw [Hle.out]; exact hlty)
            simp only [Option.some.injEq, Addr.mk.injEq, and_true] at e2
            obtain ⟨rfl, rfl⟩ := e2
            unfold maxLen at g4
            have hly : y < (nth t x).length := by rw [Hle.out]; exact hlty
            clear hc hbel
            cases hin2 : inB (nth (nth t x) y) 0 ((t.length : Int) - 1)
            · have hr := Lib.hid (isQ_cell hl1 hl2 hlt hlty (by simp [cellQ, hin2]))
              clear hoc hor
              go_wp2_with (go_at_call 44; refine (specIn _ _ _ _ (by assumption) _).mono ?_; rintro e w' ⟨rfl, rfl⟩)
              go_ret
              exact ⟨by rw [hr.out]; rfl, Hbel.out⟩
            obtain ⟨Z, hZ⟩ := Int.eq_ofNat_of_zero_le (inB_true.1 hin2).1
            have hZl : Z < t.length := by have := (inB_true.1 hin2).2; omega
            have hq1 : hasI ((nth t x).take y) (nth (nth t x) y) = nth rs Z := by rw [hrs.out.2 Z hZl, hZ]
            have hq2 : hasI ((colL t y).take x) (nth (nth t x) y) = nth cs (y * t.length + Z) := by rw [hcs.out.2 y Z hlty hZl, if_neg (by omega), hZ]
            have hor1 := hor.cell (i := Z) (by rw [hrs.out.1]; exact hZl)
            have hoc1 := hoc.cell (i := y * t.length + Z) (by rw [hcs.out.1]; exact idx_lt hZl hlty)
            have hix := idx_lt hZl hlty
            have hfc := hoc.frozen (y * t.length + Z)
            have hfr := hor.frozen Z
            have hor2 := Lib.hid ((hor.put (i := Z) (by rw [hrs.out.1]; exact hZl) true).other oB.ok (g := w.heap.size) (i := y * t.length + Z) (by simp; omega) (.bool true))
            have hoc2 := Lib.hid ((hoc.other oB.ok (g := W1.heap.size) (i := Z) (by simp; omega) (.bool true)).put (i := y * t.length + Z) (by rw [hcs.out.1]; exact hix) true)
            have hrs2 := Lib.hid (hrs.out.more (by rw [Hle.out]; exact hlty) hZ hZl)
            have hcs2 := Lib.hid (hcs.out.more hlt hlty hZ hZl)
            have hin3 := hin2
            rw [hZ] at hc4 hin3
            have hy0 : 0 ≤ (y : Int) * t.length := by rw [← Int.natCast_mul]; omega
            have hy1 : (y : Int) * t.length ≤ 1296 := by rw [← Int.natCast_mul]; omega
            have hyi : (y : Int) * t.length + Z = ((y * t.length + Z : Nat) : Int) := by rw [Int.natCast_add, Int.natCast_mul]
            generalize hK : y * t.length + Z = K at hoc1 hix hfc hoc2 hor2 hcs2 hq2 hyi
            clear hor hoc
            cases hb1 : nth rs Z
            · cases hb2 : nth cs K
              · have hok2 := Lib.hid (allB_more hoky.out (show cellQ t x y = true by simp [cellQ, hin2, hq1, hq2, hb1, hb2]))
                rw [hb1] at hor1
                rw [hb2] at hoc1
                have hoc1' := hoc1
                clear hK hq1 hq2 hrs hcs hin2
                go_wp2_with (go_at_call 44; refine (specIn _ _ _ _ (by assumption) _).mono ?_; rintro e w' ⟨rfl, rfl⟩)
                go_roundw
                case rel => exact ⟨y + 1, _, _, by omega, by go_num, hok2, hcs2, hrs2, hoc2.out, hor2.out, (Hbel.out.setCell hlw _).setCell (Nat.le_refl _) _⟩
                case measure => simp [intOf]; omega
              · have hr := Lib.hid (isQ_cell hl1 hl2 hlt hlty (by simp [cellQ, hq2, hb2]))
                rw [hb1] at hor1
                rw [hb2] at hoc1
                clear hK hq1 hq2 hrs hcs hin2
                go_wp2_with (go_at_call 44; refine (specIn _ _ _ _ (by assumption) _).mono ?_; rintro e w' ⟨rfl, rfl⟩)
                go_ret
                exact ⟨by rw [hr.out]; rfl, Hbel.out⟩
            · have hr := Lib.hid (isQ_cell hl1 hl2 hlt hlty (by simp [cellQ, hq1, hb1]))
              rw [hb1] at hor1
              clear hK hq1 hq2 hrs hcs hin2
              go_wp2_with (go_at_call 44; refine (specIn _ _ _ _ (by assumption) _).mono ?_; rintro e w' ⟨rfl, rfl⟩)
              go_ret
              exact ⟨by rw [hr.out]; rfl, Hbel.out⟩
          · obtain rfl : y = t.length := by omega
            have hok2 := Lib.hid (allB_more hok.out (show rowQ t x = true by simp [rowQ, hoky.out, Hle.out]))
            have hcs2 := Lib.hid hcs.out.next
            clear hoc hor hbel
            go_wp2
            go_roundw
            case rel => exact ⟨x + 1, _, by omega, by go_num, hok2, hcs2, Hoc.out, Hbel.out⟩
            case measure => simp [intOf]; omega
      · have hlb : (((nth t x).length : Int) != t.length) = true := by simp; omega
        have hr := Lib.hid (show isQ t = false by rw [isQ_eq hl1 hl2]; exact allB_no hlt (by simp [rowQ, hle]))
        clear hle
        go_wp2
        go_ret
        exact ⟨by rw [hr.out]; rfl, Hbel.out⟩
    · obtain rfl : x = t.length := by omega
      have hr := Lib.hid (show isQ t = true by rw [isQ_eq hl1 hl2]; exact hok.out)
      clear hrd hbel hown
      go_wp2
      go_ret
      exact ⟨by rw [hr.out]; rfl, Hbel.out⟩
end Go.Proofs.Ythomdggbmjknnaa
