/- Runs from a state, walked on both sides; how long an error of a kind is. -/
import Derived.Test.YtcjmkiedcmlpcaaD3
import Derived.Test.YtcjmkiedcmlpcaaC5
import Derived.Deep.QuietTactic
import Derived.BigQuiet
import Derived.IntWalk
namespace Go.Proofs.Ytcjmkiedcmlpcaa
open Go.RowKit
set_option linter.unusedVariables false

theorem runN_take {x : Chn} {k s i : Nat} {ds : List Int} (hi : i < ds.length) : runN x k s (ds.take (i + 1)) = nxt x (k + i) (runN x k s (ds.take i)) (nth ds i).toNat := by
  rw [take_nth hi, runN_snoc, List.length_take, Nat.min_eq_left (by omega)]
theorem Digs.take {b : Nat} {ds : List Int} (h : Digs b ds) (i : Nat) : Digs b (ds.take i) := fun d hd => h d (List.mem_of_mem_take hd)

set_option maxRecDepth 10000 in
theorem implLeads {P Q : Nat → Prop} {bx : Nat} {x : Chn} {w : World} (h : BoxC P w bx x) (hv : VC x) (k s : Nat) {v : Value} {ds : List Int} (hd : RdI Q w v ds) (hg : Digs x.b ds) (hk : k + ds.length ≤ x.n) (hs : s < x.S) :
    Calls Try.prog 102 #[.pointer (some ⟨bx, 0, none⟩), .int .i64 k, .int .i64 s, v] w fun e w' => e = .returned (.int .i64 (runN x k s ds)) ∧ ∃ m, w.drewN m = w' := by
  obtain ⟨a, c, rfl, h1, h2⟩ := hd.isSlice
  have H := Lib.hid h
  have Hv := Lib.hid hv
  have Hd := Lib.hid hd
  have Hg := Lib.hid hg
  have hn := hv.nat.2.2.2.2
  clear h hv hd hg
  simp only [Chn.n] at hk hn
  unfold maxLen at h2
  go_enter Try.func102, Try.ntmps102
  go_wp2
  go_loopw [2, 13] (fun sv i wr => ∃ (j m : Nat), j ≤ ds.length ∧ i = .int .i64 j ∧ sv = .int .i64 (runN x k s (ds.take j)) ∧ w.drewN m = wr) (fun _ i _ => ds.length - (intOf i).toNat)
  case atStart => exact ⟨0, 0, Nat.zero_le _, rfl, rfl, rfl⟩
  case round =>
    obtain ⟨j, m, hj, rfl, rfl, rfl⟩ := hrel
    by_cases hlt : j < ds.length
    · obtain ⟨b, o, u, rfl, _, hc, rfl⟩ := Rd.elim Hd.out j hlt
      obtain ⟨d, hdn⟩ := Int.eq_ofNat_of_zero_le (Hg.out _ (nth_mem hlt)).1
      have hdb : d < x.b := by have := (Hg.out _ (nth_mem hlt)).2; rw [hdn] at this; omega
      have hc1 : w.cell? ⟨b, o + j, none⟩ = some (.int .i64 (d : Int)) := by rw [← hdn]; exact hc
      have hst := Lib.hid (show runN x k s (ds.take (j + 1)) = nxt x (k + j) (runN x k s (ds.take j)) d by rw [runN_take hlt, hdn]; rfl)
      have hrs := Hv.out.runLt (ds := ds.take j) (Hg.out.take j) (k := k) (s := s) (by rw [List.length_take]; simp only [Chn.n]; omega) hs
      have hcl := Lib.hid (fun m => implNext (H.out.draws m) Hv.out (k + j) (runN x k s (ds.take j)) d (by simp only [Chn.n]; omega) hrs hdb)
      clear hc hdn hrs hdb
      generalize runN x k s (ds.take j) = r at *
      go_wp2_with (go_at_call 80; refine (Calls.mono (hcl.out _) ?_); rintro e w' ⟨rfl, m2, rfl⟩)
      go_roundw
      case rel => exact ⟨j + 1, _, by omega, by go_num, by rw [hst.out], rfl⟩
      case measure => simp [intOf]; omega
    · obtain rfl : j = ds.length := by omega
      have hr := Lib.hid (List.take_length (l := ds))
      go_wp2
      go_ret
      exact ⟨ret_int' (by rw [hr.out]), _, rfl⟩

set_option maxRecDepth 10000 in
theorem specRun {P Q : Nat → Prop} {bx : Nat} {x : Chn} {w : World} (h : BoxC P w bx x) (hv : VC x) (k s : Nat) {v : Value} {ds : List Int} (hd : RdI Q w v ds) (hg : Digs x.b ds) (hk : k + ds.length ≤ x.n) (hs : s < x.S) :
    Calls Try.prog 110 #[.pointer (some ⟨bx, 0, none⟩), .int .i64 k, .int .i64 s, v] w fun e w' => e = .returned (.int .i64 (runN x k s ds)) ∧ ∃ m, w.drewN m = w' := by
  obtain ⟨a, c, rfl, h1, h2⟩ := hd.isSlice
  have H := Lib.hid h
  have Hv := Lib.hid hv
  have Hd := Lib.hid hd
  have Hg := Lib.hid hg
  have hn := hv.nat.2.2.2.2
  clear h hv hd hg
  simp only [Chn.n] at hk hn
  unfold maxLen at h2
  go_enter Try.func110, Try.ntmps110
  go_wp2
  go_loopw [2, 9] (fun sv i wr => ∃ (j m : Nat), j ≤ ds.length ∧ i = .int .i64 j ∧ sv = .int .i64 (runN x k s (ds.take j)) ∧ w.drewN m = wr) (fun _ i _ => ds.length - (intOf i).toNat)
  case atStart => exact ⟨0, 0, Nat.zero_le _, rfl, rfl, rfl⟩
  case round =>
    obtain ⟨j, m, hj, rfl, rfl, rfl⟩ := hrel
    by_cases hlt : j < ds.length
    · obtain ⟨b, o, u, rfl, _, hc, rfl⟩ := Rd.elim Hd.out j hlt
      obtain ⟨d, hdn⟩ := Int.eq_ofNat_of_zero_le (Hg.out _ (nth_mem hlt)).1
      have hdb : d < x.b := by have := (Hg.out _ (nth_mem hlt)).2; rw [hdn] at this; omega
      have hc1 : w.cell? ⟨b, o + j, none⟩ = some (.int .i64 (d : Int)) := by rw [← hdn]; exact hc
      have hst := Lib.hid (show runN x k s (ds.take (j + 1)) = nxt x (k + j) (runN x k s (ds.take j)) d by rw [runN_take hlt, hdn]; rfl)
      have hrs := Hv.out.runLt (ds := ds.take j) (Hg.out.take j) (k := k) (s := s) (by rw [List.length_take]; simp only [Chn.n]; omega) hs
      have hcl := Lib.hid (fun m => specNext (H.out.draws m) Hv.out (k + j) (runN x k s (ds.take j)) d (by simp only [Chn.n]; omega) hrs hdb)
      clear hc hdn hrs hdb
      generalize runN x k s (ds.take j) = r at *
      go_wp2_with (go_at_call 76; refine (Calls.mono (hcl.out _) ?_); rintro e w' ⟨rfl, m2, rfl⟩)
      go_roundw
      case rel => exact ⟨j + 1, _, by omega, by go_num, by rw [hst.out], rfl⟩
      case measure => simp [intOf]; omega
    · obtain rfl : j = ds.length := by omega
      have hr := Lib.hid (List.take_length (l := ds))
      go_wp2
      go_ret
      exact ⟨ret_int' (by rw [hr.out]), _, rfl⟩

/-! ### Lengths -/
theorem implErrLen (kind : Int) (w : World) : Calls Try.prog 95 #[.int .i64 kind] w fun e w' => e = .returned (.int .i64 (errLen kind : Nat)) ∧ w = w' := by
  by_cases h0 : kind = 0
  · subst h0
    go_enter Try.func95, Try.ntmps95
    go_wp2
    go_ret
    exact ⟨rfl, rfl⟩
  · by_cases h2 : kind = 2
    · subst h2
      go_enter Try.func95, Try.ntmps95
      go_wp2
      go_ret
      exact ⟨rfl, rfl⟩
    · by_cases h4 : kind = 4
      · subst h4
        go_enter Try.func95, Try.ntmps95
        go_wp2
        go_ret
        exact ⟨rfl, rfl⟩
      · have hr := Lib.hid (show errLen kind = 2 by unfold errLen; rw [if_neg h0, if_neg (by omega)])
        go_enter Try.func95, Try.ntmps95
        go_wp2
        go_ret
        exact ⟨ret_int' (by rw [hr.out]; rfl), rfl⟩
def sizeK (base kind : Int) : Nat := if kindOk kind base then errLen kind else 0
theorem sizeK_yes {base kind : Int} (h : kindOk kind base = true) : sizeK base kind = errLen kind := by rw [sizeK, if_pos h]
theorem sizeK_no {base kind : Int} (h : kindOk kind base = false) : sizeK base kind = 0 := by rw [sizeK, if_neg (by simp [h])]
theorem specSize (base kind : Int) (w : World) : Calls Try.prog 81 #[.int .i64 base, .int .i64 kind] w fun e w' => e = .returned (.int .i64 (sizeK base kind : Nat)) ∧ w = w' := by
  have hs : ∀ z, kind = z → 0 ≤ z → z ≤ 4 → sizeK base kind = errLen z := fun z hz h1 h2 => by
    subst hz
    exact sizeK_yes (by simp [kindOk, inB]; omega)
  by_cases h0 : kind = 0
  · have hr := Lib.hid (hs 0 h0 (by omega) (by omega)); clear hs
    rw [h0] at hr ⊢; clear h0
    go_enter Try.func81, Try.ntmps81
    go_wp2
    go_ret
    exact ⟨ret_int' (by rw [hr.out]; rfl), rfl⟩
  · by_cases h1 : kind = 1
    · have hr := Lib.hid (hs 1 h1 (by omega) (by omega)); clear hs
      rw [h1] at hr ⊢; clear h1 h0
      go_enter Try.func81, Try.ntmps81
      go_wp2
      go_ret
      exact ⟨ret_int' (by rw [hr.out]; rfl), rfl⟩
    · by_cases h2 : kind = 2
      · have hr := Lib.hid (hs 2 h2 (by omega) (by omega)); clear hs
        rw [h2] at hr ⊢; clear h2 h1 h0
        go_enter Try.func81, Try.ntmps81
        go_wp2
        go_ret
        exact ⟨ret_int' (by rw [hr.out]; rfl), rfl⟩
      · by_cases h3 : kind = 3
        · have hr := Lib.hid (hs 3 h3 (by omega) (by omega)); clear hs
          rw [h3] at hr ⊢; clear h3 h2 h1 h0
          go_enter Try.func81, Try.ntmps81
          go_wp2
          go_ret
          exact ⟨ret_int' (by rw [hr.out]; rfl), rfl⟩
        · by_cases h4 : kind = 4
          · have hr := Lib.hid (hs 4 h4 (by omega) (by omega)); clear hs
            rw [h4] at hr ⊢; clear h4 h3 h2 h1 h0
            go_enter Try.func81, Try.ntmps81
            go_wp2
            go_ret
            exact ⟨ret_int' (by rw [hr.out]; rfl), rfl⟩
          · clear hs
            by_cases h5 : kind = 5
            · subst h5
              by_cases hb : 10 ≤ base
              · have hr := Lib.hid (show sizeK base 5 = 2 from (sizeK_yes (by simp [kindOk, inB]; omega)).trans rfl)
                go_enter Try.func81, Try.ntmps81
                go_wp2
                go_ret
                exact ⟨ret_int' (by rw [hr.out]; rfl), rfl⟩
              · have hr := Lib.hid (show sizeK base 5 = 0 from sizeK_no (by simp [kindOk, inB]; omega))
                go_enter Try.func81, Try.ntmps81
                go_wp2
                go_ret
                exact ⟨ret_int' (by rw [hr.out]; rfl), rfl⟩
            · have hr := Lib.hid (show sizeK base kind = 0 from sizeK_no (by simp [kindOk, inB]; omega))
              go_enter Try.func81, Try.ntmps81
              go_wp2
              go_ret
              exact ⟨ret_int' (by rw [hr.out]; rfl), rfl⟩
end Go.Proofs.Ytcjmkiedcmlpcaa
