/- Runs from a state, walked on both sides; how long an error of a kind is. -/
import Derived.Test.YtnpkanlieflbiaaD3
import Derived.Test.YtnpkanlieflbiaaC5
import Derived.Deep.QuietTactic
import Derived.BigQuiet
import Derived.IntWalk
import Derived.Test.YtnpkanlieflbiaaF1
namespace Go.Proofs.Ytnpkanlieflbiaa
open Go.RowKit
set_option linter.unusedVariables false

theorem runN_take {x : Chn} {k s i : Nat} {ds : List Int} (hi : i < ds.length) : runN x k s (ds.take (i + 1)) = nxt x (k + i) (runN x k s (ds.take i)) (nth ds i).toNat := by
  rw [take_nth hi, runN_snoc, List.length_take, Nat.min_eq_left (by omega)]
theorem Digs.take {b : Nat} {ds : List Int} (h : Digs b ds) (i : Nat) : Digs b (ds.take i) := fun d hd => h d (List.mem_of_mem_take hd)

set_option maxRecDepth 10000 in
theorem implLeads {P Q : Nat → Prop} {bx : Nat} {x : Chn} {w : World} (h : BoxC P w bx x) (hv : VC x) (k s : Nat) {v : Value} {ds : List Int} (hd : RdI Q w v ds) (hg : Digs x.b ds) (hk : k + ds.length ≤ x.n) (hs : s < x.S) :
    Calls Try.prog 145 #[.pointer (some ⟨bx, 0, none⟩), .int .i64 k, .int .i64 s, v] w fun e w' => e = .returned (.int .i64 (runN x k s ds)) ∧ ∃ m, w.drewN m = w' := by
  obtain ⟨a, c, rfl, h1, h2⟩ := hd.isSlice
  have H := Lib.hid h
  have Hv := Lib.hid hv
  have Hd := Lib.hid hd
  have Hg := Lib.hid hg
  have hn := hv.nat.2.2.2.2
  clear h hv hd hg
  simp only [Chn.n] at hk hn
  unfold maxLen at h2
  go_enter Try.func145, Try.ntmps145
  go_wp2
  go_loopw [2, 13] (fun sv i wr => ∃ (j m : Nat), j ≤ ds.length ∧ i = .int .i64 j ∧ sv = .int .i64 (runN x k s (ds.take j)) ∧ w.drewN m = wr) (fun _ i _ => ds.length - (intOf i).toNat)
  case atStart => exact ⟨0, 0, Nat.zero_le _, rfl, rfl, rfl⟩
  case round =>
    obtain ⟨j, m, hj, rfl, rfl, rfl⟩ := hrel
    by_cases hlt : j < ds.length
    · obtain ⟨b, o, u, rfl, _, hc, rfl⟩ := Rd.elim Hd.out j hlt
      obtain ⟨d, hdn⟩ := Int.eq_ofNat_of_zero_le (Hg.out _ (nth_mem hlt)).1
      have hdb : d < x.b := by have := (Hg.out _ (nth_mem hlt)).2; rw [hdn] at this; omega
      have hc1 : w.cell? ⟨b, o + j, none⟩ = some (.int .i64 (d : Int)) := by rw [← hdn]; exact hc
      have hst := Lib.hid (show runN x k s (ds.take (j + 1)) = nxt x (k + j) (runN x k s (ds.take j)) d by rw [runN_take hlt, hdn]; rfl)
      have hrs := Hv.out.runLt (ds := ds.take j) (Hg.out.take j) (k := k) (s := s) (by rw [List.length_take]; simp only [Chn.n]; omega) hs
      have hcl := Lib.hid (fun m => implNext (H.out.draws m) Hv.out (k + j) (runN x k s (ds.take j)) d (by simp only [Chn.n]; omega) hrs hdb)
      clear hc hdn hrs hdb
      generalize runN x k s (ds.take j) = r at *
      go_wp2_with (go_at_call 103; refine (Calls.mono (hcl.out _) ?_); rintro e w' ⟨rfl, m2, rfl⟩)
      go_roundw
      case rel => exact ⟨j + 1, _, by omega, by go_num, by rw [hst.out], rfl⟩
      case measure => simp [intOf]; omega
    · obtain rfl : j = ds.length := by omega
      have hr := Lib.hid (List.take_length (l := ds))
      go_wp2
      go_ret
      exact ⟨ret_int' (by rw [hr.out]), _, rfl⟩

set_option maxRecDepth 10000 in
theorem specRun {P Q : Nat → Prop} {bx : Nat} {x : Chn} {w : World} (h : BoxC P w bx x) (hv : VC x) (k s : Nat) {v : Value} {ds : List Int} (hd : RdI Q w v ds) (hg : Digs x.b ds) (hk : k + ds.length ≤ x.n) (hs : s < x.S) :
    Calls Try.prog 151 #[.pointer (some ⟨bx, 0, none⟩), .int .i64 k, .int .i64 s, v] w fun e w' => e = .returned (.int .i64 (runN x k s ds)) ∧ ∃ m, w.drewN m = w' := by
  obtain ⟨a, c, rfl, h1, h2⟩ := hd.isSlice
  have H := Lib.hid h
  have Hv := Lib.hid hv
  have Hd := Lib.hid hd
  have Hg := Lib.hid hg
  have hn := hv.nat.2.2.2.2
  clear h hv hd hg
  simp only [Chn.n] at hk hn
  unfold maxLen at h2
  go_enter Try.func151, Try.ntmps151
  go_wp2
  go_loopw [2, 9] (fun sv i wr => ∃ (j m : Nat), j ≤ ds.length ∧ i = .int .i64 j ∧ sv = .int .i64 (runN x k s (ds.take j)) ∧ w.drewN m = wr) (fun _ i _ => ds.length - (intOf i).toNat)
  case atStart => exact ⟨0, 0, Nat.zero_le _, rfl, rfl, rfl⟩
  case round =>
    obtain ⟨j, m, hj, rfl, rfl, rfl⟩ := hrel
    by_cases hlt : j < ds.length
    · obtain ⟨b, o, u, rfl, _, hc, rfl⟩ := Rd.elim Hd.out j hlt
      obtain ⟨d, hdn⟩ := Int.eq_ofNat_of_zero_le (Hg.out _ (nth_mem hlt)).1
      have hdb : d < x.b := by have := (Hg.out _ (nth_mem hlt)).2; rw [hdn] at this; omega
      have hc1 : w.cell? ⟨b, o + j, none⟩ = some (.int .i64 (d : Int)) := by rw [← hdn]; exact hc
      have hst := Lib.hid (show runN x k s (ds.take (j + 1)) = nxt x (k + j) (runN x k s (ds.take j)) d by rw [runN_take hlt, hdn]; rfl)
      have hrs := Hv.out.runLt (ds := ds.take j) (Hg.out.take j) (k := k) (s := s) (by rw [List.length_take]; simp only [Chn.n]; omega) hs
      have hcl := Lib.hid (fun m => specNext (H.out.draws m) Hv.out (k + j) (runN x k s (ds.take j)) d (by simp only [Chn.n]; omega) hrs hdb)
      clear hc hdn hrs hdb
      generalize runN x k s (ds.take j) = r at *
      go_wp2_with (go_at_call 101; refine (Calls.mono (hcl.out _) ?_); rintro e w' ⟨rfl, m2, rfl⟩)
      go_roundw
      case rel => exact ⟨j + 1, _, by omega, by go_num, by rw [hst.out], rfl⟩
      case measure => simp [intOf]; omega
    · obtain rfl : j = ds.length := by omega
      have hr := Lib.hid (List.take_length (l := ds))
      go_wp2
      go_ret
      exact ⟨ret_int' (by rw [hr.out]), _, rfl⟩

/-! ### Lengths -/
theorem implErrLen (kind : Int) (w : World) : Calls Try.prog 135 #[.int .i64 kind] w fun e w' => e = .returned (.int .i64 (errLen kind : Nat)) ∧ w = w' := by
  by_cases h0 : kind = 0
  · subst h0
    go_enter Try.func135, Try.ntmps135
    go_wp2
    go_ret
    exact ⟨rfl, rfl⟩
  · by_cases h2 : kind = 2
    · subst h2
      go_enter Try.func135, Try.ntmps135
      go_wp2
      go_ret
      exact ⟨rfl, rfl⟩
    · by_cases h4 : kind = 4
      · subst h4
        go_enter Try.func135, Try.ntmps135
        go_wp2
        go_ret
        exact ⟨rfl, rfl⟩
      · have hr := Lib.hid (show errLen kind = 2 by unfold errLen; rw [if_neg h0, if_neg (by omega)])
        go_enter Try.func135, Try.ntmps135
        go_wp2
        go_ret
        exact ⟨ret_int' (by rw [hr.out]; rfl), rfl⟩
def sizeK (base kind : Int) : Nat := if kindOk kind base then errLen kind else 0
theorem sizeK_yes {base kind : Int} (h : kindOk kind base = true) : sizeK base kind = errLen kind := by rw [sizeK, if_pos h]
theorem sizeK_no {base kind : Int} (h : kindOk kind base = false) : sizeK base kind = 0 := by rw [sizeK, if_neg (by simp [h])]
theorem specSize (base kind : Int) (w : World) : Calls Try.prog 104 #[.int .i64 base, .int .i64 kind] w fun e w' => e = .returned (.int .i64 (sizeK base kind : Nat)) ∧ w = w' := by
  have hs : ∀ z, kind = z → 0 ≤ z → z ≤ 4 → sizeK base kind = errLen z := fun z hz h1 h2 => by
    subst hz
    exact sizeK_yes (by simp [kindOk, inB]; omega)
  by_cases h0 : kind = 0
  · have hr := Lib.hid (hs 0 h0 (by omega) (by omega)); clear hs
    rw [h0] at hr ⊢; clear h0
    go_enter Try.func104, Try.ntmps104
    go_wp2
    go_ret
    exact ⟨ret_int' (by rw [hr.out]; rfl), rfl⟩
  · by_cases h1 : kind = 1
    · have hr := Lib.hid (hs 1 h1 (by omega) (by omega)); clear hs
      rw [h1] at hr ⊢; clear h1 h0
      go_enter Try.func104, Try.ntmps104
      go_wp2
      go_ret
      exact ⟨ret_int' (by rw [hr.out]; rfl), rfl⟩
    · by_cases h2 : kind = 2
      · have hr := Lib.hid (hs 2 h2 (by omega) (by omega)); clear hs
        rw [h2] at hr ⊢; clear h2 h1 h0
        go_enter Try.func104, Try.ntmps104
        go_wp2
        go_ret
        exact ⟨ret_int' (by rw [hr.out]; rfl), rfl⟩
      · by_cases h3 : kind = 3
        · have hr := Lib.hid (hs 3 h3 (by omega) (by omega)); clear hs
          rw [h3] at hr ⊢; clear h3 h2 h1 h0
          go_enter Try.func104, Try.ntmps104
          go_wp2
          go_ret
          exact ⟨ret_int' (by rw [hr.out]; rfl), rfl⟩
        · by_cases h4 : kind = 4
          · have hr := Lib.hid (hs 4 h4 (by omega) (by omega)); clear hs
            rw [h4] at hr ⊢; clear h4 h3 h2 h1 h0
            go_enter Try.func104, Try.ntmps104
            go_wp2
            go_ret
            exact ⟨ret_int' (by rw [hr.out]; rfl), rfl⟩
          · clear hs
            by_cases h5 : kind = 5
            · subst h5
              by_cases hb : 10 ≤ base
              · have hr := Lib.hid (show sizeK base 5 = 2 from (sizeK_yes (by simp [kindOk, inB]; omega)).trans rfl)
                go_enter Try.func104, Try.ntmps104
                go_wp2
                go_ret
                exact ⟨ret_int' (by rw [hr.out]; rfl), rfl⟩
              · have hr := Lib.hid (show sizeK base 5 = 0 from sizeK_no (by simp [kindOk, inB]; omega))
                go_enter Try.func104, Try.ntmps104
                go_wp2
                go_ret
                exact ⟨ret_int' (by rw [hr.out]; rfl), rfl⟩
            · have hr := Lib.hid (show sizeK base kind = 0 from sizeK_no (by simp [kindOk, inB]; omega))
              go_enter Try.func104, Try.ntmps104
              go_wp2
              go_ret
              exact ⟨ret_int' (by rw [hr.out]; rfl), rfl⟩
end Go.Proofs.Ytnpkanlieflbiaa
/- All lists of so many digits, handed on in order: impl.tuples, for whatever closure. -/
namespace Go.Proofs.Ytnpkanlieflbiaa
open Go.RowKit
set_option linter.unusedVariables false

theorem tup_zero (b n : Nat) : tup b n 0 = List.replicate n 0 := by
  induction n with
  | zero => rfl
  | succ n ih => simp [tup, ih, List.replicate_succ']
theorem nth_tup_last (b n i : Nat) : nth (tup b (n + 1) i) n = ((i % b : Nat) : Int) := by
  have h := nth_append_last (tup b n (i / b)) ((i % b : Nat) : Int)
  rwa [tup_length] at h
theorem nth_tup_front {b n i j : Nat} (h : j < n) : nth (tup b (n + 1) i) j = nth (tup b n (i / b)) j := nth_append_left (by rw [tup_length]; exact h)
theorem div_step {b i : Nat} (hb : 1 ≤ b) : (i % b = b - 1 → (i + 1) / b = i / b + 1 ∧ (i + 1) % b = 0) ∧ (i % b ≠ b - 1 → (i + 1) / b = i / b ∧ (i + 1) % b = i % b + 1) := by
  have h1 := Nat.div_add_mod i b
  have h2 := Nat.mod_lt i (show b > 0 by omega)
  constructor
  · intro h
    have e : i + 1 = b * (i / b + 1) + 0 := by rw [Nat.mul_add]; omega
    constructor
    · rw [e, Nat.mul_add_div (by omega)]; simp
    · rw [e, Nat.mul_add_mod]; simp
  · intro h
    have e : i + 1 = b * (i / b) + (i % b + 1) := by omega
    constructor
    · rw [e, Nat.mul_add_div (by omega), Nat.div_eq_of_lt (a := i % b + 1) (by omega), Nat.add_zero]
    · rw [e, Nat.mul_add_mod, Nat.mod_eq_of_lt (by omega)]
theorem tup_full {b n i : Nat} (hb : 1 ≤ b) (hi : i < b ^ n) (h : ∀ j, j < n → nth (tup b n i) j = (b : Int) - 1) : i + 1 = b ^ n := by
  induction n generalizing i with
  | zero => simp at hi ⊢; omega
  | succ n ih =>
    have hl := h n (by omega)
    rw [nth_tup_last] at hl
    have h1 := Nat.div_add_mod i b
    rw [Nat.pow_succ] at hi ⊢
    have hd : i / b < b ^ n := by rw [Nat.div_lt_iff_lt_mul (by omega)]; exact hi
    have := ih hd fun j hj => by rw [← nth_tup_front hj]; exact h j (by omega)
    have e : b ^ n * b = b * (i / b + 1) := by rw [← this, Nat.mul_comm]
    rw [e, Nat.mul_add]; omega
theorem tup_max {b n i : Nat} (hb : 1 ≤ b) (h : i + 1 = b ^ n) : ∀ j, j < n → nth (tup b n i) j = (b : Int) - 1 := by
  induction n generalizing i with
  | zero => intro j hj; omega
  | succ n ih =>
    intro j hj
    rw [Nat.pow_succ] at h
    have hp : 0 < b ^ n := Nat.pow_pos (by omega)
    have e : i = b * (b ^ n - 1) + (b - 1) := by
      have h1 : b * (b ^ n - 1) + b = b ^ n * b := by
        rw [Nat.mul_comm b, Nat.sub_mul, Nat.one_mul, Nat.sub_add_cancel]
        exact Nat.le_mul_of_pos_left b hp
      omega
    have h1 : i % b = b - 1 := by rw [e, Nat.mul_add_mod, Nat.mod_eq_of_lt (by omega)]
    have h2 : i / b = b ^ n - 1 := by rw [e, Nat.mul_add_div (by omega), Nat.div_eq_of_lt (a := b - 1) (by omega), Nat.add_zero]
    by_cases e2 : j = n
    · subst e2; rw [nth_tup_last, h1]; omega
    · rw [nth_tup_front (by omega)]; exact ih (by omega) j (by omega)
theorem tup_inc {b n i k : Nat} (hb : 1 ≤ b) (hk : k < n) (h : ∀ j, k < j → j < n → nth (tup b n i) j = (b : Int) - 1) (hne : nth (tup b n i) k ≠ (b : Int) - 1) :
    ∀ j, j < n → nth (tup b n (i + 1)) j = if j < k then nth (tup b n i) j else if j = k then nth (tup b n i) k + 1 else 0 := by
  induction n generalizing i with
  | zero => omega
  | succ n ih =>
    intro j hj
    by_cases e : k = n
    · subst e
      rw [nth_tup_last] at hne
      obtain ⟨h1, h2⟩ := (div_step (i := i) hb).2 (by omega)
      by_cases e2 : j = k
      · subst e2
        rw [nth_tup_last, h2, if_neg (by omega), if_pos rfl, nth_tup_last]; omega
      · rw [nth_tup_front (by omega), h1, if_pos (by omega), nth_tup_front (by omega)]
    · have hl := h n (by omega) (by omega)
      rw [nth_tup_last] at hl
      obtain ⟨h1, h2⟩ := (div_step (i := i) hb).1 (by omega)
      by_cases e2 : j = n
      · subst e2
        rw [nth_tup_last, h2, if_neg (by omega), if_neg (by omega)]; rfl
      · rw [nth_tup_front (by omega), h1, nth_tup_front (i := i) (by omega), nth_tup_front (i := i) (show k < n by omega)]
        exact ih (by omega) (fun j hj1 hj2 => by rw [← nth_tup_front hj2]; exact h j hj1 (by omega)) (by rw [← nth_tup_front (show k < n by omega)]; exact hne) j (by omega)
/-- The list while the last places are set back: those behind place c are 0 and were the last digit. -/
def BackTo (b n i c : Nat) (L : List Int) : Prop := L.length = n ∧ c ≤ n ∧ (∀ j, j < c → nth L j = nth (tup b n i) j) ∧ (∀ j, c ≤ j → j < n → nth L j = 0 ∧ nth (tup b n i) j = (b : Int) - 1)
theorem BackTo.start (b n i : Nat) : BackTo b n i n (tup b n i) := ⟨tup_length _ _ _, Nat.le_refl _, fun _ _ => rfl, fun j h1 h2 => by omega⟩
theorem BackTo.step {b n i c : Nat} {L : List Int} (h : BackTo b n i (c + 1) L) (he : nth L c = (b : Int) - 1) : BackTo b n i c (L.set c 0) := by
  obtain ⟨h1, h2, h3, h4⟩ := h
  refine ⟨by simp [h1], by omega, fun j hj => ?_, fun j hj hj2 => ?_⟩
  · rw [nth_set (by omega), if_neg (by omega)]; exact h3 j (by omega)
  · rw [nth_set (by omega)]
    by_cases e : c = j
    · subst e; rw [if_pos rfl, ← h3 c (by omega)]; exact ⟨rfl, he⟩
    · rw [if_neg e]; exact h4 j (by omega) hj2
theorem BackTo.inc {b n i c : Nat} {L : List Int} (hb : 1 ≤ b) (h : BackTo b n i (c + 1) L) (he : nth L c ≠ (b : Int) - 1) : L.set c (nth L c + 1) = tup b n (i + 1) := by
  obtain ⟨h1, h2, h3, h4⟩ := h
  have hi := tup_inc (i := i) hb (show c < n by omega) (fun j hj hj2 => (h4 j (by omega) hj2).2) (by rw [← h3 c (by omega)]; exact he)
  refine ext_nth (by simp [h1, tup_length]) fun j hj => ?_
  have hj : j < n := by simpa [h1] using hj
  rw [nth_set (by omega), hi j hj]
  by_cases e : c = j
  · subst e; rw [if_pos rfl, if_neg (by omega), if_pos rfl, h3 c (by omega)]
  · rw [if_neg e]
    by_cases e2 : j < c
    · rw [if_pos e2]; exact h3 j (by omega)
    · rw [if_neg e2, if_neg (by omega)]; exact (h4 j (by omega) hj).1
theorem BackTo.full {b n i : Nat} {L : List Int} (hb : 1 ≤ b) (hi : i < b ^ n) (h : BackTo b n i 0 L) : i + 1 = b ^ n :=
  tup_full hb hi fun j hj => (h.2.2.2 j (Nat.zero_le _) hj).2

set_option maxHeartbeats 1600000 in
set_option maxRecDepth 10000 in
theorem implTuples (b n : Nat) (hb : 1 ≤ b) (hb2 : b ≤ 36) (hn : 1 ≤ n) (hn2 : n ≤ 3) (w : World) (g : Nat) (cap : Array Value) (I : Nat → World → Prop) (Fin : World → Prop)
    (h0 : ∀ w1, Below w.heap.size w w1 → I 0 w1) (hst : ∀ i w1 w2, I i w1 → Below w.heap.size w1 w2 → I i w2) (hfin : ∀ w1, I (b ^ n) w1 → Fin w1)
    (hg : ∀ i, i < b ^ n → ∀ L c w1, w.heap.size ≤ L → L < w1.heap.size → RdI (· = L) w1 (.slice (some ⟨L, 0, none⟩) n c) (tup b n i) → I i w1 →
      Calls Try.prog g (#[.slice (some ⟨L, 0, none⟩) n c] ++ cap) w1 fun e w2 => ∃ d : Bool, e = .returned (.bool d) ∧ (d = true → I (i + 1) w2) ∧ (d = false → Fin w2) ∧ (∀ k, w.heap.size ≤ k → k < w1.heap.size → w2.heap[k]? = w1.heap[k]?))
    (hc : ∀ (args : Array Value) (w : World), (callFunc g args).run Try.prog w = .ok (.enter g args) w) :
    Calls Try.prog 141 #[.int .i64 b, .int .i64 n, .func (.func g) #[] cap] w fun e w' => e = .returned (.tuple #[]) ∧ Fin w' := by
  have Hg := Lib.hid hg
  have Hst := Lib.hid hst
  have Hfin := Lib.hid hfin
  have hmk := run_make_row' (P := Try.prog) 22 2 (.int .i64 0) 8 Try.underlying22 infoI64 rfl .i64 .i64 n (by omega) (by omega)
  have hbp : 0 < b ^ n := Nat.pow_pos (by omega)
  have H0 := Lib.hid (h0 (w.alloc (.cells (madeCells #[fI 0] n) 2)) ((Below.refl _ _).alloc (Nat.le_refl _) _))
  have Hown := Lib.hid (show OI (w.alloc (.cells (madeCells #[fI 0] n) 2)) (.slice (some ⟨w.heap.size, 0, none⟩) n n) (tup b n 0) [w.heap.size] by rw [tup_zero]; exact Own.made w 2 fI 0 n (by unfold maxLen; omega))
  clear hg hst hfin h0
  go_enter Try.func141, Try.ntmps141
  go_wp2
  go_loopg [7] (b ^ n) (fun gk s wr => ∃ i, i < b ^ n ∧ i + gk = b ^ n ∧ Hid (I i wr) ∧ Hid (OI wr (.slice (some ⟨w.heap.size, 0, none⟩) n n) (tup b n i) [w.heap.size]))
  case atStart => exact ⟨0, hbp, by omega, H0, Hown⟩
  case round =>
    obtain ⟨i, hi, hgk, hI, hown⟩ := hrel
    have hlt := OI.ok.lt hown.out w.heap.size (by simp)
    have Hcl := Lib.hid (Hg.out i hi w.heap.size n wr (Nat.le_refl _) hlt (OI.leads.to _ _ _ _ (· = w.heap.size) hown.out (by simp)) hI.out)
    clear hmk
    go_wp2_with fail
    refine (Calls.mono Hcl.out ?_)
    rintro e w2 ⟨d, rfl, hd1, hd2, hkeep⟩
    cases d
    · have HF := Lib.hid (hd2 rfl); clear hd1 hd2 hkeep
      go_wp2
      exact bodyPost_ret (results_none rfl _ _ _) rfl ⟨rfl, HF.out⟩
    · have HI2 := Lib.hid (hd1 rfl)
      have Hown2 := Lib.hid (OI.ok.keep hown.out fun k hk => by simp at hk; subst hk; exact hkeep _ (Nat.le_refl _) hlt)
      have hg1 := Lib.hid (BackTo.start b n i)
      clear hd1 hd2 hkeep
      have hb1 : IntKind.i64.wrap ((b : Int) - 1) = (b : Int) - 1 := IntWalk.i64_in _ (by omega)
      go_wp2
      go_loopw [7] (fun s wr => ∃ (c : Nat) (z : Int) (L : List Int), s = .int .i64 z ∧ z = c - 1 ∧ c ≤ n ∧ Hid (BackTo b n i c L) ∧ Hid (I (i + 1) wr) ∧ OI wr (.slice (some ⟨w.heap.size, 0, none⟩) n n) L [w.heap.size]) (fun s _ => (intOf s + 1).toNat)
      case atStart => exact ⟨n, (n : Int) - 1, _, rfl, rfl, Nat.le_refl _, hg1, HI2, Hown2.out⟩
      case round =>
        obtain ⟨c, z, L, rfl, hz, hcn, hbk, hI, hown⟩ := hrel
        have hL := hbk.out.1
        by_cases hc1 : 1 ≤ c
        · obtain ⟨k, rfl⟩ : ∃ k, c = k + 1 := ⟨c - 1, by omega⟩
          obtain rfl : z = (k : Nat) := by omega
          have hcc := hown.cell (i := k) (by omega)
          have hfz := hown.frozen k
          have hcc2 : wr.cell? ⟨w.heap.size, k, none⟩ = some (.int .i64 (nth L k)) := hcc
          clear hz hcc
          have hdig : 0 ≤ nth L k ∧ nth L k < b := by
            have h1 := hbk.out.2.2.1 k (by omega)
            rw [h1]
            exact tup_digs hb n i _ (nth_mem (by rw [tup_length]; omega))
          have hbel := Lib.hid (fun v => (Below.refl w.heap.size wr).setCell (p := ⟨w.heap.size, k, none⟩) (Nat.le_refl _) v)
          by_cases he : nth L k = (b : Int) - 1
          · have hbk2 := Lib.hid (hbk.out.step he)
            have hp := Lib.hid (hown.put (i := k) (by omega) 0)
            have hI2 := Lib.hid (Hst.out _ _ _ hI.out (hbel.out (.int .i64 0)))
            clear hown
            go_wp2
            go_roundw
            case rel => exact ⟨k, (k : Int) - 1, _, rfl, rfl, by omega, hbk2, hI2, hp.out⟩
            case measure => (show ((k : Int) - 1 + 1).toNat < ((k : Int) + 1).toNat; omega)
          · have hbk2 := Lib.hid (hbk.out.inc hb he)
            have hp := Lib.hid (hown.put (i := k) (by omega) (nth L k + 1))
            have hI2 := Lib.hid (Hst.out _ _ _ hI.out (hbel.out (.int .i64 (nth L k + 1))))
            have hi2 : i + 1 < b ^ n := by
              rcases Nat.lt_or_ge (i + 1) (b ^ n) with h | h
              · exact h
              · exfalso
                have hlt2 : i + 1 = b ^ n := by omega
                have h1 := tup_max hb hlt2 k (by omega)
                have h3 := hbk.out.2.2.1 k (by omega)
                exact he (h3.trans h1)
            clear hown
            go_wp2
            go_roundg (gk - 1)
            case rel => exact ⟨i + 1, hi2, by omega, hI2, by rw [← hbk2.out]; exact hp.out⟩
            case measure => omega
        · obtain rfl : c = 0 := by omega
          obtain rfl : z = -1 := by omega
          have hfl := hbk.out.full hb hi
          have HF := Lib.hid (Hfin.out _ (by rw [← hfl]; exact hI.out))
          clear hz hown hfl
          go_wp2
          exact bodyPost_ret (results_none rfl _ _ _) rfl ⟨rfl, HF.out⟩
end Go.Proofs.Ytnpkanlieflbiaa
