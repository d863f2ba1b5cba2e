/- The first undetected error: lists compared; a word checked; walked. -/
import Derived.Test.YtnpkanlieflbiaaFu6
import Derived.Shelf.Spec.SlicesGrow
namespace Go.Proofs.Ytnpkanlieflbiaa
open Go.RowKit
set_option linter.unusedVariables false

theorem nth_cons_succ {α : Type} [Inhabited α] (a : α) (u : List α) (j : Nat) : nth (a :: u) (j + 1) = nth u j := rfl
theorem nth_cons_zero {α : Type} [Inhabited α] (a : α) (u : List α) : nth (a :: u) 0 = a := rfl
/-- At the first place that differs the order is told. -/
theorem lexL_at : ∀ {xs ys : List Int} {i : Nat}, i < xs.length → i < ys.length → (∀ j, j < i → nth xs j = nth ys j) → nth xs i ≠ nth ys i → (lexL xs ys = true ↔ nth xs i < nth ys i)
  | [], _, i, h, _, _, _ => by simp at h
  | _ :: _, [], i, _, h, _, _ => by simp at h
  | a :: u, b :: v, 0, _, _, _, hne => by
    rw [nth_cons_zero, nth_cons_zero] at hne ⊢
    rw [lexL_cons]
    simp [hne]
  | a :: u, b :: v, i + 1, h1, h2, he, hne => by
    have e := he 0 (by omega)
    rw [nth_cons_zero, nth_cons_zero] at e
    subst e
    rw [lexL_same]
    exact lexL_at (by simpa using h1) (by simpa using h2) (fun j hj => he (j + 1) (by omega)) hne
theorem implCmp (a b : Int) (w : World) : Calls Try.prog 157 #[.int .i64 a, .int .i64 b] w fun e w' => e = .returned (.int .i64 (if a < b then -1 else if b < a then 1 else 0)) ∧ w = w' := by
  by_cases h1 : a < b
  · rw [if_pos h1]
    go_enter Try.func157, Try.ntmps157
    go_wp2
    go_ret
    exact ⟨rfl, rfl⟩
  · rw [if_neg h1]
    by_cases h2 : b < a
    · rw [if_pos h2]
      go_enter Try.func157, Try.ntmps157
      go_wp2
      go_ret
      exact ⟨rfl, rfl⟩
    · rw [if_neg h2]
      go_enter Try.func157, Try.ntmps157
      go_wp2
      go_ret
      exact ⟨rfl, rfl⟩
set_option maxHeartbeats 1600000 in
set_option maxRecDepth 100000 in
theorem slCompare {P Q : Nat → Prop} {u v : Value} {xs ys : List Int} {w : World} (h : RdI P w u xs) (h' : RdI Q w v ys) (hl : xs.length = ys.length) (hn : xs.length ≤ 1000) :
    Calls Try.prog 107 #[u, v] w fun e w' => ∃ r : Int, e = .returned (.int .i64 r) ∧ (r < 0 ↔ lexL xs ys = true) ∧ w = w' := by
  have H := Lib.hid h; have H' := Lib.hid h'
  obtain ⟨a, c, rfl, h1, h2⟩ := h.isSlice
  obtain ⟨a', c', rfl, h3, h4⟩ := h'.isSlice
  have hE := Lib.hid (show (∀ j, j < xs.length → nth xs j = nth ys j) → lexL xs ys = false from fun he => by
    rw [ext_nth hl he]; exact lexL_irr _)
  have hA := Lib.hid (fun (i : Nat) (hi : i < xs.length) (he : ∀ j, j < i → nth xs j = nth ys j) (hne : nth xs i ≠ nth ys i) => lexL_at hi (by rw [← hl]; exact hi) he hne)
  obtain ⟨n, hn'⟩ : ∃ n, n = xs.length := ⟨_, rfl⟩
  have hc1 := Lib.hid (fun (i : Nat) (hi : i < n) => Rd.elim H.out i (by rw [← hn']; exact hi))
  have hc2 := Lib.hid (fun (i : Nat) (hi : i < n) => Rd.elim H'.out i (by rw [← hl, ← hn']; exact hi))
  rw [← hn'] at hE hA hn h1
  rw [← hl, ← hn'] at h3
  rw [← hl, ← hn']
  unfold maxLen at h2 h4
  clear h h' hl hn' H H'
  go_enter Try.func107, Try.ntmps107
  go_wp2
  go_loopw [11] (fun iv wr => ∃ i : Nat, i ≤ n ∧ iv = .int .i64 i ∧ Hid (∀ j, j < i → nth xs j = nth ys j) ∧ w = wr) (fun iv _ => n - (intOf iv).toNat)
  case atStart => exact ⟨0, Nat.zero_le _, rfl, Lib.hid (fun j hj => absurd hj (Nat.not_lt_zero _)), rfl⟩
  case round =>
    obtain ⟨i, hi, rfl, he, rfl⟩ := hrel
    by_cases hin : i < n
    · obtain ⟨b1, o1, u1, rfl, _, q1, rfl⟩ := hc1.out i hin
      obtain ⟨b2, o2, u2, rfl, _, q2, rfl⟩ := hc2.out i hin
      by_cases hne : nth xs i = nth ys i
      · have he2 := Lib.hid (show ∀ j, j < i + 1 → nth xs j = nth ys j from fun j hj => by
          rcases Nat.lt_succ_iff_lt_or_eq.1 hj with h | rfl
          · exact he.out j h
          · exact hne)
        have hcm := Lib.hid (fun W => implCmp (nth xs i) (nth ys i) W)
        rw [if_neg (show ¬ nth xs i < nth ys i by omega), if_neg (show ¬ nth ys i < nth xs i by omega)] at hcm
        clear hne
        go_wp2_with fail
        refine (Calls.mono (hcm.out _) ?_)
        rintro e w' ⟨rfl, rfl⟩
        go_wp2
        go_roundw
        case rel => exact ⟨i + 1, by omega, by go_num, he2, by first | rfl | trivial⟩
        case measure => simp [intOf]; omega
      · have ha := Lib.hid (hA.out i hin he.out hne)
        by_cases hlt : nth xs i < nth ys i
        · have hcm := Lib.hid (fun W => implCmp (nth xs i) (nth ys i) W)
          rw [if_pos hlt] at hcm
          have hr := Lib.hid (ha.out.2 hlt)
          clear hne hlt
          go_wp2_with fail
          refine (Calls.mono (hcm.out _) ?_)
          rintro e w' ⟨rfl, rfl⟩
          go_wp2
          go_ret
          exact ⟨-1, rfl, ⟨fun _ => hr.out, fun _ => by omega⟩, rfl⟩
        · have hcm := Lib.hid (fun W => implCmp (nth xs i) (nth ys i) W)
          rw [if_neg hlt, if_pos (show nth ys i < nth xs i by omega)] at hcm
          have hr := Lib.hid (fun h => hlt (ha.out.1 h))
          clear hne hlt
          go_wp2_with fail
          refine (Calls.mono (hcm.out _) ?_)
          rintro e w' ⟨rfl, rfl⟩
          go_wp2
          go_ret
          exact ⟨1, rfl, ⟨fun h => by omega, fun h => absurd h hr.out⟩, rfl⟩
    · obtain ⟨hin2⟩ : Nonempty (i = n) := ⟨by omega⟩
      have hr := Lib.hid (hE.out (by rw [← hin2]; exact he.out))
      clear hin2
      go_wp2
      go_ret
      exact ⟨0, rfl, ⟨fun h => by omega, fun h => by rw [hr.out] at h; exact absurd h (by decide)⟩, rfl⟩
set_option maxHeartbeats 1600000 in
set_option maxRecDepth 100000 in
theorem implChecks {P Q : Nat → Prop} {bx : Nat} {x : Chn} {w : World} (h : BoxC P w bx x) (hv : VC x) {v : Value} {ds : List Int} (hd : RdI Q w v ds) (hg : Digs x.b ds) (hk : ds.length = x.n) :
    Calls Try.prog 110 #[.pointer (some ⟨bx, 0, none⟩), v] w fun e w' => e = .returned (.bool (decide (runN x 0 x.start.toNat ds = x.stop.toNat))) ∧ ∃ m, w.drewN m = w' := by
  obtain ⟨a, c, a', c', g0, g1, g2, g3, g4, g5, hu, hpp, ⟨h1, h2⟩, h3, h4⟩ := h.cells
  have hnat := hv.nat
  obtain ⟨NT, hNT⟩ : ∃ n : Nat, n = x.start.toNat := ⟨_, rfl⟩
  obtain ⟨NE, hNE⟩ : ∃ n : Nat, n = x.stop.toNat := ⟨_, rfl⟩
  rw [show x.start = (NT : Int) by have := hv.start; rw [hNT]; omega] at g2
  rw [show x.stop = (NE : Int) by have := hv.stop; rw [hNE]; omega] at g3
  have hcl := Lib.hid (fun m => implLeads (h.draws m) hv 0 x.start.toNat (RdI.ok.keep (w' := w.drewN m) hd fun _ _ => rfl) hg (by omega) hnat.2.2.1)
  obtain ⟨D, hD⟩ : ∃ D, D = runN x 0 x.start.toNat ds := ⟨_, rfl⟩
  rw [← hD, ← hNE]
  rw [← hD, ← hNT] at hcl
  have hdd := Lib.hid (show ((D : Int) == (NE : Int)) = decide (D = NE) by rw [Bool.eq_iff_iff, beq_iff_eq, decide_eq_true_eq]; omega)
  clear h hv hd hg hk hu hpp h1 h2 h3 h4 g0 g1 g4 g5 hD hNT hNE hnat
  go_enter Try.func110, Try.ntmps110
  go_wp2
  refine wp_region_quiet_lit (by kernel_rfl) (by kernel_rfl) ?_
  repeat (go_big_quiet_step (with_reducible exact quiet_draws (hcl.out _)))
  refine wpQuiet_nil ?_
  rintro _ ⟨nq, rfl⟩
  clear g2 g3
  go_wp2
  go_ret
  exact ⟨by rw [← hdd.out]; rfl, _, rfl⟩
end Go.Proofs.Ytnpkanlieflbiaa
/- The library's Grow and Concat over rows of numbers. Printed by mkfu9.py. -/
namespace Go.Proofs.Ytnpkanlieflbiaa
open Go.Shelf Go.RowKit
set_option linter.unusedVariables false

def layG4_ren : Go.Shelf.Ren := ⟨fun | 4 => 171 | n => n, fun | 22 => 22 | 25 => 2 | 3 => 3 | 4 => 4 | 9 => 9 | 20 => 20 | 0 => 0 | n => n, fun | n => n⟩
theorem layG4 : Go.Proofs.Lays8.n4 Try.prog layG4_ren :=
  { mixed := by kernel_rfl,
    f4 := ⟨"slices.Grow[[]int64,int64]", by decide, Try.func171.trans (congrArg some (by kernel_rfl))⟩,
    t0 := Try.underlying0,
    a0 := Try.isAgg0,
    z0 := Try.sizeOf0,
    v0 := Try.zeroValue0,
    t3 := Try.underlying3,
    a3 := Try.isAgg3,
    z3 := Try.sizeOf3,
    v3 := Try.zeroValue3,
    t4 := Try.underlying4,
    a4 := Try.isAgg4,
    z4 := Try.sizeOf4,
    v4 := Try.zeroValue4,
    t9 := Try.underlying9,
    a9 := Try.isAgg9,
    z9 := Try.sizeOf9,
    v9 := Try.zeroValue9,
    t20 := Try.underlying20,
    a20 := Try.isAgg20,
    z20 := Try.sizeOf20,
    v20 := Try.zeroValue20,
    t22 := Try.underlying22,
    a22 := Try.isAgg22,
    z22 := Try.sizeOf22,
    v22 := Try.zeroValue22 }

theorem implGrow (n : Nat) (hn : 1 ≤ n ∧ n ≤ 1000) (w : World) : Calls Try.prog 171 #[.slice none 0 0, .int .i64 n] w fun e w' => ∃ v, e = .returned v ∧ Fresh OI w w' v [] := by
  obtain ⟨i0, hi, hz, hsz, hby⟩ := Own.info (P := Try.prog) (E := 2) infoI64
  have h := Any8.slices_Grow_grow layG4 i0 (.int .i64 0) hi hz (by omega) none 0 0 n [] w (Nat.le_refl _) (by omega) (by rw [hby]; omega) (by omega) (by rw [hsz]; rfl) (fun _ => rfl) (fun a ha => by cases ha)
  refine Calls.mono h ?_
  rintro e w' ⟨rfl, rfl⟩
  have hc1 := grownCap_ge w (0 + n) 0 2
  have hc2 := grownCap_le_maxLen w (0 + n) 0 2 (by unfold maxLen; omega)
  refine ⟨_, rfl, [w.heap.size], .inr ⟨w.heap.size, _, _, [], rfl, heap_alloc_new w.drew _, ?_, Nat.zero_le _, hc2, by simp, by simp, by simp, fun i hi => absurd hi (by simp)⟩, by simp, (Below.refl _ _).drew.alloc (Nat.le_refl _) _⟩
  show _ = grownCap w (0 + n) 0 2
  have hz1 : ∀ k, (Builtin.zeroCells (Value.cells (.int .i64 0)) k).size = k := fun k => by simp [Builtin.zeroCells]; show k * 1 = k; omega
  simp only [Array.size_append, hz1, List.size_toArray, List.length_nil]
  show 0 + (0 + n - 0) + (grownCap w (0 + n) 0 2 - (0 + n)) = grownCap w (0 + n) 0 2
  omega
theorem flat_take {Ls : List (List Int)} {i : Nat} (h : i < Ls.length) : (Ls.take (i + 1)).flatten = (Ls.take i).flatten ++ nth Ls i := by rw [take_nth h]; simp
theorem flat_len {Ls : List (List Int)} (i : Nat) : (Ls.take i).flatten.length ≤ Ls.flatten.length := by
  have : Ls.flatten = (Ls.take i).flatten ++ (Ls.drop i).flatten := by rw [← List.flatten_append, List.take_append_drop]
  rw [this]; simp
set_option maxHeartbeats 1600000 in
set_option maxRecDepth 100000 in
theorem implConcat {P : Nat → Prop} {v : Value} {Ls : List (List Int)} {w : World} (h : RdII P w v Ls) (hP : ∀ k, P k → k < w.heap.size) (hl : 1 ≤ Ls.flatten.length ∧ Ls.flatten.length ≤ 1000) (hn : Ls.length ≤ 1000) :
    Calls Try.prog 159 #[v] w fun e w' => ∃ v, e = .returned v ∧ Fresh OI w w' v Ls.flatten := by
  have H := Lib.hid h
  obtain ⟨a, c, rfl, h1, h2⟩ := h.isSlice
  obtain ⟨n, hn'⟩ : ∃ n, n = Ls.length := ⟨_, rfl⟩
  have hrow := Lib.hid (fun (i : Nat) (hi : i < n) => rowsA H.out hP (i := i) (by rw [← hn']; exact hi))
  have hft := Lib.hid (fun (i : Nat) (hi : i < n) => flat_take (Ls := Ls) (i := i) (by rw [← hn']; exact hi))
  have hfl := Lib.hid (fun (i : Nat) => flat_len (Ls := Ls) i)
  have hfa := Lib.hid (show (Ls.take n).flatten = Ls.flatten by rw [hn', List.take_length])
  obtain ⟨M, hM⟩ : ∃ M, M = Ls.flatten.length := ⟨_, rfl⟩
  rw [← hM] at hl hfl
  have HM := Lib.hid hM
  rw [← hn'] at h1 hn ⊢
  unfold maxLen at h2
  clear h H hn' hM
  go_enter Try.func159, Try.ntmps159
  go_wp2
  go_loopw [3, 11] (fun sv iv wr => ∃ (i s : Nat), i ≤ n ∧ iv = .int .i64 i ∧ sv = .int .i64 s ∧ Hid (s = (Ls.take i).flatten.length) ∧ s ≤ M ∧ w = wr) (fun _ iv _ => n - (intOf iv).toNat)
  case atStart => exact ⟨0, 0, Nat.zero_le _, rfl, rfl, Lib.hid rfl, Nat.zero_le _, rfl⟩
  case round =>
    obtain ⟨i, s, hi, rfl, rfl, hs, hsM, rfl⟩ := hrel
    by_cases hin : i < n
    · obtain ⟨b, o, ar, cr, rfl, q1, q2, hc⟩ := hrow.out i hin
      have c0 := (hc w (Below.refl _ _)).1
      have hs2 := Lib.hid (show s + (nth Ls i).length = (Ls.take (i + 1)).flatten.length by rw [hft.out i hin, List.length_append, hs.out])
      have hsM2 : s + (nth Ls i).length ≤ M := by rw [hs2.out]; exact hfl.out _
      obtain ⟨L, hL⟩ : ∃ L, L = (nth Ls i).length := ⟨_, rfl⟩
      rw [← hL] at c0 hs2 hsM2 q1
      clear hc hL
      go_wp2
      go_roundw
      case rel => exact ⟨i + 1, s + L, by omega, by go_num, by go_num, hs2, hsM2, by first | rfl | trivial⟩
      case measure => simp [intOf]; omega
    · obtain ⟨hin2⟩ : Nonempty (i = n) := ⟨by omega⟩
      have hsM3 : s = M := by rw [hs.out, hin2, hfa.out, HM.out]
      subst hsM3
      clear hin2
      go_wp2_with fail
      refine (Calls.mono (implGrow s (by omega) w) ?_)
      rintro e w1 ⟨v1, rfl, hf1⟩
      have Hf1 := Lib.hid (show Fresh OI w w1 v1 ((Ls.take 0).flatten) from hf1)
      clear hf1
      go_wp2
      go_loopw [6, 27] (fun vo iv wr => ∃ i : Nat, i ≤ n ∧ iv = .int .i64 i ∧ Hid (Fresh OI w wr vo ((Ls.take i).flatten))) (fun _ iv _ => n - (intOf iv).toNat)
      case atStart => exact ⟨0, Nat.zero_le _, rfl, Hf1⟩
      case round =>
        clear Hf1
        obtain ⟨i, hi, rfl, hf⟩ := hrel
        obtain ⟨W2, rfl⟩ : ∃ W, W = wr := ⟨_, rfl⟩
        by_cases hin : i < n
        · obtain ⟨b, o, ar, cr, rfl, q1, q2, hc⟩ := hrow.out i hin
          have c0 := (hc W2 hf.out.bel).1
          have Hc := Lib.hid (hc W2 hf.out.bel).2
          have hf2 := hft.out i hin
          have hfn := Lib.hid (show Ls.flatten.length = s ∧ ((Ls.take i).flatten.length + (nth Ls i).length) ≤ s from ⟨HM.out.symm, by
            have h5 := hfl.out (i + 1)
            rw [hf2, List.length_append] at h5
            exact h5⟩)
          have Hf2 := Lib.hid hf2
          obtain ⟨aa, na, ca, rfl⟩ := hf.out.choose_spec.1.isSlice
          clear hc hf2
          go_wp2_with (at_builtin; refine wpList_appendF rfl (.tmp 31) (.tmp 32) 22 rfl (f := fI) (fun _ => rfl) Try.underlying22 infoI64 rfl hf.out Hc.out (by have := hfn.out.2; omega) (by have := hfn.out.2; unfold maxLen; omega) rfl rfl ?_; intro v2 w2 hf2)
          have Hf3 := Lib.hid (show Fresh OI w w2 v2 ((Ls.take (i + 1)).flatten) by rw [Hf2.out]; exact hf2)
          go_roundw
          case rel => exact ⟨i + 1, by omega, by go_num, Hf3⟩
          case measure => simp [intOf]; omega
        · obtain ⟨hin2⟩ : Nonempty (i = n) := ⟨by omega⟩
          rw [hin2, hfa.out] at hf
          clear hin2
          go_wp2
          go_ret
          exact ⟨_, rfl, hf.out⟩
end Go.Proofs.Ytnpkanlieflbiaa
