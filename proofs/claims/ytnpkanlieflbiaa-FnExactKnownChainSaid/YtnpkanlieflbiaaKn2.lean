/- Known chains: fromLast, the closures, luhn, hybrid (the program), walked. -/
import Derived.Test.YtnpkanlieflbiaaKn1
import Derived.Test.YtnpkanlieflbiaaF4
import Derived.Test.YtnpkanlieflbiaaO2
import Derived.Test.YtnpkanlieflbiaaT2
import Derived.Deep.DeepCutAuto
namespace Go.Proofs.Ytnpkanlieflbiaa
open Go.RowKit
set_option linter.unusedVariables false

set_option maxRecDepth 100000 in
theorem implFromLast (P : Nat) (hP : 1 ≤ P ∧ P ≤ 20) (gF : Nat) (cap : Array Value) (f : Nat → Int) (w : World)
    (hp : ∀ (k : Nat), k < P → ∀ W, Calls Try.prog gF (#[.int .i64 k] ++ cap) W fun e w' => e = .returned (.int .i64 (f k)) ∧ W = w')
    (hg : ∀ (args : Array Value) (w : World), (callFunc gF args).run Try.prog w = .ok (.enter gF args) w) :
    Calls Try.prog 82 #[.int .i64 P, .func (.func gF) #[] cap] w fun e w' => ∃ v, e = .returned v ∧ Fresh OI w w' v (fromL f P P) := by
  have Hp := Lib.hid hp; clear hp
  go_enter Try.func82, Try.ntmps82
  go_wp2
  go_loopw [5, 6] (fun ov kv wr => ∃ (i : Nat) (z : Int), i ≤ P ∧ z + 1 + i = P ∧ kv = .int .i64 z ∧ Hid (Fresh OI w wr ov (fromL f P i))) (fun _ kv _ => (intOf kv + 1).toNat)
  case atStart => exact ⟨0, (P : Int) - 1, Nat.zero_le _, by omega, rfl, Lib.hid (Fresh.empty (E := 2) (R := oI) (Below.refl _ _))⟩
  case round =>
    obtain ⟨i, z, hi, hz, rfl, hf⟩ := hrel
    obtain ⟨W2, rfl⟩ : ∃ W2, W2 = wr := ⟨_, rfl⟩
    by_cases h0 : 0 ≤ z
    · obtain ⟨K, rfl⟩ := Int.eq_ofNat_of_zero_le h0
      have hsu := Lib.hid (show fromL f P (i + 1) = fromL f P i ++ [f K] by rw [fromL_succ, show P - 1 - i = K by omega])
      have hcl := Lib.hid (Hp.out K (by omega) W2)
      have hln := Lib.hid (fromL_len f P i)
      obtain ⟨a0, n0, c0, rfl⟩ := hf.out.choose_spec.1.isSlice
      go_wp2_with fail
      refine (Calls.mono hcl.out ?_)
      rintro e w5 ⟨rfl, rfl⟩
      go_wp2_with (at_builtin; refine wpList_pushF rfl _ _ 22 rfl (f := fI) (fun _ => rfl) Try.underlying22 infoI64 rfl hf.out (f K) (by have := hln.out; omega) (by have := hln.out; unfold maxLen; omega) rfl rfl ?_; intro v1 w5 hf5; have Hf5 := Lib.hid hf5; clear hf5)
      go_roundw
      case rel => exact ⟨i + 1, (K : Int) - 1, by omega, by omega, by go_num, by rw [hsu.out]; exact Hf5⟩
      case measure => (first | (simp [intOf]; done) | (simp [intOf]; omega))
    · obtain ⟨hie⟩ : Nonempty (i = P) := ⟨by omega⟩
      rw [hie] at hf
      clear hie
      go_wp2
      go_ret
      exact ⟨_, rfl, hf.out⟩

theorem implKn1 (k : Nat) (hk : k ≤ 20) (W : World) : Calls Try.prog 83 (#[.int .i64 k] ++ #[]) W fun e w' => e = .returned (.int .i64 (kw 1 k)) ∧ W = w' := by
  have e1 : (k : Int).tmod 2 = ((k % 2 : Nat) : Int) := by rw [Int.tmod_eq_emod_of_nonneg (by omega)]; omega
  have hv := Lib.hid (show kw 1 k = 1 + 2 * ((k % 2 : Nat) : Int) by simp [kw])
  have hm : k % 2 < 2 := Nat.mod_lt _ (by omega)
  generalize k % 2 = q at *
  have e2 : (k : Int) % 2 = (q : Int) := by rw [← e1, Int.tmod_eq_emod_of_nonneg (by omega)]
  go_enter Try.func83, Try.ntmps83
  go_wp2
  go_ret
  exact ⟨ret_int' (by rw [hv.out]; omega), rfl⟩
theorem implKn2 (k : Nat) (hk : k ≤ 20) (W : World) : Calls Try.prog 84 (#[.int .i64 k] ++ #[]) W fun e w' => e = .returned (.int .i64 (kw 2 k)) ∧ W = w' := by
  have hv := Lib.hid (show kw 2 k = (k : Int) + 1 by simp [kw])
  go_enter Try.func84, Try.ntmps84
  go_wp2
  go_ret
  exact ⟨ret_int' (by rw [hv.out]), rfl⟩
theorem implKn3 (k : Nat) (hk : k ≤ 13) (W : World) : Calls Try.prog 85 (#[.int .i64 k] ++ #[]) W fun e w' => e = .returned (.int .i64 (kw 3 k)) ∧ W = w' := by
  have h : k = 0 ∨ k = 1 ∨ k = 2 ∨ k = 3 ∨ k = 4 ∨ k = 5 ∨ k = 6 ∨ k = 7 ∨ k = 8 ∨ k = 9 ∨ k = 10 ∨ k = 11 ∨ k = 12 ∨ k = 13 := by omega
  rcases h with rfl | rfl | rfl | rfl | rfl | rfl | rfl | rfl | rfl | rfl | rfl | rfl | rfl | rfl
  all_goals
    go_enter Try.func85, Try.ntmps85
    go_wp2
    go_ret
    exact ⟨ret_int' (by decide), rfl⟩

theorem sameL10 : sameL 10 = sameT := by decide
theorem dblLit (w : World) : OI (w.alloc (.cells #[.int .i64 0, .int .i64 2, .int .i64 4, .int .i64 6, .int .i64 8, .int .i64 1, .int .i64 3, .int .i64 5, .int .i64 7, .int .i64 9] 2)) (.slice (some ⟨w.heap.size, 0, none⟩) 10 10) dblT [w.heap.size] := Own.lit w 2 fI dblT (by simp [dblT, maxLen])
theorem sameLit (w : World) : OI (w.alloc (.cells #[.int .i64 0, .int .i64 1, .int .i64 2, .int .i64 3, .int .i64 4, .int .i64 5, .int .i64 6, .int .i64 7, .int .i64 8, .int .i64 9] 2)) (.slice (some ⟨w.heap.size, 0, none⟩) 10 10) sameT [w.heap.size] := Own.lit w 2 fI sameT (by simp [sameT, maxLen])

set_option maxHeartbeats 3200000 in
set_option maxRecDepth 100000 in
theorem implLuhn (P : Nat) (hP : 1 ≤ P ∧ P ≤ 20) (w : World) :
    Calls Try.prog 80 #[.int .i64 P] w fun e w' => ∃ v, e = .returned v ∧ Fresh OC w w' v (luC P) := by
  obtain ⟨w1, hw1⟩ : ∃ w1, w1 = w.alloc (.cells #[.int .i64 0, .int .i64 0, .int .i64 0, .int .i64 0, .slice none 0 0, .slice none 0 0] 28) := ⟨_, rfl⟩
  have Hz1 := Lib.hid (show w1.heap[w.heap.size]? = some (.cells #[.int .i64 0, .int .i64 0, .int .i64 0, .int .i64 0, .slice none 0 0, .slice none 0 0] 28 (0, 0)) by rw [hw1]; exact heap_alloc_new w _)
  have Hs1 := Lib.hid (show w1.heap.size = w.heap.size + 1 by rw [hw1]; simp)
  have Hb1 := Lib.hid (show Below w.heap.size w w1 by rw [hw1]; exact (Below.refl _ _).alloc (Nat.le_refl _) _)
  have Hw1 := Lib.hid hw1
  have hsz1 : w.heap.size < w1.heap.size := by have := Hs1.out; omega
  have Hf0 := Lib.hid (show Fresh OII w1 (w1.alloc (.cells #[] 22)) (.slice (some ⟨w1.heap.size, 0, none⟩) 0 0) [] from Fresh.empty (Below.refl w1.heap.size w1))
  rw [Hs1.out] at Hf0
  clear hw1
  go_enter Try.func80, Try.ntmps80
  go_wp2_with fail
  rw [← Hw1.out]
  go_loopw [3, 4] (fun ov kv wr => ∃ (i : Nat) (z : Int), i ≤ P ∧ z + 1 + i = P ∧ kv = .int .i64 z ∧ Hid (Fresh OII w1 wr ov (fromL luL P i))) (fun _ kv _ => (intOf kv + 1).toNat)
  case atStart => exact ⟨0, (P : Int) - 1, Nat.zero_le _, by omega, rfl, Hf0⟩
  case round =>
    clear Hf0
    obtain ⟨i, z, hi, hz, rfl, hf⟩ := hrel
    obtain ⟨W2, rfl⟩ : ∃ W2, W2 = wr := ⟨_, rfl⟩
    by_cases h0 : 0 ≤ z
    · obtain ⟨K, rfl⟩ := Int.eq_ofNat_of_zero_le h0
      have hsu := Lib.hid (show fromL luL P (i + 1) = fromL luL P i ++ [luL K] by rw [fromL_succ, show P - 1 - i = K by omega])
      have hln := Lib.hid (fromL_len luL P i)
      have hPi : i ≤ 20 := by omega
      have hm2 : K % 2 = 0 ∨ K % 2 = 1 := by omega
      rcases hm2 with hm | hm
      · have e1 : (K : Int).tmod 2 = 0 := by rw [Int.tmod_eq_emod_of_nonneg (by omega)]; omega
        have e2 : (K : Int) % 2 = 0 := by omega
        have hl := luL_even hm
        rw [hl] at hsu
        have hcl := Lib.hid (implSameOrder 10 (by omega) W2)
        rw [sameL10, show ((10 : Nat) : Int) = 10 from rfl] at hcl
        clear hm hl
        go_wp2_with fail
        refine (Calls.mono hcl.out ?_)
        rintro e w3 ⟨v7, rfl, hf7⟩
        obtain ⟨S, T, p1, p2, p3, p4⟩ := pushRow OI.ok hf.out hf7
        have Hp1 := Lib.hid p1
        have Hp2 := Lib.hid p2
        have Hp3 := Lib.hid p3
        have Hp4 := Lib.hid p4
        obtain ⟨av, nv, cv, rfl⟩ := p1.isSlice
        obtain ⟨a13, n13, c13, rfl⟩ := p2.isSlice
        clear p1 p2 p3 p4 hf7
        go_wp2_with (at_builtin; refine wpList_push rfl _ _ 38 rfl OI.ok Try.underlying38 infoSl' rfl Hp1.out Hp2.out Hp3.out (by have := hln.out; omega) (by have := hln.out; unfold maxLen; omega) rfl rfl ?_; intro v1 w8 S8 hown1 honly1 hS8; have Hf5 := Lib.hid (Hp4.out v1 w8 S8 hown1 honly1 hS8); clear hown1 honly1 hS8)
        go_roundw
        case rel => exact ⟨i + 1, (K : Int) - 1, by omega, by omega, by go_num, by rw [hsu.out]; exact Hf5⟩
        case measure => (first | (simp [intOf]; done) | (simp [intOf]; omega))
      · have e1 : (K : Int).tmod 2 = 1 := by rw [Int.tmod_eq_emod_of_nonneg (by omega)]; omega
        have e2 : (K : Int) % 2 = 1 := by omega
        have hl := luL_odd (k := K) (by omega)
        rw [hl] at hsu
        have hf7 : Fresh OI W2 (W2.alloc (.cells #[.int .i64 0, .int .i64 2, .int .i64 4, .int .i64 6, .int .i64 8, .int .i64 1, .int .i64 3, .int .i64 5, .int .i64 7, .int .i64 9] 2)) (.slice (some ⟨W2.heap.size, 0, none⟩) 10 10) dblT := ⟨_, dblLit W2, by simp, (Below.refl _ _).alloc (Nat.le_refl _) _⟩
        obtain ⟨S, T, p1, p2, p3, p4⟩ := pushRow OI.ok hf.out hf7
        have Hp1 := Lib.hid p1
        have Hp2 := Lib.hid p2
        have Hp3 := Lib.hid p3
        have Hp4 := Lib.hid p4
        obtain ⟨av, nv, cv, rfl⟩ := p1.isSlice
        clear p1 p2 p3 p4 hf7 hm hl
        go_wp2_with (at_builtin; refine wpList_push rfl _ _ 38 rfl OI.ok Try.underlying38 infoSl' rfl Hp1.out Hp2.out Hp3.out (by have := hln.out; omega) (by have := hln.out; unfold maxLen; omega) rfl (by rw [alloc_size]; rfl) ?_; intro v1 w8 S8 hown1 honly1 hS8; have Hf5 := Lib.hid (Hp4.out v1 w8 S8 hown1 honly1 hS8); clear hown1 honly1 hS8)
        go_roundw
        case rel => exact ⟨i + 1, (K : Int) - 1, by omega, by omega, by go_num, by rw [hsu.out]; exact Hf5⟩
        case measure => (first | (simp [intOf]; done) | (simp [intOf]; omega))
    · obtain ⟨hie⟩ : Nonempty (i = P) := ⟨by omega⟩
      rw [hie] at hf
      have hrk : RdII (· < W2.heap.size) W2 _ (luO P) := hf.out.rd OII.leads OII.ok
      have hcl := implAdding hrk (Nat.le_refl _) 10 10 0 (by rw [luO, fromL_len]; omega) (by omega) (luO_bd P)
      rw [show ((10 : Nat) : Int) = 10 from rfl, show ((0 : Nat) : Int) = 0 from rfl] at hcl
      have Hcl := Lib.hid hcl
      obtain ⟨a5, n5, c5, rfl⟩ := hf.out.choose_spec.1.isSlice
      have Hz2 := Lib.hid (below_heap hf.out.bel Hz1.out)
      have Hbw := Lib.hid (show Below w.heap.size w W2 from Hb1.out.trans (hf.out.bel.mono (by omega)))
      have hz2 : w.heap.size < W2.heap.size := heap_lt Hz2.out
      clear hcl hrk hie hf
      go_wp2_with fail
      refine (Calls.mono Hcl.out ?_)
      rintro e w6 ⟨v6, rfl, hf6⟩
      obtain ⟨u, p, rfl, a7, n7, c7, a8, n8, c8, rfl, rfl⟩ := hf6.aggC
      have hz6 := below_heap hf6.bel Hz2.out
      have z0 := heap_cell hz6 (i := 0) rfl
      have z1 := heap_cell hz6 (i := 1) rfl
      have z2 := heap_cell hz6 (i := 2) rfl
      have z3 := heap_cell hz6 (i := 3) rfl
      have z4 := heap_cell hz6 (i := 4) rfl
      have z5 := heap_cell hz6 (i := 5) rfl
      have f0 := frozen_at hz6 0
      have f1 := frozen_at hz6 1
      have f2 := frozen_at hz6 2
      have f3 := frozen_at hz6 3
      have f4 := frozen_at hz6 4
      have f5 := frozen_at hz6 5
      have Hf := Lib.hid (show Fresh OC W2 w6 _ (luC P) from hf6)
      clear hf6 hz6
      go_wp2
      refine bodyPost_ret (v := .agg #[.int .i64 (addC (luO P) id 10 10 0).base, .int .i64 (addC (luO P) id 10 10 0).states, .int .i64 (addC (luO P) id 10 10 0).start, .int .i64 (addC (luO P) id 10 10 0).stop, .slice a7 n7 c7, .slice a8 n8 c8]) (by simp [results, Try.results80, go_sem, z0, z1, z2, z3, z4, z5]) rfl ⟨_, rfl, Fresh.turned OC.ok Hf.out Hbw.out hz2 (by repeat' (first | with_reducible exact Only.refl _ _ | with_reducible refine Only.put ?_ ?_ _ _ | (simp; done)))⟩
end Go.Proofs.Ytnpkanlieflbiaa
