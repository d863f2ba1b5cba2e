/- Known chains: the reference's choice, walked. Printed by gen_kn8.py. -/
import Derived.Test.YtnpkanlieflbiaaKn7
namespace Go.Proofs.Ytnpkanlieflbiaa
open Go.RowKit
set_option linter.unusedVariables false

theorem kn_many {b : Int} {P : Nat} (hb : 10 ≤ b ∧ b ≤ 11) (hP : 1 ≤ P ∧ P ≤ 20) : manyB b P = powB b P := by
  cases h : powB b P
  · exact manyB_pow (inB_true.2 (by omega)) (inB_true.2 (by omega)) h
  · exact manyB_pow (inB_true.2 (by omega)) (inB_true.2 (by omega)) h
def mkKn (b t : Int) (v : Value) : Array Value := #[.int .i64 b, .int .i64 b, .int .i64 t, v]
theorem pow_step (j : Nat) : 2 * (2 ^ j % 11) % 11 = 2 ^ (j + 1) % 11 := by rw [Nat.pow_succ]; omega

set_option maxHeartbeats 6400000 in
set_option maxRecDepth 100000 in
theorem specKnP0 (p : Int) (hp : inB p 1 20 = false) (w : World) :
    Calls Try.prog 28 #[.int .i64 0, .int .i64 p] w fun e w' => ∃ v', e = .returned (.tuple #[v', .bool (knOk (0 : Nat) p)]) ∧ Fresh OC w w' v' (knV (0 : Nat) p) := by
    have hv := Lib.hid (kn_p (kind := ((0 : Nat) : Int)) hp)
    have hm := Lib.hid (knV_no hv.out)
    have hk : inB 0 0 4 = true := rfl
    go_enter Try.func28, Try.ntmps28
    go_wp2_with (first
      | (go_at_call 73; refine (specIn _ _ _ _ (by assumption) _).mono ?_; rintro e w' ⟨rfl, rfl⟩)
      | (go_at_call 74; refine (specMany _ _ (by omega) _ hmb _).mono ?_; rintro e w' ⟨rfl, rfl⟩))
    refine bodyPost_ret (v := .tuple #[aggC Chn.nil (.slice none 0 0) (.slice none 0 0), .bool false]) (by simp [results, Try.results28, go_sem, aggC, Chn.nil]) rfl ⟨_, by rw [hv.out], ?_⟩
    rw [hm.out]
    exact nil_fresh (by repeat' (first | with_reducible exact Below.refl _ _ | with_reducible refine Below.alloc ?_ ?_ _ | with_reducible refine Below.setCell ?_ ?_ _ | with_reducible refine Below.drew ?_ | with_reducible refine Below.draws ?_ _ | omega | (simp; done) | (simp; omega)))

set_option maxHeartbeats 6400000 in
set_option maxRecDepth 100000 in
theorem specKnP1 (p : Int) (hp : inB p 1 20 = false) (w : World) :
    Calls Try.prog 28 #[.int .i64 1, .int .i64 p] w fun e w' => ∃ v', e = .returned (.tuple #[v', .bool (knOk (1 : Nat) p)]) ∧ Fresh OC w w' v' (knV (1 : Nat) p) := by
    have hv := Lib.hid (kn_p (kind := ((1 : Nat) : Int)) hp)
    have hm := Lib.hid (knV_no hv.out)
    have hk : inB 1 0 4 = true := rfl
    go_enter Try.func28, Try.ntmps28
    go_wp2_with (first
      | (go_at_call 73; refine (specIn _ _ _ _ (by assumption) _).mono ?_; rintro e w' ⟨rfl, rfl⟩)
      | (go_at_call 74; refine (specMany _ _ (by omega) _ hmb _).mono ?_; rintro e w' ⟨rfl, rfl⟩))
    refine bodyPost_ret (v := .tuple #[aggC Chn.nil (.slice none 0 0) (.slice none 0 0), .bool false]) (by simp [results, Try.results28, go_sem, aggC, Chn.nil]) rfl ⟨_, by rw [hv.out], ?_⟩
    rw [hm.out]
    exact nil_fresh (by repeat' (first | with_reducible exact Below.refl _ _ | with_reducible refine Below.alloc ?_ ?_ _ | with_reducible refine Below.setCell ?_ ?_ _ | with_reducible refine Below.drew ?_ | with_reducible refine Below.draws ?_ _ | omega | (simp; done) | (simp; omega)))

set_option maxHeartbeats 6400000 in
set_option maxRecDepth 100000 in
theorem specKnP2 (p : Int) (hp : inB p 1 20 = false) (w : World) :
    Calls Try.prog 28 #[.int .i64 2, .int .i64 p] w fun e w' => ∃ v', e = .returned (.tuple #[v', .bool (knOk (2 : Nat) p)]) ∧ Fresh OC w w' v' (knV (2 : Nat) p) := by
    have hv := Lib.hid (kn_p (kind := ((2 : Nat) : Int)) hp)
    have hm := Lib.hid (knV_no hv.out)
    have hk : inB 2 0 4 = true := rfl
    go_enter Try.func28, Try.ntmps28
    go_wp2_with (first
      | (go_at_call 73; refine (specIn _ _ _ _ (by assumption) _).mono ?_; rintro e w' ⟨rfl, rfl⟩)
      | (go_at_call 74; refine (specMany _ _ (by omega) _ hmb _).mono ?_; rintro e w' ⟨rfl, rfl⟩))
    refine bodyPost_ret (v := .tuple #[aggC Chn.nil (.slice none 0 0) (.slice none 0 0), .bool false]) (by simp [results, Try.results28, go_sem, aggC, Chn.nil]) rfl ⟨_, by rw [hv.out], ?_⟩
    rw [hm.out]
    exact nil_fresh (by repeat' (first | with_reducible exact Below.refl _ _ | with_reducible refine Below.alloc ?_ ?_ _ | with_reducible refine Below.setCell ?_ ?_ _ | with_reducible refine Below.drew ?_ | with_reducible refine Below.draws ?_ _ | omega | (simp; done) | (simp; omega)))

set_option maxHeartbeats 6400000 in
set_option maxRecDepth 100000 in
theorem specKnP3 (p : Int) (hp : inB p 1 20 = false) (w : World) :
    Calls Try.prog 28 #[.int .i64 3, .int .i64 p] w fun e w' => ∃ v', e = .returned (.tuple #[v', .bool (knOk (3 : Nat) p)]) ∧ Fresh OC w w' v' (knV (3 : Nat) p) := by
    have hv := Lib.hid (kn_p (kind := ((3 : Nat) : Int)) hp)
    have hm := Lib.hid (knV_no hv.out)
    have hk : inB 3 0 4 = true := rfl
    go_enter Try.func28, Try.ntmps28
    go_wp2_with (first
      | (go_at_call 73; refine (specIn _ _ _ _ (by assumption) _).mono ?_; rintro e w' ⟨rfl, rfl⟩)
      | (go_at_call 74; refine (specMany _ _ (by omega) _ hmb _).mono ?_; rintro e w' ⟨rfl, rfl⟩))
    refine bodyPost_ret (v := .tuple #[aggC Chn.nil (.slice none 0 0) (.slice none 0 0), .bool false]) (by simp [results, Try.results28, go_sem, aggC, Chn.nil]) rfl ⟨_, by rw [hv.out], ?_⟩
    rw [hm.out]
    exact nil_fresh (by repeat' (first | with_reducible exact Below.refl _ _ | with_reducible refine Below.alloc ?_ ?_ _ | with_reducible refine Below.setCell ?_ ?_ _ | with_reducible refine Below.drew ?_ | with_reducible refine Below.draws ?_ _ | omega | (simp; done) | (simp; omega)))

set_option maxHeartbeats 6400000 in
set_option maxRecDepth 100000 in
theorem specKnP4 (p : Int) (hp : inB p 1 20 = false) (w : World) :
    Calls Try.prog 28 #[.int .i64 4, .int .i64 p] w fun e w' => ∃ v', e = .returned (.tuple #[v', .bool (knOk (4 : Nat) p)]) ∧ Fresh OC w w' v' (knV (4 : Nat) p) := by
    have hv := Lib.hid (kn_p (kind := ((4 : Nat) : Int)) hp)
    have hm := Lib.hid (knV_no hv.out)
    have hk : inB 4 0 4 = true := rfl
    go_enter Try.func28, Try.ntmps28
    go_wp2_with (first
      | (go_at_call 73; refine (specIn _ _ _ _ (by assumption) _).mono ?_; rintro e w' ⟨rfl, rfl⟩)
      | (go_at_call 74; refine (specMany _ _ (by omega) _ hmb _).mono ?_; rintro e w' ⟨rfl, rfl⟩))
    refine bodyPost_ret (v := .tuple #[aggC Chn.nil (.slice none 0 0) (.slice none 0 0), .bool false]) (by simp [results, Try.results28, go_sem, aggC, Chn.nil]) rfl ⟨_, by rw [hv.out], ?_⟩
    rw [hm.out]
    exact nil_fresh (by repeat' (first | with_reducible exact Below.refl _ _ | with_reducible refine Below.alloc ?_ ?_ _ | with_reducible refine Below.setCell ?_ ?_ _ | with_reducible refine Below.drew ?_ | with_reducible refine Below.draws ?_ _ | omega | (simp; done) | (simp; omega)))

set_option maxHeartbeats 6400000 in
set_option maxRecDepth 100000 in
theorem specKnM0 (P : Nat) (hP : 1 ≤ P ∧ P ≤ 20) (hpw : powB 10 P = false) (w : World) :
    Calls Try.prog 28 #[.int .i64 0, .int .i64 P] w fun e w' => ∃ v', e = .returned (.tuple #[v', .bool (knOk (0 : Nat) P)]) ∧ Fresh OC w w' v' (knV (0 : Nat) P) := by
    have hv := Lib.hid (kn_pow (K := 0) (P := P) hpw)
    have hm := Lib.hid (knV_no hv.out)
    have hk : inB 0 0 4 = true := rfl
    have hp : inB (P : Int) 1 20 = true := inB_true.2 (by omega)
    have hmb := (kn_many (b := 10) (by omega) hP).trans hpw
    clear hpw
    go_enter Try.func28, Try.ntmps28
    go_wp2_with (first
      | (go_at_call 73; refine (specIn _ _ _ _ (by assumption) _).mono ?_; rintro e w' ⟨rfl, rfl⟩)
      | (go_at_call 74; refine (specMany _ _ (by omega) _ hmb _).mono ?_; rintro e w' ⟨rfl, rfl⟩))
    refine bodyPost_ret (v := .tuple #[aggC Chn.nil (.slice none 0 0) (.slice none 0 0), .bool false]) (by simp [results, Try.results28, go_sem, aggC, Chn.nil]) rfl ⟨_, by rw [hv.out], ?_⟩
    rw [hm.out]
    exact nil_fresh (by repeat' (first | with_reducible exact Below.refl _ _ | with_reducible refine Below.alloc ?_ ?_ _ | with_reducible refine Below.setCell ?_ ?_ _ | with_reducible refine Below.drew ?_ | with_reducible refine Below.draws ?_ _ | omega | (simp; done) | (simp; omega)))

set_option maxHeartbeats 6400000 in
set_option maxRecDepth 100000 in
theorem specKnM1 (P : Nat) (hP : 1 ≤ P ∧ P ≤ 20) (hpw : powB 10 P = false) (w : World) :
    Calls Try.prog 28 #[.int .i64 1, .int .i64 P] w fun e w' => ∃ v', e = .returned (.tuple #[v', .bool (knOk (1 : Nat) P)]) ∧ Fresh OC w w' v' (knV (1 : Nat) P) := by
    have hv := Lib.hid (kn_pow (K := 1) (P := P) hpw)
    have hm := Lib.hid (knV_no hv.out)
    have hk : inB 1 0 4 = true := rfl
    have hp : inB (P : Int) 1 20 = true := inB_true.2 (by omega)
    have hmb := (kn_many (b := 10) (by omega) hP).trans hpw
    clear hpw
    go_enter Try.func28, Try.ntmps28
    go_wp2_with (first
      | (go_at_call 73; refine (specIn _ _ _ _ (by assumption) _).mono ?_; rintro e w' ⟨rfl, rfl⟩)
      | (go_at_call 74; refine (specMany _ _ (by omega) _ hmb _).mono ?_; rintro e w' ⟨rfl, rfl⟩))
    refine bodyPost_ret (v := .tuple #[aggC Chn.nil (.slice none 0 0) (.slice none 0 0), .bool false]) (by simp [results, Try.results28, go_sem, aggC, Chn.nil]) rfl ⟨_, by rw [hv.out], ?_⟩
    rw [hm.out]
    exact nil_fresh (by repeat' (first | with_reducible exact Below.refl _ _ | with_reducible refine Below.alloc ?_ ?_ _ | with_reducible refine Below.setCell ?_ ?_ _ | with_reducible refine Below.drew ?_ | with_reducible refine Below.draws ?_ _ | omega | (simp; done) | (simp; omega)))

set_option maxHeartbeats 6400000 in
set_option maxRecDepth 100000 in
theorem specKnM2 (P : Nat) (hP : 1 ≤ P ∧ P ≤ 20) (hpw : powB 11 P = false) (w : World) :
    Calls Try.prog 28 #[.int .i64 2, .int .i64 P] w fun e w' => ∃ v', e = .returned (.tuple #[v', .bool (knOk (2 : Nat) P)]) ∧ Fresh OC w w' v' (knV (2 : Nat) P) := by
    have hv := Lib.hid (kn_pow (K := 2) (P := P) hpw)
    have hm := Lib.hid (knV_no hv.out)
    have hk : inB 2 0 4 = true := rfl
    have hp : inB (P : Int) 1 20 = true := inB_true.2 (by omega)
    have hmb := (kn_many (b := 11) (by omega) hP).trans hpw
    clear hpw
    go_enter Try.func28, Try.ntmps28
    go_wp2_with (first
      | (go_at_call 73; refine (specIn _ _ _ _ (by assumption) _).mono ?_; rintro e w' ⟨rfl, rfl⟩)
      | (go_at_call 74; refine (specMany _ _ (by omega) _ hmb _).mono ?_; rintro e w' ⟨rfl, rfl⟩))
    refine bodyPost_ret (v := .tuple #[aggC Chn.nil (.slice none 0 0) (.slice none 0 0), .bool false]) (by simp [results, Try.results28, go_sem, aggC, Chn.nil]) rfl ⟨_, by rw [hv.out], ?_⟩
    rw [hm.out]
    exact nil_fresh (by repeat' (first | with_reducible exact Below.refl _ _ | with_reducible refine Below.alloc ?_ ?_ _ | with_reducible refine Below.setCell ?_ ?_ _ | with_reducible refine Below.drew ?_ | with_reducible refine Below.draws ?_ _ | omega | (simp; done) | (simp; omega)))

set_option maxHeartbeats 6400000 in
set_option maxRecDepth 100000 in
theorem specKnM3 (P : Nat) (hP : 1 ≤ P ∧ P ≤ 20) (hpw : powB 11 P = false) (w : World) :
    Calls Try.prog 28 #[.int .i64 3, .int .i64 P] w fun e w' => ∃ v', e = .returned (.tuple #[v', .bool (knOk (3 : Nat) P)]) ∧ Fresh OC w w' v' (knV (3 : Nat) P) := by
    have hv := Lib.hid (kn_pow (K := 3) (P := P) hpw)
    have hm := Lib.hid (knV_no hv.out)
    have hk : inB 3 0 4 = true := rfl
    have hp : inB (P : Int) 1 20 = true := inB_true.2 (by omega)
    have hmb := (kn_many (b := 11) (by omega) hP).trans hpw
    clear hpw
    go_enter Try.func28, Try.ntmps28
    go_wp2_with (first
      | (go_at_call 73; refine (specIn _ _ _ _ (by assumption) _).mono ?_; rintro e w' ⟨rfl, rfl⟩)
      | (go_at_call 74; refine (specMany _ _ (by omega) _ hmb _).mono ?_; rintro e w' ⟨rfl, rfl⟩))
    refine bodyPost_ret (v := .tuple #[aggC Chn.nil (.slice none 0 0) (.slice none 0 0), .bool false]) (by simp [results, Try.results28, go_sem, aggC, Chn.nil]) rfl ⟨_, by rw [hv.out], ?_⟩
    rw [hm.out]
    exact nil_fresh (by repeat' (first | with_reducible exact Below.refl _ _ | with_reducible refine Below.alloc ?_ ?_ _ | with_reducible refine Below.setCell ?_ ?_ _ | with_reducible refine Below.drew ?_ | with_reducible refine Below.draws ?_ _ | omega | (simp; done) | (simp; omega)))

set_option maxHeartbeats 6400000 in
set_option maxRecDepth 100000 in
theorem specKnM4 (P : Nat) (hP : 1 ≤ P ∧ P ≤ 20) (hpw : powB 10 P = false) (w : World) :
    Calls Try.prog 28 #[.int .i64 4, .int .i64 P] w fun e w' => ∃ v', e = .returned (.tuple #[v', .bool (knOk (4 : Nat) P)]) ∧ Fresh OC w w' v' (knV (4 : Nat) P) := by
    have hv := Lib.hid (kn_pow (K := 4) (P := P) hpw)
    have hm := Lib.hid (knV_no hv.out)
    have hk : inB 4 0 4 = true := rfl
    have hp : inB (P : Int) 1 20 = true := inB_true.2 (by omega)
    have hmb := (kn_many (b := 10) (by omega) hP).trans hpw
    clear hpw
    go_enter Try.func28, Try.ntmps28
    go_wp2_with (first
      | (go_at_call 73; refine (specIn _ _ _ _ (by assumption) _).mono ?_; rintro e w' ⟨rfl, rfl⟩)
      | (go_at_call 74; refine (specMany _ _ (by omega) _ hmb _).mono ?_; rintro e w' ⟨rfl, rfl⟩))
    refine bodyPost_ret (v := .tuple #[aggC Chn.nil (.slice none 0 0) (.slice none 0 0), .bool false]) (by simp [results, Try.results28, go_sem, aggC, Chn.nil]) rfl ⟨_, by rw [hv.out], ?_⟩
    rw [hm.out]
    exact nil_fresh (by repeat' (first | with_reducible exact Below.refl _ _ | with_reducible refine Below.alloc ?_ ?_ _ | with_reducible refine Below.setCell ?_ ?_ _ | with_reducible refine Below.drew ?_ | with_reducible refine Below.draws ?_ _ | omega | (simp; done) | (simp; omega)))

set_option maxHeartbeats 6400000 in
set_option maxRecDepth 100000 in
theorem specKnTen (P : Nat) (hP : 1 ≤ P ∧ P ≤ 20) (hpw : powB 11 P = true) (hP10 : ¬ P = 10) (w : World) :
    Calls Try.prog 28 #[.int .i64 2, .int .i64 P] w fun e w' => ∃ v', e = .returned (.tuple #[v', .bool (knOk (2 : Nat) P)]) ∧ Fresh OC w w' v' (knV (2 : Nat) P) := by
    have hv := Lib.hid (kn_ten hP10)
    have hm := Lib.hid (knV_no hv.out)
    have hk : inB 2 0 4 = true := rfl
    have hp : inB (P : Int) 1 20 = true := inB_true.2 (by omega)
    have hmb := (kn_many (b := 11) (by omega) hP).trans hpw
    have hP10' : ((P : Int) != 10) = true := by simp; omega
    clear hpw
    go_enter Try.func28, Try.ntmps28
    go_wp2_with (first
      | (go_at_call 73; refine (specIn _ _ _ _ (by assumption) _).mono ?_; rintro e w' ⟨rfl, rfl⟩)
      | (go_at_call 74; refine (specMany _ _ (by omega) _ hmb _).mono ?_; rintro e w' ⟨rfl, rfl⟩))
    refine bodyPost_ret (v := .tuple #[aggC Chn.nil (.slice none 0 0) (.slice none 0 0), .bool false]) (by simp [results, Try.results28, go_sem, aggC, Chn.nil]) rfl ⟨_, by rw [hv.out], ?_⟩
    rw [hm.out]
    exact nil_fresh (by repeat' (first | with_reducible exact Below.refl _ _ | with_reducible refine Below.alloc ?_ ?_ _ | with_reducible refine Below.setCell ?_ ?_ _ | with_reducible refine Below.drew ?_ | with_reducible refine Below.draws ?_ _ | omega | (simp; done) | (simp; omega)))

set_option maxHeartbeats 6400000 in
set_option maxRecDepth 100000 in
theorem specKn0 (P : Nat) (hP : 1 ≤ P ∧ P ≤ 20) (hpw : powB 10 P = true) (hok : knOk (0 : Nat) P = true) (w : World) :
    Calls Try.prog 28 #[.int .i64 0, .int .i64 P] w fun e w' => ∃ v', e = .returned (.tuple #[v', .bool (knOk (0 : Nat) P)]) ∧ Fresh OC w w' v' (knV (0 : Nat) P) := by
    have hj := Lib.hid hok
    have hk : inB 0 0 4 = true := rfl
    have hp : inB (P : Int) 1 20 = true := inB_true.2 (by omega)
    have hmb := (kn_many (b := 10) (by omega) hP).trans hpw
    obtain ⟨w1, hw1⟩ : ∃ w1, w1 = w.alloc (.cells #[.int .i64 0, .int .i64 0, .int .i64 0, .int .i64 0, .slice none 0 0, .slice none 0 0] 28) := ⟨_, rfl⟩
    have Hz1 := Lib.hid (show w1.heap[w.heap.size]? = some (.cells #[.int .i64 0, .int .i64 0, .int .i64 0, .int .i64 0, .slice none 0 0, .slice none 0 0] 28 (0, 0)) by rw [hw1]; exact heap_alloc_new w _)
    have Hs1 := Lib.hid (show w1.heap.size = w.heap.size + 1 by rw [hw1]; simp)
    have Hb1 := Lib.hid (show Below w.heap.size w w1 by rw [hw1]; exact (Below.refl _ _).alloc (Nat.le_refl _) _)
    have Hw1 := Lib.hid hw1
    have hsz1 : w.heap.size < w1.heap.size := by have := Hs1.out; omega
    have hV := Lib.hid (show knV ((0 : Nat) : Int) P = luC P by rw [knV_yes hok, Int.toNat_natCast, Int.toNat_natCast]; rfl)
    have hcl := Lib.hid (specLuhn P hP w1)
    clear hok hpw hw1
    go_enter Try.func28, Try.ntmps28
    go_wp2_with (first
      | (go_at_call 73; refine (specIn _ _ _ _ (by assumption) _).mono ?_; rintro e w' ⟨rfl, rfl⟩)
      | (go_at_call 74; refine (specMany _ _ (by omega) _ hmb _).mono ?_; rintro e w' ⟨rfl, rfl⟩))
    rw [← Hw1.out]
    refine (Calls.mono hcl.out ?_)
    rintro e w6 ⟨v6, rfl, hf6⟩
    obtain ⟨u, q, rfl, a7, n7, c7, a8, n8, c8, rfl, rfl⟩ := hf6.aggC
    have hz6 := below_heap hf6.bel Hz1.out
    have z0 := heap_cell hz6 (i := 0) rfl
    have z1 := heap_cell hz6 (i := 1) rfl
    have z2 := heap_cell hz6 (i := 2) rfl
    have z3 := heap_cell hz6 (i := 3) rfl
    have z4 := heap_cell hz6 (i := 4) rfl
    have z5 := heap_cell hz6 (i := 5) rfl
    have f0 := frozen_at hz6 0
    have f1 := frozen_at hz6 1
    have f2 := frozen_at hz6 2
    have f3 := frozen_at hz6 3
    have f4 := frozen_at hz6 4
    have f5 := frozen_at hz6 5
    have Hf := Lib.hid hf6
    clear hf6 hz6 hcl
    go_wp2
    refine bodyPost_ret (v := .tuple #[.agg #[.int .i64 (luC P).base, .int .i64 (luC P).states, .int .i64 (luC P).start, .int .i64 (luC P).stop, .slice a7 n7 c7, .slice a8 n8 c8], .bool true]) (by simp [results, Try.results28, go_sem, z0, z1, z2, z3, z4, z5]) rfl ⟨_, by rw [hj.out], by rw [hV.out]; exact Fresh.turned OC.ok Hf.out Hb1.out hsz1 (by repeat' (first | with_reducible exact Only.refl _ _ | with_reducible refine Only.put ?_ ?_ _ _ | (simp; done)))⟩

set_option maxHeartbeats 6400000 in
set_option maxRecDepth 100000 in
theorem specKn4 (P : Nat) (hP : 1 ≤ P ∧ P ≤ 20) (hpw : powB 10 P = true) (hok : knOk (4 : Nat) P = true) (w : World) :
    Calls Try.prog 28 #[.int .i64 4, .int .i64 P] w fun e w' => ∃ v', e = .returned (.tuple #[v', .bool (knOk (4 : Nat) P)]) ∧ Fresh OC w w' v' (knV (4 : Nat) P) := by
    have hj := Lib.hid hok
    have hk : inB 4 0 4 = true := rfl
    have hp : inB (P : Int) 1 20 = true := inB_true.2 (by omega)
    have hmb := (kn_many (b := 10) (by omega) hP).trans hpw
    obtain ⟨w1, hw1⟩ : ∃ w1, w1 = w.alloc (.cells #[.int .i64 0, .int .i64 0, .int .i64 0, .int .i64 0, .slice none 0 0, .slice none 0 0] 28) := ⟨_, rfl⟩
    have Hz1 := Lib.hid (show w1.heap[w.heap.size]? = some (.cells #[.int .i64 0, .int .i64 0, .int .i64 0, .int .i64 0, .slice none 0 0, .slice none 0 0] 28 (0, 0)) by rw [hw1]; exact heap_alloc_new w _)
    have Hs1 := Lib.hid (show w1.heap.size = w.heap.size + 1 by rw [hw1]; simp)
    have Hb1 := Lib.hid (show Below w.heap.size w w1 by rw [hw1]; exact (Below.refl _ _).alloc (Nat.le_refl _) _)
    have Hw1 := Lib.hid hw1
    have hsz1 : w.heap.size < w1.heap.size := by have := Hs1.out; omega
    have hV := Lib.hid (show knV ((4 : Nat) : Int) P = hyC P by rw [knV_yes hok, Int.toNat_natCast, Int.toNat_natCast]; rfl)
    have hcl := Lib.hid (specHybrid P hP w1)
    clear hok hpw hw1
    go_enter Try.func28, Try.ntmps28
    go_wp2_with (first
      | (go_at_call 73; refine (specIn _ _ _ _ (by assumption) _).mono ?_; rintro e w' ⟨rfl, rfl⟩)
      | (go_at_call 74; refine (specMany _ _ (by omega) _ hmb _).mono ?_; rintro e w' ⟨rfl, rfl⟩))
    rw [← Hw1.out]
    refine (Calls.mono hcl.out ?_)
    rintro e w6 ⟨v6, rfl, hf6⟩
    obtain ⟨u, q, rfl, a7, n7, c7, a8, n8, c8, rfl, rfl⟩ := hf6.aggC
    have hz6 := below_heap hf6.bel Hz1.out
    have z0 := heap_cell hz6 (i := 0) rfl
    have z1 := heap_cell hz6 (i := 1) rfl
    have z2 := heap_cell hz6 (i := 2) rfl
    have z3 := heap_cell hz6 (i := 3) rfl
    have z4 := heap_cell hz6 (i := 4) rfl
    have z5 := heap_cell hz6 (i := 5) rfl
    have f0 := frozen_at hz6 0
    have f1 := frozen_at hz6 1
    have f2 := frozen_at hz6 2
    have f3 := frozen_at hz6 3
    have f4 := frozen_at hz6 4
    have f5 := frozen_at hz6 5
    have Hf := Lib.hid hf6
    clear hf6 hz6 hcl
    go_wp2
    refine bodyPost_ret (v := .tuple #[.agg #[.int .i64 (hyC P).base, .int .i64 (hyC P).states, .int .i64 (hyC P).start, .int .i64 (hyC P).stop, .slice a7 n7 c7, .slice a8 n8 c8], .bool true]) (by simp [results, Try.results28, go_sem, z0, z1, z2, z3, z4, z5]) rfl ⟨_, by rw [hj.out], by rw [hV.out]; exact Fresh.turned OC.ok Hf.out Hb1.out hsz1 (by repeat' (first | with_reducible exact Only.refl _ _ | with_reducible refine Only.put ?_ ?_ _ _ | (simp; done)))⟩

set_option maxHeartbeats 6400000 in
set_option maxRecDepth 100000 in
theorem specKn1 (P : Nat) (hP : 1 ≤ P ∧ P ≤ 20) (hpw : powB 10 P = true) (hok : knOk (1 : Nat) P = true) (hw : VW (knW 1 P)) (w : World) :
    Calls Try.prog 28 #[.int .i64 1, .int .i64 P] w fun e w' => ∃ v', e = .returned (.tuple #[v', .bool (knOk (1 : Nat) P)]) ∧ Fresh OC w w' v' (knV (1 : Nat) P) := by
    have hj := Lib.hid hok
    have hk : inB 1 0 4 = true := rfl
    have hp : inB (P : Int) 1 20 = true := inB_true.2 (by omega)
    have hmb := (kn_many (b := 10) (by omega) hP).trans hpw
    obtain ⟨w1, hw1⟩ : ∃ w1, w1 = w.alloc (.cells #[.int .i64 0, .int .i64 0, .int .i64 0, .int .i64 0, .slice none 0 0, .slice none 0 0] 28) := ⟨_, rfl⟩
    have Hz1 := Lib.hid (show w1.heap[w.heap.size]? = some (.cells #[.int .i64 0, .int .i64 0, .int .i64 0, .int .i64 0, .slice none 0 0, .slice none 0 0] 28 (0, 0)) by rw [hw1]; exact heap_alloc_new w _)
    have Hs1 := Lib.hid (show w1.heap.size = w.heap.size + 1 by rw [hw1]; simp)
    have Hb1 := Lib.hid (show Below w.heap.size w w1 by rw [hw1]; exact (Below.refl _ _).alloc (Nat.le_refl _) _)
    have Hw1 := Lib.hid hw1
    have hsz1 : w.heap.size < w1.heap.size := by have := Hs1.out; omega
    have hV := Lib.hid (show knV ((1 : Nat) : Int) P = wchn (knW 1 P) by rw [knV_yes hok, Int.toNat_natCast, Int.toNat_natCast]; rfl)
    have Hvw := Lib.hid hw
    have Hf0 := Lib.hid (show BxS OI w1 (w.heap.size + 1) 31 (mkKn 10 0) [] (.slice none 0 0) [] (w1.alloc (.cells #[.int .i64 10, .int .i64 10, .int .i64 0, .slice none 0 0] 31)) from by
      rw [← Hs1.out]
      exact ⟨heap_alloc_new _ _, own_nil _, by simp, Nat.le_refl _, (Below.refl _ _).alloc (Nat.le_refl _) _⟩)
    clear hok hpw hw1 hw
    go_enter Try.func28, Try.ntmps28
    go_wp2_with (first
      | (go_at_call 73; refine (specIn _ _ _ _ (by assumption) _).mono ?_; rintro e w' ⟨rfl, rfl⟩)
      | (go_at_call 74; refine (specMany _ _ (by omega) _ hmb _).mono ?_; rintro e w' ⟨rfl, rfl⟩))
    rw [← Hw1.out]
    go_loopw [8] (fun kv wr => ∃ (i : Nat) (z : Int) (ov : Value) (S : List Nat), i ≤ P ∧ z + 1 + i = P ∧ kv = .int .i64 z ∧ Hid (BxS OI w1 (w.heap.size + 1) 31 (mkKn 10 0) (fromL (kw 1) P i) ov S wr)) (fun kv _ => (intOf kv + 1).toNat)
    case atStart => exact ⟨0, (P : Int) - 1, _, _, Nat.zero_le _, by omega, rfl, Hf0⟩
    case round =>
      clear Hf0
      obtain ⟨i, z, ov, S, hi, hz, rfl, hf3⟩ := hrel
      obtain ⟨W2, rfl⟩ : ∃ W2, W2 = wr := ⟨_, rfl⟩
      have hz2 := hf3.out.size
      have hz2' : w.heap.size + 1 < W2.heap.size + 1 := by omega
      obtain ⟨a0, n0, c0, rfl⟩ := hf3.out.own.isSlice
      by_cases h0 : 0 ≤ z
      · obtain ⟨K, rfl⟩ := Int.eq_ofNat_of_zero_le h0
        have hK20 : K ≤ 19 := by omega
        have hln := Lib.hid (fromL_len (kw 1) P i)
        have d3 := heap_cell hf3.out.box (i := 3) rfl
        have hsu := Lib.hid (show fromL (kw 1) P (i + 1) = fromL (kw 1) P i ++ [1 + 2 * ((K % 2 : Nat) : Int)] by rw [fromL_succ, show P - 1 - i = K by omega]; simp [kw])
        have e1 : (K : Int).tmod 2 = ((K % 2 : Nat) : Int) := by rw [Int.tmod_eq_emod_of_nonneg (by omega)]; omega
        have hm : K % 2 < 2 := Nat.mod_lt _ (by omega)
        generalize K % 2 = q at *
        have e2 : (K : Int) % 2 = (q : Int) := by rw [← e1, Int.tmod_eq_emod_of_nonneg (by omega)]
        go_wp2_with (at_builtin; refine wpList_push rfl _ _ 22 rfl oI.ok Try.underlying22 infoI64 rfl hf3.out.own (T := []) (y := 1 + 2 * (q : Int)) ⟨rfl, rfl⟩ (by simp) (by have := hln.out; omega) (by have := hln.out; unfold maxLen; omega) rfl rfl ?_; intro v7 w7 S8 ho7 hn7 hS8; obtain ⟨a12, n12, c12, rfl⟩ := ho7.isSlice; obtain ⟨hbx7, hst7⟩ := hf3.out.push OI.ok (i := 3) (by rfl) (T7 := []) (by simp) ho7 hn7 hS8; have f7 := frozen_at hbx7 3; have e7 := heap_cell hbx7 (i := 3) rfl; have Hst7 := Lib.hid hst7; clear ho7 hn7 hS8 hbx7 hst7)
        go_roundw
        case rel => exact ⟨i + 1, (K : Int) - 1, _, _, by omega, by omega, by go_num, by rw [hsu.out]; exact Hst7⟩
        case measure => (first | (simp [intOf]; done) | (simp [intOf]; omega))
      · obtain ⟨hie⟩ : Nonempty (i = P) := ⟨by omega⟩
        rw [hie] at hf3
        have hr6 : RdI (· < W2.heap.size) W2 (.slice a0 n0 c0) (fromL (kw 1) P P) := OI.leads.to _ _ _ _ _ hf3.out.own (OI.ok.lt hf3.out.own)
        have hbw : BoxW (· < W2.heap.size) W2 (w.heap.size + 1) (knW 1 P) := ⟨_, hf3.out.box, hr6⟩
        have Hch := Lib.hid (specL03Weights hbw (fun k h => h) (by omega) Hvw.out)
        have Hz2 := Lib.hid (below_heap hf3.out.bel Hz1.out)
        have Hbw := Lib.hid (show Below w.heap.size w W2 from Hb1.out.trans (hf3.out.bel.mono (by omega)))
        have hzz2 : w.heap.size < W2.heap.size := heap_lt Hz2.out
        clear hr6 hbw hie hf3
        go_wp2_with fail
        refine (Calls.mono Hch.out ?_)
        rintro e w7 ⟨v7, rfl, hf7⟩
        obtain ⟨u, q, rfl, a7, n7, c7, a8, n8, c8, rfl, rfl⟩ := hf7.aggC
        have hz7 := below_heap hf7.bel Hz2.out
        have z0 := heap_cell hz7 (i := 0) rfl
        have z1 := heap_cell hz7 (i := 1) rfl
        have z2 := heap_cell hz7 (i := 2) rfl
        have z3 := heap_cell hz7 (i := 3) rfl
        have z4 := heap_cell hz7 (i := 4) rfl
        have z5 := heap_cell hz7 (i := 5) rfl
        have f0 := frozen_at hz7 0
        have f1 := frozen_at hz7 1
        have f2 := frozen_at hz7 2
        have f3 := frozen_at hz7 3
        have f4 := frozen_at hz7 4
        have f5 := frozen_at hz7 5
        have Hf := Lib.hid hf7
        clear hf7 hz7 Hch
        go_wp2
        refine bodyPost_ret (v := .tuple #[.agg #[.int .i64 (wchn (knW 1 P)).base, .int .i64 (wchn (knW 1 P)).states, .int .i64 (wchn (knW 1 P)).start, .int .i64 (wchn (knW 1 P)).stop, .slice a7 n7 c7, .slice a8 n8 c8], .bool true]) (by simp [results, Try.results28, go_sem, z0, z1, z2, z3, z4, z5]) rfl ⟨_, by rw [hj.out], by rw [hV.out]; exact Fresh.turned OC.ok Hf.out Hbw.out hzz2 (by repeat' (first | with_reducible exact Only.refl _ _ | with_reducible refine Only.put ?_ ?_ _ _ | (simp; done)))⟩

set_option maxHeartbeats 6400000 in
set_option maxRecDepth 100000 in
theorem specKn2 (P : Nat) (hP : 1 ≤ P ∧ P ≤ 20) (hpw : powB 11 P = true) (hok : knOk (2 : Nat) P = true) (hw : VW (knW 2 P)) (w : World) :
    Calls Try.prog 28 #[.int .i64 2, .int .i64 P] w fun e w' => ∃ v', e = .returned (.tuple #[v', .bool (knOk (2 : Nat) P)]) ∧ Fresh OC w w' v' (knV (2 : Nat) P) := by
    have hj := Lib.hid hok
    have hk : inB 2 0 4 = true := rfl
    have hp : inB (P : Int) 1 20 = true := inB_true.2 (by omega)
    have hmb := (kn_many (b := 11) (by omega) hP).trans hpw
    obtain ⟨w1, hw1⟩ : ∃ w1, w1 = w.alloc (.cells #[.int .i64 0, .int .i64 0, .int .i64 0, .int .i64 0, .slice none 0 0, .slice none 0 0] 28) := ⟨_, rfl⟩
    have Hz1 := Lib.hid (show w1.heap[w.heap.size]? = some (.cells #[.int .i64 0, .int .i64 0, .int .i64 0, .int .i64 0, .slice none 0 0, .slice none 0 0] 28 (0, 0)) by rw [hw1]; exact heap_alloc_new w _)
    have Hs1 := Lib.hid (show w1.heap.size = w.heap.size + 1 by rw [hw1]; simp)
    have Hb1 := Lib.hid (show Below w.heap.size w w1 by rw [hw1]; exact (Below.refl _ _).alloc (Nat.le_refl _) _)
    have Hw1 := Lib.hid hw1
    have hsz1 : w.heap.size < w1.heap.size := by have := Hs1.out; omega
    have hV := Lib.hid (show knV ((2 : Nat) : Int) P = wchn (knW 2 P) by rw [knV_yes hok, Int.toNat_natCast, Int.toNat_natCast]; rfl)
    have Hvw := Lib.hid hw
    have hP10b : ((P : Int) != 10) = false := by
      by_cases h10 : P = 10
      · rw [h10]; rfl
      · rw [kn_ten h10] at hok; cases hok
    have Hf0 := Lib.hid (show BxS OI w1 (w.heap.size + 1) 31 (mkKn 11 0) [] (.slice none 0 0) [] (w1.alloc (.cells #[.int .i64 11, .int .i64 11, .int .i64 0, .slice none 0 0] 31)) from by
      rw [← Hs1.out]
      exact ⟨heap_alloc_new _ _, own_nil _, by simp, Nat.le_refl _, (Below.refl _ _).alloc (Nat.le_refl _) _⟩)
    clear hok hpw hw1 hw
    go_enter Try.func28, Try.ntmps28
    go_wp2_with (first
      | (go_at_call 73; refine (specIn _ _ _ _ (by assumption) _).mono ?_; rintro e w' ⟨rfl, rfl⟩)
      | (go_at_call 74; refine (specMany _ _ (by omega) _ hmb _).mono ?_; rintro e w' ⟨rfl, rfl⟩))
    rw [← Hw1.out]
    go_loopw [8] (fun kv wr => ∃ (i : Nat) (z : Int) (ov : Value) (S : List Nat), i ≤ P ∧ z + 1 + i = P ∧ kv = .int .i64 z ∧ Hid (BxS OI w1 (w.heap.size + 1) 31 (mkKn 11 0) (fromL (kw 2) P i) ov S wr)) (fun kv _ => (intOf kv + 1).toNat)
    case atStart => exact ⟨0, (P : Int) - 1, _, _, Nat.zero_le _, by omega, rfl, Hf0⟩
    case round =>
      clear Hf0
      obtain ⟨i, z, ov, S, hi, hz, rfl, hf3⟩ := hrel
      obtain ⟨W2, rfl⟩ : ∃ W2, W2 = wr := ⟨_, rfl⟩
      have hz2 := hf3.out.size
      have hz2' : w.heap.size + 1 < W2.heap.size + 1 := by omega
      obtain ⟨a0, n0, c0, rfl⟩ := hf3.out.own.isSlice
      by_cases h0 : 0 ≤ z
      · obtain ⟨K, rfl⟩ := Int.eq_ofNat_of_zero_le h0
        have hK20 : K ≤ 19 := by omega
        have hln := Lib.hid (fromL_len (kw 2) P i)
        have d3 := heap_cell hf3.out.box (i := 3) rfl
        have hsu := Lib.hid (show fromL (kw 2) P (i + 1) = fromL (kw 2) P i ++ [(K : Int) + 1] by rw [fromL_succ, show P - 1 - i = K by omega]; simp [kw])
        have e1 : (K : Int).tmod 2 = ((K % 2 : Nat) : Int) := by rw [Int.tmod_eq_emod_of_nonneg (by omega)]; omega
        have hm : K % 2 < 2 := Nat.mod_lt _ (by omega)
        generalize K % 2 = q at *
        have e2 : (K : Int) % 2 = (q : Int) := by rw [← e1, Int.tmod_eq_emod_of_nonneg (by omega)]
        go_wp2_with (at_builtin; refine wpList_push rfl _ _ 22 rfl oI.ok Try.underlying22 infoI64 rfl hf3.out.own (T := []) (y := (K : Int) + 1) ⟨rfl, rfl⟩ (by simp) (by have := hln.out; omega) (by have := hln.out; unfold maxLen; omega) rfl rfl ?_; intro v7 w7 S8 ho7 hn7 hS8; obtain ⟨a12, n12, c12, rfl⟩ := ho7.isSlice; obtain ⟨hbx7, hst7⟩ := hf3.out.push OI.ok (i := 3) (by rfl) (T7 := []) (by simp) ho7 hn7 hS8; have f7 := frozen_at hbx7 3; have e7 := heap_cell hbx7 (i := 3) rfl; have Hst7 := Lib.hid hst7; clear ho7 hn7 hS8 hbx7 hst7)
        go_roundw
        case rel => exact ⟨i + 1, (K : Int) - 1, _, _, by omega, by omega, by go_num, by rw [hsu.out]; exact Hst7⟩
        case measure => (first | (simp [intOf]; done) | (simp [intOf]; omega))
      · obtain ⟨hie⟩ : Nonempty (i = P) := ⟨by omega⟩
        rw [hie] at hf3
        have hr6 : RdI (· < W2.heap.size) W2 (.slice a0 n0 c0) (fromL (kw 2) P P) := OI.leads.to _ _ _ _ _ hf3.out.own (OI.ok.lt hf3.out.own)
        have hbw : BoxW (· < W2.heap.size) W2 (w.heap.size + 1) (knW 2 P) := ⟨_, hf3.out.box, hr6⟩
        have Hch := Lib.hid (specL03Weights hbw (fun k h => h) (by omega) Hvw.out)
        have Hz2 := Lib.hid (below_heap hf3.out.bel Hz1.out)
        have Hbw := Lib.hid (show Below w.heap.size w W2 from Hb1.out.trans (hf3.out.bel.mono (by omega)))
        have hzz2 : w.heap.size < W2.heap.size := heap_lt Hz2.out
        clear hr6 hbw hie hf3
        go_wp2_with fail
        refine (Calls.mono Hch.out ?_)
        rintro e w7 ⟨v7, rfl, hf7⟩
        obtain ⟨u, q, rfl, a7, n7, c7, a8, n8, c8, rfl, rfl⟩ := hf7.aggC
        have hz7 := below_heap hf7.bel Hz2.out
        have z0 := heap_cell hz7 (i := 0) rfl
        have z1 := heap_cell hz7 (i := 1) rfl
        have z2 := heap_cell hz7 (i := 2) rfl
        have z3 := heap_cell hz7 (i := 3) rfl
        have z4 := heap_cell hz7 (i := 4) rfl
        have z5 := heap_cell hz7 (i := 5) rfl
        have f0 := frozen_at hz7 0
        have f1 := frozen_at hz7 1
        have f2 := frozen_at hz7 2
        have f3 := frozen_at hz7 3
        have f4 := frozen_at hz7 4
        have f5 := frozen_at hz7 5
        have Hf := Lib.hid hf7
        clear hf7 hz7 Hch
        go_wp2
        refine bodyPost_ret (v := .tuple #[.agg #[.int .i64 (wchn (knW 2 P)).base, .int .i64 (wchn (knW 2 P)).states, .int .i64 (wchn (knW 2 P)).start, .int .i64 (wchn (knW 2 P)).stop, .slice a7 n7 c7, .slice a8 n8 c8], .bool true]) (by simp [results, Try.results28, go_sem, z0, z1, z2, z3, z4, z5]) rfl ⟨_, by rw [hj.out], by rw [hV.out]; exact Fresh.turned OC.ok Hf.out Hbw.out hzz2 (by repeat' (first | with_reducible exact Only.refl _ _ | with_reducible refine Only.put ?_ ?_ _ _ | (simp; done)))⟩

set_option maxHeartbeats 6400000 in
set_option maxRecDepth 100000 in
theorem specKn3 (P : Nat) (hP : 1 ≤ P ∧ P ≤ 20) (hpw : powB 11 P = true) (hok : knOk (3 : Nat) P = true) (hw : VW (knW 3 P)) (w : World) :
    Calls Try.prog 28 #[.int .i64 3, .int .i64 P] w fun e w' => ∃ v', e = .returned (.tuple #[v', .bool (knOk (3 : Nat) P)]) ∧ Fresh OC w w' v' (knV (3 : Nat) P) := by
    have hj := Lib.hid hok
    have hk : inB 3 0 4 = true := rfl
    have hp : inB (P : Int) 1 20 = true := inB_true.2 (by omega)
    have hmb := (kn_many (b := 11) (by omega) hP).trans hpw
    obtain ⟨w1, hw1⟩ : ∃ w1, w1 = w.alloc (.cells #[.int .i64 0, .int .i64 0, .int .i64 0, .int .i64 0, .slice none 0 0, .slice none 0 0] 28) := ⟨_, rfl⟩
    have Hz1 := Lib.hid (show w1.heap[w.heap.size]? = some (.cells #[.int .i64 0, .int .i64 0, .int .i64 0, .int .i64 0, .slice none 0 0, .slice none 0 0] 28 (0, 0)) by rw [hw1]; exact heap_alloc_new w _)
    have Hs1 := Lib.hid (show w1.heap.size = w.heap.size + 1 by rw [hw1]; simp)
    have Hb1 := Lib.hid (show Below w.heap.size w w1 by rw [hw1]; exact (Below.refl _ _).alloc (Nat.le_refl _) _)
    have Hw1 := Lib.hid hw1
    have hsz1 : w.heap.size < w1.heap.size := by have := Hs1.out; omega
    have hV := Lib.hid (show knV ((3 : Nat) : Int) P = wchn (knW 3 P) by rw [knV_yes hok, Int.toNat_natCast, Int.toNat_natCast]; rfl)
    have Hvw := Lib.hid hw
    have Hf0 := Lib.hid (show BxS OI w1 (w.heap.size + 1) 31 (mkKn 11 1) [] (.slice none 0 0) [] (w1.alloc (.cells #[.int .i64 11, .int .i64 11, .int .i64 1, .slice none 0 0] 31)) from by
      rw [← Hs1.out]
      exact ⟨heap_alloc_new _ _, own_nil _, by simp, Nat.le_refl _, (Below.refl _ _).alloc (Nat.le_refl _) _⟩)
    clear hok hpw hw1 hw
    go_enter Try.func28, Try.ntmps28
    go_wp2_with (first
      | (go_at_call 73; refine (specIn _ _ _ _ (by assumption) _).mono ?_; rintro e w' ⟨rfl, rfl⟩)
      | (go_at_call 74; refine (specMany _ _ (by omega) _ hmb _).mono ?_; rintro e w' ⟨rfl, rfl⟩))
    rw [← Hw1.out]
    go_loopw [8] (fun kv wr => ∃ (i : Nat) (z : Int) (ov : Value) (S : List Nat), i ≤ P ∧ z + 1 + i = P ∧ kv = .int .i64 z ∧ Hid (BxS OI w1 (w.heap.size + 1) 31 (mkKn 11 1) (fromL (kw 3) P i) ov S wr)) (fun kv _ => (intOf kv + 1).toNat)
    case atStart => exact ⟨0, (P : Int) - 1, _, _, Nat.zero_le _, by omega, rfl, Hf0⟩
    case round =>
      clear Hf0
      obtain ⟨i, z, ov, S, hi, hz, rfl, hf3⟩ := hrel
      obtain ⟨W2, rfl⟩ : ∃ W2, W2 = wr := ⟨_, rfl⟩
      have hz2 := hf3.out.size
      have hz2' : w.heap.size + 1 < W2.heap.size + 1 := by omega
      obtain ⟨a0, n0, c0, rfl⟩ := hf3.out.own.isSlice
      by_cases h0 : 0 ≤ z
      · obtain ⟨K, rfl⟩ := Int.eq_ofNat_of_zero_le h0
        have hK20 : K ≤ 19 := by omega
        have hln := Lib.hid (fromL_len (kw 3) P i)
        have d3 := heap_cell hf3.out.box (i := 3) rfl
        have hsu := Lib.hid (show fromL (kw 3) P (i + 1) = fromL (kw 3) P i ++ [((2 ^ K % 11 : Nat) : Int)] by rw [fromL_succ, show P - 1 - i = K by omega]; simp [kw])
        have e1 : (K : Int).tmod 2 = ((K % 2 : Nat) : Int) := by rw [Int.tmod_eq_emod_of_nonneg (by omega)]; omega
        have hm : K % 2 < 2 := Nat.mod_lt _ (by omega)
        generalize K % 2 = q at *
        have e2 : (K : Int) % 2 = (q : Int) := by rw [← e1, Int.tmod_eq_emod_of_nonneg (by omega)]
        go_wp2
        go_loop [9, 10] (fun xv jv => ∃ j : Nat, j ≤ K ∧ jv = .int .i64 j ∧ ∃ y : Nat, y < 11 ∧ xv = .int .i64 y ∧ Hid (y = 2 ^ j % 11)) (fun _ jv => K - (intOf jv).toNat)
        case atStart => exact ⟨0, Nat.zero_le _, rfl, 1, by omega, rfl, Lib.hid (by rfl)⟩
        case round =>
          obtain ⟨j, hj, rfl, y, hy, rfl, Hy⟩ := hrel
          by_cases hjK : j < K
          · have hy2 := Lib.hid (show 2 * y % 11 = 2 ^ (j + 1) % 11 by rw [Hy.out]; exact pow_step j)
            have t1 : (2 * (y : Int)).tmod 11 = ((2 * y % 11 : Nat) : Int) := by rw [Int.tmod_eq_emod_of_nonneg (by omega)]; omega
            have hy3 : 2 * y % 11 < 11 := Nat.mod_lt _ (by omega)
            generalize 2 * y % 11 = y' at *
            have t2 : 2 * (y : Int) % 11 = (y' : Int) := by rw [← t1, Int.tmod_eq_emod_of_nonneg (by omega)]
            go_wp2
            go_round
            case rel => exact ⟨j + 1, by omega, by go_num, y', hy3, rfl, hy2⟩
            case measure => simp [intOf]; omega
          · obtain ⟨hje⟩ : Nonempty (j = K) := ⟨by omega⟩
            rw [hje] at Hy
            have hsu2 := Lib.hid (show fromL (kw 3) P (i + 1) = fromL (kw 3) P i ++ [(y : Int)] by rw [hsu.out, Hy.out])
            clear hsu hje
            go_wp2_with (at_builtin; refine wpList_push rfl _ _ 22 rfl oI.ok Try.underlying22 infoI64 rfl hf3.out.own (T := []) (y := (y : Int)) ⟨rfl, rfl⟩ (by simp) (by have := hln.out; omega) (by have := hln.out; unfold maxLen; omega) rfl rfl ?_; intro v7 w7 S8 ho7 hn7 hS8; obtain ⟨a12, n12, c12, rfl⟩ := ho7.isSlice; obtain ⟨hbx7, hst7⟩ := hf3.out.push OI.ok (i := 3) (by rfl) (T7 := []) (by simp) ho7 hn7 hS8; have f7 := frozen_at hbx7 3; have e7 := heap_cell hbx7 (i := 3) rfl; have Hst7 := Lib.hid hst7; clear ho7 hn7 hS8 hbx7 hst7)
            go_roundw
            case rel => exact ⟨i + 1, (K : Int) - 1, _, _, by omega, by omega, by go_num, by rw [hsu2.out]; exact Hst7⟩
            case measure => (first | (simp [intOf]; done) | (simp [intOf]; omega))
      · obtain ⟨hie⟩ : Nonempty (i = P) := ⟨by omega⟩
        rw [hie] at hf3
        have hr6 : RdI (· < W2.heap.size) W2 (.slice a0 n0 c0) (fromL (kw 3) P P) := OI.leads.to _ _ _ _ _ hf3.out.own (OI.ok.lt hf3.out.own)
        have hbw : BoxW (· < W2.heap.size) W2 (w.heap.size + 1) (knW 3 P) := ⟨_, hf3.out.box, hr6⟩
        have Hch := Lib.hid (specL03Weights hbw (fun k h => h) (by omega) Hvw.out)
        have Hz2 := Lib.hid (below_heap hf3.out.bel Hz1.out)
        have Hbw := Lib.hid (show Below w.heap.size w W2 from Hb1.out.trans (hf3.out.bel.mono (by omega)))
        have hzz2 : w.heap.size < W2.heap.size := heap_lt Hz2.out
        clear hr6 hbw hie hf3
        go_wp2_with fail
        refine (Calls.mono Hch.out ?_)
        rintro e w7 ⟨v7, rfl, hf7⟩
        obtain ⟨u, q, rfl, a7, n7, c7, a8, n8, c8, rfl, rfl⟩ := hf7.aggC
        have hz7 := below_heap hf7.bel Hz2.out
        have z0 := heap_cell hz7 (i := 0) rfl
        have z1 := heap_cell hz7 (i := 1) rfl
        have z2 := heap_cell hz7 (i := 2) rfl
        have z3 := heap_cell hz7 (i := 3) rfl
        have z4 := heap_cell hz7 (i := 4) rfl
        have z5 := heap_cell hz7 (i := 5) rfl
        have f0 := frozen_at hz7 0
        have f1 := frozen_at hz7 1
        have f2 := frozen_at hz7 2
        have f3 := frozen_at hz7 3
        have f4 := frozen_at hz7 4
        have f5 := frozen_at hz7 5
        have Hf := Lib.hid hf7
        clear hf7 hz7 Hch
        go_wp2
        refine bodyPost_ret (v := .tuple #[.agg #[.int .i64 (wchn (knW 3 P)).base, .int .i64 (wchn (knW 3 P)).states, .int .i64 (wchn (knW 3 P)).start, .int .i64 (wchn (knW 3 P)).stop, .slice a7 n7 c7, .slice a8 n8 c8], .bool true]) (by simp [results, Try.results28, go_sem, z0, z1, z2, z3, z4, z5]) rfl ⟨_, by rw [hj.out], by rw [hV.out]; exact Fresh.turned OC.ok Hf.out Hbw.out hzz2 (by repeat' (first | with_reducible exact Only.refl _ _ | with_reducible refine Only.put ?_ ?_ _ _ | (simp; done)))⟩

set_option maxHeartbeats 6400000 in
set_option maxRecDepth 100000 in
theorem specKnownChain (kind p : Int) (w : World) :
    Calls Try.prog 28 #[.int .i64 kind, .int .i64 p] w fun e w' => ∃ v', e = .returned (.tuple #[v', .bool (knOk kind p)]) ∧ Fresh OC w w' v' (knV kind p) := by
  cases hk : inB kind 0 4
  · have hv := Lib.hid (kn_kind (p := p) hk)
    have hm := Lib.hid (knV_no hv.out)
    have hk2 : (kind == 2) = false := by have := inB_false.1 hk; simp; omega
    have hk3 : (kind == 3) = false := by have := inB_false.1 hk; simp; omega
    go_enter Try.func28, Try.ntmps28
    go_wp2_with (first
      | (go_at_call 73; refine (specIn _ _ _ _ (by assumption) _).mono ?_; rintro e w' ⟨rfl, rfl⟩)
      | (go_at_call 74; refine (specMany _ _ (by omega) _ hmb _).mono ?_; rintro e w' ⟨rfl, rfl⟩))
    refine bodyPost_ret (v := .tuple #[aggC Chn.nil (.slice none 0 0) (.slice none 0 0), .bool false]) (by simp [results, Try.results28, go_sem, aggC, Chn.nil]) rfl ⟨_, by rw [hv.out], ?_⟩
    rw [hm.out]
    exact nil_fresh (by repeat' (first | with_reducible exact Below.refl _ _ | with_reducible refine Below.alloc ?_ ?_ _ | with_reducible refine Below.setCell ?_ ?_ _ | with_reducible refine Below.drew ?_ | with_reducible refine Below.draws ?_ _ | omega | (simp; done) | (simp; omega)))
  have hkd := inB_true.1 hk
  obtain ⟨K, rfl⟩ := Int.eq_ofNat_of_zero_le (show 0 ≤ kind by omega)
  have hK5 : K = 0 ∨ K = 1 ∨ K = 2 ∨ K = 3 ∨ K = 4 := by omega
  cases hp : inB p 1 20
  · rcases hK5 with rfl | rfl | rfl | rfl | rfl
    · exact specKnP0 p hp w
    · exact specKnP1 p hp w
    · exact specKnP2 p hp w
    · exact specKnP3 p hp w
    · exact specKnP4 p hp w
  have hpd := inB_true.1 hp
  obtain ⟨P, rfl⟩ := Int.eq_ofNat_of_zero_le (show 0 ≤ p by omega)
  have hP : 1 ≤ P ∧ P ≤ 20 := by omega
  cases hpw : powB (kbN K) P
  · rcases hK5 with rfl | rfl | rfl | rfl | rfl
    · exact specKnM0 P hP hpw w
    · exact specKnM1 P hP hpw w
    · exact specKnM2 P hP hpw w
    · exact specKnM3 P hP hpw w
    · exact specKnM4 P hP hpw w
  by_cases h2 : K = 2 ∧ ¬ P = 10
  · obtain ⟨rfl, hP10⟩ := h2
    exact specKnTen P hP hpw hP10 w
  have h2' : K = 2 → P = 10 := fun h => by
    by_cases h10 : P = 10
    · exact h10
    · exact absurd ⟨h, h10⟩ h2
  have hok := kn_at (by omega) hP hpw h2'
  have hvw := fun (h : 1 ≤ K ∧ K ≤ 3) => knW_vw h hP hpw h2'
  rcases hK5 with rfl | rfl | rfl | rfl | rfl
  · exact specKn0 P hP hpw hok w
  · exact specKn1 P hP hpw hok (hvw (by omega)) w
  · exact specKn2 P hP hpw hok (hvw (by omega)) w
  · exact specKn3 P hP hpw hok (hvw (by omega)) w
  · exact specKn4 P hP hpw hok w
end Go.Proofs.Ytnpkanlieflbiaa
