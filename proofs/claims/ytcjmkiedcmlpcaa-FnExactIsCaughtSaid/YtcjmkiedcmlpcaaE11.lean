/- Numbers of undetected errors at a place, walked: impl.undetectedAt. -/
import Derived.Test.YtcjmkiedcmlpcaaE10
namespace Go.Proofs.Ytcjmkiedcmlpcaa
open Go.RowKit
set_option linter.unusedVariables false
set_option linter.unusedSimpArgs false

theorem kindOk_parts {kind base : Int} (h : kindOk kind base = true) : (0 ≤ kind ∧ kind ≤ 5) ∧ (kind = 5 → 10 ≤ base) := by
  simp only [kindOk, inB_true, Bool.and_eq_true, Bool.or_eq_true, decide_eq_true_eq] at h
  exact ⟨h.1, fun e => h.2.resolve_left (fun h => h e)⟩

section news
variable (w : World) (v : Value) (T : TypeId) (o : Obj)
theorem drew_size : w.drew.heap.size = w.heap.size := rfl
theorem set_size (p : Addr) (u : Value) : (w.setCell p u).heap.size = w.heap.size := by simp
theorem cell_drew (p : Addr) : w.drew.cell? p = w.cell? p := rfl
theorem frozen_drew (p : Addr) : w.drew.frozen? p = w.frozen? p := rfl
theorem cell_new : (w.alloc (.cells #[v] T)).cell? ⟨w.heap.size, 0, none⟩ = some v := heap_cell (heap_alloc_new w _) (i := 0) rfl
theorem cell_old : ((w.alloc (.cells #[v] T)).alloc o).cell? ⟨w.heap.size, 0, none⟩ = some v := (World.cell?_alloc_past _ _ _ (by rw [alloc_size]; omega)).trans (cell_new w v T)
theorem cell_new1 : ((w.alloc o).alloc (.cells #[v] T)).cell? ⟨w.heap.size + 1, 0, none⟩ = some v := by have h := cell_new (w.alloc o) v T; rwa [alloc_size] at h
theorem frozen_new : (w.alloc (.cells #[v] T)).frozen? ⟨w.heap.size, 0, none⟩ = false := frozen_at (heap_alloc_new w _) 0
theorem frozen_old : ((w.alloc (.cells #[v] T)).alloc o).frozen? ⟨w.heap.size, 0, none⟩ = false := (World.frozen?_alloc_past _ _ _ (by rw [alloc_size]; omega)).trans (frozen_new w v T)
theorem frozen_new1 : ((w.alloc o).alloc (.cells #[v] T)).frozen? ⟨w.heap.size + 1, 0, none⟩ = false := by have h := frozen_new (w.alloc o) v T; rwa [alloc_size] at h
end news
theorem implBeginsS {B bx : Nat} {x : Chn} {w : World} (h : BoxC (· < B) w bx x) (hB : B ≤ w.heap.size) (hbx : bx < w.heap.size) (hv : VC x) (place : Nat) (hp : place ≤ x.n) :
    Calls Try.prog 96 #[.pointer (some ⟨bx, 0, none⟩), .int .i64 place] w fun e w' => ∃ a n c, e = .returned (.slice a n c) ∧ RdI (fun k => w.heap.size ≤ k ∧ k < w'.heap.size) w' (.slice a n c) (rowL x.S (begV x place)) ∧ Below w.heap.size w w' := by
  refine (implBegins h hB hbx hv place hp).mono ?_
  rintro e w' ⟨v, rfl, hf⟩
  obtain ⟨a, n, c, rfl⟩ := hf.choose_spec.1.isSlice
  exact ⟨a, n, c, rfl, OI.leads.to _ _ _ _ _ hf.choose_spec.1 (fun k hk => ⟨hf.choose_spec.2.1 k hk, OI.ok.lt hf.choose_spec.1 k hk⟩), hf.bel⟩
theorem implBothS {B bx : Nat} {x : Chn} {w : World} (h : BoxC (· < B) w bx x) (hB : B ≤ w.heap.size) (hbx : bx < w.heap.size) (hv : VC x) (place : Nat) (hp : place ≤ x.n) :
    Calls Try.prog 97 #[.pointer (some ⟨bx, 0, none⟩), .int .i64 place] w fun e w' => ∃ a n c, e = .returned (.slice a n c) ∧ RdII (fun k => w.heap.size ≤ k ∧ k < w'.heap.size) w' (.slice a n c) (gridL x.S x.S (bothV x place)) ∧ Below w.heap.size w w' := by
  refine (implBoth h hB hbx hv place hp).mono ?_
  rintro e w' ⟨v, rfl, hf⟩
  obtain ⟨a, n, c, rfl⟩ := hf.choose_spec.1.isSlice
  exact ⟨a, n, c, rfl, OII.leads.to _ _ _ _ _ hf.choose_spec.1 (fun k hk => ⟨hf.choose_spec.2.1 k hk, OII.ok.lt hf.choose_spec.1 k hk⟩), hf.bel⟩

set_option maxHeartbeats 3200000 in
set_option maxRecDepth 10000 in
theorem implUndAt {B bx : Nat} {x : Chn} {w : World} (h : BoxC (· < B) w bx x) (hB : B ≤ w.heap.size) (hbx : bx < w.heap.size) (hv : VC x) {kind : Int} (hkd : kindOk kind x.base = true) {place : Nat} (hp : place + errLen kind ≤ x.n) :
    Calls Try.prog 68 #[.pointer (some ⟨bx, 0, none⟩), .int .i64 kind, .int .i64 place] w fun e w' => e = .returned (.tuple #[.int .i64 (badAt x kind place : Nat), .int .i64 (allAt x kind place : Nat)]) ∧ Below w.heap.size w w' := by
  have hnat := hv.nat
  have H := Lib.hid h
  have Hv := Lib.hid hv; clear hv
  have Hkd := Lib.hid hkd; clear hkd
  have hel := errLen_bd kind
  obtain ⟨W3, hW3⟩ : ∃ W3, W3 = ((w.alloc (.cells #[.pointer (some ⟨bx, 0, none⟩)] 62)).alloc (.cells #[.int .i64 kind] 2)).alloc (.cells #[.int .i64 place] 3) := ⟨_, rfl⟩
  have H3 := Lib.hid (three w (.cells #[.pointer (some ⟨bx, 0, none⟩)] 62) (.cells #[.int .i64 kind] 2) (.cells #[.int .i64 place] 3) 0)
  rw [World.drewN_zero, ← hW3] at H3
  have HW3 := Lib.hid hW3; clear hW3
  have hs3 := H3.out.2.2.2.1
  have c3 : W3.cell? ⟨w.heap.size, 0, none⟩ = some (.pointer (some ⟨bx, 0, none⟩)) := heap_cell H3.out.1 (i := 0) rfl
  have c4 : W3.cell? ⟨w.heap.size + 1, 0, none⟩ = some (.int .i64 kind) := heap_cell H3.out.2.1 (i := 0) rfl
  have c5 : W3.cell? ⟨w.heap.size + 1 + 1, 0, none⟩ = some (.int .i64 place) := heap_cell H3.out.2.2.1 (i := 0) rfl
  have hbel3 := H3.out.2.2.2.2
  have Hbel3 := Lib.hid hbel3
  have hbx3 := Lib.hid (h.below hbel3 hB hbx)
  clear h hbel3
  have hCB := Lib.hid (fun w2 (h2 : Below W3.heap.size W3 w2) => implBeginsS (hbx3.out.below h2 (by omega) (by omega)) (by have := h2.size; omega) (by have := h2.size; omega) Hv.out place (by omega))
  have hCW := Lib.hid (fun w2 (h2 : Below W3.heap.size W3 w2) => implBothS (hbx3.out.below h2 (by omega) (by omega)) (by have := h2.size; omega) (by have := h2.size; omega) Hv.out (place + errLen kind) (by omega))
  have hsc3 := Lib.hid (show ∀ w2, Below W3.heap.size W3 w2 → w2.cell? ⟨w.heap.size, 0, none⟩ = some (.pointer (some ⟨bx, 0, none⟩)) ∧ w2.cell? ⟨w.heap.size + 1 + 1, 0, none⟩ = some (.int .i64 place) ∧ Below W3.heap.size W3 w2 from fun w2 h2 =>
    ⟨(h2.cell (p := ⟨w.heap.size, 0, none⟩) (by show w.heap.size < _; omega)).trans c3, (h2.cell (p := ⟨w.heap.size + 1 + 1, 0, none⟩) (by show w.heap.size + 1 + 1 < _; omega)).trans c5, h2⟩)
  have hEL := Lib.hid (implErrLen kind)
  have Hs3 := Lib.hid hs3; clear hs3
  obtain ⟨n, hn⟩ : ∃ n : Nat, n = errLen kind := ⟨_, rfl⟩
  have Hn := Lib.hid hn
  rw [← hn] at hp hel hEL hCW
  have hpl : place ≤ 20 := by simp only [Chn.n] at *; omega
  have hadd : ((place : Int) + (n : Int)) = ((place + n : Nat) : Int) := by omega
  have hwr : IntKind.i64.wrap ((place : Int) + (n : Int)) = ((place + n : Nat) : Int) := by rw [hadd]; exact IntWalk.i64_in _ (by omega)
  have hc7 : Hid (place + n = place + n) := Lib.hid rfl
  clear hn hadd
  go_enter Try.func68, Try.ntmps68
  go_wp2_with fail
  rw [← HW3.out]
  refine (Calls.mono (hEL.out _) ?_)
  rintro e w' ⟨rfl, rfl⟩
  go_wp2_with fail
  obtain ⟨PN, hPN⟩ : ∃ k : Nat, k = place + n := ⟨_, rfl⟩
  rw [← hPN] at hCW hwr
  have HPN := Lib.hid hPN; clear hPN
  go_cut [9, 10] from 15 to 22 (fun v9 v10 wx => ∃ (bg bw : Nat) (vb vw : Value), v9 = .pointer (some ⟨bg, 0, none⟩) ∧ v10 = .pointer (some ⟨bw, 0, none⟩) ∧ bg < wx.heap.size ∧ bw < wx.heap.size ∧ wx.cell? ⟨bg, 0, none⟩ = some vb ∧ wx.cell? ⟨bw, 0, none⟩ = some vw ∧
    RdI (· < wx.heap.size) wx vb (rowL x.S (begV x place)) ∧ RdII (· < wx.heap.size) wx vw (gridL x.S x.S (bothV x PN)) ∧ Below W3.heap.size W3 wx)
  case first =>
    go_region_held3 (fun w' => w'.cell? ⟨w.heap.size, 0, none⟩ = some (.pointer (some ⟨bx, 0, none⟩)) ∧ w'.cell? ⟨w.heap.size + 1 + 1, 0, none⟩ = some (.int .i64 place) ∧ Below W3.heap.size W3 w') ((refine hsc3.out _ ?_; repeat' (first | with_reducible exact s8.2.2 | with_reducible exact s7.2.2 | with_reducible exact Below.refl _ _ | with_reducible refine Below.drew ?_ | with_reducible refine Below.alloc ?_ ?_ _ | with_reducible refine Below.setCell ?_ ?_ _ | (show _ ≤ _; have h8 := s8.2.2.size; simp; omega) | (show _ ≤ _; have h7 := s7.2.2.size; simp; omega) | (show _ ≤ _; simp) | (show _ ≤ _; have h8 := s8.2.2.size; have h7 := s7.2.2.size; simp; omega)))) (first
      | (with_reducible refine (Calls.mono (hCB.out _ (‹_ ∧ _ ∧ Below W3.heap.size W3 _›).2.2) ?_); rintro e w7 ⟨a7, n7, k7, rfl, r7, hf7⟩; have R7 := Lib.hid r7; clear r7; have s7 := hsc3.out _ (Below.trans (‹_ ∧ _ ∧ Below W3.heap.size W3 _›).2.2 (hf7.mono (‹_ ∧ _ ∧ Below W3.heap.size W3 _›).2.2.size)); have m7s := hf7.size; (try (have l7a : W3.heap.size < w7.heap.size := by (have hA := m7s; simp only [drew_size, alloc_size] at hA; omega))); (try (have l7b : W3.heap.size + 1 < w7.heap.size := by (have hA := m7s; simp only [drew_size, alloc_size] at hA; omega))); (try (have y7_1 : w7.cell? ⟨W3.heap.size, 0, none⟩ = some (.slice none 0 0) := (hf7.cell (p := ⟨W3.heap.size, 0, none⟩) (by simp only [drew_size, alloc_size]; omega)).trans (by first | exact cell_new _ _ _ | exact cell_old _ _ _ _ | exact cell_new1 _ _ _ _ | exact (cell_drew _ _).trans (cell_new _ _ _) | exact (cell_drew _ _).trans (cell_old _ _ _ _) | exact (cell_drew _ _).trans (cell_new1 _ _ _ _)))); (try (have z7_1 : w7.frozen? ⟨W3.heap.size, 0, none⟩ = false := (hf7.frozen (p := ⟨W3.heap.size, 0, none⟩) (by simp only [drew_size, alloc_size]; omega)).trans (by first | exact frozen_new _ _ _ | exact frozen_old _ _ _ _ | exact frozen_new1 _ _ _ _ | exact (frozen_drew _ _).trans (frozen_new _ _ _) | exact (frozen_drew _ _).trans (frozen_old _ _ _ _) | exact (frozen_drew _ _).trans (frozen_new1 _ _ _ _)))); (try (have y7_2 : w7.cell? ⟨W3.heap.size + 1, 0, none⟩ = some (.slice none 0 0) := (hf7.cell (p := ⟨W3.heap.size + 1, 0, none⟩) (by simp only [drew_size, alloc_size]; omega)).trans (by first | exact cell_new _ _ _ | exact cell_old _ _ _ _ | exact cell_new1 _ _ _ _ | exact (cell_drew _ _).trans (cell_new _ _ _) | exact (cell_drew _ _).trans (cell_old _ _ _ _) | exact (cell_drew _ _).trans (cell_new1 _ _ _ _)))); (try (have z7_2 : w7.frozen? ⟨W3.heap.size + 1, 0, none⟩ = false := (hf7.frozen (p := ⟨W3.heap.size + 1, 0, none⟩) (by simp only [drew_size, alloc_size]; omega)).trans (by first | exact frozen_new _ _ _ | exact frozen_old _ _ _ _ | exact frozen_new1 _ _ _ _ | exact (frozen_drew _ _).trans (frozen_new _ _ _) | exact (frozen_drew _ _).trans (frozen_old _ _ _ _) | exact (frozen_drew _ _).trans (frozen_new1 _ _ _ _)))); clear hf7)
      | (with_reducible refine (Calls.mono (hCW.out _ (‹_ ∧ _ ∧ Below W3.heap.size W3 _›).2.2) ?_); rintro e w8 ⟨a8, n8, k8, rfl, r8, hf8⟩; have R8 := Lib.hid r8; clear r8; have s8 := hsc3.out _ (Below.trans (‹_ ∧ _ ∧ Below W3.heap.size W3 _›).2.2 (hf8.mono (‹_ ∧ _ ∧ Below W3.heap.size W3 _›).2.2.size)); have m8s := hf8.size; (try (have l8a : W3.heap.size < w8.heap.size := by (have hA := m7s; have hC := m8s; simp only [drew_size, alloc_size] at hA hC; omega))); (try (have l8b : W3.heap.size + 1 < w8.heap.size := by (have hA := m7s; have hC := m8s; simp only [drew_size, alloc_size] at hA hC; omega))); (try (have l8c : w7.heap.size < w8.heap.size := by (have hA := m7s; have hC := m8s; simp only [drew_size, alloc_size] at hA hC; omega))); (try (have l8d : w7.heap.size + 1 < w8.heap.size := by (have hA := m7s; have hC := m8s; simp only [drew_size, alloc_size] at hA hC; omega))); have m8 := Lib.hid hf8; (try (have y8_1 : w8.cell? ⟨W3.heap.size, 0, none⟩ = some (.slice none 0 0) := (hf8.cell (p := ⟨W3.heap.size, 0, none⟩) (by have hA := m7s; simp only [drew_size, alloc_size] at hA ⊢; first | omega | (simp; done))).trans (by first | exact y7_1 | (rw [World.cell?_alloc_past _ _ _ (by have hA := m7s; simp only [drew_size, alloc_size] at hA ⊢; first | omega | (simp; done))]; exact y7_1) | (rw [World.cell?_alloc_past _ _ _ (by have hA := m7s; simp only [drew_size, alloc_size] at hA ⊢; first | omega | (simp; done)), World.cell?_alloc_past _ _ _ (by have hA := m7s; simp only [drew_size, alloc_size] at hA ⊢; first | omega | (simp; done))]; exact y7_1)))); (try (have z8_1 : w8.frozen? ⟨W3.heap.size, 0, none⟩ = false := (hf8.frozen (p := ⟨W3.heap.size, 0, none⟩) (by have hA := m7s; simp only [drew_size, alloc_size] at hA ⊢; first | omega | (simp; done))).trans (by first | exact z7_1 | (rw [World.frozen?_alloc_past _ _ _ (by have hA := m7s; simp only [drew_size, alloc_size] at hA ⊢; first | omega | (simp; done))]; exact z7_1) | (rw [World.frozen?_alloc_past _ _ _ (by have hA := m7s; simp only [drew_size, alloc_size] at hA ⊢; first | omega | (simp; done)), World.frozen?_alloc_past _ _ _ (by have hA := m7s; simp only [drew_size, alloc_size] at hA ⊢; first | omega | (simp; done))]; exact z7_1)))); (try (have y8_2 : w8.cell? ⟨W3.heap.size + 1, 0, none⟩ = some (.slice none 0 0) := (hf8.cell (p := ⟨W3.heap.size + 1, 0, none⟩) (by have hA := m7s; simp only [drew_size, alloc_size] at hA ⊢; first | omega | (simp; done))).trans (by first | exact y7_2 | (rw [World.cell?_alloc_past _ _ _ (by have hA := m7s; simp only [drew_size, alloc_size] at hA ⊢; first | omega | (simp; done))]; exact y7_2) | (rw [World.cell?_alloc_past _ _ _ (by have hA := m7s; simp only [drew_size, alloc_size] at hA ⊢; first | omega | (simp; done)), World.cell?_alloc_past _ _ _ (by have hA := m7s; simp only [drew_size, alloc_size] at hA ⊢; first | omega | (simp; done))]; exact y7_2)))); (try (have z8_2 : w8.frozen? ⟨W3.heap.size + 1, 0, none⟩ = false := (hf8.frozen (p := ⟨W3.heap.size + 1, 0, none⟩) (by have hA := m7s; simp only [drew_size, alloc_size] at hA ⊢; first | omega | (simp; done))).trans (by first | exact z7_2 | (rw [World.frozen?_alloc_past _ _ _ (by have hA := m7s; simp only [drew_size, alloc_size] at hA ⊢; first | omega | (simp; done))]; exact z7_2) | (rw [World.frozen?_alloc_past _ _ _ (by have hA := m7s; simp only [drew_size, alloc_size] at hA ⊢; first | omega | (simp; done)), World.frozen?_alloc_past _ _ _ (by have hA := m7s; simp only [drew_size, alloc_size] at hA ⊢; first | omega | (simp; done))]; exact z7_2)))); (try (have y8_3 : w8.cell? ⟨w7.heap.size, 0, none⟩ = some (.slice none 0 0) := (hf8.cell (p := ⟨w7.heap.size, 0, none⟩) (by simp only [drew_size, alloc_size]; omega)).trans (by first | exact cell_new _ _ _ | exact cell_old _ _ _ _ | exact cell_new1 _ _ _ _ | exact (cell_drew _ _).trans (cell_new _ _ _) | exact (cell_drew _ _).trans (cell_old _ _ _ _) | exact (cell_drew _ _).trans (cell_new1 _ _ _ _)))); (try (have z8_3 : w8.frozen? ⟨w7.heap.size, 0, none⟩ = false := (hf8.frozen (p := ⟨w7.heap.size, 0, none⟩) (by simp only [drew_size, alloc_size]; omega)).trans (by first | exact frozen_new _ _ _ | exact frozen_old _ _ _ _ | exact frozen_new1 _ _ _ _ | exact (frozen_drew _ _).trans (frozen_new _ _ _) | exact (frozen_drew _ _).trans (frozen_old _ _ _ _) | exact (frozen_drew _ _).trans (frozen_new1 _ _ _ _)))); (try (have y8_4 : w8.cell? ⟨w7.heap.size + 1, 0, none⟩ = some (.slice none 0 0) := (hf8.cell (p := ⟨w7.heap.size + 1, 0, none⟩) (by simp only [drew_size, alloc_size]; omega)).trans (by first | exact cell_new _ _ _ | exact cell_old _ _ _ _ | exact cell_new1 _ _ _ _ | exact (cell_drew _ _).trans (cell_new _ _ _) | exact (cell_drew _ _).trans (cell_old _ _ _ _) | exact (cell_drew _ _).trans (cell_new1 _ _ _ _)))); (try (have z8_4 : w8.frozen? ⟨w7.heap.size + 1, 0, none⟩ = false := (hf8.frozen (p := ⟨w7.heap.size + 1, 0, none⟩) (by simp only [drew_size, alloc_size]; omega)).trans (by first | exact frozen_new _ _ _ | exact frozen_old _ _ _ _ | exact frozen_new1 _ _ _ _ | exact (frozen_drew _ _).trans (frozen_new _ _ _) | exact (frozen_drew _ _).trans (frozen_old _ _ _ _) | exact (frozen_drew _ _).trans (frozen_new1 _ _ _ _)))); clear hf8))
    all_goals (go_wp2_with fail)
    all_goals go_meet
    all_goals have hs8 := s8.2.2.size
    all_goals have hs7 := s7.2.2.size
    all_goals refine ⟨_, _, .slice a7 n7 k7, .slice a8 n8 k8, rfl, rfl, ?_, ?_, ?_, ?_, ?_, ?_, ?_⟩
    all_goals first
      | (simp only [alloc_size, set_size]; omega)
      | omega
      | exact cell_new _ _ _
      | exact cell_old _ _ _ _
      | exact cell_new1 _ _ _ _
      | exact World.cell?_setCell_same _ _ _ (by assumption)
      | exact (World.cell?_setCell_far _ _ _ _ (by show _ ≠ _; simp only [ne_eq]; omega)).trans (World.cell?_setCell_same _ _ _ (by assumption))
      | exact World.cell?_setCell_same _ _ _ ((World.cell?_setCell_far _ _ _ _ (by show _ ≠ _; simp only [ne_eq]; omega)).trans (by assumption))
      | exact (World.cell?_alloc_past _ _ _ (by simp only [set_size]; omega)).trans (World.cell?_setCell_same _ _ _ (by assumption))
      | (rw [← set_size w8]; exact cell_new _ _ _)
      | (refine RdI.ok.mono (RdI.ok.keep R7.out (fun k hk => ?_)) (fun k hk => ?_)
         · try simp only [drew_size, alloc_size] at hk
           try simp only [drew_size, alloc_size] at m8s
           repeat' (first | with_reducible rfl | (with_reducible refine (heap_setCell_other _ _ _ _ ?_).trans ?_) | (with_reducible refine (Below.heap_alloc _ _ _ ?_).trans ?_) | (with_reducible refine (m8.out.block _ ?_).trans ?_) | (simp only [drew_size, alloc_size, set_size]; omega) | omega)
         · simp only [alloc_size, set_size]; omega)
      | (refine RdII.ok.mono (RdII.ok.keep R8.out (fun k hk => ?_)) (fun k hk => ?_)
         · try simp only [drew_size, alloc_size] at hk
           repeat' (first | with_reducible rfl | (with_reducible refine (heap_setCell_other _ _ _ _ ?_).trans ?_) | (with_reducible refine (Below.heap_alloc _ _ _ ?_).trans ?_) | (with_reducible refine (m8.out.block _ ?_).trans ?_) | (simp only [drew_size, alloc_size, set_size]; omega) | omega)
         · simp only [alloc_size, set_size]; omega)
      | (repeat' (first | with_reducible exact s8.2.2 | with_reducible refine Below.alloc ?_ ?_ _ | with_reducible refine Below.setCell ?_ ?_ _ | omega | (simp only [alloc_size, set_size]; omega) | (dsimp only; omega)))
  case rest =>
    obtain ⟨bg, bw, vb, vw, rfl, rfl, hg1, hw1, hg2, hw2, hrb, hrw, hbl⟩ := hcut
    have e1 := Hn.out
    subst e1
    have e2 := HPN.out
    subst e2
    have hs3 := Hs3.out
    have hcs := (hsc3.out _ hbl).1
    have hps := (hsc3.out _ hbl).2.1
    have hks : wc.cell? ⟨w.heap.size + 1, 0, none⟩ = some (.int .i64 kind) := (hbl.cell (p := ⟨w.heap.size + 1, 0, none⟩) (by show w.heap.size + 1 < _; omega)).trans c4
    have hszc := hbl.size
    have hbxc := hbx3.out.below hbl (by omega) (by omega)
    obtain ⟨a4, c4', a5, c5', g0, _⟩ := hbxc.cells
    obtain ⟨NB, hNB⟩ : ∃ n : Nat, n = x.b := ⟨_, rfl⟩
    rw [show x.base = (NB : Int) by have := Hv.out.base; rw [hNB]; show x.base = (x.base.toNat : Int); omega] at g0
    obtain ⟨W5, hW5⟩ : ∃ W5, W5 = (wc.alloc (.cells #[.int .i64 0] 2)).alloc (.cells #[.int .i64 0] 2) := ⟨_, rfl⟩
    have H5 := two_end wc (.cells #[.int .i64 0] 2) (.cells #[.int .i64 0] 2)
    rw [← hW5] at H5
    obtain ⟨z1, z2, z3, z4⟩ := H5
    have hUD : UD x kind place w.heap.size (w.heap.size + 1) bg bw (w.heap.size + 1 + 1) wc.heap.size bx vb vw (ptA x kind place 0) (ptZ x kind place 0) W5 := by
      have hk : ∀ j, j < wc.heap.size → W5.heap[j]? = wc.heap[j]? := z4.block
      refine ⟨⟨by omega, by omega, hg1, hw1, by omega, by omega⟩, (cell_keep (hk _ (by show w.heap.size < _; omega))).trans hcs, (cell_keep (hk _ (by show w.heap.size + 1 < _; omega))).trans hks, (cell_keep (hk _ hg1)).trans hg2, (cell_keep (hk _ hw1)).trans hw2, (cell_keep (hk _ (by show w.heap.size + 1 + 1 < _; omega))).trans hps, z1, z2, ?_, RdI.ok.keep hrb hk, RdII.ok.keep hrw hk⟩
      obtain ⟨u, p, k1, k2, k3⟩ := hbxc
      exact ⟨u, p, (hk _ (by omega)).trans k1, RdIII.ok.mono (RdIII.ok.keep k2 fun j hj => hk j (by omega)) fun j hj => by omega, RdI.ok.mono (RdI.ok.keep k3 fun j hj => hk j (by omega)) fun j hj => by omega⟩
    have hbl5 : Below w.heap.size w W5 := (Hbel3.out.trans (hbl.mono (by omega))).trans (z4.mono (by omega))
    have HUD := Lib.hid hUD
    have Hz3 := Lib.hid z3
    have htup := Lib.hid (implTuples NB (errLen kind) (by omega) (by omega) hel.1 hel.2 W5 99
      #[.pointer (some ⟨w.heap.size + 1, 0, none⟩), .pointer (some ⟨w.heap.size, 0, none⟩), .pointer (some ⟨bg, 0, none⟩), .pointer (some ⟨w.heap.size + 1 + 1, 0, none⟩), .pointer (some ⟨wc.heap.size + 1, 0, none⟩), .pointer (some ⟨bw, 0, none⟩), .pointer (some ⟨wc.heap.size, 0, none⟩)]
      (fun i w1 => UD x kind place w.heap.size (w.heap.size + 1) bg bw (w.heap.size + 1 + 1) wc.heap.size bx vb vw (ptA x kind place i) (ptZ x kind place i) w1 ∧ Below w.heap.size w w1)
      (fun w1 => UD x kind place w.heap.size (w.heap.size + 1) bg bw (w.heap.size + 1 + 1) wc.heap.size bx vb vw (allAt x kind place) (badAt x kind place) w1 ∧ Below w.heap.size w w1)
      (fun w1 h1 => ⟨hUD.keep fun j hj => h1.block j (by omega), hbl5.trans (h1.mono (by omega))⟩)
      (fun i w1 w2 h1 h2 => ⟨h1.1.keep fun j hj => h2.block j (by omega), h1.2.trans (h2.mono (by omega))⟩)
      (fun w1 h1 => ⟨by rw [← ptI_all, ← ptI_bad]; rw [hNB] at h1; exact h1.1, h1.2⟩)
      (fun i hi L c w1 hL1 hL2 hrd hI => by
        rw [hNB] at hi hrd
        refine (implUD1 Hv.out Hkd.out hi hI.1 (by omega) hL2 hrd hp).mono ?_
        rintro e w2 ⟨rfl, hu, hk, hb⟩
        exact ⟨true, rfl, fun _ => ⟨hu, hI.2.trans (hb.mono (by omega))⟩, (fun h => by cases h), fun k h1 h2 => hk.block k (by omega) h2⟩)
      (fun args w => rfl))
    have HW5 := Lib.hid hW5
    have hA1 : w.heap.size < wc.heap.size := by omega
    have hA2 : bx < wc.heap.size := by omega
    clear hUD z1 z2 z3 z4 hNB hbl5 hW5 hs3 hrb hrw hg2 hw2 hks hps
    go_wp2_with fail
    rw [← HW5.out]
    refine (Calls.mono htup.out ?_)
    rintro e w6 ⟨rfl, hu, hb⟩
    have d1 := heap_cell hu.z (i := 0) rfl
    have d2 := heap_cell hu.a (i := 0) rfl
    have Hb := Lib.hid hb
    clear hu hb
    go_wp2
    go_quiet (fail)
    go_wp2
    refine bodyPost_ret (v := .tuple #[.int .i64 (badAt x kind place : Nat), .int .i64 (allAt x kind place : Nat)]) (by simp [results, Try.results68, go_sem]) rfl ⟨rfl, Below.draws Hb.out _⟩
end Go.Proofs.Ytcjmkiedcmlpcaa
