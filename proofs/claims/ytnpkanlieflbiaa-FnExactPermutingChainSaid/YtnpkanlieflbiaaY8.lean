/- The chain of a weighting, walked (the program), and WeightChain on both sides. -/
import Derived.Test.YtnpkanlieflbiaaY6
import Derived.Test.YtnpkanlieflbiaaY7
import Derived.Test.YtnpkanlieflbiaaV3
namespace Go.Proofs.Ytnpkanlieflbiaa
open Go.RowKit
set_option linter.unusedVariables false

theorem wl_snoc (NB : Nat) (ws : List Int) {k : Nat} (h : k < ws.length) : (ws.take (k + 1)).map (weighL NB) = (ws.take k).map (weighL NB) ++ [weighL NB (nth ws k)] := by rw [take_nth h, List.map_append]; rfl
theorem wl_bd {NB : Nat} (hb : NB ≤ 36) {wt : Int} (h0 : 0 ≤ wt) (h1 : wt ≤ 36) : ∀ j, j < (weighL NB wt).length → 0 ≤ nth (weighL NB wt) j ∧ nth (weighL NB wt) j ≤ 2000 := fun j hj => by
  rw [weighL_len] at hj
  rw [weighL_at wt hj]
  have := prodFacts (wt := wt) (d := (j : Int)) (m := 1) h0 h1 (by omega) (by omega) (by omega)
  omega

set_option maxHeartbeats 3200000 in
set_option maxRecDepth 100000 in
theorem implWChain {P : Nat → Prop} {bx : Nat} {x : Wgt} {w : World} (h : BoxW P w bx x) (hP : ∀ k, P k → k < w.heap.size) (hbx : bx < w.heap.size) (hv : VW x) :
    Calls Try.prog 62 #[.pointer (some ⟨bx, 0, none⟩)] w fun e w' => ∃ v', e = .returned v' ∧ Fresh OC w w' v' (wchn x) := by
  have hba := hv.base
  have hmo := hv.modulus
  have hta := hv.target
  have hln := hv.len
  have hwt := Lib.hid hv.weight
  obtain ⟨NB, hNB⟩ : ∃ n : Nat, n = x.base.toNat := ⟨_, rfl⟩
  obtain ⟨NM, hNM⟩ : ∃ n : Nat, n = x.modulus.toNat := ⟨_, rfl⟩
  obtain ⟨NT, hNT⟩ : ∃ n : Nat, n = x.target.toNat := ⟨_, rfl⟩
  have eb : x.base = (NB : Int) := by omega
  have em : x.modulus = (NM : Int) := by omega
  have et : x.target = (NT : Int) := by omega
  have hx := Lib.hid (show wchn x = addC (x.weights.map (weighL NB)) id NB NM NT by rw [hNB, hNM, hNT]; exact (weigh_chain (by omega) _ _ _).symm)
  obtain ⟨a, c, g0, g1, g2, g3, hu, k1, k2⟩ := h.cells
  rw [eb] at g0 hba
  rw [em] at g1 hmo
  rw [et] at g2 hta
  rw [em] at hta
  have hwt2 := Lib.hid (show ∀ k, k < x.weights.length → 0 ≤ nth x.weights k ∧ nth x.weights k < (NM : Int) from fun k hk => by have := hwt.out k hk; omega)
  have Hu := Lib.hid hu
  have HP := Lib.hid hP
  unfold maxLen at k2
  obtain ⟨NW, hNW⟩ : ∃ n, n = x.weights.length := ⟨_, rfl⟩
  rw [← hNW] at g3 Hu k1 hln hwt2
  have HNW := Lib.hid hNW
  clear hwt hNB hNM hNT eb em et h hv hu hP hNW
  obtain ⟨w1, hw1⟩ : ∃ w1, w1 = w.alloc (.cells #[.int .i64 0, .int .i64 0, .int .i64 0, .int .i64 0, .slice none 0 0, .slice none 0 0] 28) := ⟨_, rfl⟩
  have Hz1 := Lib.hid (show w1.heap[w.heap.size]? = some (.cells #[.int .i64 0, .int .i64 0, .int .i64 0, .int .i64 0, .slice none 0 0, .slice none 0 0] 28 (0, 0)) by rw [hw1]; exact heap_alloc_new w _)
  have Hs1 := Lib.hid (show w1.heap.size = w.heap.size + 1 by rw [hw1]; simp)
  have Hb1 := Lib.hid (show Below w.heap.size w w1 by rw [hw1]; exact (Below.refl _ _).alloc (Nat.le_refl _) _)
  have Hw1 := Lib.hid hw1
  have h1c3 : w1.cell? ⟨bx, 3, none⟩ = some (.slice a NW c) := (Hb1.out.cell (p := ⟨bx, 3, none⟩) hbx).trans g3
  have hbx1 : bx < w1.heap.size := by have := Hs1.out; omega
  have hsz1 : w.heap.size < w1.heap.size := by have := Hs1.out; omega
  have Hf0 := Lib.hid (show Fresh OII w1 (w1.alloc (.cells #[] 22)) (.slice (some ⟨w1.heap.size, 0, none⟩) 0 0) [] from Fresh.empty (Below.refl w1.heap.size w1))
  rw [Hs1.out] at Hf0
  clear hw1
  go_enter Try.func62, Try.ntmps62
  go_wp2_with fail
  rw [← Hw1.out]
  go_loopw [3, 12] (fun lv iv wr => ∃ k : Nat, k ≤ NW ∧ iv = .int .i64 k ∧ Hid (Fresh OII w1 wr lv ((x.weights.take k).map (weighL NB)))) (fun _ iv _ => NW - (intOf iv).toNat)
  case atStart => exact ⟨0, Nat.zero_le _, rfl, Hf0⟩
  case round =>
    clear Hf0
    obtain ⟨k, hk, rfl, hf⟩ := hrel
    obtain ⟨W2, rfl⟩ : ∃ W2, W2 = wr := ⟨_, rfl⟩
    have Hbw := Lib.hid (show Below w.heap.size w W2 from Hb1.out.trans (hf.out.bel.mono (by omega)))
    have hc0 : W2.cell? ⟨bx, 0, none⟩ = some (.int .i64 NB) := (Hbw.out.cell (p := ⟨bx, 0, none⟩) hbx).trans g0
    have hc1 : W2.cell? ⟨bx, 1, none⟩ = some (.int .i64 NM) := (Hbw.out.cell (p := ⟨bx, 1, none⟩) hbx).trans g1
    have hc2 : W2.cell? ⟨bx, 2, none⟩ = some (.int .i64 NT) := (Hbw.out.cell (p := ⟨bx, 2, none⟩) hbx).trans g2
    by_cases hlt : k < NW
    · have hlw : k < x.weights.length := by have := HNW.out; omega
      obtain ⟨hw0, hw36⟩ := hwt2.out k hlt
      obtain ⟨b3, o3, u3, rfl, hP3, hc4, rfl⟩ := Rd.elim Hu.out k hlw
      have hc5 : W2.cell? ⟨b3, o3 + k, none⟩ = some (.int .i64 (nth x.weights k)) := (Hbw.out.cell (p := ⟨b3, o3 + k, none⟩) (HP.out b3 hP3)).trans hc4
      have ho := Lib.hid (wl_snoc NB x.weights hlw)
      have hlk := Lib.hid (show ((x.weights.take k).map (weighL NB)).length ≤ 20 by simp; omega)
      clear hc4
      generalize nth x.weights k = wt at *
      have hcl := Lib.hid (implWeighed NB (by omega) wt hw0 (by omega) W2)
      go_wp2_with fail
      refine (Calls.mono hcl.out ?_)
      rintro e w3 ⟨v7, rfl, hf7⟩
      obtain ⟨S, T, p1, p2, p3, p4⟩ := pushRow OI.ok hf.out hf7
      have Hp1 := Lib.hid p1
      have Hp2 := Lib.hid p2
      have Hp3 := Lib.hid p3
      have Hp4 := Lib.hid p4
      obtain ⟨av, nv, cv, rfl⟩ := p1.isSlice
      obtain ⟨a13, n13, c13, rfl⟩ := p2.isSlice
      clear p1 p2 p3 p4 hf7
      go_wp2_with (at_builtin; refine wpList_push rfl _ _ 38 rfl OI.ok Try.underlying38 infoSl' rfl Hp1.out Hp2.out Hp3.out (by have := hlk.out; omega) (by have := hlk.out; unfold maxLen; omega) rfl rfl ?_; intro v1 w8 S8 hown1 honly1 hS8; have Hf5 := Lib.hid (Hp4.out v1 w8 S8 hown1 honly1 hS8); clear hown1 honly1 hS8)
      go_roundw
      case rel => exact ⟨k + 1, by omega, by go_num, by rw [ho.out]; exact Hf5⟩
      case measure => simp [intOf]; omega
    · obtain ⟨hkn⟩ : Nonempty (k = x.weights.length) := ⟨by have := HNW.out; omega⟩
      rw [hkn, List.take_length] at hf
      have hrk : RdII (· < W2.heap.size) W2 _ (x.weights.map (weighL NB)) := hf.out.rd OII.leads OII.ok
      obtain ⟨a5, n5, c5, rfl⟩ := hf.out.choose_spec.1.isSlice
      have hlen : (x.weights.map (weighL NB)).length ≤ 20 := by simp; have := HNW.out; omega
      have hfb : ∀ i, i < (x.weights.map (weighL NB)).length → (nth (x.weights.map (weighL NB)) i).length ≤ 36 ∧ ∀ j, j < (nth (x.weights.map (weighL NB)) i).length → 0 ≤ nth (nth (x.weights.map (weighL NB)) i) j ∧ nth (nth (x.weights.map (weighL NB)) i) j ≤ 2000 := fun i hi => by
        have hi2 : i < x.weights.length := by simpa using hi
        rw [nth_map hi2]
        have := hwt2.out i (by have := HNW.out; omega)
        exact ⟨by rw [weighL_len]; omega, wl_bd (by omega) this.1 (by omega)⟩
      have hcl : Hid (∀ q, Calls Try.prog 72 #[.int .i64 NB, .int .i64 NM, .int .i64 NT, .slice a5 n5 c5] (W2.drewN q) fun e w' => ∃ u p, e = .returned (.agg #[.int .i64 NB, .int .i64 NM, .int .i64 0, .int .i64 NT, u, p]) ∧ (∃ a b c d e f, u = .slice a b c ∧ p = .slice d e f) ∧ Fresh OC W2 w' (.agg #[.int .i64 NB, .int .i64 NM, .int .i64 0, .int .i64 NT, u, p]) (wchn x)) := Lib.hid fun q => by
        refine (implAdding (w := W2.drewN q) (RdII.ok.keep hrk fun _ _ => rfl) (Nat.le_refl _) NB NM NT hlen (by omega) hfb).mono ?_
        rintro e w3 ⟨v7, rfl, S, ⟨u, p, Sa, Sb, rfl, ot, op, eS, hSS⟩, hS, hb⟩
        refine ⟨u, p, rfl, ?_, ?_⟩
        · obtain ⟨a, b, c, rfl⟩ := ot.isSlice
          obtain ⟨d, e, f, rfl⟩ := op.isSlice
          exact ⟨a, b, c, d, e, f, rfl, rfl⟩
        · rw [hx.out]
          exact ⟨S, ⟨u, p, Sa, Sb, rfl, ot, op, eS, hSS⟩, hS, ⟨hb.os, hb.tape, hb.output, hb.size, hb.block⟩⟩
      have Hz2 := Lib.hid (below_heap hf.out.bel Hz1.out)
      have hS0 : W2.drew.cell? ⟨bx, 0, none⟩ = some (.int .i64 NB) ∧ W2.drew.cell? ⟨bx, 1, none⟩ = some (.int .i64 NM) ∧ W2.drew.cell? ⟨bx, 2, none⟩ = some (.int .i64 NT) := ⟨hc0, hc1, hc2⟩
      have hz2 : w.heap.size < W2.heap.size := heap_lt Hz2.out
      clear hrk hlen hfb hkn hf
      go_wp2
      refine wp_region_float 13 (fun w' => w'.cell? ⟨bx, 0, none⟩ = some (.int .i64 NB) ∧ w'.cell? ⟨bx, 1, none⟩ = some (.int .i64 NM) ∧ w'.cell? ⟨bx, 2, none⟩ = some (.int .i64 NT)) (by kernel_rfl) (by kernel_rfl) hS0 ?_
      clear hS0
      intro hS0
      simp only [List.take_succ_cons, List.take_zero, List.drop_succ_cons, List.drop_zero]
      iterate 13 (refine wpReads_cons _ (by rfl) (by intro w' hSw; (try dsimp only at hSw); go_simp; try (with_reducible rfl)) ?_; try simp only [Act.put, List.setIfInBounds_toArray, List.set_cons_zero, List.set_cons_succ])
      refine wpReads_nil ?_
      refine wpTail_cons fun K hK => ?_
      go_simp
      refine (Calls.mono (hcl.out _) ?_)
      rintro e w6 ⟨u, p, rfl, ⟨a7, n7, c7, a8, n8, c8, rfl, rfl⟩, hf⟩
      have hz6 := below_heap hf.bel Hz2.out
      have z0 := heap_cell hz6 (i := 0) rfl
      have z1 := heap_cell hz6 (i := 1) rfl
      have z2 := heap_cell hz6 (i := 2) rfl
      have z3 := heap_cell hz6 (i := 3) rfl
      have z4 := heap_cell hz6 (i := 4) rfl
      have z5 := heap_cell hz6 (i := 5) rfl
      have f0 := frozen_at hz6 0
      have f1 := frozen_at hz6 1
      have f2 := frozen_at hz6 2
      have f3 := frozen_at hz6 3
      have f4 := frozen_at hz6 4
      have f5 := frozen_at hz6 5
      have Hf := Lib.hid hf
      have hcb : w6.cell? ⟨bx, 0, none⟩ = some (.int .i64 NB) ∧ w6.cell? ⟨bx, 1, none⟩ = some (.int .i64 NM) ∧ w6.cell? ⟨bx, 2, none⟩ = some (.int .i64 NT) := ⟨(hf.bel.cell (p := ⟨bx, 0, none⟩) (by show bx < _; omega)).trans hc0, (hf.bel.cell (p := ⟨bx, 1, none⟩) (by show bx < _; omega)).trans hc1, (hf.bel.cell (p := ⟨bx, 2, none⟩) (by show bx < _; omega)).trans hc2⟩
      clear hf hz6
      refine hK.out _ _ hcb ?_
      clear hK K hS0 hcb
      try simp only [Act.put, List.setIfInBounds_toArray, List.set_cons_zero, List.set_cons_succ]
      refine wpTail_one ?_
      go_wp2_with fail
      refine NoPanic.normal ?_
      go_wp2
      refine bodyPost_ret (v := .agg #[.int .i64 NB, .int .i64 NM, .int .i64 0, .int .i64 NT, .slice a7 n7 c7, .slice a8 n8 c8]) (by simp [results, Try.results62, go_sem, z0, z1, z2, z3, z4, z5]) rfl ⟨_, rfl, Fresh.turned OC.ok Hf.out Hbw.out hz2 (by repeat' (first | with_reducible exact Only.refl _ _ | with_reducible refine Only.put ?_ ?_ _ _ | (simp; done)))⟩
end Go.Proofs.Ytnpkanlieflbiaa
