/- The chain of a weighting, walked (the reference). -/
import Derived.Test.YtnpkanlieflbiaaY5
import Derived.Test.YtnpkanlieflbiaaE9
import Derived.Test.YtnpkanlieflbiaaY1
import Derived.Test.YtnpkanlieflbiaaV3
import Derived.Test.YtnpkanlieflbiaaJ2
namespace Go.Proofs.Ytnpkanlieflbiaa
open Go.RowKit
set_option linter.unusedVariables false

def oneL (w : Int) : List Int := [w]
def wchn (x : Wgt) : Chn := addC (x.weights.map oneL) (fun l => addsL x.base.toNat x.modulus.toNat (nth l 0)) x.base.toNat x.modulus.toNat x.target.toNat
theorem oneL_snoc (ws : List Int) {k : Nat} (h : k < ws.length) : (ws.take (k + 1)).map oneL = (ws.take k).map oneL ++ [[nth ws k]] := by rw [take_nth h, List.map_append]; rfl
theorem adds_snoc (NB NM : Nat) (ws : List Int) {k : Nat} (h : k < ws.length) : (ws.take (k + 1)).map (addsL NB NM) = (ws.take k).map (addsL NB NM) ++ [addsL NB NM (nth ws k)] := by rw [take_nth h, List.map_append]; rfl
theorem adds_keys (NB NM : Nat) (ws : List Int) : (ws.map oneL).map (fun l => addsL NB NM (nth l 0)) = ws.map (addsL NB NM) := by
  rw [List.map_map]
  refine List.map_congr_left fun a _ => ?_
  rfl
theorem adds_bd {NB NM : Nat} (hm : 1 ≤ NM) (hm2 : NM ≤ 36) (w : Int) : ∀ j, j < (addsL NB NM w).length → 0 ≤ nth (addsL NB NM w) j ∧ nth (addsL NB NM w) j ≤ 2000 := fun j hj => by
  rw [addsL_len] at hj
  unfold addsL
  rw [nth_range_map hj]
  have h1 := Int.emod_nonneg (w * (j : Int)) (show (NM : Int) ≠ 0 by omega)
  have h2 := Int.emod_lt_of_pos (w * (j : Int)) (show (0 : Int) < (NM : Int) by omega)
  omega

/-- Made since a later world; then the result's cell turned. -/
theorem Fresh.turned {α : Type} {R : Rep α} (hR : R.Fine) {w W2 w6 w7 : World} {v : Value} {x : α} (hf : Fresh R W2 w6 v x) (hb0 : Below w.heap.size w W2) (hz : w.heap.size < W2.heap.size) (hon : Only [w.heap.size] w6 w7) : Fresh R w w7 v x := by
  obtain ⟨S, hS, hS2, hb⟩ := hf
  exact ⟨S, hR.keep hS fun j hj => hon.block j (hR.lt hS j hj) (by have := hS2 j hj; simp; omega), fun j hj => by have := hS2 j hj; omega, below_only (hb0.trans (hb.mono (by omega))) hon (by have := hb.size; omega) (by simp)⟩
/-- One list more on the left, made since. -/
theorem Two.more {w0 W w1 : World} {vt v1 : Value} {A B : List (List Int)} {r : List Int} {S1 S2 S1' T7 : List Nat} (h2 : OII W vt B S2) (hd : ∀ k ∈ S1, k ∉ S2) (hS1 : ∀ k ∈ S1, w0.heap.size ≤ k) (hS2 : ∀ k ∈ S2, w0.heap.size ≤ k)
    (hb : Below w0.heap.size w0 W) (hT : ∀ j ∈ T7, w0.heap.size ≤ j ∧ j ∉ S2) (ho : OII w1 v1 (A ++ [r]) S1') (hon : Only S1 W w1) (hS : ∀ k ∈ S1', k ∈ S1 ∨ k ∈ T7 ∨ W.heap.size ≤ k) : Two w0 w1 v1 vt (A ++ [r]) B := by
  have hsz := hb.size
  refine ⟨S1', S2, ho, OII.ok.keep h2 fun k hk => hon.block k (OII.ok.lt h2 k hk) (fun h => hd k h hk), fun k hk hk2 => ?_, fun k hk => ?_, hS2, below_only hb hon hsz hS1⟩
  · have hlt := OII.ok.lt h2 k hk2
    rcases hS k hk with h | h | h
    · exact hd k h hk2
    · exact (hT k h).2 hk2
    · omega
  · rcases hS k hk with h | h | h
    · exact hS1 k h
    · exact (hT k h).1
    · omega

set_option maxHeartbeats 3200000 in
set_option maxRecDepth 100000 in
theorem specL03Weights {P : Nat → Prop} {bx : Nat} {x : Wgt} {w : World} (h : BoxW P w bx x) (hP : ∀ k, P k → k < w.heap.size) (hbx : bx < w.heap.size) (hv : VW x) :
    Calls Try.prog 59 #[.pointer (some ⟨bx, 0, none⟩)] w fun e w' => ∃ v', e = .returned v' ∧ Fresh OC w w' v' (wchn x) := by
  have hba := hv.base
  have hmo := hv.modulus
  have hta := hv.target
  have hln := hv.len
  have hwt := Lib.hid hv.weight
  obtain ⟨NB, hNB⟩ : ∃ n : Nat, n = x.base.toNat := ⟨_, rfl⟩
  obtain ⟨NM, hNM⟩ : ∃ n : Nat, n = x.modulus.toNat := ⟨_, rfl⟩
  obtain ⟨NT, hNT⟩ : ∃ n : Nat, n = x.target.toNat := ⟨_, rfl⟩
  have eb : x.base = (NB : Int) := by omega
  have em : x.modulus = (NM : Int) := by omega
  have et : x.target = (NT : Int) := by omega
  have hx := Lib.hid (show wchn x = addC (x.weights.map oneL) (fun l => addsL NB NM (nth l 0)) NB NM NT by rw [hNB, hNM, hNT]; rfl)
  obtain ⟨a, c, g0, g1, g2, g3, hu, k1, k2⟩ := h.cells
  rw [eb] at g0 hba
  rw [em] at g1 hmo
  rw [et] at g2 hta
  rw [em] at hta
  have hwt2 := Lib.hid (show ∀ k, k < x.weights.length → 0 ≤ nth x.weights k ∧ nth x.weights k < (NM : Int) from fun k hk => by have := hwt.out k hk; omega)
  have Hu := Lib.hid hu
  have HP := Lib.hid hP
  unfold maxLen at k2
  obtain ⟨NW, hNW⟩ : ∃ n, n = x.weights.length := ⟨_, rfl⟩
  rw [← hNW] at g3 Hu k1 hln hwt2
  have HNW := Lib.hid hNW
  clear hwt hNB hNM hNT eb em et h hv hu hP hNW
  obtain ⟨w1, hw1⟩ : ∃ w1, w1 = w.alloc (.cells #[.int .i64 0, .int .i64 0, .int .i64 0, .int .i64 0, .slice none 0 0, .slice none 0 0] 28) := ⟨_, rfl⟩
  have hz1 : w1.heap[w.heap.size]? = some (.cells #[.int .i64 0, .int .i64 0, .int .i64 0, .int .i64 0, .slice none 0 0, .slice none 0 0] 28 (0, 0)) := by rw [hw1]; exact heap_alloc_new w _
  have hs1 : w1.heap.size = w.heap.size + 1 := by rw [hw1]; simp
  have hb1 : Below w.heap.size w w1 := by rw [hw1]; exact (Below.refl _ _).alloc (Nat.le_refl _) _
  have Hw1 := Lib.hid hw1
  have Hz1 := Lib.hid hz1
  have Hb1 := Lib.hid hb1
  have Hs1 := Lib.hid hs1
  go_enter Try.func59, Try.ntmps59
  go_wp2_with fail
  rw [← Hw1.out]
  have ht0 : Two w1 ((w1.alloc (.cells #[] 22)).alloc (.cells #[] 22)) (.slice (some ⟨w1.heap.size, 0, none⟩) 0 0) (.slice (some ⟨w1.heap.size + 1, 0, none⟩) 0 0) [] [] := by
    have hf : Fresh OII w1 _ _ [] := Fresh.empty (E := 22) (R := OI) (Below.refl w1.heap.size w1)
    have ht : Fresh OII (w1.alloc (.cells #[] 22)) _ _ [] := Fresh.empty (E := 22) (R := OI) (Below.refl _ _)
    have ht' : Fresh OII (w1.alloc (.cells #[] 22)) ((w1.alloc (.cells #[] 22)).alloc (.cells #[] 22)) (.slice (some ⟨w1.heap.size + 1, 0, none⟩) 0 0) [] := by rw [alloc_size] at ht; exact ht
    exact Two.start hf ht'
  rw [Hs1.out] at ht0
  have Ht0 := Lib.hid ht0
  clear hw1 hz1 hs1 ht0
  have hsz1 : w.heap.size < w1.heap.size := by have := Hs1.out; omega
  go_loopw [3, 4, 5] (fun kv av iv wr => ∃ k : Nat, k ≤ NW ∧ iv = .int .i64 k ∧ Hid (Two w1 wr kv av ((x.weights.take k).map oneL) ((x.weights.take k).map (addsL NB NM)))) (fun _ _ iv _ => NW - (intOf iv).toNat)
  case atStart => exact ⟨0, Nat.zero_le _, rfl, Ht0⟩
  case round =>
    clear Ht0
    obtain ⟨k, hk, rfl, ht⟩ := hrel
    obtain ⟨W2, rfl⟩ : ∃ W2, W2 = wr := ⟨_, rfl⟩
    obtain ⟨S1, S2, h1, h2, hd, hS1, hS2, hbel⟩ := ht.out
    have Hbw := Lib.hid (show Below w.heap.size w W2 from Hb1.out.trans (hbel.mono (by omega)))
    have hc3 : W2.cell? ⟨bx, 3, none⟩ = some (.slice a NW c) := (Hbw.out.cell (p := ⟨bx, 3, none⟩) hbx).trans g3
    have hc0 : W2.cell? ⟨bx, 0, none⟩ = some (.int .i64 NB) := (Hbw.out.cell (p := ⟨bx, 0, none⟩) hbx).trans g0
    have hc1 : W2.cell? ⟨bx, 1, none⟩ = some (.int .i64 NM) := (Hbw.out.cell (p := ⟨bx, 1, none⟩) hbx).trans g1
    have hc2 : W2.cell? ⟨bx, 2, none⟩ = some (.int .i64 NT) := (Hbw.out.cell (p := ⟨bx, 2, none⟩) hbx).trans g2
    by_cases hlt : k < NW
    · have hlw : k < x.weights.length := by have := HNW.out; omega
      obtain ⟨hw0, hw36⟩ := hwt2.out k hlt
      obtain ⟨b3, o3, u3, rfl, hP3, hc4, rfl⟩ := Rd.elim Hu.out k hlw
      have hb3 := HP.out b3 hP3
      have hc5 : W2.cell? ⟨b3, o3 + k, none⟩ = some (.int .i64 (nth x.weights k)) := (Hbw.out.cell (p := ⟨b3, o3 + k, none⟩) hb3).trans hc4
      have ho := Lib.hid (oneL_snoc x.weights hlw)
      have ha := Lib.hid (adds_snoc NB NM x.weights hlw)
      have hlk := Lib.hid (show ((x.weights.take k).map oneL).length ≤ 20 by simp; omega)
      have hla := Lib.hid (show ((x.weights.take k).map (addsL NB NM)).length ≤ 20 by simp; omega)
      have hc6 : w.cell? ⟨b3, o3 + k, none⟩ = some (.int .i64 (nth x.weights k)) := hc4
      clear hc4
      generalize nth x.weights k = wt at *
      have hsc := Lib.hid (show ∀ w', Below w.heap.size w w' → (w'.cell? ⟨bx, 0, none⟩ = some (.int .i64 NB) ∧ w'.cell? ⟨bx, 1, none⟩ = some (.int .i64 NM) ∧ w'.cell? ⟨bx, 3, none⟩ = some (.slice (some ⟨b3, o3, none⟩) NW c) ∧ w'.cell? ⟨b3, o3 + k, none⟩ = some (.int .i64 wt)) from
        fun w' hb => ⟨(hb.cell (p := ⟨bx, 0, none⟩) hbx).trans g0, (hb.cell (p := ⟨bx, 1, none⟩) hbx).trans g1, (hb.cell (p := ⟨bx, 3, none⟩) hbx).trans g3, (hb.cell (p := ⟨b3, o3 + k, none⟩) hb3).trans hc6⟩)
      have hr1 := Lib.hid (Own.lit W2 2 fI [wt] (by unfold maxLen; simp))
      have hown1 := Lib.hid (Own.alloc OI.ok h1 (.cells ([wt].map fI).toArray 2))
      have hd1 := Lib.hid (show ∀ j ∈ [W2.heap.size], j ∉ S1 from fun j hj hm => by simp at hj; have h3 := OII.ok.lt h1 j hm; omega)
      have HT := Lib.hid (fun v1 w1 S1' ho hon hS => Two.left (v1 := v1) (w1 := w1) (S1' := S1') (r := [wt]) (o := .cells ([wt].map fI).toArray 2) h1 h2 hd hS1 hS2 hbel ho hon hS)
      clear h1 h2 hd hS1 hS2 hbel hc6
      go_wp2_with (at_builtin; refine wpList_push rfl _ _ 38 rfl OI.ok Try.underlying38 infoSl' rfl hown1.out hr1.out hd1.out (by have := hlk.out; omega) (by have := hlk.out; unfold maxLen; omega) rfl (by rw [alloc_size]; rfl) ?_; intro v1 w5 S1' ho1 hon1 hS1'; have HT1 := Lib.hid (HT.out v1 w5 S1' ho1 hon1 hS1').swap; clear ho1 hon1 hS1')
      obtain ⟨S3, S4, h1, h2, hd, hS1, hS2, hbel⟩ := HT1.out
      have Hbw5 := Lib.hid (show Below w.heap.size w w5 from Hb1.out.trans (hbel.mono (by omega)))
      have hl1 := OII.ok.lt h1
      have hl2 := OII.ok.lt h2
      have hz5 := hbel.size
      have hcl : Hid (∀ q, Calls Try.prog 117 #[.int .i64 wt, .int .i64 NB, .int .i64 NM] (w5.drewN q) fun e w' => ∃ g7 c7 S7, e = .returned (.slice (some ⟨g7, 0, none⟩) NB c7) ∧ OI w' (.slice (some ⟨g7, 0, none⟩) NB c7) (addsL NB NM wt) S7 ∧ (∀ j ∈ S7, w1.heap.size ≤ j ∧ j ∉ S3 ∧ j ∉ S4) ∧ Below w1.heap.size w1 w' ∧ Below w5.heap.size w5 w') := Lib.hid fun q => by
        refine (specAdds NB NM (by omega) (by omega) wt hw0 (by omega) (w5.drewN q)).mono ?_
        rintro e w3 ⟨v7, rfl, hf7⟩
        have hwl := addsL_len NB NM wt
        obtain ⟨g7, c7, rfl⟩ := hf7.shape (by omega)
        rw [hwl] at hf7 ⊢
        obtain ⟨S7, hr7, hS7, hb7⟩ := hf7
        exact ⟨g7, c7, S7, rfl, hr7, fun j hj => by have h := hS7 j hj; have h' : w5.heap.size ≤ j := h; exact ⟨by omega, fun hm => by have := hl1 j hm; omega, fun hm => by have := hl2 j hm; omega⟩, (Below.draws hbel q).trans (hb7.mono hz5), ⟨hb7.os, hb7.tape, hb7.output, hb7.size, hb7.block⟩⟩
      obtain ⟨a5, n5, c5, rfl⟩ := h1.isSlice
      have Hh1 := Lib.hid h1
      have Hh2 := Lib.hid h2
      have Hd := Lib.hid hd
      have HS1 := Lib.hid hS1
      have HS2 := Lib.hid hS2
      have Hbel := Lib.hid hbel
      have hS0 := hsc.out w5.drew (Below.draws Hbw5.out 1)
      clear h1 h2 hd hS1 hS2 hbel hl1 hl2 HT1 HT hown1 hr1 hd1
      refine wp_region_float 16 (fun w' => w'.cell? ⟨bx, 0, none⟩ = some (.int .i64 NB) ∧ w'.cell? ⟨bx, 1, none⟩ = some (.int .i64 NM) ∧ w'.cell? ⟨bx, 3, none⟩ = some (.slice (some ⟨b3, o3, none⟩) NW c) ∧ w'.cell? ⟨b3, o3 + k, none⟩ = some (.int .i64 wt)) (by kernel_rfl) (by kernel_rfl) hS0 ?_
      clear hS0
      intro hS0
      simp only [List.take_succ_cons, List.take_zero, List.drop_succ_cons, List.drop_zero]
      iterate 16 (refine wpReads_cons _ (by rfl) (by intro w' hSw; (try dsimp only at hSw); go_simp; try (with_reducible rfl)) ?_; try simp only [Act.put, List.setIfInBounds_toArray, List.set_cons_zero, List.set_cons_succ])
      refine wpReads_nil ?_
      refine wpTail_cons fun K hK => ?_
      go_simp
      refine (Calls.mono (hcl.out _) ?_)
      rintro e w6 ⟨g7, c7, S7, rfl, hr7, hS7, hbel6, hb56⟩
      have Hh6 := Lib.hid (OII.ok.keep Hh1.out (w' := w6) fun j hj => hb56.block j (OII.ok.lt Hh1.out j hj))
      have Hh7 := Lib.hid (OII.ok.keep Hh2.out (w' := w6) fun j hj => hb56.block j (OII.ok.lt Hh2.out j hj))
      have Hbw6 := Lib.hid (show Below w.heap.size w w6 from Hbw5.out.trans (hb56.mono Hbw5.out.size))
      have hz6 := Hbw6.out.size
      have Hr7 := Lib.hid hr7
      have HS7 := Lib.hid hS7
      have Hbel6 := Lib.hid hbel6
      clear hr7 hS7 hbel6 hb56
      refine hK.out _ _ (hsc.out _ Hbw6.out) ?_
      clear hK K hS0
      try simp only [Act.put, List.setIfInBounds_toArray, List.set_cons_zero, List.set_cons_succ]
      refine wpTail_cons fun K hK => ?_
      go_simp
      refine hK.out _ _ (hsc.out _ (Below.alloc Hbw6.out hz6 _)) ?_
      clear hK K
      try simp only [Act.put, List.setIfInBounds_toArray, List.set_cons_zero, List.set_cons_succ]
      refine wpTail_cons fun K hK => ?_
      refine step_push rfl _ _ 38 rfl OI.ok Try.underlying38 infoSl' rfl w6 Hh6.out (addsL NB NM wt) S7 Hr7.out (fun j hj => (HS7.out j hj).2.1) (by have := hla.out; omega) (by have := hla.out; unfold maxLen; omega) rfl rfl rfl ?_
      intro v7 w7 S8 ho7 hn7 hS8
      obtain ⟨a12, n12, c12, rfl⟩ := ho7.isSlice
      have ht7 := (Two.more Hh7.out Hd.out HS1.out HS2.out Hbel6.out (fun j hj => ⟨(HS7.out j hj).1, (HS7.out j hj).2.2⟩) ho7 hn7 hS8).swap
      rw [← ho.out, ← ha.out] at ht7
      have Hbw7 := Lib.hid (show Below w.heap.size w w7 from below_only Hbw6.out hn7 hz6 fun j hj => by have := HS1.out j hj; omega)
      have Ht7 := Lib.hid ht7
      clear ho7 hn7 hS8 ht7
      refine hK.out _ _ (hsc.out _ Hbw7.out) ?_
      clear hK K
      try simp only [Act.put, List.setIfInBounds_toArray, List.set_cons_zero, List.set_cons_succ]
      refine wpTail_one ?_
      go_wp2_with fail
      refine NoPanic.normal ?_
      go_wp2
      go_roundw
      case rel => exact ⟨k + 1, by omega, by go_num, Ht7⟩
      case measure => simp [intOf]; omega
    · obtain ⟨hkn⟩ : Nonempty (k = x.weights.length) := ⟨by have := HNW.out; omega⟩
      rw [hkn, List.take_length] at h1 h2
      have hkx := adds_keys NB NM x.weights
      obtain ⟨a5, n5, c5, rfl⟩ := h1.isSlice
      obtain ⟨a6, n6, c6, rfl⟩ := h2.isSlice
      have hrk : RdII (· < W2.heap.size) W2 (.slice a5 n5 c5) (x.weights.map oneL) := OII.leads.to _ _ _ _ _ h1 (OII.ok.lt h1)
      have hra : RdII (· < W2.heap.size) W2 (.slice a6 n6 c6) ((x.weights.map oneL).map (fun l => addsL NB NM (nth l 0))) := by rw [hkx]; exact OII.leads.to _ _ _ _ _ h2 (OII.ok.lt h2)
      have hlen : (x.weights.map oneL).length ≤ 20 := by simp; have := HNW.out; omega
      have hfb : ∀ i, i < (x.weights.map oneL).length → (addsL NB NM (nth (nth (x.weights.map oneL) i) 0)).length ≤ 36 ∧ ∀ j, j < (addsL NB NM (nth (nth (x.weights.map oneL) i) 0)).length → 0 ≤ nth (addsL NB NM (nth (nth (x.weights.map oneL) i) 0)) j ∧ nth (addsL NB NM (nth (nth (x.weights.map oneL) i) 0)) j ≤ 2000 :=
        fun i hi => ⟨by rw [addsL_len]; omega, adds_bd (by omega) (by omega) _⟩
      have hcl : Hid (∀ q, Calls Try.prog 70 #[.slice a5 n5 c5, .slice a6 n6 c6, .int .i64 NB, .int .i64 NM, .int .i64 NT] (W2.drewN q) fun e w' => ∃ u p, e = .returned (.agg #[.int .i64 NB, .int .i64 NM, .int .i64 0, .int .i64 NT, u, p]) ∧ (∃ a b c d e f, u = .slice a b c ∧ p = .slice d e f) ∧ Fresh OC W2 w' (.agg #[.int .i64 NB, .int .i64 NM, .int .i64 0, .int .i64 NT, u, p]) (wchn x)) := Lib.hid fun q => by
        refine (specL03Chain (w := W2.drewN q) _ (RdII.ok.keep hrk fun _ _ => rfl) (RdII.ok.keep hra fun _ _ => rfl) (Nat.le_refl _) NB NM NT hlen (by omega) hfb).mono ?_
        rintro e w3 ⟨v7, rfl, S, ⟨u, p, Sa, Sb, rfl, ot, op, eS, hSS⟩, hS, hb⟩
        refine ⟨u, p, rfl, ?_, ?_⟩
        · obtain ⟨a, b, c, rfl⟩ := ot.isSlice
          obtain ⟨d, e, f, rfl⟩ := op.isSlice
          exact ⟨a, b, c, d, e, f, rfl, rfl⟩
        · rw [hx.out]
          exact ⟨S, ⟨u, p, Sa, Sb, rfl, ot, op, eS, hSS⟩, hS, ⟨hb.os, hb.tape, hb.output, hb.size, hb.block⟩⟩
      have Hz2 := Lib.hid (below_heap hbel Hz1.out)
      have hS0 : W2.drew.cell? ⟨bx, 0, none⟩ = some (.int .i64 NB) ∧ W2.drew.cell? ⟨bx, 1, none⟩ = some (.int .i64 NM) ∧ W2.drew.cell? ⟨bx, 2, none⟩ = some (.int .i64 NT) := ⟨hc0, hc1, hc2⟩
      have hz2 : w.heap.size < W2.heap.size := heap_lt Hz2.out
      clear h1 h2 hkx hrk hra hlen hfb hkn hd hS1 hS2 hbel
      go_wp2
      refine wp_region_float 14 (fun w' => w'.cell? ⟨bx, 0, none⟩ = some (.int .i64 NB) ∧ w'.cell? ⟨bx, 1, none⟩ = some (.int .i64 NM) ∧ w'.cell? ⟨bx, 2, none⟩ = some (.int .i64 NT)) (by kernel_rfl) (by kernel_rfl) hS0 ?_
      clear hS0
      intro hS0
      simp only [List.take_succ_cons, List.take_zero, List.drop_succ_cons, List.drop_zero]
      iterate 14 (refine wpReads_cons _ (by rfl) (by intro w' hSw; (try dsimp only at hSw); go_simp; try (with_reducible rfl)) ?_; try simp only [Act.put, List.setIfInBounds_toArray, List.set_cons_zero, List.set_cons_succ])
      refine wpReads_nil ?_
      refine wpTail_cons fun K hK => ?_
      go_simp
      refine (Calls.mono (hcl.out _) ?_)
      rintro e w6 ⟨u, p, rfl, ⟨a7, n7, c7, a8, n8, c8, rfl, rfl⟩, hf⟩
      have hz6 := below_heap hf.bel Hz2.out
      have z0 := heap_cell hz6 (i := 0) rfl
      have z1 := heap_cell hz6 (i := 1) rfl
      have z2 := heap_cell hz6 (i := 2) rfl
      have z3 := heap_cell hz6 (i := 3) rfl
      have z4 := heap_cell hz6 (i := 4) rfl
      have z5 := heap_cell hz6 (i := 5) rfl
      have f0 := frozen_at hz6 0
      have f1 := frozen_at hz6 1
      have f2 := frozen_at hz6 2
      have f3 := frozen_at hz6 3
      have f4 := frozen_at hz6 4
      have f5 := frozen_at hz6 5
      have Hf := Lib.hid hf
      have hcb : w6.cell? ⟨bx, 0, none⟩ = some (.int .i64 NB) ∧ w6.cell? ⟨bx, 1, none⟩ = some (.int .i64 NM) ∧ w6.cell? ⟨bx, 2, none⟩ = some (.int .i64 NT) := ⟨(hf.bel.cell (p := ⟨bx, 0, none⟩) (by show bx < _; omega)).trans hc0, (hf.bel.cell (p := ⟨bx, 1, none⟩) (by show bx < _; omega)).trans hc1, (hf.bel.cell (p := ⟨bx, 2, none⟩) (by show bx < _; omega)).trans hc2⟩
      clear hf hz6
      refine hK.out _ _ hcb ?_
      clear hK K hS0 hcb
      try simp only [Act.put, List.setIfInBounds_toArray, List.set_cons_zero, List.set_cons_succ]
      refine wpTail_one ?_
      go_wp2_with fail
      refine NoPanic.normal ?_
      go_wp2
      refine bodyPost_ret (v := .agg #[.int .i64 NB, .int .i64 NM, .int .i64 0, .int .i64 NT, .slice a7 n7 c7, .slice a8 n8 c8]) (by simp [results, Try.results59, go_sem, z0, z1, z2, z3, z4, z5]) rfl ⟨_, rfl, Fresh.turned OC.ok Hf.out Hbw.out hz2 (by repeat' (first | with_reducible exact Only.refl _ _ | with_reducible refine Only.put ?_ ?_ _ _ | (simp; done)))⟩
end Go.Proofs.Ytnpkanlieflbiaa
/- The chain that adds, walked (the program). -/
namespace Go.Proofs.Ytnpkanlieflbiaa
open Go.RowKit
set_option linter.unusedVariables false

abbrev Hdr := Option Addr × Nat × Nat
abbrev gH : Hdr → Value := fun h => .slice h.1 h.2.1 h.2.2
theorem gH_one (h : Hdr) : (gH h).oneCell' = true := rfl
theorem firstIx_at {L : List (List Int)} (hn : L.Nodup) (x : List Int) : firstIx L.length (fun i => decide (nth L i = x)) = atS L x L.length := by
  by_cases h : x ∈ L
  · obtain ⟨j, hj, e⟩ := List.mem_iff_getElem.1 h
    have hj2 : nth L j = x := by rw [nth_eq hj]; exact e
    rw [atS_yes h, idx_at hn hj hj2]
    refine firstIx_hit hj (fun i hi => ?_) (by simp [hj2])
    simp only [decide_eq_false_iff_not]
    intro e2
    have h1 := idx_at hn (show i < L.length by omega) e2
    have h2 := idx_at hn hj hj2
    omega
  · rw [atS_no h]
    refine firstIx_miss fun i hi => ?_
    simp only [decide_eq_false_iff_not]
    intro e2
    exact h (e2 ▸ nth_mem hi)
/-- A list of headers reads as the lists behind them. -/
theorem hdr_rd {B : Nat} {wr : World} {fv : Value} {hs : List Hdr} {L : List (List Int)} {S : List Nat} (ho : Own 22 (leaf gH) wr fv hs S) (hl : hs.length = L.length) (hr : ∀ j, j < hs.length → RdI (· < B) wr (gH (nth hs j)) (nth L j)) (hB : B ≤ wr.heap.size) : RdII (· < wr.heap.size) wr fv L := by
  have hlt := (Own.ok (leaf.ok gH_one)).lt ho
  rcases ho with ⟨rfl, rfl, rfl⟩ | ⟨g, cap, cur, Ss, rfl, hh, h1, h2, h3, rfl, hN, hl2, he⟩
  · have : L = [] := List.eq_nil_of_length_eq_zero (by simpa using hl.symm)
    subst this
    exact ⟨none, 0, rfl, by simp, by simp, fun i hi => absurd hi (by simp)⟩
  · refine ⟨_, _, by rw [hl], by omega, h3, fun i hi => ?_⟩
    obtain ⟨u, hu, hr2⟩ := he i (by omega)
    refine ⟨g, 0, u, rfl, hlt g (by simp), ?_, ?_⟩
    · rw [Nat.zero_add, cell_of_row wr g i cur _ (0, 0) hh, hu]
    · rw [hr2.1]
      exact RdI.ok.mono (hr i (by omega)) fun k hk => by show k < _; have : k < B := hk; omega
theorem infoSl'' : (Try.prog.info? 22).map (fun i => (i.zero, i.size, i.bytes)) = some (some (.slice none 0 0), 1, 24) := by kernel_rfl

theorem set_size7 (w : World) (p : Addr) (v : Value) : (w.setCell p v).heap.size = w.heap.size := by simp
set_option maxHeartbeats 3200000 in
set_option maxRecDepth 100000 in
theorem implAdding {B : Nat} {lv : Value} {lists : List (List Int)} {w : World} (hl : RdII (· < B) w lv lists) (hB : B ≤ w.heap.size) (NB m TG : Nat)
    (hn : lists.length ≤ 20) (hm : 1 ≤ m ∧ m ≤ 36) (hf : ∀ i, i < lists.length → (nth lists i).length ≤ 36 ∧ ∀ j, j < (nth lists i).length → 0 ≤ nth (nth lists i) j ∧ nth (nth lists i) j ≤ 2000) :
    Calls Try.prog 72 #[.int .i64 NB, .int .i64 m, .int .i64 TG, lv] w fun e w' => ∃ v', e = .returned v' ∧ Fresh OC w w' v' (addC lists id NB m TG) := by
  obtain ⟨a1, c1, rfl, h1, h2⟩ := hl.isSlice
  have Hk := Lib.hid hl; clear hl
  have Hf := Lib.hid hf; clear hf
  obtain ⟨N, hN⟩ : ∃ N, lists.length = N := ⟨_, rfl⟩
  rw [hN] at h1 hn Hk Hf ⊢
  have HN := Lib.hid hN; clear hN
  unfold maxLen at h2
  have H3 := Lib.hid (three w (.cells #[.int .i64 0, .int .i64 0, .int .i64 0, .int .i64 0, .slice none 0 0, .slice none 0 0] 28) (.cells #[.int .i64 NB, .int .i64 m, .int .i64 0, .int .i64 TG, .slice none 0 0, .slice none 0 0] 28) (.cells #[] 22) 0)
  go_enter Try.func72, Try.ntmps72
  go_wp2
  have hst0 : CSt 22 gH w NB m TG (tabsTo id m lists 0) (plTo lists 0) [] (.slice (some ⟨w.heap.size + 1 + 1, 0, none⟩) 0 0) (.slice none 0 0) (.slice none 0 0) [] [] [w.heap.size + 1 + 1] (((w.alloc (.cells #[.int .i64 0, .int .i64 0, .int .i64 0, .int .i64 0, .slice none 0 0, .slice none 0 0] 28)).alloc (.cells #[.int .i64 NB, .int .i64 m, .int .i64 0, .int .i64 TG, .slice none 0 0, .slice none 0 0] 28)).alloc (.cells #[] 22)) :=
    ⟨H3.out.1, H3.out.2.1, own_nil _, own_nil _, .inr ⟨_, 0, #[], [], rfl, H3.out.2.2.1, rfl, Nat.le_refl _, by unfold maxLen; omega, by simp, by simp, rfl, fun i hi => absurd hi (by simp)⟩, by simp, by simp, by simp, by simp, by simp, by simp, H3.out.2.2.2.2⟩
  have Hst0 := Lib.hid hst0; clear hst0 H3
  go_loopw [10, 26] (fun fv kv wr => ∃ (k : Nat) (tv pv : Value) (S1 S2 S3 : List Nat) (hs : List Hdr), k ≤ N ∧ kv = .int .i64 k ∧ Hid (CSt 22 gH w NB m TG (tabsTo id m lists k) (plTo lists k) hs fv tv pv S1 S2 S3 wr) ∧ Hid (hs.length = (ddTo lists k).length) ∧ Hid (∀ j, j < hs.length → RdI (· < B) w (gH (nth hs j)) (nth (ddTo lists k) j))) (fun _ kv _ => N - (intOf kv).toNat)
  case atStart => exact ⟨0, _, _, _, _, _, [], Nat.zero_le _, rfl, Hst0, Lib.hid rfl, Lib.hid (fun j hj => by simp at hj)⟩
  case round =>
    clear Hst0
    obtain ⟨k, tv, pv, S1, S2, S3, hs, hkN, rfl, hst, hsl, hsr⟩ := hrel
    obtain ⟨W2, rfl⟩ : ∃ W2, W2 = wr := ⟨_, rfl⟩
    have hz2 := hst.out.size
    by_cases hlt : k < N
    · have hlk : k < lists.length := by have := HN.out; omega
      have Hk2 := Lib.hid (RdII.ok.keep Hk.out (w' := W2) fun j hj => hst.out.bel.block j (by omega))
      obtain ⟨b7, o7, a7, c7, rfl, hP7, hc7, q7, q8, hr7⟩ := Rd.row Hk2.out hlk
      have hb7 : b7 < B := hP7
      have Hr8 := Lib.hid (show RdI (· < B) w _ (nth lists k) from RdI.ok.keep hr7 fun j hj => (hst.out.bel.block j (by omega)).symm)
      obtain ⟨hfl7, hfb7⟩ := Hf.out k hlt
      unfold maxLen at q8
      have hNd : (ddTo lists k).length ≤ 20 := by have := ddTo_len lists k; omega
      obtain ⟨af, cf, rfl, q1, q2⟩ := (Own.rd hst.out.kn (P := fun _ => True) (fun _ _ => trivial)).isSlice
      obtain ⟨NF, hNF⟩ : ∃ n, hs.length = n := ⟨_, rfl⟩
      have hNF2 : (ddTo lists k).length = NF := by rw [← hNF]; exact hsl.out.symm
      rw [hNF] at hst q1 hsr ⊢
      have HNF := Lib.hid hNF
      have HNd := Lib.hid hNF2
      unfold maxLen at q2
      have hNF20 : NF ≤ 20 := by omega
      have Hfb7 := Lib.hid hfb7
      have hb3 := Lib.hid ((Below.refl W2.heap.size W2).alloc (Nat.le_refl _) (.cells #[.slice a7 (nth lists k).length c7] 22))
      have hlb := Lib.hid (heap_alloc_new W2 (.cells #[.slice a7 (nth lists k).length c7] 22))
      have hst3 := Lib.hid (hst.out.keep gH_one hb3.out)
      have hFv := Lib.hid (hdr_rd hst3.out.kn hsl.out (fun j hj => RdI.ok.keep (hsr.out j (by omega)) fun i hi => hst3.out.bel.block i (by have : i < B := hi; omega)) (by have := hst3.out.bel.size; omega))
      have hIx := Lib.hid (slIndexFunc2 hFv.out (Nat.le_refl _) 130 #[.pointer (some ⟨W2.heap.size, 0, none⟩)] (fun i => decide (nth (ddTo lists k) i = nth lists k))
        (fun i hi u w1 hb hr => by
          have hbw := hst3.out.bel.trans (hb.mono hst3.out.bel.size)
          refine (implAdding1 hr (RdI.ok.keep Hr8.out (w' := w1) fun j hj => hbw.block j (by have : j < B := hj; omega)) (heap_cell (below_heap hb hlb.out) (i := 0) rfl)).mono ?_
          rintro e w2 ⟨rfl, q, rfl⟩
          exact ⟨rfl, ⟨rfl, rfl, rfl, Nat.le_refl _, fun _ _ => rfl⟩⟩) (fun args w => rfl))
      rw [firstIx_at (ddTo_nodup lists k)] at hIx
      have hpl := Lib.hid (show (plTo lists k).length ≤ 20 by rw [plTo_len]; omega)
      have htl := Lib.hid (show (tabsTo id m lists k).length ≤ 20 by rw [tabsTo_len]; omega)
      have hhl := Lib.hid (show hs.length ≤ 20 by omega)
      obtain ⟨a8, n8, c8, rfl⟩ := hst.out.pls.isSlice
      obtain ⟨a10, n10, c10, rfl⟩ := hst.out.tabs.isSlice
      clear hr7 hNF hNF2 hNd hfb7
      by_cases hmem : nth lists k ∈ ddTo lists k
      · obtain ⟨ix, hix, hat, hp1, hp2⟩ := key_in hmem
        rw [hat] at hIx
        have hp1 := Lib.hid hp1
        have hp2 := Lib.hid hp2
        have hix2 : ix < 20 := by have := HNd.out; omega
        have hix3 : ¬ ((ix : Nat) : Int) < 0 := by omega
        clear hmem hat hix
        go_wp2_with fail
        refine (Calls.mono hIx.out ?_)
        rintro e w4 ⟨rfl, hb4⟩
        have Hst4 := Lib.hid (hst3.out.keep gH_one hb4)
        have f4 := frozen_at Hst4.out.box 5
        have e4 := heap_cell Hst4.out.box (i := 5) rfl
        clear hb4
        go_wp2_with (at_builtin; refine wpList_push rfl _ _ 22 rfl oI.ok Try.underlying22 infoI64 rfl Hst4.out.pls (T := []) (y := (ix : Int)) ⟨rfl, rfl⟩ (by simp) (by have := hpl.out; omega) (by have := hpl.out; unfold maxLen; omega) rfl rfl ?_; intro v9 w9 S9 ho9 hn9 hS9; obtain ⟨a9, n9, c9, rfl⟩ := ho9.isSlice; obtain ⟨hbx9, hst9⟩ := Hst4.out.pushP gH_one ho9 hn9 hS9; have f9 := frozen_at hbx9 5; have e9 := heap_cell hbx9 (i := 5) rfl; have Hst9 := Lib.hid hst9; clear hst9 ho9 hn9 hS9 hbx9)
        go_roundw
        case rel => exact ⟨k + 1, _, _, _, _, _, hs, by omega, by go_num, by
          have h := Hst9.out
          rw [show tabsTo id m lists k = tabsTo id m lists (k + 1) by unfold tabsTo; rw [hp1.out], ← hp2.out] at h
          exact Lib.hid h, by rw [hp1.out]; exact hsl, by rw [hp1.out, HNF.out]; exact hsr⟩
        case measure => simp [intOf]; omega
      · obtain ⟨hat, hp1, hp2⟩ := key_new hmem
        rw [hat] at hIx
        rw [HNd.out] at hp2
        have hp1 := Lib.hid hp1
        have hp2 := Lib.hid hp2
        have hm1 : ((-1 : Int) < 0) := by decide
        clear hmem hat
        go_wp2_with fail
        refine (Calls.mono hIx.out ?_)
        rintro e w4 ⟨rfl, hb4⟩
        have Hst4 := Lib.hid (hst3.out.keep gH_one hb4)
        have hlb4 := below_heap hb4 hlb.out
        have Hlb4 := Lib.hid hlb4
        have e4 := heap_cell hlb4 (i := 0) rfl
        have hlt4 := heap_lt hlb4
        have hbS : ∀ j ∈ S3, j ≠ W2.heap.size := fun j hj => by have := (Own.ok (leaf.ok gH_one)).lt hst.out.kn j hj; omega
        have HbS := Lib.hid hbS
        clear hb4 hlb4 hbS
        go_wp2_with (at_builtin; refine wpList_push rfl _ _ 38 rfl (leaf.ok gH_one) Try.underlying38 infoSl'' rfl Hst4.out.kn (T := []) (y := (a7, (nth lists k).length, c7)) ⟨rfl, rfl⟩ (by simp) (by have := hhl.out; omega) (by have := hhl.out; unfold maxLen; omega) rfl rfl ?_; intro v5 w5 S5 ho5 hn5 hS5; have Hst5 := Lib.hid (Hst4.out.pushK gH_one ho5 hn5 hS5); have Hlb5 := Lib.hid (Only.heap hn5 Hlb4.out (fun hm => HbS.out _ hm rfl)); obtain ⟨a5, n5, c5, rfl⟩ := ho5.isSlice; clear ho5 hn5 hS5)
        have hb5 := Hst5.out.size
        have hlt5 := heap_lt Hlb5.out
        have Hr5 := Lib.hid (RdI.ok.keep Hr8.out (w' := w5) fun j hj => Hst5.out.bel.block j (by have : j < B := hj; omega))
        have hbw5 := Lib.hid Hst5.out.bel
        have hsz5 := Hst5.out.bel.size
        have htn := Lib.hid (show tabsTo id m lists k ++ [tabOf m (nth lists k)] = tabsTo id m lists (k + 1) by unfold tabsTo; rw [hp1.out, List.map_append]; rfl)
        have hsr2 := Lib.hid (show ∀ j, j < (hs ++ [((a7, (nth lists k).length, c7) : Hdr)]).length → RdI (· < B) w (gH (nth (hs ++ [((a7, (nth lists k).length, c7) : Hdr)]) j)) (nth (ddTo lists k ++ [nth lists k]) j) from fun j hj => by
          by_cases hj2 : j < NF
          · rw [nth_append_left (by rw [HNF.out]; exact hj2), nth_append_left (by rw [HNd.out]; exact hj2)]
            exact hsr.out j hj2
          · have hje : j = NF := by rw [List.length_append, HNF.out] at hj; simp at hj; omega
            have e1 := nth_append_last hs ((a7, (nth lists k).length, c7) : Hdr)
            rw [HNF.out] at e1
            have e2 := nth_append_last (ddTo lists k) (nth lists k)
            rw [HNd.out] at e2
            rw [hje, e1, e2]
            exact Hr8.out)
        rw [← hp1.out] at hsr2
        have hsl2 := Lib.hid (show (hs ++ [((a7, (nth lists k).length, c7) : Hdr)]).length = (ddTo lists (k + 1)).length by rw [hp1.out, List.length_append, List.length_append, HNF.out, HNd.out]; rfl)
        clear hIx hFv hp1 e4 hlt4 hc7 hlb hb3 hst3 hst Hst4 Hlb4 HbS
        generalize nth lists k = xs at *
        go_loopw [14, 43] (fun tv sv wi => ∃ s : Nat, s ≤ m ∧ sv = .int .i64 s ∧ Hid (Fresh OII w5 wi tv (tabTo m xs s))) (fun _ sv _ => m - (intOf sv).toNat)
        case atStart => exact ⟨0, Nat.zero_le _, rfl, Lib.hid (Fresh.empty (Below.refl _ _))⟩
        case round =>
          obtain ⟨s, hs', rfl, hft⟩ := hrel
          obtain ⟨W6, rfl⟩ : ∃ W6, W6 = wr := ⟨_, rfl⟩
          have hz6 := hft.out.bel.size
          have e6 : W6.cell? ⟨W2.heap.size, 0, none⟩ = some (.slice a7 xs.length c7) := heap_cell (below_heap hft.out.bel Hlb5.out) (i := 0) rfl
          have hlt6 : W2.heap.size < W6.heap.size := by omega
          by_cases hsm : s < m
          · go_wp2
            go_loopw [16, 49] (fun rv jv wi => ∃ j : Nat, j ≤ xs.length ∧ jv = .int .i64 j ∧ Hid (Fresh OI W6 wi rv (rowTo m xs s j))) (fun _ jv _ => xs.length - (intOf jv).toNat)
            case atStart => exact ⟨0, Nat.zero_le _, rfl, Lib.hid (Fresh.empty (Below.refl _ _))⟩
            case round =>
              obtain ⟨j, hj, rfl, hg⟩ := hrel
              obtain ⟨W7, rfl⟩ : ∃ W7, W7 = wr := ⟨_, rfl⟩
              by_cases hjl : j < xs.length
              · have H7 := RdI.ok.keep Hr5.out (w' := W7) fun i hi => (hg.out.bel.block i (by have : i < B := hi; omega)).trans (hft.out.bel.block i (by have : i < B := hi; omega))
                obtain ⟨b3, o3, u3, rfl, _, hc3, rfl⟩ := Rd.elim H7 j hjl
                have hc : W7.cell? ⟨b3, o3 + j, none⟩ = some (.int .i64 (nth xs j)) := hc3
                have hxj := Hfb7.out j hjl
                have hs2 := Lib.hid (rowTo_succ (m := m) (s := s) hjl)
                have hln := Lib.hid (rowTo_len (m := m) (s := s) hj)
                clear hc3 H7 e6
                generalize nth xs j = z at *
                have g1 := Int.emod_nonneg ((s : Int) + z) (show (m : Int) ≠ 0 by omega)
                have g2 := Int.emod_lt_of_pos ((s : Int) + z) (show (0 : Int) < (m : Int) by omega)
                have t1 : Int.tmod ((s : Int) + z) (m : Int) = ((s : Int) + z) % (m : Int) := Int.tmod_eq_emod_of_nonneg (by omega)
                have t2 : wrap64 ((s : Int) + z) = (s : Int) + z := IntWalk.wrap64_in _ (by omega)
                have t3 : wrap64 (((s : Int) + z) % (m : Int)) = ((s : Int) + z) % (m : Int) := IntWalk.wrap64_in _ (by omega)
                have hm0 : ¬ m = 0 := by omega
                have hm1' : ¬ (m : Int) = 0 := by omega
                go_wp2_with (at_builtin; refine wpList_pushF rfl _ _ 22 rfl (f := fI) (fun _ => rfl) Try.underlying22 infoI64 rfl hg.out (((s : Int) + z) % (m : Int)) (by have := hln.out; omega) (by have := hln.out; unfold maxLen; omega) rfl rfl ?_; intro v1 w1 hf1; have Hf1 := Lib.hid hf1; clear hf1)
                go_roundw
                case rel => exact ⟨j + 1, by omega, by go_num, by rw [hs2.out]; exact Hf1⟩
                case measure => simp [intOf]; omega
              · obtain ⟨hje⟩ : Nonempty (j = xs.length) := ⟨by omega⟩
                have hg2 : Hid (Fresh OI W6 W7 _ (rowTo m xs s xs.length)) := Lib.hid (by rw [hje] at hg; exact hg.out)
                obtain ⟨S, T, p1, p2, p3, p4⟩ := pushRow OI.ok hft.out hg2.out
                have Hp1 := Lib.hid p1
                have Hp2 := Lib.hid p2
                have Hp3 := Lib.hid p3
                have Hp4 := Lib.hid p4
                have hln := Lib.hid (tabTo_len m xs s)
                have hs2 := Lib.hid (tabTo_succ m xs s)
                obtain ⟨av, nv, cv, rfl⟩ := p1.isSlice
                obtain ⟨a13, n13, c13, rfl⟩ := p2.isSlice
                clear p1 p2 p3 p4 hje hg hg2 e6
                go_wp2_with (at_builtin; refine wpList_push rfl _ _ 38 rfl OI.ok Try.underlying38 infoSl' rfl Hp1.out Hp2.out Hp3.out (by have := hln.out; omega) (by have := hln.out; unfold maxLen; omega) rfl rfl ?_; intro v1 w8 S8 hown1 honly1 hS8; have Hf5 := Lib.hid (Hp4.out v1 w8 S8 hown1 honly1 hS8); clear hown1 honly1 hS8)
                go_roundw
                case rel => exact ⟨s + 1, by omega, by go_num, by rw [hs2.out]; exact Hf5⟩
                case measure => simp [intOf]; omega
          · obtain ⟨hsm⟩ : Nonempty (s = m) := ⟨by omega⟩
            have hft2 : Hid (Fresh OII w5 W6 _ (tabOf m xs)) := Lib.hid (by rw [hsm] at hft; exact hft.out)
            have Hst6 := Lib.hid (Hst5.out.keep gH_one hft2.out.bel)
            obtain ⟨T7, hown7, hT7, _⟩ := hft2.out
            obtain ⟨a14, n14, c14, rfl⟩ := hown7.isSlice
            have Hown7 := Lib.hid hown7
            have hsl2' := OI.ok.lt Hst5.out.pls
            have hsl3' := (Own.ok (leaf.ok gH_one)).lt Hst5.out.kn
            have hsl1' := OIII.ok.lt Hst5.out.tabs
            have HT7 := Lib.hid (show ∀ j ∈ T7, w.heap.size + 1 < j ∧ j ∉ S2 ∧ j ∉ S5 from fun j hj => by have := hT7 j hj; exact ⟨by omega, fun hm => by have := hsl2' j hm; omega, fun hm => by have := hsl3' j hm; omega⟩)
            have hdis := Lib.hid (show ∀ j ∈ T7, j ∉ S1 from fun j hj hm => by have := hT7 j hj; have := hsl1' j hm; omega)
            have e4 := heap_cell Hst6.out.box (i := 4) rfl
            have f4 := frozen_at Hst6.out.box 4
            clear hown7 hT7 hsl1' hsl2' hsl3' hsm hft hft2 e6
            go_wp2_with (first
              | (at_builtin; refine wpList_push rfl _ _ 26 rfl OII.ok Try.underlying26 infoSl3' rfl Hst6.out.tabs Hown7.out hdis.out (by have := htl.out; omega) (by have := htl.out; unfold maxLen; omega) rfl rfl ?_; intro v8 w8 S8 ho8 hn8 hS8; obtain ⟨a12, n12, c12, rfl⟩ := ho8.isSlice; obtain ⟨hbx8, hst8⟩ := Hst6.out.pushT gH_one HT7.out ho8 hn8 hS8; have f8 := frozen_at hbx8 4; have e8 := heap_cell hbx8 (i := 4) rfl; have e8b := heap_cell hbx8 (i := 5) rfl; have Hst8 := Lib.hid hst8; clear hst8 ho8 hn8 hS8 hbx8)
              | (at_builtin; refine wpList_push rfl _ _ 22 rfl oI.ok Try.underlying22 infoI64 rfl Hst8.out.pls (T := []) (y := (NF : Int)) ⟨rfl, rfl⟩ (by simp) (by have := hpl.out; omega) (by have := hpl.out; unfold maxLen; omega) rfl (by rw [set_size7]; rfl) ?_; intro v9 w9 S9 ho9 hn9 hS9; obtain ⟨a9, n9, c9, rfl⟩ := ho9.isSlice; obtain ⟨hbx9, hst9⟩ := Hst8.out.pushP gH_one ho9 hn9 hS9; have f9 := frozen_at hbx9 5; have e9 := heap_cell hbx9 (i := 5) rfl; have Hst9 := Lib.hid hst9; clear hst9 ho9 hn9 hS9 hbx9))
            go_roundw
            case rel => exact ⟨k + 1, _, _, _, _, _, hs ++ [((a7, xs.length, c7) : Hdr)], by omega, by go_num, by
              have h := Hst9.out
              rw [htn.out, ← hp2.out] at h
              exact Lib.hid h, hsl2, hsr2⟩
            case measure => simp [intOf]; omega
    · obtain ⟨hkn⟩ : Nonempty (k = lists.length) := ⟨by have := HN.out; omega⟩
      obtain ⟨a8, n8, c8, rfl⟩ := hst.out.pls.isSlice
      obtain ⟨a10, n10, c10, rfl⟩ := hst.out.tabs.isSlice
      have d0 := heap_cell hst.out.box (i := 0) rfl
      have d1 := heap_cell hst.out.box (i := 1) rfl
      have d2 := heap_cell hst.out.box (i := 2) rfl
      have d3 := heap_cell hst.out.box (i := 3) rfl
      have d4 := heap_cell hst.out.box (i := 4) rfl
      have d5 := heap_cell hst.out.box (i := 5) rfl
      have z0 := heap_cell hst.out.zero (i := 0) rfl
      have z1 := heap_cell hst.out.zero (i := 1) rfl
      have z2 := heap_cell hst.out.zero (i := 2) rfl
      have z3 := heap_cell hst.out.zero (i := 3) rfl
      have z4 := heap_cell hst.out.zero (i := 4) rfl
      have z5 := heap_cell hst.out.zero (i := 5) rfl
      have f0 := frozen_at hst.out.zero 0
      have f1 := frozen_at hst.out.zero 1
      have f2 := frozen_at hst.out.zero 2
      have f3 := frozen_at hst.out.zero 3
      have f4 := frozen_at hst.out.zero 4
      have f5 := frozen_at hst.out.zero 5
      have hx := Lib.hid (show addC lists id NB m TG = ⟨NB, m, 0, TG, tabsTo id m lists k, plTo lists k⟩ by rw [hkn]; rfl)
      clear hkn
      go_wp2
      refine bodyPost_ret (v := .agg #[.int .i64 NB, .int .i64 m, .int .i64 0, .int .i64 TG, .slice a10 n10 c10, .slice a8 n8 c8]) (by simp [results, Try.results72, go_sem, z0, z1, z2, z3, z4, z5]) rfl ⟨_, rfl, hst.out.done gH_one (by repeat' (first | with_reducible exact Only.refl _ _ | with_reducible refine Only.put ?_ ?_ _ _ | (simp; done))) hx.out⟩
end Go.Proofs.Ytnpkanlieflbiaa
/- The chain of a weighting, walked (the program), and WeightChain on both sides. -/
namespace Go.Proofs.Ytnpkanlieflbiaa
open Go.RowKit
set_option linter.unusedVariables false

theorem wl_snoc (NB : Nat) (ws : List Int) {k : Nat} (h : k < ws.length) : (ws.take (k + 1)).map (weighL NB) = (ws.take k).map (weighL NB) ++ [weighL NB (nth ws k)] := by rw [take_nth h, List.map_append]; rfl
theorem wl_bd {NB : Nat} (hb : NB ≤ 36) {wt : Int} (h0 : 0 ≤ wt) (h1 : wt ≤ 36) : ∀ j, j < (weighL NB wt).length → 0 ≤ nth (weighL NB wt) j ∧ nth (weighL NB wt) j ≤ 2000 := fun j hj => by
  rw [weighL_len] at hj
  rw [weighL_at wt hj]
  have := prodFacts (wt := wt) (d := (j : Int)) (m := 1) h0 h1 (by omega) (by omega) (by omega)
  omega

set_option maxHeartbeats 3200000 in
set_option maxRecDepth 100000 in
theorem implWChain {P : Nat → Prop} {bx : Nat} {x : Wgt} {w : World} (h : BoxW P w bx x) (hP : ∀ k, P k → k < w.heap.size) (hbx : bx < w.heap.size) (hv : VW x) :
    Calls Try.prog 62 #[.pointer (some ⟨bx, 0, none⟩)] w fun e w' => ∃ v', e = .returned v' ∧ Fresh OC w w' v' (wchn x) := by
  have hba := hv.base
  have hmo := hv.modulus
  have hta := hv.target
  have hln := hv.len
  have hwt := Lib.hid hv.weight
  obtain ⟨NB, hNB⟩ : ∃ n : Nat, n = x.base.toNat := ⟨_, rfl⟩
  obtain ⟨NM, hNM⟩ : ∃ n : Nat, n = x.modulus.toNat := ⟨_, rfl⟩
  obtain ⟨NT, hNT⟩ : ∃ n : Nat, n = x.target.toNat := ⟨_, rfl⟩
  have eb : x.base = (NB : Int) := by omega
  have em : x.modulus = (NM : Int) := by omega
  have et : x.target = (NT : Int) := by omega
  have hx := Lib.hid (show wchn x = addC (x.weights.map (weighL NB)) id NB NM NT by rw [hNB, hNM, hNT]; exact (weigh_chain (by omega) _ _ _).symm)
  obtain ⟨a, c, g0, g1, g2, g3, hu, k1, k2⟩ := h.cells
  rw [eb] at g0 hba
  rw [em] at g1 hmo
  rw [et] at g2 hta
  rw [em] at hta
  have hwt2 := Lib.hid (show ∀ k, k < x.weights.length → 0 ≤ nth x.weights k ∧ nth x.weights k < (NM : Int) from fun k hk => by have := hwt.out k hk; omega)
  have Hu := Lib.hid hu
  have HP := Lib.hid hP
  unfold maxLen at k2
  obtain ⟨NW, hNW⟩ : ∃ n, n = x.weights.length := ⟨_, rfl⟩
  rw [← hNW] at g3 Hu k1 hln hwt2
  have HNW := Lib.hid hNW
  clear hwt hNB hNM hNT eb em et h hv hu hP hNW
  obtain ⟨w1, hw1⟩ : ∃ w1, w1 = w.alloc (.cells #[.int .i64 0, .int .i64 0, .int .i64 0, .int .i64 0, .slice none 0 0, .slice none 0 0] 28) := ⟨_, rfl⟩
  have Hz1 := Lib.hid (show w1.heap[w.heap.size]? = some (.cells #[.int .i64 0, .int .i64 0, .int .i64 0, .int .i64 0, .slice none 0 0, .slice none 0 0] 28 (0, 0)) by rw [hw1]; exact heap_alloc_new w _)
  have Hs1 := Lib.hid (show w1.heap.size = w.heap.size + 1 by rw [hw1]; simp)
  have Hb1 := Lib.hid (show Below w.heap.size w w1 by rw [hw1]; exact (Below.refl _ _).alloc (Nat.le_refl _) _)
  have Hw1 := Lib.hid hw1
  have h1c3 : w1.cell? ⟨bx, 3, none⟩ = some (.slice a NW c) := (Hb1.out.cell (p := ⟨bx, 3, none⟩) hbx).trans g3
  have hbx1 : bx < w1.heap.size := by have := Hs1.out; omega
  have hsz1 : w.heap.size < w1.heap.size := by have := Hs1.out; omega
  have Hf0 := Lib.hid (show Fresh OII w1 (w1.alloc (.cells #[] 22)) (.slice (some ⟨w1.heap.size, 0, none⟩) 0 0) [] from Fresh.empty (Below.refl w1.heap.size w1))
  rw [Hs1.out] at Hf0
  clear hw1
  go_enter Try.func62, Try.ntmps62
  go_wp2_with fail
  rw [← Hw1.out]
  go_loopw [3, 12] (fun lv iv wr => ∃ k : Nat, k ≤ NW ∧ iv = .int .i64 k ∧ Hid (Fresh OII w1 wr lv ((x.weights.take k).map (weighL NB)))) (fun _ iv _ => NW - (intOf iv).toNat)
  case atStart => exact ⟨0, Nat.zero_le _, rfl, Hf0⟩
  case round =>
    clear Hf0
    obtain ⟨k, hk, rfl, hf⟩ := hrel
    obtain ⟨W2, rfl⟩ : ∃ W2, W2 = wr := ⟨_, rfl⟩
    have Hbw := Lib.hid (show Below w.heap.size w W2 from Hb1.out.trans (hf.out.bel.mono (by omega)))
    have hc0 : W2.cell? ⟨bx, 0, none⟩ = some (.int .i64 NB) := (Hbw.out.cell (p := ⟨bx, 0, none⟩) hbx).trans g0
    have hc1 : W2.cell? ⟨bx, 1, none⟩ = some (.int .i64 NM) := (Hbw.out.cell (p := ⟨bx, 1, none⟩) hbx).trans g1
    have hc2 : W2.cell? ⟨bx, 2, none⟩ = some (.int .i64 NT) := (Hbw.out.cell (p := ⟨bx, 2, none⟩) hbx).trans g2
    by_cases hlt : k < NW
    · have hlw : k < x.weights.length := by have := HNW.out; omega
      obtain ⟨hw0, hw36⟩ := hwt2.out k hlt
      obtain ⟨b3, o3, u3, rfl, hP3, hc4, rfl⟩ := Rd.elim Hu.out k hlw
      have hc5 : W2.cell? ⟨b3, o3 + k, none⟩ = some (.int .i64 (nth x.weights k)) := (Hbw.out.cell (p := ⟨b3, o3 + k, none⟩) (HP.out b3 hP3)).trans hc4
      have ho := Lib.hid (wl_snoc NB x.weights hlw)
      have hlk := Lib.hid (show ((x.weights.take k).map (weighL NB)).length ≤ 20 by simp; omega)
      clear hc4
      generalize nth x.weights k = wt at *
      have hcl := Lib.hid (implWeighed NB (by omega) wt hw0 (by omega) W2)
      go_wp2_with fail
      refine (Calls.mono hcl.out ?_)
      rintro e w3 ⟨v7, rfl, hf7⟩
      obtain ⟨S, T, p1, p2, p3, p4⟩ := pushRow OI.ok hf.out hf7
      have Hp1 := Lib.hid p1
      have Hp2 := Lib.hid p2
      have Hp3 := Lib.hid p3
      have Hp4 := Lib.hid p4
      obtain ⟨av, nv, cv, rfl⟩ := p1.isSlice
      obtain ⟨a13, n13, c13, rfl⟩ := p2.isSlice
      clear p1 p2 p3 p4 hf7
      go_wp2_with (at_builtin; refine wpList_push rfl _ _ 38 rfl OI.ok Try.underlying38 infoSl' rfl Hp1.out Hp2.out Hp3.out (by have := hlk.out; omega) (by have := hlk.out; unfold maxLen; omega) rfl rfl ?_; intro v1 w8 S8 hown1 honly1 hS8; have Hf5 := Lib.hid (Hp4.out v1 w8 S8 hown1 honly1 hS8); clear hown1 honly1 hS8)
      go_roundw
      case rel => exact ⟨k + 1, by omega, by go_num, by rw [ho.out]; exact Hf5⟩
      case measure => simp [intOf]; omega
    · obtain ⟨hkn⟩ : Nonempty (k = x.weights.length) := ⟨by have := HNW.out; omega⟩
      rw [hkn, List.take_length] at hf
      have hrk : RdII (· < W2.heap.size) W2 _ (x.weights.map (weighL NB)) := hf.out.rd OII.leads OII.ok
      obtain ⟨a5, n5, c5, rfl⟩ := hf.out.choose_spec.1.isSlice
      have hlen : (x.weights.map (weighL NB)).length ≤ 20 := by simp; have := HNW.out; omega
      have hfb : ∀ i, i < (x.weights.map (weighL NB)).length → (nth (x.weights.map (weighL NB)) i).length ≤ 36 ∧ ∀ j, j < (nth (x.weights.map (weighL NB)) i).length → 0 ≤ nth (nth (x.weights.map (weighL NB)) i) j ∧ nth (nth (x.weights.map (weighL NB)) i) j ≤ 2000 := fun i hi => by
        have hi2 : i < x.weights.length := by simpa using hi
        rw [nth_map hi2]
        have := hwt2.out i (by have := HNW.out; omega)
        exact ⟨by rw [weighL_len]; omega, wl_bd (by omega) this.1 (by omega)⟩
      have hcl : Hid (∀ q, Calls Try.prog 72 #[.int .i64 NB, .int .i64 NM, .int .i64 NT, .slice a5 n5 c5] (W2.drewN q) fun e w' => ∃ u p, e = .returned (.agg #[.int .i64 NB, .int .i64 NM, .int .i64 0, .int .i64 NT, u, p]) ∧ (∃ a b c d e f, u = .slice a b c ∧ p = .slice d e f) ∧ Fresh OC W2 w' (.agg #[.int .i64 NB, .int .i64 NM, .int .i64 0, .int .i64 NT, u, p]) (wchn x)) := Lib.hid fun q => by
        refine (implAdding (w := W2.drewN q) (RdII.ok.keep hrk fun _ _ => rfl) (Nat.le_refl _) NB NM NT hlen (by omega) hfb).mono ?_
        rintro e w3 ⟨v7, rfl, S, ⟨u, p, Sa, Sb, rfl, ot, op, eS, hSS⟩, hS, hb⟩
        refine ⟨u, p, rfl, ?_, ?_⟩
        · obtain ⟨a, b, c, rfl⟩ := ot.isSlice
          obtain ⟨d, e, f, rfl⟩ := op.isSlice
          exact ⟨a, b, c, d, e, f, rfl, rfl⟩
        · rw [hx.out]
          exact ⟨S, ⟨u, p, Sa, Sb, rfl, ot, op, eS, hSS⟩, hS, ⟨hb.os, hb.tape, hb.output, hb.size, hb.block⟩⟩
      have Hz2 := Lib.hid (below_heap hf.out.bel Hz1.out)
      have hS0 : W2.drew.cell? ⟨bx, 0, none⟩ = some (.int .i64 NB) ∧ W2.drew.cell? ⟨bx, 1, none⟩ = some (.int .i64 NM) ∧ W2.drew.cell? ⟨bx, 2, none⟩ = some (.int .i64 NT) := ⟨hc0, hc1, hc2⟩
      have hz2 : w.heap.size < W2.heap.size := heap_lt Hz2.out
      clear hrk hlen hfb hkn hf
      go_wp2
      refine wp_region_float 13 (fun w' => w'.cell? ⟨bx, 0, none⟩ = some (.int .i64 NB) ∧ w'.cell? ⟨bx, 1, none⟩ = some (.int .i64 NM) ∧ w'.cell? ⟨bx, 2, none⟩ = some (.int .i64 NT)) (by kernel_rfl) (by kernel_rfl) hS0 ?_
      clear hS0
      intro hS0
      simp only [List.take_succ_cons, List.take_zero, List.drop_succ_cons, List.drop_zero]
      iterate 13 (refine wpReads_cons _ (by rfl) (by intro w' hSw; (try dsimp only at hSw); go_simp; try (with_reducible rfl)) ?_; try simp only [Act.put, List.setIfInBounds_toArray, List.set_cons_zero, List.set_cons_succ])
      refine wpReads_nil ?_
      refine wpTail_cons fun K hK => ?_
      go_simp
      refine (Calls.mono (hcl.out _) ?_)
      rintro e w6 ⟨u, p, rfl, ⟨a7, n7, c7, a8, n8, c8, rfl, rfl⟩, hf⟩
      have hz6 := below_heap hf.bel Hz2.out
      have z0 := heap_cell hz6 (i := 0) rfl
      have z1 := heap_cell hz6 (i := 1) rfl
      have z2 := heap_cell hz6 (i := 2) rfl
      have z3 := heap_cell hz6 (i := 3) rfl
      have z4 := heap_cell hz6 (i := 4) rfl
      have z5 := heap_cell hz6 (i := 5) rfl
      have f0 := frozen_at hz6 0
      have f1 := frozen_at hz6 1
      have f2 := frozen_at hz6 2
      have f3 := frozen_at hz6 3
      have f4 := frozen_at hz6 4
      have f5 := frozen_at hz6 5
      have Hf := Lib.hid hf
      have hcb : w6.cell? ⟨bx, 0, none⟩ = some (.int .i64 NB) ∧ w6.cell? ⟨bx, 1, none⟩ = some (.int .i64 NM) ∧ w6.cell? ⟨bx, 2, none⟩ = some (.int .i64 NT) := ⟨(hf.bel.cell (p := ⟨bx, 0, none⟩) (by show bx < _; omega)).trans hc0, (hf.bel.cell (p := ⟨bx, 1, none⟩) (by show bx < _; omega)).trans hc1, (hf.bel.cell (p := ⟨bx, 2, none⟩) (by show bx < _; omega)).trans hc2⟩
      clear hf hz6
      refine hK.out _ _ hcb ?_
      clear hK K hS0 hcb
      try simp only [Act.put, List.setIfInBounds_toArray, List.set_cons_zero, List.set_cons_succ]
      refine wpTail_one ?_
      go_wp2_with fail
      refine NoPanic.normal ?_
      go_wp2
      refine bodyPost_ret (v := .agg #[.int .i64 NB, .int .i64 NM, .int .i64 0, .int .i64 NT, .slice a7 n7 c7, .slice a8 n8 c8]) (by simp [results, Try.results62, go_sem, z0, z1, z2, z3, z4, z5]) rfl ⟨_, rfl, Fresh.turned OC.ok Hf.out Hbw.out hz2 (by repeat' (first | with_reducible exact Only.refl _ _ | with_reducible refine Only.put ?_ ?_ _ _ | (simp; done)))⟩
end Go.Proofs.Ytnpkanlieflbiaa
/- WeightChain and PermutingChain, both sides. Printed by gen_y9.py. -/
namespace Go.Proofs.Ytnpkanlieflbiaa
open Go.RowKit
set_option linter.unusedVariables false

def wcV (x : Wgt) : Chn := if vW x then wchn x else Chn.nil
theorem wcV_no {x : Wgt} (h : vW x = false) : wcV x = Chn.nil := by simp [wcV, h]
theorem wcV_yes {x : Wgt} (h : vW x = true) : wcV x = wchn x := by simp [wcV, h]
def pchn (x : Prm) : Chn := addC x.orders id x.base.toNat x.base.toNat x.target.toNat
def pcV (x : Prm) : Chn := if vP x then pchn x else Chn.nil
theorem pcV_no {x : Prm} (h : vP x = false) : pcV x = Chn.nil := by simp [pcV, h]
theorem pcV_yes {x : Prm} (h : vP x = true) : pcV x = pchn x := by simp [pcV, h]
structure VPx (x : Prm) : Prop where
  base : 2 ≤ x.base ∧ x.base ≤ 36
  target : 0 ≤ x.target ∧ x.target < x.base
  len : 1 ≤ x.orders.length ∧ x.orders.length ≤ 20
  row : ∀ i, i < x.orders.length → ((nth x.orders i).length : Int) = x.base ∧ Closed (nth x.orders i)
theorem vP_ok {x : Prm} (h : vP x = true) : VPx x := by
  simp only [vP, Bool.and_eq_true, many_parts, inB_true] at h
  obtain ⟨⟨h1, h2, _⟩, h3, h4⟩ := h
  refine ⟨h1, by omega, by omega, fun i hi => ?_⟩
  have := allB_iff.1 h4 i hi
  simp only [ordOk, Bool.and_eq_true, decide_eq_true_eq] at this
  exact ⟨this.1, isOrd_closed this.2⟩
theorem szC_addC {keys : List (List Int)} {f : List Int → List Int} {NB m TG : Nat} (hk : keys.length ≤ 20) (hm : m ≤ 36) (hf : ∀ l ∈ keys, (f l).length ≤ 36) : szC (addC keys f NB m TG) ≤ 30000 := by
  have h1 : ∀ l ∈ keys, szL List.length (tabOf m (f l)) ≤ 1332 := fun l hl => by
    have h2 := hf l hl
    have h3 : cntL List.length (tabOf m (f l)) ≤ (tabOf m (f l)).length * 36 := cntL_le fun c hc => by
      obtain ⟨s, _, rfl⟩ := List.mem_map.1 hc
      simpa using h2
    rw [szL_eq]
    rw [tabOf_len] at h3 ⊢
    omega
  have h4 := ddTo_len keys keys.length
  have h5 : cntL (szL List.length) ((ddTo keys keys.length).map fun l => tabOf m (f l)) ≤ ((ddTo keys keys.length).map fun l => tabOf m (f l)).length * 1332 := cntL_le fun c hc => by
    obtain ⟨l, hl, rfl⟩ := List.mem_map.1 hc
    exact h1 l (ddTo_sub keys keys.length (Nat.le_refl _) l hl)
  rw [List.length_map] at h5
  have h6 := plTo_len keys keys.length
  show szL (szL List.length) ((ddTo keys keys.length).map fun l => tabOf m (f l)) + (plTo keys keys.length).length ≤ _
  rw [szL_eq, List.length_map, h6]
  omega
theorem wchn_sz {x : Wgt} (h : VW x) : szC (wchn x) ≤ 30000 := szC_addC (by have := h.len; simp; omega) (by have := h.modulus; omega) (fun l hl => by rw [addsL_len]; have := h.base; omega)
theorem pchn_sz {x : Prm} (h : VPx x) : szC (pchn x) ≤ 30000 := szC_addC h.len.2 (by have := h.base; omega) (fun l hl => by
  obtain ⟨i, hi, rfl⟩ := List.mem_iff_getElem.1 hl
  have := (h.row i hi).1
  have := h.base
  rw [nth_eq hi] at *
  simp only [id]
  omega)
theorem wcV_cnt (x : Wgt) : cntC (wcV x) ≤ 30000 := by
  cases h : vW x
  · rw [wcV_no h]; decide
  · rw [wcV_yes h]; exact Nat.le_trans (cnt_le_szC _) (wchn_sz (vW_iff.1 h))
theorem pcV_cnt (x : Prm) : cntC (pcV x) ≤ 30000 := by
  cases h : vP x
  · rw [pcV_no h]; decide
  · rw [pcV_yes h]; exact Nat.le_trans (cnt_le_szC _) (pchn_sz (vP_ok h))
set_option maxHeartbeats 1600000 in
set_option maxRecDepth 100000 in
theorem specWeightChain {B : Nat} {v : Value} {x : Wgt} {w : World} (h : RdW (· < B) w v x) (hB : B ≤ w.heap.size) (hn : szW x ≤ 1048576) :
    Calls Try.prog 14 #[v] w fun e w' => ∃ v', e = .returned (.tuple #[v', .bool (vW x)]) ∧ Fresh OC w w' v' (wcV x) := by
  have Hr := Lib.hid h
  obtain ⟨u, rfl, hu⟩ := h
  obtain ⟨a, c, rfl, h1, h2⟩ := hu.isSlice
  have Hbx := Lib.hid (BoxW.boxed hu hB); have Hu := Lib.hid hu; clear hu
  unfold maxLen at h2
  have H2 := Lib.hid (two w (.cells #[.int .i64 x.base, .int .i64 x.modulus, .int .i64 x.target, .slice a x.weights.length c] 31) (.cells #[.int .i64 0, .int .i64 0, .int .i64 0, .int .i64 0, .slice none 0 0, .slice none 0 0] 28))
  unfold aggW
  have HI : Hid (∀ b, vW x = b → Calls Try.prog 58 #[.pointer (some ⟨w.heap.size, 0, none⟩)] ((w.alloc (.cells #[.int .i64 x.base, .int .i64 x.modulus, .int .i64 x.target, .slice a x.weights.length c] 31)).alloc (.cells #[.int .i64 0, .int .i64 0, .int .i64 0, .int .i64 0, .slice none 0 0, .slice none 0 0] 28)) fun e w1 => e = .returned (.bool b) ∧ w1.heap[w.heap.size]? = some (.cells #[.int .i64 x.base, .int .i64 x.modulus, .int .i64 x.target, .slice a x.weights.length c] 31 (0, 0)) ∧ w1.heap[w.heap.size + 1]? = some (.cells #[.int .i64 0, .int .i64 0, .int .i64 0, .int .i64 0, .slice none 0 0, .slice none 0 0] 28 (0, 0)) ∧ w.heap.size + 1 < w1.heap.size ∧ Below w.heap.size w w1) := Lib.hid fun b hb => by
    refine (specL03Is (Hbx.out.keep (w' := _) fun k hk => ?hb) hn _ hb).mono ?_
    case hb => exact (Below.heap_alloc _ _ _ (by simp; omega))
    rintro e w1 ⟨rfl, m, rfl⟩
    exact ⟨rfl, H2.out.1, H2.out.2.1, (by show _ < ((w.alloc _).alloc _).heap.size; rw [H2.out.2.2.1]; omega), Below.draws H2.out.2.2.2 m⟩
  clear Hbx H2
  cases hv : vW x
  · have hm := Lib.hid (wcV_no hv)
    have Hv := Lib.hid hv; clear hv
    go_enter Try.func14, Try.ntmps14
    go_wp2_with fail
    refine (HI.out _ Hv.out).mono ?_
    rintro e w1 ⟨rfl, hb1, hb2, hs1, Hbel⟩
    have z0 := heap_cell hb2 (i := 0) rfl
    have z1 := heap_cell hb2 (i := 1) rfl
    have z2 := heap_cell hb2 (i := 2) rfl
    have z3 := heap_cell hb2 (i := 3) rfl
    have z4 := heap_cell hb2 (i := 4) rfl
    have z5 := heap_cell hb2 (i := 5) rfl
    have f0 := frozen_at hb2 0
    have f1 := frozen_at hb2 1
    have f2 := frozen_at hb2 2
    have f3 := frozen_at hb2 3
    have f4 := frozen_at hb2 4
    have f5 := frozen_at hb2 5
    have d0 := heap_cell hb1 (i := 0) rfl
    have Hbel := Lib.hid Hbel
    clear hb1 hb2
    go_wp2
    refine bodyPost_ret (v := .tuple #[aggC Chn.nil (.slice none 0 0) (.slice none 0 0), .bool false]) (by simp [results, Try.results14, go_sem, aggC, Chn.nil, z0, z1, z2, z3, z4, z5]) rfl ⟨_, rfl, ?_⟩
    rw [hm.out]
    refine ⟨[], ⟨_, _, [], [], rfl, own_nil _, own_nil _, rfl, by simp⟩, by simp, ?_⟩
    refine Below.trans Hbel.out ?_
    repeat' (first | with_reducible exact Below.refl _ _ | with_reducible refine Below.alloc ?_ ?_ _ | with_reducible refine Below.setCell ?_ ?_ _ | with_reducible refine Below.drew ?_ | with_reducible refine Below.draws ?_ _ | omega | (simp; done) | (simp; omega))
  · have hm := Lib.hid (wcV_yes hv)
    have hvw := Lib.hid (vW_iff.1 hv)
    have Hv := Lib.hid hv; clear hv
    go_enter Try.func14, Try.ntmps14
    go_wp2_with fail
    refine (HI.out _ Hv.out).mono ?_
    rintro e w1 ⟨rfl, hb1, hb2, hs1, Hbel⟩
    have hbx1 : BoxW (· < B) w1 w.heap.size x := ⟨_, hb1, RdI.ok.keep Hu.out fun k hk => Hbel.block k (by omega)⟩
    have hcl := Lib.hid (specL03Weights hbx1 (fun k hk => by have : k < B := hk; omega) (by omega) hvw.out)
    clear hbx1
    have Hb2 := Lib.hid hb2
    have Hbel := Lib.hid Hbel
    clear hb1 hb2
    go_wp2_with fail
    refine (Calls.mono hcl.out ?_)
    rintro e w4 ⟨v', rfl, hf⟩
    obtain ⟨u, p, rfl, a7, n7, c7, a8, n8, c8, rfl, rfl⟩ := hf.aggC
    have hz6 := below_heap hf.bel Hb2.out
    have z0 := heap_cell hz6 (i := 0) rfl
    have z1 := heap_cell hz6 (i := 1) rfl
    have z2 := heap_cell hz6 (i := 2) rfl
    have z3 := heap_cell hz6 (i := 3) rfl
    have z4 := heap_cell hz6 (i := 4) rfl
    have z5 := heap_cell hz6 (i := 5) rfl
    have f0 := frozen_at hz6 0
    have f1 := frozen_at hz6 1
    have f2 := frozen_at hz6 2
    have f3 := frozen_at hz6 3
    have f4 := frozen_at hz6 4
    have f5 := frozen_at hz6 5
    have Hf := Lib.hid hf
    clear hf hz6
    go_wp2
    refine bodyPost_ret (v := .tuple #[.agg #[.int .i64 (wchn x).base, .int .i64 (wchn x).states, .int .i64 (wchn x).start, .int .i64 (wchn x).stop, .slice a7 n7 c7, .slice a8 n8 c8], .bool true]) (by simp [results, Try.results14, go_sem, z0, z1, z2, z3, z4, z5]) rfl ⟨_, rfl, by rw [hm.out]; exact Fresh.turnedAt (b := w.heap.size + 1) OC.ok Hf.out Hbel.out (by omega) hs1 (by repeat' (first | with_reducible exact Only.refl _ _ | with_reducible refine Only.put ?_ ?_ _ _ | (simp; done)))⟩

set_option maxHeartbeats 1600000 in
set_option maxRecDepth 100000 in
theorem implWeightChain {B : Nat} {v : Value} {x : Wgt} {w : World} (h : RdW (· < B) w v x) (hB : B ≤ w.heap.size) (hn : szW x ≤ 1048576) :
    Calls Try.prog 16 #[v] w fun e w' => ∃ v', e = .returned (.tuple #[v', .bool (vW x)]) ∧ Fresh OC w w' v' (wcV x) := by
  have Hr := Lib.hid h
  obtain ⟨u, rfl, hu⟩ := h
  obtain ⟨a, c, rfl, h1, h2⟩ := hu.isSlice
  have Hbx := Lib.hid (BoxW.boxed hu hB); have Hu := Lib.hid hu; clear hu
  unfold maxLen at h2
  have H2 := Lib.hid (two w (.cells #[.int .i64 x.base, .int .i64 x.modulus, .int .i64 x.target, .slice a x.weights.length c] 31) (.cells #[.int .i64 0, .int .i64 0, .int .i64 0, .int .i64 0, .slice none 0 0, .slice none 0 0] 28))
  unfold aggW
  have HI : Hid (∀ b, vW x = b → Calls Try.prog 61 #[.agg #[.int .i64 x.base, .int .i64 x.modulus, .int .i64 x.target, .slice a x.weights.length c]] ((w.alloc (.cells #[.int .i64 x.base, .int .i64 x.modulus, .int .i64 x.target, .slice a x.weights.length c] 31)).alloc (.cells #[.int .i64 0, .int .i64 0, .int .i64 0, .int .i64 0, .slice none 0 0, .slice none 0 0] 28)) fun e w1 => e = .returned (.bool b) ∧ w1.heap[w.heap.size]? = some (.cells #[.int .i64 x.base, .int .i64 x.modulus, .int .i64 x.target, .slice a x.weights.length c] 31 (0, 0)) ∧ w1.heap[w.heap.size + 1]? = some (.cells #[.int .i64 0, .int .i64 0, .int .i64 0, .int .i64 0, .slice none 0 0, .slice none 0 0] 28 (0, 0)) ∧ w.heap.size + 1 < w1.heap.size ∧ Below w.heap.size w w1) := Lib.hid fun b hb => by
    refine (implValidWeighting (Rd.below RdW.ok Hr.out (H2.out.2.2.2.mono hB)) (by rw [H2.out.2.2.1]; omega) hn _ hb).mono ?_
    rintro e w1 ⟨rfl, hb⟩
    exact ⟨rfl, below_heap hb H2.out.1, below_heap hb H2.out.2.1, heap_lt (below_heap hb H2.out.2.1), H2.out.2.2.2.trans (hb.mono (by rw [H2.out.2.2.1]; omega))⟩
  clear Hbx H2
  cases hv : vW x
  · have hm := Lib.hid (wcV_no hv)
    have Hv := Lib.hid hv; clear hv
    go_enter Try.func16, Try.ntmps16
    go_wp2_with fail
    refine (HI.out _ Hv.out).mono ?_
    rintro e w1 ⟨rfl, hb1, hb2, hs1, Hbel⟩
    have z0 := heap_cell hb2 (i := 0) rfl
    have z1 := heap_cell hb2 (i := 1) rfl
    have z2 := heap_cell hb2 (i := 2) rfl
    have z3 := heap_cell hb2 (i := 3) rfl
    have z4 := heap_cell hb2 (i := 4) rfl
    have z5 := heap_cell hb2 (i := 5) rfl
    have f0 := frozen_at hb2 0
    have f1 := frozen_at hb2 1
    have f2 := frozen_at hb2 2
    have f3 := frozen_at hb2 3
    have f4 := frozen_at hb2 4
    have f5 := frozen_at hb2 5
    have d0 := heap_cell hb1 (i := 0) rfl
    have Hbel := Lib.hid Hbel
    clear hb1 hb2
    go_wp2
    refine bodyPost_ret (v := .tuple #[aggC Chn.nil (.slice none 0 0) (.slice none 0 0), .bool false]) (by simp [results, Try.results16, go_sem, aggC, Chn.nil, z0, z1, z2, z3, z4, z5]) rfl ⟨_, rfl, ?_⟩
    rw [hm.out]
    refine ⟨[], ⟨_, _, [], [], rfl, own_nil _, own_nil _, rfl, by simp⟩, by simp, ?_⟩
    refine Below.trans Hbel.out ?_
    repeat' (first | with_reducible exact Below.refl _ _ | with_reducible refine Below.alloc ?_ ?_ _ | with_reducible refine Below.setCell ?_ ?_ _ | with_reducible refine Below.drew ?_ | with_reducible refine Below.draws ?_ _ | omega | (simp; done) | (simp; omega))
  · have hm := Lib.hid (wcV_yes hv)
    have hvw := Lib.hid (vW_iff.1 hv)
    have Hv := Lib.hid hv; clear hv
    go_enter Try.func16, Try.ntmps16
    go_wp2_with fail
    refine (HI.out _ Hv.out).mono ?_
    rintro e w1 ⟨rfl, hb1, hb2, hs1, Hbel⟩
    have hbx1 : BoxW (· < B) w1 w.heap.size x := ⟨_, hb1, RdI.ok.keep Hu.out fun k hk => Hbel.block k (by omega)⟩
    have hcl := Lib.hid (implWChain hbx1 (fun k hk => by have : k < B := hk; omega) (by omega) hvw.out)
    clear hbx1
    have Hb2 := Lib.hid hb2
    have Hbel := Lib.hid Hbel
    clear hb1 hb2
    go_wp2_with fail
    refine (Calls.mono hcl.out ?_)
    rintro e w4 ⟨v', rfl, hf⟩
    obtain ⟨u, p, rfl, a7, n7, c7, a8, n8, c8, rfl, rfl⟩ := hf.aggC
    have hz6 := below_heap hf.bel Hb2.out
    have z0 := heap_cell hz6 (i := 0) rfl
    have z1 := heap_cell hz6 (i := 1) rfl
    have z2 := heap_cell hz6 (i := 2) rfl
    have z3 := heap_cell hz6 (i := 3) rfl
    have z4 := heap_cell hz6 (i := 4) rfl
    have z5 := heap_cell hz6 (i := 5) rfl
    have f0 := frozen_at hz6 0
    have f1 := frozen_at hz6 1
    have f2 := frozen_at hz6 2
    have f3 := frozen_at hz6 3
    have f4 := frozen_at hz6 4
    have f5 := frozen_at hz6 5
    have Hf := Lib.hid hf
    clear hf hz6
    go_wp2
    refine bodyPost_ret (v := .tuple #[.agg #[.int .i64 (wchn x).base, .int .i64 (wchn x).states, .int .i64 (wchn x).start, .int .i64 (wchn x).stop, .slice a7 n7 c7, .slice a8 n8 c8], .bool true]) (by simp [results, Try.results16, go_sem, z0, z1, z2, z3, z4, z5]) rfl ⟨_, rfl, by rw [hm.out]; exact Fresh.turnedAt (b := w.heap.size + 1) OC.ok Hf.out Hbel.out (by omega) hs1 (by repeat' (first | with_reducible exact Only.refl _ _ | with_reducible refine Only.put ?_ ?_ _ _ | (simp; done)))⟩

set_option maxHeartbeats 1600000 in
set_option maxRecDepth 100000 in
theorem specPermutingChain {B : Nat} {v : Value} {x : Prm} {w : World} (h : RdP (· < B) w v x) (hB : B ≤ w.heap.size) (hn : szP x ≤ 1048576) :
    Calls Try.prog 23 #[v] w fun e w' => ∃ v', e = .returned (.tuple #[v', .bool (vP x)]) ∧ Fresh OC w w' v' (pcV x) := by
  have Hr := Lib.hid h
  obtain ⟨u, rfl, hu⟩ := h
  obtain ⟨a, c, rfl, h1, h2⟩ := hu.isSlice
  have Hbx := Lib.hid (BoxP.boxed hu hB); have Hu := Lib.hid hu; clear hu
  unfold maxLen at h2
  have H2 := Lib.hid (two w (.cells #[.int .i64 x.base, .int .i64 x.target, .slice a x.orders.length c] 43) (.cells #[.int .i64 0, .int .i64 0, .int .i64 0, .int .i64 0, .slice none 0 0, .slice none 0 0] 28))
  unfold aggP
  have HI : Hid (∀ b, vP x = b → Calls Try.prog 69 #[.pointer (some ⟨w.heap.size, 0, none⟩)] ((w.alloc (.cells #[.int .i64 x.base, .int .i64 x.target, .slice a x.orders.length c] 43)).alloc (.cells #[.int .i64 0, .int .i64 0, .int .i64 0, .int .i64 0, .slice none 0 0, .slice none 0 0] 28)) fun e w1 => e = .returned (.bool b) ∧ w1.heap[w.heap.size]? = some (.cells #[.int .i64 x.base, .int .i64 x.target, .slice a x.orders.length c] 43 (0, 0)) ∧ w1.heap[w.heap.size + 1]? = some (.cells #[.int .i64 0, .int .i64 0, .int .i64 0, .int .i64 0, .slice none 0 0, .slice none 0 0] 28 (0, 0)) ∧ w.heap.size + 1 < w1.heap.size ∧ Below w.heap.size w w1) := Lib.hid fun b hb => by
    refine (specL03Permuting (Hbx.out.keep (w' := _) fun k hk => ?hb) hn _ hb).mono ?_
    case hb => exact (Below.heap_alloc _ _ _ (by simp; omega))
    rintro e w1 ⟨rfl, m, rfl⟩
    exact ⟨rfl, H2.out.1, H2.out.2.1, (by show _ < ((w.alloc _).alloc _).heap.size; rw [H2.out.2.2.1]; omega), Below.draws H2.out.2.2.2 m⟩
  clear Hbx H2
  cases hv : vP x
  · have hm := Lib.hid (pcV_no hv)
    have Hv := Lib.hid hv; clear hv
    go_enter Try.func23, Try.ntmps23
    go_wp2_with fail
    refine (HI.out _ Hv.out).mono ?_
    rintro e w1 ⟨rfl, hb1, hb2, hs1, Hbel⟩
    have z0 := heap_cell hb2 (i := 0) rfl
    have z1 := heap_cell hb2 (i := 1) rfl
    have z2 := heap_cell hb2 (i := 2) rfl
    have z3 := heap_cell hb2 (i := 3) rfl
    have z4 := heap_cell hb2 (i := 4) rfl
    have z5 := heap_cell hb2 (i := 5) rfl
    have f0 := frozen_at hb2 0
    have f1 := frozen_at hb2 1
    have f2 := frozen_at hb2 2
    have f3 := frozen_at hb2 3
    have f4 := frozen_at hb2 4
    have f5 := frozen_at hb2 5
    have d0 := heap_cell hb1 (i := 0) rfl
    have Hbel := Lib.hid Hbel
    clear hb1 hb2
    go_wp2
    refine bodyPost_ret (v := .tuple #[aggC Chn.nil (.slice none 0 0) (.slice none 0 0), .bool false]) (by simp [results, Try.results23, go_sem, aggC, Chn.nil, z0, z1, z2, z3, z4, z5]) rfl ⟨_, rfl, ?_⟩
    rw [hm.out]
    refine ⟨[], ⟨_, _, [], [], rfl, own_nil _, own_nil _, rfl, by simp⟩, by simp, ?_⟩
    refine Below.trans Hbel.out ?_
    repeat' (first | with_reducible exact Below.refl _ _ | with_reducible refine Below.alloc ?_ ?_ _ | with_reducible refine Below.setCell ?_ ?_ _ | with_reducible refine Below.drew ?_ | with_reducible refine Below.draws ?_ _ | omega | (simp; done) | (simp; omega))
  · have hm := Lib.hid (pcV_yes hv)
    have hvp := vP_ok hv
    obtain ⟨NB, hNB⟩ : ∃ n : Nat, n = x.base.toNat := ⟨_, rfl⟩
    obtain ⟨NT, hNT⟩ : ∃ n : Nat, n = x.target.toNat := ⟨_, rfl⟩
    have hba := hvp.base
    have hta := hvp.target
    have hln := hvp.len
    have eb : x.base = (NB : Int) := by omega
    have et : x.target = (NT : Int) := by omega
    have hx := Lib.hid (show pchn x = addC x.orders id NB NB NT by rw [hNB, hNT]; rfl)
    have hbd := Lib.hid (show ∀ i, i < x.orders.length → (nth x.orders i).length ≤ 36 ∧ ∀ j, j < (nth x.orders i).length → 0 ≤ nth (nth x.orders i) j ∧ nth (nth x.orders i) j ≤ 2000 from fun i hi => by
      obtain ⟨g1, g2⟩ := hvp.row i hi
      exact ⟨by omega, fun j hj => by have := g2 j hj; omega⟩)
    have Hv := Lib.hid hv; clear hv
    have hNB2 : 2 ≤ NB ∧ NB ≤ 36 := by omega
    have Heb := Lib.hid eb; have Het := Lib.hid et; clear hNB hNT eb et hvp
    go_enter Try.func23, Try.ntmps23
    go_wp2_with fail
    refine (HI.out _ Hv.out).mono ?_
    rintro e w1 ⟨rfl, hb1, hb2, hs1, Hbel⟩
    rw [Heb.out, Het.out] at hb1
    have d0 := heap_cell hb1 (i := 0) rfl
    have d1 := heap_cell hb1 (i := 1) rfl
    have d2 := heap_cell hb1 (i := 2) rfl
    have Hu1 := Lib.hid (show RdII (· < B) w1 _ x.orders from RdII.ok.keep Hu.out fun k hk => Hbel.block k (by omega))
    have hcl := Lib.hid (specL03Chain id Hu1.out (by rw [List.map_id]; exact Hu1.out) (by omega) NB NB NT hln.2 (by omega) hbd.out)
    rw [← hx.out] at hcl
    have Hb2 := Lib.hid hb2
    have Hbel := Lib.hid Hbel
    clear hb1 hb2
    go_wp2_with fail
    refine (Calls.mono hcl.out ?_)
    rintro e w4 ⟨v', rfl, hf⟩
    obtain ⟨u, p, rfl, a7, n7, c7, a8, n8, c8, rfl, rfl⟩ := hf.aggC
    have hz6 := below_heap hf.bel Hb2.out
    have z0 := heap_cell hz6 (i := 0) rfl
    have z1 := heap_cell hz6 (i := 1) rfl
    have z2 := heap_cell hz6 (i := 2) rfl
    have z3 := heap_cell hz6 (i := 3) rfl
    have z4 := heap_cell hz6 (i := 4) rfl
    have z5 := heap_cell hz6 (i := 5) rfl
    have f0 := frozen_at hz6 0
    have f1 := frozen_at hz6 1
    have f2 := frozen_at hz6 2
    have f3 := frozen_at hz6 3
    have f4 := frozen_at hz6 4
    have f5 := frozen_at hz6 5
    have Hf := Lib.hid hf
    clear hf hz6
    go_wp2
    refine bodyPost_ret (v := .tuple #[.agg #[.int .i64 (pchn x).base, .int .i64 (pchn x).states, .int .i64 (pchn x).start, .int .i64 (pchn x).stop, .slice a7 n7 c7, .slice a8 n8 c8], .bool true]) (by simp [results, Try.results23, go_sem, z0, z1, z2, z3, z4, z5]) rfl ⟨_, rfl, by rw [hm.out]; exact Fresh.turnedAt (b := w.heap.size + 1) OC.ok Hf.out Hbel.out (by omega) hs1 (by repeat' (first | with_reducible exact Only.refl _ _ | with_reducible refine Only.put ?_ ?_ _ _ | (simp; done)))⟩

set_option maxHeartbeats 1600000 in
set_option maxRecDepth 100000 in
theorem implPermutingChain {B : Nat} {v : Value} {x : Prm} {w : World} (h : RdP (· < B) w v x) (hB : B ≤ w.heap.size) (hn : szP x ≤ 1048576) :
    Calls Try.prog 25 #[v] w fun e w' => ∃ v', e = .returned (.tuple #[v', .bool (vP x)]) ∧ Fresh OC w w' v' (pcV x) := by
  have Hr := Lib.hid h
  obtain ⟨u, rfl, hu⟩ := h
  obtain ⟨a, c, rfl, h1, h2⟩ := hu.isSlice
  have Hbx := Lib.hid (BoxP.boxed hu hB); have Hu := Lib.hid hu; clear hu
  unfold maxLen at h2
  have H2 := Lib.hid (two w (.cells #[.int .i64 x.base, .int .i64 x.target, .slice a x.orders.length c] 43) (.cells #[.int .i64 0, .int .i64 0, .int .i64 0, .int .i64 0, .slice none 0 0, .slice none 0 0] 28))
  unfold aggP
  have HI : Hid (∀ b, vP x = b → Calls Try.prog 71 #[.agg #[.int .i64 x.base, .int .i64 x.target, .slice a x.orders.length c]] ((w.alloc (.cells #[.int .i64 x.base, .int .i64 x.target, .slice a x.orders.length c] 43)).alloc (.cells #[.int .i64 0, .int .i64 0, .int .i64 0, .int .i64 0, .slice none 0 0, .slice none 0 0] 28)) fun e w1 => e = .returned (.bool b) ∧ w1.heap[w.heap.size]? = some (.cells #[.int .i64 x.base, .int .i64 x.target, .slice a x.orders.length c] 43 (0, 0)) ∧ w1.heap[w.heap.size + 1]? = some (.cells #[.int .i64 0, .int .i64 0, .int .i64 0, .int .i64 0, .slice none 0 0, .slice none 0 0] 28 (0, 0)) ∧ w.heap.size + 1 < w1.heap.size ∧ Below w.heap.size w w1) := Lib.hid fun b hb => by
    refine (implValidPermuting (Rd.below RdP.ok Hr.out (H2.out.2.2.2.mono hB)) (by rw [H2.out.2.2.1]; omega) hn _ hb).mono ?_
    rintro e w1 ⟨rfl, hb⟩
    exact ⟨rfl, below_heap hb H2.out.1, below_heap hb H2.out.2.1, heap_lt (below_heap hb H2.out.2.1), H2.out.2.2.2.trans (hb.mono (by rw [H2.out.2.2.1]; omega))⟩
  clear Hbx H2
  cases hv : vP x
  · have hm := Lib.hid (pcV_no hv)
    have Hv := Lib.hid hv; clear hv
    go_enter Try.func25, Try.ntmps25
    go_wp2_with fail
    refine (HI.out _ Hv.out).mono ?_
    rintro e w1 ⟨rfl, hb1, hb2, hs1, Hbel⟩
    have z0 := heap_cell hb2 (i := 0) rfl
    have z1 := heap_cell hb2 (i := 1) rfl
    have z2 := heap_cell hb2 (i := 2) rfl
    have z3 := heap_cell hb2 (i := 3) rfl
    have z4 := heap_cell hb2 (i := 4) rfl
    have z5 := heap_cell hb2 (i := 5) rfl
    have f0 := frozen_at hb2 0
    have f1 := frozen_at hb2 1
    have f2 := frozen_at hb2 2
    have f3 := frozen_at hb2 3
    have f4 := frozen_at hb2 4
    have f5 := frozen_at hb2 5
    have d0 := heap_cell hb1 (i := 0) rfl
    have Hbel := Lib.hid Hbel
    clear hb1 hb2
    go_wp2
    refine bodyPost_ret (v := .tuple #[aggC Chn.nil (.slice none 0 0) (.slice none 0 0), .bool false]) (by simp [results, Try.results25, go_sem, aggC, Chn.nil, z0, z1, z2, z3, z4, z5]) rfl ⟨_, rfl, ?_⟩
    rw [hm.out]
    refine ⟨[], ⟨_, _, [], [], rfl, own_nil _, own_nil _, rfl, by simp⟩, by simp, ?_⟩
    refine Below.trans Hbel.out ?_
    repeat' (first | with_reducible exact Below.refl _ _ | with_reducible refine Below.alloc ?_ ?_ _ | with_reducible refine Below.setCell ?_ ?_ _ | with_reducible refine Below.drew ?_ | with_reducible refine Below.draws ?_ _ | omega | (simp; done) | (simp; omega))
  · have hm := Lib.hid (pcV_yes hv)
    have hvp := vP_ok hv
    obtain ⟨NB, hNB⟩ : ∃ n : Nat, n = x.base.toNat := ⟨_, rfl⟩
    obtain ⟨NT, hNT⟩ : ∃ n : Nat, n = x.target.toNat := ⟨_, rfl⟩
    have hba := hvp.base
    have hta := hvp.target
    have hln := hvp.len
    have eb : x.base = (NB : Int) := by omega
    have et : x.target = (NT : Int) := by omega
    have hx := Lib.hid (show pchn x = addC x.orders id NB NB NT by rw [hNB, hNT]; rfl)
    have hbd := Lib.hid (show ∀ i, i < x.orders.length → (nth x.orders i).length ≤ 36 ∧ ∀ j, j < (nth x.orders i).length → 0 ≤ nth (nth x.orders i) j ∧ nth (nth x.orders i) j ≤ 2000 from fun i hi => by
      obtain ⟨g1, g2⟩ := hvp.row i hi
      exact ⟨by omega, fun j hj => by have := g2 j hj; omega⟩)
    have Hv := Lib.hid hv; clear hv
    have hNB2 : 2 ≤ NB ∧ NB ≤ 36 := by omega
    have Heb := Lib.hid eb; have Het := Lib.hid et; clear hNB hNT eb et hvp
    go_enter Try.func25, Try.ntmps25
    go_wp2_with fail
    refine (HI.out _ Hv.out).mono ?_
    rintro e w1 ⟨rfl, hb1, hb2, hs1, Hbel⟩
    rw [Heb.out, Het.out] at hb1
    have d0 := heap_cell hb1 (i := 0) rfl
    have d1 := heap_cell hb1 (i := 1) rfl
    have d2 := heap_cell hb1 (i := 2) rfl
    have Hu1 := Lib.hid (show RdII (· < B) w1 _ x.orders from RdII.ok.keep Hu.out fun k hk => Hbel.block k (by omega))
    have hcl := Lib.hid (implAdding Hu1.out (by omega) NB NB NT hln.2 (by omega) hbd.out)
    rw [← hx.out] at hcl
    have Hb2 := Lib.hid hb2
    have Hbel := Lib.hid Hbel
    clear hb1 hb2
    go_wp2_with fail
    refine (Calls.mono hcl.out ?_)
    rintro e w4 ⟨v', rfl, hf⟩
    obtain ⟨u, p, rfl, a7, n7, c7, a8, n8, c8, rfl, rfl⟩ := hf.aggC
    have hz6 := below_heap hf.bel Hb2.out
    have z0 := heap_cell hz6 (i := 0) rfl
    have z1 := heap_cell hz6 (i := 1) rfl
    have z2 := heap_cell hz6 (i := 2) rfl
    have z3 := heap_cell hz6 (i := 3) rfl
    have z4 := heap_cell hz6 (i := 4) rfl
    have z5 := heap_cell hz6 (i := 5) rfl
    have f0 := frozen_at hz6 0
    have f1 := frozen_at hz6 1
    have f2 := frozen_at hz6 2
    have f3 := frozen_at hz6 3
    have f4 := frozen_at hz6 4
    have f5 := frozen_at hz6 5
    have Hf := Lib.hid hf
    clear hf hz6
    go_wp2
    refine bodyPost_ret (v := .tuple #[.agg #[.int .i64 (pchn x).base, .int .i64 (pchn x).states, .int .i64 (pchn x).start, .int .i64 (pchn x).stop, .slice a7 n7 c7, .slice a8 n8 c8], .bool true]) (by simp [results, Try.results25, go_sem, z0, z1, z2, z3, z4, z5]) rfl ⟨_, rfl, by rw [hm.out]; exact Fresh.turnedAt (b := w.heap.size + 1) OC.ok Hf.out Hbel.out (by omega) hs1 (by repeat' (first | with_reducible exact Only.refl _ _ | with_reducible refine Only.put ?_ ?_ _ _ | (simp; done)))⟩
end Go.Proofs.Ytnpkanlieflbiaa
