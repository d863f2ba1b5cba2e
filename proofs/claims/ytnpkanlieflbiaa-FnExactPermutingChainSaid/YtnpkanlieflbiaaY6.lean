/- The chain of a weighting, walked (the reference). -/
import Derived.Test.YtnpkanlieflbiaaY5
import Derived.Test.YtnpkanlieflbiaaE9
namespace Go.Proofs.Ytnpkanlieflbiaa
open Go.RowKit
set_option linter.unusedVariables false

def oneL (w : Int) : List Int := [w]
def wchn (x : Wgt) : Chn := addC (x.weights.map oneL) (fun l => addsL x.base.toNat x.modulus.toNat (nth l 0)) x.base.toNat x.modulus.toNat x.target.toNat
theorem oneL_snoc (ws : List Int) {k : Nat} (h : k < ws.length) : (ws.take (k + 1)).map oneL = (ws.take k).map oneL ++ [[nth ws k]] := by rw [take_nth h, List.map_append]; rfl
theorem adds_snoc (NB NM : Nat) (ws : List Int) {k : Nat} (h : k < ws.length) : (ws.take (k + 1)).map (addsL NB NM) = (ws.take k).map (addsL NB NM) ++ [addsL NB NM (nth ws k)] := by rw [take_nth h, List.map_append]; rfl
theorem adds_keys (NB NM : Nat) (ws : List Int) : (ws.map oneL).map (fun l => addsL NB NM (nth l 0)) = ws.map (addsL NB NM) := by
  rw [List.map_map]
  refine List.map_congr_left fun a _ => ?_
  rfl
theorem adds_bd {NB NM : Nat} (hm : 1 ≤ NM) (hm2 : NM ≤ 36) (w : Int) : ∀ j, j < (addsL NB NM w).length → 0 ≤ nth (addsL NB NM w) j ∧ nth (addsL NB NM w) j ≤ 2000 := fun j hj => by
  rw [addsL_len] at hj
  unfold addsL
  rw [nth_range_map hj]
  have h1 := Int.emod_nonneg (w * (j : Int)) (show (NM : Int) ≠ 0 by omega)
  have h2 := Int.emod_lt_of_pos (w * (j : Int)) (show (0 : Int) < (NM : Int) by omega)
  omega

/-- Made since a later world; then the result's cell turned. -/
theorem Fresh.turned {α : Type} {R : Rep α} (hR : R.Fine) {w W2 w6 w7 : World} {v : Value} {x : α} (hf : Fresh R W2 w6 v x) (hb0 : Below w.heap.size w W2) (hz : w.heap.size < W2.heap.size) (hon : Only [w.heap.size] w6 w7) : Fresh R w w7 v x := by
  obtain ⟨S, hS, hS2, hb⟩ := hf
  exact ⟨S, hR.keep hS fun j hj => hon.block j (hR.lt hS j hj) (by have := hS2 j hj; simp; omega), fun j hj => by have := hS2 j hj; omega, below_only (hb0.trans (hb.mono (by omega))) hon (by have := hb.size; omega) (by simp)⟩
/-- One list more on the left, made since. -/
theorem Two.more {w0 W w1 : World} {vt v1 : Value} {A B : List (List Int)} {r : List Int} {S1 S2 S1' T7 : List Nat} (h2 : OII W vt B S2) (hd : ∀ k ∈ S1, k ∉ S2) (hS1 : ∀ k ∈ S1, w0.heap.size ≤ k) (hS2 : ∀ k ∈ S2, w0.heap.size ≤ k)
    (hb : Below w0.heap.size w0 W) (hT : ∀ j ∈ T7, w0.heap.size ≤ j ∧ j ∉ S2) (ho : OII w1 v1 (A ++ [r]) S1') (hon : Only S1 W w1) (hS : ∀ k ∈ S1', k ∈ S1 ∨ k ∈ T7 ∨ W.heap.size ≤ k) : Two w0 w1 v1 vt (A ++ [r]) B := by
  have hsz := hb.size
  refine ⟨S1', S2, ho, OII.ok.keep h2 fun k hk => hon.block k (OII.ok.lt h2 k hk) (fun h => hd k h hk), fun k hk hk2 => ?_, fun k hk => ?_, hS2, below_only hb hon hsz hS1⟩
  · have hlt := OII.ok.lt h2 k hk2
    rcases hS k hk with h | h | h
    · exact hd k h hk2
    · exact (hT k h).2 hk2
    · omega
  · rcases hS k hk with h | h | h
    · exact hS1 k h
    · exact (hT k h).1
    · omega

set_option maxHeartbeats 3200000 in
set_option maxRecDepth 100000 in
theorem specL03Weights {P : Nat → Prop} {bx : Nat} {x : Wgt} {w : World} (h : BoxW P w bx x) (hP : ∀ k, P k → k < w.heap.size) (hbx : bx < w.heap.size) (hv : VW x) :
    Calls Try.prog 59 #[.pointer (some ⟨bx, 0, none⟩)] w fun e w' => ∃ v', e = .returned v' ∧ Fresh OC w w' v' (wchn x) := by
  have hba := hv.base
  have hmo := hv.modulus
  have hta := hv.target
  have hln := hv.len
  have hwt := Lib.hid hv.weight
  obtain ⟨NB, hNB⟩ : ∃ n : Nat, n = x.base.toNat := ⟨_, rfl⟩
  obtain ⟨NM, hNM⟩ : ∃ n : Nat, n = x.modulus.toNat := ⟨_, rfl⟩
  obtain ⟨NT, hNT⟩ : ∃ n : Nat, n = x.target.toNat := ⟨_, rfl⟩
  have eb : x.base = (NB : Int) := by omega
  have em : x.modulus = (NM : Int) := by omega
  have et : x.target = (NT : Int) := by omega
  have hx := Lib.hid (show wchn x = addC (x.weights.map oneL) (fun l => addsL NB NM (nth l 0)) NB NM NT by rw [hNB, hNM, hNT]; rfl)
  obtain ⟨a, c, g0, g1, g2, g3, hu, k1, k2⟩ := h.cells
  rw [eb] at g0 hba
  rw [em] at g1 hmo
  rw [et] at g2 hta
  rw [em] at hta
  have hwt2 := Lib.hid (show ∀ k, k < x.weights.length → 0 ≤ nth x.weights k ∧ nth x.weights k < (NM : Int) from fun k hk => by have := hwt.out k hk; omega)
  have Hu := Lib.hid hu
  have HP := Lib.hid hP
  unfold maxLen at k2
  obtain ⟨NW, hNW⟩ : ∃ n, n = x.weights.length := ⟨_, rfl⟩
  rw [← hNW] at g3 Hu k1 hln hwt2
  have HNW := Lib.hid hNW
  clear hwt hNB hNM hNT eb em et h hv hu hP hNW
  obtain ⟨w1, hw1⟩ : ∃ w1, w1 = w.alloc (.cells #[.int .i64 0, .int .i64 0, .int .i64 0, .int .i64 0, .slice none 0 0, .slice none 0 0] 28) := ⟨_, rfl⟩
  have hz1 : w1.heap[w.heap.size]? = some (.cells #[.int .i64 0, .int .i64 0, .int .i64 0, .int .i64 0, .slice none 0 0, .slice none 0 0] 28 (0, 0)) := by rw [hw1]; exact heap_alloc_new w _
  have hs1 : w1.heap.size = w.heap.size + 1 := by rw [hw1]; simp
  have hb1 : Below w.heap.size w w1 := by rw [hw1]; exact (Below.refl _ _).alloc (Nat.le_refl _) _
  have Hw1 := Lib.hid hw1
  have Hz1 := Lib.hid hz1
  have Hb1 := Lib.hid hb1
  have Hs1 := Lib.hid hs1
  go_enter Try.func59, Try.ntmps59
  go_wp2_with fail
  rw [← Hw1.out]
  have ht0 : Two w1 ((w1.alloc (.cells #[] 22)).alloc (.cells #[] 22)) (.slice (some ⟨w1.heap.size, 0, none⟩) 0 0) (.slice (some ⟨w1.heap.size + 1, 0, none⟩) 0 0) [] [] := by
    have hf : Fresh OII w1 _ _ [] := Fresh.empty (E := 22) (R := OI) (Below.refl w1.heap.size w1)
    have ht : Fresh OII (w1.alloc (.cells #[] 22)) _ _ [] := Fresh.empty (E := 22) (R := OI) (Below.refl _ _)
    have ht' : Fresh OII (w1.alloc (.cells #[] 22)) ((w1.alloc (.cells #[] 22)).alloc (.cells #[] 22)) (.slice (some ⟨w1.heap.size + 1, 0, none⟩) 0 0) [] := by rw [alloc_size] at ht; exact ht
    exact Two.start hf ht'
  rw [Hs1.out] at ht0
  have Ht0 := Lib.hid ht0
  clear hw1 hz1 hs1 ht0
  have hsz1 : w.heap.size < w1.heap.size := by have := Hs1.out; omega
  go_loopw [3, 4, 5] (fun kv av iv wr => ∃ k : Nat, k ≤ NW ∧ iv = .int .i64 k ∧ Hid (Two w1 wr kv av ((x.weights.take k).map oneL) ((x.weights.take k).map (addsL NB NM)))) (fun _ _ iv _ => NW - (intOf iv).toNat)
  case atStart => exact ⟨0, Nat.zero_le _, rfl, Ht0⟩
  case round =>
    clear Ht0
    obtain ⟨k, hk, rfl, ht⟩ := hrel
    obtain ⟨W2, rfl⟩ : ∃ W2, W2 = wr := ⟨_, rfl⟩
    obtain ⟨S1, S2, h1, h2, hd, hS1, hS2, hbel⟩ := ht.out
    have Hbw := Lib.hid (show Below w.heap.size w W2 from Hb1.out.trans (hbel.mono (by omega)))
    have hc3 : W2.cell? ⟨bx, 3, none⟩ = some (.slice a NW c) := (Hbw.out.cell (p := ⟨bx, 3, none⟩) hbx).trans g3
    have hc0 : W2.cell? ⟨bx, 0, none⟩ = some (.int .i64 NB) := (Hbw.out.cell (p := ⟨bx, 0, none⟩) hbx).trans g0
    have hc1 : W2.cell? ⟨bx, 1, none⟩ = some (.int .i64 NM) := (Hbw.out.cell (p := ⟨bx, 1, none⟩) hbx).trans g1
    have hc2 : W2.cell? ⟨bx, 2, none⟩ = some (.int .i64 NT) := (Hbw.out.cell (p := ⟨bx, 2, none⟩) hbx).trans g2
    by_cases hlt : k < NW
    · have hlw : k < x.weights.length := by have := HNW.out; omega
      obtain ⟨hw0, hw36⟩ := hwt2.out k hlt
      obtain ⟨b3, o3, u3, rfl, hP3, hc4, rfl⟩ := Rd.elim Hu.out k hlw
      have hb3 := HP.out b3 hP3
      have hc5 : W2.cell? ⟨b3, o3 + k, none⟩ = some (.int .i64 (nth x.weights k)) := (Hbw.out.cell (p := ⟨b3, o3 + k, none⟩) hb3).trans hc4
      have ho := Lib.hid (oneL_snoc x.weights hlw)
      have ha := Lib.hid (adds_snoc NB NM x.weights hlw)
      have hlk := Lib.hid (show ((x.weights.take k).map oneL).length ≤ 20 by simp; omega)
      have hla := Lib.hid (show ((x.weights.take k).map (addsL NB NM)).length ≤ 20 by simp; omega)
      have hc6 : w.cell? ⟨b3, o3 + k, none⟩ = some (.int .i64 (nth x.weights k)) := hc4
      clear hc4
      generalize nth x.weights k = wt at *
      have hsc := Lib.hid (show ∀ w', Below w.heap.size w w' → (w'.cell? ⟨bx, 0, none⟩ = some (.int .i64 NB) ∧ w'.cell? ⟨bx, 1, none⟩ = some (.int .i64 NM) ∧ w'.cell? ⟨bx, 3, none⟩ = some (.slice (some ⟨b3, o3, none⟩) NW c) ∧ w'.cell? ⟨b3, o3 + k, none⟩ = some (.int .i64 wt)) from
        fun w' hb => ⟨(hb.cell (p := ⟨bx, 0, none⟩) hbx).trans g0, (hb.cell (p := ⟨bx, 1, none⟩) hbx).trans g1, (hb.cell (p := ⟨bx, 3, none⟩) hbx).trans g3, (hb.cell (p := ⟨b3, o3 + k, none⟩) hb3).trans hc6⟩)
      have hr1 := Lib.hid (Own.lit W2 2 fI [wt] (by unfold maxLen; simp))
      have hown1 := Lib.hid (Own.alloc OI.ok h1 (.cells ([wt].map fI).toArray 2))
      have hd1 := Lib.hid (show ∀ j ∈ [W2.heap.size], j ∉ S1 from fun j hj hm => by simp at hj; have h3 := OII.ok.lt h1 j hm; omega)
      have HT := Lib.hid (fun v1 w1 S1' ho hon hS => Two.left (v1 := v1) (w1 := w1) (S1' := S1') (r := [wt]) (o := .cells ([wt].map fI).toArray 2) h1 h2 hd hS1 hS2 hbel ho hon hS)
      clear h1 h2 hd hS1 hS2 hbel hc6
      go_wp2_with (at_builtin; refine wpList_push rfl _ _ 38 rfl OI.ok Try.underlying38 infoSl' rfl hown1.out hr1.out hd1.out (by have := hlk.out; omega) (by have := hlk.out; unfold maxLen; omega) rfl (by rw [alloc_size]; rfl) ?_; intro v1 w5 S1' ho1 hon1 hS1'; have HT1 := Lib.hid (HT.out v1 w5 S1' ho1 hon1 hS1').swap; clear ho1 hon1 hS1')
      obtain ⟨S3, S4, h1, h2, hd, hS1, hS2, hbel⟩ := HT1.out
      have Hbw5 := Lib.hid (show Below w.heap.size w w5 from Hb1.out.trans (hbel.mono (by omega)))
      have hl1 := OII.ok.lt h1
      have hl2 := OII.ok.lt h2
      have hz5 := hbel.size
      have hcl : Hid (∀ q, Calls Try.prog 117 #[.int .i64 wt, .int .i64 NB, .int .i64 NM] (w5.drewN q) fun e w' => ∃ g7 c7 S7, e = .returned (.slice (some ⟨g7, 0, none⟩) NB c7) ∧ OI w' (.slice (some ⟨g7, 0, none⟩) NB c7) (addsL NB NM wt) S7 ∧ (∀ j ∈ S7, w1.heap.size ≤ j ∧ j ∉ S3 ∧ j ∉ S4) ∧ Below w1.heap.size w1 w' ∧ Below w5.heap.size w5 w') := Lib.hid fun q => by
        refine (specAdds NB NM (by omega) (by omega) wt hw0 (by omega) (w5.drewN q)).mono ?_
        rintro e w3 ⟨v7, rfl, hf7⟩
        have hwl := addsL_len NB NM wt
        obtain ⟨g7, c7, rfl⟩ := hf7.shape (by omega)
        rw [hwl] at hf7 ⊢
        obtain ⟨S7, hr7, hS7, hb7⟩ := hf7
        exact ⟨g7, c7, S7, rfl, hr7, fun j hj => by have h := hS7 j hj; have h' : w5.heap.size ≤ j := h; exact ⟨by omega, fun hm => by have := hl1 j hm; omega, fun hm => by have := hl2 j hm; omega⟩, (Below.draws hbel q).trans (hb7.mono hz5), ⟨hb7.os, hb7.tape, hb7.output, hb7.size, hb7.block⟩⟩
      obtain ⟨a5, n5, c5, rfl⟩ := h1.isSlice
      have Hh1 := Lib.hid h1
      have Hh2 := Lib.hid h2
      have Hd := Lib.hid hd
      have HS1 := Lib.hid hS1
      have HS2 := Lib.hid hS2
      have Hbel := Lib.hid hbel
      have hS0 := hsc.out w5.drew (Below.draws Hbw5.out 1)
      clear h1 h2 hd hS1 hS2 hbel hl1 hl2 HT1 HT hown1 hr1 hd1
      refine wp_region_float 16 (fun w' => w'.cell? ⟨bx, 0, none⟩ = some (.int .i64 NB) ∧ w'.cell? ⟨bx, 1, none⟩ = some (.int .i64 NM) ∧ w'.cell? ⟨bx, 3, none⟩ = some (.slice (some ⟨b3, o3, none⟩) NW c) ∧ w'.cell? ⟨b3, o3 + k, none⟩ = some (.int .i64 wt)) (by kernel_rfl) (by kernel_rfl) hS0 ?_
      clear hS0
      intro hS0
      simp only [List.take_succ_cons, List.take_zero, List.drop_succ_cons, List.drop_zero]
      iterate 16 (refine wpReads_cons _ (by rfl) (by intro w' hSw; (try dsimp only at hSw); go_simp; try (with_reducible rfl)) ?_; try simp only [Act.put, List.setIfInBounds_toArray, List.set_cons_zero, List.set_cons_succ])
      refine wpReads_nil ?_
      refine wpTail_cons fun K hK => ?_
      go_simp
      refine (Calls.mono (hcl.out _) ?_)
      rintro e w6 ⟨g7, c7, S7, rfl, hr7, hS7, hbel6, hb56⟩
      have Hh6 := Lib.hid (OII.ok.keep Hh1.out (w' := w6) fun j hj => hb56.block j (OII.ok.lt Hh1.out j hj))
      have Hh7 := Lib.hid (OII.ok.keep Hh2.out (w' := w6) fun j hj => hb56.block j (OII.ok.lt Hh2.out j hj))
      have Hbw6 := Lib.hid (show Below w.heap.size w w6 from Hbw5.out.trans (hb56.mono Hbw5.out.size))
      have hz6 := Hbw6.out.size
      have Hr7 := Lib.hid hr7
      have HS7 := Lib.hid hS7
      have Hbel6 := Lib.hid hbel6
      clear hr7 hS7 hbel6 hb56
      refine hK.out _ _ (hsc.out _ Hbw6.out) ?_
      clear hK K hS0
      try simp only [Act.put, List.setIfInBounds_toArray, List.set_cons_zero, List.set_cons_succ]
      refine wpTail_cons fun K hK => ?_
      go_simp
      refine hK.out _ _ (hsc.out _ (Below.alloc Hbw6.out hz6 _)) ?_
      clear hK K
      try simp only [Act.put, List.setIfInBounds_toArray, List.set_cons_zero, List.set_cons_succ]
      refine wpTail_cons fun K hK => ?_
      refine step_push rfl _ _ 38 rfl OI.ok Try.underlying38 infoSl' rfl w6 Hh6.out (addsL NB NM wt) S7 Hr7.out (fun j hj => (HS7.out j hj).2.1) (by have := hla.out; omega) (by have := hla.out; unfold maxLen; omega) rfl rfl rfl ?_
      intro v7 w7 S8 ho7 hn7 hS8
      obtain ⟨a12, n12, c12, rfl⟩ := ho7.isSlice
      have ht7 := (Two.more Hh7.out Hd.out HS1.out HS2.out Hbel6.out (fun j hj => ⟨(HS7.out j hj).1, (HS7.out j hj).2.2⟩) ho7 hn7 hS8).swap
      rw [← ho.out, ← ha.out] at ht7
      have Hbw7 := Lib.hid (show Below w.heap.size w w7 from below_only Hbw6.out hn7 hz6 fun j hj => by have := HS1.out j hj; omega)
      have Ht7 := Lib.hid ht7
      clear ho7 hn7 hS8 ht7
      refine hK.out _ _ (hsc.out _ Hbw7.out) ?_
      clear hK K
      try simp only [Act.put, List.setIfInBounds_toArray, List.set_cons_zero, List.set_cons_succ]
      refine wpTail_one ?_
      go_wp2_with fail
      refine NoPanic.normal ?_
      go_wp2
      go_roundw
      case rel => exact ⟨k + 1, by omega, by go_num, Ht7⟩
      case measure => simp [intOf]; omega
    · obtain ⟨hkn⟩ : Nonempty (k = x.weights.length) := ⟨by have := HNW.out; omega⟩
      rw [hkn, List.take_length] at h1 h2
      have hkx := adds_keys NB NM x.weights
      obtain ⟨a5, n5, c5, rfl⟩ := h1.isSlice
      obtain ⟨a6, n6, c6, rfl⟩ := h2.isSlice
      have hrk : RdII (· < W2.heap.size) W2 (.slice a5 n5 c5) (x.weights.map oneL) := OII.leads.to _ _ _ _ _ h1 (OII.ok.lt h1)
      have hra : RdII (· < W2.heap.size) W2 (.slice a6 n6 c6) ((x.weights.map oneL).map (fun l => addsL NB NM (nth l 0))) := by rw [hkx]; exact OII.leads.to _ _ _ _ _ h2 (OII.ok.lt h2)
      have hlen : (x.weights.map oneL).length ≤ 20 := by simp; have := HNW.out; omega
      have hfb : ∀ i, i < (x.weights.map oneL).length → (addsL NB NM (nth (nth (x.weights.map oneL) i) 0)).length ≤ 36 ∧ ∀ j, j < (addsL NB NM (nth (nth (x.weights.map oneL) i) 0)).length → 0 ≤ nth (addsL NB NM (nth (nth (x.weights.map oneL) i) 0)) j ∧ nth (addsL NB NM (nth (nth (x.weights.map oneL) i) 0)) j ≤ 2000 :=
        fun i hi => ⟨by rw [addsL_len]; omega, adds_bd (by omega) (by omega) _⟩
      have hcl : Hid (∀ q, Calls Try.prog 70 #[.slice a5 n5 c5, .slice a6 n6 c6, .int .i64 NB, .int .i64 NM, .int .i64 NT] (W2.drewN q) fun e w' => ∃ u p, e = .returned (.agg #[.int .i64 NB, .int .i64 NM, .int .i64 0, .int .i64 NT, u, p]) ∧ (∃ a b c d e f, u = .slice a b c ∧ p = .slice d e f) ∧ Fresh OC W2 w' (.agg #[.int .i64 NB, .int .i64 NM, .int .i64 0, .int .i64 NT, u, p]) (wchn x)) := Lib.hid fun q => by
        refine (specL03Chain (w := W2.drewN q) _ (RdII.ok.keep hrk fun _ _ => rfl) (RdII.ok.keep hra fun _ _ => rfl) (Nat.le_refl _) NB NM NT hlen (by omega) hfb).mono ?_
        rintro e w3 ⟨v7, rfl, S, ⟨u, p, Sa, Sb, rfl, ot, op, eS, hSS⟩, hS, hb⟩
        refine ⟨u, p, rfl, ?_, ?_⟩
        · obtain ⟨a, b, c, rfl⟩ := ot.isSlice
          obtain ⟨d, e, f, rfl⟩ := op.isSlice
          exact ⟨a, b, c, d, e, f, rfl, rfl⟩
        · rw [hx.out]
          exact ⟨S, ⟨u, p, Sa, Sb, rfl, ot, op, eS, hSS⟩, hS, ⟨hb.os, hb.tape, hb.output, hb.size, hb.block⟩⟩
      have Hz2 := Lib.hid (below_heap hbel Hz1.out)
      have hS0 : W2.drew.cell? ⟨bx, 0, none⟩ = some (.int .i64 NB) ∧ W2.drew.cell? ⟨bx, 1, none⟩ = some (.int .i64 NM) ∧ W2.drew.cell? ⟨bx, 2, none⟩ = some (.int .i64 NT) := ⟨hc0, hc1, hc2⟩
      have hz2 : w.heap.size < W2.heap.size := heap_lt Hz2.out
      clear h1 h2 hkx hrk hra hlen hfb hkn hd hS1 hS2 hbel
      go_wp2
      refine wp_region_float 14 (fun w' => w'.cell? ⟨bx, 0, none⟩ = some (.int .i64 NB) ∧ w'.cell? ⟨bx, 1, none⟩ = some (.int .i64 NM) ∧ w'.cell? ⟨bx, 2, none⟩ = some (.int .i64 NT)) (by kernel_rfl) (by kernel_rfl) hS0 ?_
      clear hS0
      intro hS0
      simp only [List.take_succ_cons, List.take_zero, List.drop_succ_cons, List.drop_zero]
      iterate 14 (refine wpReads_cons _ (by rfl) (by intro w' hSw; (try dsimp only at hSw); go_simp; try (with_reducible rfl)) ?_; try simp only [Act.put, List.setIfInBounds_toArray, List.set_cons_zero, List.set_cons_succ])
      refine wpReads_nil ?_
      refine wpTail_cons fun K hK => ?_
      go_simp
      refine (Calls.mono (hcl.out _) ?_)
      rintro e w6 ⟨u, p, rfl, ⟨a7, n7, c7, a8, n8, c8, rfl, rfl⟩, hf⟩
      have hz6 := below_heap hf.bel Hz2.out
      have z0 := heap_cell hz6 (i := 0) rfl
      have z1 := heap_cell hz6 (i := 1) rfl
      have z2 := heap_cell hz6 (i := 2) rfl
      have z3 := heap_cell hz6 (i := 3) rfl
      have z4 := heap_cell hz6 (i := 4) rfl
      have z5 := heap_cell hz6 (i := 5) rfl
      have f0 := frozen_at hz6 0
      have f1 := frozen_at hz6 1
      have f2 := frozen_at hz6 2
      have f3 := frozen_at hz6 3
      have f4 := frozen_at hz6 4
      have f5 := frozen_at hz6 5
      have Hf := Lib.hid hf
      have hcb : w6.cell? ⟨bx, 0, none⟩ = some (.int .i64 NB) ∧ w6.cell? ⟨bx, 1, none⟩ = some (.int .i64 NM) ∧ w6.cell? ⟨bx, 2, none⟩ = some (.int .i64 NT) := ⟨(hf.bel.cell (p := ⟨bx, 0, none⟩) (by show bx < _; omega)).trans hc0, (hf.bel.cell (p := ⟨bx, 1, none⟩) (by show bx < _; omega)).trans hc1, (hf.bel.cell (p := ⟨bx, 2, none⟩) (by show bx < _; omega)).trans hc2⟩
      clear hf hz6
      refine hK.out _ _ hcb ?_
      clear hK K hS0 hcb
      try simp only [Act.put, List.setIfInBounds_toArray, List.set_cons_zero, List.set_cons_succ]
      refine wpTail_one ?_
      go_wp2_with fail
      refine NoPanic.normal ?_
      go_wp2
      refine bodyPost_ret (v := .agg #[.int .i64 NB, .int .i64 NM, .int .i64 0, .int .i64 NT, .slice a7 n7 c7, .slice a8 n8 c8]) (by simp [results, Try.results59, go_sem, z0, z1, z2, z3, z4, z5]) rfl ⟨_, rfl, Fresh.turned OC.ok Hf.out Hbw.out hz2 (by repeat' (first | with_reducible exact Only.refl _ _ | with_reducible refine Only.put ?_ ?_ _ _ | (simp; done)))⟩
end Go.Proofs.Ytnpkanlieflbiaa
