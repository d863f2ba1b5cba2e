/- The chain of keys, walked (the reference). -/
import Derived.Test.YtnpkanlieflbiaaY1
namespace Go.Proofs.Ytnpkanlieflbiaa
open Go.RowKit
set_option linter.unusedVariables false

set_option maxHeartbeats 3200000 in
set_option maxRecDepth 100000 in
theorem specL03Chain {B : Nat} {kv av : Value} {keys : List (List Int)} (f : List Int → List Int) {w : World} (hk : RdII (· < B) w kv keys) (ha : RdII (· < B) w av (keys.map f)) (hB : B ≤ w.heap.size) (NB m TG : Nat)
    (hn : keys.length ≤ 20) (hm : 1 ≤ m ∧ m ≤ 36) (hf : ∀ i, i < keys.length → (f (nth keys i)).length ≤ 36 ∧ ∀ j, j < (f (nth keys i)).length → 0 ≤ nth (f (nth keys i)) j ∧ nth (f (nth keys i)) j ≤ 2000) :
    Calls Try.prog 70 #[kv, av, .int .i64 NB, .int .i64 m, .int .i64 TG] w fun e w' => ∃ v', e = .returned v' ∧ Fresh OC w w' v' (addC keys f NB m TG) := by
  obtain ⟨a1, c1, rfl, h1, h2⟩ := hk.isSlice
  obtain ⟨a2, c2, rfl, h3, h4⟩ := ha.isSlice
  have Hk := Lib.hid hk; clear hk
  have Ha := Lib.hid ha; clear ha
  have Hf := Lib.hid hf; clear hf
  have hlm : (keys.map f).length = keys.length := by simp
  rw [hlm] at h3 Ha ⊢
  obtain ⟨N, hN⟩ : ∃ N, keys.length = N := ⟨_, rfl⟩
  rw [hN] at h1 h3 hn Hk Ha Hf ⊢
  have HN := Lib.hid hN; clear hN hlm
  unfold maxLen at h2 h4
  have H3 := Lib.hid (three w (.cells #[.int .i64 0, .int .i64 0, .int .i64 0, .int .i64 0, .slice none 0 0, .slice none 0 0] 28) (.cells #[.int .i64 NB, .int .i64 m, .int .i64 0, .int .i64 TG, .slice none 0 0, .slice none 0 0] 28) (.cells #[] 3) 0)
  go_enter Try.func70, Try.ntmps70
  go_wp2
  have hst0 : CSt 3 fI w NB m TG (tabsTo f m keys 0) (plTo keys 0) (fsTo keys 0) (.slice (some ⟨w.heap.size + 1 + 1, 0, none⟩) 0 0) (.slice none 0 0) (.slice none 0 0) [] [] [w.heap.size + 1 + 1] (((w.alloc (.cells #[.int .i64 0, .int .i64 0, .int .i64 0, .int .i64 0, .slice none 0 0, .slice none 0 0] 28)).alloc (.cells #[.int .i64 NB, .int .i64 m, .int .i64 0, .int .i64 TG, .slice none 0 0, .slice none 0 0] 28)).alloc (.cells #[] 3)) :=
    ⟨H3.out.1, H3.out.2.1, own_nil _, own_nil _, .inr ⟨_, 0, #[], [], rfl, H3.out.2.2.1, rfl, Nat.le_refl _, by unfold maxLen; omega, by simp, by simp, rfl, fun i hi => absurd hi (by simp [fsTo])⟩, by simp, by simp, by simp, by simp, by simp, by simp, H3.out.2.2.2.2⟩
  have Hst0 := Lib.hid hst0; clear hst0 H3
  go_loopw [12, 13] (fun fv kv wr => ∃ (k : Nat) (tv pv : Value) (S1 S2 S3 : List Nat), k ≤ N ∧ kv = .int .i64 k ∧ Hid (CSt 3 fI w NB m TG (tabsTo f m keys k) (plTo keys k) (fsTo keys k) fv tv pv S1 S2 S3 wr)) (fun _ kv _ => N - (intOf kv).toNat)
  case atStart => exact ⟨0, _, _, _, _, _, Nat.zero_le _, rfl, Hst0⟩
  case round =>
    clear Hst0
    obtain ⟨k, tv, pv, S1, S2, S3, hkN, rfl, hst⟩ := hrel
    obtain ⟨W2, rfl⟩ : ∃ W2, W2 = wr := ⟨_, rfl⟩
    have hz2 := hst.out.size
    by_cases hlt : k < N
    · have hlk : k < keys.length := by have := HN.out; omega
      have Hk2 := Lib.hid (RdII.ok.keep Hk.out (w' := W2) fun j hj => hst.out.bel.block j (by omega))
      have Ha2 := Lib.hid (RdII.ok.keep Ha.out (w' := W2) fun j hj => hst.out.bel.block j (by omega))
      obtain ⟨NF, hNF⟩ : ∃ n, (fsTo keys k).length = n := ⟨_, rfl⟩
      have hNd : (ddTo keys k).length = NF := (fsTo_len keys k).symm.trans hNF
      have hNk : NF ≤ k := by have := ddTo_len keys k; omega
      have HNF := Lib.hid hNF
      have HNd := Lib.hid hNd
      obtain ⟨af, cf, rfl, q1, q2⟩ := (Own.rd hst.out.kn (P := fun _ => True) (fun _ _ => trivial)).isSlice
      have Hfr := Lib.hid (Own.rd hst.out.kn (P := fun _ => True) (fun _ _ => trivial))
      rw [hNF] at hst Hfr q1 ⊢
      clear hNF hNd
      unfold maxLen at q2
      go_wp2
      go_loopw [14, 15] (fun av jv wi => ∃ (j n : Nat), j ≤ NF ∧ jv = .int .i64 j ∧ av = .int .i64 (atS (ddTo keys k) (nth keys k) j) ∧ Hid (W2.drewN n = wi)) (fun _ jv _ => NF - (intOf jv).toNat)
      case atStart => exact ⟨0, 0, Nat.zero_le _, rfl, rfl, Lib.hid rfl⟩
      case round =>
        obtain ⟨j, n, hj, rfl, rfl, hn3⟩ := hrel
        obtain ⟨W3, rfl⟩ : ∃ W3, W3 = wr := ⟨_, rfl⟩
        by_cases hjl : j < NF
        · obtain ⟨i, hi, ei, ed⟩ := fsTo_bd keys k j (by rw [HNF.out]; exact hjl)
          obtain ⟨bf, of, uf, rfl, _, hcf, rfl⟩ := Rd.elim Hfr.out j (by rw [HNF.out]; exact hjl)
          have hc1 : W3.cell? ⟨bf, of + j, none⟩ = some (.int .i64 i) := by rw [← hn3.out, ← ei]; exact hcf
          have Hk3 := Lib.hid (show RdII (· < B) W3 _ keys by rw [← hn3.out]; exact rd_draws RdII.ok Hk2.out n)
          obtain ⟨b5, o5, a5, c5, rfl, _, hc5, q5, q6, hr5⟩ := Rd.row Hk3.out hlk
          obtain ⟨b6, o6, a6, c6, eb, _, hc6, q7, q8, hr6⟩ := Rd.row Hk3.out (show i < keys.length by omega)
          simp only [Option.some.injEq, Addr.mk.injEq, and_true] at eb
          obtain ⟨rfl, rfl⟩ := eb
          have hiN : i < N := by omega
          unfold maxLen at q6 q8
          clear hcf ei
          by_cases he : nth (ddTo keys k) j = nth keys k
          · have hss : Hid (∀ n, Calls Try.prog 124 #[.slice a6 (nth keys i).length c6, .slice a5 (nth keys k).length c5] (W3.drewN n) fun e w' => e = .returned (.bool true) ∧ ∃ q, (W3.drewN n).drewN q = w') := Lib.hid (fun n => (specSame (rd_draws RdI.ok hr6 n) (rd_draws RdI.ok hr5 n)).mono (fun e w' h => by rw [ed, he] at h; simpa using h))
            have hat := Lib.hid (atS_hit (ddTo_nodup keys k) (by rw [HNd.out]; exact hjl) he)
            clear hr5 hr6 he ed
            go_wp2
            go_quiet ((go_at_call 124; exact quiet_draws (hss.out _)))
            go_wp2
            go_roundw
            case rel => exact ⟨j + 1, _, by omega, by go_num, by rw [hat.out], Lib.hid (draws_more hn3.out _)⟩
            case measure => simp [intOf]; omega
          · have hss : Hid (∀ n, Calls Try.prog 124 #[.slice a6 (nth keys i).length c6, .slice a5 (nth keys k).length c5] (W3.drewN n) fun e w' => e = .returned (.bool false) ∧ ∃ q, (W3.drewN n).drewN q = w') := Lib.hid (fun n => (specSame (rd_draws RdI.ok hr6 n) (rd_draws RdI.ok hr5 n)).mono (fun e w' h => by rw [ed, decide_eq_false he] at h; exact h))
            have hat := Lib.hid (atS_miss (by rw [HNd.out]; exact hjl) he)
            clear hr5 hr6 he ed
            go_wp2
            go_quiet ((go_at_call 124; exact quiet_draws (hss.out _)))
            go_wp2
            go_roundw
            case rel => exact ⟨j + 1, _, by omega, by go_num, by rw [hat.out], Lib.hid (draws_more hn3.out _)⟩
            case measure => simp [intOf]; omega
        · obtain ⟨hje⟩ : Nonempty (j = NF) := ⟨by omega⟩
          have hst3 := hst.out.keep (fun _ => rfl) (show Below W2.heap.size W2 W3 by rw [← hn3.out]; exact ⟨rfl, rfl, rfl, Nat.le_refl _, fun _ _ => rfl⟩)
          have hpl := Lib.hid (show (plTo keys k).length ≤ 20 by rw [plTo_len]; omega)
          have hfl := Lib.hid (show (fsTo keys k).length ≤ 20 by rw [HNF.out]; omega)
          have htl := Lib.hid (show (tabsTo f m keys k).length ≤ 20 by rw [tabsTo_len, HNd.out]; omega)
          obtain ⟨a8, n8, c8, rfl⟩ := hst3.pls.isSlice
          obtain ⟨a10, n10, c10, rfl⟩ := hst3.tabs.isSlice
          have Hst3 := Lib.hid hst3
          have f3 := frozen_at hst3.box 5
          have e3 := heap_cell hst3.box (i := 5) rfl
          clear hst3
          by_cases hmem : nth keys k ∈ ddTo keys k
          · obtain ⟨ix, hix, hat, hp1, hp2⟩ := key_in hmem
            rw [HNd.out] at hat
            rw [hje, hat]
            replace hp1 := Lib.hid hp1
            replace hp2 := Lib.hid hp2
            have hfy := Lib.hid (fsTo_yes hmem)
            have hix2 : ix < 20 := by have := HNd.out; omega
            have hix3 : ¬ ((ix : Nat) : Int) < 0 := by omega
            clear hmem hje hat hix
            go_wp2_with (at_builtin; refine wpList_push rfl _ _ 22 rfl oI.ok Try.underlying22 infoI64 rfl Hst3.out.pls (T := []) (y := (ix : Int)) ⟨rfl, rfl⟩ (by simp) (by have := hpl.out; omega) (by have := hpl.out; unfold maxLen; omega) rfl rfl ?_; intro v1 w5 S5 ho5 hn5 hS5; obtain ⟨a9, n9, c9, rfl⟩ := ho5.isSlice; obtain ⟨hbx5, hst5⟩ := Hst3.out.pushP (fun _ => rfl) ho5 hn5 hS5; have f5 := frozen_at hbx5 5; have e5 := heap_cell hbx5 (i := 5) rfl; have Hst5 := Lib.hid hst5; clear hst5 ho5 hn5 hS5 hbx5)
            go_roundw
            case rel => exact ⟨k + 1, _, _, _, _, _, by omega, by go_num, by
              have h := Hst5.out
              rw [show tabsTo f m keys k = tabsTo f m keys (k + 1) by unfold tabsTo; rw [hp1.out], ← hp2.out, ← hfy.out] at h
              exact Lib.hid h⟩
            case measure => simp [intOf]; omega
          · obtain ⟨hat, hp1, hp2⟩ := key_new hmem
            rw [HNd.out] at hat hp2
            rw [hje, hat]
            replace hp1 := Lib.hid hp1
            replace hp2 := Lib.hid hp2
            have hfy := Lib.hid (fsTo_no hmem)
            clear hmem hje hat
            have hm1 : ((-1 : Int) < 0) := by decide
            go_wp2_with (at_builtin; refine wpList_push rfl _ _ 54 rfl oI.ok Try.underlying54 infoInt rfl Hst3.out.kn (T := []) (y := (k : Int)) ⟨rfl, rfl⟩ (by simp) (by have := hfl.out; omega) (by have := hfl.out; unfold maxLen; omega) rfl rfl ?_; intro v4 w4 S4 ho4 hn4 hS4; have Hst4 := Lib.hid (Hst3.out.pushK (fun _ => rfl) ho4 hn4 hS4); obtain ⟨a4, n4, c4, rfl⟩ := ho4.isSlice; clear ho4 hn4 hS4)
            obtain ⟨hz4⟩ : Nonempty (w.heap.size + 1 < w4.heap.size) := ⟨Hst4.out.size⟩
            have Ha4 := RdII.ok.keep Ha.out (w' := w4) fun j hj => Hst4.out.bel.block j (by omega)
            obtain ⟨b7, o7, a7, c7, rfl, hP7, hc7, q7, q8, hr7⟩ := Rd.row Ha4 (show k < (keys.map f).length by simp; exact hlk)
            rw [show nth (keys.map f) k = f (nth keys k) from nth_map hlk] at hc7 q7 hr7
            have hb7 : b7 < B := hP7
            obtain ⟨hfl7, hfb7⟩ := Hf.out k hlt
            have hcw : w.cell? ⟨b7, o7 + k, none⟩ = some (.slice a7 (f (nth keys k)).length c7) := (Hst4.out.bel.cell (p := ⟨b7, o7 + k, none⟩) (by show b7 < _; omega)).symm.trans hc7
            have htb := tabOf_len m (f (nth keys k))
            have hcl : Hid (∀ q, Calls Try.prog 125 #[.slice a7 (f (nth keys k)).length c7, .int .i64 m] (w4.drewN q) fun e w' => ∃ g7 c7 S7, e = .returned (.slice (some ⟨g7, 0, none⟩) m c7) ∧ OII w' (.slice (some ⟨g7, 0, none⟩) m c7) (tabOf m (f (nth keys k))) S7 ∧ (∀ j ∈ S7, w4.heap.size ≤ j) ∧
                CSt 3 fI w NB m TG (tabsTo f m keys k) (plTo keys k) (fsTo keys k ++ [(k : Int)]) (.slice a4 n4 c4) (.slice a10 n10 c10) (.slice a8 n8 c8) S1 S2 S4 w') := Lib.hid fun q => by
              refine (specTable (w := w4.drewN q) (RdI.ok.keep hr7 fun _ _ => rfl) (fun j hj => by show j < w4.heap.size; have : j < B := hj; omega) hfl7 m hm hfb7).mono ?_
              rintro e w3 ⟨v7, rfl, hf7⟩
              obtain ⟨g7, c7, rfl⟩ := hf7.shape (by omega)
              rw [htb] at hf7 ⊢
              obtain ⟨S7, hr7, hS7, hb7⟩ := hf7
              exact ⟨g7, c7, S7, rfl, hr7, hS7, Hst4.out.keep (fun _ => rfl) ⟨hb7.os, hb7.tape, hb7.output, hb7.size, hb7.block⟩⟩
            have hsl2 := Lib.hid (OI.ok.lt Hst4.out.pls)
            have hsl3 := Lib.hid ((Own.ok (leaf.ok fun _ => rfl)).lt Hst4.out.kn)
            have e4 := heap_cell Hst4.out.box (i := 4) rfl
            have hsc := Lib.hid (show ∀ w', Below w.heap.size w w' → w'.cell? ⟨w.heap.size + 1, 4, none⟩ = some (.slice a10 n10 c10) → (w'.cell? ⟨w.heap.size + 1, 4, none⟩ = some (.slice a10 n10 c10) ∧ w'.cell? ⟨b7, o7 + k, none⟩ = some (.slice a7 (f (nth keys k)).length c7)) from fun w' hb h2 => ⟨h2, (hb.cell (p := ⟨b7, o7 + k, none⟩) (by show b7 < _; omega)).trans hcw⟩)
            have hS0 := hsc.out w4.drew (Below.draws Hst4.out.bel 1) e4
            have htn := Lib.hid (show tabsTo f m keys k ++ [tabOf m (f (nth keys k))] = tabsTo f m keys (k + 1) by unfold tabsTo; rw [hp1.out, List.map_append]; rfl)
            clear hc7 hr7 hfl7 hfb7 hcw htb Ha4 e4 q7 q8 hP7
            generalize (f (nth keys k)).length = L7 at *
            generalize tabOf m (f (nth keys k)) = tab at *
            refine wp_region_float 7 (fun w' => w'.cell? ⟨w.heap.size + 1, 4, none⟩ = some (.slice a10 n10 c10) ∧ w'.cell? ⟨b7, o7 + k, none⟩ = some (.slice a7 L7 c7)) (by kernel_rfl) (by kernel_rfl) hS0 ?_
            clear hS0
            intro hS0
            simp only [List.take_succ_cons, List.take_zero, List.drop_succ_cons, List.drop_zero]
            iterate 7 (refine wpReads_cons _ (by rfl) (by intro w' hSw; (try dsimp only at hSw); go_simp; try (with_reducible rfl)) ?_; try simp only [Act.put, List.setIfInBounds_toArray, List.set_cons_zero, List.set_cons_succ])
            refine wpReads_nil ?_
            refine wpTail_cons fun K hK => ?_
            go_simp
            refine (Calls.mono (hcl.out _) ?_)
            rintro e w6 ⟨g7, c7', S7, rfl, hr7, hS7, hst6⟩
            have e6 := heap_cell hst6.box (i := 4) rfl
            have hl6 := hst6.size
            have e6' : (w6.alloc (.cells #[.slice (some ⟨g7, 0, none⟩) m c7'] 38)).cell? ⟨w.heap.size + 1, 4, none⟩ = some (.slice a10 n10 c10) := (World.cell?_alloc_past _ _ _ hl6).trans e6
            have hT7 := Lib.hid (show ∀ j ∈ S7, w.heap.size + 1 < j ∧ j ∉ S2 ∧ j ∉ S4 from fun j hj => by have := hS7 j hj; exact ⟨by omega, fun hm => by have := hsl2.out j hm; omega, fun hm => by have := hsl3.out j hm; omega⟩)
            have hsl1 := OIII.ok.lt Hst4.out.tabs
            have hdis := Lib.hid (show ∀ j ∈ S7, j ∉ S1 from fun j hj hm => by have := hS7 j hj; have := hsl1 j hm; omega)
            have Hr7 := Lib.hid hr7
            have Hst6 := Lib.hid hst6
            clear hr7 hS7 hst6 hsl1
            refine hK.out _ _ (hsc.out _ Hst6.out.bel e6) ?_
            clear hK K hS0
            try simp only [Act.put, List.setIfInBounds_toArray, List.set_cons_zero, List.set_cons_succ]
            refine wpTail_cons fun K hK => ?_
            go_simp
            refine hK.out _ _ (hsc.out _ (Below.alloc Hst6.out.bel (by omega) _) e6') ?_
            clear hK K
            try simp only [Act.put, List.setIfInBounds_toArray, List.set_cons_zero, List.set_cons_succ]
            refine wpTail_cons fun K hK => ?_
            refine step_push rfl _ _ 26 rfl OII.ok Try.underlying26 infoSl3' rfl w6 Hst6.out.tabs tab S7 Hr7.out hdis.out (by have := htl.out; omega) (by have := htl.out; unfold maxLen; omega) rfl rfl rfl ?_
            intro v7 w7 S8 ho7 hn7 hS8
            obtain ⟨a12, n12, c12, rfl⟩ := ho7.isSlice
            obtain ⟨hbx7, hst7⟩ := Hst6.out.pushT (fun _ => rfl) hT7.out ho7 hn7 hS8
            have f7 := frozen_at hbx7 4
            have e7 := heap_cell hbx7 (i := 4) rfl
            have Hbel7 := Lib.hid (show Below w.heap.size w w7 from below_only Hst6.out.bel hn7 (by omega) fun j hj => by have := Hst6.out.b1 j hj; omega)
            rw [htn.out] at hst7
            have f8 := frozen_at hst7.box 5
            have e8 := heap_cell hst7.box (i := 5) rfl
            have Hst7 := Lib.hid hst7
            clear ho7 hn7 hS8 hbx7 hst7
            refine hK.out _ _ (hsc.out _ Hbel7.out e7) ?_
            clear hK K
            try simp only [Act.put, List.setIfInBounds_toArray, List.set_cons_zero, List.set_cons_succ]
            refine wpTail_cons fun K hK => ?_
            go_simp
            refine hK.out _ _ (hsc.out _ Hbel7.out e7) ?_
            clear hK K
            try simp only [Act.put, List.setIfInBounds_toArray, List.set_cons_zero, List.set_cons_succ]
            refine wpTail_one ?_
            go_wp2_with fail
            refine NoPanic.normal ?_
            clear f3 e3
            generalize w7.setCell ⟨w.heap.size + 1, 4, none⟩ (.slice a12 n12 c12) = w8 at *
            go_wp2_with (at_builtin; refine wpList_push rfl _ _ 22 rfl oI.ok Try.underlying22 infoI64 rfl Hst7.out.pls (T := []) (y := (NF : Int)) ⟨rfl, rfl⟩ (by simp) (by have := hpl.out; omega) (by have := hpl.out; unfold maxLen; omega) rfl rfl ?_; intro v1 w5 S5 ho5 hn5 hS5; obtain ⟨a9, n9, c9, rfl⟩ := ho5.isSlice; obtain ⟨hbx5, hst5⟩ := Hst7.out.pushP (fun _ => rfl) ho5 hn5 hS5; have f5 := frozen_at hbx5 5; have e5 := heap_cell hbx5 (i := 5) rfl; have Hst5 := Lib.hid hst5; clear hst5 ho5 hn5 hS5 hbx5)
            go_roundw
            case rel => exact ⟨k + 1, _, _, _, _, _, by omega, by go_num, by
              have h := Hst5.out
              rw [← hp2.out, ← hfy.out] at h
              exact Lib.hid h⟩
            case measure => simp [intOf]; omega
    · obtain ⟨hkn⟩ : Nonempty (k = keys.length) := ⟨by have := HN.out; omega⟩
      obtain ⟨a8, n8, c8, rfl⟩ := hst.out.pls.isSlice
      obtain ⟨a10, n10, c10, rfl⟩ := hst.out.tabs.isSlice
      have d0 := heap_cell hst.out.box (i := 0) rfl
      have d1 := heap_cell hst.out.box (i := 1) rfl
      have d2 := heap_cell hst.out.box (i := 2) rfl
      have d3 := heap_cell hst.out.box (i := 3) rfl
      have d4 := heap_cell hst.out.box (i := 4) rfl
      have d5 := heap_cell hst.out.box (i := 5) rfl
      have z0 := heap_cell hst.out.zero (i := 0) rfl
      have z1 := heap_cell hst.out.zero (i := 1) rfl
      have z2 := heap_cell hst.out.zero (i := 2) rfl
      have z3 := heap_cell hst.out.zero (i := 3) rfl
      have z4 := heap_cell hst.out.zero (i := 4) rfl
      have z5 := heap_cell hst.out.zero (i := 5) rfl
      have f0 := frozen_at hst.out.zero 0
      have f1 := frozen_at hst.out.zero 1
      have f2 := frozen_at hst.out.zero 2
      have f3 := frozen_at hst.out.zero 3
      have f4 := frozen_at hst.out.zero 4
      have f5 := frozen_at hst.out.zero 5
      have hx := Lib.hid (show addC keys f NB m TG = ⟨NB, m, 0, TG, tabsTo f m keys k, plTo keys k⟩ by rw [hkn]; rfl)
      clear hkn
      go_wp2
      refine bodyPost_ret (v := .agg #[.int .i64 NB, .int .i64 m, .int .i64 0, .int .i64 TG, .slice a10 n10 c10, .slice a8 n8 c8]) (by simp [results, Try.results70, go_sem, z0, z1, z2, z3, z4, z5]) rfl ⟨_, rfl, hst.out.done (fun _ => rfl) (by repeat' (first | with_reducible exact Only.refl _ _ | with_reducible refine Only.put ?_ ?_ _ _ | (simp; done))) hx.out⟩
end Go.Proofs.Ytnpkanlieflbiaa
