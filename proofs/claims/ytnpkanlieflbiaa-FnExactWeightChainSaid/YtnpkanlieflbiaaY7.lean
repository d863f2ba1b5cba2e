/- The chain that adds, walked (the program). -/
import Derived.Test.YtnpkanlieflbiaaY5
import Derived.Test.YtnpkanlieflbiaaY2
namespace Go.Proofs.Ytnpkanlieflbiaa
open Go.RowKit
set_option linter.unusedVariables false

abbrev Hdr := Option Addr × Nat × Nat
abbrev gH : Hdr → Value := fun h => .slice h.1 h.2.1 h.2.2
theorem gH_one (h : Hdr) : (gH h).oneCell' = true := rfl
theorem firstIx_at {L : List (List Int)} (hn : L.Nodup) (x : List Int) : firstIx L.length (fun i => decide (nth L i = x)) = atS L x L.length := by
  by_cases h : x ∈ L
  · obtain ⟨j, hj, e⟩ := List.mem_iff_getElem.1 h
    have hj2 : nth L j = x := by rw [nth_eq hj]; exact e
    rw [atS_yes h, idx_at hn hj hj2]
    refine firstIx_hit hj (fun i hi => ?_) (by simp [hj2])
    simp only [decide_eq_false_iff_not]
    intro e2
    have h1 := idx_at hn (show i < L.length by omega) e2
    have h2 := idx_at hn hj hj2
    omega
  · rw [atS_no h]
    refine firstIx_miss fun i hi => ?_
    simp only [decide_eq_false_iff_not]
    intro e2
    exact h (e2 ▸ nth_mem hi)
/-- A list of headers reads as the lists behind them. -/
theorem hdr_rd {B : Nat} {wr : World} {fv : Value} {hs : List Hdr} {L : List (List Int)} {S : List Nat} (ho : Own 22 (leaf gH) wr fv hs S) (hl : hs.length = L.length) (hr : ∀ j, j < hs.length → RdI (· < B) wr (gH (nth hs j)) (nth L j)) (hB : B ≤ wr.heap.size) : RdII (· < wr.heap.size) wr fv L := by
  have hlt := (Own.ok (leaf.ok gH_one)).lt ho
  rcases ho with ⟨rfl, rfl, rfl⟩ | ⟨g, cap, cur, Ss, rfl, hh, h1, h2, h3, rfl, hN, hl2, he⟩
  · have : L = [] := List.eq_nil_of_length_eq_zero (by simpa using hl.symm)
    subst this
    exact ⟨none, 0, rfl, by simp, by simp, fun i hi => absurd hi (by simp)⟩
  · refine ⟨_, _, by rw [hl], by omega, h3, fun i hi => ?_⟩
    obtain ⟨u, hu, hr2⟩ := he i (by omega)
    refine ⟨g, 0, u, rfl, hlt g (by simp), ?_, ?_⟩
    · rw [Nat.zero_add, cell_of_row wr g i cur _ (0, 0) hh, hu]
    · rw [hr2.1]
      exact RdI.ok.mono (hr i (by omega)) fun k hk => by show k < _; have : k < B := hk; omega
theorem infoSl'' : (Try.prog.info? 22).map (fun i => (i.zero, i.size, i.bytes)) = some (some (.slice none 0 0), 1, 24) := by kernel_rfl

theorem set_size7 (w : World) (p : Addr) (v : Value) : (w.setCell p v).heap.size = w.heap.size := by simp
set_option maxHeartbeats 3200000 in
set_option maxRecDepth 100000 in
theorem implAdding {B : Nat} {lv : Value} {lists : List (List Int)} {w : World} (hl : RdII (· < B) w lv lists) (hB : B ≤ w.heap.size) (NB m TG : Nat)
    (hn : lists.length ≤ 20) (hm : 1 ≤ m ∧ m ≤ 36) (hf : ∀ i, i < lists.length → (nth lists i).length ≤ 36 ∧ ∀ j, j < (nth lists i).length → 0 ≤ nth (nth lists i) j ∧ nth (nth lists i) j ≤ 2000) :
    Calls Try.prog 72 #[.int .i64 NB, .int .i64 m, .int .i64 TG, lv] w fun e w' => ∃ v', e = .returned v' ∧ Fresh OC w w' v' (addC lists id NB m TG) := by
  obtain ⟨a1, c1, rfl, h1, h2⟩ := hl.isSlice
  have Hk := Lib.hid hl; clear hl
  have Hf := Lib.hid hf; clear hf
  obtain ⟨N, hN⟩ : ∃ N, lists.length = N := ⟨_, rfl⟩
  rw [hN] at h1 hn Hk Hf ⊢
  have HN := Lib.hid hN; clear hN
  unfold maxLen at h2
  have H3 := Lib.hid (three w (.cells #[.int .i64 0, .int .i64 0, .int .i64 0, .int .i64 0, .slice none 0 0, .slice none 0 0] 28) (.cells #[.int .i64 NB, .int .i64 m, .int .i64 0, .int .i64 TG, .slice none 0 0, .slice none 0 0] 28) (.cells #[] 22) 0)
  go_enter Try.func72, Try.ntmps72
  go_wp2
  have hst0 : CSt 22 gH w NB m TG (tabsTo id m lists 0) (plTo lists 0) [] (.slice (some ⟨w.heap.size + 1 + 1, 0, none⟩) 0 0) (.slice none 0 0) (.slice none 0 0) [] [] [w.heap.size + 1 + 1] (((w.alloc (.cells #[.int .i64 0, .int .i64 0, .int .i64 0, .int .i64 0, .slice none 0 0, .slice none 0 0] 28)).alloc (.cells #[.int .i64 NB, .int .i64 m, .int .i64 0, .int .i64 TG, .slice none 0 0, .slice none 0 0] 28)).alloc (.cells #[] 22)) :=
    ⟨H3.out.1, H3.out.2.1, own_nil _, own_nil _, .inr ⟨_, 0, #[], [], rfl, H3.out.2.2.1, rfl, Nat.le_refl _, by unfold maxLen; omega, by simp, by simp, rfl, fun i hi => absurd hi (by simp)⟩, by simp, by simp, by simp, by simp, by simp, by simp, H3.out.2.2.2.2⟩
  have Hst0 := Lib.hid hst0; clear hst0 H3
  go_loopw [10, 26] (fun fv kv wr => ∃ (k : Nat) (tv pv : Value) (S1 S2 S3 : List Nat) (hs : List Hdr), k ≤ N ∧ kv = .int .i64 k ∧ Hid (CSt 22 gH w NB m TG (tabsTo id m lists k) (plTo lists k) hs fv tv pv S1 S2 S3 wr) ∧ Hid (hs.length = (ddTo lists k).length) ∧ Hid (∀ j, j < hs.length → RdI (· < B) w (gH (nth hs j)) (nth (ddTo lists k) j))) (fun _ kv _ => N - (intOf kv).toNat)
  case atStart => exact ⟨0, _, _, _, _, _, [], Nat.zero_le _, rfl, Hst0, Lib.hid rfl, Lib.hid (fun j hj => by simp at hj)⟩
  case round =>
    clear Hst0
    obtain ⟨k, tv, pv, S1, S2, S3, hs, hkN, rfl, hst, hsl, hsr⟩ := hrel
    obtain ⟨W2, rfl⟩ : ∃ W2, W2 = wr := ⟨_, rfl⟩
    have hz2 := hst.out.size
    by_cases hlt : k < N
    · have hlk : k < lists.length := by have := HN.out; omega
      have Hk2 := Lib.hid (RdII.ok.keep Hk.out (w' := W2) fun j hj => hst.out.bel.block j (by omega))
      obtain ⟨b7, o7, a7, c7, rfl, hP7, hc7, q7, q8, hr7⟩ := Rd.row Hk2.out hlk
      have hb7 : b7 < B := hP7
      have Hr8 := Lib.hid (show RdI (· < B) w _ (nth lists k) from RdI.ok.keep hr7 fun j hj => (hst.out.bel.block j (by omega)).symm)
      obtain ⟨hfl7, hfb7⟩ := Hf.out k hlt
      unfold maxLen at q8
      have hNd : (ddTo lists k).length ≤ 20 := by have := ddTo_len lists k; omega
      obtain ⟨af, cf, rfl, q1, q2⟩ := (Own.rd hst.out.kn (P := fun _ => True) (fun _ _ => trivial)).isSlice
      obtain ⟨NF, hNF⟩ : ∃ n, hs.length = n := ⟨_, rfl⟩
      have hNF2 : (ddTo lists k).length = NF := by rw [← hNF]; exact hsl.out.symm
      rw [hNF] at hst q1 hsr ⊢
      have HNF := Lib.hid hNF
      have HNd := Lib.hid hNF2
      unfold maxLen at q2
      have hNF20 : NF ≤ 20 := by omega
      have Hfb7 := Lib.hid hfb7
      have hb3 := Lib.hid ((Below.refl W2.heap.size W2).alloc (Nat.le_refl _) (.cells #[.slice a7 (nth lists k).length c7] 22))
      have hlb := Lib.hid (heap_alloc_new W2 (.cells #[.slice a7 (nth lists k).length c7] 22))
      have hst3 := Lib.hid (hst.out.keep gH_one hb3.out)
      have hFv := Lib.hid (hdr_rd hst3.out.kn hsl.out (fun j hj => RdI.ok.keep (hsr.out j (by omega)) fun i hi => hst3.out.bel.block i (by have : i < B := hi; omega)) (by have := hst3.out.bel.size; omega))
      have hIx := Lib.hid (slIndexFunc2 hFv.out (Nat.le_refl _) 130 #[.pointer (some ⟨W2.heap.size, 0, none⟩)] (fun i => decide (nth (ddTo lists k) i = nth lists k))
        (fun i hi u w1 hb hr => by
          have hbw := hst3.out.bel.trans (hb.mono hst3.out.bel.size)
          refine (implAdding1 hr (RdI.ok.keep Hr8.out (w' := w1) fun j hj => hbw.block j (by have : j < B := hj; omega)) (heap_cell (below_heap hb hlb.out) (i := 0) rfl)).mono ?_
          rintro e w2 ⟨rfl, q, rfl⟩
          exact ⟨rfl, ⟨rfl, rfl, rfl, Nat.le_refl _, fun _ _ => rfl⟩⟩) (fun args w => rfl))
      rw [firstIx_at (ddTo_nodup lists k)] at hIx
      have hpl := Lib.hid (show (plTo lists k).length ≤ 20 by rw [plTo_len]; omega)
      have htl := Lib.hid (show (tabsTo id m lists k).length ≤ 20 by rw [tabsTo_len]; omega)
      have hhl := Lib.hid (show hs.length ≤ 20 by omega)
      obtain ⟨a8, n8, c8, rfl⟩ := hst.out.pls.isSlice
      obtain ⟨a10, n10, c10, rfl⟩ := hst.out.tabs.isSlice
      clear hr7 hNF hNF2 hNd hfb7
      by_cases hmem : nth lists k ∈ ddTo lists k
      · obtain ⟨ix, hix, hat, hp1, hp2⟩ := key_in hmem
        rw [hat] at hIx
        have hp1 := Lib.hid hp1
        have hp2 := Lib.hid hp2
        have hix2 : ix < 20 := by have := HNd.out; omega
        have hix3 : ¬ ((ix : Nat) : Int) < 0 := by omega
        clear hmem hat hix
        go_wp2_with fail
        refine (Calls.mono hIx.out ?_)
        rintro e w4 ⟨rfl, hb4⟩
        have Hst4 := Lib.hid (hst3.out.keep gH_one hb4)
        have f4 := frozen_at Hst4.out.box 5
        have e4 := heap_cell Hst4.out.box (i := 5) rfl
        clear hb4
        go_wp2_with (at_builtin; refine wpList_push rfl _ _ 22 rfl oI.ok Try.underlying22 infoI64 rfl Hst4.out.pls (T := []) (y := (ix : Int)) ⟨rfl, rfl⟩ (by simp) (by have := hpl.out; omega) (by have := hpl.out; unfold maxLen; omega) rfl rfl ?_; intro v9 w9 S9 ho9 hn9 hS9; obtain ⟨a9, n9, c9, rfl⟩ := ho9.isSlice; obtain ⟨hbx9, hst9⟩ := Hst4.out.pushP gH_one ho9 hn9 hS9; have f9 := frozen_at hbx9 5; have e9 := heap_cell hbx9 (i := 5) rfl; have Hst9 := Lib.hid hst9; clear hst9 ho9 hn9 hS9 hbx9)
        go_roundw
        case rel => exact ⟨k + 1, _, _, _, _, _, hs, by omega, by go_num, by
          have h := Hst9.out
          rw [show tabsTo id m lists k = tabsTo id m lists (k + 1) by unfold tabsTo; rw [hp1.out], ← hp2.out] at h
          exact Lib.hid h, by rw [hp1.out]; exact hsl, by rw [hp1.out, HNF.out]; exact hsr⟩
        case measure => simp [intOf]; omega
      · obtain ⟨hat, hp1, hp2⟩ := key_new hmem
        rw [hat] at hIx
        rw [HNd.out] at hp2
        have hp1 := Lib.hid hp1
        have hp2 := Lib.hid hp2
        have hm1 : ((-1 : Int) < 0) := by decide
        clear hmem hat
        go_wp2_with fail
        refine (Calls.mono hIx.out ?_)
        rintro e w4 ⟨rfl, hb4⟩
        have Hst4 := Lib.hid (hst3.out.keep gH_one hb4)
        have hlb4 := below_heap hb4 hlb.out
        have Hlb4 := Lib.hid hlb4
        have e4 := heap_cell hlb4 (i := 0) rfl
        have hlt4 := heap_lt hlb4
        have hbS : ∀ j ∈ S3, j ≠ W2.heap.size := fun j hj => by have := (Own.ok (leaf.ok gH_one)).lt hst.out.kn j hj; omega
        have HbS := Lib.hid hbS
        clear hb4 hlb4 hbS
        go_wp2_with (at_builtin; refine wpList_push rfl _ _ 38 rfl (leaf.ok gH_one) Try.underlying38 infoSl'' rfl Hst4.out.kn (T := []) (y := (a7, (nth lists k).length, c7)) ⟨rfl, rfl⟩ (by simp) (by have := hhl.out; omega) (by have := hhl.out; unfold maxLen; omega) rfl rfl ?_; intro v5 w5 S5 ho5 hn5 hS5; have Hst5 := Lib.hid (Hst4.out.pushK gH_one ho5 hn5 hS5); have Hlb5 := Lib.hid (Only.heap hn5 Hlb4.out (fun hm => HbS.out _ hm rfl)); obtain ⟨a5, n5, c5, rfl⟩ := ho5.isSlice; clear ho5 hn5 hS5)
        have hb5 := Hst5.out.size
        have hlt5 := heap_lt Hlb5.out
        have Hr5 := Lib.hid (RdI.ok.keep Hr8.out (w' := w5) fun j hj => Hst5.out.bel.block j (by have : j < B := hj; omega))
        have hbw5 := Lib.hid Hst5.out.bel
        have hsz5 := Hst5.out.bel.size
        have htn := Lib.hid (show tabsTo id m lists k ++ [tabOf m (nth lists k)] = tabsTo id m lists (k + 1) by unfold tabsTo; rw [hp1.out, List.map_append]; rfl)
        have hsr2 := Lib.hid (show ∀ j, j < (hs ++ [((a7, (nth lists k).length, c7) : Hdr)]).length → RdI (· < B) w (gH (nth (hs ++ [((a7, (nth lists k).length, c7) : Hdr)]) j)) (nth (ddTo lists k ++ [nth lists k]) j) from fun j hj => by
          by_cases hj2 : j < NF
          · rw [nth_append_left (by rw [HNF.out]; exact hj2), nth_append_left (by rw [HNd.out]; exact hj2)]
            exact hsr.out j hj2
          · have hje : j = NF := by rw [List.length_append, HNF.out] at hj; simp at hj; omega
            have e1 := nth_append_last hs ((a7, (nth lists k).length, c7) : Hdr)
            rw [HNF.out] at e1
            have e2 := nth_append_last (ddTo lists k) (nth lists k)
            rw [HNd.out] at e2
            rw [hje, e1, e2]
            exact Hr8.out)
        rw [← hp1.out] at hsr2
        have hsl2 := Lib.hid (show (hs ++ [((a7, (nth lists k).length, c7) : Hdr)]).length = (ddTo lists (k + 1)).length by rw [hp1.out, List.length_append, List.length_append, HNF.out, HNd.out]; rfl)
        clear hIx hFv hp1 e4 hlt4 hc7 hlb hb3 hst3 hst Hst4 Hlb4 HbS
        generalize nth lists k = xs at *
        go_loopw [14, 43] (fun tv sv wi => ∃ s : Nat, s ≤ m ∧ sv = .int .i64 s ∧ Hid (Fresh OII w5 wi tv (tabTo m xs s))) (fun _ sv _ => m - (intOf sv).toNat)
        case atStart => exact ⟨0, Nat.zero_le _, rfl, Lib.hid (Fresh.empty (Below.refl _ _))⟩
        case round =>
          obtain ⟨s, hs', rfl, hft⟩ := hrel
          obtain ⟨W6, rfl⟩ : ∃ W6, W6 = wr := ⟨_, rfl⟩
          have hz6 := hft.out.bel.size
          have e6 : W6.cell? ⟨W2.heap.size, 0, none⟩ = some (.slice a7 xs.length c7) := heap_cell (below_heap hft.out.bel Hlb5.out) (i := 0) rfl
          have hlt6 : W2.heap.size < W6.heap.size := by omega
          by_cases hsm : s < m
          · go_wp2
            go_loopw [16, 49] (fun rv jv wi => ∃ j : Nat, j ≤ xs.length ∧ jv = .int .i64 j ∧ Hid (Fresh OI W6 wi rv (rowTo m xs s j))) (fun _ jv _ => xs.length - (intOf jv).toNat)
            case atStart => exact ⟨0, Nat.zero_le _, rfl, Lib.hid (Fresh.empty (Below.refl _ _))⟩
            case round =>
              obtain ⟨j, hj, rfl, hg⟩ := hrel
              obtain ⟨W7, rfl⟩ : ∃ W7, W7 = wr := ⟨_, rfl⟩
              by_cases hjl : j < xs.length
              · have H7 := RdI.ok.keep Hr5.out (w' := W7) fun i hi => (hg.out.bel.block i (by have : i < B := hi; omega)).trans (hft.out.bel.block i (by have : i < B := hi; omega))
                obtain ⟨b3, o3, u3, rfl, _, hc3, rfl⟩ := Rd.elim H7 j hjl
                have hc : W7.cell? ⟨b3, o3 + j, none⟩ = some (.int .i64 (nth xs j)) := hc3
                have hxj := Hfb7.out j hjl
                have hs2 := Lib.hid (rowTo_succ (m := m) (s := s) hjl)
                have hln := Lib.hid (rowTo_len (m := m) (s := s) hj)
                clear hc3 H7 e6
                generalize nth xs j = z at *
                have g1 := Int.emod_nonneg ((s : Int) + z) (show (m : Int) ≠ 0 by omega)
                have g2 := Int.emod_lt_of_pos ((s : Int) + z) (show (0 : Int) < (m : Int) by omega)
                have t1 : Int.tmod ((s : Int) + z) (m : Int) = ((s : Int) + z) % (m : Int) := Int.tmod_eq_emod_of_nonneg (by omega)
                have t2 : wrap64 ((s : Int) + z) = (s : Int) + z := IntWalk.wrap64_in _ (by omega)
                have t3 : wrap64 (((s : Int) + z) % (m : Int)) = ((s : Int) + z) % (m : Int) := IntWalk.wrap64_in _ (by omega)
                have hm0 : ¬ m = 0 := by omega
                have hm1' : ¬ (m : Int) = 0 := by omega
                go_wp2_with (at_builtin; refine wpList_pushF rfl _ _ 22 rfl (f := fI) (fun _ => rfl) Try.underlying22 infoI64 rfl hg.out (((s : Int) + z) % (m : Int)) (by have := hln.out; omega) (by have := hln.out; unfold maxLen; omega) rfl rfl ?_; intro v1 w1 hf1; have Hf1 := Lib.hid hf1; clear hf1)
                go_roundw
                case rel => exact ⟨j + 1, by omega, by go_num, by rw [hs2.out]; exact Hf1⟩
                case measure => simp [intOf]; omega
              · obtain ⟨hje⟩ : Nonempty (j = xs.length) := ⟨by omega⟩
                have hg2 : Hid (Fresh OI W6 W7 _ (rowTo m xs s xs.length)) := Lib.hid (by rw [hje] at hg; exact hg.out)
                obtain ⟨S, T, p1, p2, p3, p4⟩ := pushRow OI.ok hft.out hg2.out
                have Hp1 := Lib.hid p1
                have Hp2 := Lib.hid p2
                have Hp3 := Lib.hid p3
                have Hp4 := Lib.hid p4
                have hln := Lib.hid (tabTo_len m xs s)
                have hs2 := Lib.hid (tabTo_succ m xs s)
                obtain ⟨av, nv, cv, rfl⟩ := p1.isSlice
                obtain ⟨a13, n13, c13, rfl⟩ := p2.isSlice
                clear p1 p2 p3 p4 hje hg hg2 e6
                go_wp2_with (at_builtin; refine wpList_push rfl _ _ 38 rfl OI.ok Try.underlying38 infoSl' rfl Hp1.out Hp2.out Hp3.out (by have := hln.out; omega) (by have := hln.out; unfold maxLen; omega) rfl rfl ?_; intro v1 w8 S8 hown1 honly1 hS8; have Hf5 := Lib.hid (Hp4.out v1 w8 S8 hown1 honly1 hS8); clear hown1 honly1 hS8)
                go_roundw
                case rel => exact ⟨s + 1, by omega, by go_num, by rw [hs2.out]; exact Hf5⟩
                case measure => simp [intOf]; omega
          · obtain ⟨hsm⟩ : Nonempty (s = m) := ⟨by omega⟩
            have hft2 : Hid (Fresh OII w5 W6 _ (tabOf m xs)) := Lib.hid (by rw [hsm] at hft; exact hft.out)
            have Hst6 := Lib.hid (Hst5.out.keep gH_one hft2.out.bel)
            obtain ⟨T7, hown7, hT7, _⟩ := hft2.out
            obtain ⟨a14, n14, c14, rfl⟩ := hown7.isSlice
            have Hown7 := Lib.hid hown7
            have hsl2' := OI.ok.lt Hst5.out.pls
            have hsl3' := (Own.ok (leaf.ok gH_one)).lt Hst5.out.kn
            have hsl1' := OIII.ok.lt Hst5.out.tabs
            have HT7 := Lib.hid (show ∀ j ∈ T7, w.heap.size + 1 < j ∧ j ∉ S2 ∧ j ∉ S5 from fun j hj => by have := hT7 j hj; exact ⟨by omega, fun hm => by have := hsl2' j hm; omega, fun hm => by have := hsl3' j hm; omega⟩)
            have hdis := Lib.hid (show ∀ j ∈ T7, j ∉ S1 from fun j hj hm => by have := hT7 j hj; have := hsl1' j hm; omega)
            have e4 := heap_cell Hst6.out.box (i := 4) rfl
            have f4 := frozen_at Hst6.out.box 4
            clear hown7 hT7 hsl1' hsl2' hsl3' hsm hft hft2 e6
            go_wp2_with (first
              | (at_builtin; refine wpList_push rfl _ _ 26 rfl OII.ok Try.underlying26 infoSl3' rfl Hst6.out.tabs Hown7.out hdis.out (by have := htl.out; omega) (by have := htl.out; unfold maxLen; omega) rfl rfl ?_; intro v8 w8 S8 ho8 hn8 hS8; obtain ⟨a12, n12, c12, rfl⟩ := ho8.isSlice; obtain ⟨hbx8, hst8⟩ := Hst6.out.pushT gH_one HT7.out ho8 hn8 hS8; have f8 := frozen_at hbx8 4; have e8 := heap_cell hbx8 (i := 4) rfl; have e8b := heap_cell hbx8 (i := 5) rfl; have Hst8 := Lib.hid hst8; clear hst8 ho8 hn8 hS8 hbx8)
              | (at_builtin; refine wpList_push rfl _ _ 22 rfl oI.ok Try.underlying22 infoI64 rfl Hst8.out.pls (T := []) (y := (NF : Int)) ⟨rfl, rfl⟩ (by simp) (by have := hpl.out; omega) (by have := hpl.out; unfold maxLen; omega) rfl (by rw [set_size7]; rfl) ?_; intro v9 w9 S9 ho9 hn9 hS9; obtain ⟨a9, n9, c9, rfl⟩ := ho9.isSlice; obtain ⟨hbx9, hst9⟩ := Hst8.out.pushP gH_one ho9 hn9 hS9; have f9 := frozen_at hbx9 5; have e9 := heap_cell hbx9 (i := 5) rfl; have Hst9 := Lib.hid hst9; clear hst9 ho9 hn9 hS9 hbx9))
            go_roundw
            case rel => exact ⟨k + 1, _, _, _, _, _, hs ++ [((a7, xs.length, c7) : Hdr)], by omega, by go_num, by
              have h := Hst9.out
              rw [htn.out, ← hp2.out] at h
              exact Lib.hid h, hsl2, hsr2⟩
            case measure => simp [intOf]; omega
    · obtain ⟨hkn⟩ : Nonempty (k = lists.length) := ⟨by have := HN.out; omega⟩
      obtain ⟨a8, n8, c8, rfl⟩ := hst.out.pls.isSlice
      obtain ⟨a10, n10, c10, rfl⟩ := hst.out.tabs.isSlice
      have d0 := heap_cell hst.out.box (i := 0) rfl
      have d1 := heap_cell hst.out.box (i := 1) rfl
      have d2 := heap_cell hst.out.box (i := 2) rfl
      have d3 := heap_cell hst.out.box (i := 3) rfl
      have d4 := heap_cell hst.out.box (i := 4) rfl
      have d5 := heap_cell hst.out.box (i := 5) rfl
      have z0 := heap_cell hst.out.zero (i := 0) rfl
      have z1 := heap_cell hst.out.zero (i := 1) rfl
      have z2 := heap_cell hst.out.zero (i := 2) rfl
      have z3 := heap_cell hst.out.zero (i := 3) rfl
      have z4 := heap_cell hst.out.zero (i := 4) rfl
      have z5 := heap_cell hst.out.zero (i := 5) rfl
      have f0 := frozen_at hst.out.zero 0
      have f1 := frozen_at hst.out.zero 1
      have f2 := frozen_at hst.out.zero 2
      have f3 := frozen_at hst.out.zero 3
      have f4 := frozen_at hst.out.zero 4
      have f5 := frozen_at hst.out.zero 5
      have hx := Lib.hid (show addC lists id NB m TG = ⟨NB, m, 0, TG, tabsTo id m lists k, plTo lists k⟩ by rw [hkn]; rfl)
      clear hkn
      go_wp2
      refine bodyPost_ret (v := .agg #[.int .i64 NB, .int .i64 m, .int .i64 0, .int .i64 TG, .slice a10 n10 c10, .slice a8 n8 c8]) (by simp [results, Try.results72, go_sem, z0, z1, z2, z3, z4, z5]) rfl ⟨_, rfl, hst.out.done gH_one (by repeat' (first | with_reducible exact Only.refl _ _ | with_reducible refine Only.put ?_ ?_ _ _ | (simp; done))) hx.out⟩
end Go.Proofs.Ytnpkanlieflbiaa
