/- Weightings times a number: impl. -/
import Derived.Test.YtphlohplkadenaaV11
import Derived.Test.YtphlohplkadenaaV5
import Derived.Deep.RegionWith
import Derived.Deep.DeepCutAuto
namespace Go.Proofs.Ytphlohplkadenaa
open Go.RowKit
set_option linter.unusedVariables false

def sclTo (m d : Int) (xs : List Int) (k : Nat) : List Int := (sclL m d xs).take k ++ xs.drop k
theorem sclTo_len (m d : Int) (xs : List Int) (k : Nat) : (sclTo m d xs k).length = xs.length := by
  unfold sclTo; rw [List.length_append, List.length_take, List.length_drop, sclL_len]; omega
theorem sclTo_nth {m d : Int} {xs : List Int} {k i : Nat} (hk : k ≤ xs.length) (hi : i < xs.length) : nth (sclTo m d xs k) i = if i < k then nth xs i * d % m else nth xs i := by
  rw [nth_eq (by rw [sclTo_len]; exact hi)]
  have hl : ((sclL m d xs).take k).length = k := by rw [List.length_take, sclL_len]; omega
  split
  · rename_i h
    simp only [sclTo]
    rw [List.getElem_append_left (by rw [hl]; exact h), List.getElem_take, ← nth_eq, sclL_nth hi]
  · rename_i h
    simp only [sclTo]
    rw [List.getElem_append_right (by rw [hl]; omega), List.getElem_drop, nth_eq hi]
    simp only [hl]
    congr 1; omega
theorem sclTo_step {m d : Int} {xs : List Int} {k : Nat} (hk : k < xs.length) : (sclTo m d xs k).set k (nth xs k * d % m) = sclTo m d xs (k + 1) := by
  refine ext_nth (by rw [List.length_set, sclTo_len, sclTo_len]) fun i hi => ?_
  rw [List.length_set, sclTo_len] at hi
  rw [nth_set (by rw [sclTo_len]; exact hk), sclTo_nth (by omega) hi, sclTo_nth (by omega) hi]
  by_cases e : k = i
  · subst e; rw [if_pos rfl, if_pos (by omega)]
  · rw [if_neg e]
    by_cases h : i < k
    · rw [if_pos h, if_pos (by omega)]
    · rw [if_neg h, if_neg (by omega)]

set_option maxHeartbeats 1600000 in
set_option maxRecDepth 10000 in
theorem implScale {B : Nat} {v : Value} {x : Wgt} {w : World} (h : RdW (· < B) w v x) (hB : B ≤ w.heap.size) (hn : szW x ≤ 1048576) (d : Int) :
    Calls Try.prog 29 #[v, .int .i64 d] w fun e w' => ∃ v', e = .returned (.tuple #[v', .bool (sclOk x d)]) ∧ Fresh OW w w' v' (sclV x d) := by
  have Hr := Lib.hid h
  obtain ⟨u, rfl, hu⟩ := h
  obtain ⟨a, c, rfl, h1, h2⟩ := hu.isSlice
  have Hu := Lib.hid hu; clear hu
  unfold maxLen at h2
  have H2 := Lib.hid (two w (.cells #[.int .i64 x.base, .int .i64 x.modulus, .int .i64 x.target, .slice a x.weights.length c] 26) (.cells #[.int .i64 0, .int .i64 0, .int .i64 0, .slice none 0 0] 26))
  unfold aggW
  have Hno : Hid (∀ (w3 : World) (S : List Nat), sclV x d = Wgt.zero → Below w.heap.size w w3 → Fresh OW w w3 (aggW Wgt.zero (.slice none 0 0)) (sclV x d)) := Lib.hid fun w3 S e hb => by
    rw [e]; exact ⟨[], ⟨_, rfl, own_nil _⟩, by simp, hb⟩
  cases hv : vW x
  · have ho : sclOk x d = false := by simp [sclOk, hv]
    have hm := Lib.hid (sclV_no ho)
    rw [ho]
    have Hv := Lib.hid hv; clear hv ho
    go_enter Try.func29, Try.ntmps29
    go_wp2_with fail
    refine (implValidWeighting (Rd.below RdW.ok Hr.out (H2.out.2.2.2.mono hB)) (by rw [H2.out.2.2.1]; omega) hn _ Hv.out).mono ?_
    rintro e w1 ⟨rfl, hb⟩
    have hb2 := below_heap hb H2.out.2.1
    have d0 := heap_cell hb2 (i := 0) rfl
    have d1 := heap_cell hb2 (i := 1) rfl
    have d2 := heap_cell hb2 (i := 2) rfl
    have d3 := heap_cell hb2 (i := 3) rfl
    have f0 := frozen_at hb2 0
    have f1 := frozen_at hb2 1
    have f2 := frozen_at hb2 2
    have f3 := frozen_at hb2 3
    have Hbel := Lib.hid (H2.out.2.2.2.trans (hb.mono (by rw [H2.out.2.2.1]; omega)))
    clear hb hb2
    go_wp2
    refine bodyPost_ret (v := .tuple #[aggW Wgt.zero (.slice none 0 0), .bool false]) (by simp [results, Try.results29, go_sem, aggW, Wgt.zero, d0, d1, d2, d3]) rfl ⟨_, rfl, ?_⟩
    refine Hno.out _ [] hm.out ?_
    refine Below.trans Hbel.out ?_
    repeat' (first | with_reducible exact Below.refl _ _ | with_reducible refine Below.alloc ?_ ?_ _ | with_reducible refine Below.setCell ?_ ?_ _ | with_reducible refine Below.drew ?_ | with_reducible refine Below.draws ?_ _ | omega | (simp; done) | (simp; omega))
  · have hvw := vW_iff.1 hv
    have hlen := hvw.len
    have hmo := hvw.modulus
    have hta := hvw.target
    have hwt := Lib.hid hvw.weight
    have Hv := Lib.hid hv
    have hwm : wrap64 (x.modulus - 1) = x.modulus - 1 := IntWalk.wrap64_in _ (by omega)
    cases hin : inB d 1 (x.modulus - 1)
    · have ho : sclOk x d = false := by simp [sclOk, hin]
      have hm := Lib.hid (sclV_no ho)
      rw [ho]
      clear hv ho hvw hmo hta
      go_enter Try.func29, Try.ntmps29
      go_wp2_with fail
      refine (implValidWeighting (Rd.below RdW.ok Hr.out (H2.out.2.2.2.mono hB)) (by rw [H2.out.2.2.1]; omega) hn _ Hv.out).mono ?_
      rintro e w1 ⟨rfl, hb⟩
      have hb1 := below_heap hb H2.out.1
      have e1 := heap_cell hb1 (i := 1) rfl
      have hb2 := below_heap hb H2.out.2.1
      have d0 := heap_cell hb2 (i := 0) rfl
      have d1 := heap_cell hb2 (i := 1) rfl
      have d2 := heap_cell hb2 (i := 2) rfl
      have d3 := heap_cell hb2 (i := 3) rfl
      have f0 := frozen_at hb2 0
      have f1 := frozen_at hb2 1
      have f2 := frozen_at hb2 2
      have f3 := frozen_at hb2 3
      have Hbel := Lib.hid (H2.out.2.2.2.trans (hb.mono (by rw [H2.out.2.2.1]; omega)))
      clear hb hb2 hb1
      go_wp2_with (go_at_call 57; refine (implIn _ _ _ _ (by first | assumption | (rw [hwm]; assumption)) _).mono ?_; rintro e w' ⟨rfl, rfl⟩)
      refine bodyPost_ret (v := .tuple #[aggW Wgt.zero (.slice none 0 0), .bool false]) (by simp [results, Try.results29, go_sem, aggW, Wgt.zero, d0, d1, d2, d3]) rfl ⟨_, rfl, ?_⟩
      refine Hno.out _ [] hm.out ?_
      refine Below.trans Hbel.out ?_
      repeat' (first | with_reducible exact Below.refl _ _ | with_reducible refine Below.alloc ?_ ?_ _ | with_reducible refine Below.setCell ?_ ?_ _ | with_reducible refine Below.drew ?_ | with_reducible refine Below.draws ?_ _ | omega | (simp; done) | (simp; omega))
    · have hd := inB_true.1 hin
      have ho : sclOk x d = decide (Nat.gcd d.toNat x.modulus.toNat = 1) := by simp [sclOk, hin, hv]
      have hmz : 0 ≤ x.modulus := by omega
      have hdz : 0 ≤ d := by omega
      have Hg := Lib.hid (implGcdZ d x.modulus hdz hmz _ rfl)
      by_cases hg : Nat.gcd d.toNat x.modulus.toNat = 1
      · rw [hg] at Hg
        have ho : sclOk x d = true := by rw [ho]; simpa using hg
        have hm := Lib.hid (sclV_yes ho)
        rw [ho]
        have hmf := mul_facts (a := x.target) (d := d) (m := x.modulus) (by omega) (by omega) (by omega) (by omega) (by omega)
        have hwf := Lib.hid (fun k hk => mul_facts (a := nth x.weights k) (d := d) (m := x.modulus) (hwt.out k hk).1 (hwt.out k hk).2 (by omega) (by omega) (by omega))
        have hm0 : x.modulus ≠ 0 := by omega
        obtain ⟨T1, hT1⟩ : ∃ t, t = x.target * d % x.modulus := ⟨_, rfl⟩
        rw [← hT1] at hmf
        have HT1 := Lib.hid hT1
        obtain ⟨f1, f2, f3, f4⟩ := hmf
        clear hv ho hvw hg hta hT1
        go_enter Try.func29, Try.ntmps29
        go_wp2_with fail
        refine (implValidWeighting (Rd.below RdW.ok Hr.out (H2.out.2.2.2.mono hB)) (by rw [H2.out.2.2.1]; omega) hn _ Hv.out).mono ?_
        rintro e w1 ⟨rfl, hb⟩
        have hb1 := Lib.hid (below_heap hb H2.out.1)
        have hb2 := Lib.hid (below_heap hb H2.out.2.1)
        have Hbel := Lib.hid (H2.out.2.2.2.trans (hb.mono (by rw [H2.out.2.2.1]; omega)))
        have hs1 : w.heap.size + 2 ≤ w1.heap.size := by have := hb.size; rw [H2.out.2.2.1] at this; exact this
        clear hb
        have e1 := heap_cell hb1.out (i := 1) rfl
        have e2 := heap_cell hb1.out (i := 2) rfl
        have e3 := heap_cell hb1.out (i := 3) rfl
        have Hcl : Hid (∀ m, Calls Try.prog 66 #[.slice a x.weights.length c] (w1.drewN m) fun e w' => ∃ g c2 S, e = .returned (.slice (some ⟨g, 0, none⟩) x.weights.length c2) ∧ OI w' (.slice (some ⟨g, 0, none⟩) x.weights.length c2) x.weights S ∧ g ∈ S ∧ (∀ k ∈ S, w.heap.size + 1 < k) ∧
            w'.heap[w.heap.size]? = some (.cells #[.int .i64 x.base, .int .i64 x.modulus, .int .i64 x.target, .slice a x.weights.length c] 26 (0, 0)) ∧ w'.heap[w.heap.size + 1]? = some (.cells #[.int .i64 0, .int .i64 0, .int .i64 0, .slice none 0 0] 26 (0, 0)) ∧ Below w.heap.size w w') := Lib.hid fun m => by
          refine (slClone (w := w1.drewN m) (Rd.below RdI.ok Hu.out ((Below.draws Hbel.out m).mono hB)) (fun k hk => by show k < w1.heap.size; omega) hn).mono ?_
          rintro e w2 ⟨v2, rfl, S, hS, hS2, hb2'⟩
          rcases hS.shape with ⟨_, e0⟩ | ⟨g, c2, rfl, hg⟩
          · rw [e0] at hlen; simp at hlen
          · refine ⟨g, c2, S, rfl, hS, hg, fun k hk => ?_, below_heap (W := w1.drewN m) hb2' hb1.out, below_heap (W := w1.drewN m) hb2' hb2.out, (Below.draws Hbel.out m).trans (hb2'.mono (by show w.heap.size ≤ w1.heap.size; omega))⟩
            have : w1.heap.size ≤ k := hS2 k hk
            omega
        go_upto_region 3 with (first | (go_at_call 57; refine (implIn _ _ _ _ (by first | assumption | (rw [hwm]; assumption)) _).mono ?_; rintro e w' ⟨rfl, rfl⟩) | (go_at_call 72; refine (Calls.mono (Hg.out _) ?_); rintro e w' ⟨rfl, m, rfl⟩))
        go_cut [] from 26 to 37 (fun wx => ∃ (g c2 : Nat) (S : List Nat), wx.heap[w.heap.size]? = some (.cells #[.int .i64 x.base, .int .i64 x.modulus, .int .i64 T1, .slice (some ⟨g, 0, none⟩) x.weights.length c2] 26 (0, 0)) ∧ wx.heap[w.heap.size + 1]? = some (.cells #[.int .i64 0, .int .i64 0, .int .i64 0, .slice none 0 0] 26 (0, 0)) ∧
            OI wx (.slice (some ⟨g, 0, none⟩) x.weights.length c2) x.weights S ∧ g ∈ S ∧ Hid (∀ k ∈ S, w.heap.size + 1 < k) ∧ Below w.heap.size w wx)
        case first =>
          go_region_with (go_at_call 66; refine (Calls.mono (Hcl.out _) ?_); rintro e w2 ⟨g, c2, S, rfl, ho, hgS, hS, q1, q2, q3⟩; have p1 := heap_cell q1 (i := 1) rfl; have p2 := heap_cell q1 (i := 2) rfl; have p3 := heap_cell q1 (i := 3) rfl; have f2 := frozen_at q1 2; have f3 := frozen_at q1 3; have Hq1 := Lib.hid q1; have Hq2 := Lib.hid q2; have Hq3 := Lib.hid q3; have Ho := Lib.hid ho; clear q1 q2 q3 ho)
          all_goals (go_wp2_with fail; go_meet)
          all_goals
            have hne : w.heap.size ≠ w.heap.size + 1 := by omega
            refine ⟨g, c2, S, heap_setCell_same _ _ 3 _ _ _ (heap_setCell_same w2 _ 2 _ _ _ Hq1.out), fset (fset Hq2.out (by omega) _) (by omega) _, OI.ok.keep Ho.out fun i hi => ?_, hgS, Lib.hid hS, ?_⟩
            · have hi' : i ≠ w.heap.size := by have := hS i hi; omega
              exact (keep_set (p := ⟨w.heap.size, 3, none⟩) hi').trans (keep_set (p := ⟨w.heap.size, 2, none⟩) hi')
            · refine Below.trans Hq3.out ?_
              repeat' (first | with_reducible exact Below.refl _ _ | with_reducible refine Below.alloc ?_ ?_ _ | with_reducible refine Below.setCell ?_ ?_ _ | with_reducible refine Below.drew ?_ | with_reducible refine Below.draws ?_ _ | omega | (simp; done) | (simp; omega))
        case rest =>
        obtain ⟨g, c2, S0, hd1, hd2, ho0, hgS, HS2, hbel0⟩ := hcut
        have hlt0 := Lib.hid (OI.ok.lt ho0)
        have e3' := heap_cell hd1 (i := 3) rfl
        have Hd1 := Lib.hid hd1
        have Hd2 := Lib.hid hd2
        have Ho0 := Lib.hid ho0
        have Hbel0 := Lib.hid hbel0
        clear hd1 hd2 ho0 hbel0 e1 e2 e3 f1 f2 f3 f4
        have hgw : w.heap.size + 1 < g := HS2.out g hgS
        go_wp2_with fail
        go_loopw [41] (fun i wr => ∃ (k : Nat), k ≤ x.weights.length ∧ i = .int .i64 k ∧ wr.heap[w.heap.size]? = some (.cells #[.int .i64 x.base, .int .i64 x.modulus, .int .i64 T1, .slice (some ⟨g, 0, none⟩) x.weights.length c2] 26 (0, 0)) ∧ wr.heap[w.heap.size + 1]? = some (.cells #[.int .i64 0, .int .i64 0, .int .i64 0, .slice none 0 0] 26 (0, 0)) ∧
            OI wr (.slice (some ⟨g, 0, none⟩) x.weights.length c2) (sclTo x.modulus d x.weights k) S0 ∧ Below w.heap.size w wr) (fun i _ => x.weights.length - (intOf i).toNat)
        case atStart =>
          refine ⟨0, Nat.zero_le _, rfl, Hd1.out, Hd2.out, ?_, Hbel0.out⟩
          have e : sclTo x.modulus d x.weights 0 = x.weights := by simp [sclTo]
          rw [e]; exact Ho0.out
        case round =>
          obtain ⟨k, hk, rfl, hb1, hb2, hown, hbel⟩ := hrel
          by_cases hlt : k < x.weights.length
          · obtain ⟨g1, g2, g3, g4⟩ := hwf.out k hlt
            have hst := Lib.hid (sclTo_step (m := x.modulus) (d := d) hlt)
            have hcl := sclTo_len x.modulus d x.weights k
            have b1 := heap_cell hb1 (i := 1) rfl
            have b3 := heap_cell hb1 (i := 3) rfl
            have ck := hown.cell (i := k) (by rw [hcl]; exact hlt)
            rw [sclTo_nth (by omega) hlt, if_neg (by omega)] at ck
            have fk := hown.frozen k
            have hput := Lib.hid (hown.put (i := k) (by rw [hcl]; exact hlt) (nth x.weights k * d % x.modulus))
            rw [hst.out] at hput
            have Hb1 := Lib.hid hb1
            have Hb2 := Lib.hid hb2
            have Hbel := Lib.hid hbel
            clear hown hb1 hb2 hbel hcl
            generalize hY : nth x.weights k * d % x.modulus = Y at *
            generalize nth x.weights k = A at *
            clear hY
            go_wp2
            go_region
            all_goals go_wp2
            all_goals go_roundw
            all_goals first
            | (show x.weights.length - ((k : Int) + 1).toNat < x.weights.length - (k : Int).toNat; omega)
            | skip
            all_goals
              refine ⟨k + 1, by omega, by go_num, fset Hb1.out (by omega) _, fset Hb2.out (by omega) _, OI.ok.keep hput.out fun _ _ => rfl, ?_⟩
              refine Below.trans Hbel.out ?_
              first | exact ((Below.refl _ _).setCell (p := ⟨g, 0 + k, none⟩) (by show _ ≤ g; omega) _).drew | (repeat' (first | with_reducible exact Below.refl _ _ | with_reducible refine Below.alloc ?_ ?_ _ | with_reducible refine Below.setCell ?_ ?_ _ | with_reducible refine Below.drew ?_ | with_reducible refine Below.draws ?_ _ | omega | (simp; done) | (simp; omega)))
          · obtain rfl : k = x.weights.length := by omega
            have e : sclTo x.modulus d x.weights x.weights.length = sclL x.modulus d x.weights := by
              unfold sclTo; rw [List.take_of_length_le (by rw [sclL_len]; omega), List.drop_length, List.append_nil]
            rw [e] at hown
            have c0 := heap_cell hb1 (i := 0) rfl
            have c1 := heap_cell hb1 (i := 1) rfl
            have c2' := heap_cell hb1 (i := 2) rfl
            have c3 := heap_cell hb1 (i := 3) rfl
            have d0 := heap_cell hb2 (i := 0) rfl
            have d1 := heap_cell hb2 (i := 1) rfl
            have d2 := heap_cell hb2 (i := 2) rfl
            have d3 := heap_cell hb2 (i := 3) rfl
            have f0 := frozen_at hb2 0
            have f1 := frozen_at hb2 1
            have f2 := frozen_at hb2 2
            have f3 := frozen_at hb2 3
            have Hown := Lib.hid hown
            have Hbel := Lib.hid hbel
            clear hown hbel hb1 hb2 e
            go_wp2
            refine bodyPost_ret (v := .tuple #[aggW (sclW x d) (.slice (some ⟨g, 0, none⟩) x.weights.length c2), .bool true]) (by simp [results, Try.results29, go_sem, aggW, sclW, d0, d1, d2, d3, HT1.out]) rfl ⟨_, rfl, ?_⟩
            rw [hm.out]
            refine ⟨S0, ⟨_, rfl, OI.ok.keep Hown.out fun i hi => ?_⟩, fun i hi => by have := HS2.out i hi; omega, ?_⟩
            · exact Only.block (S := [w.heap.size + 1]) (by repeat' (first | with_reducible exact Only.refl _ _ | with_reducible refine Only.put ?_ ?_ _ _ | (simp; done))) i (OI.ok.lt Hown.out i hi) (by have := HS2.out i hi; simp; omega)
            · refine Below.trans Hbel.out ?_
              repeat' (first | with_reducible exact Below.refl _ _ | with_reducible refine Below.alloc ?_ ?_ _ | with_reducible refine Below.setCell ?_ ?_ _ | with_reducible refine Below.drew ?_ | with_reducible refine Below.draws ?_ _ | omega | (simp; done) | (simp; omega))
      · have ho : sclOk x d = false := by rw [ho]; simpa using hg
        have hm := Lib.hid (sclV_no ho)
        rw [ho]
        obtain ⟨G, hG⟩ : ∃ g, g = Nat.gcd d.toNat x.modulus.toNat := ⟨_, rfl⟩
        rw [← hG] at Hg hg
        have hg1 : ¬ (G : Int) = 1 := by omega
        clear hv ho hvw hmo hta hG
        go_enter Try.func29, Try.ntmps29
        go_wp2_with fail
        refine (implValidWeighting (Rd.below RdW.ok Hr.out (H2.out.2.2.2.mono hB)) (by rw [H2.out.2.2.1]; omega) hn _ Hv.out).mono ?_
        rintro e w1 ⟨rfl, hb⟩
        have hb1 := below_heap hb H2.out.1
        have e1 := heap_cell hb1 (i := 1) rfl
        have hb2 := below_heap hb H2.out.2.1
        have d0 := heap_cell hb2 (i := 0) rfl
        have d1 := heap_cell hb2 (i := 1) rfl
        have d2 := heap_cell hb2 (i := 2) rfl
        have d3 := heap_cell hb2 (i := 3) rfl
        have f0 := frozen_at hb2 0
        have f1 := frozen_at hb2 1
        have f2 := frozen_at hb2 2
        have f3 := frozen_at hb2 3
        have Hbel := Lib.hid (H2.out.2.2.2.trans (hb.mono (by rw [H2.out.2.2.1]; omega)))
        clear hb hb2 hb1
        go_wp2_with (first | (go_at_call 57; refine (implIn _ _ _ _ (by first | assumption | (rw [hwm]; assumption)) _).mono ?_; rintro e w' ⟨rfl, rfl⟩) | (go_at_call 72; refine (Calls.mono (Hg.out _) ?_); rintro e w' ⟨rfl, m, rfl⟩))
        refine bodyPost_ret (v := .tuple #[aggW Wgt.zero (.slice none 0 0), .bool false]) (by simp [results, Try.results29, go_sem, aggW, Wgt.zero, d0, d1, d2, d3]) rfl ⟨_, rfl, ?_⟩
        refine Hno.out _ [] hm.out ?_
        refine Below.trans Hbel.out ?_
        repeat' (first | with_reducible exact Below.refl _ _ | with_reducible refine Below.alloc ?_ ?_ _ | with_reducible refine Below.setCell ?_ ?_ _ | with_reducible refine Below.drew ?_ | with_reducible refine Below.draws ?_ _ | omega | (simp; done) | (simp; omega))
end Go.Proofs.Ytphlohplkadenaa
