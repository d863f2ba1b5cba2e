/- slices.Reverse; impl.MirrorWeighting. -/
import Derived.Test.YtphlohplkadenaaV4
import Derived.Test.YtphlohplkadenaaO2
import Derived.Test.YtphlohplkadenaaS1
import Derived.RegionTactic
import Derived.BigRegion
namespace Go.Proofs.Ytphlohplkadenaa
open Go.RowKit
set_option linter.unusedVariables false

def RevTo (xs ys : List Int) (k : Nat) : Prop := ys.length = xs.length ∧ ∀ i, i < xs.length → nth ys i = if i < k ∨ xs.length ≤ i + k then nth xs (xs.length - 1 - i) else nth xs i
theorem RevTo.done {xs ys : List Int} {k : Nat} (h : RevTo xs ys k) (hk : xs.length ≤ 2 * k + 1) : ys = xs.reverse := by
  refine ext_nth (by rw [h.1]; simp) fun i hi => ?_
  rw [h.1] at hi
  have e : nth xs.reverse i = nth xs (xs.length - 1 - i) := by
    rw [nth_eq (by simpa using hi), nth_eq (by omega), List.getElem_reverse]
  rw [h.2 i hi, e]
  split
  · rfl
  · rw [show xs.length - 1 - i = i by omega]
theorem RevTo.step {xs ys : List Int} {k j : Nat} (h : RevTo xs ys k) (hj : j + 1 + k = xs.length) (hk : k < j) : RevTo xs ((ys.set k (nth ys j)).set j (nth ys k)) (k + 1) := by
  have h1 := h.1
  refine ⟨by simp [h1], fun i hi => ?_⟩
  rw [nth_set (by simp; omega), nth_set (by omega)]
  by_cases e1 : j = i
  · subst e1
    rw [if_pos rfl, if_pos (by omega), h.2 k (by omega), if_neg (by omega), show xs.length - 1 - j = k by omega]
  · rw [if_neg e1]
    by_cases e2 : k = i
    · subst e2
      rw [if_pos rfl, if_pos (by omega), h.2 j (by omega), if_neg (by omega), show xs.length - 1 - k = j by omega]
    · rw [if_neg e2, h.2 i hi]
      by_cases e3 : i < k ∨ xs.length ≤ i + k
      · rw [if_pos e3, if_pos (by omega)]
      · rw [if_neg e3, if_neg (by omega)]

theorem slReverse {v : Value} {xs : List Int} {S : List Nat} {w : World} (h : OI w v xs S) (hn : xs.length ≤ 1048576) :
    Calls Try.prog 67 #[v] w fun e w' => e = .returned (.tuple #[]) ∧ OI w' v xs.reverse S ∧ Only S w w' := by
  rcases h.shape with ⟨rfl, rfl⟩ | ⟨g, c, rfl, hg⟩
  · go_enter Try.func67, Try.ntmps67
    go_wp2
    refine wp_loop_rounds 1 ?_
    rw [rounds_succ]
    go_wp2
    go_end0
    exact ⟨rfl, h, Only.refl _ _⟩
  · have hl := h.len
    have hl3 := hl.2.2
    unfold maxLen at hl3
    have h0 := Lib.hid h; clear h
    go_enter Try.func67, Try.ntmps67
    go_wp2
    go_loopw [2, 3] (fun i j wr => ∃ (k : Nat) (z : Int) (ys : List Int), i = .int .i64 k ∧ j = .int .i64 z ∧ z = xs.length - 1 - k ∧ 2 * k ≤ xs.length ∧ Hid (RevTo xs ys k) ∧ OI wr (.slice (some ⟨g, 0, none⟩) xs.length c) ys S ∧ Only S w wr) (fun i j _ => (intOf j - intOf i).toNat)
    case atStart => exact ⟨0, _, xs, rfl, rfl, by omega, by omega, Lib.hid ⟨rfl, fun i hi => by rw [if_neg (by omega)]⟩, h0.out, Only.refl _ _⟩
    case round =>
      obtain ⟨k, z, ys, rfl, rfl, hz, hk, hrev, hown, honly⟩ := hrel
      by_cases hlt : (k : Int) < z
      · obtain ⟨j, rfl⟩ : ∃ j : Nat, z = j := ⟨z.toNat, by omega⟩
        have hkj : k < j := by omega
        have hne : ¬ k = j := by omega
        have hne' : ¬ j = k := by omega
        have hjl : j < xs.length := by omega
        have hkl : k < xs.length := by omega
        have hyl := hrev.out.1
        have c1 := hown.cell (i := k) (by omega)
        have c2 := hown.cell (i := j) (by omega)
        have f1 := hown.frozen k
        have f2 := hown.frozen j
        have hrev2 := Lib.hid (hrev.out.step (j := j) (by omega) hkj)
        have hown2 := Lib.hid ((hown.put (i := k) (by omega) (nth ys j)).put (i := j) (by simp; omega) (nth ys k))
        have hon := Lib.hid ((honly.put hg k (.int .i64 (nth ys j))).put hg j (.int .i64 (nth ys k)))
        have Hz := Lib.hid hz
        clear hz hown honly hrev hyl
        go_wp2
        go_region
        all_goals go_wp2
        all_goals go_roundw
        all_goals first
          | exact ⟨k + 1, (j : Int) - 1, _, by go_num, rfl, by have := Hz.out; omega, by have := Hz.out; omega, hrev2, OI.ok.keep hown2.out fun _ _ => rfl, hon.out.drew⟩
          | (show ((j : Int) - 1 - ((k : Int) + 1)).toNat < ((j : Int) - (k : Int)).toNat; omega)
      · have e := hrev.out.done (by omega)
        subst e
        go_wp2
        go_end0
        exact ⟨rfl, hown, honly⟩

/-- Two blocks and what a step left of them. -/
theorem two (w : World) (A Z : Obj) : ((w.alloc A).alloc Z).heap[w.heap.size]? = some A ∧ ((w.alloc A).alloc Z).heap[w.heap.size + 1]? = some Z ∧ ((w.alloc A).alloc Z).heap.size = w.heap.size + 2 ∧ Below w.heap.size w ((w.alloc A).alloc Z) := by
  have s1 := al_size w A
  have s2 := al_size (w.alloc A) Z
  have e1 := heap_alloc_new w A
  have e2 := heap_alloc_new (w.alloc A) Z
  rw [s1] at e2
  exact ⟨(Below.heap_alloc _ Z _ (by omega)).trans e1, e2, by omega, by repeat' (first | with_reducible exact Below.refl _ _ | with_reducible refine Below.alloc ?_ ?_ _ | with_reducible refine Below.setCell ?_ ?_ _ | with_reducible refine Below.drew ?_ | with_reducible refine Below.draws ?_ _ | omega | (simp; done) | (simp; omega))⟩
theorem below_heap {W w1 : World} (h : Below W.heap.size W w1) {k : Nat} {o : Obj} (hk : W.heap[k]? = some o) : w1.heap[k]? = some o := (h.block k (Array.getElem?_eq_some_iff.1 hk).1).trans hk

set_option maxHeartbeats 1600000 in
set_option maxRecDepth 10000 in
theorem implMirror {B : Nat} {v : Value} {x : Wgt} {w : World} (h : RdW (· < B) w v x) (hB : B ≤ w.heap.size) (hn : szW x ≤ 1048576) :
    Calls Try.prog 25 #[v] w fun e w' => ∃ v', e = .returned (.tuple #[v', .bool (vW x)]) ∧ Fresh OW w w' v' (mirV x) := by
  have Hr := Lib.hid h
  obtain ⟨u, rfl, hu⟩ := h
  obtain ⟨a, c, rfl, h1, h2⟩ := hu.isSlice
  have Hu := Lib.hid hu; clear hu
  unfold maxLen at h2
  have H2 := Lib.hid (two w (.cells #[.int .i64 x.base, .int .i64 x.modulus, .int .i64 x.target, .slice a x.weights.length c] 26) (.cells #[.int .i64 0, .int .i64 0, .int .i64 0, .slice none 0 0] 26))
  unfold aggW
  cases hv : vW x
  · have hm := Lib.hid (mirV_no hv)
    have Hv := Lib.hid hv; clear hv
    go_enter Try.func25, Try.ntmps25
    go_wp2_with fail
    refine (implValidWeighting (Rd.below RdW.ok Hr.out (H2.out.2.2.2.mono hB)) (by rw [H2.out.2.2.1]; omega) hn _ Hv.out).mono ?_
    rintro e w1 ⟨rfl, hb⟩
    have hb2 := below_heap hb H2.out.2.1
    have d0 := heap_cell hb2 (i := 0) rfl
    have d1 := heap_cell hb2 (i := 1) rfl
    have d2 := heap_cell hb2 (i := 2) rfl
    have d3 := heap_cell hb2 (i := 3) rfl
    have f0 := frozen_at hb2 0
    have f1 := frozen_at hb2 1
    have f2 := frozen_at hb2 2
    have f3 := frozen_at hb2 3
    have Hbel := Lib.hid (H2.out.2.2.2.trans (hb.mono (by rw [H2.out.2.2.1]; omega)))
    clear hb hb2
    go_wp2
    refine bodyPost_ret (v := .tuple #[aggW Wgt.zero (.slice none 0 0), .bool false]) (by simp [results, Try.results25, go_sem, aggW, Wgt.zero, d0, d1, d2, d3]) rfl ⟨_, rfl, ?_⟩
    rw [hm.out]
    refine ⟨[], ⟨_, rfl, own_nil _⟩, by simp, ?_⟩
    refine Below.trans Hbel.out ?_
    repeat' (first | with_reducible exact Below.refl _ _ | with_reducible refine Below.alloc ?_ ?_ _ | with_reducible refine Below.setCell ?_ ?_ _ | with_reducible refine Below.drew ?_ | with_reducible refine Below.draws ?_ _ | omega | (simp; done) | (simp; omega))
  · have hm := Lib.hid (mirV_yes hv)
    have Hv := Lib.hid hv; clear hv
    go_enter Try.func25, Try.ntmps25
    go_wp2_with fail
    refine (implValidWeighting (Rd.below RdW.ok Hr.out (H2.out.2.2.2.mono hB)) (by rw [H2.out.2.2.1]; omega) hn _ Hv.out).mono ?_
    rintro e w1 ⟨rfl, hb⟩
    have hb1 := Lib.hid (below_heap hb H2.out.1)
    have hb2 := Lib.hid (below_heap hb H2.out.2.1)
    have Hbel := Lib.hid (H2.out.2.2.2.trans (hb.mono (by rw [H2.out.2.2.1]; omega)))
    have hs1 : w.heap.size + 2 ≤ w1.heap.size := by have := hb.size; rw [H2.out.2.2.1] at this; exact this
    clear hb
    have e3 := heap_cell hb1.out (i := 3) rfl
    go_wp2_with fail
    refine (slClone (Rd.below RdI.ok Hu.out (Hbel.out.mono hB)) (fun k hk => by omega) hn).mono ?_
    rintro e w2 ⟨v2, rfl, S, hS, hS2, hb2'⟩
    obtain ⟨a2, n2, c2, rfl⟩ := hS.isSlice
    clear e3
    have hc1 := Lib.hid (below_heap hb2' hb1.out)
    have hc2 := Lib.hid (below_heap hb2' hb2.out)
    have Hbel2 := Lib.hid (Hbel.out.trans (hb2'.mono (by omega)))
    have hs2 : w.heap.size + 2 ≤ w2.heap.size := Nat.le_trans hs1 hb2'.size
    have HS := Lib.hid hS
    have HS2 := Lib.hid (show ∀ k ∈ S, w.heap.size + 1 < k from fun k hk => by have := hS2 k hk; omega)
    clear hS hS2 hb2'
    have e3 := heap_cell hc1.out (i := 3) rfl
    have f3 := frozen_at hc1.out 3
    go_wp2_with fail
    refine (slReverse (OI.ok.keep HS.out fun k hk => keep_set (by have := HS2.out k hk; show k ≠ w.heap.size; omega)) hn).mono ?_
    rintro e w3 ⟨rfl, ho3, honly3⟩
    clear e3 f3
    have hd1 : w3.heap[w.heap.size]? = some (.cells #[.int .i64 x.base, .int .i64 x.modulus, .int .i64 x.target, .slice a2 n2 c2] 26 (0, 0)) :=
      (honly3.block _ (by rw [setCell_size3]; omega) (fun hm => by have := HS2.out _ hm; omega)).trans (heap_setCell_same w2 _ 3 _ _ _ hc1.out)
    have hd2 : w3.heap[w.heap.size + 1]? = some (.cells #[.int .i64 0, .int .i64 0, .int .i64 0, .slice none 0 0] 26 (0, 0)) :=
      (honly3.block _ (by rw [setCell_size3]; omega) (fun hm => by have := HS2.out _ hm; omega)).trans (fset hc2.out (by omega) _)
    have Hbel3 := Lib.hid (below_only (Hbel2.out.setCell (p := ⟨w.heap.size, 3, none⟩) (Nat.le_refl _) _) honly3 (by rw [setCell_size3]; omega) fun j hj => by have := HS2.out j hj; omega)
    have Ho := Lib.hid ho3
    have hlt3 := Lib.hid (OI.ok.lt ho3)
    clear ho3 honly3
    have c0 := heap_cell hd1 (i := 0) rfl
    have c1 := heap_cell hd1 (i := 1) rfl
    have c2' := heap_cell hd1 (i := 2) rfl
    have c3 := heap_cell hd1 (i := 3) rfl
    have d0 := heap_cell hd2 (i := 0) rfl
    have d1 := heap_cell hd2 (i := 1) rfl
    have d2 := heap_cell hd2 (i := 2) rfl
    have d3 := heap_cell hd2 (i := 3) rfl
    have f0 := frozen_at hd2 0
    have f1 := frozen_at hd2 1
    have f2 := frozen_at hd2 2
    have f3 := frozen_at hd2 3
    clear hd1 hd2
    go_wp2
    refine bodyPost_ret (v := .tuple #[aggW (mirW x) (.slice a2 n2 c2), .bool true]) (by simp [results, Try.results25, go_sem, aggW, mirW, d0, d1, d2, d3]) rfl ⟨_, rfl, ?_⟩
    rw [hm.out]
    refine ⟨S, ⟨_, rfl, OI.ok.keep Ho.out fun i hi => ?_⟩, fun i hi => by have := HS2.out i hi; omega, ?_⟩
    · exact Only.block (S := [w.heap.size + 1]) (by repeat' (first | with_reducible exact Only.refl _ _ | with_reducible refine Only.put ?_ ?_ _ _ | (simp; done))) i (hlt3.out i hi) (by have := HS2.out i hi; simp; omega)
    · refine Below.trans Hbel3.out ?_
      repeat' (first | with_reducible exact Below.refl _ _ | with_reducible refine Below.alloc ?_ ?_ _ | with_reducible refine Below.setCell ?_ ?_ _ | with_reducible refine Below.drew ?_ | with_reducible refine Below.draws ?_ _ | omega | (simp; done) | (simp; omega))
end Go.Proofs.Ytphlohplkadenaa
