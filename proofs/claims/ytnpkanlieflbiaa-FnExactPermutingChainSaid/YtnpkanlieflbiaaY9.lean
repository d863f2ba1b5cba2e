/- WeightChain and PermutingChain, both sides. Printed by gen_y9.py. -/
import Derived.Test.YtnpkanlieflbiaaY8
import Derived.Test.YtnpkanlieflbiaaJ2
namespace Go.Proofs.Ytnpkanlieflbiaa
open Go.RowKit
set_option linter.unusedVariables false

def Chn.nil : Chn := ⟨0, 0, 0, 0, [], []⟩
def wcV (x : Wgt) : Chn := if vW x then wchn x else Chn.nil
theorem wcV_no {x : Wgt} (h : vW x = false) : wcV x = Chn.nil := by simp [wcV, h]
theorem wcV_yes {x : Wgt} (h : vW x = true) : wcV x = wchn x := by simp [wcV, h]
def pchn (x : Prm) : Chn := addC x.orders id x.base.toNat x.base.toNat x.target.toNat
def pcV (x : Prm) : Chn := if vP x then pchn x else Chn.nil
theorem pcV_no {x : Prm} (h : vP x = false) : pcV x = Chn.nil := by simp [pcV, h]
theorem pcV_yes {x : Prm} (h : vP x = true) : pcV x = pchn x := by simp [pcV, h]
structure VPx (x : Prm) : Prop where
  base : 2 ≤ x.base ∧ x.base ≤ 36
  target : 0 ≤ x.target ∧ x.target < x.base
  len : 1 ≤ x.orders.length ∧ x.orders.length ≤ 20
  row : ∀ i, i < x.orders.length → ((nth x.orders i).length : Int) = x.base ∧ Closed (nth x.orders i)
theorem vP_ok {x : Prm} (h : vP x = true) : VPx x := by
  simp only [vP, Bool.and_eq_true, many_parts, inB_true] at h
  obtain ⟨⟨h1, h2, _⟩, h3, h4⟩ := h
  refine ⟨h1, by omega, by omega, fun i hi => ?_⟩
  have := allB_iff.1 h4 i hi
  simp only [ordOk, Bool.and_eq_true, decide_eq_true_eq] at this
  exact ⟨this.1, isOrd_closed this.2⟩
theorem cntL_le {α : Type} {cnt : α → Nat} {t : List α} {b : Nat} (h : ∀ c ∈ t, cnt c ≤ b) : cntL cnt t ≤ t.length * b := by
  induction t with
  | nil => simp [cntL]
  | cons x t ih =>
    have h1 := h x (by simp)
    have h2 := ih (fun y hy => h y (by simp [hy]))
    simp only [cntL, List.map_cons, List.sum_cons, List.length_cons, Nat.succ_mul] at h2 ⊢
    omega
theorem szC_addC {keys : List (List Int)} {f : List Int → List Int} {NB m TG : Nat} (hk : keys.length ≤ 20) (hm : m ≤ 36) (hf : ∀ l ∈ keys, (f l).length ≤ 36) : szC (addC keys f NB m TG) ≤ 30000 := by
  have h1 : ∀ l ∈ keys, szL List.length (tabOf m (f l)) ≤ 1332 := fun l hl => by
    have h2 := hf l hl
    have h3 : cntL List.length (tabOf m (f l)) ≤ (tabOf m (f l)).length * 36 := cntL_le fun c hc => by
      obtain ⟨s, _, rfl⟩ := List.mem_map.1 hc
      simpa using h2
    rw [szL_eq]
    rw [tabOf_len] at h3 ⊢
    omega
  have h4 := ddTo_len keys keys.length
  have h5 : cntL (szL List.length) ((ddTo keys keys.length).map fun l => tabOf m (f l)) ≤ ((ddTo keys keys.length).map fun l => tabOf m (f l)).length * 1332 := cntL_le fun c hc => by
    obtain ⟨l, hl, rfl⟩ := List.mem_map.1 hc
    exact h1 l (ddTo_sub keys keys.length (Nat.le_refl _) l hl)
  rw [List.length_map] at h5
  have h6 := plTo_len keys keys.length
  show szL (szL List.length) ((ddTo keys keys.length).map fun l => tabOf m (f l)) + (plTo keys keys.length).length ≤ _
  rw [szL_eq, List.length_map, h6]
  omega
theorem wchn_sz {x : Wgt} (h : VW x) : szC (wchn x) ≤ 30000 := szC_addC (by have := h.len; simp; omega) (by have := h.modulus; omega) (fun l hl => by rw [addsL_len]; have := h.base; omega)
theorem pchn_sz {x : Prm} (h : VPx x) : szC (pchn x) ≤ 30000 := szC_addC h.len.2 (by have := h.base; omega) (fun l hl => by
  obtain ⟨i, hi, rfl⟩ := List.mem_iff_getElem.1 hl
  have := (h.row i hi).1
  have := h.base
  rw [nth_eq hi] at *
  simp only [id]
  omega)
theorem wcV_cnt (x : Wgt) : cntC (wcV x) ≤ 30000 := by
  cases h : vW x
  · rw [wcV_no h]; decide
  · rw [wcV_yes h]; exact Nat.le_trans (cnt_le_szC _) (wchn_sz (vW_iff.1 h))
theorem pcV_cnt (x : Prm) : cntC (pcV x) ≤ 30000 := by
  cases h : vP x
  · rw [pcV_no h]; decide
  · rw [pcV_yes h]; exact Nat.le_trans (cnt_le_szC _) (pchn_sz (vP_ok h))
theorem Fresh.turnedAt {α : Type} {R : Rep α} (hR : R.Fine) {w W2 w6 w7 : World} {v : Value} {x : α} {b : Nat} (hf : Fresh R W2 w6 v x) (hb0 : Below w.heap.size w W2) (hz0 : w.heap.size ≤ b) (hz : b < W2.heap.size) (hon : Only [b] w6 w7) : Fresh R w w7 v x := by
  obtain ⟨S, hS, hS2, hb⟩ := hf
  have := hb0.size
  exact ⟨S, hR.keep hS fun j hj => hon.block j (hR.lt hS j hj) (by have := hS2 j hj; simp; omega), fun j hj => by have := hS2 j hj; omega, below_only (hb0.trans (hb.mono (by omega))) hon (by have := hb.size; omega) (by simp; omega)⟩
theorem Fresh.aggC {w w' : World} {v : Value} {x : Chn} (h : Fresh OC w w' v x) : ∃ u p, v = .agg #[.int .i64 x.base, .int .i64 x.states, .int .i64 x.start, .int .i64 x.stop, u, p] ∧ ∃ a b c d e f, u = .slice a b c ∧ p = .slice d e f := by
  obtain ⟨S, ⟨u, p, Sa, Sb, rfl, ot, op, eS, hSS⟩, hS, hb⟩ := h
  obtain ⟨a, b, c, rfl⟩ := ot.isSlice
  obtain ⟨d, e, f, rfl⟩ := op.isSlice
  exact ⟨_, _, rfl, a, b, c, d, e, f, rfl, rfl⟩

set_option maxHeartbeats 1600000 in
set_option maxRecDepth 100000 in
theorem specWeightChain {B : Nat} {v : Value} {x : Wgt} {w : World} (h : RdW (· < B) w v x) (hB : B ≤ w.heap.size) (hn : szW x ≤ 1048576) :
    Calls Try.prog 14 #[v] w fun e w' => ∃ v', e = .returned (.tuple #[v', .bool (vW x)]) ∧ Fresh OC w w' v' (wcV x) := by
  have Hr := Lib.hid h
  obtain ⟨u, rfl, hu⟩ := h
  obtain ⟨a, c, rfl, h1, h2⟩ := hu.isSlice
  have Hbx := Lib.hid (BoxW.boxed hu hB); have Hu := Lib.hid hu; clear hu
  unfold maxLen at h2
  have H2 := Lib.hid (two w (.cells #[.int .i64 x.base, .int .i64 x.modulus, .int .i64 x.target, .slice a x.weights.length c] 31) (.cells #[.int .i64 0, .int .i64 0, .int .i64 0, .int .i64 0, .slice none 0 0, .slice none 0 0] 28))
  unfold aggW
  have HI : Hid (∀ b, vW x = b → Calls Try.prog 58 #[.pointer (some ⟨w.heap.size, 0, none⟩)] ((w.alloc (.cells #[.int .i64 x.base, .int .i64 x.modulus, .int .i64 x.target, .slice a x.weights.length c] 31)).alloc (.cells #[.int .i64 0, .int .i64 0, .int .i64 0, .int .i64 0, .slice none 0 0, .slice none 0 0] 28)) fun e w1 => e = .returned (.bool b) ∧ w1.heap[w.heap.size]? = some (.cells #[.int .i64 x.base, .int .i64 x.modulus, .int .i64 x.target, .slice a x.weights.length c] 31 (0, 0)) ∧ w1.heap[w.heap.size + 1]? = some (.cells #[.int .i64 0, .int .i64 0, .int .i64 0, .int .i64 0, .slice none 0 0, .slice none 0 0] 28 (0, 0)) ∧ w.heap.size + 1 < w1.heap.size ∧ Below w.heap.size w w1) := Lib.hid fun b hb => by
    refine (specL03Is (Hbx.out.keep (w' := _) fun k hk => ?hb) hn _ hb).mono ?_
    case hb => exact (Below.heap_alloc _ _ _ (by simp; omega))
    rintro e w1 ⟨rfl, m, rfl⟩
    exact ⟨rfl, H2.out.1, H2.out.2.1, (by show _ < ((w.alloc _).alloc _).heap.size; rw [H2.out.2.2.1]; omega), Below.draws H2.out.2.2.2 m⟩
  clear Hbx H2
  cases hv : vW x
  · have hm := Lib.hid (wcV_no hv)
    have Hv := Lib.hid hv; clear hv
    go_enter Try.func14, Try.ntmps14
    go_wp2_with fail
    refine (HI.out _ Hv.out).mono ?_
    rintro e w1 ⟨rfl, hb1, hb2, hs1, Hbel⟩
    have z0 := heap_cell hb2 (i := 0) rfl
    have z1 := heap_cell hb2 (i := 1) rfl
    have z2 := heap_cell hb2 (i := 2) rfl
    have z3 := heap_cell hb2 (i := 3) rfl
    have z4 := heap_cell hb2 (i := 4) rfl
    have z5 := heap_cell hb2 (i := 5) rfl
    have f0 := frozen_at hb2 0
    have f1 := frozen_at hb2 1
    have f2 := frozen_at hb2 2
    have f3 := frozen_at hb2 3
    have f4 := frozen_at hb2 4
    have f5 := frozen_at hb2 5
    have d0 := heap_cell hb1 (i := 0) rfl
    have Hbel := Lib.hid Hbel
    clear hb1 hb2
    go_wp2
    refine bodyPost_ret (v := .tuple #[aggC Chn.nil (.slice none 0 0) (.slice none 0 0), .bool false]) (by simp [results, Try.results14, go_sem, aggC, Chn.nil, z0, z1, z2, z3, z4, z5]) rfl ⟨_, rfl, ?_⟩
    rw [hm.out]
    refine ⟨[], ⟨_, _, [], [], rfl, own_nil _, own_nil _, rfl, by simp⟩, by simp, ?_⟩
    refine Below.trans Hbel.out ?_
    repeat' (first | with_reducible exact Below.refl _ _ | with_reducible refine Below.alloc ?_ ?_ _ | with_reducible refine Below.setCell ?_ ?_ _ | with_reducible refine Below.drew ?_ | with_reducible refine Below.draws ?_ _ | omega | (simp; done) | (simp; omega))
  · have hm := Lib.hid (wcV_yes hv)
    have hvw := Lib.hid (vW_iff.1 hv)
    have Hv := Lib.hid hv; clear hv
    go_enter Try.func14, Try.ntmps14
    go_wp2_with fail
    refine (HI.out _ Hv.out).mono ?_
    rintro e w1 ⟨rfl, hb1, hb2, hs1, Hbel⟩
    have hbx1 : BoxW (· < B) w1 w.heap.size x := ⟨_, hb1, RdI.ok.keep Hu.out fun k hk => Hbel.block k (by omega)⟩
    have hcl := Lib.hid (specL03Weights hbx1 (fun k hk => by have : k < B := hk; omega) (by omega) hvw.out)
    clear hbx1
    have Hb2 := Lib.hid hb2
    have Hbel := Lib.hid Hbel
    clear hb1 hb2
    go_wp2_with fail
    refine (Calls.mono hcl.out ?_)
    rintro e w4 ⟨v', rfl, hf⟩
    obtain ⟨u, p, rfl, a7, n7, c7, a8, n8, c8, rfl, rfl⟩ := hf.aggC
    have hz6 := below_heap hf.bel Hb2.out
    have z0 := heap_cell hz6 (i := 0) rfl
    have z1 := heap_cell hz6 (i := 1) rfl
    have z2 := heap_cell hz6 (i := 2) rfl
    have z3 := heap_cell hz6 (i := 3) rfl
    have z4 := heap_cell hz6 (i := 4) rfl
    have z5 := heap_cell hz6 (i := 5) rfl
    have f0 := frozen_at hz6 0
    have f1 := frozen_at hz6 1
    have f2 := frozen_at hz6 2
    have f3 := frozen_at hz6 3
    have f4 := frozen_at hz6 4
    have f5 := frozen_at hz6 5
    have Hf := Lib.hid hf
    clear hf hz6
    go_wp2
    refine bodyPost_ret (v := .tuple #[.agg #[.int .i64 (wchn x).base, .int .i64 (wchn x).states, .int .i64 (wchn x).start, .int .i64 (wchn x).stop, .slice a7 n7 c7, .slice a8 n8 c8], .bool true]) (by simp [results, Try.results14, go_sem, z0, z1, z2, z3, z4, z5]) rfl ⟨_, rfl, by rw [hm.out]; exact Fresh.turnedAt (b := w.heap.size + 1) OC.ok Hf.out Hbel.out (by omega) hs1 (by repeat' (first | with_reducible exact Only.refl _ _ | with_reducible refine Only.put ?_ ?_ _ _ | (simp; done)))⟩

set_option maxHeartbeats 1600000 in
set_option maxRecDepth 100000 in
theorem implWeightChain {B : Nat} {v : Value} {x : Wgt} {w : World} (h : RdW (· < B) w v x) (hB : B ≤ w.heap.size) (hn : szW x ≤ 1048576) :
    Calls Try.prog 16 #[v] w fun e w' => ∃ v', e = .returned (.tuple #[v', .bool (vW x)]) ∧ Fresh OC w w' v' (wcV x) := by
  have Hr := Lib.hid h
  obtain ⟨u, rfl, hu⟩ := h
  obtain ⟨a, c, rfl, h1, h2⟩ := hu.isSlice
  have Hbx := Lib.hid (BoxW.boxed hu hB); have Hu := Lib.hid hu; clear hu
  unfold maxLen at h2
  have H2 := Lib.hid (two w (.cells #[.int .i64 x.base, .int .i64 x.modulus, .int .i64 x.target, .slice a x.weights.length c] 31) (.cells #[.int .i64 0, .int .i64 0, .int .i64 0, .int .i64 0, .slice none 0 0, .slice none 0 0] 28))
  unfold aggW
  have HI : Hid (∀ b, vW x = b → Calls Try.prog 61 #[.agg #[.int .i64 x.base, .int .i64 x.modulus, .int .i64 x.target, .slice a x.weights.length c]] ((w.alloc (.cells #[.int .i64 x.base, .int .i64 x.modulus, .int .i64 x.target, .slice a x.weights.length c] 31)).alloc (.cells #[.int .i64 0, .int .i64 0, .int .i64 0, .int .i64 0, .slice none 0 0, .slice none 0 0] 28)) fun e w1 => e = .returned (.bool b) ∧ w1.heap[w.heap.size]? = some (.cells #[.int .i64 x.base, .int .i64 x.modulus, .int .i64 x.target, .slice a x.weights.length c] 31 (0, 0)) ∧ w1.heap[w.heap.size + 1]? = some (.cells #[.int .i64 0, .int .i64 0, .int .i64 0, .int .i64 0, .slice none 0 0, .slice none 0 0] 28 (0, 0)) ∧ w.heap.size + 1 < w1.heap.size ∧ Below w.heap.size w w1) := Lib.hid fun b hb => by
    refine (implValidWeighting (Rd.below RdW.ok Hr.out (H2.out.2.2.2.mono hB)) (by rw [H2.out.2.2.1]; omega) hn _ hb).mono ?_
    rintro e w1 ⟨rfl, hb⟩
    exact ⟨rfl, below_heap hb H2.out.1, below_heap hb H2.out.2.1, heap_lt (below_heap hb H2.out.2.1), H2.out.2.2.2.trans (hb.mono (by rw [H2.out.2.2.1]; omega))⟩
  clear Hbx H2
  cases hv : vW x
  · have hm := Lib.hid (wcV_no hv)
    have Hv := Lib.hid hv; clear hv
    go_enter Try.func16, Try.ntmps16
    go_wp2_with fail
    refine (HI.out _ Hv.out).mono ?_
    rintro e w1 ⟨rfl, hb1, hb2, hs1, Hbel⟩
    have z0 := heap_cell hb2 (i := 0) rfl
    have z1 := heap_cell hb2 (i := 1) rfl
    have z2 := heap_cell hb2 (i := 2) rfl
    have z3 := heap_cell hb2 (i := 3) rfl
    have z4 := heap_cell hb2 (i := 4) rfl
    have z5 := heap_cell hb2 (i := 5) rfl
    have f0 := frozen_at hb2 0
    have f1 := frozen_at hb2 1
    have f2 := frozen_at hb2 2
    have f3 := frozen_at hb2 3
    have f4 := frozen_at hb2 4
    have f5 := frozen_at hb2 5
    have d0 := heap_cell hb1 (i := 0) rfl
    have Hbel := Lib.hid Hbel
    clear hb1 hb2
    go_wp2
    refine bodyPost_ret (v := .tuple #[aggC Chn.nil (.slice none 0 0) (.slice none 0 0), .bool false]) (by simp [results, Try.results16, go_sem, aggC, Chn.nil, z0, z1, z2, z3, z4, z5]) rfl ⟨_, rfl, ?_⟩
    rw [hm.out]
    refine ⟨[], ⟨_, _, [], [], rfl, own_nil _, own_nil _, rfl, by simp⟩, by simp, ?_⟩
    refine Below.trans Hbel.out ?_
    repeat' (first | with_reducible exact Below.refl _ _ | with_reducible refine Below.alloc ?_ ?_ _ | with_reducible refine Below.setCell ?_ ?_ _ | with_reducible refine Below.drew ?_ | with_reducible refine Below.draws ?_ _ | omega | (simp; done) | (simp; omega))
  · have hm := Lib.hid (wcV_yes hv)
    have hvw := Lib.hid (vW_iff.1 hv)
    have Hv := Lib.hid hv; clear hv
    go_enter Try.func16, Try.ntmps16
    go_wp2_with fail
    refine (HI.out _ Hv.out).mono ?_
    rintro e w1 ⟨rfl, hb1, hb2, hs1, Hbel⟩
    have hbx1 : BoxW (· < B) w1 w.heap.size x := ⟨_, hb1, RdI.ok.keep Hu.out fun k hk => Hbel.block k (by omega)⟩
    have hcl := Lib.hid (implWChain hbx1 (fun k hk => by have : k < B := hk; omega) (by omega) hvw.out)
    clear hbx1
    have Hb2 := Lib.hid hb2
    have Hbel := Lib.hid Hbel
    clear hb1 hb2
    go_wp2_with fail
    refine (Calls.mono hcl.out ?_)
    rintro e w4 ⟨v', rfl, hf⟩
    obtain ⟨u, p, rfl, a7, n7, c7, a8, n8, c8, rfl, rfl⟩ := hf.aggC
    have hz6 := below_heap hf.bel Hb2.out
    have z0 := heap_cell hz6 (i := 0) rfl
    have z1 := heap_cell hz6 (i := 1) rfl
    have z2 := heap_cell hz6 (i := 2) rfl
    have z3 := heap_cell hz6 (i := 3) rfl
    have z4 := heap_cell hz6 (i := 4) rfl
    have z5 := heap_cell hz6 (i := 5) rfl
    have f0 := frozen_at hz6 0
    have f1 := frozen_at hz6 1
    have f2 := frozen_at hz6 2
    have f3 := frozen_at hz6 3
    have f4 := frozen_at hz6 4
    have f5 := frozen_at hz6 5
    have Hf := Lib.hid hf
    clear hf hz6
    go_wp2
    refine bodyPost_ret (v := .tuple #[.agg #[.int .i64 (wchn x).base, .int .i64 (wchn x).states, .int .i64 (wchn x).start, .int .i64 (wchn x).stop, .slice a7 n7 c7, .slice a8 n8 c8], .bool true]) (by simp [results, Try.results16, go_sem, z0, z1, z2, z3, z4, z5]) rfl ⟨_, rfl, by rw [hm.out]; exact Fresh.turnedAt (b := w.heap.size + 1) OC.ok Hf.out Hbel.out (by omega) hs1 (by repeat' (first | with_reducible exact Only.refl _ _ | with_reducible refine Only.put ?_ ?_ _ _ | (simp; done)))⟩

set_option maxHeartbeats 1600000 in
set_option maxRecDepth 100000 in
theorem specPermutingChain {B : Nat} {v : Value} {x : Prm} {w : World} (h : RdP (· < B) w v x) (hB : B ≤ w.heap.size) (hn : szP x ≤ 1048576) :
    Calls Try.prog 23 #[v] w fun e w' => ∃ v', e = .returned (.tuple #[v', .bool (vP x)]) ∧ Fresh OC w w' v' (pcV x) := by
  have Hr := Lib.hid h
  obtain ⟨u, rfl, hu⟩ := h
  obtain ⟨a, c, rfl, h1, h2⟩ := hu.isSlice
  have Hbx := Lib.hid (BoxP.boxed hu hB); have Hu := Lib.hid hu; clear hu
  unfold maxLen at h2
  have H2 := Lib.hid (two w (.cells #[.int .i64 x.base, .int .i64 x.target, .slice a x.orders.length c] 43) (.cells #[.int .i64 0, .int .i64 0, .int .i64 0, .int .i64 0, .slice none 0 0, .slice none 0 0] 28))
  unfold aggP
  have HI : Hid (∀ b, vP x = b → Calls Try.prog 69 #[.pointer (some ⟨w.heap.size, 0, none⟩)] ((w.alloc (.cells #[.int .i64 x.base, .int .i64 x.target, .slice a x.orders.length c] 43)).alloc (.cells #[.int .i64 0, .int .i64 0, .int .i64 0, .int .i64 0, .slice none 0 0, .slice none 0 0] 28)) fun e w1 => e = .returned (.bool b) ∧ w1.heap[w.heap.size]? = some (.cells #[.int .i64 x.base, .int .i64 x.target, .slice a x.orders.length c] 43 (0, 0)) ∧ w1.heap[w.heap.size + 1]? = some (.cells #[.int .i64 0, .int .i64 0, .int .i64 0, .int .i64 0, .slice none 0 0, .slice none 0 0] 28 (0, 0)) ∧ w.heap.size + 1 < w1.heap.size ∧ Below w.heap.size w w1) := Lib.hid fun b hb => by
    refine (specL03Permuting (Hbx.out.keep (w' := _) fun k hk => ?hb) hn _ hb).mono ?_
    case hb => exact (Below.heap_alloc _ _ _ (by simp; omega))
    rintro e w1 ⟨rfl, m, rfl⟩
    exact ⟨rfl, H2.out.1, H2.out.2.1, (by show _ < ((w.alloc _).alloc _).heap.size; rw [H2.out.2.2.1]; omega), Below.draws H2.out.2.2.2 m⟩
  clear Hbx H2
  cases hv : vP x
  · have hm := Lib.hid (pcV_no hv)
    have Hv := Lib.hid hv; clear hv
    go_enter Try.func23, Try.ntmps23
    go_wp2_with fail
    refine (HI.out _ Hv.out).mono ?_
    rintro e w1 ⟨rfl, hb1, hb2, hs1, Hbel⟩
    have z0 := heap_cell hb2 (i := 0) rfl
    have z1 := heap_cell hb2 (i := 1) rfl
    have z2 := heap_cell hb2 (i := 2) rfl
    have z3 := heap_cell hb2 (i := 3) rfl
    have z4 := heap_cell hb2 (i := 4) rfl
    have z5 := heap_cell hb2 (i := 5) rfl
    have f0 := frozen_at hb2 0
    have f1 := frozen_at hb2 1
    have f2 := frozen_at hb2 2
    have f3 := frozen_at hb2 3
    have f4 := frozen_at hb2 4
    have f5 := frozen_at hb2 5
    have d0 := heap_cell hb1 (i := 0) rfl
    have Hbel := Lib.hid Hbel
    clear hb1 hb2
    go_wp2
    refine bodyPost_ret (v := .tuple #[aggC Chn.nil (.slice none 0 0) (.slice none 0 0), .bool false]) (by simp [results, Try.results23, go_sem, aggC, Chn.nil, z0, z1, z2, z3, z4, z5]) rfl ⟨_, rfl, ?_⟩
    rw [hm.out]
    refine ⟨[], ⟨_, _, [], [], rfl, own_nil _, own_nil _, rfl, by simp⟩, by simp, ?_⟩
    refine Below.trans Hbel.out ?_
    repeat' (first | with_reducible exact Below.refl _ _ | with_reducible refine Below.alloc ?_ ?_ _ | with_reducible refine Below.setCell ?_ ?_ _ | with_reducible refine Below.drew ?_ | with_reducible refine Below.draws ?_ _ | omega | (simp; done) | (simp; omega))
  · have hm := Lib.hid (pcV_yes hv)
    have hvp := vP_ok hv
    obtain ⟨NB, hNB⟩ : ∃ n : Nat, n = x.base.toNat := ⟨_, rfl⟩
    obtain ⟨NT, hNT⟩ : ∃ n : Nat, n = x.target.toNat := ⟨_, rfl⟩
    have hba := hvp.base
    have hta := hvp.target
    have hln := hvp.len
    have eb : x.base = (NB : Int) := by omega
    have et : x.target = (NT : Int) := by omega
    have hx := Lib.hid (show pchn x = addC x.orders id NB NB NT by rw [hNB, hNT]; rfl)
    have hbd := Lib.hid (show ∀ i, i < x.orders.length → (nth x.orders i).length ≤ 36 ∧ ∀ j, j < (nth x.orders i).length → 0 ≤ nth (nth x.orders i) j ∧ nth (nth x.orders i) j ≤ 2000 from fun i hi => by
      obtain ⟨g1, g2⟩ := hvp.row i hi
      exact ⟨by omega, fun j hj => by have := g2 j hj; omega⟩)
    have Hv := Lib.hid hv; clear hv
    have hNB2 : 2 ≤ NB ∧ NB ≤ 36 := by omega
    have Heb := Lib.hid eb; have Het := Lib.hid et; clear hNB hNT eb et hvp
    go_enter Try.func23, Try.ntmps23
    go_wp2_with fail
    refine (HI.out _ Hv.out).mono ?_
    rintro e w1 ⟨rfl, hb1, hb2, hs1, Hbel⟩
    rw [Heb.out, Het.out] at hb1
    have d0 := heap_cell hb1 (i := 0) rfl
    have d1 := heap_cell hb1 (i := 1) rfl
    have d2 := heap_cell hb1 (i := 2) rfl
    have Hu1 := Lib.hid (show RdII (· < B) w1 _ x.orders from RdII.ok.keep Hu.out fun k hk => Hbel.block k (by omega))
    have hcl := Lib.hid (specL03Chain id Hu1.out (by rw [List.map_id]; exact Hu1.out) (by omega) NB NB NT hln.2 (by omega) hbd.out)
    rw [← hx.out] at hcl
    have Hb2 := Lib.hid hb2
    have Hbel := Lib.hid Hbel
    clear hb1 hb2
    go_wp2_with fail
    refine (Calls.mono hcl.out ?_)
    rintro e w4 ⟨v', rfl, hf⟩
    obtain ⟨u, p, rfl, a7, n7, c7, a8, n8, c8, rfl, rfl⟩ := hf.aggC
    have hz6 := below_heap hf.bel Hb2.out
    have z0 := heap_cell hz6 (i := 0) rfl
    have z1 := heap_cell hz6 (i := 1) rfl
    have z2 := heap_cell hz6 (i := 2) rfl
    have z3 := heap_cell hz6 (i := 3) rfl
    have z4 := heap_cell hz6 (i := 4) rfl
    have z5 := heap_cell hz6 (i := 5) rfl
    have f0 := frozen_at hz6 0
    have f1 := frozen_at hz6 1
    have f2 := frozen_at hz6 2
    have f3 := frozen_at hz6 3
    have f4 := frozen_at hz6 4
    have f5 := frozen_at hz6 5
    have Hf := Lib.hid hf
    clear hf hz6
    go_wp2
    refine bodyPost_ret (v := .tuple #[.agg #[.int .i64 (pchn x).base, .int .i64 (pchn x).states, .int .i64 (pchn x).start, .int .i64 (pchn x).stop, .slice a7 n7 c7, .slice a8 n8 c8], .bool true]) (by simp [results, Try.results23, go_sem, z0, z1, z2, z3, z4, z5]) rfl ⟨_, rfl, by rw [hm.out]; exact Fresh.turnedAt (b := w.heap.size + 1) OC.ok Hf.out Hbel.out (by omega) hs1 (by repeat' (first | with_reducible exact Only.refl _ _ | with_reducible refine Only.put ?_ ?_ _ _ | (simp; done)))⟩

set_option maxHeartbeats 1600000 in
set_option maxRecDepth 100000 in
theorem implPermutingChain {B : Nat} {v : Value} {x : Prm} {w : World} (h : RdP (· < B) w v x) (hB : B ≤ w.heap.size) (hn : szP x ≤ 1048576) :
    Calls Try.prog 25 #[v] w fun e w' => ∃ v', e = .returned (.tuple #[v', .bool (vP x)]) ∧ Fresh OC w w' v' (pcV x) := by
  have Hr := Lib.hid h
  obtain ⟨u, rfl, hu⟩ := h
  obtain ⟨a, c, rfl, h1, h2⟩ := hu.isSlice
  have Hbx := Lib.hid (BoxP.boxed hu hB); have Hu := Lib.hid hu; clear hu
  unfold maxLen at h2
  have H2 := Lib.hid (two w (.cells #[.int .i64 x.base, .int .i64 x.target, .slice a x.orders.length c] 43) (.cells #[.int .i64 0, .int .i64 0, .int .i64 0, .int .i64 0, .slice none 0 0, .slice none 0 0] 28))
  unfold aggP
  have HI : Hid (∀ b, vP x = b → Calls Try.prog 71 #[.agg #[.int .i64 x.base, .int .i64 x.target, .slice a x.orders.length c]] ((w.alloc (.cells #[.int .i64 x.base, .int .i64 x.target, .slice a x.orders.length c] 43)).alloc (.cells #[.int .i64 0, .int .i64 0, .int .i64 0, .int .i64 0, .slice none 0 0, .slice none 0 0] 28)) fun e w1 => e = .returned (.bool b) ∧ w1.heap[w.heap.size]? = some (.cells #[.int .i64 x.base, .int .i64 x.target, .slice a x.orders.length c] 43 (0, 0)) ∧ w1.heap[w.heap.size + 1]? = some (.cells #[.int .i64 0, .int .i64 0, .int .i64 0, .int .i64 0, .slice none 0 0, .slice none 0 0] 28 (0, 0)) ∧ w.heap.size + 1 < w1.heap.size ∧ Below w.heap.size w w1) := Lib.hid fun b hb => by
    refine (implValidPermuting (Rd.below RdP.ok Hr.out (H2.out.2.2.2.mono hB)) (by rw [H2.out.2.2.1]; omega) hn _ hb).mono ?_
    rintro e w1 ⟨rfl, hb⟩
    exact ⟨rfl, below_heap hb H2.out.1, below_heap hb H2.out.2.1, heap_lt (below_heap hb H2.out.2.1), H2.out.2.2.2.trans (hb.mono (by rw [H2.out.2.2.1]; omega))⟩
  clear Hbx H2
  cases hv : vP x
  · have hm := Lib.hid (pcV_no hv)
    have Hv := Lib.hid hv; clear hv
    go_enter Try.func25, Try.ntmps25
    go_wp2_with fail
    refine (HI.out _ Hv.out).mono ?_
    rintro e w1 ⟨rfl, hb1, hb2, hs1, Hbel⟩
    have z0 := heap_cell hb2 (i := 0) rfl
    have z1 := heap_cell hb2 (i := 1) rfl
    have z2 := heap_cell hb2 (i := 2) rfl
    have z3 := heap_cell hb2 (i := 3) rfl
    have z4 := heap_cell hb2 (i := 4) rfl
    have z5 := heap_cell hb2 (i := 5) rfl
    have f0 := frozen_at hb2 0
    have f1 := frozen_at hb2 1
    have f2 := frozen_at hb2 2
    have f3 := frozen_at hb2 3
    have f4 := frozen_at hb2 4
    have f5 := frozen_at hb2 5
    have d0 := heap_cell hb1 (i := 0) rfl
    have Hbel := Lib.hid Hbel
    clear hb1 hb2
    go_wp2
    refine bodyPost_ret (v := .tuple #[aggC Chn.nil (.slice none 0 0) (.slice none 0 0), .bool false]) (by simp [results, Try.results25, go_sem, aggC, Chn.nil, z0, z1, z2, z3, z4, z5]) rfl ⟨_, rfl, ?_⟩
    rw [hm.out]
    refine ⟨[], ⟨_, _, [], [], rfl, own_nil _, own_nil _, rfl, by simp⟩, by simp, ?_⟩
    refine Below.trans Hbel.out ?_
    repeat' (first | with_reducible exact Below.refl _ _ | with_reducible refine Below.alloc ?_ ?_ _ | with_reducible refine Below.setCell ?_ ?_ _ | with_reducible refine Below.drew ?_ | with_reducible refine Below.draws ?_ _ | omega | (simp; done) | (simp; omega))
  · have hm := Lib.hid (pcV_yes hv)
    have hvp := vP_ok hv
    obtain ⟨NB, hNB⟩ : ∃ n : Nat, n = x.base.toNat := ⟨_, rfl⟩
    obtain ⟨NT, hNT⟩ : ∃ n : Nat, n = x.target.toNat := ⟨_, rfl⟩
    have hba := hvp.base
    have hta := hvp.target
    have hln := hvp.len
    have eb : x.base = (NB : Int) := by omega
    have et : x.target = (NT : Int) := by omega
    have hx := Lib.hid (show pchn x = addC x.orders id NB NB NT by rw [hNB, hNT]; rfl)
    have hbd := Lib.hid (show ∀ i, i < x.orders.length → (nth x.orders i).length ≤ 36 ∧ ∀ j, j < (nth x.orders i).length → 0 ≤ nth (nth x.orders i) j ∧ nth (nth x.orders i) j ≤ 2000 from fun i hi => by
      obtain ⟨g1, g2⟩ := hvp.row i hi
      exact ⟨by omega, fun j hj => by have := g2 j hj; omega⟩)
    have Hv := Lib.hid hv; clear hv
    have hNB2 : 2 ≤ NB ∧ NB ≤ 36 := by omega
    have Heb := Lib.hid eb; have Het := Lib.hid et; clear hNB hNT eb et hvp
    go_enter Try.func25, Try.ntmps25
    go_wp2_with fail
    refine (HI.out _ Hv.out).mono ?_
    rintro e w1 ⟨rfl, hb1, hb2, hs1, Hbel⟩
    rw [Heb.out, Het.out] at hb1
    have d0 := heap_cell hb1 (i := 0) rfl
    have d1 := heap_cell hb1 (i := 1) rfl
    have d2 := heap_cell hb1 (i := 2) rfl
    have Hu1 := Lib.hid (show RdII (· < B) w1 _ x.orders from RdII.ok.keep Hu.out fun k hk => Hbel.block k (by omega))
    have hcl := Lib.hid (implAdding Hu1.out (by omega) NB NB NT hln.2 (by omega) hbd.out)
    rw [← hx.out] at hcl
    have Hb2 := Lib.hid hb2
    have Hbel := Lib.hid Hbel
    clear hb1 hb2
    go_wp2_with fail
    refine (Calls.mono hcl.out ?_)
    rintro e w4 ⟨v', rfl, hf⟩
    obtain ⟨u, p, rfl, a7, n7, c7, a8, n8, c8, rfl, rfl⟩ := hf.aggC
    have hz6 := below_heap hf.bel Hb2.out
    have z0 := heap_cell hz6 (i := 0) rfl
    have z1 := heap_cell hz6 (i := 1) rfl
    have z2 := heap_cell hz6 (i := 2) rfl
    have z3 := heap_cell hz6 (i := 3) rfl
    have z4 := heap_cell hz6 (i := 4) rfl
    have z5 := heap_cell hz6 (i := 5) rfl
    have f0 := frozen_at hz6 0
    have f1 := frozen_at hz6 1
    have f2 := frozen_at hz6 2
    have f3 := frozen_at hz6 3
    have f4 := frozen_at hz6 4
    have f5 := frozen_at hz6 5
    have Hf := Lib.hid hf
    clear hf hz6
    go_wp2
    refine bodyPost_ret (v := .tuple #[.agg #[.int .i64 (pchn x).base, .int .i64 (pchn x).states, .int .i64 (pchn x).start, .int .i64 (pchn x).stop, .slice a7 n7 c7, .slice a8 n8 c8], .bool true]) (by simp [results, Try.results25, go_sem, z0, z1, z2, z3, z4, z5]) rfl ⟨_, rfl, by rw [hm.out]; exact Fresh.turnedAt (b := w.heap.size + 1) OC.ok Hf.out Hbel.out (by omega) hs1 (by repeat' (first | with_reducible exact Only.refl _ _ | with_reducible refine Only.put ?_ ?_ _ _ | (simp; done)))⟩
end Go.Proofs.Ytnpkanlieflbiaa
