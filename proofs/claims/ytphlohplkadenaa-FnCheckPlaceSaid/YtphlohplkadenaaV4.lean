/- Weightings turned round, and times a number. -/
import Derived.Test.YtphlohplkadenaaV3
import Derived.Test.YtphlohplkadenaaF2
namespace Go.Proofs.Ytphlohplkadenaa
open Go.RowKit
set_option linter.unusedVariables false

def Wgt.zero : Wgt := ⟨0, 0, 0, []⟩
def mirW (x : Wgt) : Wgt := ⟨x.base, x.modulus, x.target, x.weights.reverse⟩
def mirV (x : Wgt) : Wgt := if vW x then mirW x else Wgt.zero
theorem mirV_no {x : Wgt} (h : vW x = false) : mirV x = Wgt.zero := by simp [mirV, h]
theorem mirV_yes {x : Wgt} (h : vW x = true) : mirV x = mirW x := by simp [mirV, h]
theorem mirV_sz (x : Wgt) : szW (mirV x) ≤ szW x := by
  unfold mirV
  split
  · simp [mirW, szW]
  · simp [Wgt.zero, szW]
theorem take_reverse {xs : List Int} {k : Nat} (h : k < xs.length) : xs.reverse.take (k + 1) = xs.reverse.take k ++ [nth xs (xs.length - 1 - k)] := by
  rw [take_nth (by simpa using h)]
  congr 2
  rw [nth_eq (by simpa using h), nth_eq (by omega), List.getElem_reverse]

set_option maxHeartbeats 1600000 in
set_option maxRecDepth 10000 in
theorem specMirror {B : Nat} {v : Value} {x : Wgt} {w : World} (h : RdW (· < B) w v x) (hB : B ≤ w.heap.size) (hn : szW x ≤ 1048576) :
    Calls Try.prog 24 #[v] w fun e w' => ∃ v', e = .returned (.tuple #[v', .bool (vW x)]) ∧ Fresh OW w w' v' (mirV x) := by
  obtain ⟨u, rfl, hu⟩ := h
  obtain ⟨a, c, rfl, h1, h2⟩ := hu.isSlice
  have Hbx := Lib.hid (BoxW.boxed hu hB)
  have Hu := Lib.hid hu; clear hu
  unfold maxLen at h2
  unfold aggW
  cases hv : vW x
  · have hm := Lib.hid (mirV_no hv)
    have Hv := Lib.hid hv; clear hv
    go_enter Try.func24, Try.ntmps24
    go_wp2_with fail
    refine (specL03Is (Hbx.out.keep (w' := _) fun k hk => ?hb) hn _ Hv.out).mono ?_
    case hb => exact (Below.heap_alloc _ _ _ (by simp; omega))
    rintro e w1 ⟨rfl, m, rfl⟩
    go_wp2
    refine bodyPost_ret (v := .tuple #[aggW Wgt.zero (.slice none 0 0), .bool false]) (by simp [results, Try.results24, go_sem, aggW, Wgt.zero]) rfl ⟨_, rfl, ?_⟩
    rw [hm.out]
    exact ⟨[], ⟨_, rfl, own_nil _⟩, by simp, by repeat' (first | with_reducible exact Below.refl _ _ | with_reducible refine Below.alloc ?_ ?_ _ | with_reducible refine Below.setCell ?_ ?_ _ | with_reducible refine Below.drew ?_ | with_reducible refine Below.draws ?_ _ | omega | (simp; done) | (simp; omega))⟩
  · have hm := Lib.hid (mirV_yes hv)
    have hvw := vW_iff.1 hv
    have hlen := hvw.len
    have Hv := Lib.hid hv; clear hv hvw
    go_enter Try.func24, Try.ntmps24
    go_wp2_with fail
    refine (specL03Is (Hbx.out.keep (w' := _) fun k hk => ?hb) hn _ Hv.out).mono ?_
    case hb => exact (Below.heap_alloc _ _ _ (by simp; omega))
    rintro e w1 ⟨rfl, m, rfl⟩
    go_wp2
    go_loopw [5] (fun i wr => ∃ (k : Nat) (z : Int), k ≤ x.weights.length ∧ i = .int .i64 z ∧ z = x.weights.length - 1 - k ∧ ∃ vs S, wr.heap[w.heap.size]? = some (.cells #[.int .i64 x.base, .int .i64 x.modulus, .int .i64 x.target, .slice a x.weights.length c] 26 (0, 0)) ∧
        wr.heap[w.heap.size + 1]? = some (.cells #[.int .i64 0, .int .i64 0, .int .i64 0, .slice none 0 0] 26 (0, 0)) ∧ wr.heap[w.heap.size + 1 + 1]? = some (.cells #[.int .i64 x.base, .int .i64 x.modulus, .int .i64 x.target, vs] 26 (0, 0)) ∧
        OI wr vs (x.weights.reverse.take k) S ∧ Hid (∀ j ∈ S, w.heap.size + 1 + 1 < j) ∧ Below w.heap.size w wr) (fun i _ => (intOf i + 1).toNat)
    case atStart => exact ⟨0, _, Nat.zero_le _, rfl, by omega, .slice none 0 0, [], (three w _ _ _ m).1, (three w _ _ _ m).2.1, (three w _ _ _ m).2.2.1, own_nil _, Lib.hid (by simp), (three w _ _ _ m).2.2.2.2⟩
    case round =>
      obtain ⟨k, z, hk, rfl, hz, vs, S, hb1, hb2, hb4, hown, hS, hbel⟩ := hrel
      by_cases hlt : k < x.weights.length
      · obtain ⟨j, rfl⟩ : ∃ j : Nat, z = j := ⟨z.toNat, by omega⟩
        have hj : j < x.weights.length := by omega
        have htk := Lib.hid (take_reverse hlt)
        rw [show x.weights.length - 1 - k = j by omega] at htk
        obtain ⟨av, nv, cv, rfl⟩ := hown.isSlice
        obtain ⟨b, o, u, rfl, hPb, hc, hu⟩ := Rd.elim Hu.out j hj
        have hc1 : wr.cell? ⟨b, o + j, none⟩ = some (.int .i64 (nth x.weights j)) := by rw [hbel.cell (p := ⟨b, o + j, none⟩) (by show b < _; omega), hc, hu]
        have d3 := heap_cell hb1 (i := 3) rfl
        have c3 := heap_cell hb4 (i := 3) rfl
        have Hown := Lib.hid hown
        have Hb1 := Lib.hid hb1
        have Hb2 := Lib.hid hb2
        have Hb4 := Lib.hid hb4
        have Hbel := Lib.hid hbel
        have Hz := Lib.hid hz
        have hln := Lib.hid (show (x.weights.reverse.take k).length ≤ 20 by simp; omega)
        clear hc hu hown hb1 hb2 hb4 hbel hz
        go_wp2
        have hlt4 := heap_lt Hb4.out
        go_region_law (refine step_push rfl _ _ 24 rfl oI.ok Try.underlying24 infoI64 rfl wr.drew (OI.ok.keep Hown.out fun _ _ => rfl) (nth x.weights j) [] ⟨rfl, rfl⟩ (by simp) (by have := hln.out; omega) (by have := hln.out; unfold maxLen; omega) rfl rfl rfl ?_; intro v1 w1 S1 hown1 honly1 hS1; obtain ⟨a1, n1, c1, rfl⟩ := hown1.isSlice; have Hw4 := Lib.hid (fp honly1 Hb4.out fun hm => by have := hS.out _ hm; omega); have c4 := heap_cell Hw4.out (i := 3) rfl; have f4 := frozen_at Hw4.out 3; have Hon := Lib.hid hown1; have Hol := Lib.hid honly1; have HS1 := Lib.hid hS1; clear hown1 honly1 hS1)
        all_goals go_wp2
        all_goals go_roundw
        all_goals first
        | (show ((j : Int) - 1 + 1).toNat < ((j : Int) + 1).toNat; omega)
        | skip
        all_goals
          have hS1' : ∀ j ∈ S1, w.heap.size + 1 + 1 < j := fun j hj => by
            rcases HS1.out j hj with h | h | h
            · exact hS.out j h
            · simp at h
            · have h : wr.heap.size ≤ j := h
              omega
          refine ⟨k + 1, (j : Int) - 1, by omega, rfl, by have := Hz.out; omega, .slice a1 n1 c1, S1, fset (fp Hol.out Hb1.out fun hm => by have := hS.out _ hm; omega) (by omega) _, fset (fp Hol.out Hb2.out fun hm => by have := hS.out _ hm; omega) (by omega) _, heap_setCell_same w1 _ 3 _ _ _ Hw4.out, ?_, Lib.hid hS1', ?_⟩
          · rw [htk.out]
            exact OI.ok.keep Hon.out fun i hi => keep_set (by have := hS1' i hi; show i ≠ w.heap.size + 1 + 1; omega)
          · refine Below.setCell ?_ (by show _ ≤ w.heap.size + 1 + 1; omega) _
            refine below_only (w := wr.drew) Hbel.out.drew Hol.out Hbel.out.size fun j hj => by have := hS.out j hj; omega
      · obtain rfl : k = x.weights.length := by omega
        obtain rfl : z = -1 := by omega
        have e : x.weights.reverse.take x.weights.length = x.weights.reverse := by rw [List.take_of_length_le (by simp)]
        rw [e] at hown
        obtain ⟨av, nv, cv, rfl⟩ := hown.isSlice
        have c0 := heap_cell hb4 (i := 0) rfl
        have c1 := heap_cell hb4 (i := 1) rfl
        have c2 := heap_cell hb4 (i := 2) rfl
        have c3 := heap_cell hb4 (i := 3) rfl
        have d0 := heap_cell hb2 (i := 0) rfl
        have d1 := heap_cell hb2 (i := 1) rfl
        have d2 := heap_cell hb2 (i := 2) rfl
        have d3 := heap_cell hb2 (i := 3) rfl
        have f0 := frozen_at hb2 0
        have f1 := frozen_at hb2 1
        have f2 := frozen_at hb2 2
        have f3 := frozen_at hb2 3
        have Hown := Lib.hid hown
        have Hbel := Lib.hid hbel
        clear hown hbel hb1 hb2 hb4 hz e
        go_wp2
        refine bodyPost_ret (v := .tuple #[aggW (mirW x) (.slice av nv cv), .bool true]) (by simp [results, Try.results24, go_sem, aggW, mirW, d0, d1, d2, d3]) rfl ⟨_, rfl, ?_⟩
        rw [hm.out]
        refine ⟨S, ⟨_, rfl, OI.ok.keep Hown.out fun i hi => ?_⟩, fun i hi => by have := hS.out i hi; omega, ?_⟩
        · exact Only.block (S := [w.heap.size + 1]) (by repeat' (first | with_reducible exact Only.refl _ _ | with_reducible refine Only.put ?_ ?_ _ _ | (simp; done))) i (OI.ok.lt Hown.out i hi) (by have := hS.out i hi; simp; omega)
        · refine Below.trans Hbel.out ?_
          repeat' (first | with_reducible exact Below.refl _ _ | with_reducible refine Below.alloc ?_ ?_ _ | with_reducible refine Below.setCell ?_ ?_ _ | with_reducible refine Below.drew ?_ | with_reducible refine Below.draws ?_ _ | omega | (simp; done) | (simp; omega))
end Go.Proofs.Ytphlohplkadenaa
