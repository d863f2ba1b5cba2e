/- Weightings times a number: spec. -/
import Derived.Test.YtphlohplkadenaaV4
import Derived.Test.YtphlohplkadenaaG1
namespace Go.Proofs.Ytphlohplkadenaa
open Go.RowKit
set_option linter.unusedVariables false

def sclL (m d : Int) (xs : List Int) : List Int := xs.map fun a => a * d % m
def sclW (x : Wgt) (d : Int) : Wgt := ⟨x.base, x.modulus, x.target * d % x.modulus, sclL x.modulus d x.weights⟩
def sclOk (x : Wgt) (d : Int) : Bool := vW x && (inB d 1 (x.modulus - 1) && decide (Nat.gcd d.toNat x.modulus.toNat = 1))
def sclV (x : Wgt) (d : Int) : Wgt := if sclOk x d then sclW x d else Wgt.zero
theorem sclV_no {x : Wgt} {d : Int} (h : sclOk x d = false) : sclV x d = Wgt.zero := by simp [sclV, h]
theorem sclV_yes {x : Wgt} {d : Int} (h : sclOk x d = true) : sclV x d = sclW x d := by simp [sclV, h]
theorem sclV_sz (x : Wgt) (d : Int) : szW (sclV x d) ≤ szW x := by
  unfold sclV
  split
  · simp [sclW, sclL, szW]
  · simp [Wgt.zero, szW]
theorem sclL_len (m d : Int) (xs : List Int) : (sclL m d xs).length = xs.length := by simp [sclL]
theorem sclL_nth {m d : Int} {xs : List Int} {k : Nat} (h : k < xs.length) : nth (sclL m d xs) k = nth xs k * d % m := by
  rw [nth_eq (by rw [sclL_len]; exact h), nth_eq h]; simp [sclL]
theorem sclL_take {m d : Int} {xs : List Int} {k : Nat} (h : k < xs.length) : (sclL m d xs).take (k + 1) = (sclL m d xs).take k ++ [nth xs k * d % m] := by
  rw [take_nth (by rw [sclL_len]; exact h), sclL_nth h]
/-- A product that the walk meets: its wrap and its remainder. -/
theorem mul_facts {a d m : Int} (ha : 0 ≤ a) (ha2 : a < m) (hd : 1 ≤ d) (hd2 : d < m) (hm : m ≤ 36) : IntKind.i64.wrap (a * d) = a * d ∧ IntKind.i64.wrap (d * a) = a * d ∧ Int.tmod (a * d) m = a * d % m ∧ IntKind.i64.wrap (a * d % m) = a * d % m := by
  have h1 : 0 ≤ a * d := Int.mul_nonneg ha (by omega)
  have h2 : a * d ≤ 36 * 36 := Int.mul_le_mul (by omega) (by omega) (by omega) (by omega)
  have h3 := Int.emod_nonneg (a * d) (show m ≠ 0 by omega)
  have h4 := Int.emod_lt_of_pos (a * d) (show 0 < m by omega)
  refine ⟨IntWalk.i64_in _ (by omega), by rw [Int.mul_comm d a]; exact IntWalk.i64_in _ (by omega), Int.tmod_eq_emod_of_nonneg h1, IntWalk.i64_in _ (by omega)⟩

set_option maxHeartbeats 1600000 in
set_option maxRecDepth 10000 in
theorem specScale {B : Nat} {v : Value} {x : Wgt} {w : World} (h : RdW (· < B) w v x) (hB : B ≤ w.heap.size) (hn : szW x ≤ 1048576) (d : Int) :
    Calls Try.prog 28 #[v, .int .i64 d] w fun e w' => ∃ v', e = .returned (.tuple #[v', .bool (sclOk x d)]) ∧ Fresh OW w w' v' (sclV x d) := by
  obtain ⟨u, rfl, hu⟩ := h
  obtain ⟨a, c, rfl, h1, h2⟩ := hu.isSlice
  have Hbx := Lib.hid (BoxW.boxed hu hB)
  have Hu := Lib.hid hu; clear hu
  unfold maxLen at h2
  unfold aggW
  cases hv : vW x
  · have ho : sclOk x d = false := by simp [sclOk, hv]
    have hm := Lib.hid (sclV_no ho)
    rw [ho]
    have Hv := Lib.hid hv; clear hv ho
    go_enter Try.func28, Try.ntmps28
    go_wp2_with fail
    refine (specL03Is (Hbx.out.keep (w' := _) fun k hk => ?hb) hn _ Hv.out).mono ?_
    case hb => exact (Below.heap_alloc _ _ _ (by simp; omega))
    rintro e w1 ⟨rfl, m, rfl⟩
    go_wp2
    refine bodyPost_ret (v := .tuple #[aggW Wgt.zero (.slice none 0 0), .bool false]) (by simp [results, Try.results28, go_sem, aggW, Wgt.zero]) rfl ⟨_, rfl, ?_⟩
    rw [hm.out]
    exact ⟨[], ⟨_, rfl, own_nil _⟩, by simp, by repeat' (first | with_reducible exact Below.refl _ _ | with_reducible refine Below.alloc ?_ ?_ _ | with_reducible refine Below.setCell ?_ ?_ _ | with_reducible refine Below.drew ?_ | with_reducible refine Below.draws ?_ _ | omega | (simp; done) | (simp; omega))⟩
  · have hvw := vW_iff.1 hv
    have hlen := hvw.len
    have hmo := hvw.modulus
    have hta := hvw.target
    have hwt := Lib.hid hvw.weight
    have Hv := Lib.hid hv
    have hwm : wrap64 (x.modulus - 1) = x.modulus - 1 := IntWalk.wrap64_in _ (by omega)
    cases hin : inB d 1 (x.modulus - 1)
    · have ho : sclOk x d = false := by simp [sclOk, hin]
      have hm := Lib.hid (sclV_no ho)
      rw [ho]
      clear hv ho hvw hmo hta
      go_enter Try.func28, Try.ntmps28
      go_wp2_with fail
      refine (specL03Is (Hbx.out.keep (w' := _) fun k hk => ?hb) hn _ Hv.out).mono ?_
      case hb => exact (Below.heap_alloc _ _ _ (by simp; omega))
      rintro e w1 ⟨rfl, m, rfl⟩
      go_wp2_with (go_at_call 70; refine (specIn _ _ _ _ (by first | assumption | (rw [hwm]; assumption)) _).mono ?_; rintro e w' ⟨rfl, rfl⟩)
      refine bodyPost_ret (v := .tuple #[aggW Wgt.zero (.slice none 0 0), .bool false]) (by simp [results, Try.results28, go_sem, aggW, Wgt.zero]) rfl ⟨_, rfl, ?_⟩
      rw [hm.out]
      exact ⟨[], ⟨_, rfl, own_nil _⟩, by simp, by repeat' (first | with_reducible exact Below.refl _ _ | with_reducible refine Below.alloc ?_ ?_ _ | with_reducible refine Below.setCell ?_ ?_ _ | with_reducible refine Below.drew ?_ | with_reducible refine Below.draws ?_ _ | omega | (simp; done) | (simp; omega))⟩
    · have hd := inB_true.1 hin
      have ho : sclOk x d = decide (Nat.gcd d.toNat x.modulus.toNat = 1) := by simp [sclOk, hin, hv]
      have hmz : 0 ≤ x.modulus := by omega
      have hdz : 0 ≤ d := by omega
      have Hg := Lib.hid (specGcdZ d x.modulus hdz hmz _ rfl)
      by_cases hg : Nat.gcd d.toNat x.modulus.toNat = 1
      · rw [hg] at Hg
        have ho : sclOk x d = true := by rw [ho]; simpa using hg
        have hm := Lib.hid (sclV_yes ho)
        rw [ho]
        have hmf := mul_facts (a := x.target) (d := d) (m := x.modulus) (by omega) (by omega) (by omega) (by omega) (by omega)
        have hwf := Lib.hid (fun k hk => mul_facts (a := nth x.weights k) (d := d) (m := x.modulus) (hwt.out k hk).1 (hwt.out k hk).2 (by omega) (by omega) (by omega))
        have hm0 : x.modulus ≠ 0 := by omega
        obtain ⟨T1, hT1⟩ : ∃ t, t = x.target * d % x.modulus := ⟨_, rfl⟩
        rw [← hT1] at hmf
        have HT1 := Lib.hid hT1
        obtain ⟨f1, f2, f3, f4⟩ := hmf
        clear hv ho hvw hg hta hT1
        go_enter Try.func28, Try.ntmps28
        go_wp2_with fail
        refine (specL03Is (Hbx.out.keep (w' := _) fun k hk => ?hb) hn _ Hv.out).mono ?_
        case hb => exact (Below.heap_alloc _ _ _ (by simp; omega))
        rintro e w1 ⟨rfl, m, rfl⟩
        go_wp2_with (first | (go_at_call 70; refine (specIn _ _ _ _ (by first | assumption | (rw [hwm]; assumption)) _).mono ?_; rintro e w' ⟨rfl, rfl⟩) | (go_at_call 71; refine (Calls.mono (Hg.out _) ?_); rintro e w' ⟨rfl, rfl⟩))
        go_region
        all_goals go_wp2
        go_loopw [7] (fun i wr => ∃ (k : Nat), k ≤ x.weights.length ∧ i = .int .i64 k ∧ ∃ vs S, wr.heap[w.heap.size]? = some (.cells #[.int .i64 x.base, .int .i64 x.modulus, .int .i64 x.target, .slice a x.weights.length c] 26 (0, 0)) ∧
            wr.heap[w.heap.size + 1]? = some (.cells #[.int .i64 0, .int .i64 0, .int .i64 0, .slice none 0 0] 26 (0, 0)) ∧ wr.heap[w.heap.size + 1 + 1]? = some (.cells #[.int .i64 x.base, .int .i64 x.modulus, .int .i64 T1, vs] 26 (0, 0)) ∧
            OI wr vs ((sclL x.modulus d x.weights).take k) S ∧ Hid (∀ j ∈ S, w.heap.size + 1 + 1 < j) ∧ Below w.heap.size w wr) (fun i _ => x.weights.length - (intOf i).toNat)
        case atStart =>
          refine ⟨0, Nat.zero_le _, rfl, .slice none 0 0, [], (three w _ _ _ m).1, (three w _ _ _ m).2.1, ?_, own_nil _, Lib.hid (by simp), ?_⟩
          · exact (three w _ _ _ m).2.2.1
          · first | exact (three w _ _ _ m).2.2.2.2 | exact (three w _ _ _ m).2.2.2.2.drew
        case round =>
          obtain ⟨k, hk, rfl, vs, S, hb1, hb2, hb4, hown, hS, hbel⟩ := hrel
          by_cases hlt : k < x.weights.length
          · have htk := Lib.hid (sclL_take (m := x.modulus) (d := d) hlt)
            obtain ⟨g1, g2, g3, g4⟩ := hwf.out k hlt
            obtain ⟨av, nv, cv, rfl⟩ := hown.isSlice
            obtain ⟨b, o, u, rfl, hPb, hc, hu⟩ := Rd.elim Hu.out k hlt
            have hc1 : wr.cell? ⟨b, o + k, none⟩ = some (.int .i64 (nth x.weights k)) := by rw [hbel.cell (p := ⟨b, o + k, none⟩) (by show b < _; omega), hc, hu]
            have d1 := heap_cell hb1 (i := 1) rfl
            have d3 := heap_cell hb1 (i := 3) rfl
            have c3 := heap_cell hb4 (i := 3) rfl
            have Hown := Lib.hid hown
            have Hb1 := Lib.hid hb1
            have Hb2 := Lib.hid hb2
            have Hb4 := Lib.hid hb4
            have Hbel := Lib.hid hbel
            have hln := Lib.hid (show ((sclL x.modulus d x.weights).take k).length ≤ 20 by rw [List.length_take, sclL_len]; omega)
            clear hc hu hown hb1 hb2 hb4 hbel
            generalize hY : nth x.weights k * d % x.modulus = Y at *
            generalize nth x.weights k = A at *
            clear hY
            go_wp2
            have hlt4 := heap_lt Hb4.out
            go_region_law (refine step_push rfl _ _ 24 rfl oI.ok Try.underlying24 infoI64 rfl wr.drew (OI.ok.keep Hown.out fun _ _ => rfl) Y [] ⟨rfl, rfl⟩ (by simp) (by have := hln.out; omega) (by have := hln.out; unfold maxLen; omega) rfl rfl rfl ?_; intro v1 w1 S1 hown1 honly1 hS1; obtain ⟨a1, n1, c1, rfl⟩ := hown1.isSlice; have Hw4 := Lib.hid (fp honly1 Hb4.out fun hm => by have := hS.out _ hm; omega); have c4 := heap_cell Hw4.out (i := 3) rfl; have f4 := frozen_at Hw4.out 3; have Hon := Lib.hid hown1; have Hol := Lib.hid honly1; have HS1 := Lib.hid hS1; clear hown1 honly1 hS1)
            all_goals go_wp2
            all_goals go_roundw
            all_goals first
            | (show x.weights.length - ((k : Int) + 1).toNat < x.weights.length - (k : Int).toNat; omega)
            | skip
            all_goals
              have hS1' : ∀ j ∈ S1, w.heap.size + 1 + 1 < j := fun j hj => by
                rcases HS1.out j hj with h | h | h
                · exact hS.out j h
                · simp at h
                · have h : wr.heap.size ≤ j := h
                  omega
              refine ⟨k + 1, by omega, by go_num, .slice a1 n1 c1, S1, fset (fp Hol.out Hb1.out fun hm => by have := hS.out _ hm; omega) (by omega) _, fset (fp Hol.out Hb2.out fun hm => by have := hS.out _ hm; omega) (by omega) _, heap_setCell_same w1 _ 3 _ _ _ Hw4.out, ?_, Lib.hid hS1', ?_⟩
              · rw [htk.out]
                exact OI.ok.keep Hon.out fun i hi => keep_set (by have := hS1' i hi; show i ≠ w.heap.size + 1 + 1; omega)
              · refine Below.setCell ?_ (by show _ ≤ w.heap.size + 1 + 1; omega) _
                refine below_only (w := wr.drew) Hbel.out.drew Hol.out Hbel.out.size fun j hj => by have := hS.out j hj; omega
          · obtain rfl : k = x.weights.length := by omega
            have e : (sclL x.modulus d x.weights).take x.weights.length = sclL x.modulus d x.weights := by rw [List.take_of_length_le (by rw [sclL_len]; omega)]
            rw [e] at hown
            obtain ⟨av, nv, cv, rfl⟩ := hown.isSlice
            have e3 := heap_cell hb1 (i := 3) rfl
            have c0 := heap_cell hb4 (i := 0) rfl
            have c1 := heap_cell hb4 (i := 1) rfl
            have c2 := heap_cell hb4 (i := 2) rfl
            have c3 := heap_cell hb4 (i := 3) rfl
            have d0 := heap_cell hb2 (i := 0) rfl
            have d1 := heap_cell hb2 (i := 1) rfl
            have d2 := heap_cell hb2 (i := 2) rfl
            have d3 := heap_cell hb2 (i := 3) rfl
            have f0 := frozen_at hb2 0
            have f1 := frozen_at hb2 1
            have f2 := frozen_at hb2 2
            have f3 := frozen_at hb2 3
            have Hown := Lib.hid hown
            have Hbel := Lib.hid hbel
            clear hown hbel hb1 hb2 hb4 e
            go_wp2
            refine bodyPost_ret (v := .tuple #[aggW (sclW x d) (.slice av nv cv), .bool true]) (by simp [results, Try.results28, go_sem, aggW, sclW, d0, d1, d2, d3, HT1.out]) rfl ⟨_, rfl, ?_⟩
            rw [hm.out]
            refine ⟨S, ⟨_, rfl, OI.ok.keep Hown.out fun i hi => ?_⟩, fun i hi => by have := hS.out i hi; omega, ?_⟩
            · exact Only.block (S := [w.heap.size + 1]) (by repeat' (first | with_reducible exact Only.refl _ _ | with_reducible refine Only.put ?_ ?_ _ _ | (simp; done))) i (OI.ok.lt Hown.out i hi) (by have := hS.out i hi; simp; omega)
            · refine Below.trans Hbel.out ?_
              repeat' (first | with_reducible exact Below.refl _ _ | with_reducible refine Below.alloc ?_ ?_ _ | with_reducible refine Below.setCell ?_ ?_ _ | with_reducible refine Below.drew ?_ | with_reducible refine Below.draws ?_ _ | omega | (simp; done) | (simp; omega))
      · have ho : sclOk x d = false := by rw [ho]; simpa using hg
        have hm := Lib.hid (sclV_no ho)
        rw [ho]
        obtain ⟨G, hG⟩ : ∃ g, g = Nat.gcd d.toNat x.modulus.toNat := ⟨_, rfl⟩
        rw [← hG] at Hg hg
        have hg1 : ¬ (G : Int) = 1 := by omega
        clear hv ho hvw hmo hta hG
        go_enter Try.func28, Try.ntmps28
        go_wp2_with fail
        refine (specL03Is (Hbx.out.keep (w' := _) fun k hk => ?hb) hn _ Hv.out).mono ?_
        case hb => exact (Below.heap_alloc _ _ _ (by simp; omega))
        rintro e w1 ⟨rfl, m, rfl⟩
        go_wp2_with (first | (go_at_call 70; refine (specIn _ _ _ _ (by first | assumption | (rw [hwm]; assumption)) _).mono ?_; rintro e w' ⟨rfl, rfl⟩) | (go_at_call 71; refine (Calls.mono (Hg.out _) ?_); rintro e w' ⟨rfl, rfl⟩))
        refine bodyPost_ret (v := .tuple #[aggW Wgt.zero (.slice none 0 0), .bool false]) (by simp [results, Try.results28, go_sem, aggW, Wgt.zero]) rfl ⟨_, rfl, ?_⟩
        rw [hm.out]
        exact ⟨[], ⟨_, rfl, own_nil _⟩, by simp, by repeat' (first | with_reducible exact Below.refl _ _ | with_reducible refine Below.alloc ?_ ?_ _ | with_reducible refine Below.setCell ?_ ?_ _ | with_reducible refine Below.drew ?_ | with_reducible refine Below.draws ?_ _ | omega | (simp; done) | (simp; omega))⟩
end Go.Proofs.Ytphlohplkadenaa
