/- UnseenPairs and WeightCatches, walked. -/
import Derived.Test.YtphlohplkadenaaV8
import Derived.Test.YtphlohplkadenaaV5
namespace Go.Proofs.Ytphlohplkadenaa
open Go.RowKit
set_option linter.unusedVariables false

def uOk (x : Wgt) (kind place : Int) : Bool := vW x && inB place 0 (plcN x kind - 1)
def uV (x : Wgt) (kind place : Int) : Int := if uOk x kind place then (unsN x kind place.toNat : Nat) else 0
theorem uV_no {x : Wgt} {kind place : Int} (h : uOk x kind place = false) : uV x kind place = 0 := by simp [uV, h]
theorem uV_yes {x : Wgt} {kind place : Int} (h : uOk x kind place = true) : uV x kind place = (unsN x kind place.toNat : Nat) := by simp [uV, h]
theorem clip_bd (z : Int) : 0 ≤ clip z ∧ (z ≤ clip z ∧ (clip z = z ∨ clip z = 0)) := by unfold clip; split <;> omega
theorem plcN_bd (x : Wgt) (kind : Int) (hn : x.weights.length ≤ 20) : -1 ≤ plcN x kind ∧ plcN x kind ≤ 20 := by
  have := errLen_bd kind
  have := clip_bd ((x.weights.length : Int) - errLen kind + 1)
  unfold plcN; split <;> omega
theorem uOk_in (x : Wgt) (kind place : Int) : inB place 0 (plcN x kind - 1) = (kindOk kind x.base && inB place 0 ((x.weights.length : Int) - errLen kind)) := by
  rw [Bool.eq_iff_iff]
  simp only [Bool.and_eq_true, inB_true]
  cases hk : kindOk kind x.base
  · rw [plcN_no hk]; simp; omega
  · rw [plcN_yes hk]
    have := clip_bd ((x.weights.length : Int) - errLen kind + 1)
    simp
    omega
theorem ret_ib' {x y : Int} {a b : Bool} (h1 : x = y) (h2 : a = b) : Ending.returned (.tuple #[.int .i64 x, .bool a]) = .returned (.tuple #[.int .i64 y, .bool b]) := by rw [h1, h2]

set_option maxRecDepth 10000 in
theorem specUnseenPairs {B : Nat} {v : Value} {x : Wgt} {w : World} (h : RdW (· < B) w v x) (hB : B ≤ w.heap.size) (hn : szW x ≤ 1048576) (kind place : Int) :
    Calls Try.prog 36 #[v, .int .i64 kind, .int .i64 place] w fun e w' => e = .returned (.tuple #[.int .i64 (uV x kind place), .bool (uOk x kind place)]) ∧ Below w.heap.size w w' := by
  obtain ⟨u, rfl, hu⟩ := h
  obtain ⟨a, c, rfl, h1, h2⟩ := hu.isSlice
  have hbx := Lib.hid ((Below.refl w.heap.size w).alloc (Nat.le_refl _) (.cells #[.int .i64 x.base, .int .i64 x.modulus, .int .i64 x.target, .slice a x.weights.length c] 26))
  have Hbx := Lib.hid (BoxW.boxed hu hB); clear hu
  unfold aggW
  cases hv : vW x
  · have hr := Lib.hid (show uOk x kind place = false by simp [uOk, hv])
    have hr2 := Lib.hid (uV_no hr.out)
    have Hv := Lib.hid hv; clear hv
    go_enter Try.func36, Try.ntmps36
    go_wp2_with fail
    refine (specL03Is Hbx.out hn _ Hv.out).mono ?_
    rintro e w1 ⟨rfl, m, rfl⟩
    go_wp2
    go_ret2
    exact ⟨ret_ib' hr2.out.symm hr.out.symm, Below.draws hbx.out _⟩
  · have hvw := vW_iff.1 hv
    have hln := hvw.len
    have hpb := plcN_bd x kind hln.2
    have hwr : wrap64 (plcN x kind - 1) = plcN x kind - 1 := IntWalk.wrap64_in _ (by omega)
    have Hin := Lib.hid (uOk_in x kind place)
    have Hv := Lib.hid hv
    have Hvw := Lib.hid hvw
    have Hpl := Lib.hid (fun m => specPlaces (Hbx.out.draws m) hn kind _ rfl)
    cases hin : inB place 0 (plcN x kind - 1)
    · have hr := Lib.hid (show uOk x kind place = false by simp [uOk, hin])
      have hr2 := Lib.hid (uV_no hr.out)
      clear hv hvw
      generalize plcN x kind = Z at *
      go_enter Try.func36, Try.ntmps36
      go_wp2_with fail
      refine (specL03Is Hbx.out hn _ Hv.out).mono ?_
      rintro e w1 ⟨rfl, m, rfl⟩
      go_wp2_with fail
      refine (Hpl.out _).mono ?_
      rintro e w1 ⟨rfl, m2, rfl⟩
      go_wp2_with (go_at_call 70; refine (specIn _ _ _ _ (by first | assumption | (rw [hwr]; assumption)) _).mono ?_; rintro e w' ⟨rfl, rfl⟩)
      go_ret2
      exact ⟨ret_ib' hr2.out.symm hr.out.symm, Below.draws hbx.out _⟩
    · have hr := Lib.hid (show uOk x kind place = true by simp [uOk, hin, hv])
      have hr2 := Lib.hid (uV_yes hr.out)
      rw [Hin.out, Bool.and_eq_true] at hin
      have hpd := inB_true.1 hin.2
      obtain ⟨p, rfl⟩ : ∃ p : Nat, place = p := ⟨place.toNat, by omega⟩
      have Hun := Lib.hid (fun m => specUnseen (Hbx.out.draws m) Hvw.out kind p hin.1 (by omega))
      have hin2 : inB (p : Int) 0 (plcN x kind - 1) = true := by rw [Hin.out, hin.1, hin.2]; rfl
      clear hv hvw hin hpd
      generalize plcN x kind = Z at *
      go_enter Try.func36, Try.ntmps36
      go_wp2_with fail
      refine (specL03Is Hbx.out hn _ Hv.out).mono ?_
      rintro e w1 ⟨rfl, m, rfl⟩
      go_wp2_with fail
      refine (Hpl.out _).mono ?_
      rintro e w1 ⟨rfl, m2, rfl⟩
      go_wp2_with (first | (go_at_call 70; refine (specIn _ _ _ _ (by first | assumption | (rw [hwr]; assumption)) _).mono ?_; rintro e w' ⟨rfl, rfl⟩) | (go_at_call 82; refine (Calls.mono (Hun.out _) ?_); rintro e w' ⟨rfl, rfl⟩))
      go_ret2
      exact ⟨ret_ib' hr2.out.symm hr.out.symm, Below.draws hbx.out _⟩

set_option maxRecDepth 10000 in
theorem implUnseenPairs {B : Nat} {v : Value} {x : Wgt} {w : World} (h : RdW (· < B) w v x) (hB : B ≤ w.heap.size) (hn : szW x ≤ 1048576) (kind place : Int) :
    Calls Try.prog 37 #[v, .int .i64 kind, .int .i64 place] w fun e w' => e = .returned (.tuple #[.int .i64 (uV x kind place), .bool (uOk x kind place)]) ∧ Below w.heap.size w w' := by
  have Hr := Lib.hid h
  obtain ⟨u, rfl, hu⟩ := h
  obtain ⟨a, c, rfl, h1, h2⟩ := hu.isSlice
  have hbx := Lib.hid ((Below.refl w.heap.size w).alloc (Nat.le_refl _) (.cells #[.int .i64 x.base, .int .i64 x.modulus, .int .i64 x.target, .slice a x.weights.length c] 26))
  have Hbx := Lib.hid (BoxW.boxed hu hB); clear hu
  have hsz := Lib.hid (al_size w (.cells #[.int .i64 x.base, .int .i64 x.modulus, .int .i64 x.target, .slice a x.weights.length c] 26))
  have hb1 := Lib.hid (heap_alloc_new w (.cells #[.int .i64 x.base, .int .i64 x.modulus, .int .i64 x.target, .slice a x.weights.length c] 26))
  unfold maxLen at h2
  unfold aggW
  cases hv : vW x
  · have hr := Lib.hid (show uOk x kind place = false by simp [uOk, hv])
    have hr2 := Lib.hid (uV_no hr.out)
    have Hv := Lib.hid hv; clear hv
    go_enter Try.func37, Try.ntmps37
    go_wp2_with fail
    refine (implValidWeighting (Rd.below RdW.ok Hr.out (hbx.out.mono hB)) (by rw [hsz.out]; omega) hn _ Hv.out).mono ?_
    rintro e w1 ⟨rfl, hb⟩
    have Hb := Lib.hid (hbx.out.trans (hb.mono (by rw [hsz.out]; omega))); clear hb
    go_wp2
    go_ret2
    exact ⟨ret_ib' hr2.out.symm hr.out.symm, Hb.out⟩
  · have hvw := vW_iff.1 hv
    have hln := hvw.len
    have hel := errLen_bd kind
    have Hin := Lib.hid (uOk_in x kind place)
    have Hv := Lib.hid hv
    have Hvw := Lib.hid hvw
    have hnn : x.weights.length ≤ 1048576 := by omega
    cases hko : kindOk kind x.base
    · have hr := Lib.hid (show uOk x kind place = false by rw [uOk, Hin.out, hko]; simp)
      have hr2 := Lib.hid (uV_no hr.out)
      have Hko := Lib.hid hko
      clear hv hvw hko
      go_enter Try.func37, Try.ntmps37
      go_wp2_with fail
      refine (implValidWeighting (Rd.below RdW.ok Hr.out (hbx.out.mono hB)) (by rw [hsz.out]; omega) hn _ Hv.out).mono ?_
      rintro e w1 ⟨rfl, hb⟩
      have hc0 := heap_cell (below_heap hb hb1.out) (i := 0) rfl
      have Hb := Lib.hid (hbx.out.trans (hb.mono (by rw [hsz.out]; omega))); clear hb
      go_wp2_with (go_at_call 83; refine (implKindOk _ _ _ Hko.out _).mono ?_; rintro e w' ⟨rfl, rfl⟩)
      go_ret2
      exact ⟨ret_ib' hr2.out.symm hr.out.symm, Hb.out⟩
    · cases hin : inB place 0 ((x.weights.length : Int) - errLen kind)
      · have hr := Lib.hid (show uOk x kind place = false by rw [uOk, Hin.out, hko, hin]; simp)
        have hr2 := Lib.hid (uV_no hr.out)
        have Hko := Lib.hid hko
        clear hv hvw hko
        go_enter Try.func37, Try.ntmps37
        go_wp2_with fail
        refine (implValidWeighting (Rd.below RdW.ok Hr.out (hbx.out.mono hB)) (by rw [hsz.out]; omega) hn _ Hv.out).mono ?_
        rintro e w1 ⟨rfl, hb⟩
        have hc0 := heap_cell (below_heap hb hb1.out) (i := 0) rfl
        have hc3 := heap_cell (below_heap hb hb1.out) (i := 3) rfl
        have Hb := Lib.hid (hbx.out.trans (hb.mono (by rw [hsz.out]; omega))); clear hb
        go_wp2_with (first | (go_at_call 83; refine (implKindOk _ _ _ Hko.out _).mono ?_; rintro e w' ⟨rfl, rfl⟩) | (go_at_call 84; refine (implLastPlace _ hnn _ _).mono ?_; rintro e w' ⟨rfl, rfl⟩) | (go_at_call 57; refine (implIn _ _ _ _ (by assumption) _).mono ?_; rintro e w' ⟨rfl, rfl⟩))
        go_ret2
        exact ⟨ret_ib' hr2.out.symm hr.out.symm, Hb.out⟩
      · have hr := Lib.hid (show uOk x kind place = true by rw [uOk, Hin.out, hko, hin, hv]; rfl)
        have hr2 := Lib.hid (uV_yes hr.out)
        have hpd := inB_true.1 hin
        obtain ⟨p, rfl⟩ : ∃ p : Nat, place = p := ⟨place.toNat, by omega⟩
        have hpe : p + errLen kind ≤ x.weights.length := by omega
        have Hpe := Lib.hid hpe
        have Hko := Lib.hid hko
        clear hv hvw hko hpd hpe
        go_enter Try.func37, Try.ntmps37
        go_wp2_with fail
        refine (implValidWeighting (Rd.below RdW.ok Hr.out (hbx.out.mono hB)) (by rw [hsz.out]; omega) hn _ Hv.out).mono ?_
        rintro e w1 ⟨rfl, hb⟩
        have hc0 := heap_cell (below_heap hb hb1.out) (i := 0) rfl
        have hc3 := heap_cell (below_heap hb hb1.out) (i := 3) rfl
        have hB1 := Lib.hid (Hbx.out.keep fun k hk => hb.block k (by rw [hsz.out]; omega))
        have Hb := Lib.hid (hbx.out.trans (hb.mono (by rw [hsz.out]; omega))); clear hb
        have Hun := Lib.hid (implUnseen hB1.out Hvw.out kind p Hko.out Hpe.out)
        go_wp2_with (first | (go_at_call 83; refine (implKindOk _ _ _ Hko.out _).mono ?_; rintro e w' ⟨rfl, rfl⟩) | (go_at_call 84; refine (implLastPlace _ hnn _ _).mono ?_; rintro e w' ⟨rfl, rfl⟩) | (go_at_call 57; refine (implIn _ _ _ _ (by assumption) _).mono ?_; rintro e w' ⟨rfl, rfl⟩) | (go_at_call 85; refine (Calls.mono Hun.out ?_); rintro e w' ⟨rfl, m, rfl⟩))
        go_ret2
        exact ⟨ret_ib' hr2.out.symm hr.out.symm, Below.draws Hb.out _⟩
end Go.Proofs.Ytphlohplkadenaa
