/- UndetectedAt, UndetectedIn, IsCaught, walked on both sides. -/
import Derived.Test.YtcjmkiedcmlpcaaE11
import Derived.Test.YtcjmkiedcmlpcaaE14
import Derived.Test.YtcjmkiedcmlpcaaD6
import Derived.Test.YtcjmkiedcmlpcaaV6
namespace Go.Proofs.Ytcjmkiedcmlpcaa
open Go.RowKit
set_option linter.unusedVariables false

def uaOk (x : Chn) (kind place : Int) : Bool := vC x && (kindOk kind x.base && inB place 0 ((x.places.length : Int) - errLen kind))
def uaZ (x : Chn) (kind place : Int) : Int := if uaOk x kind place then (badAt x kind place.toNat : Nat) else 0
def uaA (x : Chn) (kind place : Int) : Int := if uaOk x kind place then (allAt x kind place.toNat : Nat) else 0
theorem ua_no {x : Chn} {kind place : Int} (h : uaOk x kind place = false) : uaZ x kind place = 0 ∧ uaA x kind place = 0 := by simp [uaZ, uaA, h]
theorem ua_yes {x : Chn} {kind : Int} {p : Nat} (h : uaOk x kind p = true) : uaZ x kind p = (badAt x kind p : Nat) ∧ uaA x kind p = (allAt x kind p : Nat) := by simp [uaZ, uaA, h]
theorem ret_iib {a b c d : Int} {p q : Bool} (h1 : a = c) (h2 : b = d) (h3 : p = q) : Ending.returned (.tuple #[.int .i64 a, .int .i64 b, .bool p]) = .returned (.tuple #[.int .i64 c, .int .i64 d, .bool q]) := by rw [h1, h2, h3]

def nPl (x : Chn) (kind : Int) : Nat := x.places.length + 1 - errLen kind
def uiOk (x : Chn) (kind : Int) : Bool := vC x && kindOk kind x.base
def badIn (x : Chn) (kind : Int) : Nat := sumN (nPl x kind) (badAt x kind)
def allIn' (x : Chn) (kind : Int) : Nat := sumN (nPl x kind) (allAt x kind)
def uiZ (x : Chn) (kind : Int) : Int := if uiOk x kind then (badIn x kind : Nat) else 0
def uiA (x : Chn) (kind : Int) : Int := if uiOk x kind then (allIn' x kind : Nat) else 0
theorem ui_no {x : Chn} {kind : Int} (h : uiOk x kind = false) : uiZ x kind = 0 ∧ uiA x kind = 0 := by simp [uiZ, uiA, h]
theorem ui_yes {x : Chn} {kind : Int} (h : uiOk x kind = true) : uiZ x kind = (badIn x kind : Nat) ∧ uiA x kind = (allIn' x kind : Nat) := by simp [uiZ, uiA, h]
def caught (x : Chn) (kind : Int) : Bool := uiOk x kind && decide (badIn x kind = 0)
theorem sum_le_at {x : Chn} (h : VC x) {kind : Int} {p : Nat} (hp : p ≤ nPl x kind) : sumN p (allAt x kind) ≤ 800000000000000000 ∧ sumN p (badAt x kind) ≤ 800000000000000000 := by
  have hn := h.nat.2.2.2.2
  have hel := errLen_bd kind
  have hb : ∀ i, i < p → allAt x kind i ≤ 36000000000000000 := fun i hi => h.allAtLe (by unfold nPl at hp; simp only [Chn.n] at *; omega)
  have h1 := sumN_le hb
  have h2 := sumN_le (n := p) (f := badAt x kind) fun i hi => Nat.le_trans (badAt_le_allAt x kind i) (hb i hi)
  have h3 : p ≤ 20 := by unfold nPl at hp; simp only [Chn.n] at *; omega
  have h4 := Nat.mul_le_mul_right 36000000000000000 h3
  omega

set_option maxRecDepth 10000 in
theorem specUndetectedAt {B : Nat} {v : Value} {x : Chn} {w : World} (h : RdC (· < B) w v x) (hB : B ≤ w.heap.size) (kind place : Int) :
    Calls Try.prog 39 #[v, .int .i64 kind, .int .i64 place] w fun e w' => e = .returned (.tuple #[.int .i64 (uaZ x kind place), .int .i64 (uaA x kind place), .bool (uaOk x kind place)]) ∧ Below w.heap.size w w' := by
  obtain ⟨u, p, rfl, hu, hp⟩ := h
  obtain ⟨a, c, rfl, h1, h2⟩ := hu.isSlice
  obtain ⟨a', c', rfl, h3, h4⟩ := hp.isSlice
  have hbx := Lib.hid ((Below.refl w.heap.size w).alloc (Nat.le_refl _) (.cells #[.int .i64 x.base, .int .i64 x.states, .int .i64 x.start, .int .i64 x.stop, .slice a x.tables.length c, .slice a' x.places.length c'] 28))
  have Hbx := Lib.hid (BoxC.boxed hu hp hB); clear hu hp
  have hsz := Lib.hid (alloc_size w (.cells #[.int .i64 x.base, .int .i64 x.states, .int .i64 x.start, .int .i64 x.stop, .slice a x.tables.length c, .slice a' x.places.length c'] 28))
  unfold aggC
  unfold maxLen at h4
  cases hv : vC x
  · have hr := Lib.hid (show uaOk x kind place = false by simp [uaOk, hv])
    have hr2 := Lib.hid (ua_no hr.out)
    have Hv := Lib.hid hv; clear hv
    go_enter Try.func39, Try.ntmps39
    go_wp2_with fail
    refine (specL02Is Hbx.out _ Hv.out).mono ?_
    rintro e w1 ⟨rfl, m, rfl⟩
    go_wp2
    exact bodyPost_ret (v := .tuple #[.int .i64 0, .int .i64 0, .bool false]) (by simp [results, Try.results39, go_sem]) rfl ⟨ret_iib hr2.out.1.symm hr2.out.2.symm hr.out.symm, Below.draws hbx.out _⟩
  · have hvc := vC_iff.1 hv
    have hel := errLen_bd kind
    have hnn := hvc.places
    have Hv := Lib.hid hv
    have Hvc := Lib.hid hvc
    have hCS := Lib.hid (fun W => specSize x.base kind W)
    cases hko : kindOk kind x.base
    · have hr := Lib.hid (show uaOk x kind place = false by simp [uaOk, hko])
      have hr2 := Lib.hid (ua_no hr.out)
      have hs0 := sizeK_no hko
      rw [hs0] at hCS
      clear hv hvc hko hs0
      go_enter Try.func39, Try.ntmps39
      go_wp2_with fail
      refine (specL02Is Hbx.out _ Hv.out).mono ?_
      rintro e w1 ⟨rfl, m, rfl⟩
      go_wp2_with fail
      refine (Calls.mono (hCS.out _) ?_)
      rintro e w' ⟨rfl, rfl⟩
      go_wp2
      exact bodyPost_ret (v := .tuple #[.int .i64 0, .int .i64 0, .bool false]) (by simp [results, Try.results39, go_sem]) rfl ⟨ret_iib hr2.out.1.symm hr2.out.2.symm hr.out.symm, Below.draws hbx.out _⟩
    · have hs0 := sizeK_yes hko
      rw [hs0] at hCS
      cases hin : inB place 0 ((x.places.length : Int) - errLen kind)
      · have hr := Lib.hid (show uaOk x kind place = false by simp [uaOk, hin])
        have hr2 := Lib.hid (ua_no hr.out)
        generalize errLen kind = n at *
        have hb0 : ((n : Int) == 0) = false := by simp only [beq_eq_false_iff_ne]; omega
        have hwr : IntKind.i64.wrap ((x.places.length : Int) - (n : Int)) = (x.places.length : Int) - (n : Int) := IntWalk.i64_in _ (by omega)
        clear hv hvc hko hs0
        go_enter Try.func39, Try.ntmps39
        go_wp2_with fail
        refine (specL02Is Hbx.out _ Hv.out).mono ?_
        rintro e w1 ⟨rfl, m, rfl⟩
        go_wp2_with fail
        refine (Calls.mono (hCS.out _) ?_)
        rintro e w' ⟨rfl, rfl⟩
        go_wp2_with (go_at_call 69; refine (specIn _ _ _ _ (by first | assumption | (rw [hwr]; assumption)) _).mono ?_; rintro e w' ⟨rfl, rfl⟩)
        exact bodyPost_ret (v := .tuple #[.int .i64 0, .int .i64 0, .bool false]) (by simp [results, Try.results39, go_sem]) rfl ⟨ret_iib hr2.out.1.symm hr2.out.2.symm hr.out.symm, Below.draws hbx.out _⟩
      · have hpd := inB_true.1 hin
        obtain ⟨p, rfl⟩ : ∃ p : Nat, place = p := ⟨place.toNat, by omega⟩
        have hr := Lib.hid (show uaOk x kind p = true by simp [uaOk, hin, hv, hko])
        have hr2 := Lib.hid (ua_yes hr.out)
        have hCA := Lib.hid (fun m => specAt (Hbx.out.draws m) (show B ≤ (w.alloc _).heap.size by rw [alloc_size]; omega) (show w.heap.size < (w.alloc _).heap.size by rw [alloc_size]; omega) Hvc.out hko (place := p) (by simp only [Chn.n]; omega))
        generalize errLen kind = n at *
        have hb0 : ((n : Int) == 0) = false := by simp only [beq_eq_false_iff_ne]; omega
        have hwr : IntKind.i64.wrap ((x.places.length : Int) - (n : Int)) = (x.places.length : Int) - (n : Int) := IntWalk.i64_in _ (by omega)
        clear hv hvc hko hs0 hpd
        go_enter Try.func39, Try.ntmps39
        go_wp2_with fail
        refine (specL02Is Hbx.out _ Hv.out).mono ?_
        rintro e w1 ⟨rfl, m, rfl⟩
        go_wp2_with fail
        refine (Calls.mono (hCS.out _) ?_)
        rintro e w' ⟨rfl, rfl⟩
        go_wp2_with (go_at_call 69; refine (specIn _ _ _ _ (by first | assumption | (rw [hwr]; assumption)) _).mono ?_; rintro e w' ⟨rfl, rfl⟩)
        refine (Calls.mono (hCA.out _) ?_)
        rintro e w2 ⟨rfl, hb2⟩
        have Hb2 := Lib.hid (show Below w.heap.size w w2 from (Below.draws hbx.out _).trans (hb2.mono (by show w.heap.size ≤ (w.alloc _).heap.size; rw [alloc_size]; omega))); clear hb2
        go_wp2
        exact bodyPost_ret (v := .tuple #[.int .i64 (badAt x kind p : Nat), .int .i64 (allAt x kind p : Nat), .bool true]) (by simp [results, Try.results39, go_sem]) rfl ⟨ret_iib hr2.out.1.symm hr2.out.2.symm hr.out.symm, Hb2.out⟩
theorem boxChn (w : World) (x : Chn) (u p : Value) : ((w.alloc (.cells #[.int .i64 x.base, .int .i64 x.states, .int .i64 x.start, .int .i64 x.stop, u, p] 28)).heap.size = w.heap.size + 1) := alloc_size w _

set_option maxRecDepth 10000 in
theorem implUndetectedAt {B : Nat} {v : Value} {x : Chn} {w : World} (h : RdC (· < B) w v x) (hB : B ≤ w.heap.size) (hn : szC x ≤ 1048576) (kind place : Int) :
    Calls Try.prog 26 #[v, .int .i64 kind, .int .i64 place] w fun e w' => e = .returned (.tuple #[.int .i64 (uaZ x kind place), .int .i64 (uaA x kind place), .bool (uaOk x kind place)]) ∧ Below w.heap.size w w' := by
  have Hr := Lib.hid h
  obtain ⟨u, p, rfl, hu, hp⟩ := h
  obtain ⟨a, c, rfl, h1, h2⟩ := hu.isSlice
  obtain ⟨a', c', rfl, h3, h4⟩ := hp.isSlice
  have hbx := Lib.hid ((Below.refl w.heap.size w).alloc (Nat.le_refl _) (.cells #[.int .i64 x.base, .int .i64 x.states, .int .i64 x.start, .int .i64 x.stop, .slice a x.tables.length c, .slice a' x.places.length c'] 28))
  have Hbx := Lib.hid (BoxC.boxed hu hp hB); clear hu hp
  have hsz := Lib.hid (alloc_size w (.cells #[.int .i64 x.base, .int .i64 x.states, .int .i64 x.start, .int .i64 x.stop, .slice a x.tables.length c, .slice a' x.places.length c'] 28))
  have hb1 := Lib.hid (heap_alloc_new w (.cells #[.int .i64 x.base, .int .i64 x.states, .int .i64 x.start, .int .i64 x.stop, .slice a x.tables.length c, .slice a' x.places.length c'] 28))
  unfold aggC
  unfold maxLen at h4
  cases hv : vC x
  · have hr := Lib.hid (show uaOk x kind place = false by simp [uaOk, hv])
    have hr2 := Lib.hid (ua_no hr.out)
    have Hv := Lib.hid hv; clear hv
    go_enter Try.func26, Try.ntmps26
    go_wp2_with fail
    refine (implValidChain (Rd.below RdC.ok Hr.out (hbx.out.mono hB)) (by rw [hsz.out]; omega) hn _ Hv.out).mono ?_
    rintro e w1 ⟨rfl, hb⟩
    have Hb := Lib.hid (hbx.out.trans (hb.mono (by rw [hsz.out]; omega))); clear hb
    go_wp2
    exact bodyPost_ret (v := .tuple #[.int .i64 0, .int .i64 0, .bool false]) (by simp [results, Try.results26, go_sem]) rfl ⟨ret_iib hr2.out.1.symm hr2.out.2.symm hr.out.symm, Hb.out⟩
  · have hvc := vC_iff.1 hv
    have hel := errLen_bd kind
    have hnn := hvc.places
    have hnn2 : x.places.length ≤ 1048576 := by omega
    have Hv := Lib.hid hv
    have Hvc := Lib.hid hvc
    cases hko : kindOk kind x.base
    · have hr := Lib.hid (show uaOk x kind place = false by simp [uaOk, hko])
      have hr2 := Lib.hid (ua_no hr.out)
      have Hko := Lib.hid hko
      clear hv hvc hko
      go_enter Try.func26, Try.ntmps26
      go_wp2_with fail
      refine (implValidChain (Rd.below RdC.ok Hr.out (hbx.out.mono hB)) (by rw [hsz.out]; omega) hn _ Hv.out).mono ?_
      rintro e w1 ⟨rfl, hb⟩
      have hc0 := heap_cell (hf_heap hb hb1.out) (i := 0) rfl
      have Hb := Lib.hid (hbx.out.trans (hb.mono (by rw [hsz.out]; omega))); clear hb
      go_wp2_with (go_at_call 66; refine (implKindOk _ _ _ Hko.out _).mono ?_; rintro e w' ⟨rfl, rfl⟩)
      exact bodyPost_ret (v := .tuple #[.int .i64 0, .int .i64 0, .bool false]) (by simp [results, Try.results26, go_sem]) rfl ⟨ret_iib hr2.out.1.symm hr2.out.2.symm hr.out.symm, Hb.out⟩
    · cases hin : inB place 0 ((x.places.length : Int) - errLen kind)
      · have hr := Lib.hid (show uaOk x kind place = false by simp [uaOk, hin])
        have hr2 := Lib.hid (ua_no hr.out)
        have Hko := Lib.hid hko
        clear hv hvc hko
        go_enter Try.func26, Try.ntmps26
        go_wp2_with fail
        refine (implValidChain (Rd.below RdC.ok Hr.out (hbx.out.mono hB)) (by rw [hsz.out]; omega) hn _ Hv.out).mono ?_
        rintro e w1 ⟨rfl, hb⟩
        have hc0 := heap_cell (hf_heap hb hb1.out) (i := 0) rfl
        have hc5 := heap_cell (hf_heap hb hb1.out) (i := 5) rfl
        have Hb := Lib.hid (hbx.out.trans (hb.mono (by rw [hsz.out]; omega))); clear hb
        go_wp2_with (first | (go_at_call 66; refine (implKindOk _ _ _ Hko.out _).mono ?_; rintro e w' ⟨rfl, rfl⟩) | (go_at_call 67; refine (implLastPlace _ hnn2 _ _).mono ?_; rintro e w' ⟨rfl, rfl⟩) | (go_at_call 53; refine (implIn _ _ _ _ (by assumption) _).mono ?_; rintro e w' ⟨rfl, rfl⟩))
        exact bodyPost_ret (v := .tuple #[.int .i64 0, .int .i64 0, .bool false]) (by simp [results, Try.results26, go_sem]) rfl ⟨ret_iib hr2.out.1.symm hr2.out.2.symm hr.out.symm, Hb.out⟩
      · have hpd := inB_true.1 hin
        obtain ⟨p, rfl⟩ : ∃ p : Nat, place = p := ⟨place.toNat, by omega⟩
        have hr := Lib.hid (show uaOk x kind p = true by simp [uaOk, hin, hv, hko])
        have hr2 := Lib.hid (ua_yes hr.out)
        have Hko := Lib.hid hko
        have hpe := Lib.hid (show p + errLen kind ≤ x.n by simp only [Chn.n]; omega)
        clear hv hvc hko hpd
        go_enter Try.func26, Try.ntmps26
        go_wp2_with fail
        refine (implValidChain (Rd.below RdC.ok Hr.out (hbx.out.mono hB)) (by rw [hsz.out]; omega) hn _ Hv.out).mono ?_
        rintro e w1 ⟨rfl, hb⟩
        have hc0 := heap_cell (hf_heap hb hb1.out) (i := 0) rfl
        have hc5 := heap_cell (hf_heap hb hb1.out) (i := 5) rfl
        have hs1 : w.heap.size + 1 ≤ w1.heap.size := by have := hb.size; rw [hsz.out] at this; exact this
        have hB1 := Lib.hid (Hbx.out.keep fun k hk => hb.block k (by rw [hsz.out]; omega))
        have Hb := Lib.hid (hbx.out.trans (hb.mono (by rw [hsz.out]; omega))); clear hb
        have hCA := Lib.hid (implUndAt hB1.out (by omega) (by omega) Hvc.out Hko.out hpe.out)
        clear hs1
        go_wp2_with (first | (go_at_call 66; refine (implKindOk _ _ _ Hko.out _).mono ?_; rintro e w' ⟨rfl, rfl⟩) | (go_at_call 67; refine (implLastPlace _ hnn2 _ _).mono ?_; rintro e w' ⟨rfl, rfl⟩) | (go_at_call 53; refine (implIn _ _ _ _ (by assumption) _).mono ?_; rintro e w' ⟨rfl, rfl⟩))
        refine (Calls.mono hCA.out ?_)
        rintro e w2 ⟨rfl, hb2⟩
        have Hb2 := Lib.hid (Hb.out.trans (hb2.mono Hb.out.size)); clear hb2
        go_wp2
        exact bodyPost_ret (v := .tuple #[.int .i64 (badAt x kind p : Nat), .int .i64 (allAt x kind p : Nat), .bool true]) (by simp [results, Try.results26, go_sem]) rfl ⟨ret_iib hr2.out.1.symm hr2.out.2.symm hr.out.symm, Hb2.out⟩
end Go.Proofs.Ytcjmkiedcmlpcaa
