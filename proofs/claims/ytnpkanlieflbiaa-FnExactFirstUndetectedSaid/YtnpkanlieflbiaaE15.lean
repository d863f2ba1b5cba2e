/- UndetectedAt, UndetectedIn, IsCaught, walked on both sides. -/
import Derived.Test.YtnpkanlieflbiaaE10
import Derived.Test.YtnpkanlieflbiaaE12
import Derived.Test.YtnpkanlieflbiaaD4
import Derived.Test.YtnpkanlieflbiaaV6
namespace Go.Proofs.Ytnpkanlieflbiaa
open Go.RowKit
set_option linter.unusedVariables false

def uaOk (x : Chn) (kind place : Int) : Bool := vC x && (kindOk kind x.base && inB place 0 ((x.places.length : Int) - errLen kind))
def uaZ (x : Chn) (kind place : Int) : Int := if uaOk x kind place then (badAt x kind place.toNat : Nat) else 0
def uaA (x : Chn) (kind place : Int) : Int := if uaOk x kind place then (allAt x kind place.toNat : Nat) else 0
theorem ua_no {x : Chn} {kind place : Int} (h : uaOk x kind place = false) : uaZ x kind place = 0 ∧ uaA x kind place = 0 := by simp [uaZ, uaA, h]
theorem ua_yes {x : Chn} {kind : Int} {p : Nat} (h : uaOk x kind p = true) : uaZ x kind p = (badAt x kind p : Nat) ∧ uaA x kind p = (allAt x kind p : Nat) := by simp [uaZ, uaA, h]
theorem ret_iib {a b c d : Int} {p q : Bool} (h1 : a = c) (h2 : b = d) (h3 : p = q) : Ending.returned (.tuple #[.int .i64 a, .int .i64 b, .bool p]) = .returned (.tuple #[.int .i64 c, .int .i64 d, .bool q]) := by rw [h1, h2, h3]

def nPl (x : Chn) (kind : Int) : Nat := x.places.length + 1 - errLen kind
def uiOk (x : Chn) (kind : Int) : Bool := vC x && kindOk kind x.base
def badIn (x : Chn) (kind : Int) : Nat := sumN (nPl x kind) (badAt x kind)
def allIn' (x : Chn) (kind : Int) : Nat := sumN (nPl x kind) (allAt x kind)
def uiZ (x : Chn) (kind : Int) : Int := if uiOk x kind then (badIn x kind : Nat) else 0
def uiA (x : Chn) (kind : Int) : Int := if uiOk x kind then (allIn' x kind : Nat) else 0
theorem ui_no {x : Chn} {kind : Int} (h : uiOk x kind = false) : uiZ x kind = 0 ∧ uiA x kind = 0 := by simp [uiZ, uiA, h]
theorem ui_yes {x : Chn} {kind : Int} (h : uiOk x kind = true) : uiZ x kind = (badIn x kind : Nat) ∧ uiA x kind = (allIn' x kind : Nat) := by simp [uiZ, uiA, h]
def caught (x : Chn) (kind : Int) : Bool := uiOk x kind && decide (badIn x kind = 0)
theorem sum_le_at {x : Chn} (h : VC x) {kind : Int} {p : Nat} (hp : p ≤ nPl x kind) : sumN p (allAt x kind) ≤ 800000000000000000 ∧ sumN p (badAt x kind) ≤ 800000000000000000 := by
  have hn := h.nat.2.2.2.2
  have hel := errLen_bd kind
  have hb : ∀ i, i < p → allAt x kind i ≤ 36000000000000000 := fun i hi => h.allAtLe (by unfold nPl at hp; simp only [Chn.n] at *; omega)
  have h1 := sumN_le hb
  have h2 := sumN_le (n := p) (f := badAt x kind) fun i hi => Nat.le_trans (badAt_le_allAt x kind i) (hb i hi)
  have h3 : p ≤ 20 := by unfold nPl at hp; simp only [Chn.n] at *; omega
  have h4 := Nat.mul_le_mul_right 36000000000000000 h3
  omega

theorem boxChn (w : World) (x : Chn) (u p : Value) : ((w.alloc (.cells #[.int .i64 x.base, .int .i64 x.states, .int .i64 x.start, .int .i64 x.stop, u, p] 28)).heap.size = w.heap.size + 1) := alloc_size w _

set_option maxRecDepth 10000 in
theorem implUndetectedAt {B : Nat} {v : Value} {x : Chn} {w : World} (h : RdC (· < B) w v x) (hB : B ≤ w.heap.size) (hn : szC x ≤ 1048576) (kind place : Int) :
    Calls Try.prog 40 #[v, .int .i64 kind, .int .i64 place] w fun e w' => e = .returned (.tuple #[.int .i64 (uaZ x kind place), .int .i64 (uaA x kind place), .bool (uaOk x kind place)]) ∧ Below w.heap.size w w' := by
  have Hr := Lib.hid h
  obtain ⟨u, p, rfl, hu, hp⟩ := h
  obtain ⟨a, c, rfl, h1, h2⟩ := hu.isSlice
  obtain ⟨a', c', rfl, h3, h4⟩ := hp.isSlice
  have hbx := Lib.hid ((Below.refl w.heap.size w).alloc (Nat.le_refl _) (.cells #[.int .i64 x.base, .int .i64 x.states, .int .i64 x.start, .int .i64 x.stop, .slice a x.tables.length c, .slice a' x.places.length c'] 28))
  have Hbx := Lib.hid (BoxC.boxed hu hp hB); clear hu hp
  have hsz := Lib.hid (alloc_size w (.cells #[.int .i64 x.base, .int .i64 x.states, .int .i64 x.start, .int .i64 x.stop, .slice a x.tables.length c, .slice a' x.places.length c'] 28))
  have hb1 := Lib.hid (heap_alloc_new w (.cells #[.int .i64 x.base, .int .i64 x.states, .int .i64 x.start, .int .i64 x.stop, .slice a x.tables.length c, .slice a' x.places.length c'] 28))
  unfold aggC
  unfold maxLen at h4
  cases hv : vC x
  · have hr := Lib.hid (show uaOk x kind place = false by simp [uaOk, hv])
    have hr2 := Lib.hid (ua_no hr.out)
    have Hv := Lib.hid hv; clear hv
    go_enter Try.func40, Try.ntmps40
    go_wp2_with fail
    refine (implValidChain (Rd.below RdC.ok Hr.out (hbx.out.mono hB)) (by rw [hsz.out]; omega) hn _ Hv.out).mono ?_
    rintro e w1 ⟨rfl, hb⟩
    have Hb := Lib.hid (hbx.out.trans (hb.mono (by rw [hsz.out]; omega))); clear hb
    go_wp2
    exact bodyPost_ret (v := .tuple #[.int .i64 0, .int .i64 0, .bool false]) (by simp [results, Try.results40, go_sem]) rfl ⟨ret_iib hr2.out.1.symm hr2.out.2.symm hr.out.symm, Hb.out⟩
  · have hvc := vC_iff.1 hv
    have hel := errLen_bd kind
    have hnn := hvc.places
    have hnn2 : x.places.length ≤ 1048576 := by omega
    have Hv := Lib.hid hv
    have Hvc := Lib.hid hvc
    cases hko : kindOk kind x.base
    · have hr := Lib.hid (show uaOk x kind place = false by simp [uaOk, hko])
      have hr2 := Lib.hid (ua_no hr.out)
      have Hko := Lib.hid hko
      clear hv hvc hko
      go_enter Try.func40, Try.ntmps40
      go_wp2_with fail
      refine (implValidChain (Rd.below RdC.ok Hr.out (hbx.out.mono hB)) (by rw [hsz.out]; omega) hn _ Hv.out).mono ?_
      rintro e w1 ⟨rfl, hb⟩
      have hc0 := heap_cell (hf_heap hb hb1.out) (i := 0) rfl
      have Hb := Lib.hid (hbx.out.trans (hb.mono (by rw [hsz.out]; omega))); clear hb
      go_wp2_with (go_at_call 90; refine (implKindOk _ _ _ Hko.out _).mono ?_; rintro e w' ⟨rfl, rfl⟩)
      exact bodyPost_ret (v := .tuple #[.int .i64 0, .int .i64 0, .bool false]) (by simp [results, Try.results40, go_sem]) rfl ⟨ret_iib hr2.out.1.symm hr2.out.2.symm hr.out.symm, Hb.out⟩
    · cases hin : inB place 0 ((x.places.length : Int) - errLen kind)
      · have hr := Lib.hid (show uaOk x kind place = false by simp [uaOk, hin])
        have hr2 := Lib.hid (ua_no hr.out)
        have Hko := Lib.hid hko
        clear hv hvc hko
        go_enter Try.func40, Try.ntmps40
        go_wp2_with fail
        refine (implValidChain (Rd.below RdC.ok Hr.out (hbx.out.mono hB)) (by rw [hsz.out]; omega) hn _ Hv.out).mono ?_
        rintro e w1 ⟨rfl, hb⟩
        have hc0 := heap_cell (hf_heap hb hb1.out) (i := 0) rfl
        have hc5 := heap_cell (hf_heap hb hb1.out) (i := 5) rfl
        have Hb := Lib.hid (hbx.out.trans (hb.mono (by rw [hsz.out]; omega))); clear hb
        go_wp2_with (first | (go_at_call 90; refine (implKindOk _ _ _ Hko.out _).mono ?_; rintro e w' ⟨rfl, rfl⟩) | (go_at_call 92; refine (implLastPlace _ hnn2 _ _).mono ?_; rintro e w' ⟨rfl, rfl⟩) | (go_at_call 78; refine (implIn _ _ _ _ (by assumption) _).mono ?_; rintro e w' ⟨rfl, rfl⟩))
        exact bodyPost_ret (v := .tuple #[.int .i64 0, .int .i64 0, .bool false]) (by simp [results, Try.results40, go_sem]) rfl ⟨ret_iib hr2.out.1.symm hr2.out.2.symm hr.out.symm, Hb.out⟩
      · have hpd := inB_true.1 hin
        obtain ⟨p, rfl⟩ : ∃ p : Nat, place = p := ⟨place.toNat, by omega⟩
        have hr := Lib.hid (show uaOk x kind p = true by simp [uaOk, hin, hv, hko])
        have hr2 := Lib.hid (ua_yes hr.out)
        have Hko := Lib.hid hko
        have hpe := Lib.hid (show p + errLen kind ≤ x.n by simp only [Chn.n]; omega)
        clear hv hvc hko hpd
        go_enter Try.func40, Try.ntmps40
        go_wp2_with fail
        refine (implValidChain (Rd.below RdC.ok Hr.out (hbx.out.mono hB)) (by rw [hsz.out]; omega) hn _ Hv.out).mono ?_
        rintro e w1 ⟨rfl, hb⟩
        have hc0 := heap_cell (hf_heap hb hb1.out) (i := 0) rfl
        have hc5 := heap_cell (hf_heap hb hb1.out) (i := 5) rfl
        have hs1 : w.heap.size + 1 ≤ w1.heap.size := by have := hb.size; rw [hsz.out] at this; exact this
        have hB1 := Lib.hid (Hbx.out.keep fun k hk => hb.block k (by rw [hsz.out]; omega))
        have Hb := Lib.hid (hbx.out.trans (hb.mono (by rw [hsz.out]; omega))); clear hb
        have hCA := Lib.hid (implUndAt hB1.out (by omega) (by omega) Hvc.out Hko.out hpe.out)
        clear hs1
        go_wp2_with (first | (go_at_call 90; refine (implKindOk _ _ _ Hko.out _).mono ?_; rintro e w' ⟨rfl, rfl⟩) | (go_at_call 92; refine (implLastPlace _ hnn2 _ _).mono ?_; rintro e w' ⟨rfl, rfl⟩) | (go_at_call 78; refine (implIn _ _ _ _ (by assumption) _).mono ?_; rintro e w' ⟨rfl, rfl⟩))
        refine (Calls.mono hCA.out ?_)
        rintro e w2 ⟨rfl, hb2⟩
        have Hb2 := Lib.hid (Hb.out.trans (hb2.mono Hb.out.size)); clear hb2
        go_wp2
        exact bodyPost_ret (v := .tuple #[.int .i64 (badAt x kind p : Nat), .int .i64 (allAt x kind p : Nat), .bool true]) (by simp [results, Try.results40, go_sem]) rfl ⟨ret_iib hr2.out.1.symm hr2.out.2.symm hr.out.symm, Hb2.out⟩
end Go.Proofs.Ytnpkanlieflbiaa
/- UndetectedIn, IsCaught, walked on both sides. -/
namespace Go.Proofs.Ytnpkanlieflbiaa
open Go.RowKit
set_option linter.unusedVariables false

set_option maxRecDepth 10000 in
theorem implUndetectedIn {B : Nat} {v : Value} {x : Chn} {w : World} (h : RdC (· < B) w v x) (hB : B ≤ w.heap.size) (hn : szC x ≤ 1048576) (kind : Int) :
    Calls Try.prog 39 #[v, .int .i64 kind] w fun e w' => e = .returned (.tuple #[.int .i64 (uiZ x kind), .int .i64 (uiA x kind), .bool (uiOk x kind)]) ∧ Below w.heap.size w w' := by
  have Hr := Lib.hid h
  obtain ⟨u, p, rfl, hu, hp⟩ := h
  obtain ⟨a, c, rfl, h1, h2⟩ := hu.isSlice
  obtain ⟨a', c', rfl, h3, h4⟩ := hp.isSlice
  have hbx := Lib.hid ((Below.refl w.heap.size w).alloc (Nat.le_refl _) (.cells #[.int .i64 x.base, .int .i64 x.states, .int .i64 x.start, .int .i64 x.stop, .slice a x.tables.length c, .slice a' x.places.length c'] 28))
  have Hbx := Lib.hid (BoxC.boxed hu hp hB); clear hu hp
  have hsz := Lib.hid (alloc_size w (.cells #[.int .i64 x.base, .int .i64 x.states, .int .i64 x.start, .int .i64 x.stop, .slice a x.tables.length c, .slice a' x.places.length c'] 28))
  have hb1 := Lib.hid (heap_alloc_new w (.cells #[.int .i64 x.base, .int .i64 x.states, .int .i64 x.start, .int .i64 x.stop, .slice a x.tables.length c, .slice a' x.places.length c'] 28))
  unfold aggC
  unfold maxLen at h4
  cases hv : vC x
  · have hr := Lib.hid (show uiOk x kind = false by simp [uiOk, hv])
    have hr2 := Lib.hid (ui_no hr.out)
    have Hv := Lib.hid hv; clear hv
    go_enter Try.func39, Try.ntmps39
    go_wp2_with fail
    refine (implValidChain (Rd.below RdC.ok Hr.out (hbx.out.mono hB)) (by rw [hsz.out]; omega) hn _ Hv.out).mono ?_
    rintro e w1 ⟨rfl, hb⟩
    have Hb := Lib.hid (hbx.out.trans (hb.mono (by rw [hsz.out]; omega))); clear hb
    go_wp2
    exact bodyPost_ret (v := .tuple #[.int .i64 0, .int .i64 0, .bool false]) (by simp [results, Try.results39, go_sem]) rfl ⟨ret_iib hr2.out.1.symm hr2.out.2.symm hr.out.symm, Hb.out⟩
  · have hvc := vC_iff.1 hv
    have hel := errLen_bd kind
    have hnn := hvc.places
    have hnn2 : x.places.length ≤ 1048576 := by omega
    have Hv := Lib.hid hv
    have Hvc := Lib.hid hvc
    cases hko : kindOk kind x.base
    · have hr := Lib.hid (show uiOk x kind = false by simp [uiOk, hko])
      have hr2 := Lib.hid (ui_no hr.out)
      have Hko := Lib.hid hko
      clear hv hvc hko
      go_enter Try.func39, Try.ntmps39
      go_wp2_with fail
      refine (implValidChain (Rd.below RdC.ok Hr.out (hbx.out.mono hB)) (by rw [hsz.out]; omega) hn _ Hv.out).mono ?_
      rintro e w1 ⟨rfl, hb⟩
      have hc0 := heap_cell (hf_heap hb hb1.out) (i := 0) rfl
      have Hb := Lib.hid (hbx.out.trans (hb.mono (by rw [hsz.out]; omega))); clear hb
      go_wp2_with (go_at_call 90; refine (implKindOk _ _ _ Hko.out _).mono ?_; rintro e w' ⟨rfl, rfl⟩)
      exact bodyPost_ret (v := .tuple #[.int .i64 0, .int .i64 0, .bool false]) (by simp [results, Try.results39, go_sem]) rfl ⟨ret_iib hr2.out.1.symm hr2.out.2.symm hr.out.symm, Hb.out⟩
    · have hr := Lib.hid (show uiOk x kind = true by simp [uiOk, hv, hko])
      have hr2 := Lib.hid (ui_yes hr.out)
      have Hko := Lib.hid hko
      have hP : nPl x kind + errLen kind = x.places.length + 1 ∨ nPl x kind = 0 ∧ x.places.length < errLen kind := by unfold nPl; omega
      obtain ⟨NP, hNP⟩ : ∃ k, k = nPl x kind := ⟨_, rfl⟩
      have HNP := Lib.hid hNP
      rw [← hNP] at hP
      have hbd := Lib.hid (fun (p : Nat) (hp : p ≤ NP) => sum_le_at Hvc.out (kind := kind) (p := p) (by rw [← hNP]; exact hp))
      have hLP := Lib.hid (fun W => implLastPlace x.places.length hnn2 kind W)
      clear hv hvc hko hNP
      go_enter Try.func39, Try.ntmps39
      go_wp2_with fail
      refine (implValidChain (Rd.below RdC.ok Hr.out (hbx.out.mono hB)) (by rw [hsz.out]; omega) hn _ Hv.out).mono ?_
      rintro e w1 ⟨rfl, hb⟩
      have hc0 := heap_cell (hf_heap hb hb1.out) (i := 0) rfl
      have g5 := heap_cell (hf_heap hb hb1.out) (i := 5) rfl
      have hs1 : w.heap.size < w1.heap.size := by have := hb.size; rw [hsz.out] at this; omega
      have hB1 := Lib.hid (Hbx.out.keep fun k hk => hb.block k (by rw [hsz.out]; omega))
      have Hb := Lib.hid (hbx.out.trans (hb.mono (by rw [hsz.out]; omega))); clear hb
      have hCA := Lib.hid (fun (p : Nat) (hp : p < NP) w2 (hb : Below w1.heap.size w1 w2) => implUndAt (hB1.out.below hb (by omega) hs1) (by have := hb.size; omega) (by have := hb.size; omega) Hvc.out Hko.out (place := p) (by simp only [Chn.n]; omega))
      have hB0 := Lib.hid (Below.refl w1.heap.size w1)
      obtain ⟨n, hn⟩ : ∃ n : Nat, n = errLen kind := ⟨_, rfl⟩
      rw [← hn] at hP hel hLP
      clear hn
      go_wp2_with (go_at_call 90; refine (implKindOk _ _ _ Hko.out _).mono ?_; rintro e w' ⟨rfl, rfl⟩)
      clear hc0
      go_loopw [7, 8, 9] (fun zv av pv wr => ∃ (p Z A : Nat), p ≤ NP ∧ pv = .int .i64 p ∧ zv = .int .i64 Z ∧ av = .int .i64 A ∧ Hid (Z = sumN p (badAt x kind) ∧ A = sumN p (allAt x kind)) ∧ Hid (Below w1.heap.size w1 wr)) (fun _ _ pv _ => NP - (intOf pv).toNat)
      case atStart => exact ⟨0, 0, 0, Nat.zero_le _, rfl, rfl, rfl, Lib.hid ⟨rfl, rfl⟩, hB0⟩
      case round =>
        clear hB0
        obtain ⟨p, Z, A, hp, rfl, rfl, rfl, hs, hbel⟩ := hrel
        obtain ⟨W2, rfl⟩ : ∃ W2, W2 = wr := ⟨_, rfl⟩
        have e5 : W2.cell? ⟨w.heap.size, 5, none⟩ = some (.slice a' x.places.length c') := (hbel.out.cell (p := ⟨w.heap.size, 5, none⟩) hs1).trans g5
        by_cases hlt : p < NP
        · have hle : (p : Int) ≤ (x.places.length : Int) - (n : Int) := by omega
          have hcl := Lib.hid (hCA.out p hlt W2 hbel.out)
          have hb2 := hbd.out (p + 1) hlt
          rw [sumN_succ, sumN_succ, ← hs.out.1, ← hs.out.2] at hb2
          have hs2 := Lib.hid (show Z + badAt x kind p = sumN (p + 1) (badAt x kind) ∧ A + allAt x kind p = sumN (p + 1) (allAt x kind) by rw [sumN_succ, sumN_succ, ← hs.out.1, ← hs.out.2]; exact ⟨rfl, rfl⟩)
          generalize badAt x kind p = zb at *
          generalize allAt x kind p = za at *
          have v1 : wrap64 ((Z : Int) + (zb : Int)) = ((Z + zb : Nat) : Int) := by rw [Int.natCast_add]; exact IntWalk.wrap64_in _ (by omega)
          have v2 : wrap64 ((A : Int) + (za : Int)) = ((A + za : Nat) : Int) := by rw [Int.natCast_add]; exact IntWalk.wrap64_in _ (by omega)
          have hv1 := Lib.hid v1
          have hv2 := Lib.hid v2
          clear hb2 v1 v2
          go_wp2_with (go_at_call 92; refine (hLP.out _).mono ?_; rintro e w' ⟨rfl, rfl⟩)
          refine (Calls.mono hcl.out ?_)
          rintro e w3 ⟨rfl, hb⟩
          have hbel3 := Lib.hid (hbel.out.trans (hb.mono hbel.out.size)); clear hb
          go_wp2
          go_roundw
          case rel => exact ⟨p + 1, Z + zb, A + za, by omega, by go_num, by rw [hv1.out], by rw [hv2.out], hs2, hbel3⟩
          case measure => simp [intOf]; omega
        · obtain ⟨hpn⟩ : Nonempty (p = NP) := ⟨by omega⟩
          have hle : ¬ (p : Int) ≤ (x.places.length : Int) - (n : Int) := by omega
          have hrr := Lib.hid (show Z = badIn x kind ∧ A = allIn' x kind by rw [hpn, HNP.out] at hs; exact hs.out)
          have hbw := Lib.hid (Hb.out.trans (hbel.out.mono (Nat.le_of_lt hs1)))
          clear hpn hs
          go_wp2_with (go_at_call 92; refine (hLP.out _).mono ?_; rintro e w' ⟨rfl, rfl⟩)
          exact bodyPost_ret (v := .tuple #[.int .i64 (Z : Nat), .int .i64 (A : Nat), .bool true]) (by simp [results, Try.results39, go_sem]) rfl ⟨ret_iib (by rw [hr2.out.1, hrr.out.1]) (by rw [hr2.out.2, hrr.out.2]) hr.out.symm, hbw.out⟩

set_option maxRecDepth 10000 in
theorem implIsCaught {B : Nat} {v : Value} {x : Chn} {w : World} (h : RdC (· < B) w v x) (hB : B ≤ w.heap.size) (hn : szC x ≤ 1048576) (kind : Int) :
    Calls Try.prog 34 #[v, .int .i64 kind] w fun e w' => e = .returned (.bool (caught x kind)) ∧ Below w.heap.size w w' := by
  have Hr := Lib.hid h
  obtain ⟨u, p, rfl, hu, hp⟩ := h
  obtain ⟨a, c, rfl, h1, h2⟩ := hu.isSlice
  obtain ⟨a', c', rfl, h3, h4⟩ := hp.isSlice
  have hbx := Lib.hid ((Below.refl w.heap.size w).alloc (Nat.le_refl _) (.cells #[.int .i64 x.base, .int .i64 x.states, .int .i64 x.start, .int .i64 x.stop, .slice a x.tables.length c, .slice a' x.places.length c'] 28))
  have hsz := Lib.hid (alloc_size w (.cells #[.int .i64 x.base, .int .i64 x.states, .int .i64 x.start, .int .i64 x.stop, .slice a x.tables.length c, .slice a' x.places.length c'] 28))
  clear hu hp
  have hr : Hid (caught x kind = (uiOk x kind && decide (uiZ x kind = 0))) := Lib.hid (by
    unfold caught
    cases hq : uiOk x kind
    · rfl
    · rw [(ui_yes hq).1]
      by_cases hz : badIn x kind = 0 <;> simp [hz])
  unfold aggC at *
  go_enter Try.func34, Try.ntmps34
  go_wp2_with fail
  refine (implUndetectedIn (Rd.below RdC.ok Hr.out (hbx.out.mono hB)) (by rw [hsz.out]; omega) hn kind).mono ?_
  rintro e w1 ⟨rfl, hb⟩
  have Hb := Lib.hid (hbx.out.trans (hb.mono (by rw [hsz.out]; omega))); clear hb
  cases hq : uiOk x kind
  · rw [hq] at hr
    go_wp2
    go_ret
    exact ⟨ret_bool (by rw [hr.out]; rfl), Hb.out⟩
  · rw [hq] at hr
    generalize uiZ x kind = Z at *
    go_wp2
    go_ret
    exact ⟨ret_bool (by rw [hr.out]; by_cases hz : Z = 0 <;> simp [hz]), Hb.out⟩
end Go.Proofs.Ytnpkanlieflbiaa
