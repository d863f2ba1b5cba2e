/- Known chains: the program's choice, walked. Printed by gen_kn7.py. -/
import Derived.Test.YtnpkanlieflbiaaKn6
import Derived.Test.YtnpkanlieflbiaaV2
namespace Go.Proofs.Ytnpkanlieflbiaa
open Go.RowKit
set_option linter.unusedVariables false

def kbI (kind : Int) : Int := if kind = 0 ∨ kind = 1 ∨ kind = 4 then 10 else if kind = 2 ∨ kind = 3 then 11 else 0
theorem implKnownBase (kind : Int) (w : World) : Calls Try.prog 77 #[.int .i64 kind] w fun e w' => e = .returned (.int .i64 (kbI kind)) ∧ w = w' := by
  by_cases h0 : kind = 0
  · subst h0
    go_enter Try.func77, Try.ntmps77
    go_wp2
    go_ret
    exact ⟨rfl, rfl⟩
  by_cases h1 : kind = 1
  · subst h1
    go_enter Try.func77, Try.ntmps77
    go_wp2
    go_ret
    exact ⟨rfl, rfl⟩
  by_cases h4 : kind = 4
  · subst h4
    go_enter Try.func77, Try.ntmps77
    go_wp2
    go_ret
    exact ⟨rfl, rfl⟩
  by_cases h2 : kind = 2
  · subst h2
    go_enter Try.func77, Try.ntmps77
    go_wp2
    go_ret
    exact ⟨rfl, rfl⟩
  by_cases h3 : kind = 3
  · subst h3
    go_enter Try.func77, Try.ntmps77
    go_wp2
    go_ret
    exact ⟨rfl, rfl⟩
  have hv := Lib.hid (show kbI kind = 0 by simp [kbI, h0, h1, h2, h3, h4])
  go_enter Try.func77, Try.ntmps77
  go_wp2
  go_ret
  exact ⟨by rw [hv.out]; rfl, rfl⟩
theorem kn_kind {kind p : Int} (h : inB kind 0 4 = false) : knOk kind p = false := by simp [knOk, h]
theorem kn_p {kind p : Int} (h : inB p 1 20 = false) : knOk kind p = false := by simp [knOk, h]
theorem kn_pow {K P : Nat} (h : powB (kbN K) P = false) : knOk K P = false := by simp [knOk, h]
theorem kn_ten {P : Nat} (h : ¬ P = 10) : knOk (2 : Nat) P = false := by
  have : ¬ (P : Int) = 10 := by omega
  simp [knOk, this]
theorem kn_at {K P : Nat} (hK : K ≤ 4) (hP : 1 ≤ P ∧ P ≤ 20) (h : powB (kbN K) P = true) (h2 : K = 2 → P = 10) : knOk K P = true := by
  have e1 : inB (K : Int) 0 4 = true := inB_true.2 (by omega)
  have e2 : inB (P : Int) 1 20 = true := inB_true.2 (by omega)
  have e3 : (decide ((K : Int) = 2) && !decide ((P : Int) = 10)) = false := by
    by_cases hk : K = 2
    · have := h2 hk; subst this; simp
    · have : ¬ (K : Int) = 2 := by omega
      simp [this]
  unfold knOk
  rw [e1, e2, e3, Int.toNat_natCast, Int.toNat_natCast, h]
  rfl

set_option maxHeartbeats 6400000 in
set_option maxRecDepth 100000 in
theorem implKnownChain (kind p : Int) (w : World) :
    Calls Try.prog 29 #[.int .i64 kind, .int .i64 p] w fun e w' => ∃ v', e = .returned (.tuple #[v', .bool (knOk kind p)]) ∧ Fresh OC w w' v' (knV kind p) := by
  cases hk : inB kind 0 4
  · have hv := Lib.hid (kn_kind (p := p) hk)
    have hm := Lib.hid (knV_no hv.out)
    have hkb : kbI kind = 0 := by have := inB_false.1 hk; unfold kbI; rw [if_neg (by omega), if_neg (by omega)]
    go_enter Try.func29, Try.ntmps29
    go_wp2_with (first
      | (go_at_call 77; refine (implKnownBase _ _).mono ?_; rw [hkb]; rintro e w' ⟨rfl, rfl⟩)
      | (go_at_call 78; refine (implIn _ _ _ _ (by assumption) _).mono ?_; rintro e w' ⟨rfl, rfl⟩)
      | (go_at_call 79; refine (implPowerOk _ _ (by omega) (by omega) _ hpw _).mono ?_; rintro e w' ⟨rfl, rfl⟩))
    refine bodyPost_ret (v := .tuple #[aggC Chn.nil (.slice none 0 0) (.slice none 0 0), .bool false]) (by simp [results, Try.results29, go_sem, aggC, Chn.nil]) rfl ⟨_, by rw [hv.out], ?_⟩
    rw [hm.out]
    exact nil_fresh (by repeat' (first | with_reducible exact Below.refl _ _ | with_reducible refine Below.alloc ?_ ?_ _ | with_reducible refine Below.setCell ?_ ?_ _ | with_reducible refine Below.drew ?_ | with_reducible refine Below.draws ?_ _ | omega | (simp; done) | (simp; omega)))
  cases hp : inB p 1 20
  · have hv := Lib.hid (kn_p (kind := kind) hp)
    have hm := Lib.hid (knV_no hv.out)
    have hkb : ∃ b, kbI kind = b ∧ 10 ≤ b ∧ b ≤ 11 := by have := inB_true.1 hk; unfold kbI; split; exact ⟨_, rfl, by omega, by omega⟩; rw [if_pos (by omega)]; exact ⟨_, rfl, by omega, by omega⟩
    obtain ⟨b, hkb, hb1, hb2⟩ := hkb
    go_enter Try.func29, Try.ntmps29
    go_wp2_with (first
      | (go_at_call 77; refine (implKnownBase _ _).mono ?_; rw [hkb]; rintro e w' ⟨rfl, rfl⟩)
      | (go_at_call 78; refine (implIn _ _ _ _ (by assumption) _).mono ?_; rintro e w' ⟨rfl, rfl⟩)
      | (go_at_call 79; refine (implPowerOk _ _ (by omega) (by omega) _ hpw _).mono ?_; rintro e w' ⟨rfl, rfl⟩))
    refine bodyPost_ret (v := .tuple #[aggC Chn.nil (.slice none 0 0) (.slice none 0 0), .bool false]) (by simp [results, Try.results29, go_sem, aggC, Chn.nil]) rfl ⟨_, by rw [hv.out], ?_⟩
    rw [hm.out]
    exact nil_fresh (by repeat' (first | with_reducible exact Below.refl _ _ | with_reducible refine Below.alloc ?_ ?_ _ | with_reducible refine Below.setCell ?_ ?_ _ | with_reducible refine Below.drew ?_ | with_reducible refine Below.draws ?_ _ | omega | (simp; done) | (simp; omega)))
  have hkd := inB_true.1 hk
  have hpd := inB_true.1 hp
  obtain ⟨K, rfl⟩ := Int.eq_ofNat_of_zero_le (show 0 ≤ kind by omega)
  obtain ⟨P, rfl⟩ := Int.eq_ofNat_of_zero_le (show 0 ≤ p by omega)
  have hP : 1 ≤ P ∧ P ≤ 20 := by omega
  have hK : K ≤ 4 := by omega
  obtain ⟨b, hkb, hb⟩ : ∃ b, kbI K = b ∧ b = ((kbN K : Nat) : Int) := ⟨_, rfl, by
    have : K = 0 ∨ K = 1 ∨ K = 2 ∨ K = 3 ∨ K = 4 := by omega
    rcases this with rfl | rfl | rfl | rfl | rfl <;> rfl⟩
  have hb1 : 10 ≤ b ∧ b ≤ 11 := by
    have : kbN K = 10 ∨ kbN K = 11 := by unfold kbN; split <;> simp
    omega
  cases hpw : powB b P
  · have hv := Lib.hid (kn_pow (K := K) (P := P) (by rw [← hb]; exact hpw))
    have hm := Lib.hid (knV_no hv.out)
    clear hb
    go_enter Try.func29, Try.ntmps29
    go_wp2_with (first
      | (go_at_call 77; refine (implKnownBase _ _).mono ?_; rw [hkb]; rintro e w' ⟨rfl, rfl⟩)
      | (go_at_call 78; refine (implIn _ _ _ _ (by assumption) _).mono ?_; rintro e w' ⟨rfl, rfl⟩)
      | (go_at_call 79; refine (implPowerOk _ _ (by omega) (by omega) _ hpw _).mono ?_; rintro e w' ⟨rfl, rfl⟩))
    refine bodyPost_ret (v := .tuple #[aggC Chn.nil (.slice none 0 0) (.slice none 0 0), .bool false]) (by simp [results, Try.results29, go_sem, aggC, Chn.nil]) rfl ⟨_, by rw [hv.out], ?_⟩
    rw [hm.out]
    exact nil_fresh (by repeat' (first | with_reducible exact Below.refl _ _ | with_reducible refine Below.alloc ?_ ?_ _ | with_reducible refine Below.setCell ?_ ?_ _ | with_reducible refine Below.drew ?_ | with_reducible refine Below.draws ?_ _ | omega | (simp; done) | (simp; omega)))
  by_cases h2 : K = 2 ∧ ¬ P = 10
  · obtain ⟨rfl, hP10⟩ := h2
    have hv := Lib.hid (kn_ten hP10)
    have hm := Lib.hid (knV_no hv.out)
    have hP10' : ((P : Int) != 10) = true := by simp; omega
    clear hb
    rw [show ((2 : Nat) : Int) = 2 from rfl] at *
    go_enter Try.func29, Try.ntmps29
    go_wp2_with (first
      | (go_at_call 77; refine (implKnownBase _ _).mono ?_; rw [hkb]; rintro e w' ⟨rfl, rfl⟩)
      | (go_at_call 78; refine (implIn _ _ _ _ (by assumption) _).mono ?_; rintro e w' ⟨rfl, rfl⟩)
      | (go_at_call 79; refine (implPowerOk _ _ (by omega) (by omega) _ hpw _).mono ?_; rintro e w' ⟨rfl, rfl⟩))
    refine bodyPost_ret (v := .tuple #[aggC Chn.nil (.slice none 0 0) (.slice none 0 0), .bool false]) (by simp [results, Try.results29, go_sem, aggC, Chn.nil]) rfl ⟨_, by rw [hv.out], ?_⟩
    rw [hm.out]
    exact nil_fresh (by repeat' (first | with_reducible exact Below.refl _ _ | with_reducible refine Below.alloc ?_ ?_ _ | with_reducible refine Below.setCell ?_ ?_ _ | with_reducible refine Below.drew ?_ | with_reducible refine Below.draws ?_ _ | omega | (simp; done) | (simp; omega)))
  have hok := kn_at hK hP (by rw [← hb]; exact hpw) (fun h => by
    by_cases h10 : P = 10
    · exact h10
    · exact absurd ⟨h, h10⟩ h2)
  have hvw := Lib.hid (fun (h : 1 ≤ K ∧ K ≤ 3) => knW_vw h hP (by rw [← hb]; exact hpw) (fun h => by
    by_cases h10 : P = 10
    · exact h10
    · exact absurd ⟨h, h10⟩ h2))
  obtain ⟨W2, hW2⟩ : ∃ W2, W2 = (w.alloc (.cells #[.int .i64 0, .int .i64 0, .int .i64 0, .int .i64 0, .slice none 0 0, .slice none 0 0] 28)).alloc (.cells #[.int .i64 b, .int .i64 b, .int .i64 0, .slice none 0 0] 31) := ⟨_, rfl⟩
  have hs2 : W2.heap.size = w.heap.size + 1 + 1 := by rw [hW2]; simp
  have Hz := Lib.hid (show W2.heap[w.heap.size]? = some (.cells #[.int .i64 0, .int .i64 0, .int .i64 0, .int .i64 0, .slice none 0 0, .slice none 0 0] 28 (0, 0)) by rw [hW2]; exact (alloc_old (by simp)).trans (heap_alloc_new w _))
  have Hx := Lib.hid (show W2.heap[w.heap.size + 1]? = some (.cells #[.int .i64 b, .int .i64 b, .int .i64 0, .slice none 0 0] 31 (0, 0)) by rw [hW2]; exact alloc_at (by simp))
  have Hb2 := Lib.hid (show Below w.heap.size w W2 by rw [hW2]; repeat' (first | with_reducible exact Below.refl _ _ | with_reducible refine Below.alloc ?_ ?_ _ | with_reducible refine Below.setCell ?_ ?_ _ | with_reducible refine Below.drew ?_ | with_reducible refine Below.draws ?_ _ | omega | (simp; done) | (simp; omega)))
  have HW2 := Lib.hid hW2
  have hlt2 : w.heap.size < W2.heap.size := by omega
  have hlt3 : w.heap.size + 1 < W2.heap.size := by omega
  have Hs2 := Lib.hid hs2
  clear hW2 hs2 h2
  have hK5 : K = 0 ∨ K = 4 ∨ K = 1 ∨ K = 2 ∨ K = 3 := by omega
  rcases hK5 with rfl | rfl | rfl | rfl | rfl
  · have hj := Lib.hid hok
    have hV := Lib.hid (show knV ((0 : Nat) : Int) P = luC P by rw [knV_yes hok, Int.toNat_natCast, Int.toNat_natCast]; rfl)
    have hcl := Lib.hid (implLuhn P hP W2)
    clear hok hvw hb
    rw [show ((0 : Nat) : Int) = 0 from rfl] at *
    go_enter Try.func29, Try.ntmps29
    go_wp2_with (first
      | (go_at_call 77; refine (implKnownBase _ _).mono ?_; rw [hkb]; rintro e w' ⟨rfl, rfl⟩)
      | (go_at_call 78; refine (implIn _ _ _ _ (by assumption) _).mono ?_; rintro e w' ⟨rfl, rfl⟩)
      | (go_at_call 79; refine (implPowerOk _ _ (by omega) (by omega) _ hpw _).mono ?_; rintro e w' ⟨rfl, rfl⟩))
    rw [← HW2.out]
    refine (Calls.mono hcl.out ?_)
    rintro e w6 ⟨v6, rfl, hf6⟩
    obtain ⟨u, q, rfl, a7, n7, c7, a8, n8, c8, rfl, rfl⟩ := hf6.aggC
    have hz6 := below_heap hf6.bel Hz.out
    have z0 := heap_cell hz6 (i := 0) rfl
    have z1 := heap_cell hz6 (i := 1) rfl
    have z2 := heap_cell hz6 (i := 2) rfl
    have z3 := heap_cell hz6 (i := 3) rfl
    have z4 := heap_cell hz6 (i := 4) rfl
    have z5 := heap_cell hz6 (i := 5) rfl
    have f0 := frozen_at hz6 0
    have f1 := frozen_at hz6 1
    have f2 := frozen_at hz6 2
    have f3 := frozen_at hz6 3
    have f4 := frozen_at hz6 4
    have f5 := frozen_at hz6 5
    have Hf := Lib.hid hf6
    clear hf6 hz6 hcl
    go_wp2
    refine bodyPost_ret (v := .tuple #[.agg #[.int .i64 (luC P).base, .int .i64 (luC P).states, .int .i64 (luC P).start, .int .i64 (luC P).stop, .slice a7 n7 c7, .slice a8 n8 c8], .bool true]) (by simp [results, Try.results29, go_sem, z0, z1, z2, z3, z4, z5]) rfl ⟨_, by rw [hj.out], by rw [hV.out]; exact Fresh.turned OC.ok Hf.out Hb2.out hlt2 (by repeat' (first | with_reducible exact Only.refl _ _ | with_reducible refine Only.put ?_ ?_ _ _ | (simp; done)))⟩
  · have hj := Lib.hid hok
    have hV := Lib.hid (show knV ((4 : Nat) : Int) P = hyC P by rw [knV_yes hok, Int.toNat_natCast, Int.toNat_natCast]; rfl)
    have hcl := Lib.hid (implHybrid P hP W2)
    clear hok hvw hb
    rw [show ((4 : Nat) : Int) = 4 from rfl] at *
    go_enter Try.func29, Try.ntmps29
    go_wp2_with (first
      | (go_at_call 77; refine (implKnownBase _ _).mono ?_; rw [hkb]; rintro e w' ⟨rfl, rfl⟩)
      | (go_at_call 78; refine (implIn _ _ _ _ (by assumption) _).mono ?_; rintro e w' ⟨rfl, rfl⟩)
      | (go_at_call 79; refine (implPowerOk _ _ (by omega) (by omega) _ hpw _).mono ?_; rintro e w' ⟨rfl, rfl⟩))
    rw [← HW2.out]
    refine (Calls.mono hcl.out ?_)
    rintro e w6 ⟨v6, rfl, hf6⟩
    obtain ⟨u, q, rfl, a7, n7, c7, a8, n8, c8, rfl, rfl⟩ := hf6.aggC
    have hz6 := below_heap hf6.bel Hz.out
    have z0 := heap_cell hz6 (i := 0) rfl
    have z1 := heap_cell hz6 (i := 1) rfl
    have z2 := heap_cell hz6 (i := 2) rfl
    have z3 := heap_cell hz6 (i := 3) rfl
    have z4 := heap_cell hz6 (i := 4) rfl
    have z5 := heap_cell hz6 (i := 5) rfl
    have f0 := frozen_at hz6 0
    have f1 := frozen_at hz6 1
    have f2 := frozen_at hz6 2
    have f3 := frozen_at hz6 3
    have f4 := frozen_at hz6 4
    have f5 := frozen_at hz6 5
    have Hf := Lib.hid hf6
    clear hf6 hz6 hcl
    go_wp2
    refine bodyPost_ret (v := .tuple #[.agg #[.int .i64 (hyC P).base, .int .i64 (hyC P).states, .int .i64 (hyC P).start, .int .i64 (hyC P).stop, .slice a7 n7 c7, .slice a8 n8 c8], .bool true]) (by simp [results, Try.results29, go_sem, z0, z1, z2, z3, z4, z5]) rfl ⟨_, by rw [hj.out], by rw [hV.out]; exact Fresh.turned OC.ok Hf.out Hb2.out hlt2 (by repeat' (first | with_reducible exact Only.refl _ _ | with_reducible refine Only.put ?_ ?_ _ _ | (simp; done)))⟩
  · have hj := Lib.hid hok
    have hw := Lib.hid (hvw.out (by omega))
    have hV := Lib.hid (show knV ((1 : Nat) : Int) P = wchn (knW 1 P) by rw [knV_yes hok, Int.toNat_natCast, Int.toNat_natCast]; rfl)
    have hkbn : kbN 1 = 10 := rfl
    have hb' : b = 10 := by rw [hb]; rfl
    subst hb'
    have Hgo := Lib.hid (fun W => implFromLast P hP 83 #[] (kw 1) W (fun k hk W => implKn1 k (by omega) W) (fun _ _ => rfl))
    clear hok hvw hb hkbn
    rw [show ((1 : Nat) : Int) = 1 from rfl] at *
    have e3 := frozen_at Hx.out 3
    have e3c := heap_cell Hx.out (i := 3) rfl
    go_enter Try.func29, Try.ntmps29
    go_wp2_with (first
      | (go_at_call 77; refine (implKnownBase _ _).mono ?_; rw [hkb]; rintro e w' ⟨rfl, rfl⟩)
      | (go_at_call 78; refine (implIn _ _ _ _ (by assumption) _).mono ?_; rintro e w' ⟨rfl, rfl⟩)
      | (go_at_call 79; refine (implPowerOk _ _ (by omega) (by omega) _ hpw _).mono ?_; rintro e w' ⟨rfl, rfl⟩))
    rw [← HW2.out]
    refine (Calls.mono (Hgo.out W2) ?_)
    rintro e w5 ⟨v5, rfl, hf5⟩
    obtain ⟨a9, n9, c9, rfl⟩ := hf5.choose_spec.1.isSlice
    have hb5 := below_heap hf5.bel Hx.out
    have hz5 := below_heap hf5.bel Hz.out
    have g3 := heap_cell hb5 (i := 3) rfl
    have g3f := frozen_at hb5 3
    obtain ⟨W6, hW6⟩ : ∃ W6, W6 = w5.setCell ⟨w.heap.size + 1, 3, none⟩ (.slice a9 n9 c9) := ⟨_, rfl⟩
    have e6 := heap_setCell_same w5 (w.heap.size + 1) 3 _ _ (.slice a9 n9 c9) hb5
    rw [← hW6] at e6
    have k6 : ∀ k, k ≠ w.heap.size + 1 → W6.heap[k]? = w5.heap[k]? := fun k hk => by rw [hW6]; exact keep_set (p := ⟨w.heap.size + 1, 3, none⟩) hk
    have hz6 : W6.heap.size = w5.heap.size := by rw [hW6]; simp
    have hl6 := heap_lt hb5
    obtain ⟨S5, q1, q2, q3⟩ := hf5
    have hr6 : RdI (· < W6.heap.size) W6 (.slice a9 n9 c9) (fromL (kw 1) P P) := OI.leads.to _ _ _ _ _ (OI.ok.keep q1 fun k hk => k6 k (by have := q2 k hk; omega)) (fun k hk => by have := OI.ok.lt q1 k hk; omega)
    have hbw : BoxW (· < W6.heap.size) W6 (w.heap.size + 1) (knW 1 P) := ⟨_, e6, hr6⟩
    have Hch := Lib.hid (implWChain hbw (fun k h => h) (by omega) hw.out)
    have Hz6 := Lib.hid ((k6 w.heap.size (by omega)).trans hz5)
    have Hb6 := Lib.hid (show Below w.heap.size w W6 by rw [hW6]; exact (Hb2.out.trans (q3.mono Hb2.out.size)).setCell (by show _ ≤ w.heap.size + 1; omega) _)
    have hlt6 : w.heap.size < W6.heap.size := by omega
    have HW6 := Lib.hid hW6
    clear hb5 hz5 e6 k6 hz6 q1 q2 q3 hr6 hbw hW6 e3 e3c Hgo
    go_wp2_with fail
    rw [← HW6.out]
    refine (Calls.mono Hch.out ?_)
    rintro e w7 ⟨v7, rfl, hf7⟩
    obtain ⟨u, q, rfl, a7, n7, c7, a8, n8, c8, rfl, rfl⟩ := hf7.aggC
    have hz7 := below_heap hf7.bel Hz6.out
    have z0 := heap_cell hz7 (i := 0) rfl
    have z1 := heap_cell hz7 (i := 1) rfl
    have z2 := heap_cell hz7 (i := 2) rfl
    have z3 := heap_cell hz7 (i := 3) rfl
    have z4 := heap_cell hz7 (i := 4) rfl
    have z5 := heap_cell hz7 (i := 5) rfl
    have f0 := frozen_at hz7 0
    have f1 := frozen_at hz7 1
    have f2 := frozen_at hz7 2
    have f3 := frozen_at hz7 3
    have f4 := frozen_at hz7 4
    have f5 := frozen_at hz7 5
    have Hf := Lib.hid hf7
    clear hf7 hz7 Hch
    go_wp2
    refine bodyPost_ret (v := .tuple #[.agg #[.int .i64 (wchn (knW 1 P)).base, .int .i64 (wchn (knW 1 P)).states, .int .i64 (wchn (knW 1 P)).start, .int .i64 (wchn (knW 1 P)).stop, .slice a7 n7 c7, .slice a8 n8 c8], .bool true]) (by simp [results, Try.results29, go_sem, z0, z1, z2, z3, z4, z5]) rfl ⟨_, by rw [hj.out], by rw [hV.out]; exact Fresh.turned OC.ok Hf.out Hb6.out hlt6 (by repeat' (first | with_reducible exact Only.refl _ _ | with_reducible refine Only.put ?_ ?_ _ _ | (simp; done)))⟩
  · have hj := Lib.hid hok
    have hw := Lib.hid (hvw.out (by omega))
    have hV := Lib.hid (show knV ((2 : Nat) : Int) P = wchn (knW 2 P) by rw [knV_yes hok, Int.toNat_natCast, Int.toNat_natCast]; rfl)
    have hP10 : P = 10 := by
      have h5 := hvw.out (by omega)
      by_cases h10 : P = 10
      · exact h10
      · rw [kn_ten h10] at hok; cases hok
    have hP10b : ((P : Int) != 10) = false := by rw [hP10]; rfl
    clear hP10
    have hkbn : kbN 2 = 11 := rfl
    have hb' : b = 11 := by rw [hb]; rfl
    subst hb'
    have Hgo := Lib.hid (fun W => implFromLast P hP 84 #[] (kw 2) W (fun k hk W => implKn2 k (by omega) W) (fun _ _ => rfl))
    clear hok hvw hb hkbn
    rw [show ((2 : Nat) : Int) = 2 from rfl] at *
    have e3 := frozen_at Hx.out 3
    have e3c := heap_cell Hx.out (i := 3) rfl
    go_enter Try.func29, Try.ntmps29
    go_wp2_with (first
      | (go_at_call 77; refine (implKnownBase _ _).mono ?_; rw [hkb]; rintro e w' ⟨rfl, rfl⟩)
      | (go_at_call 78; refine (implIn _ _ _ _ (by assumption) _).mono ?_; rintro e w' ⟨rfl, rfl⟩)
      | (go_at_call 79; refine (implPowerOk _ _ (by omega) (by omega) _ hpw _).mono ?_; rintro e w' ⟨rfl, rfl⟩))
    rw [← HW2.out]
    refine (Calls.mono (Hgo.out W2) ?_)
    rintro e w5 ⟨v5, rfl, hf5⟩
    obtain ⟨a9, n9, c9, rfl⟩ := hf5.choose_spec.1.isSlice
    have hb5 := below_heap hf5.bel Hx.out
    have hz5 := below_heap hf5.bel Hz.out
    have g3 := heap_cell hb5 (i := 3) rfl
    have g3f := frozen_at hb5 3
    obtain ⟨W6, hW6⟩ : ∃ W6, W6 = w5.setCell ⟨w.heap.size + 1, 3, none⟩ (.slice a9 n9 c9) := ⟨_, rfl⟩
    have e6 := heap_setCell_same w5 (w.heap.size + 1) 3 _ _ (.slice a9 n9 c9) hb5
    rw [← hW6] at e6
    have k6 : ∀ k, k ≠ w.heap.size + 1 → W6.heap[k]? = w5.heap[k]? := fun k hk => by rw [hW6]; exact keep_set (p := ⟨w.heap.size + 1, 3, none⟩) hk
    have hz6 : W6.heap.size = w5.heap.size := by rw [hW6]; simp
    have hl6 := heap_lt hb5
    obtain ⟨S5, q1, q2, q3⟩ := hf5
    have hr6 : RdI (· < W6.heap.size) W6 (.slice a9 n9 c9) (fromL (kw 2) P P) := OI.leads.to _ _ _ _ _ (OI.ok.keep q1 fun k hk => k6 k (by have := q2 k hk; omega)) (fun k hk => by have := OI.ok.lt q1 k hk; omega)
    have hbw : BoxW (· < W6.heap.size) W6 (w.heap.size + 1) (knW 2 P) := ⟨_, e6, hr6⟩
    have Hch := Lib.hid (implWChain hbw (fun k h => h) (by omega) hw.out)
    have Hz6 := Lib.hid ((k6 w.heap.size (by omega)).trans hz5)
    have Hb6 := Lib.hid (show Below w.heap.size w W6 by rw [hW6]; exact (Hb2.out.trans (q3.mono Hb2.out.size)).setCell (by show _ ≤ w.heap.size + 1; omega) _)
    have hlt6 : w.heap.size < W6.heap.size := by omega
    have HW6 := Lib.hid hW6
    clear hb5 hz5 e6 k6 hz6 q1 q2 q3 hr6 hbw hW6 e3 e3c Hgo
    go_wp2_with fail
    rw [← HW6.out]
    refine (Calls.mono Hch.out ?_)
    rintro e w7 ⟨v7, rfl, hf7⟩
    obtain ⟨u, q, rfl, a7, n7, c7, a8, n8, c8, rfl, rfl⟩ := hf7.aggC
    have hz7 := below_heap hf7.bel Hz6.out
    have z0 := heap_cell hz7 (i := 0) rfl
    have z1 := heap_cell hz7 (i := 1) rfl
    have z2 := heap_cell hz7 (i := 2) rfl
    have z3 := heap_cell hz7 (i := 3) rfl
    have z4 := heap_cell hz7 (i := 4) rfl
    have z5 := heap_cell hz7 (i := 5) rfl
    have f0 := frozen_at hz7 0
    have f1 := frozen_at hz7 1
    have f2 := frozen_at hz7 2
    have f3 := frozen_at hz7 3
    have f4 := frozen_at hz7 4
    have f5 := frozen_at hz7 5
    have Hf := Lib.hid hf7
    clear hf7 hz7 Hch
    go_wp2
    refine bodyPost_ret (v := .tuple #[.agg #[.int .i64 (wchn (knW 2 P)).base, .int .i64 (wchn (knW 2 P)).states, .int .i64 (wchn (knW 2 P)).start, .int .i64 (wchn (knW 2 P)).stop, .slice a7 n7 c7, .slice a8 n8 c8], .bool true]) (by simp [results, Try.results29, go_sem, z0, z1, z2, z3, z4, z5]) rfl ⟨_, by rw [hj.out], by rw [hV.out]; exact Fresh.turned OC.ok Hf.out Hb6.out hlt6 (by repeat' (first | with_reducible exact Only.refl _ _ | with_reducible refine Only.put ?_ ?_ _ _ | (simp; done)))⟩
  · have hj := Lib.hid hok
    have hw := Lib.hid (hvw.out (by omega))
    have hV := Lib.hid (show knV ((3 : Nat) : Int) P = wchn (knW 3 P) by rw [knV_yes hok, Int.toNat_natCast, Int.toNat_natCast]; rfl)
    have hP14 : P ≤ 14 := by
      by_cases h : P ≤ 14
      · exact h
      · exfalso
        have h2 := powB_le (b := b) (by omega) hpw (show 15 ≤ P by omega)
        have e15 : (11 : Int) ^ 15 = 4177248169415651 := by kernel_rfl
        rw [hb, show ((kbN 3 : Nat) : Int) = 11 from rfl, e15] at h2
        omega
    have hkbn : kbN 3 = 11 := rfl
    have hb' : b = 11 := by rw [hb]; rfl
    subst hb'
    have Hgo := Lib.hid (fun W => implFromLast P hP 85 #[] (kw 3) W (fun k hk W => implKn3 k (by omega) W) (fun _ _ => rfl))
    clear hok hvw hb hkbn
    rw [show ((3 : Nat) : Int) = 3 from rfl] at *
    clear Hz Hx Hb2 HW2 hlt2 hlt3 Hs2
    obtain ⟨W2, hW2⟩ : ∃ W2, W2 = (w.alloc (.cells #[.int .i64 0, .int .i64 0, .int .i64 0, .int .i64 0, .slice none 0 0, .slice none 0 0] 28)).alloc (.cells #[.int .i64 11, .int .i64 11, .int .i64 1, .slice none 0 0] 31) := ⟨_, rfl⟩
    have hs2 : W2.heap.size = w.heap.size + 1 + 1 := by rw [hW2]; simp
    have Hz := Lib.hid (show W2.heap[w.heap.size]? = some (.cells #[.int .i64 0, .int .i64 0, .int .i64 0, .int .i64 0, .slice none 0 0, .slice none 0 0] 28 (0, 0)) by rw [hW2]; exact (alloc_old (by simp)).trans (heap_alloc_new w _))
    have Hx := Lib.hid (show W2.heap[w.heap.size + 1]? = some (.cells #[.int .i64 11, .int .i64 11, .int .i64 1, .slice none 0 0] 31 (0, 0)) by rw [hW2]; exact alloc_at (by simp))
    have Hb2 := Lib.hid (show Below w.heap.size w W2 by rw [hW2]; repeat' (first | with_reducible exact Below.refl _ _ | with_reducible refine Below.alloc ?_ ?_ _ | with_reducible refine Below.setCell ?_ ?_ _ | with_reducible refine Below.drew ?_ | with_reducible refine Below.draws ?_ _ | omega | (simp; done) | (simp; omega)))
    have HW2 := Lib.hid hW2
    have hlt2 : w.heap.size < W2.heap.size := by omega
    have hlt3 : w.heap.size + 1 < W2.heap.size := by omega
    have Hs2 := Lib.hid hs2
    clear hW2 hs2
    have e3 := frozen_at Hx.out 3
    have e3c := heap_cell Hx.out (i := 3) rfl
    go_enter Try.func29, Try.ntmps29
    go_wp2_with (first
      | (go_at_call 77; refine (implKnownBase _ _).mono ?_; rw [hkb]; rintro e w' ⟨rfl, rfl⟩)
      | (go_at_call 78; refine (implIn _ _ _ _ (by assumption) _).mono ?_; rintro e w' ⟨rfl, rfl⟩)
      | (go_at_call 79; refine (implPowerOk _ _ (by omega) (by omega) _ hpw _).mono ?_; rintro e w' ⟨rfl, rfl⟩))
    rw [← HW2.out]
    refine (Calls.mono (Hgo.out W2) ?_)
    rintro e w5 ⟨v5, rfl, hf5⟩
    obtain ⟨a9, n9, c9, rfl⟩ := hf5.choose_spec.1.isSlice
    have hb5 := below_heap hf5.bel Hx.out
    have hz5 := below_heap hf5.bel Hz.out
    have g3 := heap_cell hb5 (i := 3) rfl
    have g3f := frozen_at hb5 3
    obtain ⟨W6, hW6⟩ : ∃ W6, W6 = w5.setCell ⟨w.heap.size + 1, 3, none⟩ (.slice a9 n9 c9) := ⟨_, rfl⟩
    have e6 := heap_setCell_same w5 (w.heap.size + 1) 3 _ _ (.slice a9 n9 c9) hb5
    rw [← hW6] at e6
    have k6 : ∀ k, k ≠ w.heap.size + 1 → W6.heap[k]? = w5.heap[k]? := fun k hk => by rw [hW6]; exact keep_set (p := ⟨w.heap.size + 1, 3, none⟩) hk
    have hz6 : W6.heap.size = w5.heap.size := by rw [hW6]; simp
    have hl6 := heap_lt hb5
    obtain ⟨S5, q1, q2, q3⟩ := hf5
    have hr6 : RdI (· < W6.heap.size) W6 (.slice a9 n9 c9) (fromL (kw 3) P P) := OI.leads.to _ _ _ _ _ (OI.ok.keep q1 fun k hk => k6 k (by have := q2 k hk; omega)) (fun k hk => by have := OI.ok.lt q1 k hk; omega)
    have hbw : BoxW (· < W6.heap.size) W6 (w.heap.size + 1) (knW 3 P) := ⟨_, e6, hr6⟩
    have Hch := Lib.hid (implWChain hbw (fun k h => h) (by omega) hw.out)
    have Hz6 := Lib.hid ((k6 w.heap.size (by omega)).trans hz5)
    have Hb6 := Lib.hid (show Below w.heap.size w W6 by rw [hW6]; exact (Hb2.out.trans (q3.mono Hb2.out.size)).setCell (by show _ ≤ w.heap.size + 1; omega) _)
    have hlt6 : w.heap.size < W6.heap.size := by omega
    have HW6 := Lib.hid hW6
    clear hb5 hz5 e6 k6 hz6 q1 q2 q3 hr6 hbw hW6 e3 e3c Hgo
    go_wp2_with fail
    rw [← HW6.out]
    refine (Calls.mono Hch.out ?_)
    rintro e w7 ⟨v7, rfl, hf7⟩
    obtain ⟨u, q, rfl, a7, n7, c7, a8, n8, c8, rfl, rfl⟩ := hf7.aggC
    have hz7 := below_heap hf7.bel Hz6.out
    have z0 := heap_cell hz7 (i := 0) rfl
    have z1 := heap_cell hz7 (i := 1) rfl
    have z2 := heap_cell hz7 (i := 2) rfl
    have z3 := heap_cell hz7 (i := 3) rfl
    have z4 := heap_cell hz7 (i := 4) rfl
    have z5 := heap_cell hz7 (i := 5) rfl
    have f0 := frozen_at hz7 0
    have f1 := frozen_at hz7 1
    have f2 := frozen_at hz7 2
    have f3 := frozen_at hz7 3
    have f4 := frozen_at hz7 4
    have f5 := frozen_at hz7 5
    have Hf := Lib.hid hf7
    clear hf7 hz7 Hch
    go_wp2
    refine bodyPost_ret (v := .tuple #[.agg #[.int .i64 (wchn (knW 3 P)).base, .int .i64 (wchn (knW 3 P)).states, .int .i64 (wchn (knW 3 P)).start, .int .i64 (wchn (knW 3 P)).stop, .slice a7 n7 c7, .slice a8 n8 c8], .bool true]) (by simp [results, Try.results29, go_sem, z0, z1, z2, z3, z4, z5]) rfl ⟨_, by rw [hj.out], by rw [hV.out]; exact Fresh.turned OC.ok Hf.out Hb6.out hlt6 (by repeat' (first | with_reducible exact Only.refl _ _ | with_reducible refine Only.put ?_ ?_ _ _ | (simp; done)))⟩
end Go.Proofs.Ytnpkanlieflbiaa
