/- UndetectedIn, IsCaught, walked on both sides. -/
import Derived.Test.YtcjmkiedcmlpcaaE15
namespace Go.Proofs.Ytcjmkiedcmlpcaa
open Go.RowKit
set_option linter.unusedVariables false

set_option maxHeartbeats 1600000 in
set_option maxRecDepth 10000 in
theorem specL02In {B bx : Nat} {x : Chn} {w : World} (h : BoxC (· < B) w bx x) (hB : B ≤ w.heap.size) (hbx : bx < w.heap.size) (hv : VC x) {kind : Int} (hkd : kindOk kind x.base = true) :
    Calls Try.prog 83 #[.pointer (some ⟨bx, 0, none⟩), .int .i64 kind] w fun e w' => e = .returned (.tuple #[.int .i64 (badIn x kind : Nat), .int .i64 (allIn' x kind : Nat)]) ∧ Below w.heap.size w w' := by
  have H := Lib.hid h
  have Hv := Lib.hid hv
  have hnn := hv.places
  have hel := errLen_bd kind
  have Hkd := Lib.hid hkd
  have hCS := Lib.hid (fun W => specSize x.base kind W)
  rw [sizeK_yes hkd] at hCS
  obtain ⟨a, c, a', c', g0, g1, g2, g3, g4, g5, hu, hpp, ⟨h1, h2⟩, h3, h4⟩ := h.cells
  unfold maxLen at h4
  have hP : nPl x kind + errLen kind = x.places.length + 1 ∨ nPl x kind = 0 ∧ x.places.length < errLen kind := by unfold nPl; omega
  obtain ⟨NP, hNP⟩ : ∃ k, k = nPl x kind := ⟨_, rfl⟩
  have HNP := Lib.hid hNP
  rw [← hNP] at hP
  have hCA := Lib.hid (fun (p : Nat) (hp : p < NP) w1 (hb : Below w.heap.size w w1) => specAt (H.out.below hb hB hbx) (by have := hb.size; omega) (by have := hb.size; omega) Hv.out Hkd.out (place := p) (by simp only [Chn.n]; omega))
  have hbd := Lib.hid (fun (p : Nat) (hp : p ≤ NP) => sum_le_at Hv.out (kind := kind) (p := p) (by rw [← hNP]; exact hp))
  obtain ⟨n, hn⟩ : ∃ n : Nat, n = errLen kind := ⟨_, rfl⟩
  rw [← hn] at hP hel hCS
  clear h hv hkd hu hpp hn hNP g1 g2 g3 g4
  have hB0 := Lib.hid (Below.refl w.heap.size w)
  go_enter Try.func83, Try.ntmps83
  go_wp2
  go_loopw [6, 7, 8] (fun zv av pv wr => ∃ (p Z A : Nat), p ≤ NP ∧ pv = .int .i64 p ∧ zv = .int .i64 Z ∧ av = .int .i64 A ∧ Hid (Z = sumN p (badAt x kind) ∧ A = sumN p (allAt x kind)) ∧ Hid (Below w.heap.size w wr)) (fun _ _ pv _ => NP - (intOf pv).toNat)
  case atStart => exact ⟨0, 0, 0, Nat.zero_le _, rfl, rfl, rfl, Lib.hid ⟨rfl, rfl⟩, hB0⟩
  case round =>
    clear hB0
    obtain ⟨p, Z, A, hp, rfl, rfl, rfl, hs, hbel⟩ := hrel
    obtain ⟨W2, rfl⟩ : ∃ W2, W2 = wr := ⟨_, rfl⟩
    have e0 : W2.cell? ⟨bx, 0, none⟩ = some (.int .i64 x.base) := (hbel.out.cell (p := ⟨bx, 0, none⟩) hbx).trans g0
    have e5 : W2.cell? ⟨bx, 5, none⟩ = some (.slice a' x.places.length c') := (hbel.out.cell (p := ⟨bx, 5, none⟩) hbx).trans g5
    have w1 : IntKind.i64.wrap ((p : Int) + (n : Int)) = (p : Int) + (n : Int) := IntWalk.i64_in _ (by omega)
    by_cases hlt : p < NP
    · have hle : (p : Int) + (n : Int) ≤ (x.places.length : Int) := by omega
      have hcl := Lib.hid (fun m => hCA.out p hlt (W2.drewN m) (Below.draws hbel.out m))
      have hb2 := hbd.out (p + 1) hlt
      rw [sumN_succ, sumN_succ, ← hs.out.1, ← hs.out.2] at hb2
      have hs2 := Lib.hid (show Z + badAt x kind p = sumN (p + 1) (badAt x kind) ∧ A + allAt x kind p = sumN (p + 1) (allAt x kind) by rw [sumN_succ, sumN_succ, ← hs.out.1, ← hs.out.2]; exact ⟨rfl, rfl⟩)
      have hbw := Lib.hid (fun m w1 (hb : Below (W2.drewN m).heap.size (W2.drewN m) w1) => (Below.draws hbel.out m).trans (hb.mono (by show w.heap.size ≤ W2.heap.size; exact hbel.out.size)))
      generalize badAt x kind p = zb at *
      generalize allAt x kind p = za at *
      have v1 : wrap64 ((Z : Int) + (zb : Int)) = ((Z + zb : Nat) : Int) := by rw [Int.natCast_add]; exact IntWalk.wrap64_in _ (by omega)
      have v2 : wrap64 ((A : Int) + (za : Int)) = ((A + za : Nat) : Int) := by rw [Int.natCast_add]; exact IntWalk.wrap64_in _ (by omega)
      have hv1 := Lib.hid v1
      have hv2 := Lib.hid v2
      clear hb2 v1 v2
      go_wp2
      go_quiet (exact Calls.quiet_of_same ((hCS.out _).mono fun _ _ h => ⟨h.1, h.2.symm⟩))
      go_wp2_with fail
      refine (Calls.mono (hcl.out _) ?_)
      rintro e w3 ⟨rfl, hb⟩
      have hbel3 := Lib.hid (hbw.out _ _ hb); clear hb
      go_wp2
      go_roundw
      case rel => exact ⟨p + 1, Z + zb, A + za, by omega, by go_num, by rw [hv1.out], by rw [hv2.out], hs2, hbel3⟩
      case measure => simp [intOf]; omega
    · obtain ⟨hpn⟩ : Nonempty (p = NP) := ⟨by omega⟩
      have hle : ¬ (p : Int) + (n : Int) ≤ (x.places.length : Int) := by omega
      have hr := Lib.hid (show Z = badIn x kind ∧ A = allIn' x kind by rw [hpn, HNP.out] at hs; exact hs.out)
      have hbw := Lib.hid (fun m => Below.draws hbel.out m)
      clear hpn hs
      go_wp2
      go_quiet (exact Calls.quiet_of_same ((hCS.out _).mono fun _ _ h => ⟨h.1, h.2.symm⟩))
      go_wp2
      exact bodyPost_ret (v := .tuple #[.int .i64 (Z : Nat), .int .i64 (A : Nat)]) (by simp [results, Try.results83, go_sem]) rfl ⟨by rw [hr.out.1, hr.out.2], hbw.out _⟩
set_option maxRecDepth 10000 in
theorem specUndetectedIn {B : Nat} {v : Value} {x : Chn} {w : World} (h : RdC (· < B) w v x) (hB : B ≤ w.heap.size) (kind : Int) :
    Calls Try.prog 40 #[v, .int .i64 kind] w fun e w' => e = .returned (.tuple #[.int .i64 (uiZ x kind), .int .i64 (uiA x kind), .bool (uiOk x kind)]) ∧ Below w.heap.size w w' := by
  obtain ⟨u, p, rfl, hu, hp⟩ := h
  obtain ⟨a, c, rfl, h1, h2⟩ := hu.isSlice
  obtain ⟨a', c', rfl, h3, h4⟩ := hp.isSlice
  have hbx := Lib.hid ((Below.refl w.heap.size w).alloc (Nat.le_refl _) (.cells #[.int .i64 x.base, .int .i64 x.states, .int .i64 x.start, .int .i64 x.stop, .slice a x.tables.length c, .slice a' x.places.length c'] 28))
  have Hbx := Lib.hid (BoxC.boxed hu hp hB); clear hu hp
  unfold aggC
  cases hv : vC x
  · have hr := Lib.hid (show uiOk x kind = false by simp [uiOk, hv])
    have hr2 := Lib.hid (ui_no hr.out)
    have Hv := Lib.hid hv; clear hv
    go_enter Try.func40, Try.ntmps40
    go_wp2_with fail
    refine (specL02Is Hbx.out _ Hv.out).mono ?_
    rintro e w1 ⟨rfl, m, rfl⟩
    go_wp2
    exact bodyPost_ret (v := .tuple #[.int .i64 0, .int .i64 0, .bool false]) (by simp [results, Try.results40, go_sem]) rfl ⟨ret_iib hr2.out.1.symm hr2.out.2.symm hr.out.symm, Below.draws hbx.out _⟩
  · have hvc := vC_iff.1 hv
    have hel := errLen_bd kind
    have Hv := Lib.hid hv
    have Hvc := Lib.hid hvc
    have hCS := Lib.hid (fun W => specSize x.base kind W)
    cases hko : kindOk kind x.base
    · have hr := Lib.hid (show uiOk x kind = false by simp [uiOk, hko])
      have hr2 := Lib.hid (ui_no hr.out)
      have hs0 := sizeK_no hko
      rw [hs0] at hCS
      clear hv hvc hko hs0
      go_enter Try.func40, Try.ntmps40
      go_wp2_with fail
      refine (specL02Is Hbx.out _ Hv.out).mono ?_
      rintro e w1 ⟨rfl, m, rfl⟩
      go_wp2_with fail
      refine (Calls.mono (hCS.out _) ?_)
      rintro e w' ⟨rfl, rfl⟩
      go_wp2
      exact bodyPost_ret (v := .tuple #[.int .i64 0, .int .i64 0, .bool false]) (by simp [results, Try.results40, go_sem]) rfl ⟨ret_iib hr2.out.1.symm hr2.out.2.symm hr.out.symm, Below.draws hbx.out _⟩
    · have hs0 := sizeK_yes hko
      rw [hs0] at hCS
      have hr := Lib.hid (show uiOk x kind = true by simp [uiOk, hv, hko])
      have hr2 := Lib.hid (ui_yes hr.out)
      have hCA := Lib.hid (fun m => specL02In (Hbx.out.draws m) (show B ≤ (w.alloc _).heap.size by rw [alloc_size]; omega) (show w.heap.size < (w.alloc _).heap.size by rw [alloc_size]; omega) Hvc.out hko)
      generalize errLen kind = n at *
      have hb0 : ((n : Int) == 0) = false := by simp only [beq_eq_false_iff_ne]; omega
      clear hv hvc hko hs0
      go_enter Try.func40, Try.ntmps40
      go_wp2_with fail
      refine (specL02Is Hbx.out _ Hv.out).mono ?_
      rintro e w1 ⟨rfl, m, rfl⟩
      go_wp2_with fail
      refine (Calls.mono (hCS.out _) ?_)
      rintro e w' ⟨rfl, rfl⟩
      go_wp2_with fail
      refine (Calls.mono (hCA.out _) ?_)
      rintro e w2 ⟨rfl, hb2⟩
      have Hb2 := Lib.hid (show Below w.heap.size w w2 from (Below.draws hbx.out _).trans (hb2.mono (by show w.heap.size ≤ (w.alloc _).heap.size; rw [alloc_size]; omega))); clear hb2
      go_wp2
      exact bodyPost_ret (v := .tuple #[.int .i64 (badIn x kind : Nat), .int .i64 (allIn' x kind : Nat), .bool true]) (by simp [results, Try.results40, go_sem]) rfl ⟨ret_iib hr2.out.1.symm hr2.out.2.symm hr.out.symm, Hb2.out⟩

set_option maxRecDepth 10000 in
theorem specIsCaught {B : Nat} {v : Value} {x : Chn} {w : World} (h : RdC (· < B) w v x) (hB : B ≤ w.heap.size) (kind : Int) :
    Calls Try.prog 41 #[v, .int .i64 kind] w fun e w' => e = .returned (.bool (caught x kind)) ∧ Below w.heap.size w w' := by
  obtain ⟨u, p, rfl, hu, hp⟩ := h
  obtain ⟨a, c, rfl, h1, h2⟩ := hu.isSlice
  obtain ⟨a', c', rfl, h3, h4⟩ := hp.isSlice
  have hbx := Lib.hid ((Below.refl w.heap.size w).alloc (Nat.le_refl _) (.cells #[.int .i64 x.base, .int .i64 x.states, .int .i64 x.start, .int .i64 x.stop, .slice a x.tables.length c, .slice a' x.places.length c'] 28))
  have Hbx := Lib.hid (BoxC.boxed hu hp hB); clear hu hp
  unfold aggC
  cases hv : vC x
  · have hr := Lib.hid (show caught x kind = false by simp [caught, uiOk, hv])
    have Hv := Lib.hid hv; clear hv
    go_enter Try.func41, Try.ntmps41
    go_wp2_with fail
    refine (specL02Is Hbx.out _ Hv.out).mono ?_
    rintro e w1 ⟨rfl, m, rfl⟩
    go_wp2
    go_ret
    exact ⟨ret_bool hr.out.symm, Below.draws hbx.out _⟩
  · have hvc := vC_iff.1 hv
    have hel := errLen_bd kind
    have Hv := Lib.hid hv
    have Hvc := Lib.hid hvc
    have hCS := Lib.hid (fun W => specSize x.base kind W)
    cases hko : kindOk kind x.base
    · have hr := Lib.hid (show caught x kind = false by simp [caught, uiOk, hko])
      have hs0 := sizeK_no hko
      rw [hs0] at hCS
      clear hv hvc hko hs0
      go_enter Try.func41, Try.ntmps41
      go_wp2_with fail
      refine (specL02Is Hbx.out _ Hv.out).mono ?_
      rintro e w1 ⟨rfl, m, rfl⟩
      go_wp2_with fail
      refine (Calls.mono (hCS.out _) ?_)
      rintro e w' ⟨rfl, rfl⟩
      go_wp2
      go_ret
      exact ⟨ret_bool hr.out.symm, Below.draws hbx.out _⟩
    · have hs0 := sizeK_yes hko
      rw [hs0] at hCS
      have hr := Lib.hid (show caught x kind = decide (badIn x kind = 0) by simp [caught, uiOk, hv, hko])
      have hCA := Lib.hid (fun m => specL02In (Hbx.out.draws m) (show B ≤ (w.alloc _).heap.size by rw [alloc_size]; omega) (show w.heap.size < (w.alloc _).heap.size by rw [alloc_size]; omega) Hvc.out hko)
      generalize errLen kind = n at *
      have hb0 : ((n : Int) == 0) = false := by simp only [beq_eq_false_iff_ne]; omega
      clear hv hvc hko hs0
      go_enter Try.func41, Try.ntmps41
      go_wp2_with fail
      refine (specL02Is Hbx.out _ Hv.out).mono ?_
      rintro e w1 ⟨rfl, m, rfl⟩
      go_wp2_with fail
      refine (Calls.mono (hCS.out _) ?_)
      rintro e w' ⟨rfl, rfl⟩
      go_wp2_with fail
      refine (Calls.mono (hCA.out _) ?_)
      rintro e w2 ⟨rfl, hb2⟩
      have Hb2 := Lib.hid (show Below w.heap.size w w2 from (Below.draws hbx.out _).trans (hb2.mono (by show w.heap.size ≤ (w.alloc _).heap.size; rw [alloc_size]; omega))); clear hb2
      go_wp2
      go_ret
      exact ⟨ret_bool (by rw [hr.out]; by_cases hz : badIn x kind = 0 <;> simp [hz]), Hb2.out⟩

set_option maxRecDepth 10000 in
theorem implUndetectedIn {B : Nat} {v : Value} {x : Chn} {w : World} (h : RdC (· < B) w v x) (hB : B ≤ w.heap.size) (hn : szC x ≤ 1048576) (kind : Int) :
    Calls Try.prog 25 #[v, .int .i64 kind] w fun e w' => e = .returned (.tuple #[.int .i64 (uiZ x kind), .int .i64 (uiA x kind), .bool (uiOk x kind)]) ∧ Below w.heap.size w w' := by
  have Hr := Lib.hid h
  obtain ⟨u, p, rfl, hu, hp⟩ := h
  obtain ⟨a, c, rfl, h1, h2⟩ := hu.isSlice
  obtain ⟨a', c', rfl, h3, h4⟩ := hp.isSlice
  have hbx := Lib.hid ((Below.refl w.heap.size w).alloc (Nat.le_refl _) (.cells #[.int .i64 x.base, .int .i64 x.states, .int .i64 x.start, .int .i64 x.stop, .slice a x.tables.length c, .slice a' x.places.length c'] 28))
  have Hbx := Lib.hid (BoxC.boxed hu hp hB); clear hu hp
  have hsz := Lib.hid (alloc_size w (.cells #[.int .i64 x.base, .int .i64 x.states, .int .i64 x.start, .int .i64 x.stop, .slice a x.tables.length c, .slice a' x.places.length c'] 28))
  have hb1 := Lib.hid (heap_alloc_new w (.cells #[.int .i64 x.base, .int .i64 x.states, .int .i64 x.start, .int .i64 x.stop, .slice a x.tables.length c, .slice a' x.places.length c'] 28))
  unfold aggC
  unfold maxLen at h4
  cases hv : vC x
  · have hr := Lib.hid (show uiOk x kind = false by simp [uiOk, hv])
    have hr2 := Lib.hid (ui_no hr.out)
    have Hv := Lib.hid hv; clear hv
    go_enter Try.func25, Try.ntmps25
    go_wp2_with fail
    refine (implValidChain (Rd.below RdC.ok Hr.out (hbx.out.mono hB)) (by rw [hsz.out]; omega) hn _ Hv.out).mono ?_
    rintro e w1 ⟨rfl, hb⟩
    have Hb := Lib.hid (hbx.out.trans (hb.mono (by rw [hsz.out]; omega))); clear hb
    go_wp2
    exact bodyPost_ret (v := .tuple #[.int .i64 0, .int .i64 0, .bool false]) (by simp [results, Try.results25, go_sem]) rfl ⟨ret_iib hr2.out.1.symm hr2.out.2.symm hr.out.symm, Hb.out⟩
  · have hvc := vC_iff.1 hv
    have hel := errLen_bd kind
    have hnn := hvc.places
    have hnn2 : x.places.length ≤ 1048576 := by omega
    have Hv := Lib.hid hv
    have Hvc := Lib.hid hvc
    cases hko : kindOk kind x.base
    · have hr := Lib.hid (show uiOk x kind = false by simp [uiOk, hko])
      have hr2 := Lib.hid (ui_no hr.out)
      have Hko := Lib.hid hko
      clear hv hvc hko
      go_enter Try.func25, Try.ntmps25
      go_wp2_with fail
      refine (implValidChain (Rd.below RdC.ok Hr.out (hbx.out.mono hB)) (by rw [hsz.out]; omega) hn _ Hv.out).mono ?_
      rintro e w1 ⟨rfl, hb⟩
      have hc0 := heap_cell (hf_heap hb hb1.out) (i := 0) rfl
      have Hb := Lib.hid (hbx.out.trans (hb.mono (by rw [hsz.out]; omega))); clear hb
      go_wp2_with (go_at_call 66; refine (implKindOk _ _ _ Hko.out _).mono ?_; rintro e w' ⟨rfl, rfl⟩)
      exact bodyPost_ret (v := .tuple #[.int .i64 0, .int .i64 0, .bool false]) (by simp [results, Try.results25, go_sem]) rfl ⟨ret_iib hr2.out.1.symm hr2.out.2.symm hr.out.symm, Hb.out⟩
    · have hr := Lib.hid (show uiOk x kind = true by simp [uiOk, hv, hko])
      have hr2 := Lib.hid (ui_yes hr.out)
      have Hko := Lib.hid hko
      have hP : nPl x kind + errLen kind = x.places.length + 1 ∨ nPl x kind = 0 ∧ x.places.length < errLen kind := by unfold nPl; omega
      obtain ⟨NP, hNP⟩ : ∃ k, k = nPl x kind := ⟨_, rfl⟩
      have HNP := Lib.hid hNP
      rw [← hNP] at hP
      have hbd := Lib.hid (fun (p : Nat) (hp : p ≤ NP) => sum_le_at Hvc.out (kind := kind) (p := p) (by rw [← hNP]; exact hp))
      have hLP := Lib.hid (fun W => implLastPlace x.places.length hnn2 kind W)
      clear hv hvc hko hNP
      go_enter Try.func25, Try.ntmps25
      go_wp2_with fail
      refine (implValidChain (Rd.below RdC.ok Hr.out (hbx.out.mono hB)) (by rw [hsz.out]; omega) hn _ Hv.out).mono ?_
      rintro e w1 ⟨rfl, hb⟩
      have hc0 := heap_cell (hf_heap hb hb1.out) (i := 0) rfl
      have g5 := heap_cell (hf_heap hb hb1.out) (i := 5) rfl
      have hs1 : w.heap.size < w1.heap.size := by have := hb.size; rw [hsz.out] at this; omega
      have hB1 := Lib.hid (Hbx.out.keep fun k hk => hb.block k (by rw [hsz.out]; omega))
      have Hb := Lib.hid (hbx.out.trans (hb.mono (by rw [hsz.out]; omega))); clear hb
      have hCA := Lib.hid (fun (p : Nat) (hp : p < NP) w2 (hb : Below w1.heap.size w1 w2) => implUndAt (hB1.out.below hb (by omega) hs1) (by have := hb.size; omega) (by have := hb.size; omega) Hvc.out Hko.out (place := p) (by simp only [Chn.n]; omega))
      have hB0 := Lib.hid (Below.refl w1.heap.size w1)
      obtain ⟨n, hn⟩ : ∃ n : Nat, n = errLen kind := ⟨_, rfl⟩
      rw [← hn] at hP hel hLP
      clear hn
      go_wp2_with (go_at_call 66; refine (implKindOk _ _ _ Hko.out _).mono ?_; rintro e w' ⟨rfl, rfl⟩)
      clear hc0
      go_loopw [7, 8, 9] (fun zv av pv wr => ∃ (p Z A : Nat), p ≤ NP ∧ pv = .int .i64 p ∧ zv = .int .i64 Z ∧ av = .int .i64 A ∧ Hid (Z = sumN p (badAt x kind) ∧ A = sumN p (allAt x kind)) ∧ Hid (Below w1.heap.size w1 wr)) (fun _ _ pv _ => NP - (intOf pv).toNat)
      case atStart => exact ⟨0, 0, 0, Nat.zero_le _, rfl, rfl, rfl, Lib.hid ⟨rfl, rfl⟩, hB0⟩
      case round =>
        clear hB0
        obtain ⟨p, Z, A, hp, rfl, rfl, rfl, hs, hbel⟩ := hrel
        obtain ⟨W2, rfl⟩ : ∃ W2, W2 = wr := ⟨_, rfl⟩
        have e5 : W2.cell? ⟨w.heap.size, 5, none⟩ = some (.slice a' x.places.length c') := (hbel.out.cell (p := ⟨w.heap.size, 5, none⟩) hs1).trans g5
        by_cases hlt : p < NP
        · have hle : (p : Int) ≤ (x.places.length : Int) - (n : Int) := by omega
          have hcl := Lib.hid (hCA.out p hlt W2 hbel.out)
          have hb2 := hbd.out (p + 1) hlt
          rw [sumN_succ, sumN_succ, ← hs.out.1, ← hs.out.2] at hb2
          have hs2 := Lib.hid (show Z + badAt x kind p = sumN (p + 1) (badAt x kind) ∧ A + allAt x kind p = sumN (p + 1) (allAt x kind) by rw [sumN_succ, sumN_succ, ← hs.out.1, ← hs.out.2]; exact ⟨rfl, rfl⟩)
          generalize badAt x kind p = zb at *
          generalize allAt x kind p = za at *
          have v1 : wrap64 ((Z : Int) + (zb : Int)) = ((Z + zb : Nat) : Int) := by rw [Int.natCast_add]; exact IntWalk.wrap64_in _ (by omega)
          have v2 : wrap64 ((A : Int) + (za : Int)) = ((A + za : Nat) : Int) := by rw [Int.natCast_add]; exact IntWalk.wrap64_in _ (by omega)
          have hv1 := Lib.hid v1
          have hv2 := Lib.hid v2
          clear hb2 v1 v2
          go_wp2_with (go_at_call 67; refine (hLP.out _).mono ?_; rintro e w' ⟨rfl, rfl⟩)
          refine (Calls.mono hcl.out ?_)
          rintro e w3 ⟨rfl, hb⟩
          have hbel3 := Lib.hid (hbel.out.trans (hb.mono hbel.out.size)); clear hb
          go_wp2
          go_roundw
          case rel => exact ⟨p + 1, Z + zb, A + za, by omega, by go_num, by rw [hv1.out], by rw [hv2.out], hs2, hbel3⟩
          case measure => simp [intOf]; omega
        · obtain ⟨hpn⟩ : Nonempty (p = NP) := ⟨by omega⟩
          have hle : ¬ (p : Int) ≤ (x.places.length : Int) - (n : Int) := by omega
          have hrr := Lib.hid (show Z = badIn x kind ∧ A = allIn' x kind by rw [hpn, HNP.out] at hs; exact hs.out)
          have hbw := Lib.hid (Hb.out.trans (hbel.out.mono (Nat.le_of_lt hs1)))
          clear hpn hs
          go_wp2_with (go_at_call 67; refine (hLP.out _).mono ?_; rintro e w' ⟨rfl, rfl⟩)
          exact bodyPost_ret (v := .tuple #[.int .i64 (Z : Nat), .int .i64 (A : Nat), .bool true]) (by simp [results, Try.results25, go_sem]) rfl ⟨ret_iib (by rw [hr2.out.1, hrr.out.1]) (by rw [hr2.out.2, hrr.out.2]) hr.out.symm, hbw.out⟩

set_option maxRecDepth 10000 in
theorem implIsCaught {B : Nat} {v : Value} {x : Chn} {w : World} (h : RdC (· < B) w v x) (hB : B ≤ w.heap.size) (hn : szC x ≤ 1048576) (kind : Int) :
    Calls Try.prog 42 #[v, .int .i64 kind] w fun e w' => e = .returned (.bool (caught x kind)) ∧ Below w.heap.size w w' := by
  have Hr := Lib.hid h
  obtain ⟨u, p, rfl, hu, hp⟩ := h
  obtain ⟨a, c, rfl, h1, h2⟩ := hu.isSlice
  obtain ⟨a', c', rfl, h3, h4⟩ := hp.isSlice
  have hbx := Lib.hid ((Below.refl w.heap.size w).alloc (Nat.le_refl _) (.cells #[.int .i64 x.base, .int .i64 x.states, .int .i64 x.start, .int .i64 x.stop, .slice a x.tables.length c, .slice a' x.places.length c'] 28))
  have hsz := Lib.hid (alloc_size w (.cells #[.int .i64 x.base, .int .i64 x.states, .int .i64 x.start, .int .i64 x.stop, .slice a x.tables.length c, .slice a' x.places.length c'] 28))
  clear hu hp
  have hr : Hid (caught x kind = (uiOk x kind && decide (uiZ x kind = 0))) := Lib.hid (by
    unfold caught
    cases hq : uiOk x kind
    · rfl
    · rw [(ui_yes hq).1]
      by_cases hz : badIn x kind = 0 <;> simp [hz])
  unfold aggC at *
  go_enter Try.func42, Try.ntmps42
  go_wp2_with fail
  refine (implUndetectedIn (Rd.below RdC.ok Hr.out (hbx.out.mono hB)) (by rw [hsz.out]; omega) hn kind).mono ?_
  rintro e w1 ⟨rfl, hb⟩
  have Hb := Lib.hid (hbx.out.trans (hb.mono (by rw [hsz.out]; omega))); clear hb
  cases hq : uiOk x kind
  · rw [hq] at hr
    go_wp2
    go_ret
    exact ⟨ret_bool (by rw [hr.out]; rfl), Hb.out⟩
  · rw [hq] at hr
    generalize uiZ x kind = Z at *
    go_wp2
    go_ret
    exact ⟨ret_bool (by rw [hr.out]; by_cases hz : Z = 0 <;> simp [hz]), Hb.out⟩
end Go.Proofs.Ytcjmkiedcmlpcaa
