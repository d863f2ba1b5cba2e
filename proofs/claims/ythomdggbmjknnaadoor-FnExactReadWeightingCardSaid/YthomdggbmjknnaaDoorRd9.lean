/- The law FnExactReadWeighting and its card. Printed by gen_rd9.py. -/
import Derived.Test.YthomdggbmjknnaaDoorRd7
import Derived.Test.YthomdggbmjknnaaDoorRd8
import Derived.Test.YthomdggbmjknnaaDoorS1
import Derived.Deep.DeepCutAuto
import Derived.Deep.RegionWith
namespace Go.Proofs.YthomdggbmjknnaaDoor
open Go.ChangeShapes Go.WideShapes Go.ChangeAt Go.RowKit
open Go.ChangeMaps (open_string shut_string)
set_option linter.unusedVariables false

set_option maxHeartbeats 1600000 in
set_option maxRecDepth 100000 in
theorem specReadWeighting (s : ByteArray) (hs : s.size ≤ 1048576) (w : World) :
    Calls Tryd.prog 26 #[.string s] w fun e w' => ∃ v, e = .returned (.tuple #[v, .bool (rwOk s)]) ∧ Fresh OW w w' v (rwV s) := by
  obtain ⟨W1, hW1⟩ : ∃ W1, W1 = w.alloc (.cells #[.int .i64 0, .int .i64 0, .int .i64 0, .slice none 0 0] 40) := ⟨_, rfl⟩
  have Hz1 := Lib.hid (show W1.heap[w.heap.size]? = some (.cells #[.int .i64 0, .int .i64 0, .int .i64 0, .slice none 0 0] 40 (0, 0)) by rw [hW1]; exact heap_alloc_new w _)
  have Hb1 := Lib.hid (show Below w.heap.size w W1 by rw [hW1]; exact (Below.refl _ _).alloc (Nat.le_refl _) _)
  have HW1 := Lib.hid hW1
  have hsz1 : w.heap.size < W1.heap.size := by rw [hW1]; simp
  have hC := Lib.hid (specL03Read s hs W1)
  clear hW1
  go_enter Tryd.func26, Tryd.ntmps26
  go_wp2_with fail
  rw [← HW1.out]
  refine (Calls.mono hC.out ?_)
  rintro e W6 ⟨v6, rfl, hf6⟩
  obtain ⟨S, ⟨u, rfl, hu⟩, h2, h3⟩ := id hf6
  obtain ⟨a7, n7, c7, rfl⟩ := hu.isSlice
  have hz6 := below_heap h3 Hz1.out
  have z0 := heap_cell hz6 (i := 0) rfl
  have z1 := heap_cell hz6 (i := 1) rfl
  have z2 := heap_cell hz6 (i := 2) rfl
  have z3 := heap_cell hz6 (i := 3) rfl
  have f0 := frozen_at hz6 0
  have f1 := frozen_at hz6 1
  have f2 := frozen_at hz6 2
  have f3 := frozen_at hz6 3
  have Hf := Lib.hid hf6
  clear hf6 hz6 hC h2 h3 hu
  unfold aggW
  go_wp2
  refine bodyPost_ret (v := .tuple #[.agg #[.int .i64 (rwV s).base, .int .i64 (rwV s).modulus, .int .i64 (rwV s).target, .slice a7 n7 c7], .bool (rwOk s)]) (by simp [results, Tryd.results26, go_sem, z0, z1, z2, z3]) rfl ⟨_, rfl, Fresh.turnedAt OW.ok Hf.out Hb1.out (Nat.le_refl _) hsz1 (by repeat' (first | with_reducible exact Only.refl _ _ | with_reducible refine Only.put ?_ ?_ _ _ | (simp; done)))⟩

set_option maxHeartbeats 12800000 in
set_option maxRecDepth 100000 in
theorem lawExactReadWeighting (a0 : ByteArray) (m0 : a0.size ≤ maxLen) (w : World) (hl : LaidM w) :
    Calls Tryd.prog 8 #[.string a0] w fun e w' => e = .returned (.bool true) ∧ Below w.heap.size w w' := by
  have hL := rwV_sz a0
  have n0 := m0; unfold maxLen at n0
  have bel : Below w.heap.size w w := Below.refl _ _
  have Hl := Lib.hid hl
  clear hl
  by_cases x0 : 1048576 < a0.size
  · go_enter Tryd.func8, Tryd.ntmps8
    go_wp2_with fail
    go_ret
    exact ⟨rfl, Below.refl _ _⟩
  have l0 : a0.size ≤ 1048576 := by omega
  go_enter Tryd.func8, Tryd.ntmps8
  go_upto_region 3 with fail
  go_cut [3, 4] (fun s0 s1 wx => ∃ (b : Nat) (lu0 : Value), s0 = .pointer (some ⟨b, 0, none⟩) ∧ s1 = .bool (rwOk a0) ∧ LocW w.heap.size b wx lu0 (rwV a0) ∧ Turn 0 0 w wx)
  case first =>
    go_wp2_with fail
    refine (specReadWeighting a0 l0 _).mono ?_
    rintro e w1 ⟨v_1, rfl, f1⟩
    obtain ⟨i1, t1⟩ := In.of_freshF OW.ok f1; clear f1
    have s1 := t1.size
    replace i1 := i1.widen (lo' := w.heap.size) (hi' := w1.heap.size) (by omega) (Nat.le_refl _)
    obtain ⟨S1, ⟨lu0, rfl, hu⟩, hb⟩ := i1
    have hm := Lib.hid (LocW.made (lo := w.heap.size) (w := w1) (x := rwV a0) ⟨S1, ⟨lu0, rfl, hu⟩, hb⟩ (by omega))
    obtain ⟨k1, k2, k3, rfl⟩ := hu.isSlice
    unfold aggW
    clear hu hb
    go_wp2_with fail
    go_meet
    exact ⟨_, .slice k1 k2 k3, rfl, rfl, hm.out.1, (t1).trans0 hm.out.2⟩
  case rest =>
  obtain ⟨WX2, rfl⟩ : ∃ W, W = wc := ⟨_, rfl⟩
  obtain ⟨b2, lu102, rfl, rfl, X2, t2⟩ := hcut
  have s2 := t2.size
  have bl2 := X2.lt
  have bo2 := X2.2.2
  replace bel := Turn.below bel t2 (by omega) (by omega)
  go_upto_region 4 with fail
  go_cut [5, 6] (fun s0 s1 wx => ∃ (b : Nat) (lu1 : Value), s0 = .pointer (some ⟨b, 0, none⟩) ∧ s1 = .bool (rwOk a0) ∧ LocW WX2.heap.size b wx lu1 (rwV a0) ∧ Turn 0 0 WX2 wx)
  case first =>
    go_wp2_with fail
    refine (implReadWeighting a0 l0 _ (Hl.out.keep bel)).mono ?_
    rintro e w3 ⟨v_3, rfl, f3⟩
    obtain ⟨i3, t3⟩ := In.of_freshF OW.ok f3; clear f3
    have s3 := t3.size
    replace i3 := i3.widen (lo' := WX2.heap.size) (hi' := w3.heap.size) (by omega) (Nat.le_refl _)
    obtain ⟨S3, ⟨lu1, rfl, hu⟩, hb⟩ := i3
    have hm := Lib.hid (LocW.made (lo := WX2.heap.size) (w := w3) (x := rwV a0) ⟨S3, ⟨lu1, rfl, hu⟩, hb⟩ (by omega))
    obtain ⟨k1, k2, k3, rfl⟩ := hu.isSlice
    unfold aggW
    clear hu hb
    go_wp2_with fail
    go_meet
    exact ⟨_, .slice k1 k2 k3, rfl, rfl, hm.out.1, (t3).trans0 hm.out.2⟩
  case rest =>
  obtain ⟨WX4, rfl⟩ : ∃ W, W = wc := ⟨_, rfl⟩
  obtain ⟨b4, lu104, rfl, rfl, X4, t4⟩ := hcut
  have s4 := t4.size
  have bl4 := X4.lt
  have bo4 := X4.2.2
  replace X2 := X2.keep t4 (by omega)
  replace bel := Turn.below bel t4 (by omega) (by omega)
  obtain ⟨X4c0, X4c1, X4c2, X4c3⟩ := X4.cells
  obtain ⟨X2c0, X2c1, X2c2, X2c3⟩ := X2.cells
  go_wp2_with fail
  refine (eqWeighting_t X4.2.1 X2.2.1).mono ?_
  rintro e w5 ⟨rfl, t5⟩
  have s5 := t5.size
  clear X4c0 X4c1 X4c2 X4c3 X2c0 X2c1 X2c2 X2c3
  replace X2 := X2.keep t5 (by omega)
  replace X4 := X4.keep t5 (by omega)
  replace bel := Turn.below bel t5 (by omega) (by omega)
  obtain ⟨X4c0, X4c1, X4c2, X4c3⟩ := X4.cells
  go_wp2_with fail
  refine (markWeighting_t X4.2.1 (by omega) (by omega)).mono ?_
  rintro e w6 ⟨rfl, j6, t6⟩
  have s6 := t6.size
  clear X4c0 X4c1 X4c2 X4c3
  replace X2 := X2.keep t6 (by omega)
  replace bel := Turn.below bel t6 (by omega) (by omega)
  replace X4 := X4.turn t6 j6
  clear j6
  obtain ⟨X4c0, X4c1, X4c2, X4c3⟩ := X4.cells
  go_wp2_with fail
  refine (heldWeighting_t X4.2.1 (by omega) (by omega)).mono ?_
  rintro e w7 ⟨rfl, t7⟩
  have s7 := t7.size
  clear X4c0 X4c1 X4c2 X4c3
  replace X2 := X2.keep t7 (by omega)
  replace X4 := X4.keep t7 (by omega)
  replace bel := Turn.below bel t7 (by omega) (by omega)
  go_upto_region 15 with fail
  go_cut [9, 10] (fun s0 s1 wx => ∃ (b : Nat) (lu2 : Value), s0 = .pointer (some ⟨b, 0, none⟩) ∧ s1 = .bool (rwOk a0) ∧ LocW w7.heap.size b wx lu2 (rwV a0) ∧ Turn 0 0 w7 wx)
  case first =>
    go_wp2_with fail
    refine (implReadWeighting a0 l0 _ (Hl.out.keep bel)).mono ?_
    rintro e w8 ⟨v_8, rfl, f8⟩
    obtain ⟨i8, t8⟩ := In.of_freshF OW.ok f8; clear f8
    have s8 := t8.size
    replace i8 := i8.widen (lo' := w7.heap.size) (hi' := w8.heap.size) (by omega) (Nat.le_refl _)
    obtain ⟨S8, ⟨lu2, rfl, hu⟩, hb⟩ := i8
    have hm := Lib.hid (LocW.made (lo := w7.heap.size) (w := w8) (x := rwV a0) ⟨S8, ⟨lu2, rfl, hu⟩, hb⟩ (by omega))
    obtain ⟨k1, k2, k3, rfl⟩ := hu.isSlice
    unfold aggW
    clear hu hb
    go_wp2_with fail
    go_meet
    exact ⟨_, .slice k1 k2 k3, rfl, rfl, hm.out.1, (t8).trans0 hm.out.2⟩
  case rest =>
  obtain ⟨WX9, rfl⟩ : ∃ W, W = wc := ⟨_, rfl⟩
  obtain ⟨b9, lu109, rfl, rfl, X9, t9⟩ := hcut
  have s9 := t9.size
  have bl9 := X9.lt
  have bo9 := X9.2.2
  replace X2 := X2.keep t9 (by omega)
  replace X4 := X4.keep t9 (by omega)
  replace bel := Turn.below bel t9 (by omega) (by omega)
  obtain ⟨X9c0, X9c1, X9c2, X9c3⟩ := X9.cells
  obtain ⟨X2c0, X2c1, X2c2, X2c3⟩ := X2.cells
  go_wp2_with fail
  refine (eqWeighting_t X9.2.1 X2.2.1).mono ?_
  rintro e w10 ⟨rfl, t10⟩
  have s10 := t10.size
  clear X9c0 X9c1 X9c2 X9c3 X2c0 X2c1 X2c2 X2c3
  replace X2 := X2.keep t10 (by omega)
  replace X4 := X4.keep t10 (by omega)
  replace X9 := X9.keep t10 (by omega)
  replace bel := Turn.below bel t10 (by omega) (by omega)
  obtain ⟨X4c0, X4c1, X4c2, X4c3⟩ := X4.cells
  go_wp2_with fail
  refine (heldWeighting_t X4.2.1 (by omega) (by omega)).mono ?_
  rintro e w11 ⟨rfl, t11⟩
  have s11 := t11.size
  clear X4c0 X4c1 X4c2 X4c3
  replace X2 := X2.keep t11 (by omega)
  replace X4 := X4.keep t11 (by omega)
  replace X9 := X9.keep t11 (by omega)
  replace bel := Turn.below bel t11 (by omega) (by omega)
  go_wp2_with fail
  go_ret
  exact ⟨rfl, bel⟩
namespace lawExactReadWeighting
set_option maxRecDepth 100000 in
theorem lifted (os : Os) (started : os.Started) (H : Type) (enc : TypeId × Value → H) :
    ReturnsInHanded {} Tryd.checked os 8 .any (fun w args => (Rows.fnExactReadWeightingSpec.pre enc Tryd.prog Tryd.f8 [] false w args ∧ laidMetH Tryd.prog laid7 w) ∧ sizedMet enc Tryd.prog Tryd.f8 (OpenSpec.ofChange Rows.fnExactReadWeightingSpec) false w args)
      (Rows.fnExactReadWeightingSpec.post enc Tryd.prog Tryd.f8 false true false false) := by
  refine change_and_shaped (C := Tryd.checked) (X := fun w _ => laidMetH Tryd.prog laid7 w) (fun _ _ _ hh h => h.of_heap hh) own started (by kernel_rfl) Tryd.func8
    (ChangeSpec.witness_shaped (enc := enc) (C := Tryd.checked) (os := os) (X := fun w _ => laidMetH Tryd.prog laid7 w) false (World.laidAll Tryd.prog os laid7) #[.string ⟨#[]⟩] 8 (World.laidAll_os _ _ _) (World.shaped_of_ZipB (by kernel_rfl) (by kernel_rfl)) (by kernel_rfl) (by kernel_rfl) (by kernel_rfl) (lay_met7 os _)) ?_
  intro W base args ds gs before hval0 hW _ _ hL hsh _
  have hval : ∀ (j : Nat) t v, Tryd.f8.params[j]? = some t → args[j]? = some v → Value.okWide Tryd.prog W .any base t v := hval0
  have hW' := hW
  obtain ⟨p, q, hA0, hV, rfl, hfz, hnd⟩ := hW
  have hA : DataW.TrodAll enc Tryd.prog W 0 (fun _ => true) true Tryd.f8.params.toList args.toList ds p := hA0
  rw [Tryd.params8] at hA hval
  obtain ⟨v0, vs0, d0, ds0, p0, q0, hargs, rfl, rfl, h0, r0⟩ := trodAll_cons hA
  obtain ⟨rfl, rfl, rfl⟩ := trodAll_nil r0
  obtain rfl : args = #[v0] := by cases args; simp_all
  obtain ⟨rfl, rfl⟩ := trodVars_none hV
  obtain ⟨a0, rfl, rfl, rfl, w0⟩ := open_string Tryd.underlying9 (hval 0 9 v0 rfl rfl) h0
  clear hA0 hval0
  refine (_root_.Go.Proofs.YthomdggbmjknnaaDoor.lawExactReadWeighting a0 w0 W (laidM_of hL hsh)).mono fun e W' ⟨he, bel⟩ => ?_
  subst he
  exact ⟨_, rfl, _, _, _, [], _, [], hW', trodAll_mk1 (shut_bool Tryd.underlying4 _), (trodAll_cons_mk (shut_string Tryd.underlying9 w0) (trodAll_mk0)), rfl, bel.frame _, fun h => by cases h⟩

theorem row : Rows.FnExactReadWeightingSaid :=
  OpenClaim.holds_of_wide 8 Tryd.f8 rfl rfl rfl rfl rfl rfl rfl ⟨rfl, rfl, rfl, rfl, rfl⟩ rfl rfl rfl rfl rfl (by kernel_rfl) Tryd.func8 (by kernel_rfl)
    (of_decide_eq_true (by kernel_rfl)) (by unfold Func.isWrapper; first | (rw [if_pos (by decide +kernel)]; kernel_rfl) | (rw [if_neg (by decide +kernel)]; exact ⟨rfl, rfl⟩))
    (fun os started H enc _ => lifted os started H enc)

theorem proved : Rows.FnExactReadWeightingCardSaid :=
  Claim7.holds_tied_plain_at .later [] [.data, .data, .data, .data, .sentinel, .sentinel, .pinned] true (true, "8c03c634146d0994b0b7436bef676c7c465e5ee3996bca209c458be8e2a2c391") true
    row (fun _ h => by cases h) (by kernel_rfl) (fun _ h => by cases h) fnExactReadWeighting_row_tie rfl ⟨rfl, rfl⟩ (by kernel_rfl) rfl
    (fun f fn hf hfn => by
      obtain rfl : f = 8 := Option.some.inj ((show Tryd.prog.funcNamed "loop.example/g01130/laws.FnExactReadWeighting" = some 8 by kernel_rfl).symm.trans hf) |>.symm
      obtain rfl : fn = Tryd.f8 := (Option.some.inj (Tryd.func8.symm.trans hfn)).symm
      exact ⟨by kernel_rfl, fun j t ht => by
        rw [Tryd.params8] at ht
        have hm : t ∈ [9] := by simpa using Array.mem_of_getElem? ht
        have hall : ([9].all fun u => !Tryd.prog.wantsStandIn u) = true := by kernel_rfl
        exact (show Tryd.prog.wantsStandIn t = false by simpa using List.all_eq_true.1 hall t hm)⟩)
    (by kernel_rfl)
#print axioms proved
end lawExactReadWeighting
end Go.Proofs.YthomdggbmjknnaaDoor
