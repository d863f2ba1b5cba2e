/- The law FnExactReadList and its card 'Rows.FnExactReadListCardSaid'. Printed by gen_rd7.py. -/
import Derived.Test.YthomdggbmjknnaaDoorRd6
import Derived.Test.YthomdggbmjknnaaDoorRd4
import Derived.Test.YthomdggbmjknnaaDoorH1
import Derived.Lay
import Derived.HandedShaped
namespace Go.Proofs.YthomdggbmjknnaaDoor
open Go.ChangeShapes Go.WideShapes Go.ChangeAt Go.RowKit
open Go.ChangeMaps (open_string shut_string)
set_option linter.unusedVariables false

set_option maxHeartbeats 1600000 in
set_option maxRecDepth 100000 in
theorem lawExactReadList (a0 : ByteArray) (m0 : a0.size ≤ maxLen) (w : World) (hl : LaidM w) :
    Calls Tryd.prog 6 #[.string a0] w fun e w' => e = .returned (.bool true) ∧ Below w.heap.size w w' := by
  have hL := rlV_len a0
  have Hl := Lib.hid hl
  clear hl
  have n0 := m0; unfold maxLen at n0
  have bel : Below w.heap.size w w := Below.refl _ _
  by_cases x0 : 1048576 < a0.size
  · go_enter Tryd.func6, Tryd.ntmps6
    go_wp2_with fail
    go_ret
    exact ⟨rfl, Below.refl _ _⟩
  have l0 : a0.size ≤ 1048576 := by omega
  go_enter Tryd.func6, Tryd.ntmps6
  go_wp2_with fail
  refine (specReadList a0 l0 _).mono ?_
  rintro e w1 ⟨v_1, rfl, f1⟩
  obtain ⟨i1, t1⟩ := In.of_fresh OI.ok f1; clear f1
  have s1 := t1.size
  replace bel := Turn.below bel t1 (by omega) (by omega)
  go_wp2_with fail
  refine (implReadList a0 l0 _ (Hl.out.keep bel)).mono ?_
  rintro e w2 ⟨v_2, rfl, f2⟩
  obtain ⟨i2, t2⟩ := In.of_fresh OI.ok f2; clear f2
  have s2 := t2.size
  replace i1 := i1.keep OI.ok t2 (by omega)
  replace bel := Turn.below bel t2 (by omega) (by omega)
  go_wp2_with fail
  refine (eqInt64S_t i2 i1).mono ?_
  rintro e w3 ⟨rfl, t3⟩
  have s3 := t3.size
  replace i1 := i1.keep OI.ok t3 (by omega)
  replace i2 := i2.keep OI.ok t3 (by omega)
  replace bel := Turn.below bel t3 (by omega) (by omega)
  go_wp2_with fail
  refine (markInt64S_t i2 (by omega) (by omega)).mono ?_
  rintro e w4 ⟨rfl, j4, t4⟩
  have s4 := t4.size
  replace i1 := i1.keep OI.ok t4 (by omega)
  replace bel := Turn.below bel t4 (by omega) (by omega)
  replace i2 := j4; clear j4
  go_wp2_with fail
  refine (heldInt64S_t i2 (by omega) (by omega)).mono ?_
  rintro e w5 ⟨rfl, t5⟩
  have s5 := t5.size
  replace i1 := i1.keep OI.ok t5 (by omega)
  replace i2 := i2.keep OI.ok t5 (by omega)
  replace bel := Turn.below bel t5 (by omega) (by omega)
  go_wp2_with fail
  refine (implReadList a0 l0 _ (Hl.out.keep bel)).mono ?_
  rintro e w6 ⟨v_6, rfl, f6⟩
  obtain ⟨i6, t6⟩ := In.of_fresh OI.ok f6; clear f6
  have s6 := t6.size
  replace i1 := i1.keep OI.ok t6 (by omega)
  replace i2 := i2.keep OI.ok t6 (by omega)
  replace bel := Turn.below bel t6 (by omega) (by omega)
  go_wp2_with fail
  refine (eqInt64S_t i6 i1).mono ?_
  rintro e w7 ⟨rfl, t7⟩
  have s7 := t7.size
  replace i1 := i1.keep OI.ok t7 (by omega)
  replace i2 := i2.keep OI.ok t7 (by omega)
  replace i6 := i6.keep OI.ok t7 (by omega)
  replace bel := Turn.below bel t7 (by omega) (by omega)
  go_wp2_with fail
  refine (heldInt64S_t i2 (by omega) (by omega)).mono ?_
  rintro e w8 ⟨rfl, t8⟩
  have s8 := t8.size
  replace i1 := i1.keep OI.ok t8 (by omega)
  replace i2 := i2.keep OI.ok t8 (by omega)
  replace i6 := i6.keep OI.ok t8 (by omega)
  replace bel := Turn.below bel t8 (by omega) (by omega)
  go_wp2_with fail
  go_ret
  exact ⟨rfl, bel⟩

/-- As the kit's wrap over a list of laid variables, the world's shape kept. -/
theorem change_and_shaped {H : Type} {enc : TypeId × Value → H} {a : Assume} {C : Checked} {os : Os} {f : FuncId} {fn : Func} {s : ChangeSpec} {conds : List PathCond} {apart fresh handsOn again : Bool} {X : World → Array Value → Prop}
    (hX : ∀ (w w' : World) (args : Array Value), w.heap = w'.heap → X w args → X w' args)
    (own : ownKnob C.prog.godebug = none) (started : os.Started) (noInit : C.prog.inits.idxOf? f = none) (hfn : C.prog.funcs[f]? = some fn)
    (witness : ∃ (w : World) (tape : Tape) (i : Input), w.os = os ∧ (w.forCall tape i).Shaped C.prog ∧ i.vars = [] ∧ Input.okWide C.prog (w.forCall tape i) .any w.heap.size f i ∧
      ((s.pre enc C.prog fn conds apart (w.forCall tape i).memory i.args ∧ X (w.forCall tape i).memory i.args) ∧ sizedMet enc C.prog fn (OpenSpec.ofChange s) apart (w.forCall tape i).memory i.args) ∧ a.holds C.prog (lone (Frame.enter C.prog f i.args .normal) [] (w.forCall tape i)))
    (contract : ∀ (W : World) (base : Nat) (args : Array Value) (ds gs : List (DataW H)) (before : List MemPlace),
      (∀ (j : Nat) t v, fn.params[j]? = some t → args[j]? = some v → Value.okWide C.prog W .any base t v) →
      DataW.Whole enc C.prog fn.params.toList s.vars apart W args.toList ds gs before →
      conds.all (PathCond.test C.prog ⟨fn.params.toList, ds, s.plain.varTypes C.prog, gs⟩) = true →
      (DataW.weightsEach C.prog (fn.params.toList ++ s.plain.varTypes C.prog) (ds ++ gs)).all (· ≤ reachBytes) = true → X W args → W.ShapedOpen C.prog →
      a.holds C.prog (lone (Frame.enter C.prog f args .normal) [] W) →
      Calls C.prog f args W fun e W' => ∃ v, e = .returned v ∧ s.post enc C.prog fn apart fresh handsOn again W args v W') :
    ReturnsInHanded a C os f .any (fun w args => (s.pre enc C.prog fn conds apart w args ∧ X w args) ∧ sizedMet enc C.prog fn (OpenSpec.ofChange s) apart w args) (s.post enc C.prog fn apart fresh handsOn again) := by
  refine returnsInHanded_of_calls own started noInit witness ?_
  intro w tape i _ hsh _ hok hpre hholds
  obtain ⟨_, _, _, fn', hfn', _, _, _, _, hval⟩ := hok
  have e : fn' = fn := Option.some.inj (hfn'.symm.trans hfn)
  subst e
  obtain ⟨⟨⟨ds, gs, before, hw, hc⟩, hx⟩, hz⟩ := hpre
  have hw' := DataW.Whole.of_heap (w' := w.forCall tape i) (by rfl) hw
  refine (contract (w.forCall tape i) w.heap.size i.args ds gs before hval hw' hc (hz.weights hw) (hX _ _ _ (by rfl) hx) hsh hholds).mono fun e W' ⟨v, he, hp⟩ => ?_
  subst he
  exact ChangeSpec.post_blind hp

abbrev laid7 : List (String × DataW Unit) := [("math/bits.deBruijn32tab", Rows.laid_math_bits_deBruijn32tab), ("math/bits.deBruijn64tab", Rows.laid_math_bits_deBruijn64tab), ("internal/strconv.uint64pow10", Rows.laid_internal_strconv_uint64pow10), ("unicode/utf8.acceptRanges", Rows.laid_unicode_utf8_acceptRanges), ("strconv.ErrRange", Rows.laid_strconv_ErrRange), ("strconv.ErrSyntax", Rows.laid_strconv_ErrSyntax), ("unicode/utf8.first", Rows.laid_unicode_utf8_first)]
theorem laidM_of {W : World} (h : laidMetH Tryd.prog laid7 W) (hsh : W.ShapedOpen Tryd.prog) : LaidM W := by
  rw [MakeChecks.laidMetH_plain _ _ _ (by kernel_rfl)] at h
  have h3 := h.tail.tail
  exact ⟨laidV_at h3 h3.tail.tail, laysM146.s1_3 W hsh⟩
theorem lay_met7 (os : Os) (args : Array Value) : laidMetH Tryd.prog laid7 ((World.laidAll Tryd.prog os laid7).forCall (fun _ _ => 0) ⟨#[], args, []⟩).memory := by
  rw [MakeChecks.laidMetH_plain _ _ _ (by kernel_rfl)]
  exact laidMet_laidAll _ (by kernel_rfl) (by kernel_rfl)

namespace lawExactReadList
set_option maxRecDepth 100000 in
theorem lifted (os : Os) (started : os.Started) (H : Type) (enc : TypeId × Value → H) :
    ReturnsInHanded {} Tryd.checked os 6 .any (fun w args => (Rows.fnExactReadListSpec.pre enc Tryd.prog Tryd.f6 [] false w args ∧ laidMetH Tryd.prog laid7 w) ∧ sizedMet enc Tryd.prog Tryd.f6 (OpenSpec.ofChange Rows.fnExactReadListSpec) false w args)
      (Rows.fnExactReadListSpec.post enc Tryd.prog Tryd.f6 false true false false) := by
  refine change_and_shaped (C := Tryd.checked) (X := fun w _ => laidMetH Tryd.prog laid7 w) (fun _ _ _ hh h => h.of_heap hh) own started (by kernel_rfl) Tryd.func6
    (ChangeSpec.witness_shaped (enc := enc) (C := Tryd.checked) (os := os) (X := fun w _ => laidMetH Tryd.prog laid7 w) false (World.laidAll Tryd.prog os laid7) #[.string ⟨#[]⟩] 8 (World.laidAll_os _ _ _) (World.shaped_of_ZipB (by kernel_rfl) (by kernel_rfl)) (by kernel_rfl) (by kernel_rfl) (by kernel_rfl) (lay_met7 os _)) ?_
  intro W base args ds gs before hval0 hW _ _ hL hsh _
  have hval : ∀ (j : Nat) t v, Tryd.f6.params[j]? = some t → args[j]? = some v → Value.okWide Tryd.prog W .any base t v := hval0
  have hW' := hW
  obtain ⟨p, q, hA0, hV, rfl, hfz, hnd⟩ := hW
  have hA : DataW.TrodAll enc Tryd.prog W 0 (fun _ => true) true Tryd.f6.params.toList args.toList ds p := hA0
  rw [Tryd.params6] at hA hval
  obtain ⟨v0, vs0, d0, ds0, p0, q0, hargs, rfl, rfl, h0, r0⟩ := trodAll_cons hA
  obtain ⟨rfl, rfl, rfl⟩ := trodAll_nil r0
  obtain rfl : args = #[v0] := by cases args; simp_all
  obtain ⟨rfl, rfl⟩ := trodVars_none hV
  obtain ⟨a0, rfl, rfl, rfl, w0⟩ := open_string Tryd.underlying9 (hval 0 9 v0 rfl rfl) h0
  clear hA0 hval0
  refine (_root_.Go.Proofs.YthomdggbmjknnaaDoor.lawExactReadList a0 w0 W (laidM_of hL hsh)).mono fun e W' ⟨he, bel⟩ => ?_
  subst he
  exact ⟨_, rfl, _, _, _, [], _, [], hW', trodAll_mk1 (shut_bool Tryd.underlying4 _), (trodAll_cons_mk (shut_string Tryd.underlying9 w0) (trodAll_mk0)), rfl, bel.frame _, fun h => by cases h⟩

theorem row : Rows.FnExactReadListSaid :=
  OpenClaim.holds_of_wide 6 Tryd.f6 rfl rfl rfl rfl rfl rfl rfl ⟨rfl, rfl, rfl, rfl, rfl⟩ rfl rfl rfl rfl rfl (by kernel_rfl) Tryd.func6 (by kernel_rfl)
    (of_decide_eq_true (by kernel_rfl)) (by unfold Func.isWrapper; first | (rw [if_pos (by decide +kernel)]; kernel_rfl) | (rw [if_neg (by decide +kernel)]; exact ⟨rfl, rfl⟩))
    (fun os started H enc _ => lifted os started H enc)

theorem proved : Rows.FnExactReadListCardSaid :=
  Claim7.holds_tied_plain_at .later [] [.data, .data, .data, .data, .sentinel, .sentinel, .pinned] true (true, "8c03c634146d0994b0b7436bef676c7c465e5ee3996bca209c458be8e2a2c391") true
    row (fun _ h => by cases h) (by kernel_rfl) (fun _ h => by cases h) fnExactReadList_row_tie rfl ⟨rfl, rfl⟩ (by kernel_rfl) rfl
    (fun f fn hf hfn => by
      obtain rfl : f = 6 := Option.some.inj ((show Tryd.prog.funcNamed "loop.example/g01130/laws.FnExactReadList" = some 6 by kernel_rfl).symm.trans hf) |>.symm
      obtain rfl : fn = Tryd.f6 := (Option.some.inj (Tryd.func6.symm.trans hfn)).symm
      exact ⟨by kernel_rfl, fun j t ht => by
        rw [Tryd.params6] at ht
        have hm : t ∈ [9] := by simpa using Array.mem_of_getElem? ht
        have hall : ([9].all fun u => !Tryd.prog.wantsStandIn u) = true := by kernel_rfl
        exact (show Tryd.prog.wantsStandIn t = false by simpa using List.all_eq_true.1 hall t hm)⟩)
    (by kernel_rfl)
#print axioms proved
end lawExactReadList
end Go.Proofs.YthomdggbmjknnaaDoor
