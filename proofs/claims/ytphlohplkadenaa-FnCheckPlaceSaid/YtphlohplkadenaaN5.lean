/- PermutingOf: spec. -/
import Derived.Test.YtphlohplkadenaaN4
import Derived.Test.YtphlohplkadenaaJ2
import Derived.Test.YtphlohplkadenaaF3
namespace Go.Proofs.Ytphlohplkadenaa
open Go.RowKit
set_option linter.unusedVariables false

set_option maxHeartbeats 1600000 in
set_option maxRecDepth 10000 in
theorem specPermutingOf {B : Nat} {v : Value} {x : Wgt} {w : World} (h : RdW (· < B) w v x) (hB : B ≤ w.heap.size) (hn : szW x ≤ 1048576) :
    Calls Try.prog 40 #[v] w fun e w' => ∃ v', e = .returned (.tuple #[v', .bool (pofOk x)]) ∧ Fresh OP w w' v' (pofV x) := by
  obtain ⟨u, rfl, hu⟩ := h
  obtain ⟨a, c, rfl, h1, h2⟩ := hu.isSlice
  have Hbx := Lib.hid (BoxW.boxed hu hB)
  have Hu := Lib.hid hu; clear hu
  unfold maxLen at h2
  have H2 := Lib.hid (two w (.cells #[.int .i64 x.base, .int .i64 x.modulus, .int .i64 x.target, .slice a x.weights.length c] 26) (.cells #[.int .i64 0, .int .i64 0, .slice none 0 0] 46))
  have HI : Hid (∀ b, vW x = b → Calls Try.prog 63 #[.pointer (some ⟨w.heap.size, 0, none⟩)] ((w.alloc (.cells #[.int .i64 x.base, .int .i64 x.modulus, .int .i64 x.target, .slice a x.weights.length c] 26)).alloc (.cells #[.int .i64 0, .int .i64 0, .slice none 0 0] 46)) fun e w1 => e = .returned (.bool b) ∧
      w1.heap[w.heap.size]? = some (.cells #[.int .i64 x.base, .int .i64 x.modulus, .int .i64 x.target, .slice a x.weights.length c] 26 (0, 0)) ∧ w1.heap[w.heap.size + 1]? = some (.cells #[.int .i64 0, .int .i64 0, .slice none 0 0] 46 (0, 0)) ∧ w1.heap.size = w.heap.size + 2 ∧ Below w.heap.size w w1) := Lib.hid fun b hb => by
    refine (specL03Is (Hbx.out.keep (w' := _) fun k hk => ?hb) hn _ hb).mono ?_
    case hb => exact (Below.heap_alloc _ _ _ (by simp; omega))
    rintro e w1 ⟨rfl, m, rfl⟩
    exact ⟨rfl, H2.out.1, H2.out.2.1, H2.out.2.2.1, Below.draws H2.out.2.2.2 m⟩
  clear Hbx
  unfold aggW
  cases hv : vW x
  · have ho := Lib.hid (show pofOk x = false by simp [pofOk, hv])
    have hm := Lib.hid (pofV_no ho.out)
    have Hv := Lib.hid hv; clear hv
    go_enter Try.func40, Try.ntmps40
    go_wp2_with fail
    refine (HI.out _ Hv.out).mono ?_
    rintro e w1 ⟨rfl, hb1, hb2, hs1, Hbel⟩
    have d0 := heap_cell hb2 (i := 0) rfl
    have d1 := heap_cell hb2 (i := 1) rfl
    have d2 := heap_cell hb2 (i := 2) rfl
    have f0 := frozen_at hb2 0
    have f1 := frozen_at hb2 1
    have f2 := frozen_at hb2 2
    have Hbel := Lib.hid Hbel
    clear hb1 hb2
    go_wp2
    refine bodyPost_ret (v := .tuple #[aggP Prm.zero (.slice none 0 0), .bool false]) (by simp [results, Try.results40, go_sem, aggP, Prm.zero, d0, d1, d2]) rfl ⟨_, by rw [ho.out], ?_⟩
    rw [hm.out]
    refine ⟨[], ⟨_, rfl, own_nil _⟩, by simp, ?_⟩
    refine Below.trans Hbel.out ?_
    repeat' (first | with_reducible exact Below.refl _ _ | with_reducible refine Below.alloc ?_ ?_ _ | with_reducible refine Below.setCell ?_ ?_ _ | with_reducible refine Below.drew ?_ | with_reducible refine Below.draws ?_ _ | omega | (simp; done) | (simp; omega))
  · have hvw := vW_iff.1 hv
    have hba := hvw.base
    have hln := hvw.len
    have hwt := Lib.hid hvw.weight
    have hmo := hvw.modulus
    have Hv := Lib.hid hv
    obtain ⟨NB, hNB⟩ : ∃ n : Nat, n = x.base.toNat := ⟨_, rfl⟩
    have eb : x.base = (NB : Int) := by omega
    have HNB := Lib.hid hNB
    have Heb := Lib.hid eb
    by_cases hmb : x.modulus = x.base
    · have ho := Lib.hid (show pofOk x = vP (pofW x) by simp [pofOk, hv, hmb])
      have hszp := Lib.hid (szP_pofW x hba.2 hln.2)
      have hmz := Lib.hid hmb
      rw [eb] at hba
      clear hv hvw hNB eb hmb
      go_enter Try.func40, Try.ntmps40
      go_wp2_with fail
      refine (HI.out _ Hv.out).mono ?_
      rintro e w1 ⟨rfl, hb1, hb2, hs1, Hbel⟩
      rw [hmz.out, Heb.out] at hb1
      have hb2 := Lib.hid hb2
      have Hb1 := Lib.hid hb1
      have Hbel := Lib.hid Hbel
      have Hu1 := Lib.hid (RdI.ok.keep Hu.out (w' := w1) fun k hk => Hbel.out.block k (by omega))
      have g0 := heap_cell hb1 (i := 0) rfl
      have g1 := heap_cell hb1 (i := 1) rfl
      have g2 := heap_cell hb1 (i := 2) rfl
      have g3 := heap_cell hb1 (i := 3) rfl
      have hA1 : w.heap.size < w1.heap.size := by omega
      have hBw : B ≤ w1.heap.size := by omega
      have hs1' : w.heap.size + 2 ≤ w1.heap.size := by omega
      clear hb1 hs1
      go_wp2
      have hbp0 := Lib.hid (heap_alloc_new w1 (.cells #[.int .i64 NB, .int .i64 x.target, .slice none 0 0] 46))
      have hbl0 := Lib.hid (show Below w1.heap.size w1 (w1.alloc (.cells #[.int .i64 NB, .int .i64 x.target, .slice none 0 0] 46)) from (Below.refl _ _).alloc (Nat.le_refl _) _)
      have htk0 := Lib.hid (show (x.weights.take 0).map (addsL NB NB) = [] from rfl)
      go_loopw [5] (fun iv wr => ∃ (k : Nat) (ov : Value) (S : List Nat), k ≤ x.weights.length ∧ iv = .int .i64 k ∧ wr.heap[w1.heap.size]? = some (.cells #[.int .i64 NB, .int .i64 x.target, ov] 46 (0, 0)) ∧ OII wr ov ((x.weights.take k).map (addsL NB NB)) S ∧ Hid (∀ j ∈ S, w1.heap.size < j) ∧ Below w1.heap.size w1 wr) (fun iv _ => x.weights.length - (intOf iv).toNat)
      case atStart => exact ⟨0, _, [], Nat.zero_le _, rfl, hbp0.out, own_nil _, Lib.hid (by simp), hbl0.out⟩
      case round =>
        clear hbp0 hbl0 htk0
        obtain ⟨k, ov, S, hk, rfl, hbp, hown, hS, hbel⟩ := hrel
        obtain ⟨W2, rfl⟩ : ∃ W2, W2 = wr := ⟨_, rfl⟩
        have e0 : W2.cell? ⟨w.heap.size, 0, none⟩ = some (.int .i64 NB) := (hbel.cell (p := ⟨w.heap.size, 0, none⟩) hA1).trans g0
        have e3 : W2.cell? ⟨w.heap.size, 3, none⟩ = some (.slice a x.weights.length c) := (hbel.cell (p := ⟨w.heap.size, 3, none⟩) hA1).trans g3
        have hs2 := hbel.size
        have hpb : w1.heap.size < W2.heap.size := heap_lt hbp
        by_cases hlt : k < x.weights.length
        · have hwk := hwt.out k hlt
          rw [hmz.out, Heb.out] at hwk
          have Hu2 := RdI.ok.keep Hu1.out (w' := W2) fun j hj => hbel.block j (by omega)
          obtain ⟨b3, o3, u3, rfl, hP3, hc3, rfl⟩ := Rd.elim Hu2 k hlt
          have hb3 : b3 < B := hP3
          have hc4' : w1.cell? ⟨b3, o3 + k, none⟩ = some (.int .i64 (nth x.weights k)) := (hbel.cell (p := ⟨b3, o3 + k, none⟩) (by show b3 < _; omega)).symm.trans hc3
          have hbel' := hbel
          have hc4 : W2.cell? ⟨b3, o3 + k, none⟩ = some (.int .i64 (nth x.weights k)) := hc3
          obtain ⟨av, nv, cv, rfl⟩ := hown.isSlice
          have e2 := heap_cell hbp (i := 2) rfl
          have hcl : Hid (∀ m, Calls Try.prog 88 #[.int .i64 (nth x.weights k), .int .i64 NB, .int .i64 NB] (W2.drewN m) fun e w' => ∃ g7 c7 S7, e = .returned (.slice (some ⟨g7, 0, none⟩) NB c7) ∧ OI w' (.slice (some ⟨g7, 0, none⟩) NB c7) (addsL NB NB (nth x.weights k)) S7 ∧ (∀ j ∈ S7, W2.heap.size ≤ j) ∧
              w'.heap[w1.heap.size]? = some (.cells #[.int .i64 NB, .int .i64 x.target, .slice av nv cv] 46 (0, 0)) ∧ OII w' (.slice av nv cv) ((x.weights.take k).map (addsL NB NB)) S ∧ Below w1.heap.size w1 w') := Lib.hid fun m => by
            refine (specAdds NB NB (by omega) (by omega) (nth x.weights k) hwk.1 (by omega) (W2.drewN m)).mono ?_
            rintro e w3 ⟨v7, rfl, hf7⟩
            have hwl := addsL_len NB NB (nth x.weights k)
            obtain ⟨g7, c7, rfl⟩ := hf7.shape (by omega)
            rw [hwl] at hf7 ⊢
            obtain ⟨S7, hr7, hS7, hb7⟩ := hf7
            exact ⟨g7, c7, S7, rfl, hr7, hS7, below_heap (W := W2.drewN m) hb7 hbp, OII.ok.keep hown fun j hj => hb7.block j (OII.ok.lt hown j hj), (Below.draws hbel m).trans (hb7.mono hs2)⟩
          have hslt := Lib.hid (OII.ok.lt hown)
          have htk := Lib.hid (show (x.weights.take (k + 1)).map (addsL NB NB) = (x.weights.take k).map (addsL NB NB) ++ [addsL NB NB (nth x.weights k)] by rw [take_nth hlt, List.map_append]; rfl)
          have hln2 := Lib.hid (show ((x.weights.take k).map (addsL NB NB)).length ≤ 20 by simp; omega)
          clear hc3 Hu2 hown hbp hbel hwk
          generalize nth x.weights k = wt at *
          have hsc := Lib.hid (show ∀ w', Below w1.heap.size w1 w' → w'.cell? ⟨w1.heap.size, 2, none⟩ = some (.slice av nv cv) → (w'.cell? ⟨w.heap.size, 0, none⟩ = some (.int .i64 NB) ∧ w'.cell? ⟨w.heap.size, 3, none⟩ = some (.slice (some ⟨b3, o3, none⟩) x.weights.length c) ∧ w'.cell? ⟨b3, o3 + k, none⟩ = some (.int .i64 wt) ∧ w'.cell? ⟨w1.heap.size, 2, none⟩ = some (.slice av nv cv)) from fun w' hb h2 => ⟨(hb.cell (p := ⟨w.heap.size, 0, none⟩) hA1).trans g0, (hb.cell (p := ⟨w.heap.size, 3, none⟩) hA1).trans g3, (hb.cell (p := ⟨b3, o3 + k, none⟩) (by show b3 < _; omega)).trans hc4', h2⟩)
          have Hbel2 := Lib.hid hbel'
          have hS0 := hsc.out W2.drew (Below.draws hbel' 1) e2
          clear hbel' hc4'
          go_wp2
          refine wp_region_float 11 (fun w' => w'.cell? ⟨w.heap.size, 0, none⟩ = some (.int .i64 NB) ∧ w'.cell? ⟨w.heap.size, 3, none⟩ = some (.slice (some ⟨b3, o3, none⟩) x.weights.length c) ∧ w'.cell? ⟨b3, o3 + k, none⟩ = some (.int .i64 wt) ∧ w'.cell? ⟨w1.heap.size, 2, none⟩ = some (.slice av nv cv)) (by kernel_rfl) (by kernel_rfl) hS0 ?_
          clear hS0
          intro hS0
          simp only [List.take_succ_cons, List.take_zero, List.drop_succ_cons, List.drop_zero]
          iterate 11 (refine wpReads_cons _ (by rfl) (by intro w' hSw; (try dsimp only at hSw); go_simp; try (with_reducible rfl)) ?_; try simp only [Act.put, List.setIfInBounds_toArray, List.set_cons_zero, List.set_cons_succ])
          refine wpReads_nil ?_
          refine wpTail_cons fun K hK => ?_
          go_simp
          refine (Calls.mono (hcl.out _) ?_)
          rintro e w3 ⟨g7, c7, S7, rfl, hr7, hS7, hbp3, hown3, hbel3⟩
          have e2' := heap_cell hbp3 (i := 2) rfl
          have hdis := Lib.hid (show ∀ j ∈ S7, j ∉ S from fun j hj hm => by have := hslt.out j hm; have := hS7 j hj; omega)
          have hlr := Lib.hid (show ∀ j ∈ S7, w1.heap.size < j from fun j hj => by have := hS7 j hj; omega)
          have hs3 := hbel3.size
          have hl3 := heap_lt hbp3
          have e2'' : (w3.alloc (.cells #[.slice (some ⟨g7, 0, none⟩) NB c7] 24)).cell? ⟨w1.heap.size, 2, none⟩ = some (.slice av nv cv) := (World.cell?_alloc_past _ _ _ hl3).trans e2'
          have Hr7 := Lib.hid hr7
          have Hown3 := Lib.hid hown3
          have Hbp3 := Lib.hid hbp3
          have Hbel3 := Lib.hid hbel3
          clear hr7 hS7 hbp3 hown3 hbel3
          refine hK.out _ _ (hsc.out _ Hbel3.out e2') ?_
          clear hK K hS0
          try simp only [Act.put, List.setIfInBounds_toArray, List.set_cons_zero, List.set_cons_succ]
          refine wpTail_cons fun K hK => ?_
          go_simp
          refine hK.out _ _ (hsc.out _ (Below.alloc Hbel3.out hs3 _) e2'') ?_
          clear hK K
          try simp only [Act.put, List.setIfInBounds_toArray, List.set_cons_zero, List.set_cons_succ]
          refine wpTail_cons fun K hK => ?_
          refine step_push rfl _ _ 41 rfl OI.ok Try.underlying41 infoSl' rfl w3 Hown3.out (addsL NB NB wt) S7 Hr7.out hdis.out (by have := hln2.out; omega) (by have := hln2.out; unfold maxLen; omega) rfl rfl rfl ?_
          intro v1 w5 S1 hown1 honly1 hS1
          obtain ⟨a1, n1, c1, rfl⟩ := hown1.isSlice
          have hbp5 := Only.heap honly1 Hbp3.out (fun hm => by have := hS.out _ hm; omega)
          have f5 := frozen_at hbp5 2
          have e5 := heap_cell hbp5 (i := 2) rfl
          have Hbel5 := Lib.hid (below_only Hbel3.out honly1 (by omega) fun j hj => by have := hS.out j hj; omega)
          have Hbp5 := Lib.hid hbp5
          have Hon := Lib.hid hown1
          have HS1 := Lib.hid hS1
          clear hown1 honly1 hS1 hbp5
          refine hK.out _ _ (hsc.out _ Hbel5.out e5) ?_
          clear hK K
          try simp only [Act.put, List.setIfInBounds_toArray, List.set_cons_zero, List.set_cons_succ]
          refine wpTail_cons fun K hK => ?_
          go_simp
          refine hK.out _ _ (hsc.out _ Hbel5.out e5) ?_
          clear hK K
          try simp only [Act.put, List.setIfInBounds_toArray, List.set_cons_zero, List.set_cons_succ]
          refine wpTail_one ?_
          go_wp2_with fail
          refine NoPanic.normal ?_
          go_wp2
          all_goals go_roundw
          all_goals first
          | (show x.weights.length - ((k : Int) + 1).toNat < x.weights.length - (k : Int).toNat; omega)
          | skip
          all_goals
            have hS1' : ∀ j ∈ S1, w1.heap.size < j := fun j hj => by
              rcases HS1.out j hj with h | h | h
              · exact hS.out j h
              · exact hlr.out j h
              · have := heap_lt Hbp3.out; omega
            refine ⟨k + 1, .slice a1 n1 c1, S1, by omega, by go_num, heap_setCell_same _ _ 2 _ _ _ Hbp5.out, ?_, Lib.hid hS1', ?_⟩
            · rw [htk.out]
              exact OII.ok.keep Hon.out fun i hi => keep_set (by have := hS1' i hi; show i ≠ w1.heap.size; omega)
            · refine Below.setCell ?_ (by show _ ≤ w1.heap.size; omega) _
              exact Hbel5.out
        · obtain ⟨hkn⟩ : Nonempty (k = x.weights.length) := ⟨by omega⟩
          have hoW : OII W2 ov (pofW x).orders S := by
            rw [hkn, List.take_length] at hown
            show OII W2 ov (x.weights.map (addsL x.base.toNat x.base.toNat)) S
            rw [← HNB.out]; exact hown
          clear hkn hown
          have hb2' := below_heap hbel hb2.out
          obtain ⟨av, nv, cv, rfl⟩ := hoW.isSlice
          have c0 := heap_cell hbp (i := 0) rfl
          have c1 := heap_cell hbp (i := 1) rfl
          have c2 := heap_cell hbp (i := 2) rfl
          have d0 := heap_cell hb2' (i := 0) rfl
          have d1 := heap_cell hb2' (i := 1) rfl
          have d2 := heap_cell hb2' (i := 2) rfl
          have f0 := frozen_at hb2' 0
          have f1 := frozen_at hb2' 1
          have f2 := frozen_at hb2' 2
          have hbxp : BoxP (· < W2.heap.size) W2 w1.heap.size (pofW x) := ⟨_, by rw [show (pofW x).base = (NB : Int) from Heb.out]; exact hbp, OII.leads.to _ _ _ _ _ hoW (OII.ok.lt hoW)⟩
          have hVP := Lib.hid (specL03Permuting hbxp (by have := hszp.out; omega) _ rfl)
          have HoW := Lib.hid hoW
          have hslt := Lib.hid (OII.ok.lt hoW)
          have hbl5 := Lib.hid (Hbel.out.trans (hbel.mono (by omega)))
          clear hoW hb2' hbp hbel e0 hbxp
          go_wp2_with fail
          refine (Calls.mono hVP.out ?_)
          rintro e w5 ⟨rfl, m, rfl⟩
          cases hq : vP (pofW x)
          · have hm := Lib.hid (pofV_no (x := x) (by rw [ho.out]; exact hq))
            rw [hq] at ho
            clear hq
            go_wp2
            refine bodyPost_ret (v := .tuple #[aggP Prm.zero (.slice none 0 0), .bool false]) (by simp [results, Try.results40, go_sem, aggP, Prm.zero, d0, d1, d2]) rfl ⟨_, by rw [ho.out], ?_⟩
            rw [hm.out]
            refine ⟨[], ⟨_, rfl, own_nil _⟩, by simp, ?_⟩
            refine Below.trans (Below.draws hbl5.out m) ?_
            repeat' (first | with_reducible exact Below.refl _ _ | with_reducible refine Below.alloc ?_ ?_ _ | with_reducible refine Below.setCell ?_ ?_ _ | with_reducible refine Below.drew ?_ | with_reducible refine Below.draws ?_ _ | omega | (simp; done) | (simp; omega))
          · have hm := Lib.hid (pofV_yes (x := x) (by rw [ho.out]; exact hq))
            rw [hq] at ho
            clear hq
            go_wp2
            refine bodyPost_ret (v := .tuple #[aggP (pofW x) (.slice av nv cv), .bool true]) (by simp [results, Try.results40, go_sem, aggP, pofW, Heb.out, d0, d1, d2]) rfl ⟨_, by rw [ho.out], ?_⟩
            rw [hm.out]
            refine ⟨S, ⟨_, rfl, OII.ok.keep HoW.out fun i hi => ?_⟩, fun i hi => by have := hS.out i hi; omega, ?_⟩
            · exact Only.block (S := [w.heap.size + 1]) (w := W2.drewN m) (by repeat' (first | with_reducible exact Only.refl _ _ | with_reducible refine Only.put ?_ ?_ _ _ | (simp; done))) i (hslt.out i hi) (by have := hS.out i hi; simp; omega)
            · refine Below.trans (Below.draws hbl5.out m) ?_
              repeat' (first | with_reducible exact Below.refl _ _ | with_reducible refine Below.alloc ?_ ?_ _ | with_reducible refine Below.setCell ?_ ?_ _ | with_reducible refine Below.drew ?_ | with_reducible refine Below.draws ?_ _ | omega | (simp; done) | (simp; omega))
    · have ho := Lib.hid (show pofOk x = false by simp [pofOk, hmb])
      have hm := Lib.hid (pofV_no ho.out)
      have hmB : (x.modulus != x.base) = true := by simp [hmb]
      clear hv hvw hNB eb hmb
      go_enter Try.func40, Try.ntmps40
      go_wp2_with fail
      refine (HI.out _ Hv.out).mono ?_
      rintro e w1 ⟨rfl, hb1, hb2, hs1, Hbel⟩
      have g0 := heap_cell hb1 (i := 0) rfl
      have g1 := heap_cell hb1 (i := 1) rfl
      have d0 := heap_cell hb2 (i := 0) rfl
      have d1 := heap_cell hb2 (i := 1) rfl
      have d2 := heap_cell hb2 (i := 2) rfl
      have f0 := frozen_at hb2 0
      have f1 := frozen_at hb2 1
      have f2 := frozen_at hb2 2
      have Hbel := Lib.hid Hbel
      clear hb2 hb1
      go_wp2
      refine bodyPost_ret (v := .tuple #[aggP Prm.zero (.slice none 0 0), .bool false]) (by simp [results, Try.results40, go_sem, aggP, Prm.zero, d0, d1, d2]) rfl ⟨_, by rw [ho.out], ?_⟩
      rw [hm.out]
      refine ⟨[], ⟨_, rfl, own_nil _⟩, by simp, ?_⟩
      refine Below.trans Hbel.out ?_
      repeat' (first | with_reducible exact Below.refl _ _ | with_reducible refine Below.alloc ?_ ?_ _ | with_reducible refine Below.setCell ?_ ?_ _ | with_reducible refine Below.drew ?_ | with_reducible refine Below.draws ?_ _ | omega | (simp; done) | (simp; omega))
theorem pofV_cnt (x : Wgt) : cntP (pofV x) ≤ 2000 := by
  unfold pofV
  split
  · next h =>
    have hv := vW_iff.1 (show vW x = true by simp only [pofOk, Bool.and_eq_true] at h; exact h.1)
    exact Nat.le_trans (cnt_le_szP _) (szP_pofW x hv.base.2 hv.len.2)
  · decide
end Go.Proofs.Ytphlohplkadenaa
