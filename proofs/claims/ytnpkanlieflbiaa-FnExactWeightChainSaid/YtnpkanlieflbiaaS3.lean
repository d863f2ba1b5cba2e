/- The laws' small functions over chains. -/
import Derived.Test.YtnpkanlieflbiaaS1
namespace Go.Proofs.Ytnpkanlieflbiaa
open Go.RowKit
set_option linter.unusedVariables false

set_option maxHeartbeats 800000 in
theorem toChain_t {B : Nat} {v : Value} {x : Chn} {w : World} (h : RdC (· < B) w v x) (hB : B ≤ w.heap.size) (hn : szC x ≤ 1048576) :
    Calls Try.prog 49 #[v] w fun e w' => ∃ v', e = .returned v' ∧ In OC w.heap.size w'.heap.size w' v' x ∧ Turn 0 0 w w' := by
  obtain ⟨u, p, rfl, hu, hp⟩ := h
  obtain ⟨a, c, rfl, h1, h2⟩ := hu.isSlice
  obtain ⟨a', c', rfl, h3, h4⟩ := hp.isSlice
  unfold maxLen at h2 h4
  have hn1 : szL (szL List.length) x.tables ≤ 1048576 := by unfold szC at hn; omega
  have hn2 : x.places.length ≤ 1048576 := by unfold szC at hn; omega
  have Hu := Lib.hid hu; clear hu
  have Hp := Lib.hid hp; clear hp
  unfold aggC
  go_enter Try.func49, Try.ntmps49
  go_wp2_with fail
  refine (toInt64SSSx (Rd.below RdIII.ok Hu.out (Below.mono (B := w.heap.size) (by repeat' (first | with_reducible exact Below.refl _ _ | with_reducible refine Below.alloc ?_ ?_ _ | with_reducible refine Below.setCell ?_ ?_ _ | with_reducible refine Below.drew ?_ | with_reducible refine Below.draws ?_ _ | omega | (simp; done) | (simp; omega))) hB)) (fun k hk => by simp; omega) hn1).mono ?_
  rintro e w1 ⟨v1, rfl, hf⟩
  obtain ⟨S, hS, hS2, hb⟩ := hf
  obtain ⟨av, nv, cv, rfl⟩ := hS.isSlice
  have HS := Lib.hid hS; clear hS
  have hsz := hb.size
  simp at hsz
  have HS2 := Lib.hid (show ∀ k ∈ S, w.heap.size + 1 + 1 < k from fun k hk => by have := hS2 k hk; simp at this; omega)
  clear hS2
  obtain ⟨hc, hz⟩ := bcell hb
  have hbel1 := Lib.hid (show Below w.heap.size w w1 from Below.trans (by repeat' (first | with_reducible exact Below.refl _ _ | with_reducible refine Below.alloc ?_ ?_ _ | with_reducible refine Below.setCell ?_ ?_ _ | with_reducible refine Below.drew ?_ | with_reducible refine Below.draws ?_ _ | omega | (simp; done) | (simp; omega))) (hb.mono (by first | omega | (simp; done) | (simp; omega))))
  clear hb
  go_wp2_with fail
  refine (toInt64Sx (Rd.below RdI.ok Hp.out (Below.mono (B := w.heap.size) (Below.trans hbel1.out (by repeat' (first | with_reducible exact Below.refl _ _ | with_reducible refine Below.alloc ?_ ?_ _ | with_reducible refine Below.setCell ?_ ?_ _ | with_reducible refine Below.drew ?_ | with_reducible refine Below.draws ?_ _ | omega | (simp; done) | (simp; omega)))) hB)) (fun k hk => by simp; omega) hn2).mono ?_
  rintro e w2 ⟨v2, rfl, hf⟩
  obtain ⟨T, hT, hT2, hb⟩ := hf
  obtain ⟨av', nv', cv', rfl⟩ := hT.isSlice
  have HT := Lib.hid hT; clear hT
  have hsz2 := hb.size
  simp at hsz2
  have HT2 := Lib.hid (show ∀ k ∈ T, w1.heap.size ≤ k from fun k hk => by have := hT2 k hk; simp at this; omega)
  clear hT2
  have ha1 : w.heap.size + 1 + 1 < w1.heap.size := by omega
  have ha2 : w.heap.size + 1 < w1.heap.size := by omega
  have ha3 : w.heap.size < w1.heap.size := by omega
  obtain ⟨hc2, hz2⟩ := bcell hb
  have hbel2 := Lib.hid (show Below w.heap.size w w2 from Below.trans hbel1.out (Below.trans (by repeat' (first | with_reducible exact Below.refl _ _ | with_reducible refine Below.alloc ?_ ?_ _ | with_reducible refine Below.setCell ?_ ?_ _ | with_reducible refine Below.drew ?_ | with_reducible refine Below.draws ?_ _ | omega | (simp; done) | (simp; omega))) (hb.mono (by first | omega | (simp; done) | (simp; omega)))))
  have hSk := Lib.hid (show OIII w2 (.slice av nv cv) x.tables S from OIII.ok.keep HS.out fun k hk => (hb.block k (by have := OIII.ok.lt HS.out k hk; simp; omega)).trans
    (Only.block (S := [w.heap.size + 1 + 1]) (by repeat' (first | with_reducible exact Only.refl _ _ | with_reducible refine Only.put ?_ ?_ _ _ | (simp; done))) k (OIII.ok.lt HS.out k hk) (by have := HS2.out k hk; simp; omega)))
  have hSlt := Lib.hid (OIII.ok.lt HS.out)
  clear hb
  go_wp2
  refine bodyPost_ret (v := aggC x (.slice av nv cv) (.slice av' nv' cv')) (by simp [results, Try.results49, go_sem, aggC, hc2, hc, ha2]) rfl ⟨_, rfl, ⟨S ++ T, ⟨_, _, S, T, rfl, OIII.ok.keep hSk.out fun k hk => ?_, OI.ok.keep HT.out fun k hk => ?_, rfl, fun k hk hm => ?_⟩, fun k hk => ?_⟩, Turn.of_below ?_⟩
  · exact Only.block (S := [w.heap.size + 1, w.heap.size + 1 + 1]) (by repeat' (first | with_reducible exact Only.refl _ _ | with_reducible refine Only.put ?_ ?_ _ _ | (simp; done))) k (OIII.ok.lt hSk.out k hk) (by have := HS2.out k hk; simp; omega)
  · exact Only.block (S := [w.heap.size + 1, w.heap.size + 1 + 1]) (by repeat' (first | with_reducible exact Only.refl _ _ | with_reducible refine Only.put ?_ ?_ _ _ | (simp; done))) k (OI.ok.lt HT.out k hk) (by have := HT2.out k hk; simp; omega)
  · have := hSlt.out k hk
    have := HT2.out k hm
    omega
  · have hl1 := OIII.ok.lt hSk.out k
    have hl2 := OI.ok.lt HT.out k
    simp
    rcases List.mem_append.1 hk with h | h
    · have := HS2.out k h
      have := hl1 h
      omega
    · have := HT2.out k h
      have := hl2 h
      omega
  · refine Below.trans hbel2.out ?_
    repeat' (first | with_reducible exact Below.refl _ _ | with_reducible refine Below.alloc ?_ ?_ _ | with_reducible refine Below.setCell ?_ ?_ _ | with_reducible refine Below.drew ?_ | with_reducible refine Below.draws ?_ _ | omega | (simp; done) | (simp; omega))

theorem szChain_t {B : Nat} {v : Value} {x : Chn} {w : World} (h : RdC (· < B) w v x) (hB : B ≤ w.heap.size) (left : Int) (hl : 0 ≤ left) (hl2 : left ≤ 1048576) :
    Calls Try.prog 47 #[v, .int .i64 left] w fun e w' => e = .returned (.int .i64 (szR (szC x) left)) ∧ Turn 0 0 w w' := by
  obtain ⟨u, p, rfl, hu, hp⟩ := h
  obtain ⟨a, c, rfl, h1, h2⟩ := hu.isSlice
  obtain ⟨a', c', rfl, h3, h4⟩ := hp.isSlice
  unfold maxLen at h2 h4
  have hbx := Lib.hid ((Below.refl w.heap.size w).alloc (Nat.le_refl _) (.cells #[.int .i64 x.base, .int .i64 x.states, .int .i64 x.start, .int .i64 x.stop, .slice a x.tables.length c, .slice a' x.places.length c'] 68))
  have Hu := Lib.hid hu; clear hu
  have Hp := Lib.hid hp; clear hp
  unfold aggC szC
  generalize hN1 : szL (szL List.length) x.tables = n1
  generalize hN2 : x.places.length = n2 at *
  have HN1 := Lib.hid hN1; clear hN1
  have HN2 := Lib.hid hN2; clear hN2
  by_cases hle : (n1 : Int) ≤ left
  · have hv := Lib.hid (szR_yes hle)
    by_cases hle2 : (n2 : Int) ≤ left - n1
    · have hv2 := Lib.hid (szR_yes hle2)
      have hr := Lib.hid (szR_yes (n := n1 + n2) (left := left) (by omega))
      go_enter Try.func47, Try.ntmps47
      go_wp2_with fail
      refine (szInt64SSS (RdIII.ok.keep Hu.out fun k hk => hbx.out.block k (by omega)) _ hl hl2).mono ?_
      rw [HN1.out, hv.out]
      rintro e w' ⟨rfl, rfl⟩
      go_wp2_with fail
      refine (szInt64S (RdI.ok.keep Hp.out fun k hk => hbx.out.block k (by omega)) _ (by omega) (by omega)).mono ?_
      rw [HN2.out, hv2.out]
      rintro e w' ⟨rfl, rfl⟩
      go_wp2
      go_ret
      exact ⟨ret_int' (by rw [hr.out]; omega), Turn.of_below hbx.out⟩
    · have hv2 := Lib.hid (szR_no (n := n2) (left := left - n1) (by omega))
      have hr := Lib.hid (szR_no (n := n1 + n2) (left := left) (by omega))
      go_enter Try.func47, Try.ntmps47
      go_wp2_with fail
      refine (szInt64SSS (RdIII.ok.keep Hu.out fun k hk => hbx.out.block k (by omega)) _ hl hl2).mono ?_
      rw [HN1.out, hv.out]
      rintro e w' ⟨rfl, rfl⟩
      go_wp2_with fail
      refine (szInt64S (RdI.ok.keep Hp.out fun k hk => hbx.out.block k (by omega)) _ (by omega) (by omega)).mono ?_
      rw [HN2.out, hv2.out]
      rintro e w' ⟨rfl, rfl⟩
      go_wp2
      go_ret
      exact ⟨ret_int' (by rw [hr.out]), Turn.of_below hbx.out⟩
  · have hv := Lib.hid (szR_no (n := n1) (left := left) (by omega))
    have hr := Lib.hid (szR_no (n := n1 + n2) (left := left) (by omega))
    go_enter Try.func47, Try.ntmps47
    go_wp2_with fail
    refine (szInt64SSS (RdIII.ok.keep Hu.out fun k hk => hbx.out.block k (by omega)) _ hl hl2).mono ?_
    rw [HN1.out, hv.out]
    rintro e w' ⟨rfl, rfl⟩
    go_wp2
    go_ret
    exact ⟨ret_int' (by rw [hr.out]), Turn.of_below hbx.out⟩

theorem eqChain_t {a b c d : Nat} {va vb : Value} {x : Chn} {w : World} (ha : In OC a b w va x) (hb : In OC c d w vb x) :
    Calls Try.prog 17 #[va, vb] w fun e w' => e = .returned (.bool true) ∧ Turn 0 0 w w' := by
  obtain ⟨S, ⟨u, p, S1, S2, rfl, hu, hp, _, _⟩, hS⟩ := ha
  obtain ⟨T, ⟨u', p', T1, T2, rfl, hu', hp', _, _⟩, hT⟩ := hb
  have Hu := Lib.hid (OIII.leads.to _ _ _ _ (· < w.heap.size) hu (OIII.ok.lt hu))
  have Hp := Lib.hid (OI.leads.to _ _ _ _ (· < w.heap.size) hp (OI.ok.lt hp))
  have Hu' := Lib.hid (OIII.leads.to _ _ _ _ (· < w.heap.size) hu' (OIII.ok.lt hu'))
  have Hp' := Lib.hid (OI.leads.to _ _ _ _ (· < w.heap.size) hp' (OI.ok.lt hp'))
  clear hu hp hu' hp' hS hT
  obtain ⟨a1, c1, rfl, h1, h2⟩ := Hu.out.isSlice
  obtain ⟨a2, c2, rfl, h3, h4⟩ := Hp.out.isSlice
  obtain ⟨a3, c3, rfl, h5, h6⟩ := Hu'.out.isSlice
  obtain ⟨a4, c4, rfl, h7, h8⟩ := Hp'.out.isSlice
  unfold maxLen at h2 h4 h6 h8
  have hbx := Lib.hid (((Below.refl w.heap.size w).alloc (Nat.le_refl _) (.cells #[.int .i64 x.base, .int .i64 x.states, .int .i64 x.start, .int .i64 x.stop, .slice a1 x.tables.length c1, .slice a2 x.places.length c2] 28)).alloc (by simp) (.cells #[.int .i64 x.base, .int .i64 x.states, .int .i64 x.start, .int .i64 x.stop, .slice a3 x.tables.length c3, .slice a4 x.places.length c4] 28))
  unfold aggC
  go_enter Try.func17, Try.ntmps17
  go_wp2_with fail
  refine (eqInt64SSS (RdIII.ok.keep Hu.out fun k hk => hbx.out.block k hk) (RdIII.ok.keep Hu'.out fun k hk => hbx.out.block k hk)).mono ?_
  rintro e w' ⟨rfl, n, rfl⟩
  go_wp2_with fail
  refine (eqInt64S (RdI.ok.keep Hp.out (by intro k hk; exact hbx.out.block k hk)) (RdI.ok.keep Hp'.out (by intro k hk; exact hbx.out.block k hk))).mono ?_
  rintro e w' ⟨rfl, n2, rfl⟩
  go_wp2
  go_ret
  exact ⟨rfl, Turn.of_below (hbx.out.trans ⟨rfl, rfl, rfl, Nat.le_refl _, fun _ _ => rfl⟩)⟩

theorem markChain_t {lo hi : Nat} {v : Value} {x : Chn} {w : World} {k : Int} (h : In OC lo hi w v x) (hk : 0 ≤ k) (hk2 : k + cntC x ≤ 4611686018427387904) :
    Calls Try.prog 20 #[v, .int .i64 k] w fun e w' => e = .returned (.int .i64 (k + cntC x)) ∧ In OC lo hi w' v (mkC k x) ∧ Turn lo hi w w' := by
  obtain ⟨S, ⟨u, p, S1, S2, rfl, hu, hp, rfl, hd⟩, hS⟩ := h
  obtain ⟨a1, n1, c1, rfl⟩ := hu.isSlice
  obtain ⟨a2, n2, c2, rfl⟩ := hp.isSlice
  have hbx := Lib.hid ((Below.refl w.heap.size w).alloc (Nat.le_refl _) (.cells #[.int .i64 x.base, .int .i64 x.states, .int .i64 x.start, .int .i64 x.stop, .slice a1 n1 c1, .slice a2 n2 c2] 28))
  have Hu := Lib.hid (Own.below OII.ok hu hbx.out)
  have Hp := Lib.hid (Own.below oI.ok hp hbx.out)
  have Hd := Lib.hid hd
  have HS := Lib.hid hS
  have hlt1 := Lib.hid (OIII.ok.lt hu)
  have hlt2 := Lib.hid (OI.ok.lt hp)
  clear hu hp hd hS
  unfold aggC
  unfold cntC at hk2 ⊢
  go_enter Try.func20, Try.ntmps20
  go_wp2_with fail
  refine (markInt64SSS Hu.out hk (by omega)).mono ?_
  rintro e w1 ⟨rfl, ho, hb⟩
  have Ho := Lib.hid ho
  have Hb := Lib.hid hb
  have hb2 := (hb.block w.heap.size (by simp) (fun hm => Nat.lt_irrefl _ (hlt1.out _ hm))).trans (heap_alloc_new w _)
  have hp2 := Lib.hid (OI.ok.keep Hp.out fun i hi => hb.block i (by have := hlt2.out i hi; simp; omega) fun hm => Hd.out i hm hi)
  have d5 := heap_cell hb2 (i := 5) rfl
  clear ho hb hb2
  go_wp2_with fail
  refine (markInt64S hp2.out (by omega) (by omega)).mono ?_
  rintro e w2 ⟨rfl, ho, hb⟩
  have Ho2 := Lib.hid (OIII.ok.keep Ho.out fun i hi => hb.block i (OIII.ok.lt Ho.out i hi) fun hm => Hd.out i hi hm)
  have Ho := Lib.hid ho
  have hbs := Lib.hid (⟨hb.os.trans Hb.out.os, hb.tape.trans Hb.out.tape, hb.output.trans Hb.out.output, Nat.le_trans Hb.out.size hb.size, fun i hi hd => (hb.block i (Nat.lt_of_lt_of_le hi Hb.out.size) fun hm => by have := HS.out i (List.mem_append.2 (.inr hm)); omega).trans (Hb.out.block i hi fun hm => by have := HS.out i (List.mem_append.2 (.inl hm)); omega)⟩ : Turn lo hi _ w2)
  clear ho hb d5
  go_wp2
  go_ret
  exact ⟨ret_int' (by omega), ⟨S1 ++ S2, ⟨_, _, S1, S2, rfl, Ho2.out, Ho.out, rfl, Hd.out⟩, HS.out⟩, Turn.after hbx.out hbs.out⟩

theorem heldChain_t {lo hi : Nat} {v : Value} {x : Chn} {w : World} {k : Int} (h : In OC lo hi w v (mkC k x)) (hk : 0 ≤ k) (hk2 : k + cntC x ≤ 4611686018427387904) :
    Calls Try.prog 21 #[v, .int .i64 k] w fun e w' => e = .returned (.int .i64 (k + cntC x)) ∧ Turn 0 0 w w' := by
  obtain ⟨S, ⟨u, p, S1, S2, rfl, hu, hp, rfl, hd⟩, hS⟩ := h
  have Hu := Lib.hid (show RdIII (· < w.heap.size) w u (mkS3 k x.tables) from OIII.leads.to _ _ _ _ (· < w.heap.size) hu (OIII.ok.lt hu))
  have Hp := Lib.hid (show RdI (· < w.heap.size) w p (mk1 (k + (cntL (cntL List.length) x.tables : Nat)) x.places.length) from OI.leads.to _ _ _ _ (· < w.heap.size) hp (OI.ok.lt hp))
  clear hu hp hd hS
  obtain ⟨a1, c1, rfl, h1, h2⟩ := Hu.out.isSlice
  obtain ⟨a2, c2, rfl, h3, h4⟩ := Hp.out.isSlice
  have hbx := Lib.hid ((Below.refl w.heap.size w).alloc (Nat.le_refl _) (.cells #[.int .i64 x.base, .int .i64 x.states, .int .i64 x.start, .int .i64 x.stop, .slice a1 (mkS3 k x.tables).length c1, .slice a2 (mk1 (k + (cntL (cntL List.length) x.tables : Nat)) x.places.length).length c2] 28))
  unfold aggC mkC
  unfold cntC at hk2 ⊢
  go_enter Try.func21, Try.ntmps21
  go_wp2_with fail
  refine (heldInt64SSS (RdIII.ok.keep Hu.out fun i hi => hbx.out.block i hi) hk (by omega)).mono ?_
  rintro e w1 ⟨rfl, rfl⟩
  go_wp2_with fail
  refine (heldInt64S (RdI.ok.keep Hp.out fun i hi => hbx.out.block i hi) (by omega) (by omega)).mono ?_
  rintro e w1 ⟨rfl, rfl⟩
  go_wp2
  go_ret
  exact ⟨ret_int' (by omega), Turn.of_below hbx.out⟩
end Go.Proofs.Ytnpkanlieflbiaa
