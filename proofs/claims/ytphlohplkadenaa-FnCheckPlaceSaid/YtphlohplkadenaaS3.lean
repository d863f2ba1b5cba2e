/- The laws' small functions over chains. -/
import Derived.Test.YtphlohplkadenaaS1
namespace Go.Proofs.Ytphlohplkadenaa
open Go.RowKit
set_option linter.unusedVariables false

theorem eqChain_t {a b c d : Nat} {va vb : Value} {x : Chn} {w : World} (ha : In OC a b w va x) (hb : In OC c d w vb x) :
    Calls Try.prog 46 #[va, vb] w fun e w' => e = .returned (.bool true) ∧ Turn 0 0 w w' := by
  obtain ⟨S, ⟨u, p, S1, S2, rfl, hu, hp, _, _⟩, hS⟩ := ha
  obtain ⟨T, ⟨u', p', T1, T2, rfl, hu', hp', _, _⟩, hT⟩ := hb
  have Hu := Lib.hid (OIII.leads.to _ _ _ _ (· < w.heap.size) hu (OIII.ok.lt hu))
  have Hp := Lib.hid (OI.leads.to _ _ _ _ (· < w.heap.size) hp (OI.ok.lt hp))
  have Hu' := Lib.hid (OIII.leads.to _ _ _ _ (· < w.heap.size) hu' (OIII.ok.lt hu'))
  have Hp' := Lib.hid (OI.leads.to _ _ _ _ (· < w.heap.size) hp' (OI.ok.lt hp'))
  clear hu hp hu' hp' hS hT
  obtain ⟨a1, c1, rfl, h1, h2⟩ := Hu.out.isSlice
  obtain ⟨a2, c2, rfl, h3, h4⟩ := Hp.out.isSlice
  obtain ⟨a3, c3, rfl, h5, h6⟩ := Hu'.out.isSlice
  obtain ⟨a4, c4, rfl, h7, h8⟩ := Hp'.out.isSlice
  unfold maxLen at h2 h4 h6 h8
  have hbx := Lib.hid (((Below.refl w.heap.size w).alloc (Nat.le_refl _) (.cells #[.int .i64 x.base, .int .i64 x.states, .int .i64 x.start, .int .i64 x.stop, .slice a1 x.tables.length c1, .slice a2 x.places.length c2] 58)).alloc (by simp) (.cells #[.int .i64 x.base, .int .i64 x.states, .int .i64 x.start, .int .i64 x.stop, .slice a3 x.tables.length c3, .slice a4 x.places.length c4] 58))
  unfold aggC
  go_enter Try.func46, Try.ntmps46
  go_wp2_with fail
  refine (eqInt64SSS (RdIII.ok.keep Hu.out fun k hk => hbx.out.block k hk) (RdIII.ok.keep Hu'.out fun k hk => hbx.out.block k hk)).mono ?_
  rintro e w' ⟨rfl, n, rfl⟩
  go_wp2_with fail
  refine (eqInt64S (RdI.ok.keep Hp.out (by intro k hk; exact hbx.out.block k hk)) (RdI.ok.keep Hp'.out (by intro k hk; exact hbx.out.block k hk))).mono ?_
  rintro e w' ⟨rfl, n2, rfl⟩
  go_wp2
  go_ret
  exact ⟨rfl, Turn.of_below (hbx.out.trans ⟨rfl, rfl, rfl, Nat.le_refl _, fun _ _ => rfl⟩)⟩

theorem markChain_t {lo hi : Nat} {v : Value} {x : Chn} {w : World} {k : Int} (h : In OC lo hi w v x) (hk : 0 ≤ k) (hk2 : k + cntC x ≤ 4611686018427387904) :
    Calls Try.prog 47 #[v, .int .i64 k] w fun e w' => e = .returned (.int .i64 (k + cntC x)) ∧ In OC lo hi w' v (mkC k x) ∧ Turn lo hi w w' := by
  obtain ⟨S, ⟨u, p, S1, S2, rfl, hu, hp, rfl, hd⟩, hS⟩ := h
  obtain ⟨a1, n1, c1, rfl⟩ := hu.isSlice
  obtain ⟨a2, n2, c2, rfl⟩ := hp.isSlice
  have hbx := Lib.hid ((Below.refl w.heap.size w).alloc (Nat.le_refl _) (.cells #[.int .i64 x.base, .int .i64 x.states, .int .i64 x.start, .int .i64 x.stop, .slice a1 n1 c1, .slice a2 n2 c2] 58))
  have Hu := Lib.hid (Own.below OII.ok hu hbx.out)
  have Hp := Lib.hid (Own.below oI.ok hp hbx.out)
  have Hd := Lib.hid hd
  have HS := Lib.hid hS
  have hlt1 := Lib.hid (OIII.ok.lt hu)
  have hlt2 := Lib.hid (OI.ok.lt hp)
  clear hu hp hd hS
  unfold aggC
  unfold cntC at hk2 ⊢
  go_enter Try.func47, Try.ntmps47
  go_wp2_with fail
  refine (markInt64SSS Hu.out hk (by omega)).mono ?_
  rintro e w1 ⟨rfl, ho, hb⟩
  have Ho := Lib.hid ho
  have Hb := Lib.hid hb
  have hb2 := (hb.block w.heap.size (by simp) (fun hm => Nat.lt_irrefl _ (hlt1.out _ hm))).trans (heap_alloc_new w _)
  have hp2 := Lib.hid (OI.ok.keep Hp.out fun i hi => hb.block i (by have := hlt2.out i hi; simp; omega) fun hm => Hd.out i hm hi)
  have d5 := heap_cell hb2 (i := 5) rfl
  clear ho hb hb2
  go_wp2_with fail
  refine (markInt64S hp2.out (by omega) (by omega)).mono ?_
  rintro e w2 ⟨rfl, ho, hb⟩
  have Ho2 := Lib.hid (OIII.ok.keep Ho.out fun i hi => hb.block i (OIII.ok.lt Ho.out i hi) fun hm => Hd.out i hi hm)
  have Ho := Lib.hid ho
  have hbs := Lib.hid (⟨hb.os.trans Hb.out.os, hb.tape.trans Hb.out.tape, hb.output.trans Hb.out.output, Nat.le_trans Hb.out.size hb.size, fun i hi hd => (hb.block i (Nat.lt_of_lt_of_le hi Hb.out.size) fun hm => by have := HS.out i (List.mem_append.2 (.inr hm)); omega).trans (Hb.out.block i hi fun hm => by have := HS.out i (List.mem_append.2 (.inl hm)); omega)⟩ : Turn lo hi _ w2)
  clear ho hb d5
  go_wp2
  go_ret
  exact ⟨ret_int' (by omega), ⟨S1 ++ S2, ⟨_, _, S1, S2, rfl, Ho2.out, Ho.out, rfl, Hd.out⟩, HS.out⟩, Turn.after hbx.out hbs.out⟩

theorem heldChain_t {lo hi : Nat} {v : Value} {x : Chn} {w : World} {k : Int} (h : In OC lo hi w v (mkC k x)) (hk : 0 ≤ k) (hk2 : k + cntC x ≤ 4611686018427387904) :
    Calls Try.prog 48 #[v, .int .i64 k] w fun e w' => e = .returned (.int .i64 (k + cntC x)) ∧ Turn 0 0 w w' := by
  obtain ⟨S, ⟨u, p, S1, S2, rfl, hu, hp, rfl, hd⟩, hS⟩ := h
  have Hu := Lib.hid (show RdIII (· < w.heap.size) w u (mkS3 k x.tables) from OIII.leads.to _ _ _ _ (· < w.heap.size) hu (OIII.ok.lt hu))
  have Hp := Lib.hid (show RdI (· < w.heap.size) w p (mk1 (k + (cntL (cntL List.length) x.tables : Nat)) x.places.length) from OI.leads.to _ _ _ _ (· < w.heap.size) hp (OI.ok.lt hp))
  clear hu hp hd hS
  obtain ⟨a1, c1, rfl, h1, h2⟩ := Hu.out.isSlice
  obtain ⟨a2, c2, rfl, h3, h4⟩ := Hp.out.isSlice
  have hbx := Lib.hid ((Below.refl w.heap.size w).alloc (Nat.le_refl _) (.cells #[.int .i64 x.base, .int .i64 x.states, .int .i64 x.start, .int .i64 x.stop, .slice a1 (mkS3 k x.tables).length c1, .slice a2 (mk1 (k + (cntL (cntL List.length) x.tables : Nat)) x.places.length).length c2] 58))
  unfold aggC mkC
  unfold cntC at hk2 ⊢
  go_enter Try.func48, Try.ntmps48
  go_wp2_with fail
  refine (heldInt64SSS (RdIII.ok.keep Hu.out fun i hi => hbx.out.block i hi) hk (by omega)).mono ?_
  rintro e w1 ⟨rfl, rfl⟩
  go_wp2_with fail
  refine (heldInt64S (RdI.ok.keep Hp.out fun i hi => hbx.out.block i hi) (by omega) (by omega)).mono ?_
  rintro e w1 ⟨rfl, rfl⟩
  go_wp2
  go_ret
  exact ⟨ret_int' (by omega), Turn.of_below hbx.out⟩
end Go.Proofs.Ytphlohplkadenaa
