/- A drawn chain: spec.l02DrawSized, walked. -/
import Derived.Test.YtnpkanlieflbiaaU1
import Derived.Test.YtnpkanlieflbiaaC1
import Derived.Test.YtnpkanlieflbiaaF2
namespace Go.Proofs.Ytnpkanlieflbiaa
open Go.RowKit
set_option linter.unusedVariables false

theorem infoSl3U : (Try.prog.info? 38).map (fun i => (i.zero, i.size, i.bytes)) = some (some (.slice none 0 0), 1, 24) := by kernel_rfl
theorem oheap {S : List Nat} {w w1 : World} (h : Only S w w1) {k : Nat} {o : Obj} (hk : w.heap[k]? = some o) (hS : k ∉ S) : w1.heap[k]? = some o := (h.block k (Array.getElem?_eq_some_iff.1 hk).1 hS).trans hk
/-- A chain that is being drawn: behind its result's cell, beside the source. -/
structure DS (B b A bx : Nat) (w : World) (nb st sa so : Int) (T : List (List (List Int))) (Pl : List Int) (tv pv : Value) (S1 S2 : List Nat) (wr : World) : Prop where
  zero : wr.heap[w.heap.size]? = some (.cells #[.int .i64 0, .int .i64 0, .int .i64 0, .int .i64 0, .slice none 0 0, .slice none 0 0] 28 (0, 0))
  box : wr.heap[bx]? = some (.cells #[.int .i64 nb, .int .i64 st, .int .i64 sa, .int .i64 so, tv, pv] 28 (0, 0))
  hbx : w.heap.size < bx
  tabs : OIII wr tv T S1
  pls : OI wr pv Pl S2
  b1 : ∀ j ∈ S1, w.heap.size < j ∧ j ≠ bx
  b2 : ∀ j ∈ S2, w.heap.size < j ∧ j ≠ bx
  d12 : ∀ j ∈ S1, j ∉ S2
  src : Src B wr b A
  only : Only [b] w wr
  lt : b < w.heap.size
section ds
variable {B b A A' bx : Nat} {w wr w1 : World} {nb st sa so : Int} {T : List (List (List Int))} {Pl : List Int} {tv pv v1 : Value} {S1 S2 : List Nat}
theorem DS.bxlt (h : DS B b A bx w nb st sa so T Pl tv pv S1 S2 wr) : bx < wr.heap.size := heap_lt h.box
theorem DS.ask (h : DS B b A bx w nb st sa so T Pl tv pv S1 S2 wr) (h2 : Src B w1 b A') (ho : Only [b] wr w1) : DS B b A' bx w nb st sa so T Pl tv pv S1 S2 w1 := by
  have hl := h.lt
  have hb := h.hbx
  exact ⟨oheap ho h.zero (by simp; omega), oheap ho h.box (by simp; omega), hb, OIII.ok.keep h.tabs fun k hk => ho.block k (OIII.ok.lt h.tabs k hk) (by have := h.b1 k hk; simp; omega), OI.ok.keep h.pls fun k hk => ho.block k (OI.ok.lt h.pls k hk) (by have := h.b2 k hk; simp; omega), h.b1, h.b2, h.d12, h2, h.only.trans ho, hl⟩
theorem DS.more (h : DS B b A bx w nb st sa so T Pl tv pv S1 S2 wr) (hA : A ≤ A') : DS B b A' bx w nb st sa so T Pl tv pv S1 S2 wr := ⟨h.zero, h.box, h.hbx, h.tabs, h.pls, h.b1, h.b2, h.d12, h.src.more hA, h.only, h.lt⟩
theorem DS.drew (h : DS B b A bx w nb st sa so T Pl tv pv S1 S2 wr) (q : Nat) : DS B b A bx w nb st sa so T Pl tv pv S1 S2 (wr.drewN q) :=
  ⟨h.zero, h.box, h.hbx, OIII.ok.keep h.tabs fun _ _ => rfl, OI.ok.keep h.pls fun _ _ => rfl, h.b1, h.b2, h.d12, h.src.keep fun _ _ => rfl, h.only.trans ⟨rfl, rfl, rfl, Nat.le_refl _, fun _ _ _ => rfl⟩, h.lt⟩
/-- A field of the box is turned. -/
theorem DS.put (h : DS B b A bx w nb st sa so T Pl tv pv S1 S2 wr) (i : Nat) (u : Value) {nb' st' sa' so' : Int} (he : (#[.int .i64 nb, .int .i64 st, .int .i64 sa, .int .i64 so, tv, pv] : Array Value).setIfInBounds i u = #[.int .i64 nb', .int .i64 st', .int .i64 sa', .int .i64 so', tv, pv]) :
    DS B b A bx w nb' st' sa' so' T Pl tv pv S1 S2 (wr.setCell ⟨bx, i, none⟩ u) := by
  have hl := h.lt
  have hb := h.hbx
  have h0 := h.src.1
  have hs : ∀ k, k ≠ bx → (wr.setCell ⟨bx, i, none⟩ u).heap[k]? = wr.heap[k]? := fun k hk => heap_setCell_other wr _ k u (by simpa using hk)
  have e := heap_setCell_same wr bx i _ _ u h.box
  rw [he] at e
  exact ⟨(hs _ (by omega)).trans h.zero, e, hb, OIII.ok.keep h.tabs fun k hk => hs k (h.b1 k hk).2, OI.ok.keep h.pls fun k hk => hs k (h.b2 k hk).2, h.b1, h.b2, h.d12, h.src.keep fun k hk => hs k (by omega),
    only_morU h.only ((Only.refl [bx] wr).put (by simp) i u) (by simp; omega), hl⟩
theorem DS.pushP (h : DS B b A bx w nb st sa so T Pl tv pv S1 S2 wr) {Pl' : List Int} {S' : List Nat} (ho : OI w1 v1 Pl' S') (hn : Only S2 wr w1) (hS : ∀ k ∈ S', k ∈ S2 ∨ k ∈ ([] : List Nat) ∨ wr.heap.size ≤ k) :
    w1.heap[bx]? = some (.cells #[.int .i64 nb, .int .i64 st, .int .i64 sa, .int .i64 so, tv, pv] 28 (0, 0)) ∧ Only [b] w w1 ∧ DS B b A bx w nb st sa so T Pl' tv v1 S1 S' (w1.setCell ⟨bx, 5, none⟩ v1) := by
  have hl := h.lt
  have hbx := h.hbx
  have hz := h.bxlt
  have h0 := h.src.1
  have hbl := h.src.lt
  have l1 := OIII.ok.lt h.tabs
  have hb : ∀ k ∈ S', w.heap.size < k ∧ k ≠ bx := fun k hk => by
    rcases hS k hk with e | e | e
    · exact h.b2 k e
    · simp at e
    · omega
  have e1 := oheap hn h.box (fun hm => (h.b2 _ hm).2 rfl)
  have e0 := oheap hn h.zero (fun hm => by have := (h.b2 _ hm).1; omega)
  have hs : ∀ k, k ≠ bx → (w1.setCell ⟨bx, 5, none⟩ v1).heap[k]? = w1.heap[k]? := fun k hk => heap_setCell_other w1 _ k v1 (by simpa using hk)
  have e2 := heap_setCell_same w1 bx 5 _ _ v1 e1
  have on1 : Only [b] w w1 := only_morU h.only hn (fun k hk => by have := h.b2 k hk; omega)
  refine ⟨e1, on1, (hs _ (by omega)).trans e0, by rw [e2]; rfl, hbx, OIII.ok.keep h.tabs fun k hk => (hs k (h.b1 k hk).2).trans (hn.block k (l1 k hk) (h.d12 k hk)), OI.ok.keep ho fun k hk => hs k (hb k hk).2, h.b1, hb, fun k hk hm => ?_, h.src.keep fun k hk => (hs k (by omega)).trans (hn.block k (by omega) (fun hm => by have := h.b2 k hm; omega)), only_morU on1 ((Only.refl [bx] w1).put (by simp) 5 v1) (by simp; omega), hl⟩
  rcases hS k hm with e | e | e
  · exact h.d12 k hk e
  · simp at e
  · have := l1 k hk; omega
theorem DS.pushT (h : DS B b A bx w nb st sa so T Pl tv pv S1 S2 wr) {T' : List (List (List Int))} {T7 S' : List Nat} (hT7 : ∀ j ∈ T7, (w.heap.size < j ∧ j ≠ bx) ∧ j ∉ S2) (ho : OIII w1 v1 T' S') (hn : Only S1 wr w1) (hS : ∀ k ∈ S', k ∈ S1 ∨ k ∈ T7 ∨ wr.heap.size ≤ k) :
    w1.heap[bx]? = some (.cells #[.int .i64 nb, .int .i64 st, .int .i64 sa, .int .i64 so, tv, pv] 28 (0, 0)) ∧ Only [b] w w1 ∧ DS B b A bx w nb st sa so T' Pl v1 pv S' S2 (w1.setCell ⟨bx, 4, none⟩ v1) := by
  have hl := h.lt
  have hbx := h.hbx
  have hz := h.bxlt
  have h0 := h.src.1
  have hbl := h.src.lt
  have l2 := OI.ok.lt h.pls
  have hb : ∀ k ∈ S', w.heap.size < k ∧ k ≠ bx := fun k hk => by
    rcases hS k hk with e | e | e
    · exact h.b1 k e
    · exact (hT7 k e).1
    · omega
  have e1 := oheap hn h.box (fun hm => (h.b1 _ hm).2 rfl)
  have e0 := oheap hn h.zero (fun hm => by have := (h.b1 _ hm).1; omega)
  have hs : ∀ k, k ≠ bx → (w1.setCell ⟨bx, 4, none⟩ v1).heap[k]? = w1.heap[k]? := fun k hk => heap_setCell_other w1 _ k v1 (by simpa using hk)
  have e2 := heap_setCell_same w1 bx 4 _ _ v1 e1
  have on1 : Only [b] w w1 := only_morU h.only hn (fun k hk => by have := h.b1 k hk; omega)
  refine ⟨e1, on1, (hs _ (by omega)).trans e0, by rw [e2]; rfl, hbx, OIII.ok.keep ho fun k hk => hs k (hb k hk).2, OI.ok.keep h.pls fun k hk => (hs k (h.b2 k hk).2).trans (hn.block k (l2 k hk) (fun hm => h.d12 k hm hk)), hb, h.b2, fun k hk hm => ?_, h.src.keep fun k hk => (hs k (by omega)).trans (hn.block k (by omega) (fun hm => by have := h.b1 k hm; omega)), only_morU on1 ((Only.refl [bx] w1).put (by simp) 4 v1) (by simp; omega), hl⟩
  rcases hS k hk with e | e | e
  · exact h.d12 k e hm
  · exact (hT7 k e).2 hm
  · have := l2 k hm; omega
/-- What is handed back. -/
theorem DS.done (h : DS B b A bx w nb st sa so T Pl tv pv S1 S2 wr) (ho : Only [w.heap.size] wr w1) : (∃ S, OC w1 (.agg #[.int .i64 nb, .int .i64 st, .int .i64 sa, .int .i64 so, tv, pv]) ⟨nb, st, sa, so, T, Pl⟩ S ∧ ∀ k ∈ S, w.heap.size ≤ k) ∧ Only [b] w w1 := by
  refine ⟨⟨S1 ++ S2, ⟨tv, pv, S1, S2, rfl, OIII.ok.keep h.tabs fun k hk => ho.block k (OIII.ok.lt h.tabs k hk) (by have := h.b1 k hk; simp; omega), OI.ok.keep h.pls fun k hk => ho.block k (OI.ok.lt h.pls k hk) (by have := h.b2 k hk; simp; omega), rfl, h.d12⟩, fun k hk => ?_⟩, only_morU h.only ho (by simp)⟩
  rcases List.mem_append.1 hk with e | e
  · have := h.b1 k e; omega
  · have := h.b2 k e; omega
end ds
/-- The tables and places of a drawn chain. -/
structure DCh (NS NB NP : Nat) (x : Chn) : Prop where
  base : x.base = NB
  states : x.states = NS
  start : 0 ≤ x.start ∧ x.start < NS
  stop : 0 ≤ x.stop ∧ x.stop < NS
  tabs : 1 ≤ x.tables.length ∧ x.tables.length ≤ 3
  tab : ∀ i, i < x.tables.length → (nth x.tables i).length = NS ∧ TabD NS NB (nth x.tables i)
  pls : x.places.length = NP
  pl : ∀ i, i < NP → 0 ≤ nth x.places i ∧ nth x.places i < x.tables.length
theorem DCh.vc {NS NB NP : Nat} {x : Chn} (h : DCh NS NB NP x) (hs : 1 ≤ NS ∧ NS ≤ 10) (hb : 2 ≤ NB ∧ NB ≤ 10) (hp : 1 ≤ NP ∧ NP ≤ 4) : VC x := by
  have e1 := h.base
  have e2 := h.states
  have e3 := h.pls
  have e4 := h.tabs
  refine ⟨by omega, by omega, by rw [e2]; exact h.start, by rw [e2]; exact h.stop, by omega, by omega, ?_, fun i hi => ?_, fun i s hi hsl => ?_, fun i s d hi hsl hd => ?_, fun k hk => h.pl k (by omega)⟩
  · rw [e1, e3]
    have h1 : NB ^ NP ≤ 10 ^ 4 := Nat.le_trans (Nat.pow_le_pow_left hb.2 NP) (Nat.pow_le_pow_right (by omega) hp.2)
    have h2 : ((NB : Int) ^ NP) = ((NB ^ NP : Nat) : Int) := by simp
    have h3 : (10 : Nat) ^ 4 = 10000 := by decide
    rw [h2]; omega
  · rw [e2, (h.tab i hi).1]
  · rw [e2] at hsl
    obtain ⟨g1, g2⟩ := h.tab i hi
    rw [e1, (g2 s (by omega)).1]
  · rw [e2] at hsl ⊢
    rw [e1] at hd
    obtain ⟨g1, g2⟩ := h.tab i hi
    have g3 := g2 s (by omega)
    exact g3.2 d (by omega)
def TabsD (NS NB : Nat) (T : List (List (List Int))) : Prop := ∀ i, i < T.length → (nth T i).length = NS ∧ TabD NS NB (nth T i)
theorem TabsD.snoc {NS NB : Nat} {T : List (List (List Int))} (h : TabsD NS NB T) {t : List (List Int)} (hl : t.length = NS) (ht : TabD NS NB t) : TabsD NS NB (T ++ [t]) := fun i hi => by
  by_cases e : i < T.length
  · rw [nth_append_left e]; exact h i e
  · obtain rfl : i = T.length := by simp at hi; omega
    rw [nth_append_last]; exact ⟨hl, ht⟩
set_option maxHeartbeats 6400000 in
set_option maxRecDepth 100000 in
theorem specDrawSized {B b A : Nat} {w : World} (h : Src B w b A) (hA : A ≤ 100000000) (NB NP : Nat) (hb : 2 ≤ NB ∧ NB ≤ 10) (hp : 1 ≤ NP ∧ NP ≤ 4) :
    Calls Try.prog 94 #[.pointer (some ⟨b, 0, none⟩), .int .i64 NB, .int .i64 NP] w fun e w' => ∃ v x NS, e = .returned v ∧ (∃ S, OC w' v x S ∧ ∀ k ∈ S, w.heap.size ≤ k) ∧ Only [b] w w' ∧ (1 ≤ NS ∧ NS ≤ 10) ∧ DCh NS NB NP x := by
  have hlt := h.lt
  have h0 := h.1
  obtain ⟨w0, hw0⟩ : ∃ w0, w0 = w.alloc (.cells #[.int .i64 0, .int .i64 0, .int .i64 0, .int .i64 0, .slice none 0 0, .slice none 0 0] 28) := ⟨_, rfl⟩
  have hb0 := (Below.refl w.heap.size w).alloc (Nat.le_refl _) (.cells #[.int .i64 0, .int .i64 0, .int .i64 0, .int .i64 0, .slice none 0 0, .slice none 0 0] 28)
  have hz0 := heap_alloc_new w (.cells #[.int .i64 0, .int .i64 0, .int .i64 0, .int .i64 0, .slice none 0 0, .slice none 0 0] 28)
  rw [← hw0] at hb0 hz0
  have H0 := Lib.hid (h.keep (w' := w0) fun k hk => hb0.block k (by omega))
  have Hz0 := Lib.hid hz0
  have Hon0 := Lib.hid (show Only [b] w w0 from ⟨hb0.os, hb0.tape, hb0.output, hb0.size, fun k hk _ => hb0.block k hk⟩)
  have Hw0 := Lib.hid hw0
  clear h hz0 hb0 hw0
  go_enter Try.func94, Try.ntmps94
  go_wp2_with fail
  rw [← Hw0.out]
  refine (srcPick H0.out (by omega) 6 (by omega)).mono ?_
  rintro e w1 ⟨⟨s6, hs6, rfl⟩, hs1, ho1⟩
  obtain ⟨s6, rfl⟩ := Int.eq_ofNat_of_zero_le hs6.1
  have hs6b : s6 < 6 := by have := hs6.2.1 (by omega); omega
  have hz1 := heap_lt Hz0.out
  have Hz1 := Lib.hid (oheap ho1 Hz0.out (by simp; omega))
  have Hon1 := Lib.hid (Hon0.out.trans ho1)
  have hsz1 := ho1.size
  have H3 := Lib.hid (three w1 (.cells #[] 38) (.cells #[] 2) (.cells #[.int .i64 NB, .int .i64 (1 + (s6 : Int)), .int .i64 0, .int .i64 0, .slice (some ⟨w1.heap.size, 0, none⟩) 0 0, .slice (some ⟨w1.heap.size + 1, 0, none⟩) 0 0] 28) 0)
  have Hs1 := Lib.hid (hs1.more (show _ ≤ A + 2 by omega))
  clear hs6 hs1 ho1 Hw0 Hon0 Hz0 H0
  go_wp2_with fail
  have HD4 := Lib.hid (show DS B b (A + 2) (w1.heap.size + 1 + 1) w NB (1 + (s6 : Int)) 0 0 [] [] (.slice (some ⟨w1.heap.size, 0, none⟩) 0 0) (.slice (some ⟨w1.heap.size + 1, 0, none⟩) 0 0) [w1.heap.size] [w1.heap.size + 1] (((w1.alloc (.cells #[] 38)).alloc (.cells #[] 2)).alloc (.cells #[.int .i64 NB, .int .i64 (1 + (s6 : Int)), .int .i64 0, .int .i64 0, .slice (some ⟨w1.heap.size, 0, none⟩) 0 0, .slice (some ⟨w1.heap.size + 1, 0, none⟩) 0 0] 28)) from
    ⟨(H3.out.2.2.2.2.block _ (heap_lt Hz1.out)).trans Hz1.out, H3.out.2.2.1, by omega,
      .inr ⟨_, 0, #[], [], rfl, H3.out.1, rfl, Nat.le_refl _, by unfold maxLen; omega, by simp, by simp, rfl, fun i hi => absurd hi (by simp)⟩,
      .inr ⟨_, 0, #[], [], rfl, H3.out.2.1, rfl, Nat.le_refl _, by unfold maxLen; omega, by simp, by simp, rfl, fun i hi => absurd hi (by simp)⟩,
      by simp; omega, by simp; omega, by simp, Hs1.out.keep fun k hk => H3.out.2.2.2.2.block k (by omega), Hon1.out.trans ⟨H3.out.2.2.2.2.os, H3.out.2.2.2.2.tape, H3.out.2.2.2.2.output, H3.out.2.2.2.2.size, fun k hk _ => H3.out.2.2.2.2.block k hk⟩, hlt⟩)
  clear H3 Hz1 Hon1 Hs1
  generalize ((w1.alloc (.cells #[] 38)).alloc (.cells #[] 2)).alloc (.cells #[.int .i64 NB, .int .i64 (1 + (s6 : Int)), .int .i64 0, .int .i64 0, .slice (some ⟨w1.heap.size, 0, none⟩) 0 0, .slice (some ⟨w1.heap.size + 1, 0, none⟩) 0 0] 28) = w4 at *
  refine (srcOne HD4.out.src (by omega) 2 (by omega)).mono ?_
  rintro e w5 ⟨⟨r, rfl⟩, hs5, ho5⟩
  have HD5 := Lib.hid (HD4.out.ask (hs5.more (show _ ≤ A + 4 by omega)) ho5)
  clear hs5 ho5 HD4
  have g1 := heap_cell HD5.out.box (i := 1) rfl
  have f1 := frozen_at HD5.out.box 1
  have hns : ∃ NS : Nat, (1 ≤ NS ∧ NS ≤ 10) ∧ (if r then (NB : Int) else 1 + (s6 : Int)) = (NS : Int) := by
    cases r
    · exact ⟨s6 + 1, by omega, by simp; omega⟩
    · exact ⟨NB, by omega, by simp⟩
  obtain ⟨NS, hNS, eNS⟩ := hns
  cases r
  · have eN : (1 : Int) + (s6 : Int) = (NS : Int) := by simpa using eNS
    rw [eN] at HD5 g1
    have HD6 := HD5
    clear eNS eN
    go_wp2_with fail
    clear g1 f1
    generalize w5 = w6 at *
    have HD7 := Lib.hid (HD6.out)
    refine (srcPick HD7.out.src (by omega) NS (by omega)).mono ?_
    rintro e w7 ⟨⟨sa, hsa, rfl⟩, hs7, ho7⟩
    have hsa1 : 0 ≤ sa ∧ sa < NS := ⟨hsa.1, by have h1 := hsa.2.1; have h2 := hsa.2.2; omega⟩
    have HD8 := Lib.hid (HD7.out.ask (hs7.more (show _ ≤ A + 6 by omega)) ho7)
    have g1 := heap_cell HD8.out.box (i := 1) rfl
    have g2 := heap_cell HD8.out.box (i := 2) rfl
    have f2 := frozen_at HD8.out.box 2
    clear hsa hs7 ho7 HD6 HD7
    go_wp2_with fail
    have HD9 := Lib.hid (HD8.out.put 2 (.int .i64 sa) rfl)
    clear g1 g2 f2 HD8
    generalize w7.setCell ⟨w1.heap.size + 1 + 1, 2, none⟩ (.int .i64 sa) = w8 at *
    refine (srcPick HD9.out.src (by omega) NS (by omega)).mono ?_
    rintro e w9 ⟨⟨so, hso, rfl⟩, hs9, ho9⟩
    have hso1 : 0 ≤ so ∧ so < NS := ⟨hso.1, by have h1 := hso.2.1; have h2 := hso.2.2; omega⟩
    have HD10 := Lib.hid (HD9.out.ask (hs9.more (show _ ≤ A + 8 by omega)) ho9)
    have g3 := heap_cell HD10.out.box (i := 3) rfl
    have f3 := frozen_at HD10.out.box 3
    clear hso hs9 ho9 HD9
    go_wp2_with fail
    have HD11 := Lib.hid (HD10.out.put 3 (.int .i64 so) rfl)
    clear g3 f3 HD10
    generalize w9.setCell ⟨w1.heap.size + 1 + 1, 3, none⟩ (.int .i64 so) = w10 at *
    refine (srcPick HD11.out.src (by omega) 3 (by omega)).mono ?_
    rintro e w11 ⟨⟨k3, hk3, rfl⟩, hs11, ho11⟩
    obtain ⟨kn, rfl⟩ : ∃ n : Nat, k3 = (n : Int) - 1 := ⟨(k3 + 1).toNat, by have := hk3.1; omega⟩
    have hkn : 1 ≤ kn ∧ kn ≤ 3 := by have := hk3.1; have := hk3.2.1 (by omega); omega
    have HD12 := Lib.hid (HD11.out.ask (hs11.more (show _ ≤ A + 10 + 500 * 0 by omega)) ho11)
    have hm4 : (1 : Int) + ((kn : Int) - 1) = kn := by omega
    clear hk3 hs11 ho11 HD11
    go_wp2_with fail
    clear hm4
    go_loopw [8] (fun kv wr => ∃ (k j : Nat) (T : List (List (List Int))) (tv pv : Value) (S1 S2 : List Nat), kv = .int .i64 k ∧ k + j = kn ∧ Hid (T.length = j) ∧ Hid (TabsD NS NB T) ∧ Hid (DS B b (A + 10 + 500 * j) (w1.heap.size + 1 + 1) w NB NS sa so T [] tv pv S1 S2 wr)) (fun kv _ => (intOf kv).toNat)
    case atStart => exact ⟨kn, 0, [], _, _, _, _, rfl, by omega, Lib.hid rfl, Lib.hid (fun i hi => by simp at hi), HD12⟩
    case round =>
      clear HD12
      obtain ⟨k, j, T, tv, pv, S1, S2, rfl, hkj, hTl, hTd, hd⟩ := hrel
      obtain ⟨W2, rfl⟩ : ∃ W2, W2 = wr := ⟨_, rfl⟩
      obtain ⟨a10, n10, c10, rfl⟩ := hd.out.tabs.isSlice
      obtain ⟨a8, n8, c8, rfl⟩ := hd.out.pls.isSlice
      have hbl := hd.out.bxlt
      by_cases hk0 : 0 < k
      · obtain ⟨k, rfl⟩ : ∃ q, k = q + 1 := ⟨k - 1, by omega⟩
        have hkn2 : ((k + 1 : Nat) : Int) - 1 = (k : Int) := by omega
        have hkp : (0 : Int) < ((k + 1 : Nat) : Int) := by omega
        have hTl2 := Lib.hid (show T.length ≤ 3 by have := hTl.out; omega)
        have e4 := heap_cell hd.out.box (i := 4) rfl
        have e1 := heap_cell hd.out.box (i := 1) rfl
        have hcl := Lib.hid (fun q => specDrawTable (hd.out.drew q).src (by omega) NS NB (by omega) (by omega))
        have hS0 : W2.drew.cell? ⟨w1.heap.size + 1 + 1, 4, none⟩ = some (.slice a10 n10 c10) ∧ W2.drew.cell? ⟨w1.heap.size + 1 + 1, 1, none⟩ = some (.int .i64 NS) := ⟨e4, e1⟩
        go_wp2
        refine wp_region_float 6 (fun w' => w'.cell? ⟨w1.heap.size + 1 + 1, 4, none⟩ = some (.slice a10 n10 c10) ∧ w'.cell? ⟨w1.heap.size + 1 + 1, 1, none⟩ = some (.int .i64 NS)) (by kernel_rfl) (by kernel_rfl) hS0 ?_
        clear hS0 e4 e1
        intro hS0
        simp only [List.take_succ_cons, List.take_zero, List.drop_succ_cons, List.drop_zero]
        iterate 6 (refine wpReads_cons _ (by rfl) (by intro w' hSw; (try dsimp only at hSw); go_simp; try (with_reducible rfl)) ?_; try simp only [Act.put, List.setIfInBounds_toArray, List.set_cons_zero, List.set_cons_succ])
        refine wpReads_nil ?_
        refine wpTail_cons fun K hK => ?_
        go_simp
        refine (Calls.mono (hcl.out 1) ?_)
        rintro e w3 ⟨v7, t7, rfl, ⟨S7, hr7, hS7⟩, hs3, ho3, htl7, htd7⟩
        obtain ⟨a7, n7, c7, rfl⟩ := hr7.isSlice
        have hd3 := Lib.hid ((hd.out.drew 1).ask (hs3.more (show _ ≤ A + 10 + 500 * (j + 1) by omega)) ho3)
        have e4 := heap_cell hd3.out.box (i := 4) rfl
        have e1 := heap_cell hd3.out.box (i := 1) rfl
        have hl3 := hd3.out.bxlt
        have hT7 := Lib.hid (show ∀ q ∈ S7, (w.heap.size < q ∧ q ≠ w1.heap.size + 1 + 1) ∧ q ∉ S2 from fun q hq => by
          have h1 : W2.heap.size ≤ q := hS7 q hq
          have h2 := hd.out.hbx
          exact ⟨by omega, fun hm => by have := OI.ok.lt hd.out.pls q hm; omega⟩)
        have hdis := Lib.hid (show ∀ q ∈ S7, q ∉ S1 from fun q hq hm => by
          have h1 : W2.heap.size ≤ q := hS7 q hq
          have := OIII.ok.lt hd.out.tabs q hm; omega)
        have Hr7 := Lib.hid hr7
        have hTd2 := Lib.hid (hTd.out.snoc htl7 htd7)
        clear hr7 hS7 hs3 ho3 htl7 htd7
        refine hK.out _ _ ⟨e4, e1⟩ ?_
        clear hK K hS0
        try simp only [Act.put, List.setIfInBounds_toArray, List.set_cons_zero, List.set_cons_succ]
        refine wpTail_cons fun K hK => ?_
        go_simp
        refine hK.out _ _ ⟨(World.cell?_alloc_past _ _ _ hl3).trans e4, (World.cell?_alloc_past _ _ _ hl3).trans e1⟩ ?_
        clear hK K
        try simp only [Act.put, List.setIfInBounds_toArray, List.set_cons_zero, List.set_cons_succ]
        refine wpTail_cons fun K hK => ?_
        refine step_push rfl _ _ 26 rfl OII.ok Try.underlying26 infoSl3U rfl w3 hd3.out.tabs t7 S7 Hr7.out hdis.out (by have := hTl2.out; omega) (by have := hTl2.out; unfold maxLen; omega) rfl rfl rfl ?_
        intro v5 w5 S5 ho5 hn5 hS5
        obtain ⟨a12, n12, c12, rfl⟩ := ho5.isSlice
        obtain ⟨hbx5, hon5, hd5⟩ := hd3.out.pushT hT7.out ho5 hn5 hS5
        have f5 := frozen_at hbx5 4
        have e5 := heap_cell hbx5 (i := 4) rfl
        have e6 := heap_cell hbx5 (i := 1) rfl
        have Hd5 := Lib.hid hd5
        clear ho5 hn5 hS5 hbx5 hon5 hd5
        refine hK.out _ _ ⟨e5, e6⟩ ?_
        clear hK K
        try simp only [Act.put, List.setIfInBounds_toArray, List.set_cons_zero, List.set_cons_succ]
        refine wpTail_cons fun K hK => ?_
        go_simp
        refine hK.out _ _ ⟨e5, e6⟩ ?_
        clear hK K
        try simp only [Act.put, List.setIfInBounds_toArray, List.set_cons_zero, List.set_cons_succ]
        refine wpTail_one ?_
        go_wp2_with fail
        refine NoPanic.normal ?_
        clear e4 e1 e5 e6 f5
        generalize w5.setCell ⟨w1.heap.size + 1 + 1, 4, none⟩ (.slice a12 n12 c12) = W9 at *
        go_wp2
        go_roundw
        case rel => exact ⟨k, j + 1, T ++ [t7], _, _, _, _, by first | rfl | go_num, by omega, Lib.hid (by rw [List.length_append, hTl.out]; rfl), hTd2, Hd5⟩
        case measure => simp [intOf]
      · obtain rfl : k = 0 := by omega
        have hTk := Lib.hid (show T.length = kn by rw [hTl.out]; omega)
        have Hd2 := Lib.hid (hd.out.more (show A + 10 + 500 * j ≤ A + 2000 + 2 * 0 by omega))
        clear hd hkj hTl
        rw [show ((0 : Nat) : Int) = 0 from rfl]
        go_wp2
        go_loopw [9] (fun iv wr => ∃ (i : Nat) (Pl : List Int) (pv : Value) (S2 : List Nat), i ≤ NP ∧ iv = .int .i64 i ∧ Hid (Pl.length = i) ∧ Hid (∀ q, q < Pl.length → 0 ≤ nth Pl q ∧ nth Pl q < (kn : Int)) ∧ Hid (DS B b (A + 2000 + 2 * i) (w1.heap.size + 1 + 1) w NB NS sa so T Pl (.slice a10 n10 c10) pv S1 S2 wr)) (fun iv _ => NP - (intOf iv).toNat)
        case atStart => exact ⟨0, [], _, _, Nat.zero_le _, rfl, Lib.hid rfl, Lib.hid (fun q hq => by simp at hq), Hd2⟩
        case round =>
          clear Hd2
          obtain ⟨i, Pl, pv, S2', hiN, rfl, hPl, hPd, hd⟩ := hrel
          obtain ⟨W3, rfl⟩ : ∃ W3, W3 = wr := ⟨_, rfl⟩
          obtain ⟨a8, n8, c8, rfl⟩ := hd.out.pls.isSlice
          have hbl3 := hd.out.bxlt
          by_cases hin : i < NP
          · have hin2 : (i : Int) < (NP : Int) := by omega
            have hn10 : n10 = kn := by
              obtain ⟨a, c, e, _, _⟩ := (OIII.leads.to _ _ _ _ (fun _ => True) hd.out.tabs (fun _ _ => trivial)).isSlice
              simp only [Value.slice.injEq] at e
              rw [e.2.1, hTk.out]
            have hPl2 := Lib.hid (show Pl.length ≤ 4 by have := hPl.out; omega)
            have e4 := heap_cell hd.out.box (i := 4) rfl
            have e5 := heap_cell hd.out.box (i := 5) rfl
            have hcl := Lib.hid (fun q => srcPick (hd.out.drew q).src (by omega) n10 (by omega))
            have Hn10 := Lib.hid hn10; clear hn10
            have hS0 : W3.drew.cell? ⟨w1.heap.size + 1 + 1, 4, none⟩ = some (.slice a10 n10 c10) ∧ W3.drew.cell? ⟨w1.heap.size + 1 + 1, 5, none⟩ = some (.slice a8 n8 c8) := ⟨e4, e5⟩
            go_wp2
            refine wp_region_float 6 (fun w' => w'.cell? ⟨w1.heap.size + 1 + 1, 4, none⟩ = some (.slice a10 n10 c10) ∧ w'.cell? ⟨w1.heap.size + 1 + 1, 5, none⟩ = some (.slice a8 n8 c8)) (by kernel_rfl) (by kernel_rfl) hS0 ?_
            clear hS0 e4 e5
            intro hS0
            simp only [List.take_succ_cons, List.take_zero, List.drop_succ_cons, List.drop_zero]
            iterate 6 (refine wpReads_cons _ (by rfl) (by intro w' hSw; (try dsimp only at hSw); go_simp; try (with_reducible rfl)) ?_; try simp only [Act.put, List.setIfInBounds_toArray, List.set_cons_zero, List.set_cons_succ])
            refine wpReads_nil ?_
            refine wpTail_cons fun K hK => ?_
            go_simp
            refine (Calls.mono (hcl.out 1) ?_)
            rintro e w3 ⟨⟨z, hz, rfl⟩, hs3, ho3⟩
            have hz1 : 0 ≤ z ∧ z < (kn : Int) := ⟨hz.1, by have h1 := hz.2.1; have h2 := hz.2.2; have := Hn10.out; omega⟩
            have hd3 := Lib.hid ((hd.out.drew 1).ask (hs3.more (show _ ≤ A + 2000 + 2 * (i + 1) by omega)) ho3)
            have e4 := heap_cell hd3.out.box (i := 4) rfl
            have e5 := heap_cell hd3.out.box (i := 5) rfl
            have hl3 := hd3.out.bxlt
            have hPd2 := Lib.hid (show ∀ q, q < (Pl ++ [z]).length → 0 ≤ nth (Pl ++ [z]) q ∧ nth (Pl ++ [z]) q < (kn : Int) from fun q hq => by
              by_cases e : q < Pl.length
              · rw [nth_append_left e]; exact hPd.out q e
              · obtain rfl : q = Pl.length := by simp at hq; omega
                rw [nth_append_last]; exact hz1)
            clear hz hs3 ho3 hz1
            refine hK.out _ _ ⟨e4, e5⟩ ?_
            clear hK K hS0
            try simp only [Act.put, List.setIfInBounds_toArray, List.set_cons_zero, List.set_cons_succ]
            refine wpTail_cons fun K hK => ?_
            go_simp
            refine hK.out _ _ ⟨(World.cell?_alloc_past _ _ _ hl3).trans e4, (World.cell?_alloc_past _ _ _ hl3).trans e5⟩ ?_
            clear hK K
            try simp only [Act.put, List.setIfInBounds_toArray, List.set_cons_zero, List.set_cons_succ]
            refine wpTail_cons fun K hK => ?_
            refine step_push rfl _ _ 22 rfl oI.ok Try.underlying22 infoI64 rfl w3 hd3.out.pls z [] ⟨rfl, rfl⟩ (by simp) (by have := hPl2.out; omega) (by have := hPl2.out; unfold maxLen; omega) rfl rfl rfl ?_
            intro v5 w5 S5 ho5 hn5 hS5
            obtain ⟨a12, n12, c12, rfl⟩ := ho5.isSlice
            obtain ⟨hbx5, hon5, hd5⟩ := hd3.out.pushP ho5 hn5 hS5
            have f5 := frozen_at hbx5 5
            have e6 := heap_cell hbx5 (i := 4) rfl
            have e7 := heap_cell hbx5 (i := 5) rfl
            have Hd5 := Lib.hid hd5
            clear ho5 hn5 hS5 hbx5 hon5 hd5
            refine hK.out _ _ ⟨e6, e7⟩ ?_
            clear hK K
            try simp only [Act.put, List.setIfInBounds_toArray, List.set_cons_zero, List.set_cons_succ]
            refine wpTail_cons fun K hK => ?_
            go_simp
            refine hK.out _ _ ⟨e6, e7⟩ ?_
            clear hK K
            try simp only [Act.put, List.setIfInBounds_toArray, List.set_cons_zero, List.set_cons_succ]
            refine wpTail_one ?_
            go_wp2_with fail
            refine NoPanic.normal ?_
            clear e4 e5 e6 e7 f5
            generalize w5.setCell ⟨w1.heap.size + 1 + 1, 5, none⟩ (.slice a12 n12 c12) = W9 at *
            go_wp2
            go_roundw
            case rel => exact ⟨i + 1, Pl ++ [z], _, _, by omega, by go_num, Lib.hid (by rw [List.length_append, hPl.out]; rfl), hPd2, Hd5⟩
            case measure => simp [intOf]; omega
          · obtain ⟨hie⟩ : Nonempty (i = NP) := ⟨by omega⟩
            have hch := Lib.hid (show DCh NS NB NP ⟨NB, NS, sa, so, T, Pl⟩ from ⟨rfl, rfl, hsa1, hso1, by show 1 ≤ T.length ∧ T.length ≤ 3; rw [hTk.out]; exact hkn, hTd.out, by show Pl.length = NP; rw [hPl.out, hie], fun q hq => by
              show 0 ≤ nth Pl q ∧ nth Pl q < (T.length : Int)
              rw [hTk.out]
              exact hPd.out q (by rw [hPl.out]; omega)⟩)
            have d0 := heap_cell hd.out.box (i := 0) rfl
            have d1 := heap_cell hd.out.box (i := 1) rfl
            have d2 := heap_cell hd.out.box (i := 2) rfl
            have d3 := heap_cell hd.out.box (i := 3) rfl
            have d4 := heap_cell hd.out.box (i := 4) rfl
            have d5 := heap_cell hd.out.box (i := 5) rfl
            have z0 := heap_cell hd.out.zero (i := 0) rfl
            have z1 := heap_cell hd.out.zero (i := 1) rfl
            have z2 := heap_cell hd.out.zero (i := 2) rfl
            have z3 := heap_cell hd.out.zero (i := 3) rfl
            have z4 := heap_cell hd.out.zero (i := 4) rfl
            have z5 := heap_cell hd.out.zero (i := 5) rfl
            have f0 := frozen_at hd.out.zero 0
            have f1 := frozen_at hd.out.zero 1
            have f2 := frozen_at hd.out.zero 2
            have f3 := frozen_at hd.out.zero 3
            have f4 := frozen_at hd.out.zero 4
            have f5 := frozen_at hd.out.zero 5
            clear hie
            go_wp2
            refine bodyPost_ret (v := .agg #[.int .i64 NB, .int .i64 NS, .int .i64 sa, .int .i64 so, .slice a10 n10 c10, .slice a8 n8 c8]) (by simp [results, Try.results94, go_sem, z0, z1, z2, z3, z4, z5]) rfl ⟨_, ⟨NB, NS, sa, so, T, Pl⟩, NS, rfl, ?_⟩
            exact ⟨(DS.done hd.out (by repeat' (first | with_reducible exact Only.refl _ _ | with_reducible refine Only.put ?_ ?_ _ _ | (simp; done)))).1, (DS.done hd.out (by repeat' (first | with_reducible exact Only.refl _ _ | with_reducible refine Only.put ?_ ?_ _ _ | (simp; done)))).2, hNS, hch.out⟩
  · have eN : NS = NB := by simp at eNS; omega
    clear eNS
    subst NS
    go_wp2_with fail
    have HD6 := Lib.hid (HD5.out.put 1 (.int .i64 NB) rfl)
    clear g1 f1
    generalize w5.setCell ⟨w1.heap.size + 1 + 1, 1, none⟩ (.int .i64 NB) = w6 at *
    have HD7 := Lib.hid (HD6.out)
    refine (srcPick HD7.out.src (by omega) NB (by omega)).mono ?_
    rintro e w7 ⟨⟨sa, hsa, rfl⟩, hs7, ho7⟩
    have hsa1 : 0 ≤ sa ∧ sa < NB := ⟨hsa.1, by have h1 := hsa.2.1; have h2 := hsa.2.2; omega⟩
    have HD8 := Lib.hid (HD7.out.ask (hs7.more (show _ ≤ A + 6 by omega)) ho7)
    have g1 := heap_cell HD8.out.box (i := 1) rfl
    have g2 := heap_cell HD8.out.box (i := 2) rfl
    have f2 := frozen_at HD8.out.box 2
    clear hsa hs7 ho7 HD6 HD7
    go_wp2_with fail
    have HD9 := Lib.hid (HD8.out.put 2 (.int .i64 sa) rfl)
    clear g1 g2 f2 HD8
    generalize w7.setCell ⟨w1.heap.size + 1 + 1, 2, none⟩ (.int .i64 sa) = w8 at *
    refine (srcPick HD9.out.src (by omega) NB (by omega)).mono ?_
    rintro e w9 ⟨⟨so, hso, rfl⟩, hs9, ho9⟩
    have hso1 : 0 ≤ so ∧ so < NB := ⟨hso.1, by have h1 := hso.2.1; have h2 := hso.2.2; omega⟩
    have HD10 := Lib.hid (HD9.out.ask (hs9.more (show _ ≤ A + 8 by omega)) ho9)
    have g3 := heap_cell HD10.out.box (i := 3) rfl
    have f3 := frozen_at HD10.out.box 3
    clear hso hs9 ho9 HD9
    go_wp2_with fail
    have HD11 := Lib.hid (HD10.out.put 3 (.int .i64 so) rfl)
    clear g3 f3 HD10
    generalize w9.setCell ⟨w1.heap.size + 1 + 1, 3, none⟩ (.int .i64 so) = w10 at *
    refine (srcPick HD11.out.src (by omega) 3 (by omega)).mono ?_
    rintro e w11 ⟨⟨k3, hk3, rfl⟩, hs11, ho11⟩
    obtain ⟨kn, rfl⟩ : ∃ n : Nat, k3 = (n : Int) - 1 := ⟨(k3 + 1).toNat, by have := hk3.1; omega⟩
    have hkn : 1 ≤ kn ∧ kn ≤ 3 := by have := hk3.1; have := hk3.2.1 (by omega); omega
    have HD12 := Lib.hid (HD11.out.ask (hs11.more (show _ ≤ A + 10 + 500 * 0 by omega)) ho11)
    have hm4 : (1 : Int) + ((kn : Int) - 1) = kn := by omega
    clear hk3 hs11 ho11 HD11
    go_wp2_with fail
    clear hm4
    go_loopw [8] (fun kv wr => ∃ (k j : Nat) (T : List (List (List Int))) (tv pv : Value) (S1 S2 : List Nat), kv = .int .i64 k ∧ k + j = kn ∧ Hid (T.length = j) ∧ Hid (TabsD NB NB T) ∧ Hid (DS B b (A + 10 + 500 * j) (w1.heap.size + 1 + 1) w NB NB sa so T [] tv pv S1 S2 wr)) (fun kv _ => (intOf kv).toNat)
    case atStart => exact ⟨kn, 0, [], _, _, _, _, rfl, by omega, Lib.hid rfl, Lib.hid (fun i hi => by simp at hi), HD12⟩
    case round =>
      clear HD12
      obtain ⟨k, j, T, tv, pv, S1, S2, rfl, hkj, hTl, hTd, hd⟩ := hrel
      obtain ⟨W2, rfl⟩ : ∃ W2, W2 = wr := ⟨_, rfl⟩
      obtain ⟨a10, n10, c10, rfl⟩ := hd.out.tabs.isSlice
      obtain ⟨a8, n8, c8, rfl⟩ := hd.out.pls.isSlice
      have hbl := hd.out.bxlt
      by_cases hk0 : 0 < k
      · obtain ⟨k, rfl⟩ : ∃ q, k = q + 1 := ⟨k - 1, by omega⟩
        have hkn2 : ((k + 1 : Nat) : Int) - 1 = (k : Int) := by omega
        have hkp : (0 : Int) < ((k + 1 : Nat) : Int) := by omega
        have hTl2 := Lib.hid (show T.length ≤ 3 by have := hTl.out; omega)
        have e4 := heap_cell hd.out.box (i := 4) rfl
        have e1 := heap_cell hd.out.box (i := 1) rfl
        have hcl := Lib.hid (fun q => specDrawTable (hd.out.drew q).src (by omega) NB NB (by omega) (by omega))
        have hS0 : W2.drew.cell? ⟨w1.heap.size + 1 + 1, 4, none⟩ = some (.slice a10 n10 c10) ∧ W2.drew.cell? ⟨w1.heap.size + 1 + 1, 1, none⟩ = some (.int .i64 NB) := ⟨e4, e1⟩
        go_wp2
        refine wp_region_float 6 (fun w' => w'.cell? ⟨w1.heap.size + 1 + 1, 4, none⟩ = some (.slice a10 n10 c10) ∧ w'.cell? ⟨w1.heap.size + 1 + 1, 1, none⟩ = some (.int .i64 NB)) (by kernel_rfl) (by kernel_rfl) hS0 ?_
        clear hS0 e4 e1
        intro hS0
        simp only [List.take_succ_cons, List.take_zero, List.drop_succ_cons, List.drop_zero]
        iterate 6 (refine wpReads_cons _ (by rfl) (by intro w' hSw; (try dsimp only at hSw); go_simp; try (with_reducible rfl)) ?_; try simp only [Act.put, List.setIfInBounds_toArray, List.set_cons_zero, List.set_cons_succ])
        refine wpReads_nil ?_
        refine wpTail_cons fun K hK => ?_
        go_simp
        refine (Calls.mono (hcl.out 1) ?_)
        rintro e w3 ⟨v7, t7, rfl, ⟨S7, hr7, hS7⟩, hs3, ho3, htl7, htd7⟩
        obtain ⟨a7, n7, c7, rfl⟩ := hr7.isSlice
        have hd3 := Lib.hid ((hd.out.drew 1).ask (hs3.more (show _ ≤ A + 10 + 500 * (j + 1) by omega)) ho3)
        have e4 := heap_cell hd3.out.box (i := 4) rfl
        have e1 := heap_cell hd3.out.box (i := 1) rfl
        have hl3 := hd3.out.bxlt
        have hT7 := Lib.hid (show ∀ q ∈ S7, (w.heap.size < q ∧ q ≠ w1.heap.size + 1 + 1) ∧ q ∉ S2 from fun q hq => by
          have h1 : W2.heap.size ≤ q := hS7 q hq
          have h2 := hd.out.hbx
          exact ⟨by omega, fun hm => by have := OI.ok.lt hd.out.pls q hm; omega⟩)
        have hdis := Lib.hid (show ∀ q ∈ S7, q ∉ S1 from fun q hq hm => by
          have h1 : W2.heap.size ≤ q := hS7 q hq
          have := OIII.ok.lt hd.out.tabs q hm; omega)
        have Hr7 := Lib.hid hr7
        have hTd2 := Lib.hid (hTd.out.snoc htl7 htd7)
        clear hr7 hS7 hs3 ho3 htl7 htd7
        refine hK.out _ _ ⟨e4, e1⟩ ?_
        clear hK K hS0
        try simp only [Act.put, List.setIfInBounds_toArray, List.set_cons_zero, List.set_cons_succ]
        refine wpTail_cons fun K hK => ?_
        go_simp
        refine hK.out _ _ ⟨(World.cell?_alloc_past _ _ _ hl3).trans e4, (World.cell?_alloc_past _ _ _ hl3).trans e1⟩ ?_
        clear hK K
        try simp only [Act.put, List.setIfInBounds_toArray, List.set_cons_zero, List.set_cons_succ]
        refine wpTail_cons fun K hK => ?_
        refine step_push rfl _ _ 26 rfl OII.ok Try.underlying26 infoSl3U rfl w3 hd3.out.tabs t7 S7 Hr7.out hdis.out (by have := hTl2.out; omega) (by have := hTl2.out; unfold maxLen; omega) rfl rfl rfl ?_
        intro v5 w5 S5 ho5 hn5 hS5
        obtain ⟨a12, n12, c12, rfl⟩ := ho5.isSlice
        obtain ⟨hbx5, hon5, hd5⟩ := hd3.out.pushT hT7.out ho5 hn5 hS5
        have f5 := frozen_at hbx5 4
        have e5 := heap_cell hbx5 (i := 4) rfl
        have e6 := heap_cell hbx5 (i := 1) rfl
        have Hd5 := Lib.hid hd5
        clear ho5 hn5 hS5 hbx5 hon5 hd5
        refine hK.out _ _ ⟨e5, e6⟩ ?_
        clear hK K
        try simp only [Act.put, List.setIfInBounds_toArray, List.set_cons_zero, List.set_cons_succ]
        refine wpTail_cons fun K hK => ?_
        go_simp
        refine hK.out _ _ ⟨e5, e6⟩ ?_
        clear hK K
        try simp only [Act.put, List.setIfInBounds_toArray, List.set_cons_zero, List.set_cons_succ]
        refine wpTail_one ?_
        go_wp2_with fail
        refine NoPanic.normal ?_
        clear e4 e1 e5 e6 f5
        generalize w5.setCell ⟨w1.heap.size + 1 + 1, 4, none⟩ (.slice a12 n12 c12) = W9 at *
        go_wp2
        go_roundw
        case rel => exact ⟨k, j + 1, T ++ [t7], _, _, _, _, by first | rfl | go_num, by omega, Lib.hid (by rw [List.length_append, hTl.out]; rfl), hTd2, Hd5⟩
        case measure => simp [intOf]
      · obtain rfl : k = 0 := by omega
        have hTk := Lib.hid (show T.length = kn by rw [hTl.out]; omega)
        have Hd2 := Lib.hid (hd.out.more (show A + 10 + 500 * j ≤ A + 2000 + 2 * 0 by omega))
        clear hd hkj hTl
        rw [show ((0 : Nat) : Int) = 0 from rfl]
        go_wp2
        go_loopw [9] (fun iv wr => ∃ (i : Nat) (Pl : List Int) (pv : Value) (S2 : List Nat), i ≤ NP ∧ iv = .int .i64 i ∧ Hid (Pl.length = i) ∧ Hid (∀ q, q < Pl.length → 0 ≤ nth Pl q ∧ nth Pl q < (kn : Int)) ∧ Hid (DS B b (A + 2000 + 2 * i) (w1.heap.size + 1 + 1) w NB NB sa so T Pl (.slice a10 n10 c10) pv S1 S2 wr)) (fun iv _ => NP - (intOf iv).toNat)
        case atStart => exact ⟨0, [], _, _, Nat.zero_le _, rfl, Lib.hid rfl, Lib.hid (fun q hq => by simp at hq), Hd2⟩
        case round =>
          clear Hd2
          obtain ⟨i, Pl, pv, S2', hiN, rfl, hPl, hPd, hd⟩ := hrel
          obtain ⟨W3, rfl⟩ : ∃ W3, W3 = wr := ⟨_, rfl⟩
          obtain ⟨a8, n8, c8, rfl⟩ := hd.out.pls.isSlice
          have hbl3 := hd.out.bxlt
          by_cases hin : i < NP
          · have hin2 : (i : Int) < (NP : Int) := by omega
            have hn10 : n10 = kn := by
              obtain ⟨a, c, e, _, _⟩ := (OIII.leads.to _ _ _ _ (fun _ => True) hd.out.tabs (fun _ _ => trivial)).isSlice
              simp only [Value.slice.injEq] at e
              rw [e.2.1, hTk.out]
            have hPl2 := Lib.hid (show Pl.length ≤ 4 by have := hPl.out; omega)
            have e4 := heap_cell hd.out.box (i := 4) rfl
            have e5 := heap_cell hd.out.box (i := 5) rfl
            have hcl := Lib.hid (fun q => srcPick (hd.out.drew q).src (by omega) n10 (by omega))
            have Hn10 := Lib.hid hn10; clear hn10
            have hS0 : W3.drew.cell? ⟨w1.heap.size + 1 + 1, 4, none⟩ = some (.slice a10 n10 c10) ∧ W3.drew.cell? ⟨w1.heap.size + 1 + 1, 5, none⟩ = some (.slice a8 n8 c8) := ⟨e4, e5⟩
            go_wp2
            refine wp_region_float 6 (fun w' => w'.cell? ⟨w1.heap.size + 1 + 1, 4, none⟩ = some (.slice a10 n10 c10) ∧ w'.cell? ⟨w1.heap.size + 1 + 1, 5, none⟩ = some (.slice a8 n8 c8)) (by kernel_rfl) (by kernel_rfl) hS0 ?_
            clear hS0 e4 e5
            intro hS0
            simp only [List.take_succ_cons, List.take_zero, List.drop_succ_cons, List.drop_zero]
            iterate 6 (refine wpReads_cons _ (by rfl) (by intro w' hSw; (try dsimp only at hSw); go_simp; try (with_reducible rfl)) ?_; try simp only [Act.put, List.setIfInBounds_toArray, List.set_cons_zero, List.set_cons_succ])
            refine wpReads_nil ?_
            refine wpTail_cons fun K hK => ?_
            go_simp
            refine (Calls.mono (hcl.out 1) ?_)
            rintro e w3 ⟨⟨z, hz, rfl⟩, hs3, ho3⟩
            have hz1 : 0 ≤ z ∧ z < (kn : Int) := ⟨hz.1, by have h1 := hz.2.1; have h2 := hz.2.2; have := Hn10.out; omega⟩
            have hd3 := Lib.hid ((hd.out.drew 1).ask (hs3.more (show _ ≤ A + 2000 + 2 * (i + 1) by omega)) ho3)
            have e4 := heap_cell hd3.out.box (i := 4) rfl
            have e5 := heap_cell hd3.out.box (i := 5) rfl
            have hl3 := hd3.out.bxlt
            have hPd2 := Lib.hid (show ∀ q, q < (Pl ++ [z]).length → 0 ≤ nth (Pl ++ [z]) q ∧ nth (Pl ++ [z]) q < (kn : Int) from fun q hq => by
              by_cases e : q < Pl.length
              · rw [nth_append_left e]; exact hPd.out q e
              · obtain rfl : q = Pl.length := by simp at hq; omega
                rw [nth_append_last]; exact hz1)
            clear hz hs3 ho3 hz1
            refine hK.out _ _ ⟨e4, e5⟩ ?_
            clear hK K hS0
            try simp only [Act.put, List.setIfInBounds_toArray, List.set_cons_zero, List.set_cons_succ]
            refine wpTail_cons fun K hK => ?_
            go_simp
            refine hK.out _ _ ⟨(World.cell?_alloc_past _ _ _ hl3).trans e4, (World.cell?_alloc_past _ _ _ hl3).trans e5⟩ ?_
            clear hK K
            try simp only [Act.put, List.setIfInBounds_toArray, List.set_cons_zero, List.set_cons_succ]
            refine wpTail_cons fun K hK => ?_
            refine step_push rfl _ _ 22 rfl oI.ok Try.underlying22 infoI64 rfl w3 hd3.out.pls z [] ⟨rfl, rfl⟩ (by simp) (by have := hPl2.out; omega) (by have := hPl2.out; unfold maxLen; omega) rfl rfl rfl ?_
            intro v5 w5 S5 ho5 hn5 hS5
            obtain ⟨a12, n12, c12, rfl⟩ := ho5.isSlice
            obtain ⟨hbx5, hon5, hd5⟩ := hd3.out.pushP ho5 hn5 hS5
            have f5 := frozen_at hbx5 5
            have e6 := heap_cell hbx5 (i := 4) rfl
            have e7 := heap_cell hbx5 (i := 5) rfl
            have Hd5 := Lib.hid hd5
            clear ho5 hn5 hS5 hbx5 hon5 hd5
            refine hK.out _ _ ⟨e6, e7⟩ ?_
            clear hK K
            try simp only [Act.put, List.setIfInBounds_toArray, List.set_cons_zero, List.set_cons_succ]
            refine wpTail_cons fun K hK => ?_
            go_simp
            refine hK.out _ _ ⟨e6, e7⟩ ?_
            clear hK K
            try simp only [Act.put, List.setIfInBounds_toArray, List.set_cons_zero, List.set_cons_succ]
            refine wpTail_one ?_
            go_wp2_with fail
            refine NoPanic.normal ?_
            clear e4 e5 e6 e7 f5
            generalize w5.setCell ⟨w1.heap.size + 1 + 1, 5, none⟩ (.slice a12 n12 c12) = W9 at *
            go_wp2
            go_roundw
            case rel => exact ⟨i + 1, Pl ++ [z], _, _, by omega, by go_num, Lib.hid (by rw [List.length_append, hPl.out]; rfl), hPd2, Hd5⟩
            case measure => simp [intOf]; omega
          · obtain ⟨hie⟩ : Nonempty (i = NP) := ⟨by omega⟩
            have hch := Lib.hid (show DCh NB NB NP ⟨NB, NB, sa, so, T, Pl⟩ from ⟨rfl, rfl, hsa1, hso1, by show 1 ≤ T.length ∧ T.length ≤ 3; rw [hTk.out]; exact hkn, hTd.out, by show Pl.length = NP; rw [hPl.out, hie], fun q hq => by
              show 0 ≤ nth Pl q ∧ nth Pl q < (T.length : Int)
              rw [hTk.out]
              exact hPd.out q (by rw [hPl.out]; omega)⟩)
            have d0 := heap_cell hd.out.box (i := 0) rfl
            have d1 := heap_cell hd.out.box (i := 1) rfl
            have d2 := heap_cell hd.out.box (i := 2) rfl
            have d3 := heap_cell hd.out.box (i := 3) rfl
            have d4 := heap_cell hd.out.box (i := 4) rfl
            have d5 := heap_cell hd.out.box (i := 5) rfl
            have z0 := heap_cell hd.out.zero (i := 0) rfl
            have z1 := heap_cell hd.out.zero (i := 1) rfl
            have z2 := heap_cell hd.out.zero (i := 2) rfl
            have z3 := heap_cell hd.out.zero (i := 3) rfl
            have z4 := heap_cell hd.out.zero (i := 4) rfl
            have z5 := heap_cell hd.out.zero (i := 5) rfl
            have f0 := frozen_at hd.out.zero 0
            have f1 := frozen_at hd.out.zero 1
            have f2 := frozen_at hd.out.zero 2
            have f3 := frozen_at hd.out.zero 3
            have f4 := frozen_at hd.out.zero 4
            have f5 := frozen_at hd.out.zero 5
            clear hie
            go_wp2
            refine bodyPost_ret (v := .agg #[.int .i64 NB, .int .i64 NB, .int .i64 sa, .int .i64 so, .slice a10 n10 c10, .slice a8 n8 c8]) (by simp [results, Try.results94, go_sem, z0, z1, z2, z3, z4, z5]) rfl ⟨_, ⟨NB, NB, sa, so, T, Pl⟩, NB, rfl, ?_⟩
            exact ⟨(DS.done hd.out (by repeat' (first | with_reducible exact Only.refl _ _ | with_reducible refine Only.put ?_ ?_ _ _ | (simp; done)))).1, (DS.done hd.out (by repeat' (first | with_reducible exact Only.refl _ _ | with_reducible refine Only.put ?_ ?_ _ _ | (simp; done)))).2, hNS, hch.out⟩
end Go.Proofs.Ytnpkanlieflbiaa
