/- EvenChain: the program's walk. Printed by gen_t3.py. -/
import Derived.Test.YtnpkanlieflbiaaT2
import Derived.Deep.DeepCutAuto
import Derived.Deep.RegionWith
import Derived.Deep.RegionHeld3
namespace Go.Proofs.Ytnpkanlieflbiaa
open Go.RowKit
set_option linter.unusedVariables false

theorem drewAt (w : World) (k : Nat) : w.drew.heap[k]? = w.heap[k]? := rfl
/-- Six stores into one block. -/
theorem six_at {w : World} {b : Nat} {v0 v1 v2 v3 v4 v5 : Value} {E : TypeId} (h : w.heap[b]? = some (.cells #[v0, v1, v2, v3, v4, v5] E (0, 0))) (x0 x1 x2 x3 x4 x5 : Value) :
    ((((((w.setCell ⟨b, 0, none⟩ x0).setCell ⟨b, 1, none⟩ x1).setCell ⟨b, 2, none⟩ x2).setCell ⟨b, 3, none⟩ x3).setCell ⟨b, 4, none⟩ x4).setCell ⟨b, 5, none⟩ x5).heap[b]? = some (.cells #[x0, x1, x2, x3, x4, x5] E (0, 0)) := by
  have e0 := heap_setCell_same w b 0 _ _ x0 h
  have e1 := heap_setCell_same _ b 1 _ _ x1 e0
  have e2 := heap_setCell_same _ b 2 _ _ x2 e1
  have e3 := heap_setCell_same _ b 3 _ _ x3 e2
  have e4 := heap_setCell_same _ b 4 _ _ x4 e3
  have e5 := heap_setCell_same _ b 5 _ _ x5 e4
  exact e5
theorem six_old {w : World} {b k : Nat} (h : k ≠ b) (x0 x1 x2 x3 x4 x5 : Value) :
    ((((((w.setCell ⟨b, 0, none⟩ x0).setCell ⟨b, 1, none⟩ x1).setCell ⟨b, 2, none⟩ x2).setCell ⟨b, 3, none⟩ x3).setCell ⟨b, 4, none⟩ x4).setCell ⟨b, 5, none⟩ x5).heap[k]? = w.heap[k]? := by
  rw [keep_set (p := ⟨b, 5, none⟩) h, keep_set (p := ⟨b, 4, none⟩) h, keep_set (p := ⟨b, 3, none⟩) h, keep_set (p := ⟨b, 2, none⟩) h, keep_set (p := ⟨b, 1, none⟩) h, keep_set (p := ⟨b, 0, none⟩) h]
/-- The parts of a chain of one table, wherever they lie. -/
theorem evDone {W1 W w5 wx : World} {t : List (List Int)} {NP : Nat} {a b : Int} {g1 : Option Addr} {n1 c1 gT gP : Nat} (hf : Fresh OII W w5 (.slice g1 n1 c1) t) (hs1 : W1.heap.size ≤ W.heap.size)
    (hT : wx.heap[gT]? = some (.cells #[.slice g1 n1 c1] 38 (0, 0))) (hP : wx.heap[gP]? = some (.cells (madeCells #[.int .i64 0] NP) 2 (0, 0)))
    (hgT : w5.heap.size ≤ gT) (hgP : W1.heap.size ≤ gP ∧ (w5.heap.size ≤ gP ∨ gP < W.heap.size)) (hne : gT ≠ gP) (hk : ∀ k, W.heap.size ≤ k → k < w5.heap.size → wx.heap[k]? = w5.heap[k]?) (hNP : NP ≤ 20) (hb : Below W1.heap.size W1 wx) :
    Fresh OC W1 wx (.agg #[.int .i64 ((nth t 0).length : Int), .int .i64 t.length, .int .i64 a, .int .i64 b, .slice (some ⟨gT, 0, none⟩) 1 1, .slice (some ⟨gP, 0, none⟩) NP NP]) (evC t NP a b) := by
  obtain ⟨S, hS, hS2, hbl⟩ := hf
  have hlt := OII.ok.lt hS
  have hsz := hbl.size
  have ht : OII wx (.slice g1 n1 c1) t S := OII.ok.keep hS fun k hm => hk k (hS2 k hm) (hlt k hm)
  have h1 : OIII wx (.slice (some ⟨gT, 0, none⟩) 1 1) [t] (gT :: S) :=
    .inr ⟨gT, 1, #[.slice g1 n1 c1], [S], rfl, hT, rfl, Nat.le_refl _, by unfold maxLen; omega, by simp, by
      rw [List.nodup_cons]
      exact ⟨fun hm => by have := hlt _ hm; omega, OII.ok.nodup hS⟩, rfl, fun i hi => by
      obtain rfl : i = 0 := by simpa using hi
      exact ⟨_, rfl, ht⟩⟩
  have h2 : OI wx (.slice (some ⟨gP, 0, none⟩) NP NP) (List.replicate NP 0) [gP] := by
    refine .inr ⟨gP, NP, _, List.replicate NP [], by simp, hP, by simp [size_madeCells], by simp, by unfold maxLen; omega, by simp, by simp, by simp, fun i hi => ?_⟩
    have hi' : i < NP := by simpa using hi
    exact ⟨fI 0, by simp [madeCells, hi', Nat.mod_one], by rw [nth_replicate hi'], by rw [nth_replicate hi']⟩
  refine ⟨gT :: S ++ [gP], ⟨_, _, _, _, rfl, h1, by show OI _ _ (List.replicate ((NP : Int)).toNat 0) _; rw [Int.toNat_natCast]; exact h2, rfl, fun k hk hm => ?_⟩, fun k hk => ?_, hb⟩
  · have e : k = gP := by simpa using hm
    rcases List.mem_cons.1 hk with h5 | h5
    · omega
    · have := hlt k h5; have := hS2 k h5; omega
  · rcases List.mem_append.1 hk with h5 | h5
    · rcases List.mem_cons.1 h5 with h6 | h6
      · omega
      · have := hS2 k h6; omega
    · have : k = gP := by simpa using h5
      omega

set_option maxHeartbeats 16000000 in
set_option maxRecDepth 100000 in
theorem implEvenChain {B : Nat} {v : Value} {t : List (List Int)} {w : World} (h : RdII (· < B) w v t) (hB : B ≤ w.heap.size) (hn : szL List.length t ≤ 1048576) (p a b : Int) :
    Calls Try.prog 44 #[v, .int .i64 p, .int .i64 a, .int .i64 b] w fun e w' => ∃ v', e = .returned (.tuple #[v', .bool (evOk t p a b)]) ∧ Fresh OC w w' v' (evV t p a b) := by
  have Hr := Lib.hid h
  obtain ⟨at_, c, rfl, h2, h3⟩ := h.isSlice
  clear h
  unfold maxLen at h3
  have hl : t.length ≤ 1048576 := by have := szL_len List.length t; omega
  by_cases ht : t.length = 0
  · have hv := Lib.hid (ev_t (t := t) (p := p) (a := a) (b := b) (by rw [ht]; rfl))
    have hm := Lib.hid (evV_no hv.out)
    go_enter Try.func44, Try.ntmps44
    go_wp2_with (go_at_call 78; refine (implIn _ _ _ _ (by assumption) _).mono ?_; rintro e w' ⟨rfl, rfl⟩)
    refine bodyPost_ret (v := .tuple #[aggC Chn.nil (.slice none 0 0) (.slice none 0 0), .bool false]) (by simp [results, Try.results44, go_sem, aggC, Chn.nil]) rfl ⟨_, by rw [hv.out], ?_⟩
    rw [hm.out]
    exact nil_fresh (by repeat' (first | with_reducible exact Below.refl _ _ | with_reducible refine Below.alloc ?_ ?_ _ | with_reducible refine Below.setCell ?_ ?_ _ | with_reducible refine Below.drew ?_ | with_reducible refine Below.draws ?_ _ | omega | (simp; done) | (simp; omega)))
  cases hp : inB p 1 20
  · have hv := Lib.hid (ev_p (t := t) (a := a) (b := b) hp)
    have hm := Lib.hid (evV_no hv.out)
    go_enter Try.func44, Try.ntmps44
    go_wp2_with (go_at_call 78; refine (implIn _ _ _ _ (by assumption) _).mono ?_; rintro e w' ⟨rfl, rfl⟩)
    refine bodyPost_ret (v := .tuple #[aggC Chn.nil (.slice none 0 0) (.slice none 0 0), .bool false]) (by simp [results, Try.results44, go_sem, aggC, Chn.nil]) rfl ⟨_, by rw [hv.out], ?_⟩
    rw [hm.out]
    exact nil_fresh (by repeat' (first | with_reducible exact Below.refl _ _ | with_reducible refine Below.alloc ?_ ?_ _ | with_reducible refine Below.setCell ?_ ?_ _ | with_reducible refine Below.drew ?_ | with_reducible refine Below.draws ?_ _ | omega | (simp; done) | (simp; omega)))
  have hpb := inB_true.1 hp
  obtain ⟨NP, rfl⟩ := Int.eq_ofNat_of_zero_le (show 0 ≤ p by omega)
  have hat : Hid (∀ c, vC (evC t NP a b) = c → evOk t NP a b = c) := Lib.hid fun c h => ev_at hp (by omega) h
  have hmk := run_make_row' (P := Try.prog) 22 2 (.int .i64 0) 8 Try.underlying22 infoI64 rfl .i64 .i64 NP (by omega) (by omega)
  obtain ⟨bb, o, a1, c9, rfl, hP, hc, g1, g2, _⟩ := Rd.row Hr.out (show 0 < t.length by omega)
  have hbb : bb < w.heap.size := by have : bb < B := hP; omega
  have hr0 : (nth t 0).length ≤ 1048576 := by have := szL_nth List.length (xs := t) (i := 0) (by omega); omega
  unfold maxLen at g2
  have hc : w.cell? ⟨bb, o, none⟩ = some (.slice a1 (nth t 0).length c9) := hc
  obtain ⟨W1, hW1⟩ : ∃ W1, W1 = w.alloc (.cells #[.int .i64 0, .int .i64 0, .int .i64 0, .int .i64 0, .slice none 0 0, .slice none 0 0] 28) := ⟨_, rfl⟩
  have Hz : Hid (W1.heap[w.heap.size]? = some (.cells #[.int .i64 0, .int .i64 0, .int .i64 0, .int .i64 0, .slice none 0 0, .slice none 0 0] 28 (0, 0))) := Lib.hid (by rw [hW1]; exact heap_alloc_new w _)
  have Hs1 : Hid (W1.heap.size = w.heap.size + 1) := Lib.hid (by rw [hW1]; simp)
  have Hb1 : Hid (Below w.heap.size w W1) := Lib.hid (by rw [hW1]; exact (Below.refl _ _).alloc (Nat.le_refl _) _)
  have HC := Lib.hid (show ∀ W, Below W1.heap.size W1 W → W.cell? ⟨bb, o, none⟩ = some (.slice a1 (nth t 0).length c9) from fun W hW => (hW.cell (p := ⟨bb, o, none⟩) (by show bb < _; have := Hs1.out; omega)).trans ((Hb1.out.cell (p := ⟨bb, o, none⟩) hbb).trans hc))
  have hc1 := HC.out _ (Below.refl _ _)
  have hb1 : bb < W1.heap.size := by have := Hs1.out; omega
  have hb2 : bb < W1.heap.size + 1 := by omega
  have hb3 : bb < W1.heap.size + 1 + 1 := by omega
  have hle1 : w.heap.size < W1.heap.size := by have := Hs1.out; omega
  have hcl : Hid (∀ W, Below W1.heap.size W1 W → Calls Try.prog 99 #[.slice (some ⟨bb, o, none⟩) t.length c] W fun e w' => ∃ g1 n1 c1, e = .returned (.slice g1 n1 c1) ∧ w'.cell? ⟨bb, o, none⟩ = some (.slice a1 (nth t 0).length c9) ∧ bb < w'.heap.size ∧ W.heap.size ≤ w'.heap.size ∧ Hid (Below W1.heap.size W1 w') ∧ Hid (Below W.heap.size W w') ∧ Hid (Fresh OII W w' (.slice g1 n1 c1) t)) := Lib.hid fun W hW => by
    have hW0 := Hb1.out.trans (hW.mono Hb1.out.size)
    refine (implCloneTable (RdII.ok.keep Hr.out fun k hk => hW0.block k (by omega)) (by have := hW0.size; omega) hn).mono ?_
    rintro e w' ⟨v', rfl, hf⟩
    obtain ⟨g1, n1, c1, rfl⟩ := hf.choose_spec.1.isSlice
    have hb := hW.trans (hf.bel.mono hW.size)
    have := hb.size
    exact ⟨g1, n1, c1, rfl, HC.out _ hb, by omega, hf.bel.size, Lib.hid hb, Lib.hid hf.bel, Lib.hid hf⟩
  have HW1 := Lib.hid hW1
  have hlp0 : (0 : Int) < (t.length : Int) := by omega
  have hlp1 : ¬ t = [] := fun h => by rw [h] at ht; exact ht rfl
  have hlp2 : 0 < t.length := by omega
  have hsc := Lib.hid (show ∀ W, Below W1.heap.size W1 W → W.cell? ⟨bb, o, none⟩ = some (.slice a1 (nth t 0).length c9) ∧ Below W1.heap.size W1 W from fun W hW => ⟨HC.out W hW, hW⟩)
  clear hP hc hW1
  go_enter Try.func44, Try.ntmps44
  go_upto_region 3 with (go_at_call 78; refine (implIn _ _ _ _ (by assumption) _).mono ?_; rintro e w' ⟨rfl, rfl⟩)
  rw [← HW1.out]
  go_cut [10] (fun s10 wx => ∃ (bx g1 c1 g2 c2 : Nat), s10 = .pointer (some ⟨bx, 0, none⟩) ∧ W1.heap.size ≤ bx ∧ wx.heap[bx]? = some (.cells #[.int .i64 ((nth t 0).length : Int), .int .i64 t.length, .int .i64 a, .int .i64 b, .slice (some ⟨g1, 0, none⟩) 1 c1, .slice (some ⟨g2, 0, none⟩) NP c2] 28 (0, 0)) ∧
    Fresh OC W1 wx (.agg #[.int .i64 ((nth t 0).length : Int), .int .i64 t.length, .int .i64 a, .int .i64 b, .slice (some ⟨g1, 0, none⟩) 1 c1, .slice (some ⟨g2, 0, none⟩) NP c2]) (evC t NP a b))
  case first =>
    go_region_held3 (fun w' => w'.cell? ⟨bb, o, none⟩ = some (.slice a1 (nth t 0).length c9) ∧ Below W1.heap.size W1 w') ((refine hsc.out _ ?_; repeat' (first | with_reducible exact Hb5.out | with_reducible exact Below.refl _ _ | with_reducible refine Below.drew ?_ | with_reducible refine Below.alloc ?_ ?_ _ | with_reducible refine Below.setCell ?_ ?_ _ | (show _ ≤ _; have h5 := Hb5.out.size; simp; omega) | (show _ ≤ _; simp; omega) | (show _ ≤ _; simp)))) (first
      | (with_reducible refine (Calls.mono (hcl.out _ (‹_ ∧ Below W1.heap.size W1 _›).2) ?_); rintro e w5 ⟨g1, n1, c1, rfl, hc5, hs5, hq5, Hb5, Hk5, Hf5⟩; have s5 := hsc.out _ Hb5.out; (try (have hy1 := below_heap Hk5.out (k := W1.heap.size) (o := (.cells #[.int .i64 0, .int .i64 0, .int .i64 0, .int .i64 0, .slice none 0 0, .slice none 0 0] 28 (0, 0))) (by first | exact (drewAt _ _).trans (heap_alloc_new _ _) | exact (drewAt _ _).trans ((alloc_old (by simp only [alloc_size]; omega)).trans (heap_alloc_new _ _))); have ly1 := heap_lt hy1; have y0 := heap_cell hy1 (i := 0) rfl; have v0 := frozen_at hy1 0; have y1 := heap_cell hy1 (i := 1) rfl; have v1 := frozen_at hy1 1; have y2 := heap_cell hy1 (i := 2) rfl; have v2 := frozen_at hy1 2; have y3 := heap_cell hy1 (i := 3) rfl; have v3 := frozen_at hy1 3; have y4 := heap_cell hy1 (i := 4) rfl; have v4 := frozen_at hy1 4; have y5 := heap_cell hy1 (i := 5) rfl; have v5 := frozen_at hy1 5; have Hy1 := Lib.hid hy1; clear hy1)); (try (have hy2 := below_heap Hk5.out (k := W1.heap.size + 1) (o := (.cells #[.int .i64 0, .int .i64 0, .int .i64 0, .int .i64 0, .slice none 0 0, .slice none 0 0] 28 (0, 0))) (by exact (drewAt _ _).trans (alloc_at (by simp only [alloc_size]))); have ly2 := heap_lt hy2; have y0 := heap_cell hy2 (i := 0) rfl; have v0 := frozen_at hy2 0; have y1 := heap_cell hy2 (i := 1) rfl; have v1 := frozen_at hy2 1; have y2 := heap_cell hy2 (i := 2) rfl; have v2 := frozen_at hy2 2; have y3 := heap_cell hy2 (i := 3) rfl; have v3 := frozen_at hy2 3; have y4 := heap_cell hy2 (i := 4) rfl; have v4 := frozen_at hy2 4; have y5 := heap_cell hy2 (i := 5) rfl; have v5 := frozen_at hy2 5; have Hy2 := Lib.hid hy2; clear hy2)); (try (have hp1 := below_heap Hk5.out (k := W1.heap.size) (o := (.cells (madeCells #[.int .i64 0] NP) 2 (0, 0))) (by first | exact (drewAt _ _).trans (heap_alloc_new _ _) | exact (drewAt _ _).trans ((alloc_old (by simp only [alloc_size]; omega)).trans (heap_alloc_new _ _))); have Hp1 := Lib.hid hp1; clear hp1)); (try (have hp2 := below_heap Hk5.out (k := W1.heap.size + 1) (o := (.cells (madeCells #[.int .i64 0] NP) 2 (0, 0))) (by exact (drewAt _ _).trans (alloc_at (by simp only [alloc_size]))); have Hp2 := Lib.hid hp2; clear hp2))))
    all_goals (go_wp2_with fail)
    all_goals go_meet
    all_goals clear s5
    all_goals simp only [alloc_size, drewSz] at hq5
    all_goals
      repeat apply Exists.intro
      refine ⟨rfl, ?le, ?box, ?fr⟩
      case box => (repeat' (first | with_reducible rfl | ((with_reducible refine alloc_at ?_); · (first | (simp only [alloc_size]; done) | (simp only [alloc_size, setCell_size3]; done))) | with_reducible exact Hp1.out | with_reducible exact Hp2.out | with_reducible exact six_at Hy1.out _ _ _ _ _ _ | with_reducible exact six_at Hy2.out _ _ _ _ _ _ | ((with_reducible refine (alloc_old ?_).trans ?_); · (first | omega | (simp only [alloc_size]; omega) | (simp only [alloc_size, setCell_size3]; omega))) | ((with_reducible refine (six_old ?_ _ _ _ _ _ _).trans ?_); · omega)))
      case le => omega
      case fr =>
        refine evDone Hf5.out ?_ ?_ ?_ ?_ ?_ ?_ ?_ (by omega) ?_
        · (first | exact Nat.le_refl _ | (simp only [alloc_size, drewSz]; omega))
        · (repeat' (first | with_reducible rfl | ((with_reducible refine alloc_at ?_); · (first | (simp only [alloc_size]; done) | (simp only [alloc_size, setCell_size3]; done))) | with_reducible exact Hp1.out | with_reducible exact Hp2.out | with_reducible exact six_at Hy1.out _ _ _ _ _ _ | with_reducible exact six_at Hy2.out _ _ _ _ _ _ | ((with_reducible refine (alloc_old ?_).trans ?_); · (first | omega | (simp only [alloc_size]; omega) | (simp only [alloc_size, setCell_size3]; omega))) | ((with_reducible refine (six_old ?_ _ _ _ _ _ _).trans ?_); · omega)))
        · (repeat' (first | with_reducible rfl | ((with_reducible refine alloc_at ?_); · (first | (simp only [alloc_size]; done) | (simp only [alloc_size, setCell_size3]; done))) | with_reducible exact Hp1.out | with_reducible exact Hp2.out | with_reducible exact six_at Hy1.out _ _ _ _ _ _ | with_reducible exact six_at Hy2.out _ _ _ _ _ _ | ((with_reducible refine (alloc_old ?_).trans ?_); · (first | omega | (simp only [alloc_size]; omega) | (simp only [alloc_size, setCell_size3]; omega))) | ((with_reducible refine (six_old ?_ _ _ _ _ _ _).trans ?_); · omega)))
        · omega
        · (first | omega | (simp only [alloc_size, drewSz]; omega))
        · omega
        · (intro k hk1 hk2; (try simp only [alloc_size, drewSz] at hk1); repeat' (first | with_reducible rfl | ((with_reducible refine alloc_at ?_); · (first | (simp only [alloc_size]; done) | (simp only [alloc_size, setCell_size3]; done))) | with_reducible exact Hp1.out | with_reducible exact Hp2.out | with_reducible exact six_at Hy1.out _ _ _ _ _ _ | with_reducible exact six_at Hy2.out _ _ _ _ _ _ | ((with_reducible refine (alloc_old ?_).trans ?_); · (first | omega | (simp only [alloc_size]; omega) | (simp only [alloc_size, setCell_size3]; omega))) | ((with_reducible refine (six_old ?_ _ _ _ _ _ _).trans ?_); · omega)))
        · (repeat' (first | with_reducible exact Hb5.out | with_reducible refine Below.alloc ?_ ?_ _ | with_reducible refine Below.setCell ?_ ?_ _ | omega | (simp only [alloc_size, setCell_size3]; omega) | (dsimp only; omega)))
  case rest =>
    obtain ⟨bx, g1, c1, g2, c2, rfl, hbx, hbox, hf⟩ := hcut
    have Hf := Lib.hid hf
    have Hbox := Lib.hid hbox
    have hr := hf.choose_spec.1
    have Hrd := Lib.hid (OC.leads.to _ _ _ _ (· < wc.heap.size) hr (OC.ok.lt hr))
    have hbw := heap_lt hbox
    clear hf hbox hr
    have e0 := heap_cell Hbox.out (i := 0) rfl
    have e1 := heap_cell Hbox.out (i := 1) rfl
    have e2 := heap_cell Hbox.out (i := 2) rfl
    have e3 := heap_cell Hbox.out (i := 3) rfl
    have e4 := heap_cell Hbox.out (i := 4) rfl
    have e5 := heap_cell Hbox.out (i := 5) rfl
    have hcl2 : Hid (∀ bb2, vC (evC t NP a b) = bb2 → Calls Try.prog 95 #[.agg #[.int .i64 ((nth t 0).length : Int), .int .i64 t.length, .int .i64 a, .int .i64 b, .slice (some ⟨g1, 0, none⟩) 1 c1, .slice (some ⟨g2, 0, none⟩) NP c2]] wc fun e w7 => e = .returned (.bool bb2) ∧
      w7.heap[bx]? = some (.cells #[.int .i64 ((nth t 0).length : Int), .int .i64 t.length, .int .i64 a, .int .i64 b, .slice (some ⟨g1, 0, none⟩) 1 c1, .slice (some ⟨g2, 0, none⟩) NP c2] 28 (0, 0)) ∧ w7.heap[w.heap.size]? = some (.cells #[.int .i64 0, .int .i64 0, .int .i64 0, .int .i64 0, .slice none 0 0, .slice none 0 0] 28 (0, 0)) ∧ Below w.heap.size w w7 ∧
      Fresh OC W1 w7 (.agg #[.int .i64 ((nth t 0).length : Int), .int .i64 t.length, .int .i64 a, .int .i64 b, .slice (some ⟨g1, 0, none⟩) 1 c1, .slice (some ⟨g2, 0, none⟩) NP c2]) (evC t NP a b)) := Lib.hid fun bb2 hbb2 => by
      refine (implValidChainP (B := wc.heap.size) Hrd.out (Nat.le_refl _) (by show (List.replicate ((NP : Int)).toNat (0 : Int)).length ≤ _; simp; omega) bb2 hbb2).mono ?_
      rintro e w7 ⟨rfl, hb7⟩
      exact ⟨rfl, below_heap hb7 Hbox.out, below_heap hb7 (below_heap Hf.out.bel Hz.out), (Hb1.out.trans (Hf.out.bel.mono Hb1.out.size)).trans (hb7.mono (by have := Hf.out.bel.size; omega)), Hf.out.stayF OC.ok hb7⟩
    cases hv : vC (evC t NP a b)
    · have Hv := Lib.hid (hat.out _ hv)
      have hm := Lib.hid (evV_no Hv.out)
      have HC2 := Lib.hid (hcl2.out _ hv)
      clear hv
      go_wp2_with fail
      refine (Calls.mono HC2.out ?_)
      rintro e w7 ⟨rfl, hb7, hz7, hbel7, _⟩
      have Hz7 := Lib.hid hz7
      have Hb7 := Lib.hid hb7
      clear e0 e1 e2 e3 e4 e5
      have z0 := heap_cell Hz7.out (i := 0) rfl
      have z1 := heap_cell Hz7.out (i := 1) rfl
      have z2 := heap_cell Hz7.out (i := 2) rfl
      have z3 := heap_cell Hz7.out (i := 3) rfl
      have z4 := heap_cell Hz7.out (i := 4) rfl
      have z5 := heap_cell Hz7.out (i := 5) rfl
      have f0 := frozen_at Hz7.out 0
      have f1 := frozen_at Hz7.out 1
      have f2 := frozen_at Hz7.out 2
      have f3 := frozen_at Hz7.out 3
      have f4 := frozen_at Hz7.out 4
      have f5 := frozen_at Hz7.out 5
      have Hbel := Lib.hid hbel7
      clear hb7 hz7 hbel7
      go_wp2
      refine bodyPost_ret (v := .tuple #[aggC Chn.nil (.slice none 0 0) (.slice none 0 0), .bool false]) (by simp [results, Try.results44, go_sem, aggC, Chn.nil, z0, z1, z2, z3, z4, z5]) rfl ⟨_, by rw [Hv.out], ?_⟩
      rw [hm.out]
      refine nil_fresh (Hbel.out.trans ?_)
      repeat' (first | with_reducible exact Below.refl _ _ | with_reducible refine Below.alloc ?_ ?_ _ | with_reducible refine Below.setCell ?_ ?_ _ | with_reducible refine Below.drew ?_ | with_reducible refine Below.draws ?_ _ | omega | (simp; done) | (simp; omega))
    · have Hv := Lib.hid (hat.out _ hv)
      have hm := Lib.hid (evV_yes Hv.out)
      have HC2 := Lib.hid (hcl2.out _ hv)
      clear hv
      go_wp2_with fail
      refine (Calls.mono HC2.out ?_)
      rintro e w7 ⟨rfl, hb7, hz7, hbel7, hf7⟩
      have Hz7 := Lib.hid hz7
      have Hb7 := Lib.hid hb7
      clear e0 e1 e2 e3 e4 e5
      have z0 := heap_cell Hz7.out (i := 0) rfl
      have z1 := heap_cell Hz7.out (i := 1) rfl
      have z2 := heap_cell Hz7.out (i := 2) rfl
      have z3 := heap_cell Hz7.out (i := 3) rfl
      have z4 := heap_cell Hz7.out (i := 4) rfl
      have z5 := heap_cell Hz7.out (i := 5) rfl
      have d0 := heap_cell Hb7.out (i := 0) rfl
      have d1 := heap_cell Hb7.out (i := 1) rfl
      have d2 := heap_cell Hb7.out (i := 2) rfl
      have d3 := heap_cell Hb7.out (i := 3) rfl
      have d4 := heap_cell Hb7.out (i := 4) rfl
      have d5 := heap_cell Hb7.out (i := 5) rfl
      have f0 := frozen_at Hz7.out 0
      have f1 := frozen_at Hz7.out 1
      have f2 := frozen_at Hz7.out 2
      have f3 := frozen_at Hz7.out 3
      have f4 := frozen_at Hz7.out 4
      have f5 := frozen_at Hz7.out 5
      have hf8 := Lib.hid hf7
      clear hb7 hz7 hbel7 hf7
      go_wp2
      refine bodyPost_ret (v := .tuple #[.agg #[.int .i64 ((nth t 0).length : Int), .int .i64 t.length, .int .i64 a, .int .i64 b, .slice (some ⟨g1, 0, none⟩) 1 c1, .slice (some ⟨g2, 0, none⟩) NP c2], .bool true]) (by simp [results, Try.results44, go_sem, z0, z1, z2, z3, z4, z5]) rfl ⟨_, by rw [Hv.out], by rw [hm.out]; exact Fresh.turnedAt (b := w.heap.size) OC.ok hf8.out Hb1.out (Nat.le_refl _) hle1 (by repeat' (first | with_reducible exact Only.refl _ _ | with_reducible refine Only.put ?_ ?_ _ _ | (simp; done)))⟩
end Go.Proofs.Ytnpkanlieflbiaa
