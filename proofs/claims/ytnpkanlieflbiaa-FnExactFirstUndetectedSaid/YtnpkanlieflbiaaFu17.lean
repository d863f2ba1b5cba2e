/- The first undetected error: firstAt's closure, which looks for an error of some symbols in a state; walked. -/
import Derived.Test.YtnpkanlieflbiaaFu15
import Derived.Test.YtnpkanlieflbiaaFu10
import Derived.Test.YtnpkanlieflbiaaFu1
import Derived.Test.YtnpkanlieflbiaaFu4
import Derived.Test.YtnpkanlieflbiaaFu13
namespace Go.Proofs.Ytnpkanlieflbiaa
open Go.RowKit
set_option linter.unusedVariables false

/-- Nothing turned but a mark in block gr. -/
structure TG (gr s : Nat) (cur : Array Value) (W w : World) (g : Bool) : Prop where
  size : W.heap.size ≤ w.heap.size
  block : ∀ k, k < W.heap.size → k ≠ gr → w.heap[k]? = W.heap[k]?
  row : w.heap[gr]? = some (.cells (if g then cur.setIfInBounds s (.bool true) else cur) 4 (0, 0))
  os : w.os = W.os
  tape : w.tape = W.tape
  output : w.output = W.output
section TG
variable {gr s : Nat} {cur : Array Value} {W w w2 : World} {g : Bool}
theorem TG.start (h : W.heap[gr]? = some (.cells cur 4 (0, 0))) : TG gr s cur W W false := ⟨Nat.le_refl _, fun _ _ _ => rfl, h, rfl, rfl, rfl⟩
theorem TG.below (h : TG gr s cur W w g) (hb : Below w.heap.size w w2) : TG gr s cur W w2 g :=
  ⟨Nat.le_trans h.size hb.size, fun k hk hne => (hb.block k (Nat.lt_of_lt_of_le hk h.size)).trans (h.block k hk hne), (hb.block gr (Array.getElem?_eq_some_iff.1 h.row).1).trans h.row, hb.os.trans h.os, hb.tape.trans h.tape, hb.output.trans h.output⟩
theorem TG.draws (h : TG gr s cur W w g) (m : Nat) : TG gr s cur W (w.drewN m) g := ⟨h.size, h.block, h.row, h.os, h.tape, h.output⟩
theorem mkG_kept {M : Nat} (b : Bool) (h : gr < M) : Kept M w (mkG b gr s w) := by
  unfold mkG
  split
  · exact (Kept.refl M w).set h _
  · exact Kept.refl M w
theorem TG.mark (h : TG gr s cur W w g) (b : Bool) : TG gr s cur W (mkG b gr s w) (g || b) := by
  cases b
  · rw [Bool.or_false]; exact h
  · rw [Bool.or_true]
    refine ⟨?_, fun k hk hne => (heap_setCell_other w _ k _ hne).trans (h.block k hk hne), ?_, h.os, h.tape, h.output⟩
    · show _ ≤ (w.setCell _ _).heap.size
      simpa using h.size
    · show (w.setCell ⟨gr, s, none⟩ (.bool true)).heap[gr]? = _
      rw [heap_setCell_same w gr s _ _ _ h.row]
      cases g <;> simp
theorem TG.kept {M : Nat} (h : TG gr s cur W w g) (hM : gr < M) : Kept M W w := ⟨h.size, fun k h1 h2 => h.block k h2 (by omega)⟩
theorem TG.heap (h : TG gr s cur W w g) {k : Nat} {o : Obj} (ho : W.heap[k]? = some o) (hne : k ≠ gr) : w.heap[k]? = some o := (h.block k (Array.getElem?_eq_some_iff.1 ho).1 hne).trans ho
theorem TG.cell (h : TG gr s cur W w g) {p : Addr} {v : Value} (ho : W.cell? p = some v) (hne : p.block ≠ gr) : w.cell? p = some v := by
  refine (cell_keep (h.block _ ?_ hne)).trans ho
  obtain ⟨k, o, sp⟩ := p
  rcases Nat.lt_or_ge k W.heap.size with h1 | h1
  · exact h1
  · simp [World.cell?, Array.getElem?_eq_none h1] at ho
end TG
/-- An error of these symbols was found: the mark is set, the symbols lie under the state. -/
structure FT (gr s bm n : Nat) (cur : Array Value) (f : List Int) (D : DP) (w w' : World) : Prop where
  size : w.heap.size ≤ w'.heap.size
  block : ∀ k, k < w.heap.size → k ≠ gr → k ≠ bm → w'.heap[k]? = w.heap[k]?
  row : w'.heap[gr]? = some (.cells (cur.setIfInBounds s (.bool true)) 4 (0, 0))
  os : w'.os = w.os
  tape : w'.tape = w.tape
  output : w'.output = w.output
  found : ∃ D' v, w'.ownsMap Try.prog 2 tok bm (n + 1) D' ∧ Under D' s v ∧ (∀ s' v', s' ≠ s → Under D s' v' → Under D' s' v') ∧ RdI (fun k => w.heap.size ≤ k ∧ k < w'.heap.size) w' v f
theorem FT.draws {gr s bm n : Nat} {cur : Array Value} {f : List Int} {D : DP} {w w' : World} (h : FT gr s bm n cur f D w w') (m : Nat) : FT gr s bm n cur f D w (w'.drewN m) := by
  obtain ⟨h1, h2, h3, h4, h5, h6, D', v, h7, h8, h9, h10⟩ := h
  exact ⟨h1, h2, h3, h4, h5, h6, D', v, h7, h8, h9, RdI.ok.keep h10 fun _ _ => rfl⟩
theorem FT.before {gr s bm n : Nat} {cur : Array Value} {f : List Int} {D : DP} {W w w' : World} (hb : Below W.heap.size W w) (h : FT gr s bm n cur f D w w') : FT gr s bm n cur f D W w' := by
  obtain ⟨h1, h2, h3, h4, h5, h6, D', v, h7, h8, h9, h10⟩ := h
  have hs := hb.size
  exact ⟨by omega, fun k hk a b => (h2 k (by omega) a b).trans (hb.block k hk), h3, h4.trans hb.os, h5.trans hb.tape, h6.trans hb.output, D', v, h7, h8, h9, RdI.ok.mono h10 fun k hk => ⟨by omega, hk.2⟩⟩
/-- A world in which nothing turned but block bm. -/
theorem grown_cell {w w' : World} {b : Nat} (h : w.grownBy w' (some b)) {p : Addr} {v : Value} (hc : w.cell? p = some v) (hne : p.block ≠ b) : w'.cell? p = some v := by
  refine (cell_keep (h.block _ ?_ (fun e => hne (by cases e; rfl)))).trans hc
  obtain ⟨k, o, sp⟩ := p
  rcases Nat.lt_or_ge k w.heap.size with h1 | h1
  · exact h1
  · simp [World.cell?, Array.getElem?_eq_none h1] at hc

set_option maxHeartbeats 3200000 in
set_option maxRecDepth 10000 in
theorem implFA1 {x : Chn} {kind : Int} {p bc bk bp bn bb bx M bs bq gq gr np s bf bm n0 L c cr : Nat} {vb : Value} {f : List Int} {cur : Array Value} {D : DP} {w : World} (hv : VC x) (hko : kindOk kind x.base = true) (h : FA x kind p bc bk bp bn bb bx M vb w) (hp : p + errLen kind ≤ x.n)
    (hq : MkC w bq gq gr np p x.S cr cur) (hcs : cur[s]? = some (.bool false)) (hs : s < x.S) (c1 : w.cell? ⟨bs, 0, none⟩ = some (.int .i64 s)) (cf : w.cell? ⟨bf, 0, none⟩ = some (.map (some bm))) (hD : w.ownsMap Try.prog 2 tok bm n0 D) (hn0 : n0 < 1000)
    (hgr : M ≤ gr ∧ bq ≠ gr ∧ gq ≠ gr ∧ bs ≠ gr ∧ bf ≠ gr ∧ bm ≠ gr ∧ bq ≠ bm ∧ gq ≠ bm ∧ bs ≠ bm ∧ bf ≠ bm ∧ L ≠ gr ∧ M ≤ bm) (hL : L < w.heap.size) (hf : RdI (· = L) w (.slice (some ⟨L, 0, none⟩) (errLen kind) c) f) (hfd : Digs x.b f) (hfl : f.length = errLen kind) :
    Calls Try.prog 154 #[.slice (some ⟨L, 0, none⟩) (errLen kind) c, .pointer (some ⟨bk, 0, none⟩), .pointer (some ⟨bc, 0, none⟩), .pointer (some ⟨bb, 0, none⟩), .pointer (some ⟨bp, 0, none⟩), .pointer (some ⟨bn, 0, none⟩), .pointer (some ⟨bs, 0, none⟩), .pointer (some ⟨bq, 0, none⟩), .pointer (some ⟨bf, 0, none⟩)] w
      fun e w' => (e = .returned (.bool true) ∧ (∀ t ∈ chg kind x.b f, ¬ goodN x kind p s f t) ∧ Below w.heap.size w w') ∨ (e = .returned (.bool false) ∧ (∃ t, t ∈ chg kind x.b f ∧ goodN x kind p s f t) ∧ FT gr s bm n0 cur f D w w') := by
  have hnat := hv.nat
  have hbs := hv.base
  have hel := errLen_bd kind
  simp only [kindOk, inB_true, Bool.and_eq_true, Bool.or_eq_true, decide_eq_true_eq] at hko
  obtain ⟨⟨hk0, hk5⟩, hk10'⟩ := hko
  have hk10 : kind = 5 → 10 ≤ x.b := fun h5 => by
    rcases hk10' with h | h
    · exact absurd h5 h
    · show 10 ≤ x.base.toNat; omega
  have hgl : gr < w.heap.size := (Array.getElem?_eq_some_iff.1 hq.row).1
  have hbml := hD.lt
  obtain ⟨W1, hW1⟩ : ∃ W1, W1 = w.alloc (.cells #[.slice (some ⟨L, 0, none⟩) (errLen kind) c] 22) := ⟨_, rfl⟩
  have hb1 := Lib.hid (show Below w.heap.size w W1 by rw [hW1]; exact (Below.refl _ _).alloc (Nat.le_refl _) _)
  have hs1 : W1.heap.size = w.heap.size + 1 := by rw [hW1]; simp
  have hbf := Lib.hid (show W1.heap[w.heap.size]? = some (.cells #[.slice (some ⟨L, 0, none⟩) (errLen kind) c] 22 (0, 0)) by rw [hW1]; exact heap_alloc_new w _)
  have HW1 := Lib.hid hW1; clear hW1
  have Hs1 := Lib.hid hs1
  have hMw : M ≤ w.heap.size := by omega
  have HA1 := Lib.hid (h.keep (w' := W1) fun j hj => hb1.out.block j (by omega))
  have hc1 : ∀ {q : Addr} {v : Value}, w.cell? q = some v → W1.cell? q = some v := fun {q v} hqv => (hb1.out.cell (p := q) (World.block_lt_of_cell? w q hqv)).trans hqv
  have Hf1 := Lib.hid (RdI.ok.keep hf (w' := W1) fun k hk => hb1.out.block k (by have hk : k = L := hk; omega))
  have d1 : W1.cell? ⟨bk, 0, none⟩ = some (.int .i64 kind) := HA1.out.k
  have d2 : W1.cell? ⟨bc, 0, none⟩ = some (.pointer (some ⟨bx, 0, none⟩)) := HA1.out.c
  have d3 : W1.cell? ⟨w.heap.size, 0, none⟩ = some (.slice (some ⟨L, 0, none⟩) (errLen kind) c) := heap_cell hbf.out (i := 0) rfl
  obtain ⟨a4, c4, a5, c5, g0, _⟩ := HA1.out.box.cells
  obtain ⟨NB, hNB⟩ : ∃ n : Nat, n = x.b := ⟨_, rfl⟩
  rw [show x.base = (NB : Int) by rw [hNB]; show x.base = (x.base.toNat : Int); omega] at g0
  obtain ⟨gB, hgB⟩ : ∃ gB : List Int → Bool, gB = fun t => decide (0 < bothV x (p + errLen kind) (runN x p s f) (runN x p s t)) := ⟨_, rfl⟩
  have hrow1 := Lib.hid ((hb1.out.block gr hgl).trans hq.row)
  have Hq1 := Lib.hid (show ∀ w1 g, TG gr s cur W1 w1 g → MkC w1 bq gq gr np p x.S cr (if g then cur.setIfInBounds s (.bool true) else cur) from fun w1 g ht =>
    ⟨ht.cell (hc1 hq.q) hgr.2.1, hq.lt, ht.cell (hc1 hq.r) hgr.2.2.1, ht.row, by cases g <;> simpa using hq.sz⟩)
  have hTA := Lib.hid (show ∀ w1 g, TG gr s cur W1 w1 g → FA x kind p bc bk bp bn bb bx M vb w1 from fun w1 g ht => HA1.out.keep fun j hj => ht.block j (by omega) (by have := hgr.1; omega))
  have HD1 := Lib.hid (show ∀ w1 g, TG gr s cur W1 w1 g → w1.ownsMap Try.prog 2 tok bm n0 D from fun w1 g ht => by
    obtain ⟨es, clock, q1, q2⟩ := hD
    exact ⟨es, clock, ht.heap ((hb1.out.block bm hbml).trans q1) hgr.2.2.2.2.2.1, q2⟩)
  have hc2 := Lib.hid (show ∀ w1 g, TG gr s cur W1 w1 g → w1.cell? ⟨bs, 0, none⟩ = some (.int .i64 s) ∧ w1.cell? ⟨bf, 0, none⟩ = some (.map (some bm)) ∧ w1.cell? ⟨w.heap.size, 0, none⟩ = some (.slice (some ⟨L, 0, none⟩) (errLen kind) c) from fun w1 g ht =>
    ⟨ht.cell (hc1 c1) hgr.2.2.2.1, ht.cell (hc1 cf) hgr.2.2.2.2.1, ht.cell d3 (by show w.heap.size ≠ gr; omega)⟩)
  have HL := Lib.hid hgr.2.2.2.2.2.2.2.2.2.2.1
  have hch := Lib.hid (fun m => Kp.implChanges (P := (· = L)) kind ⟨hk0, hk5⟩ NB (by rw [hNB]; exact hnat.1) (v := .slice (some ⟨L, 0, none⟩) (errLen kind) c) (f := f) (w := W1.drewN m) hfl 155
    #[.pointer (some ⟨bb, 0, none⟩), .pointer (some ⟨bp, 0, none⟩), .pointer (some ⟨bn, 0, none⟩), .pointer (some ⟨bc, 0, none⟩), .pointer (some ⟨bs, 0, none⟩), .pointer (some ⟨w.heap.size, 0, none⟩), .pointer (some ⟨bq, 0, none⟩)]
    (fun d w1 => TG gr s cur W1 w1 (d.any gB))
    (rd_draws RdI.ok Hf1.out m) (fun k hk => by have hk : k = L := hk; show k < W1.heap.size; omega)
    (fun w1 hw1 => ((TG.start hrow1.out).draws m).below hw1)
    (fun d w1 w2 hj hw2 => hj.below hw2)
    (fun d w1 hj => RdI.ok.keep Hf1.out fun k hk => by have hk : k = L := hk; exact hj.block k (by omega) (by have := HL.out; omega))
    (fun d t hpre v' w1 hrt hj => by
      have hmem : t ∈ chg kind x.b f := (by rw [hNB] at hpre; exact hpre.subset (show t ∈ d ++ [t] by simp))
      have hcd := chg_digs (kind := kind) (b := x.b) hk10 hnat.1.1 hfd hfl t hmem
      obtain ⟨k1, k2, k3⟩ := hc2.out _ _ hj
      refine (implFA11 hv (hTA.out _ _ hj) hp (Hq1.out _ _ hj) hs k1 k3 (RdI.ok.keep Hf1.out fun k hk => by have hk : k = L := hk; exact hj.block k (by omega) (by have := HL.out; omega)) hrt hfd hcd.1 hfl (hcd.2.trans hfl)).mono ?_
      rintro e w2 ⟨rfl, m2, rfl⟩
      refine ⟨rfl, ?_, ?_⟩
      · have h9 := (hj.draws m2).mark (gB t)
        rw [hgB] at h9 ⊢
        rw [List.any_append, List.any_cons, List.any_nil, Bool.or_false]
        exact h9
      · have h9 := mkG_kept (M := (W1.drewN m).heap.size) (gr := gr) (s := s) (w := w1.drewN m2) (decide (0 < bothV x (p + errLen kind) (runN x p s f) (runN x p s t))) (by show gr < W1.heap.size; omega)
        exact ⟨h9.size, h9.block⟩)
    (fun args w => rfl))
  have hany := Lib.hid (show (chg kind x.b f).any gB = true ↔ ∃ t, t ∈ chg kind x.b f ∧ goodN x kind p s f t from by
    rw [List.any_eq_true, hgB]
    constructor
    · rintro ⟨t, h1, h2⟩
      exact ⟨t, h1, (show 0 < bothV x (p + errLen kind) (runN x p s f) (runN x p s t) from of_decide_eq_true h2)⟩
    · rintro ⟨t, h1, h2⟩
      exact ⟨t, h1, decide_eq_true (p := 0 < bothV x (p + errLen kind) (runN x p s f) (runN x p s t)) h2⟩)
  rw [← hNB] at hany
  have Hgr := Lib.hid hgr
  have Hbp := Lib.hid h.lt.2.2.1
  have Hcs := Lib.hid hcs
  have hsz := hq.sz
  have hnp := hq.lt
  have hnp2 : np ≤ 21 := hnp.2
  have hS36 := hnat.2.1.2
  have Hfl := Lib.hid hfl
  have HNB := Lib.hid hNB
  clear HA1 hf hfd h hq hcs hv hk10 hk10' hNB hbs hgB hgr hfl hnat
  have i6 : (0 : Int) ≤ (p : Int) := by omega
  have i7 : (p : Int) < (np : Int) := by omega
  have i8 : (0 : Int) ≤ (s : Int) := by omega
  have i9 : (s : Int) < (x.S : Int) := by omega
  go_enter Try.func154, Try.ntmps154
  go_wp2
  rw [← HW1.out]
  refine wp_region_quiet_tail_lit 7 (by kernel_rfl) (by kernel_rfl) ?_
  simp only [List.take_succ_cons, List.take_zero, List.drop_succ_cons, List.drop_zero]
  repeat (go_big_quiet_step (fail))
  refine wpQuiet_nil ?_
  rintro _ ⟨nq, rfl⟩
  go_wp2_with fail
  refine Calls.mono (hch.out nq) ?_
  rintro e w5 ⟨rfl, hj, hk5⟩
  clear hch hk5 d1 d2 d3 g0
  obtain ⟨g, hg⟩ : ∃ g, g = (chg kind NB f).any gB := ⟨_, rfl⟩
  rw [← hg] at hj hany
  clear hg
  have Hj := Lib.hid hj
  have hq5 := Hq1.out _ _ hj
  obtain ⟨k1, k2, k3⟩ := hc2.out _ _ hj
  have k4 := hq5.q
  have k5 := hq5.r
  have k7 := (hTA.out _ _ hj).pl
  clear hTA
  cases g
  · have k6 := heap_cell hj.row (i := s) (show _ = some (.bool false) from Hcs.out)
    have hb5 := Lib.hid (show Below w.heap.size w w5 ∧ (∀ t ∈ chg kind x.b f, ¬ goodN x kind p s f t) from by
      refine ⟨(hb1.out.trans ⟨hj.os, hj.tape, hj.output, by have := hj.size; omega, fun k hk => ?_⟩), fun t ht hg => ?_⟩
      · by_cases e : k = gr
        · subst e
          have h1 := hj.row
          have h2 := (TG.start (s := s) hrow1.out).row
          rw [h1, h2]
        · exact hj.block k (by omega) e
      · have := hany.out.2 ⟨t, by rw [HNB.out]; exact ht, hg⟩
        cases this)
    clear hany hj hq5 Hj Hq1 hc2 HD1 hb1 hbf
    generalize x.S = NS at *
    go_wp2
    go_quiet (fail)
    go_wp2
    go_quiet (fail)
    go_wp2
    go_ret
    exact .inl ⟨rfl, hb5.out.2, Below.draws (Below.draws hb5.out.1 _) _⟩
  · have k6 := heap_cell hj.row (i := s) (show (cur.setIfInBounds s (.bool true))[s]? = some (.bool true) by rw [Array.getElem?_setIfInBounds_self_of_lt (by omega)])
    have hag := Lib.hid (hany.out.1 rfl)
    have HL5 := Lib.hid (show RdI (· = L) w5 (.slice (some ⟨L, 0, none⟩) (errLen kind) c) f from RdI.ok.keep Hf1.out fun k hk => by have hk : k = L := hk; exact hj.block k (by omega) (by have := HL.out; omega))
    have hD5 := Lib.hid (HD1.out _ _ hj)
    have hls : L < w5.heap.size ∧ bf < w5.heap.size ∧ bs < w5.heap.size ∧ w.heap.size < w5.heap.size ∧ bm < w5.heap.size := by
      have h1 := hj.size
      have h2 := World.block_lt_of_cell? w _ c1
      have h3 := World.block_lt_of_cell? w _ cf
      have h2 : bs < w.heap.size := h2
      have h3 : bf < w.heap.size := h3
      omega
    have hcl := Lib.hid (fun (W : World) (hb : Below w5.heap.size w5 W) => slClone (RdI.ok.keep HL5.out (w' := W) fun k hk => by have hk : k = L := hk; exact hb.block k (by omega)) (fun k hk => by have hk : k = L := hk; have := hb.size; omega) (by rw [Hfl.out]; omega))
    have hsc := Lib.hid (fun (W : World) (hb : Below w5.heap.size w5 W) => (show W.cell? ⟨bf, 0, none⟩ = some (.map (some bm)) ∧ W.cell? ⟨bs, 0, none⟩ = some (.int .i64 s) ∧ W.cell? ⟨w.heap.size, 0, none⟩ = some (.slice (some ⟨L, 0, none⟩) (errLen kind) c) from
      ⟨(hb.cell (p := ⟨bf, 0, none⟩) (by show bf < _; omega)).trans k2, (hb.cell (p := ⟨bs, 0, none⟩) (by show bs < _; omega)).trans k1, (hb.cell (p := ⟨w.heap.size, 0, none⟩) (by show w.heap.size < _; omega)).trans k3⟩))
    have hge := Lib.hid (fun (w6 w7 : World) (h6 : Below w5.heap.size w5 w6) (h7 : w6.grownBy w7 (some bm)) => (show (∀ k, k < w5.heap.size → k ≠ bm → w7.heap[k]? = w5.heap[k]?) ∧ w5.heap.size ≤ w7.heap.size ∧ w7.os = w5.os ∧ w7.tape = w5.tape ∧ w7.output = w5.output from
      ⟨fun k hk hne => (h7.block k (Nat.lt_of_lt_of_le hk h6.size) (fun e => hne (by cases e; rfl))).trans (h6.block k hk), Nat.le_trans h6.size h7.size, h7.os.trans h6.os, h7.tape.trans h6.tape, h7.output.trans h6.output⟩))
    have hup := Lib.hid (fun (v : Value) (W : World) (h : W.ownsMap Try.prog 2 tok bm n0 D) => Under.put (v := v) h (show s < 4611686018427387904 by omega) hn0)
    clear hany hq5 Hq1 hc2 HD1 hbf hc1 hD Hf1 c1 cf HW1
    generalize x.S = NS at *
    go_wp2
    go_quiet (fail)
    have hbw := Lib.hid (Below.draws (Below.refl w5.heap.size w5) nq)
    go_wp2
    have hcl2 := Lib.hid (fun (W : World) (hb : Below w5.heap.size w5 W) => (hcl.out W hb).mono (R' := fun e w6 => ∃ a n c, e = .returned (.slice a n c) ∧ Below w5.heap.size w5 w6 ∧ RdI (fun k => w5.heap.size ≤ k ∧ k < w6.heap.size) w6 (.slice a n c) f) (by
      rintro e w6 ⟨v6, rfl, S, h5, h6, h7⟩
      obtain ⟨a, n, c, rfl⟩ := h5.isSlice
      exact ⟨a, n, c, rfl, hb.trans (h7.mono hb.size), OI.leads.to _ _ _ _ _ h5 fun k hk => ⟨Nat.le_trans hb.size (h6 k hk), OI.ok.lt h5 k hk⟩⟩))
    clear hcl
    have h57 := Lib.hid (fun (w6 w7 : World) (h6 : Below w5.heap.size w5 w6) (h7 : w6.grownBy w7 (some bm)) => (show w7.cell? ⟨bs, 0, none⟩ = some (.int .i64 s) ∧ w7.cell? ⟨bq, 0, none⟩ = some (.slice (some ⟨gq, 0, none⟩) np np) ∧ w7.cell? ⟨gq, p, none⟩ = some (.slice (some ⟨gr, 0, none⟩) NS cr) ∧ w7.cell? ⟨gr, s, none⟩ = some (.bool true) ∧ w7.cell? ⟨bp, 0, none⟩ = some (.int .i64 p) from by
      have h8 := Hgr.out
      have h9 := Hbp.out
      refine ⟨grown_cell h7 ((h6.cell (p := ⟨bs, 0, none⟩) (World.block_lt_of_cell? w5 _ k1)).trans k1) ?_, grown_cell h7 ((h6.cell (p := ⟨bq, 0, none⟩) (World.block_lt_of_cell? w5 _ k4)).trans k4) ?_, grown_cell h7 ((h6.cell (p := ⟨gq, p, none⟩) (World.block_lt_of_cell? w5 _ k5)).trans k5) ?_, grown_cell h7 ((h6.cell (p := ⟨gr, s, none⟩) (World.block_lt_of_cell? w5 _ k6)).trans k6) ?_, grown_cell h7 ((h6.cell (p := ⟨bp, 0, none⟩) (World.block_lt_of_cell? w5 _ k7)).trans k7) ?_⟩
      · exact h8.2.2.2.2.2.2.2.2.1
      · exact h8.2.2.2.2.2.2.1
      · exact h8.2.2.2.2.2.2.2.1
      · exact fun e => h8.2.2.2.2.2.1 e.symm
      · show bp ≠ bm
        omega))
    have hFT7 := Lib.hid (fun (w6 w7 : World) (h6 : Below w5.heap.size w5 w6) (h7 : w6.grownBy w7 (some bm)) hfo => (show FT gr s bm n0 cur f D w w7 from by
      obtain ⟨g1, g2, g3, g4, g5⟩ := hge.out w6 w7 h6 h7
      have h5 := hj.size
      refine ⟨by omega, fun k hk h1 h2 => ((g1 k (by omega) h2).trans (hj.block k (by omega) h1)).trans (hb1.out.block k hk), (g1 gr (by omega) (fun e => Hgr.out.2.2.2.2.2.1 e.symm)).trans hj.row, (g3.trans hj.os).trans hb1.out.os, (g4.trans hj.tape).trans hb1.out.tape, (g5.trans hj.output).trans hb1.out.output, hfo⟩))
    have Hrd7 := Lib.hid (fun (w6 w7 : World) (v : Value) (h6 : Below w5.heap.size w5 w6) (h7 : w6.grownBy w7 (some bm)) (hr : RdI (fun k => w5.heap.size ≤ k ∧ k < w6.heap.size) w6 v f) => (show RdI (fun k => w.heap.size ≤ k ∧ k < w7.heap.size) w7 v f from
      rd_whole hr (fun k hk => ⟨by have := hj.size; omega, Nat.lt_of_lt_of_le hk.2 h7.size⟩) fun k hk => h7.block k hk.2 (fun e => by cases e; omega)))
    clear hj hge Hj hrow1
    have Hne := Lib.hid (show bf ≠ bm ∧ bs ≠ bm ∧ w.heap.size ≠ bm from ⟨Hgr.out.2.2.2.2.2.2.2.2.2.1, Hgr.out.2.2.2.2.2.2.2.2.1, by omega⟩)
    go_region_held3 (fun w' => w'.cell? ⟨bf, 0, none⟩ = some (.map (some bm)) ∧ w'.cell? ⟨bs, 0, none⟩ = some (.int .i64 s) ∧ w'.cell? ⟨w.heap.size, 0, none⟩ = some (.slice (some ⟨L, 0, none⟩) (errLen kind) c)) ((first | exact s7 | exact s6 | (refine hsc.out _ ?_; repeat' (first | with_reducible exact hbw.out | with_reducible exact Below.draws (Below.refl _ _) _ | with_reducible refine Below.drew ?_)))) (first
      | (go_at_call 147; refine (Calls.mono (hcl2.out _ (by repeat' (first | with_reducible exact hbw.out | with_reducible exact Below.draws (Below.refl _ _) _ | with_reducible refine Below.drew ?_))) ?_); rintro e w6 ⟨a6, n6, c6, rfl, hb6, hr6⟩; have Hb6 := Lib.hid hb6; have Hr6 := Lib.hid hr6; have s6 := hsc.out _ hb6; obtain ⟨w7, D7, hr7, ho7, hg7, hu7, hk7⟩ := hup.out (.slice a6 n6 c6) w6 (hD5.out.kept (grown_below Hb6.out) (by simp)); have s7 := (show w7.cell? ⟨bf, 0, none⟩ = some (.map (some bm)) ∧ w7.cell? ⟨bs, 0, none⟩ = some (.int .i64 s) ∧ w7.cell? ⟨w.heap.size, 0, none⟩ = some (.slice (some ⟨L, 0, none⟩) (errLen kind) c) from ⟨grown_cell hg7 s6.1 Hne.out.1, grown_cell hg7 s6.2.1 Hne.out.2.1, grown_cell hg7 s6.2.2 Hne.out.2.2⟩); have Hr7 := Lib.hid (show _ ∧ _ ∧ _ ∧ _ from ⟨ho7, hg7, hu7, hk7⟩); clear hb6 hr6 ho7 hg7 hu7 hk7))
    all_goals
      obtain ⟨m1, m4, m5, m6, m7⟩ := h57.out w6 w7 Hb6.out Hr7.out.2.1
      have hFT := Lib.hid (show FT gr s bm n0 cur f D w w7 from hFT7.out w6 w7 Hb6.out Hr7.out.2.1 ⟨D7, _, Hr7.out.1, Hr7.out.2.2.1, Hr7.out.2.2.2, Hrd7.out w6 w7 _ Hb6.out Hr7.out.2.1 Hr6.out⟩)
      clear k1 k2 k3 k4 k5 k6 k7 Hb6 Hr6 Hr7 hr7 s6 s7 hbw
      go_wp2
      go_quiet (fail)
      go_wp2
      go_ret
      exact .inr ⟨rfl, by rw [← HNB.out]; exact hag.out, hFT.out.draws _⟩
end Go.Proofs.Ytnpkanlieflbiaa
/- The first undetected error: finish's closure, which puts a pair of states into a set; walked. -/
namespace Go.Proofs.Ytnpkanlieflbiaa
open Go.RowKit Go.Maps
set_option linter.unusedVariables false

theorem KB.trans {b : Nat} {w w1 w2 : World} (h : KB b w w1) (k : KB b w1 w2) : KB b w w2 :=
  ⟨Nat.le_trans h.size k.size, fun i h1 h2 => (k.block i h1 (Nat.lt_of_lt_of_le h2 h.size)).trans (h.block i h1 h2), k.os.trans h.os, k.tape.trans h.tape, k.output.trans h.output⟩
theorem KB.grown {b : Nat} {w w1 : World} (h : w.grownBy w1 (some b)) : KB b w w1 := ⟨h.size, fun k h1 h2 => h.block k h2 (fun e => h1 (by cases e; rfl)), h.os, h.tape, h.output⟩
theorem KB.cell {b : Nat} {w w1 : World} (h : KB b w w1) {p : Addr} {v : Value} (hc : w.cell? p = some v) (hne : p.block ≠ b) : w1.cell? p = some v :=
  (cell_keep (h.block _ hne (World.block_lt_of_cell? w p hc))).trans hc
/-- A pair is stored. -/
theorem two_put {w : World} {b : Nat} {v0 v1 : Value} {E : TypeId} (h : w.heap[b]? = some (.cells #[v0, v1] E (0, 0))) (x0 x1 : Value) : ((w.setCell ⟨b, 0, none⟩ x0).setCell ⟨b, 1, none⟩ x1).heap[b]? = some (.cells #[x0, x1] E (0, 0)) :=
  heap_setCell_same _ b 1 _ _ x1 (heap_setCell_same w b 0 _ _ x0 h)
/-- What finish has and what does not turn; it all lies below M. -/
structure FI (x : Chn) (kind : Int) (p s bc bs bp bb bx M : Nat) (vb : Value) (w : World) : Prop where
  lt : bc < M ∧ bs < M ∧ bp < M ∧ bb < M ∧ bx < M
  c : w.cell? ⟨bc, 0, none⟩ = some (.pointer (some ⟨bx, 0, none⟩))
  s : w.cell? ⟨bs, 0, none⟩ = some (.int .i64 s)
  pl : w.cell? ⟨bp, 0, none⟩ = some (.int .i64 p)
  b : w.cell? ⟨bb, 0, none⟩ = some vb
  box : BoxC (· < M) w bx x
  gr : RdIII (· < M) w vb (grsL x (p + errLen kind) (x.n + 1))
theorem FI.keep {x : Chn} {kind : Int} {p s bc bs bp bb bx M : Nat} {vb : Value} {w w' : World} (h : FI x kind p s bc bs bp bb bx M vb w) (hk : ∀ j, j < M → w'.heap[j]? = w.heap[j]?) : FI x kind p s bc bs bp bb bx M vb w' := by
  obtain ⟨⟨l1, l2, l3, l4, l5⟩, h1, h2, h3, h4, h5, h6⟩ := h
  refine ⟨⟨l1, l2, l3, l4, l5⟩, (cell_keep (hk _ (by show bc < _; omega))).trans h1, (cell_keep (hk _ (by show bs < _; omega))).trans h2, (cell_keep (hk _ (by show bp < _; omega))).trans h3, (cell_keep (hk _ (by show bb < _; omega))).trans h4, h5.keep fun j hj => hk j ?_, RdIII.ok.keep h6 fun j hj => hk j hj⟩
  rcases hj with hj | hj
  · exact hj
  · omega

set_option maxHeartbeats 3200000 in
set_option maxRecDepth 10000 in
theorem implFin1 {x : Chn} {kind : Int} {p s bc bs bp bb bx M bfr bpr bm n : Nat} {vb vf vt : Value} {f t : List Int} {P Q : Nat → Prop} {D : DP} {R : Nat → Nat → Prop} {w : World} (hv : VC x) (h : FI x kind p s bc bs bp bb bx M vb w) (hM : M ≤ w.heap.size) (hp : p + errLen kind ≤ x.n) (hs : s < x.S)
    (cf : w.cell? ⟨bfr, 0, none⟩ = some vf) (hf : RdI P w vf f) (hP : ∀ k, P k → k < w.heap.size) (ht : RdI Q w vt t) (hQ : ∀ k, Q k → k < w.heap.size) (hfd : Digs x.b f) (htd : Digs x.b t) (hfl : f.length = errLen kind) (htl : t.length = errLen kind)
    (cp : w.cell? ⟨bpr, 0, none⟩ = some (.map (some bm))) (hD : w.ownsMap Try.prog 169 tok bm n D) (hn : n < 1000) (hR : PSet D x.S R) :
    Calls Try.prog 169 #[vt, .pointer (some ⟨bc, 0, none⟩), .pointer (some ⟨bp, 0, none⟩), .pointer (some ⟨bs, 0, none⟩), .pointer (some ⟨bfr, 0, none⟩), .pointer (some ⟨bb, 0, none⟩), .pointer (some ⟨bpr, 0, none⟩)] w
      fun e w' => e = .returned (.tuple #[]) ∧ KB bm w w' ∧ ∃ n' D', w'.ownsMap Try.prog 169 tok bm n' D' ∧ n' ≤ n + 1 ∧ PSet D' x.S fun a b => R a b ∨ (goodN x kind p s f t ∧ a = runN x p s f ∧ b = runN x p s t) := by
  have hnat := hv.nat
  have hr1 := hv.runLt hfd (k := p) (s := s) (by omega) hs
  have hr2 := hv.runLt htd (k := p) (s := s) (by omega) hs
  have hle := hv.bothLe (p + errLen kind) (runN x p s f) (runN x p s t)
  have hel := errLen_bd kind
  have hbml := hD.lt
  obtain ⟨af, cvf, rfl, z1, z2⟩ := hf.isSlice
  rw [hfl] at cf z1
  have e4 := h.c
  have e2 := h.pl
  have e1 := h.s
  have hbx := hv.nat
  have hl1 := Lib.hid (fun (W : World) (hb : Below w.heap.size w W) => implLeads (h.box.below hb hM (Nat.lt_of_lt_of_le h.lt.2.2.2.2 hM)) hv p s (RdI.ok.keep hf fun k hk => hb.block k (hP k hk)) hfd (by omega) hs)
  have hl2 := Lib.hid (fun (W : World) (hb : Below w.heap.size w W) => implLeads (h.box.below hb hM (Nat.lt_of_lt_of_le h.lt.2.2.2.2 hM)) hv p s (RdI.ok.keep ht fun k hk => hb.block k (hQ k hk)) htd (by omega) hs)
  rw [hfl] at hl1
  have l1 : bc < w.heap.size := World.block_lt_of_cell? w _ e4
  have l2 : bp < w.heap.size := World.block_lt_of_cell? w _ e2
  have l3 : bs < w.heap.size := World.block_lt_of_cell? w _ e1
  have l4 : bfr < w.heap.size := World.block_lt_of_cell? w _ cf
  have hsc := Lib.hid (fun (W : World) (hb : Below w.heap.size w W) => (show W.cell? ⟨bc, 0, none⟩ = some (.pointer (some ⟨bx, 0, none⟩)) ∧ W.cell? ⟨bp, 0, none⟩ = some (.int .i64 p) ∧ W.cell? ⟨bs, 0, none⟩ = some (.int .i64 s) ∧ W.cell? ⟨bfr, 0, none⟩ = some (.slice af (errLen kind) cvf) from
    ⟨(hb.cell (p := ⟨bc, 0, none⟩) l1).trans e4, (hb.cell (p := ⟨bp, 0, none⟩) l2).trans e2, (hb.cell (p := ⟨bs, 0, none⟩) l3).trans e1, (hb.cell (p := ⟨bfr, 0, none⟩) l4).trans cf⟩))
  have Hgr := Lib.hid (fun (W : World) (hb : Below w.heap.size w W) => grsCell (RdIII.ok.keep h.gr fun k hk => hb.block k (Nat.lt_of_lt_of_le hk hM)) (Nat.le_refl _) hp hr1 hr2)
  have hcp := Lib.hid (fun (W : World) (hb : Below w.heap.size w W) => (hb.cell (p := ⟨bpr, 0, none⟩) (World.block_lt_of_cell? w _ cp)).trans cp)
  have hbb := Lib.hid (fun (W : World) (hb : Below w.heap.size w W) => (hb.cell (p := ⟨bb, 0, none⟩) (World.block_lt_of_cell? w _ h.b)).trans h.b)
  have hDk := Lib.hid (fun (W : World) (hb : Below w.heap.size w W) => hD.kept (grown_below hb) (by simp))
  have HR := Lib.hid hR
  have hpl : p + errLen kind ≤ 20 := by omega
  clear hR hD cp h hf ht hfd htd hfl htl hP hQ hv
  have hgood := Lib.hid (show goodN x kind p s f t ↔ 0 < bothV x (p + errLen kind) (runN x p s f) (runN x p s t) from Iff.rfl)
  generalize runN x p s f = ra at *
  generalize runN x p s t = rb at *
  have hn0 : ∀ k, ((w.drewN k).alloc (.cells #[.int .i64 0, .int .i64 0] 169)).cell? ⟨w.heap.size, 0, none⟩ = some (.int .i64 0) := fun k => heap_cell (heap_alloc_new (w.drewN k) _) rfl
  have hn1 : ∀ k, ((w.drewN k).alloc (.cells #[.int .i64 0, .int .i64 0] 169)).cell? ⟨w.heap.size, 1, none⟩ = some (.int .i64 0) := fun k => heap_cell (heap_alloc_new (w.drewN k) _) rfl
  have hf0 : ∀ k, ((w.drewN k).alloc (.cells #[.int .i64 0, .int .i64 0] 169)).frozen? ⟨w.heap.size, 0, none⟩ = false := fun k => frozen_at (heap_alloc_new (w.drewN k) _) 0
  have hf1 : ∀ k, ((w.drewN k).alloc (.cells #[.int .i64 0, .int .i64 0] 169)).frozen? ⟨w.heap.size, 1, none⟩ = false := fun k => frozen_at (heap_alloc_new (w.drewN k) _) 1
  go_enter Try.func169, Try.ntmps169
  go_upto_region 0 with fail
  go_cut [8] from 9 to 19 (fun v8 wx => v8 = .pointer (some ⟨w.heap.size, 0, none⟩) ∧ wx.heap[w.heap.size]? = some (.cells #[.int .i64 ra, .int .i64 rb] 169 (0, 0)) ∧ Below w.heap.size w wx)
  case first =>
    go_region_held3 (fun w' => w'.cell? ⟨bc, 0, none⟩ = some (.pointer (some ⟨bx, 0, none⟩)) ∧ w'.cell? ⟨bp, 0, none⟩ = some (.int .i64 p) ∧ w'.cell? ⟨bs, 0, none⟩ = some (.int .i64 s) ∧ w'.cell? ⟨bfr, 0, none⟩ = some (.slice af (errLen kind) cvf)) ((refine hsc.out _ ?_; repeat' (first | with_reducible exact Below.refl _ _ | with_reducible exact Below.draws (Below.refl _ _) _ | with_reducible refine Below.draws ?_ _ | with_reducible refine Below.drew ?_ | with_reducible refine Below.alloc ?_ ?_ _ | with_reducible refine Below.setCell ?_ ?_ _ | (show _ ≤ _; simp)))) (first
      | ((with_reducible refine (Calls.mono (hl1.out _ (by repeat' (first | with_reducible exact Below.refl _ _ | with_reducible exact Below.draws (Below.refl _ _) _ | with_reducible refine Below.draws ?_ _ | with_reducible refine Below.drew ?_ | with_reducible refine Below.alloc ?_ ?_ _ | with_reducible refine Below.setCell ?_ ?_ _ | (show _ ≤ _; simp)))) ?_)); rintro e w' ⟨rfl, m1, rfl⟩)
      | ((with_reducible refine (Calls.mono (hl2.out _ (by repeat' (first | with_reducible exact Below.refl _ _ | with_reducible exact Below.draws (Below.refl _ _) _ | with_reducible refine Below.draws ?_ _ | with_reducible refine Below.drew ?_ | with_reducible refine Below.alloc ?_ ?_ _ | with_reducible refine Below.setCell ?_ ?_ _ | (show _ ≤ _; simp)))) ?_)); rintro e w' ⟨rfl, m2, rfl⟩))
    all_goals (go_wp2_with fail)
    all_goals go_meet
    all_goals refine ⟨rfl, two_put (heap_alloc_new (w.drewN _) (.cells #[.int .i64 0, .int .i64 0] 169)) _ _, ?_⟩
    all_goals repeat' (first | with_reducible exact Below.refl _ _ | with_reducible exact Below.draws (Below.refl _ _) _ | with_reducible refine Below.draws ?_ _ | with_reducible refine Below.drew ?_ | with_reducible refine Below.alloc ?_ ?_ _ | with_reducible refine Below.setCell ?_ ?_ _ | (show _ ≤ _; simp))
  case rest =>
    obtain ⟨W8, rfl⟩ : ∃ W, W = wc := ⟨_, rfl⟩
    obtain ⟨rfl, hb8, hB⟩ := hcut
    have HB := Lib.hid hB
    have m1 := heap_cell hb8 (i := 0) rfl
    have m2 := heap_cell hb8 (i := 1) rfl
    obtain ⟨b0, o0, c0, b1, o1, c3, b2, o2, c4, rfl, ⟨g1, g2⟩, g3, ⟨g4, g5⟩, g6, ⟨g7, g8⟩, g9⟩ := Hgr.out _ hB
    have hbb8 := hbb.out _ hB
    have hcp8 := hcp.out _ hB
    obtain ⟨-, k2, -, k4⟩ := hsc.out _ hB
    obtain ⟨NS, hNS⟩ : ∃ n, n = x.S := ⟨_, rfl⟩
    obtain ⟨NN, hNN⟩ : ∃ n, n = x.n + 1 := ⟨_, rfl⟩
    obtain ⟨PN, hPN⟩ : ∃ n, n = p + errLen kind := ⟨_, rfl⟩
    rw [← hNS] at g3 g4 g6 g7 hr1 hr2 HR
    rw [← hNN] at g1 hbb8
    rw [← hPN] at g3 g9 hle hgood hpl
    obtain ⟨NE, hNE⟩ : ∃ n, n = errLen kind := ⟨_, rfl⟩
    rw [← hNE] at hPN hel k4 z1
    have hPP : PN < NN := by omega
    have hw1 : IntKind.i64.wrap ((p : Int) + (NE : Int)) = (PN : Int) := by rw [hPN, Int.natCast_add]; exact IntWalk.i64_in _ (by omega)
    have i0 : (0 : Int) ≤ (PN : Int) := by omega
    have i1 : (PN : Int) < (NN : Int) := by omega
    have HG := Lib.hid (show goodN x kind p s f t ↔ 0 < bothV x PN ra rb from hgood.out)
    generalize bothV x PN ra rb = E at *
    have i2 : (0 : Int) ≤ (ra : Int) := by omega
    have i3 : (ra : Int) < (NS : Int) := by omega
    have i4 : (0 : Int) ≤ (rb : Int) := by omega
    have i5 : (rb : Int) < (NS : Int) := by omega
    have hNS2 : NS ≤ 36 := by omega
    have hNN2 : NN ≤ 21 := by omega
    have Hr := Lib.hid (show ra < NS ∧ rb < NS from ⟨hr1, hr2⟩)
    have HNS := Lib.hid hNS
    unfold maxLen at g2 g5 g8
    clear hPN hNE hNS hNN hnat hel hp hbx hn0 hn1 hf0 hf1 hl1 hl2 hsc Hgr hcp hbb hgood hB e1 e2 e4 cf
    by_cases hE : 0 < E
    · have hE1 : (0 : Int) < (E : Int) := by omega
      have Hgd := Lib.hid (HG.out.2 hE)
      clear hE HG
      go_wp2
      go_quiet (fail)
      have HBq := Lib.hid (show Below w.heap.size w (W8.drewN nq) from Below.draws HB.out nq)
      have HDq := Lib.hid (hDk.out _ HBq.out)
      go_wp2_with (first | (at_mapUpdate; refine wpList_put_pair _ rfl _ _ _ rfl bm n D NS R rfl HDq.out HR.out hn ra rb rfl Hr.out.1 Hr.out.2 hNS2 _ rfl ?_; intro w9 D9 hD9 hP9 hg9; have H9 := Lib.hid (show _ ∧ _ ∧ _ from ⟨hD9, hP9, hg9⟩); clear hD9 hP9 hg9) | fail)
      go_wp2
      refine bodyPost_end (results_none rfl _ _ _) rfl ⟨rfl, (KB.of_below HBq.out).trans (KB.grown H9.out.2.2), n + 1, D9, H9.out.1, Nat.le_refl _, PSet.congr (by rw [← HNS.out]; exact H9.out.2.1) fun i j => ?_⟩
      constructor
      · rintro (h | ⟨rfl, rfl⟩)
        · exact .inl h
        · exact .inr ⟨Hgd.out, rfl, rfl⟩
      · rintro (h | ⟨_, rfl, rfl⟩)
        · exact .inl h
        · exact .inr ⟨rfl, rfl⟩
    · have Hno := Lib.hid (fun h => hE (HG.out.1 h))
      obtain rfl : E = 0 := by omega
      clear hE HG
      go_wp2
      go_quiet (fail)
      have HBq := Lib.hid (show Below w.heap.size w (W8.drewN nq) from Below.draws HB.out nq)
      go_wp2
      refine bodyPost_end (results_none rfl _ _ _) rfl ⟨rfl, KB.of_below HBq.out, n, D, hDk.out _ HBq.out, by omega, PSet.congr (by rw [← HNS.out]; exact HR.out) fun i j => ?_⟩
      constructor
      · exact fun h => .inl h
      · rintro (h | ⟨h, _⟩)
        · exact h
        · exact absurd h Hno.out
end Go.Proofs.Ytnpkanlieflbiaa
/- The first undetected error: tables of marks, plainly and in memory. -/
namespace Go.Proofs.Ytnpkanlieflbiaa
open Go.RowKit
set_option linter.unusedVariables false

/-! ### A table of marks -/
def setB (T : List (List Bool)) (i y : Nat) (b : Bool) : List (List Bool) := T.set i ((nth T i).set y b)
structure MT (NP NS : Nat) (T : List (List Bool)) (F : Nat → Nat → Prop) : Prop where
  len : T.length = NP
  row : ∀ i, i < NP → (nth T i).length = NS
  val : ∀ i y, i < NP → y < NS → (nth (nth T i) y = true ↔ F i y)
section MT
variable {NP NS : Nat} {T : List (List Bool)} {F F' : Nat → Nat → Prop}
theorem MT.congr (h : MT NP NS T F) (e : ∀ i y, i < NP → y < NS → (F i y ↔ F' i y)) : MT NP NS T F' := ⟨h.len, h.row, fun i y hi hy => (h.val i y hi hy).trans (e i y hi hy)⟩
theorem MT.set (h : MT NP NS T F) {i y : Nat} {b : Bool} (hi : i < NP) (hy : y < NS) (e : ∀ i' y', i' < NP → y' < NS → (F' i' y' ↔ if i' = i ∧ y' = y then b = true else F i' y')) : MT NP NS (setB T i y b) F' := by
  have hl := h.len
  refine ⟨by simp [setB, hl], fun i' hi' => ?_, fun i' y' hi' hy' => ?_⟩
  · unfold setB
    rw [nth_set (by omega)]
    split
    · rw [List.length_set]; exact h.row i hi
    · exact h.row i' hi'
  · rw [e i' y' hi' hy']
    unfold setB
    rw [nth_set (by omega)]
    by_cases e1 : i = i'
    · subst e1
      rw [if_pos rfl, nth_set (by rw [h.row i hi]; exact hy)]
      by_cases e2 : y = y'
      · subst e2
        rw [if_pos rfl, if_pos ⟨rfl, rfl⟩]
      · rw [if_neg e2, if_neg (fun h => e2 h.2.symm)]
        exact h.val i y' hi hy'
    · rw [if_neg e1, if_neg (fun h => e1 h.1.symm)]
      exact h.val i' y' hi' hy'
theorem MT.blank (NP NS : Nat) : MT NP NS (List.replicate NP (List.replicate NS false)) fun _ _ => False := by
  refine ⟨by simp, fun i hi => by rw [nth_replicate hi]; simp, fun i y hi hy => ?_⟩
  rw [nth_replicate hi, nth_replicate hy]
  simp
theorem MT.is (h : MT NP NS T F) {i y : Nat} (hi : i < NP) (hy : y < NS) {b : Bool} (hb : nth (nth T i) y = b) : b = true ↔ F i y := by rw [← hb]; exact h.val i y hi hy
end MT

/-! ### What is marked -/
/-- The states before s at which an error can be. -/
def mkN (x : Chn) (kind : Int) (p s : Nat) : Nat → Nat → Prop := fun i y => i = p ∧ y < s ∧ canN x kind p y
/-- From place c on: the states from which an error can be reached. -/
def mkD (x : Chn) (kind : Int) (p c : Nat) : Nat → Nat → Prop := fun i y => c ≤ i ∧ canK x kind p i y
/-- .. and of place k the states before s, and of state s the symbols before d. -/
def mkB (x : Chn) (kind : Int) (p k s d : Nat) : Nat → Nat → Prop := fun i y => (k < i ∧ canK x kind p i y) ∨ (i = k ∧ y < s ∧ canK x kind p k y) ∨ (i = k ∧ y = s ∧ ∃ e, e < d ∧ canK x kind p (k + 1) (nxt x k s e))
section marks
variable {x : Chn} {kind : Int} {p s : Nat} {T : List (List Bool)} {NS NP k d : Nat}
theorem mkN_start (h : MT NP NS T fun _ _ => False) : MT NP NS T (mkN x kind p 0) := h.congr fun i y _ _ => ⟨fun h => h.elim, fun h => absurd h.2.1 (Nat.not_lt_zero _)⟩
theorem mkN_yes (h : MT NP NS T (mkN x kind p s)) (hp : p < NP) (hs : s < NS) (hc : canN x kind p s) : MT NP NS (setB T p s true) (mkN x kind p (s + 1)) := h.set hp hs fun i y _ _ => by
  unfold mkN
  by_cases e : i = p ∧ y = s
  · rw [if_pos e]
    obtain ⟨rfl, rfl⟩ := e
    exact ⟨fun _ => rfl, fun _ => ⟨rfl, by omega, hc⟩⟩
  · rw [if_neg e]
    exact ⟨fun ⟨h1, h2, h3⟩ => ⟨h1, by have : y ≠ s := fun h => e ⟨h1, h⟩; omega, h3⟩, fun ⟨h1, h2, h3⟩ => ⟨h1, by omega, h3⟩⟩
theorem mkN_no (h : MT NP NS T (mkN x kind p s)) (hc : ¬ canN x kind p s) : MT NP NS T (mkN x kind p (s + 1)) := h.congr fun i y _ _ => by
  unfold mkN
  constructor
  · exact fun ⟨h1, h2, h3⟩ => ⟨h1, by omega, h3⟩
  · rintro ⟨h1, h2, h3⟩
    rcases Nat.lt_succ_iff_lt_or_eq.1 h2 with h4 | rfl
    · exact ⟨h1, h4, h3⟩
    · exact absurd h3 hc
theorem mkN_done (h : MT (p + 1) NS T (mkN x kind p NS)) : MT (p + 1) NS T (mkD x kind p p) := h.congr fun i y hi hy => by
  unfold mkN mkD
  constructor
  · rintro ⟨rfl, h2, h3⟩
    exact ⟨Nat.le_refl _, canK_end.2 h3⟩
  · rintro ⟨h1, h2⟩
    obtain rfl : i = p := by omega
    exact ⟨rfl, hy, canK_end.1 h2⟩
theorem mkB_start (h : MT NP NS T (mkD x kind p (k + 1))) : MT NP NS T (mkB x kind p k 0 0) := h.congr fun i y _ _ => by
  unfold mkD mkB
  constructor
  · exact fun h => .inl h
  · rintro (h | ⟨_, h, _⟩ | ⟨_, _, e, h, _⟩)
    · exact h
    · omega
    · omega
theorem mkB_step (h : MT NP NS T (mkB x kind p k s d)) (hk : k < NP) (hs : s < NS) {b : Bool} (hb : b = true ↔ (nth (nth T k) s = true ∨ canK x kind p (k + 1) (nxt x k s d))) : MT NP NS (setB T k s b) (mkB x kind p k s (d + 1)) := h.set hk hs fun i y _ _ => by
  by_cases e : i = k ∧ y = s
  · rw [if_pos e]
    obtain ⟨rfl, rfl⟩ := e
    rw [hb, h.val i y hk hs]
    unfold mkB
    constructor
    · rintro (⟨h, _⟩ | ⟨_, h, _⟩ | ⟨_, _, e, h, h'⟩)
      · omega
      · omega
      · rcases Nat.lt_succ_iff_lt_or_eq.1 h with h1 | rfl
        · exact .inl (.inr (.inr ⟨rfl, rfl, e, h1, h'⟩))
        · exact .inr h'
    · rintro ((⟨h, _⟩ | ⟨_, h, _⟩ | ⟨_, _, e, h, h'⟩) | h)
      · omega
      · omega
      · exact .inr (.inr ⟨rfl, rfl, e, by omega, h'⟩)
      · exact .inr (.inr ⟨rfl, rfl, d, by omega, h⟩)
  · rw [if_neg e]
    unfold mkB
    constructor
    · rintro (h | h | ⟨h1, h2, _⟩)
      · exact .inl h
      · exact .inr (.inl h)
      · exact absurd ⟨h1, h2⟩ e
    · rintro (h | h | ⟨h1, h2, _⟩)
      · exact .inl h
      · exact .inr (.inl h)
      · exact absurd ⟨h1, h2⟩ e
theorem mkB_next (h : MT NP NS T (mkB x kind p k s x.b)) (hk : k < p) : MT NP NS T (mkB x kind p k (s + 1) 0) := h.congr fun i y _ _ => by
  unfold mkB
  constructor
  · rintro (h | ⟨h1, h2, h3⟩ | ⟨h1, rfl, e, h2, h3⟩)
    · exact .inl h
    · exact .inr (.inl ⟨h1, by omega, h3⟩)
    · exact .inr (.inl ⟨h1, by omega, (canK_step hk).2 ⟨e, h2, h3⟩⟩)
  · rintro (h | ⟨h1, h2, h3⟩ | ⟨_, _, e, h2, _⟩)
    · exact .inl h
    · rcases Nat.lt_succ_iff_lt_or_eq.1 h2 with h4 | rfl
      · exact .inr (.inl ⟨h1, h4, h3⟩)
      · obtain ⟨e, h5, h6⟩ := (canK_step hk).1 h3
        exact .inr (.inr ⟨h1, rfl, e, h5, h6⟩)
    · omega
theorem mkB_done (h : MT NP NS T (mkB x kind p k NS 0)) : MT NP NS T (mkD x kind p k) := h.congr fun i y _ hy => by
  unfold mkB mkD
  constructor
  · rintro (⟨h1, h2⟩ | ⟨rfl, h2, h3⟩ | ⟨_, _, e, h2, _⟩)
    · exact ⟨by omega, h2⟩
    · exact ⟨Nat.le_refl _, h3⟩
    · omega
  · rintro ⟨h1, h2⟩
    rcases Nat.lt_or_eq_of_le h1 with h3 | rfl
    · exact .inl ⟨h3, h2⟩
    · exact .inr (.inl ⟨rfl, hy, h2⟩)
end marks

/-! ### .. in memory -/
theorem OBf.ok : Rep.Ok OBf := Own.ok oB.ok
abbrev OBB : Rep (List (List Bool)) := Own 126 OBf
theorem OBB.ok : Rep.Ok OBB := Own.ok OBf.ok
theorem infoBsl : (Try.prog.info? 126).map (fun i => (i.zero, i.size, i.bytes)) = some (some (.slice none 0 0), 1, 24) := by kernel_rfl
theorem infoGr : (Try.prog.info? 129).map (fun i => (i.zero, i.size, i.bytes)) = some (some (.slice none 0 0), 1, 24) := by kernel_rfl
abbrev OG : Rep (List (List (List Int))) := Own 129 OII
theorem OG.ok : Rep.Ok OG := Own.ok OII.ok
theorem OG.leads : Leads OG RdIII := Own.leads OII.leads
theorem OBB.at {w : World} {g n c NS : Nat} {T : List (List Bool)} {S : List Nat} {F : Nat → Nat → Prop} (h : OBB w (.slice (some ⟨g, 0, none⟩) n c) T S) (hm : MT n NS T F) {i y : Nat} (hi : i < n) (hy : y < NS) :
    ∃ gr cr cur, w.cell? ⟨g, i, none⟩ = some (.slice (some ⟨gr, 0, none⟩) NS cr) ∧ NS ≤ cr ∧ cr ≤ maxLen ∧ w.heap[gr]? = some (.cells cur 4 (0, 0)) ∧ NS ≤ cur.size ∧ (∀ z, z < NS → cur[z]? = some (.bool (nth (nth T i) z))) ∧ gr ∈ S ∧ gr ≠ g ∧
      ∀ w' b, (∀ k ∈ S, k ≠ gr → w'.heap[k]? = w.heap[k]?) → w'.heap[gr]? = some (.cells (cur.setIfInBounds y (.bool b)) 4 (0, 0)) → OBB w' (.slice (some ⟨g, 0, none⟩) n c) (setB T i y b) S := by
  have hl := hm.len
  have hrl := hm.row i hi
  obtain ⟨u, Tt, hc, hu, hT, hput⟩ := h.turnAt OBf.ok (i := i) (by omega)
  have hu0 := hu
  rcases hu with ⟨_, e, _⟩ | ⟨gr, cr, cur, Ss, rfl, hh, h1, h2, h3, hS, hN, hls, he⟩
  · rw [e] at hrl
    simp at hrl
    omega
  · rw [hrl] at hc h2 hls he hu0 hput
    have hgT : gr ∈ Tt := by rw [hS]; simp
    refine ⟨gr, cr, cur, hc, h2, h3, hh, by omega, fun z hz => ?_, (hT gr hgT).1, (hT gr hgT).2, fun w' b hk hg => ?_⟩
    · obtain ⟨u, hu, hr⟩ := he z hz
      rw [hu, hr.1]
    · refine OBB.ok.keep (hput (w.setCell ⟨gr, y, none⟩ (.bool b)) _ ((Only.refl _ _).put hgT _ _) (hu0.put (by omega) b)) fun k hkS => ?_
      by_cases e : k = gr
      · subst e
        rw [hg, heap_setCell_same w k y _ _ _ hh]
      · rw [hk k hkS e, heap_setCell_other w _ k _ e]

/-! ### What firstAt has made: grids, marks, the errors' symbols under the states -/
/-- For each marked state before s the least symbols of an error lie in the map, in memory that was made behind Z. -/
def Found (x : Chn) (kind : Int) (p s Z : Nat) (D : DP) (w : World) : Prop := ∀ s', s' < s → canN x kind p s' → ∃ v f, Under D s' v ∧ LeastL (FrmS x kind p s') f ∧ RdI (fun k => Z ≤ k ∧ k < w.heap.size) w v f
theorem Found.keep {x : Chn} {kind : Int} {p s Z : Nat} {D : DP} {w w' : World} (h : Found x kind p s Z D w) (hz : w.heap.size ≤ w'.heap.size) (hk : ∀ k, Z ≤ k → k < w.heap.size → w'.heap[k]? = w.heap[k]?) : Found x kind p s Z D w' := fun s' hs hc => by
  obtain ⟨v, f, h1, h2, h3⟩ := h s' hs hc
  exact ⟨v, f, h1, h2, rd_whole h3 (fun k hk => ⟨hk.1, Nat.lt_of_lt_of_le hk.2 hz⟩) fun k hk' => hk k hk'.1 hk'.2⟩
/-- The blocks. -/
structure Bk where
  bx : Nat
  b0 : Nat
  b1 : Nat
  b2 : Nat
  b3 : Nat
  b5 : Nat
  bm : Nat
  bf : Nat
  gq : Nat
  bq : Nat
  Z : Nat
structure L4 (x : Chn) (kind : Int) (p : Nat) (b : Bk) (vb : Value) (NP NS : Nat) (S : List Nat) (w : World) (s : Nat) (F : Nat → Nat → Prop) (T : List (List Bool)) (wr : World) : Prop where
  ls : b.bf = b.bm + 1 ∧ b.gq = b.bm + 2 ∧ b.bq = b.bm + 3 ∧ b.bm + 4 ≤ b.Z ∧ w.heap.size ≤ b.bm ∧ b.Z ≤ wr.heap.size
  lS : ∀ j ∈ S, (j = b.gq ∨ b.bq < j) ∧ j < b.Z
  fa : FA x kind p b.b0 b.b1 b.b2 b.b3 b.b5 b.bx b.bm vb wr
  mt : MT NP NS T F
  ow : OBB wr (.slice (some ⟨b.gq, 0, none⟩) NP NP) T S
  hq : wr.heap[b.bq]? = some (.cells #[.slice (some ⟨b.gq, 0, none⟩) NP NP] 156 (0, 0))
  hf : wr.heap[b.bf]? = some (.cells #[.map (some b.bm)] 155 (0, 0))
  mp : ∃ n D, wr.ownsMap Try.prog 2 tok b.bm n D ∧ n ≤ s ∧ Found x kind p s b.Z D wr
  bel : Below w.heap.size w wr
section L4
variable {x : Chn} {kind : Int} {p : Nat} {b : Bk} {vb : Value} {NP NS : Nat} {S : List Nat} {w : World} {s : Nat} {F F' : Nat → Nat → Prop} {T T' : List (List Bool)} {wr w' : World}
theorem L4.below (h : L4 x kind p b vb NP NS S w s F T wr) (hb : Below wr.heap.size wr w') : L4 x kind p b vb NP NS S w s F T w' := by
  have hz := hb.size
  have hl := h.ls
  obtain ⟨n, D, h1, h2, h3⟩ := h.mp
  exact ⟨by omega, h.lS, h.fa.keep fun j hj => hb.block j (by omega), h.mt, OBB.ok.keep h.ow fun k hk => hb.block k (OBB.ok.lt h.ow k hk), (hb.block _ (heap_lt h.hq)).trans h.hq, (hb.block _ (heap_lt h.hf)).trans h.hf, ⟨n, D, h1.kept (grown_below hb) (by simp), h2, h3.keep hz fun k _ hk => hb.block k hk⟩, h.bel.trans (hb.mono h.bel.size)⟩
theorem L4.congr (h : L4 x kind p b vb NP NS S w s F T wr) (hm : MT NP NS T F') : L4 x kind p b vb NP NS S w s F' T wr := ⟨h.ls, h.lS, h.fa, hm, h.ow, h.hq, h.hf, h.mp, h.bel⟩
/-- A mark is set. -/
theorem L4.turn (h : L4 x kind p b vb NP NS S w s F T wr) {gr : Nat} (hg : gr ∈ S) (hne : gr ≠ b.gq) (hk : ∀ k, k < wr.heap.size → k ≠ gr → w'.heap[k]? = wr.heap[k]?) (hz : wr.heap.size ≤ w'.heap.size) (ho : OBB w' (.slice (some ⟨b.gq, 0, none⟩) NP NP) T' S) (hm : MT NP NS T' F') (he : w'.os = wr.os ∧ w'.tape = wr.tape ∧ w'.output = wr.output) :
    L4 x kind p b vb NP NS S w s F' T' w' := by
  have hl := h.ls
  have hS := h.lS gr hg
  obtain ⟨n, D, ⟨es, clock, h1, h1'⟩, h2, h3⟩ := h.mp
  exact ⟨by omega, h.lS, h.fa.keep fun j hj => hk j (by omega) (by omega), hm, ho, (hk _ (heap_lt h.hq) (by omega)).trans h.hq, (hk _ (heap_lt h.hf) (by omega)).trans h.hf, ⟨n, D, ⟨es, clock, (hk _ (Array.getElem?_eq_some_iff.1 h1).1 (by omega)).trans h1, h1'⟩, h2, h3.keep hz fun k hk1 hk2 => hk k hk2 (by omega)⟩,
    ⟨he.1.trans h.bel.os, he.2.1.trans h.bel.tape, he.2.2.trans h.bel.output, Nat.le_trans h.bel.size hz, fun k hk1 => (hk k (by omega) (by omega)).trans (h.bel.block k hk1)⟩⟩
/-- An error was found in a state. -/
theorem L4.found (h : L4 x kind p b vb NP NS S w s (mkN x kind p s) T wr) (hs : s < NS) (hp : p < NP) (hc : canN x kind p s) {gr n : Nat} {cur : Array Value} {f : List Int} {D : DP} (hD : wr.ownsMap Try.prog 2 tok b.bm n D) (hn : n ≤ s) (hF : Found x kind p s b.Z D wr) (hg : gr ∈ S) (hne : gr ≠ b.gq) (hL : LeastL (FrmS x kind p s) f)
    (hft : FT gr s b.bm n cur f D wr w')
    (hput : ∀ w' c, (∀ k ∈ S, k ≠ gr → w'.heap[k]? = wr.heap[k]?) → w'.heap[gr]? = some (.cells (cur.setIfInBounds s (.bool c)) 4 (0, 0)) → OBB w' (.slice (some ⟨b.gq, 0, none⟩) NP NP) (setB T p s c) S) :
    L4 x kind p b vb NP NS S w (s + 1) (mkN x kind p (s + 1)) (setB T p s true) w' := by
  have hl := h.ls
  have hS := h.lS gr hg
  have hz := hft.size
  have hk := hft.block
  obtain ⟨D', v, q1, q2, q3, q4⟩ := hft.found
  refine ⟨by omega, h.lS, h.fa.keep fun j hj => hk j (by omega) (by omega) (by omega), mkN_yes h.mt hp hs hc, hput w' true (fun k hkS hkg => hk k (OBB.ok.lt h.ow k hkS) hkg (by have := h.lS k hkS; omega)) hft.row, (hk _ (heap_lt h.hq) (by omega) (by omega)).trans h.hq, (hk _ (heap_lt h.hf) (by omega) (by omega)).trans h.hf, ⟨n + 1, D', q1, by omega, fun s' hs' hc' => ?_⟩,
    ⟨hft.os.trans h.bel.os, hft.tape.trans h.bel.tape, hft.output.trans h.bel.output, Nat.le_trans h.bel.size hz, fun k hk1 => (hk k (by omega) (by omega) (by omega)).trans (h.bel.block k hk1)⟩⟩
  by_cases e : s' = s
  · subst e
    exact ⟨v, f, q2, hL, RdI.ok.mono q4 fun k hk' => ⟨by omega, hk'.2⟩⟩
  · obtain ⟨v', f', r1, r2, r3⟩ := hF s' (by omega) hc'
    exact ⟨v', f', q3 s' v' e r1, r2, rd_whole r3 (fun k hk' => ⟨hk'.1, by omega⟩) fun k hk' => hk k hk'.2 (by omega) (by omega)⟩
theorem L4.none (h : L4 x kind p b vb NP NS S w s (mkN x kind p s) T wr) (hc : ¬ canN x kind p s) : L4 x kind p b vb NP NS S w (s + 1) (mkN x kind p (s + 1)) T wr := by
  obtain ⟨n, D, h1, h2, h3⟩ := h.mp
  refine ⟨h.ls, h.lS, h.fa, mkN_no h.mt hc, h.ow, h.hq, h.hf, ⟨n, D, h1, by omega, fun s' hs' hc' => ?_⟩, h.bel⟩
  by_cases e : s' = s
  · exact absurd (e ▸ hc') hc
  · exact h3 s' (by omega) hc'
end L4
end Go.Proofs.Ytnpkanlieflbiaa
