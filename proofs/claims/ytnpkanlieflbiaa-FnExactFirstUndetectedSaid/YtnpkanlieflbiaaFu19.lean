/- The first undetected error: finish, which finds the least symbols behind an error; walked. -/
import Derived.Test.YtnpkanlieflbiaaFu17
import Derived.Test.YtnpkanlieflbiaaFu13
namespace Go.Proofs.Ytnpkanlieflbiaa
open Go.RowKit Go.Maps
set_option linter.unusedVariables false

theorem BoxC.mono {P P' : Nat → Prop} {w : World} {b : Nat} {x : Chn} (h : BoxC P w b x) (hP : ∀ k, P k → P' k) : BoxC P' w b x := by
  obtain ⟨u, p, h1, h2, h3⟩ := h
  exact ⟨u, p, h1, RdIII.ok.mono h2 hP, RdI.ok.mono h3 hP⟩
theorem Only.trans' {S S2 : List Nat} {a b c : World} (h : Only S a b) (k : Only S2 b c) (hS : ∀ k ∈ S2, k ∈ S ∨ a.heap.size ≤ k) : Only S a c :=
  ⟨k.os.trans h.os, k.tape.trans h.tape, k.output.trans h.output, Nat.le_trans h.size k.size, fun i hi hiS => (k.block i (Nat.lt_of_lt_of_le hi h.size) (fun hm => by
    rcases hS i hm with h1 | h1
    · exact hiS h1
    · omega)).trans (h.block i hi hiS)⟩
theorem KB.only {b : Nat} {S : List Nat} {w w1 : World} (h : KB b w w1) (hb : b ∈ S) : Only S w w1 := ⟨h.os, h.tape, h.output, h.size, fun k h1 h2 => h.block k (fun e => h2 (e ▸ hb)) h1⟩

theorem three_end (w : World) (A Z C : Obj) : (((w.alloc A).alloc Z).alloc C).heap[w.heap.size]? = some A ∧ (((w.alloc A).alloc Z).alloc C).heap[w.heap.size + 1]? = some Z ∧ (((w.alloc A).alloc Z).alloc C).heap[w.heap.size + 1 + 1]? = some C ∧
    (((w.alloc A).alloc Z).alloc C).heap.size = w.heap.size + 3 ∧ Below w.heap.size w (((w.alloc A).alloc Z).alloc C) := by
  have h := Kp.four w A Z C C
  have e1 := Below.heap_alloc (((w.alloc A).alloc Z).alloc C) C
  have hs : (((w.alloc A).alloc Z).alloc C).heap.size = w.heap.size + 3 := by simp
  refine ⟨(e1 _ (by omega)).symm.trans h.1, (e1 _ (by omega)).symm.trans h.2.1, (e1 _ (by omega)).symm.trans h.2.2.1, hs, ?_⟩
  exact (((Below.refl _ _).alloc (Nat.le_refl _) _).alloc (by simp) _).alloc (by simp; omega) _

set_option maxHeartbeats 6400000 in
set_option maxRecDepth 100000 in
theorem implFinish {x : Chn} {kind : Int} {p s B M bx go co : Nat} {vb : Value} {a f : List Int} {S : List Nat} {w : World} (hv : VC x) (hko : kindOk kind x.base = true) (hbox : BoxC (· < B) w bx x) (hB : B ≤ M) (hbxM : bx < M) (hM : M ≤ w.heap.size) (hp : p + errLen kind ≤ x.n) (hs : s < x.S)
    (hgr : RdIII (· < M) w vb (grsL x (p + errLen kind) (x.n + 1))) (ho : OI w (.slice (some ⟨go, 0, none⟩) (p + errLen kind) co) (a ++ f) S) (hS : ∀ k ∈ S, M ≤ k) (hla : a.length = p) (hfl : f.length = errLen kind) (hfd : Digs x.b f) (hfr : FrmS x kind p s f) :
    Calls Try.prog 156 #[.pointer (some ⟨bx, 0, none⟩), .int .i64 kind, .slice (some ⟨go, 0, none⟩) (p + errLen kind) co, .int .i64 s, .int .i64 p, vb] w fun e w' =>
      ∃ v' c S', e = .returned v' ∧ OI w' v' (a ++ f ++ c) S' ∧ (∀ k ∈ S', k ∈ S ∨ w.heap.size ≤ k) ∧ Only S w w' ∧ LeastL (BehS x kind p s f) c := by
  have hnat := hv.nat
  have hbs := hv.base
  have hel := errLen_bd kind
  have hk5 := Lib.hid (show 0 ≤ kind ∧ kind ≤ 5 by
    have hko' := hko
    simp only [kindOk, inB_true, Bool.and_eq_true] at hko'
    exact hko'.1)
  have hk10 := Lib.hid (show kind = 5 → 10 ≤ x.b from fun h5 => by
    have hko' := hko
    simp only [kindOk, inB_true, Bool.and_eq_true, Bool.or_eq_true, decide_eq_true_eq] at hko'
    rcases hko'.2 with h | h
    · exact absurd h5 h
    · show 10 ≤ x.base.toNat; omega)
  clear hko
  obtain ⟨av, cv, rfl, q1, q2⟩ := hgr.isSlice
  rw [grsL_len] at *
  obtain ⟨NN, hNN⟩ : ∃ n, n = x.n + 1 := ⟨_, rfl⟩
  have hgr : RdIII (· < M) w (.slice av NN cv) (grsL x (p + errLen kind) (x.n + 1)) := by rw [hNN]; exact hgr
  rw [← hNN] at q1 ⊢
  have HNN := Lib.hid hNN
  clear hNN
  unfold maxLen at q2
  obtain ⟨hol, hoc, hom⟩ := ho.len
  obtain ⟨PN, hPN⟩ : ∃ n, n = p + errLen kind := ⟨_, rfl⟩
  have HPN := Lib.hid hPN
  have ho : OI w (.slice (some ⟨go, 0, none⟩) PN co) (a ++ f) S := by rw [hPN]; exact ho
  rw [← hPN] at hol hoc ⊢
  unfold maxLen at hom
  obtain ⟨W1, hW1⟩ : ∃ W1, W1 = (((w.alloc (.cells #[.pointer (some ⟨bx, 0, none⟩)] 114)).alloc (.cells #[.int .i64 s] 2)).alloc (.cells #[.int .i64 p] 3)).alloc (.cells #[.slice av NN cv] 154) := ⟨_, rfl⟩
  have H1 := Lib.hid (Kp.four w (.cells #[.pointer (some ⟨bx, 0, none⟩)] 114) (.cells #[.int .i64 s] 2) (.cells #[.int .i64 p] 3) (.cells #[.slice av NN cv] 154))
  rw [← hW1] at H1
  have HW1 := Lib.hid hW1; clear hW1
  have hs1 := H1.out.2.2.2.2.1
  have hb1 := Lib.hid H1.out.2.2.2.2.2
  have hf1 := Lib.hid (show FI x kind p s w.heap.size (w.heap.size + 1) (w.heap.size + 1 + 1) (w.heap.size + 1 + 1 + 1) bx W1.heap.size (.slice av NN cv) W1 from
    ⟨by omega, heap_cell H1.out.1 rfl, heap_cell H1.out.2.1 rfl, heap_cell H1.out.2.2.1 rfl, heap_cell H1.out.2.2.2.1 rfl, (hbox.keep fun k hk => hb1.out.block k (by rcases hk with hk | hk <;> omega)).mono fun k hk => by (have hk : k < B := hk); show k < _; omega,
      RdIII.ok.mono (RdIII.ok.keep hgr fun k hk => hb1.out.block k (by omega)) fun k hk => by (have hk : k < M := hk); show k < _; omega⟩)
  have ho1 := Lib.hid (OI.ok.keep ho fun k hk => hb1.out.block k (OI.ok.lt ho k hk))
  have hlt0 := Lib.hid (OI.ok.lt ho)
  have HS := Lib.hid hS
  have Hgr := Lib.hid hgr
  have Hbox := Lib.hid hbox
  clear hgr ho hS hbox
  have hpc : p ≤ PN := by omega
  have hpc2 : p ≤ co := by omega
  have hpe : PN - p = errLen kind := by omega
  have c10 := hf1.out.pl
  have hcl := Lib.hid (slClone (P := (· < W1.heap.size)) (w := W1) (v := .slice (some ⟨go, p, none⟩) (errLen kind) (co - p)) (xs := f) (by
      have h1 := rd_part (P := (· < W1.heap.size)) (P' := (· < W1.heap.size)) (W := W1) (OI.leads.to _ _ _ _ (· < W1.heap.size) ho1.out fun k hk => OI.ok.lt ho1.out k hk) (fun k hk => hk) (fun k hk => rfl) (i := p) (m := errLen kind) (by omega) (a' := some ⟨go, p, none⟩) (fun _ => by rw [Nat.zero_add]) (c' := co - p) (by unfold maxLen; omega)
      rw [List.drop_left' hla, List.take_of_length_le (Nat.le_of_eq hfl)] at h1
      exact h1) (fun k hk => hk) (by rw [hfl]; omega))
  clear hPN
  have hmm := @run_makeMap Try.prog
  go_enter Try.func156, Try.ntmps156
  go_wp2_with fail
  rw [← HW1.out]
  refine (Calls.mono hcl.out ?_)
  rintro e w2 ⟨v2, rfl, hf2⟩
  obtain ⟨g2, c2, rfl⟩ := hf2.shape (by rw [hfl]; exact hel.1)
  rw [hfl] at hf2
  have Hf2 := Lib.hid hf2
  clear hf2 hcl c10
  go_wp2
  obtain ⟨W3, hW3⟩ : ∃ W3, W3 = ((w2.alloc (.cells #[.slice (some ⟨g2, 0, none⟩) (errLen kind) c2] 22)).alloc (.map #[] 0)).alloc (.cells #[.map (some (w2.heap.size + 1))] 167) := ⟨_, rfl⟩
  have hs2 := Hf2.out.bel.size
  have H3 := Lib.hid (three_end w2 (.cells #[.slice (some ⟨g2, 0, none⟩) (errLen kind) c2] 22) (.map #[] 0) (.cells #[.map (some (w2.heap.size + 1))] 167))
  rw [← hW3] at H3
  have HW3 := Lib.hid hW3; clear hW3
  have hb3 := Lib.hid H3.out.2.2.2.2
  have hs3 := H3.out.2.2.2.1
  have hb13 := Lib.hid (Hf2.out.bel.trans (hb3.out.mono hs2))
  have hf3 := Lib.hid (show ∀ w1, KB (w2.heap.size + 1) W3 w1 → FI x kind p s w.heap.size (w.heap.size + 1) (w.heap.size + 1 + 1) (w.heap.size + 1 + 1 + 1) bx W1.heap.size (.slice av NN cv) w1 from fun w1 hk =>
    hf1.out.keep fun j hj => (hk.block j (by omega) (by omega)).trans (hb13.out.block j hj))
  have hr3 := Lib.hid (show ∀ w1, KB (w2.heap.size + 1) W3 w1 → RdI (fun k => W1.heap.size ≤ k ∧ k < w2.heap.size) w1 (.slice (some ⟨g2, 0, none⟩) (errLen kind) c2) f from fun w1 hk => by
    obtain ⟨T, h1, h2, h3⟩ := Hf2.out
    refine RdI.ok.keep (w := w2) (OI.leads.to _ _ _ _ (fun k => W1.heap.size ≤ k ∧ k < w2.heap.size) h1 fun k hk => ⟨h2 k hk, OI.ok.lt h1 k hk⟩) fun k hk' => ?_
    exact (hk.block k (by omega) (by omega)).trans (hb3.out.block k hk'.2))
  have d6 : W3.cell? ⟨w.heap.size, 0, none⟩ = some (.pointer (some ⟨bx, 0, none⟩)) := (hf3.out W3 (KB.of_below (Below.refl _ _))).c
  obtain ⟨a4, c4, a5, c5, g0, _⟩ := (hf3.out W3 (KB.of_below (Below.refl _ _))).box.cells
  obtain ⟨NB, hNB⟩ : ∃ n : Nat, n = x.b := ⟨_, rfl⟩
  rw [show x.base = (NB : Int) by rw [hNB]; show x.base = (x.base.toNat : Int); omega] at g0
  have HNB := Lib.hid hNB
  have d13 := heap_cell H3.out.1 (i := 0) rfl
  have hch := Lib.hid (fun m => Kp.implChanges (P := fun k => W1.heap.size ≤ k ∧ k < w2.heap.size) kind hk5.out NB (by rw [hNB]; exact hnat.1) (v := .slice (some ⟨g2, 0, none⟩) (errLen kind) c2) (f := f) (w := W3.drewN m) hfl 169
    #[.pointer (some ⟨w.heap.size, 0, none⟩), .pointer (some ⟨w.heap.size + 1 + 1, 0, none⟩), .pointer (some ⟨w.heap.size + 1, 0, none⟩), .pointer (some ⟨w2.heap.size, 0, none⟩), .pointer (some ⟨w.heap.size + 1 + 1 + 1, 0, none⟩), .pointer (some ⟨w2.heap.size + 1 + 1, 0, none⟩)]
    (fun d w1 => KB (w2.heap.size + 1) W3 w1 ∧ ∃ n D, w1.ownsMap Try.prog 169 tok (w2.heap.size + 1) n D ∧ n ≤ d.length ∧ PSet D x.S fun i j => ∃ t, t ∈ d ∧ goodN x kind p s f t ∧ i = runN x p s f ∧ j = runN x p s t)
    (rd_draws RdI.ok (hr3.out W3 (KB.of_below (Below.refl _ _))) m) (fun k hk => by show k < W3.heap.size; omega)
    (fun w1 hw1 => by
      have hb : Below W3.heap.size W3 w1 := (Below.draws (Below.refl _ _) m).trans hw1
      refine ⟨KB.of_below hb, 0, .map [], ⟨#[], 0, (hb.block _ (by omega)).trans H3.out.2.1, ⟨by simp, MapKept.stamped_empty 0, by simp⟩, Nat.le_refl _, rfl⟩, Nat.zero_le _, (PSet.empty x.S).congr fun i j => ⟨fun h => h.elim, ?_⟩⟩
      rintro ⟨t, h, _⟩
      cases h)
    (fun d w1 w3 hj hw => ⟨hj.1.trans (KB.of_below hw), by
      obtain ⟨n, D, h1, h2, h3⟩ := hj.2
      exact ⟨n, D, h1.kept (grown_below hw) (by simp), h2, h3⟩⟩)
    (fun d w1 hj => hr3.out w1 hj.1)
    (fun d t hpre v' w1 hrt hj => by
      have hmem : t ∈ chg kind x.b f := (by rw [hNB] at hpre; exact hpre.subset (show t ∈ d ++ [t] by simp))
      have hcd := chg_digs (kind := kind) (b := x.b) hk10.out hnat.1.1 hfd hfl t hmem
      have hdl : d.length < 1000 := by
        have h1 := chg_len kind (b := NB) (by omega) f
        have h2 := hpre.length_le
        rw [List.length_append, List.length_singleton] at h2
        omega
      obtain ⟨hk, n, D, h1, h2, h3⟩ := hj
      refine (implFin1 hv (hf3.out w1 hk) (by have := hk.size; omega) hp hs (hk.cell d13 (by show w2.heap.size ≠ w2.heap.size + 1; omega)) (hr3.out w1 hk) (fun k hk' => by have := hk.size; omega) hrt (fun k hk' => hk'.2) hfd hcd.1 hfl (hcd.2.trans hfl)
        (hk.cell (heap_cell H3.out.2.2.1 (i := 0) rfl) (by show w2.heap.size + 1 + 1 ≠ w2.heap.size + 1; omega)) h1 (by omega) h3).mono ?_
      rintro e w4 ⟨rfl, hk4, n4, D4, h4, h5, h6⟩
      refine ⟨rfl, ⟨hk.trans hk4, n4, D4, h4, by rw [List.length_append, List.length_singleton]; omega, h6.congr fun i j => ?_⟩, hk4.kept (show w2.heap.size + 1 < W3.heap.size by omega)⟩
      constructor
      · rintro (⟨t', q1, q2⟩ | q2)
        · exact ⟨t', by simp [q1], q2⟩
        · exact ⟨t, by simp, q2⟩
      · rintro ⟨t', q1, q2⟩
        rcases List.mem_append.1 q1 with q1 | q1
        · exact .inl ⟨t', q1, q2⟩
        · simp at q1
          subst q1
          exact .inr q2)
    (fun args w => rfl))
  rw [← HW3.out]
  have Hs := Lib.hid (show W1.heap.size = w.heap.size + 4 ∧ W3.heap.size = w2.heap.size + 3 ∧ W1.heap.size ≤ w2.heap.size from ⟨hs1, hs3, hs2⟩)
  clear hs1 hs3 hs2 hNB hbs
  refine wp_region_quiet_tail_lit 7 (by kernel_rfl) (by kernel_rfl) ?_
  simp only [List.take_succ_cons, List.take_zero, List.drop_succ_cons, List.drop_zero]
  repeat (go_big_quiet_step (fail))
  refine wpQuiet_nil ?_
  rintro _ ⟨nq, rfl⟩
  go_wp2_with fail
  refine Calls.mono (hch.out nq) ?_
  rintro e w4 ⟨rfl, ⟨hk4, n4, D4, h4, h5, h6⟩, -⟩
  clear hch d6 g0 d13
  have hlow := Lib.hid (show ∀ wr, Only ((w2.heap.size + 1 + 1) :: S) w4 wr → ∀ j, (j < M ∨ (w.heap.size ≤ j ∧ j < w.heap.size + 4)) → wr.heap[j]? = W1.heap[j]? from fun wr hon j hj => by
    obtain ⟨q3, q4, q5⟩ := Hs.out
    have q6 := hk4.size
    have hjS : j ∉ S := fun hm => by
      have h1 := HS.out j hm
      have h2 := hlt0.out j hm
      omega
    exact ((hon.block j (by omega) (by simp only [List.mem_cons, not_or]; exact ⟨by omega, hjS⟩)).trans (hk4.block j (by omega) (by omega))).trans (hb13.out.block j (by omega)))
  have hloF := Lib.hid (show ∀ wr, Only ((w2.heap.size + 1 + 1) :: S) w4 wr → wr.cell? ⟨w.heap.size, 0, none⟩ = some (.pointer (some ⟨bx, 0, none⟩)) ∧ wr.cell? ⟨w.heap.size + 1 + 1 + 1, 0, none⟩ = some (.slice av NN cv) ∧ BoxC (· < B) wr bx x ∧ RdIII (· < M) wr (.slice av NN cv) (grsL x (p + errLen kind) (x.n + 1)) from fun wr hon => by
    have h1 := hlow.out wr hon
    refine ⟨(cell_keep (h1 _ (.inr (by show w.heap.size ≤ w.heap.size ∧ w.heap.size < w.heap.size + 4; omega)))).trans hf1.out.c, (cell_keep (h1 _ (.inr (by show w.heap.size ≤ w.heap.size + 1 + 1 + 1 ∧ w.heap.size + 1 + 1 + 1 < w.heap.size + 4; omega)))).trans hf1.out.b, Hbox.out.keep fun k hk => ?_, RdIII.ok.keep Hgr.out fun k hk => ?_⟩
    · exact (h1 k (.inl (by rcases hk with hk | hk <;> omega))).trans (hb1.out.block k (by rcases hk with hk | hk <;> omega))
    · have hk : k < M := hk
      exact (h1 k (.inl hk)).trans (hb1.out.block k (by omega)))
  have hP0 := Lib.hid (show PSet D4 x.S (PairS x kind p s f []) from h6.congr fun i j => by
    constructor
    · rintro ⟨t, q1, q2, rfl, rfl⟩
      exact ⟨t, by rw [HNB.out] at q1; exact q1, rfl, rfl, q2⟩
    · rintro ⟨t, q1, q2, q3, q4⟩
      exact ⟨t, by rw [HNB.out]; exact q1, by rw [q2, q3] at q4; exact q4, q2, q3⟩)
  have hn4 : n4 ≤ 36 := by
    have h1 := chg_len kind (b := NB) (by have := HNB.out; omega) f
    have := HNB.out
    omega
  have hO0 := Lib.hid (show OI w4 (.slice (some ⟨go, 0, none⟩) PN co) (a ++ f ++ []) S from by
    rw [List.append_nil]
    refine OI.ok.keep ho1.out fun k hk => ?_
    obtain ⟨q3, q4, q5⟩ := Hs.out
    have h2 := hlt0.out k hk
    exact (hk4.block k (by omega) (by omega)).trans (hb13.out.block k (by omega)))
  have hbp4 := Lib.hid (show w4.heap[w2.heap.size + 1 + 1]? = some (.cells #[.map (some (w2.heap.size + 1))] 167 (0, 0)) from (hk4.block _ (by omega) (by have := Hs.out; omega)).trans H3.out.2.2.1)
  have hG0 := Lib.hid (beh_nil hfr)
  have HD4 := Lib.hid h4
  have Hk4 := Lib.hid hk4
  have hbm0 := Lib.hid (show w2.heap.size + 1 ∉ S from fun hm => by
    have h1 := hlt0.out _ hm
    have := Hs.out
    omega)
  have Hol := Lib.hid hol
  clear h4 h5 h6 hk4 hfr hol hfl hla
  go_wp2
  go_loopw [2, 15] (fun ov kv wr => ∃ (u : List Int) (S2 : List Nat) (n bm : Nat) (D : DP) (ao : Option Addr) (no cq : Nat), ov = .slice ao no cq ∧ kv = .int .i64 ((PN + u.length : Nat) : Int) ∧ PN + u.length ≤ x.n ∧ n ≤ 36 ∧ Hid (OI wr ov (a ++ f ++ u) S2 ∧ (∀ k ∈ S2, k ∈ S ∨ w4.heap.size ≤ k)) ∧ Hid (Only ((w2.heap.size + 1 + 1) :: S) w4 wr) ∧
    Hid (wr.heap[w2.heap.size + 1 + 1]? = some (.cells #[.map (some bm)] 167 (0, 0))) ∧ Hid (bm ≠ w2.heap.size + 1 + 1 ∧ bm ∉ S2) ∧ Hid (wr.ownsMap Try.prog 169 tok bm n D ∧ PSet D x.S (PairS x kind p s f u)) ∧ Hid (GP (BehS x kind p s f) u)) (fun _ kv _ => x.n - (intOf kv).toNat)
  case atStart => exact ⟨[], S, n4, w2.heap.size + 1, D4, _, _, _, rfl, by simp, by simp; have := HPN.out; omega, hn4, Lib.hid ⟨hO0.out, fun k hk => .inl hk⟩, Lib.hid (Only.refl _ _), hbp4, Lib.hid ⟨by omega, hbm0.out⟩, Lib.hid ⟨HD4.out, hP0.out⟩, hG0⟩
  case round =>
    clear hO0 hbp4 hbm0 HD4 hP0 hG0 hn4
    obtain ⟨u, S2, n, bm, D, ao, no, cq, rfl, rfl, hul, hn, hO, hon, hbp, hbm, hD, hG⟩ := hrel
    obtain ⟨W5, rfl⟩ : ∃ W, W = wr := ⟨_, rfl⟩
    obtain ⟨e4, e11, hbox5, hgr5⟩ := hloF.out _ hon.out
    obtain ⟨a6, c6, a7, c7, g0, g1, g2', g3, g4, g5, -, -, -, hc7⟩ := hbox5.cells
    obtain ⟨K, hK⟩ : ∃ k, k = PN + u.length := ⟨_, rfl⟩
    rw [← hK] at hul ⊢
    have hxn : x.places.length = x.n := rfl
    rw [hxn] at g5 hc7
    obtain ⟨NX, hNX⟩ : ∃ k, k = x.n := ⟨_, rfl⟩
    rw [← hNX] at g5 hc7 hul
    have HNX := Lib.hid hNX
    have HK := Lib.hid hK
    clear hNX hK hxn g1 g2' g3 g4 hnat
    unfold maxLen at hc7
    by_cases hlt : K < NX
    · rw [show x.base = (NB : Int) by have := HNB.out; have := hv.base; rw [HNB.out]; show x.base = (x.base.toNat : Int); omega] at g0
      have Hbox5 := Lib.hid hbox5
      have Hgr5 := Lib.hid hgr5
      have hz1 := Lib.hid (World.block_lt_of_cell? W5 _ e4)
      have hz2 := Lib.hid (World.block_lt_of_cell? W5 _ e11)
      have hz3 := Lib.hid (heap_lt hbp.out)
      clear hbox5 hgr5
      go_wp2
      clear g0 g5 e4 e11
      go_loopw [2, 48] (fun ov dv wr => ∃ d : Nat, d ≤ NB ∧ ov = .slice ao no cq ∧ dv = .int .i64 d ∧ Hid (Below W5.heap.size W5 wr) ∧ Hid (∀ e, e < d → ∀ i j, PairS x kind p s f u i j → ¬ 0 < bothV x (K + 1) (nxt x K i e) (nxt x K j e))) (fun _ dv _ => NB - (intOf dv).toNat)
      case atStart => exact ⟨0, Nat.zero_le _, rfl, rfl, Lib.hid (Below.refl _ _), Lib.hid (fun e he => absurd he (Nat.not_lt_zero _))⟩
      case round =>
        obtain ⟨d, hd, rfl, rfl, hb6, hno⟩ := hrel
        obtain ⟨W6, rfl⟩ : ∃ W, W = wr := ⟨_, rfl⟩
        by_cases hdl : d < NB
        · obtain ⟨e4, e11, -, -⟩ := hloF.out _ hon.out
          have e4 := (hb6.out.cell (p := ⟨w.heap.size, 0, none⟩) hz1.out).trans e4
          have e11 := (hb6.out.cell (p := ⟨w.heap.size + 1 + 1 + 1, 0, none⟩) hz2.out).trans e11
          have hbp6 := Lib.hid ((hb6.out.block _ hz3.out).trans hbp.out)
          have e14 := heap_cell ((Below.heap_alloc W6 (.map #[] 0) _ (heap_lt hbp6.out)).trans hbp6.out) (i := 0) rfl
          have hD6 := Lib.hid (show (W6.alloc (.map #[] 0)).ownsMap Try.prog 169 tok bm n D from (hD.out.1.kept (grown_below hb6.out) (by simp)).alloc _)
          go_wp2_with (first | (at_range; refine wpList_range_pairs _ rfl _ rfl bm n D x.S _ rfl hD6.out hD.out.2 ?_; intro w7 hr7 hg7 hs7; generalize hrr : (W6.alloc (.map #[] 0)).heap.size = r at hr7 hs7 ⊢; have Hrr := Lib.hid hrr; clear hrr; have Hr7 := Lib.hid hr7; have Hg7 := Lib.hid hg7; have Hs7 := Lib.hid hs7; clear hr7 hg7 hs7) | fail)
          have Hr1 := Lib.hid (show r = W6.heap.size + 1 ∧ w7.heap.size = r + 1 from ⟨by rw [← Hrr.out]; exact alloc_size _ _, Hs7.out⟩)
          clear Hrr Hs7
          have hm7 := Lib.hid (show w7.ownsMap Try.prog 169 tok W6.heap.size 0 (.map []) from (World.ownsMap_made (H := Value) W6 Try.prog 169 tok).kept Hg7.out (by simp))
          have hq7 := Lib.hid (show PSet (.map []) x.S (fun a b => ∃ i j, PairS x kind p s f u i j ∧ ¬ PairS x kind p s f u i j ∧ a = nxt x K i d ∧ b = nxt x K j d ∧ 0 < bothV x (K + 1) a b) from (PSet.empty x.S).congr fun a b => ⟨fun h => h.elim, fun ⟨i, j, h1, h2, _⟩ => absurd h1 h2⟩)
          have hsz7 := Lib.hid (show 0 + Maps.size D ≤ n by have := hD6.out.size_le; omega)
          have hW5 := Lib.hid (show ∀ W, Only [r, W6.heap.size] w7 W → ∀ k, k < W5.heap.size → W.heap[k]? = W5.heap[k]? from fun W ho k hk => by
            have h6 := hb6.out.size
            have h7 := Hg7.out.size
            have h8 := Hr1.out
            rw [alloc_size] at h7
            refine ((ho.block k (by omega) (by simp; omega)).trans (Hg7.out.block k (by rw [alloc_size]; omega) (by simp))).trans ((Below.heap_alloc W6 _ k (by omega)).trans (hb6.out.block k hk)))
          have hfar := Lib.hid (show ∀ W, Only [r, W6.heap.size] w7 W → W.cell? ⟨w.heap.size, 0, none⟩ = some (.pointer (some ⟨bx, 0, none⟩)) ∧ W.cell? ⟨w.heap.size + 1 + 1 + 1, 0, none⟩ = some (.slice av NN cv) ∧ BoxC (· < B) W bx x ∧ RdIII (· < M) W (.slice av NN cv) (grsL x (p + errLen kind) (x.n + 1)) from fun W ho => by
            obtain ⟨f4, f11, fbox, fgr⟩ := hloF.out _ hon.out
            have h5 := hW5.out W ho
            have h6 := hz1.out
            have h6 : w.heap.size < W5.heap.size := h6
            exact ⟨(cell_keep (h5 _ hz1.out)).trans f4, (cell_keep (h5 _ hz2.out)).trans f11, fbox.keep fun k hk => h5 k (by rcases hk with hk | hk <;> omega), RdIII.ok.keep fgr fun k hk => h5 k (by have hk : k < M := hk; omega)⟩)
          have hbm6 := Lib.hid (show bm < W6.heap.size from by have h1 := hD.out.1.lt; have h2 := hb6.out.size; omega)
          clear e4 e11 e14
          go_frame
          go_loopw [18] (fun _ wr => ∃ (L : Nat → Nat → Prop) (cnt n2 : Nat) (D2 : DP), Hid (n2 + cnt ≤ n) ∧ Hid (pairsR wr bm r n D x.S L cnt ∧ (∀ i j, L i j → PairS x kind p s f u i j)) ∧ Hid (wr.ownsMap Try.prog 169 tok W6.heap.size n2 D2 ∧ PSet D2 x.S (fun a b => ∃ i j, PairS x kind p s f u i j ∧ ¬ L i j ∧ a = nxt x K i d ∧ b = nxt x K j d ∧ 0 < bothV x (K + 1) a b)) ∧ Hid (Only [r, W6.heap.size] w7 wr)) (fun _ wr => wr.rangeLeft bm r)
          case atStart => exact ⟨_, _, 0, _, hsz7, Lib.hid ⟨Hr7.out, fun i j h => h⟩, Lib.hid ⟨hm7.out, hq7.out⟩, Lib.hid (Only.refl _ _)⟩
          case round =>
            clear hm7 hq7 hsz7 Hr7
            obtain ⟨L, cnt, n2, D2, hnc, hr, hm, hon8⟩ := hrel
            obtain ⟨W8, rfl⟩ : ∃ W, W = wr := ⟨_, rfl⟩
            go_wp2_with (first
              | (at_next; refine wpList_next_pairs _ rfl _ rfl bm r n D x.S L cnt (by have := hv.nat; omega) rfl hr.out.1 ?_ ?_)
              | fail)
            · intro hl0
              have hu20 := hv.nat
              have hNB36 : NB ≤ 36 := by have := HNB.out; omega
              have hmS := Lib.hid (show PSet D2 x.S (fun a b => ∃ i j, PairS x kind p s f u i j ∧ a = nxt x K i d ∧ b = nxt x K j d ∧ 0 < bothV x (K + 1) a b) from hm.out.2.congr fun a b => ⟨fun ⟨i, j, q1, q2, q3⟩ => ⟨i, j, q1, q3⟩, fun ⟨i, j, q1, q3⟩ => ⟨i, j, q1, hl0 i j, q3⟩⟩)
              have hsome := Lib.hid (hmS.out.some hm.out.1)
              have hKe := Lib.hid (show p + errLen kind + u.length = K by rw [HK.out, HPN.out])
              have hul2 := Lib.hid (show u.length < x.n - (p + errLen kind) by have := HK.out; have := HNX.out; have := HPN.out; omega)
              have hb58 := Lib.hid (show Below W5.heap.size W5 W8 from ⟨hon8.out.os.trans (Hg7.out.os.trans hb6.out.os), hon8.out.tape.trans (Hg7.out.tape.trans hb6.out.tape), hon8.out.output.trans (Hg7.out.output.trans hb6.out.output), by have h1 := hon8.out.size; have h2 := Hg7.out.size; rw [alloc_size] at h2; have h3 := hb6.out.size; omega, fun k hk => hW5.out W8 hon8.out k hk⟩)
              have hn2 := Lib.hid (show n2 ≤ 36 by have := hnc.out; omega)
              obtain ⟨Z, hZ⟩ : ∃ Z, Z = Maps.size D2 := ⟨_, rfl⟩
              rw [← hZ] at hsome
              have HZ := Lib.hid hZ
              clear hZ hl0 hr
              by_cases hz : 0 < Z
              · have hz1 : (0 : Int) < (Z : Int) := by omega
                have Hz := Lib.hid (hsome.out.1 hz)
                clear hz hsome
                have hO8 := Lib.hid (show OI W8 (.slice ao no cq) (a ++ f ++ u) S2 from OI.ok.keep hO.out.1 fun k hk => hb58.out.block k (OI.ok.lt hO.out.1 k hk))
                have hbp8 := Lib.hid ((hb58.out.block _ hz3.out).trans hbp.out)
                have e14 := heap_cell hbp8.out (i := 0) rfl
                have e15 := frozen_at hbp8.out 0
                have hlen := Lib.hid (show (a ++ f ++ u).length = K ∧ K ≤ 20 by rw [List.length_append, Hol.out]; exact ⟨HK.out.symm, by have := HNX.out; omega⟩)
                have hbel5 := Lib.hid (show ∀ k ∈ S2, k < W5.heap.size from fun k hk => OI.ok.lt hO.out.1 k hk)
                go_upto_region 18 with (first | (at_len; refine wpList_len_own _ rfl _ _ rfl 169 4 Try.underlying167 tok W6.heap.size n2 D2 rfl hm.out.1 ?_; rw [← HZ.out]) | fail)
                have hbS2 := Lib.hid (show w2.heap.size + 1 + 1 ∉ S2 from fun hm => by
                  have q3 := Hs.out
                  have q6 := Hk4.out.size
                  rcases hO.out.2 _ hm with h | h
                  · have h1 := hlt0.out _ h
                    omega
                  · omega)
                clear e14 e15
                go_wp2_with (first | (at_builtin; refine wpList_push rfl (.tmp 90) (.tmp 92) 22 rfl oI.ok Try.underlying22 infoI64 rfl hO8.out (u := .int .i64 d) (y := (d : Int)) (T := []) ⟨rfl, rfl⟩ (by simp) (by rw [hlen.out.1]; have := hlen.out.2; omega) (by rw [hlen.out.1]; have := hlen.out.2; unfold maxLen; omega) rfl rfl ?_; intro v9 w9 S9 h1 h2 h3; obtain ⟨a9, n9, c9, rfl⟩ := h1.isSlice; have e14 := heap_cell ((h2.block _ (heap_lt hbp8.out) hbS2.out).trans hbp8.out) (i := 0) rfl; have e15 := frozen_at ((h2.block _ (heap_lt hbp8.out) hbS2.out).trans hbp8.out) 0; have H9 := Lib.hid (show _ ∧ _ ∧ _ from ⟨h1, h2, h3⟩); clear h1 h2 h3) | fail)
                obtain ⟨hOw, hO29, hS9⟩ := H9.out
                have hdb : d < x.b := by have := HNB.out; omega
                have hbm2 : W6.heap.size ∉ S2 := fun hm => by
                  have h1 := hbel5.out _ hm
                  have h2 := hb6.out.size
                  omega
                have hW68 : W6.heap.size < W8.heap.size := hm.out.1.lt
                have hb4 := hon.out.size
                have hb8 := hb58.out.size
                have hne : W6.heap.size ≠ w2.heap.size + 1 + 1 := fun e => by
                  have h1 := heap_lt hbp.out
                  have h2 := hb6.out.size
                  omega
                have hsz9 := hO29.size
                have hS9' : ∀ k ∈ S9, (k ∈ S ∨ w4.heap.size ≤ k) ∧ k ≠ w2.heap.size + 1 + 1 ∧ k ≠ W6.heap.size := fun k hk => by
                  rcases hS9 k hk with h | h | h
                  · refine ⟨hO.out.2 k h, fun e => hbS2.out (e ▸ h), fun e => hbm2 (e ▸ h)⟩
                  · cases h
                  · have h1 := heap_lt hbp8.out
                    exact ⟨.inr (by omega), by omega, by omega⟩
                have r1 := Lib.hid (show OI (w9.setCell ⟨w2.heap.size + 1 + 1, 0, none⟩ (.map (some W6.heap.size))) (.slice a9 n9 c9) (a ++ f ++ (u ++ [(d : Int)])) S9 ∧ (∀ k ∈ S9, k ∈ S ∨ w4.heap.size ≤ k) from
                  ⟨by rw [← List.append_assoc]; exact OI.ok.keep hOw fun k hk => heap_setCell_other w9 _ k _ (hS9' k hk).2.1, fun k hk => (hS9' k hk).1⟩)
                have r2 := Lib.hid (show Only ((w2.heap.size + 1 + 1) :: S) w4 (w9.setCell ⟨w2.heap.size + 1 + 1, 0, none⟩ (.map (some W6.heap.size))) from by
                  refine Only.put (hon.out.trans ((show Only _ W5 W8 from ⟨hb58.out.os, hb58.out.tape, hb58.out.output, hb58.out.size, fun k hk _ => hb58.out.block k hk⟩)) |>.trans' hO29 (fun k hk => ?_)) (by simp) 0 _
                  rcases hO.out.2 k hk with h | h
                  · exact .inl (by simp [h])
                  · exact .inr h)
                have r3 := Lib.hid (show (w9.setCell ⟨w2.heap.size + 1 + 1, 0, none⟩ (.map (some W6.heap.size))).heap[w2.heap.size + 1 + 1]? = some (.cells #[.map (some W6.heap.size)] 167 (0, 0)) from
                  heap_setCell_same w9 _ 0 _ _ _ ((hO29.block _ (heap_lt hbp8.out) hbS2.out).trans hbp8.out))
                have r4 := Lib.hid (show W6.heap.size ≠ w2.heap.size + 1 + 1 ∧ W6.heap.size ∉ S9 from ⟨hne, fun hm => (hS9' _ hm).2.2 rfl⟩)
                have r5 := Lib.hid (show (w9.setCell ⟨w2.heap.size + 1 + 1, 0, none⟩ (.map (some W6.heap.size))).ownsMap Try.prog 169 tok W6.heap.size n2 D2 from by
                  obtain ⟨es, clock, q1, q2⟩ := hm.out.1
                  exact ⟨es, clock, (heap_setCell_other w9 _ _ _ hne).trans ((hO29.block _ hW68 hbm2).trans q1), q2⟩)
                have r6 := Lib.hid (show PSet D2 x.S (PairS x kind p s f (u ++ [(d : Int)])) from hmS.out.congr fun a' b' => by
                  rw [pair_step hul2.out hdb, hKe.out])
                have r7 := Lib.hid (show GP (BehS x kind p s f) (u ++ [(d : Int)]) from by
                  refine beh_step hG.out hul2.out hdb ?_ fun e he i j hij => ?_
                  · obtain ⟨a', b', i, j, q1, rfl, rfl, q2⟩ := Hz.out
                    rw [hKe.out]
                    exact ⟨i, j, q1, q2⟩
                  · rw [hKe.out]
                    exact hno.out e he i j hij)
                refine ⟨⟨u ++ [(d : Int)], S9, n2, W6.heap.size, D2, a9, n9, c9, rfl, ?_, ?_, hn2.out, r1, r2, r3, r4, Lib.hid ⟨r5.out, r6.out⟩, r7⟩, ?_⟩
                · refine congrArg _ ?_
                  rw [List.length_append, List.length_singleton]
                  have := HK.out
                  omega
                · rw [List.length_append, List.length_singleton]
                  have := HK.out
                  have := HNX.out
                  omega
                · have := HNX.out
                  show x.n - ((K : Int) + 1).toNat < x.n - ((K : Int)).toNat
                  omega
              · have Hz := Lib.hid (show ¬ ∃ a b i j, PairS x kind p s f u i j ∧ a = nxt x K i d ∧ b = nxt x K j d ∧ 0 < bothV x (K + 1) a b from fun h => hz (hsome.out.2 h))
                obtain rfl : Z = 0 := by omega
                clear hz hsome
                go_wp2_with (first | (at_len; refine wpList_len_own _ rfl _ _ rfl 169 4 Try.underlying167 tok W6.heap.size n2 D2 rfl hm.out.1 ?_; rw [← HZ.out]) | fail)
                go_roundw
                case rel => exact ⟨d + 1, by omega, rfl, by go_num, hb58, Lib.hid fun e he i j hij hpos => by
                  rcases Nat.lt_succ_iff_lt_or_eq.1 he with h1 | rfl
                  · exact hno.out e h1 i j hij hpos
                  · exact Hz.out ⟨_, _, i, j, hij, rfl, rfl, hpos⟩⟩
                case measure => simp [intOf]; omega
            · intro i j v w9 cnt' hij hr9 hlt9 hg9 hs9 hen
              have Hij := Lib.hid hij
              have Hr9 := Lib.hid hr9
              have Hg9 := Lib.hid hg9
              have Hc9 := Lib.hid (show w9.heap.size = W8.heap.size ∧ cnt' < cnt from ⟨hs9, hlt9⟩)
              have hon9 := Lib.hid (show Only [r, W6.heap.size] w7 w9 from hon8.out.trans ⟨hg9.os, hg9.tape, hg9.output, hg9.size, fun k h1 h2 => hg9.block k h1 (fun e => h2 (by cases e; simp))⟩)
              clear hij hr9 hg9 hs9 hlt9
              go_upto_region 14 with fail
              obtain ⟨W10, hW10⟩ : ∃ W, W = w9.alloc (.cells #[.int .i64 i, .int .i64 j] 169) := ⟨_, rfl⟩
              rw [← hW10]
              have hon10 := Lib.hid (show Only [r, W6.heap.size] w7 W10 from by rw [hW10]; exact hon9.out.alloc _)
              have hb910 := Lib.hid (show Below w9.heap.size w9 W10 from by rw [hW10]; exact (Below.refl _ _).alloc (Nat.le_refl _) _)
              have hn10 := heap_alloc_new w9 (.cells #[.int .i64 i, .int .i64 j] 169)
              rw [← hW10] at hn10
              have hl10 := heap_lt hn10
              have hr10 := Lib.hid (Hr9.out.kept (grown_below hb910.out) (by simp) (by simp))
              have hm10 := Lib.hid (show W10.ownsMap Try.prog 169 tok W6.heap.size n2 D2 from (hm.out.1.kept Hg9.out (by have := hr.out.1; have := Hr1.out; simp; omega)).kept (grown_below hb910.out) (by simp))
              clear hW10
              obtain ⟨f4, f11, fbox, fgr⟩ := hfar.out W10 hon10.out
              have hijS := hr.out.1.bound Hij.out
              have hKn : K < x.n := by have := HNX.out; omega
              have hdb : d < x.b := by have := HNB.out; omega
              have hl1 := Lib.hid (fun (W : World) (hb : Below W10.heap.size W10 W) => implNext (BoxC.below fbox hb (by have := World.block_lt_of_cell? W10 _ f4; have h9 : w.heap.size < W10.heap.size := this; omega) (by have := World.block_lt_of_cell? W10 _ f4; have h9 : w.heap.size < W10.heap.size := this; omega)) hv K i d hKn hijS.1 hdb)
              have hl2 := Lib.hid (fun (W : World) (hb : Below W10.heap.size W10 W) => implNext (BoxC.below fbox hb (by have := World.block_lt_of_cell? W10 _ f4; have h9 : w.heap.size < W10.heap.size := this; omega) (by have := World.block_lt_of_cell? W10 _ f4; have h9 : w.heap.size < W10.heap.size := this; omega)) hv K j d hKn hijS.2 hdb)
              have hni := (hv.cellN hKn hijS.1 hdb).2
              have hnj := (hv.cellN hKn hijS.2 hdb).2
              have c18 := heap_cell hn10 (i := 0) rfl
              have c19 := heap_cell hn10 (i := 1) rfl
              have hsc := Lib.hid (fun (W : World) (hb : Below W10.heap.size W10 W) => (show W.cell? ⟨w.heap.size, 0, none⟩ = some (.pointer (some ⟨bx, 0, none⟩)) ∧ W.cell? ⟨w9.heap.size, 0, none⟩ = some (.int .i64 i) ∧ W.cell? ⟨w9.heap.size, 1, none⟩ = some (.int .i64 j) from
                ⟨(hb.cell (p := ⟨w.heap.size, 0, none⟩) (World.block_lt_of_cell? W10 _ f4)).trans f4, (hb.cell (p := ⟨w9.heap.size, 0, none⟩) hl10).trans c18, (hb.cell (p := ⟨w9.heap.size, 1, none⟩) hl10).trans c19⟩))
              have Hfar := Lib.hid (show W10.cell? ⟨w.heap.size + 1 + 1 + 1, 0, none⟩ = some (.slice av NN cv) ∧ RdIII (· < M) W10 (.slice av NN cv) (grsL x (p + errLen kind) (x.n + 1)) ∧ M ≤ W10.heap.size from ⟨f11, fgr, by have := World.block_lt_of_cell? W10 _ f4; have h9 : w.heap.size < W10.heap.size := this; omega⟩)
              obtain ⟨ni, hni2⟩ : ∃ n, n = nxt x K i d := ⟨_, rfl⟩
              obtain ⟨nj, hnj2⟩ : ∃ n, n = nxt x K j d := ⟨_, rfl⟩
              rw [← hni2] at hni hl1
              rw [← hnj2] at hnj hl2
              have Hni := Lib.hid hni2
              have Hnj := Lib.hid hnj2
              clear hni2 hnj2 f11 fbox fgr hn10
              have hn0 : ∀ k, ((W10.drewN k).alloc (.cells #[.int .i64 0, .int .i64 0] 169)).cell? ⟨W10.heap.size, 0, none⟩ = some (.int .i64 0) := fun k => heap_cell (heap_alloc_new (W10.drewN k) _) rfl
              have hn1 : ∀ k, ((W10.drewN k).alloc (.cells #[.int .i64 0, .int .i64 0] 169)).cell? ⟨W10.heap.size, 1, none⟩ = some (.int .i64 0) := fun k => heap_cell (heap_alloc_new (W10.drewN k) _) rfl
              have hf0 : ∀ k, ((W10.drewN k).alloc (.cells #[.int .i64 0, .int .i64 0] 169)).frozen? ⟨W10.heap.size, 0, none⟩ = false := fun k => frozen_at (heap_alloc_new (W10.drewN k) _) 0
              have hf11 : ∀ k, ((W10.drewN k).alloc (.cells #[.int .i64 0, .int .i64 0] 169)).frozen? ⟨W10.heap.size, 1, none⟩ = false := fun k => frozen_at (heap_alloc_new (W10.drewN k) _) 1
              go_cut [19] from 58 to 70 (fun v8 wx => v8 = .pointer (some ⟨W10.heap.size, 0, none⟩) ∧ wx.heap[W10.heap.size]? = some (.cells #[.int .i64 ni, .int .i64 nj] 169 (0, 0)) ∧ Below W10.heap.size W10 wx)
              case first =>
                go_region_held3 (fun w' => w'.cell? ⟨w.heap.size, 0, none⟩ = some (.pointer (some ⟨bx, 0, none⟩)) ∧ w'.cell? ⟨w9.heap.size, 0, none⟩ = some (.int .i64 i) ∧ w'.cell? ⟨w9.heap.size, 1, none⟩ = some (.int .i64 j)) ((refine hsc.out _ ?_; repeat' (first | with_reducible exact Below.refl _ _ | with_reducible exact Below.draws (Below.refl _ _) _ | with_reducible refine Below.draws ?_ _ | with_reducible refine Below.drew ?_ | with_reducible refine Below.alloc ?_ ?_ _ | with_reducible refine Below.setCell ?_ ?_ _ | (show _ ≤ _; simp)))) (first
                  | ((with_reducible refine (Calls.mono (hl1.out _ (by repeat' (first | with_reducible exact Below.refl _ _ | with_reducible exact Below.draws (Below.refl _ _) _ | with_reducible refine Below.draws ?_ _ | with_reducible refine Below.drew ?_ | with_reducible refine Below.alloc ?_ ?_ _ | with_reducible refine Below.setCell ?_ ?_ _ | (show _ ≤ _; simp)))) ?_)); rintro e w' ⟨rfl, m1, rfl⟩)
                  | ((with_reducible refine (Calls.mono (hl2.out _ (by repeat' (first | with_reducible exact Below.refl _ _ | with_reducible exact Below.draws (Below.refl _ _) _ | with_reducible refine Below.draws ?_ _ | with_reducible refine Below.drew ?_ | with_reducible refine Below.alloc ?_ ?_ _ | with_reducible refine Below.setCell ?_ ?_ _ | (show _ ≤ _; simp)))) ?_)); rintro e w' ⟨rfl, m2, rfl⟩))
                all_goals (go_wp2_with fail)
                all_goals go_meet
                all_goals refine ⟨rfl, two_put (heap_alloc_new (W10.drewN _) (.cells #[.int .i64 0, .int .i64 0] 169)) _ _, ?_⟩
                all_goals repeat' (first | with_reducible exact Below.refl _ _ | with_reducible exact Below.draws (Below.refl _ _) _ | with_reducible refine Below.draws ?_ _ | with_reducible refine Below.drew ?_ | with_reducible refine Below.alloc ?_ ?_ _ | with_reducible refine Below.setCell ?_ ?_ _ | (show _ ≤ _; simp))
              case rest =>
              clear hn0 hn1 hf0 hf11 hl1 hl2 hsc c18 c19 f4
              obtain ⟨W11, rfl⟩ : ∃ W, W = wc := ⟨_, rfl⟩
              obtain ⟨rfl, hb8, hB11⟩ := hcut
              have HB11 := Lib.hid hB11
              have m1 := heap_cell hb8 (i := 0) rfl
              have m2 := heap_cell hb8 (i := 1) rfl
              have hle := hv.bothLe (K + 1) ni nj
              obtain ⟨b0, o0, c0, b1, o1, c3, b2, o2, c4, hav, ⟨z1, z2⟩, z3, ⟨z4, z5⟩, z6, ⟨z7, z8⟩, z9⟩ := grsCell (RdIII.ok.keep Hfar.out.2.1 fun k hk => hB11.block k (Nat.lt_of_lt_of_le hk Hfar.out.2.2)) (K := K + 1) (i := ni) (j := nj) (by have := HK.out; have := HPN.out; omega) (by omega) hni hnj
              have hbb8 := (hB11.cell (p := ⟨w.heap.size + 1 + 1 + 1, 0, none⟩) (World.block_lt_of_cell? W10 _ Hfar.out.1)).trans Hfar.out.1
              rw [hav] at hbb8
              have hNN' := HNN.out
              rw [← hNN'] at z1 hbb8
              have hxS := (hv.nat).2.1
              obtain ⟨NS, hNS⟩ : ∃ n, n = x.S := ⟨_, rfl⟩
              rw [← hNS] at z3 z4 z6 z7 hni hnj hxS
              have HNS := Lib.hid hNS
              have hK1 : IntKind.i64.wrap ((K : Int) + 1) = (K : Int) + 1 := IntWalk.i64_in _ (by have := hv.nat; omega)
              have i1 : (0 : Int) ≤ (K : Int) + 1 := by omega
              have i2 : (K : Int) + 1 < (NN : Int) := by omega
              have hKt : ((K : Int) + 1).toNat = K + 1 := by omega
              have z3' := z3
              rw [← Nat.add_assoc] at z3'
              have HE := Lib.hid (show ∀ a b, a = ni → b = nj → bothV x (K + 1) a b = bothV x (K + 1) ni nj from fun a b h1 h2 => by rw [h1, h2])
              have hEq : ∃ E, E = bothV x (K + 1) ni nj := ⟨_, rfl⟩
              obtain ⟨E, hE⟩ := hEq
              rw [← hE] at z9 hle
              have HEE := Lib.hid hE
              have j2 : (0 : Int) ≤ (ni : Int) := by omega
              have j3 : (ni : Int) < (NS : Int) := by omega
              have j4 : (0 : Int) ≤ (nj : Int) := by omega
              have j5 : (nj : Int) < (NS : Int) := by omega
              have hNS36 : NS ≤ 36 := hxS.2
              have Hnn := Lib.hid (show ni < NS ∧ nj < NS from ⟨hni, hnj⟩)
              have hr11 := Lib.hid (fun (W : World) (hb : Below W11.heap.size W11 W) => hr10.out.kept (grown_below (hB11.trans (hb.mono hB11.size))) (by simp) (by simp))
              have hm11 := Lib.hid (fun (W : World) (hb : Below W11.heap.size W11 W) => hm10.out.kept (grown_below (hB11.trans (hb.mono hB11.size))) (by simp))
              have hon11 := Lib.hid (fun (W : World) (hb : Below W11.heap.size W11 W) => (show Only [r, W6.heap.size] w7 W from hon10.out.trans (show Only _ W10 W from by
                have h9 := hB11.trans (hb.mono hB11.size)
                exact ⟨h9.os, h9.tape, h9.output, h9.size, fun k hk _ => h9.block k hk⟩)))
              unfold maxLen at z2 z5 z8
              clear hb8 hB11 hNS hNN' hE hni hnj hxS hijS hKn hdb hl10 hav
              by_cases hEp : 0 < E
              · have hE1 : (0 : Int) < (E : Int) := by omega
                clear hEp
                go_wp2
                go_quiet (fail)
                have HBq := Lib.hid (show Below W11.heap.size W11 (W11.drewN nq) from Below.draws (Below.refl _ _) nq)
                have HDq := Lib.hid (hm11.out _ HBq.out)
                have hrq := Lib.hid (hr11.out _ HBq.out)
                have honq := Lib.hid (hon11.out _ HBq.out)
                have hxS36 := Lib.hid (show x.S ≤ 36 by have := hv.nat; omega)
                have hn2 := Lib.hid (show n2 < 1000 by have := hnc.out; omega)
                clear z3 z3' z6 z9 hbb8
                go_wp2_with (first | (at_mapUpdate; refine wpList_put_pair _ rfl _ _ _ rfl W6.heap.size n2 D2 x.S _ rfl HDq.out hm.out.2 hn2.out ni nj rfl (by rw [← HNS.out]; exact Hnn.out.1) (by rw [← HNS.out]; exact Hnn.out.2) hxS36.out _ rfl ?_; intro w12 D3 hD12 hP12 hg12; have H12 := Lib.hid (show _ ∧ _ ∧ _ from ⟨hD12, hP12, hg12⟩); clear hD12 hP12 hg12) | fail)
                go_frame
                have hr12 := Lib.hid (hrq.out.kept H12.out.2.2 (by have := hbm6.out; simp; omega) (by have := Hr1.out; simp; omega))
                have hrel12 := Lib.hid (show PSet D3 x.S (fun a b => ∃ i' j', PairS x kind p s f u i' j' ∧ ¬ strike L i j i' j' ∧ a = nxt x K i' d ∧ b = nxt x K j' d ∧ 0 < bothV x (K + 1) a b) from H12.out.2.1.congr fun a b => by
                  constructor
                  · rintro (⟨i', j', q1, q2, q3⟩ | ⟨rfl, rfl⟩)
                    · exact ⟨i', j', q1, fun h => q2 h.1, q3⟩
                    · exact ⟨i, j, hr.out.2 i j Hij.out, fun h => h.2 ⟨rfl, rfl⟩, Hni.out, Hnj.out, by have := HEE.out; omega⟩
                  · rintro ⟨i', j', q1, q2, q3, q4, q5⟩
                    by_cases hl : L i' j'
                    · have hij' : i' = i ∧ j' = j := Classical.byContradiction fun h => q2 ⟨hl, h⟩
                      obtain ⟨rfl, rfl⟩ := hij'
                      exact .inr ⟨q3.trans Hni.out.symm, q4.trans Hnj.out.symm⟩
                    · exact .inl ⟨i', j', q1, hl, q3, q4, q5⟩)
                have hon12 := Lib.hid (show Only [r, W6.heap.size] w7 w12 from honq.out.trans ⟨H12.out.2.2.os, H12.out.2.2.tape, H12.out.2.2.output, H12.out.2.2.size, fun k h1 h2 => H12.out.2.2.block k h1 (fun e => h2 (by cases e; simp))⟩)
                go_roundw
                case rel => exact ⟨strike L i j, cnt', n2 + 1, D3, Lib.hid (by have := hnc.out; have := Hc9.out; omega), Lib.hid ⟨hr12.out, fun a b h => hr.out.2 a b h.1⟩, Lib.hid ⟨H12.out.1, hrel12.out⟩, hon12⟩
                case measure => rw [hr12.out.left_eq, hr.out.1.left_eq]; exact Hc9.out.2
              · obtain rfl : E = 0 := by omega
                clear hEp
                go_wp2
                go_quiet (fail)
                have HBq := Lib.hid (show Below W11.heap.size W11 (W11.drewN nq) from Below.draws (Below.refl _ _) nq)
                have hrq := Lib.hid (hr11.out _ HBq.out)
                have hrel12 := Lib.hid (show PSet D2 x.S (fun a b => ∃ i' j', PairS x kind p s f u i' j' ∧ ¬ strike L i j i' j' ∧ a = nxt x K i' d ∧ b = nxt x K j' d ∧ 0 < bothV x (K + 1) a b) from hm.out.2.congr fun a b => by
                  constructor
                  · rintro ⟨i', j', q1, q2, q3⟩
                    exact ⟨i', j', q1, fun h => q2 h.1, q3⟩
                  · rintro ⟨i', j', q1, q2, q3, q4, q5⟩
                    by_cases hl : L i' j'
                    · have hij' : i' = i ∧ j' = j := Classical.byContradiction fun h => q2 ⟨hl, h⟩
                      obtain ⟨rfl, rfl⟩ := hij'
                      have h1 := HE.out a b (q3.trans Hni.out.symm) (q4.trans Hnj.out.symm)
                      have h2 := HEE.out
                      omega
                    · exact ⟨i', j', q1, hl, q3, q4, q5⟩)
                have hmq := Lib.hid (hm11.out _ HBq.out)
                have honq := Lib.hid (hon11.out _ HBq.out)
                clear z3 z3' z6 z9 hbb8 m1 m2
                go_wp2
                go_roundw
                case rel => exact ⟨strike L i j, cnt', n2, D2, Lib.hid (by have := hnc.out; have := Hc9.out; omega), Lib.hid ⟨hrq.out, fun a b h => hr.out.2 a b h.1⟩, Lib.hid ⟨hmq.out, hrel12.out⟩, honq⟩
                case measure => rw [hrq.out.left_eq, hr.out.1.left_eq]; exact Hc9.out.2
        · obtain ⟨d', q1, i, j, q2, q3⟩ := beh_more hG.out (by have := HK.out; have := HNX.out; have := HPN.out; omega)
          exact absurd (by rw [show p + errLen kind + u.length = K by rw [HK.out, HPN.out]] at q3; exact q3) (hno.out d' (by have := HNB.out; omega) i j q2)
    · have hle := Lib.hid (show LeastL (BehS x kind p s f) u from beh_done hG.out (by have := HK.out; have := HNX.out; have := HPN.out; omega))
      have hOn := Lib.hid (show Only S w W5 from by
        have q0 := Hs.out
        have q6 := Hk4.out
        have q7 := hon.out
        refine ⟨((q7.os.trans q6.os).trans hb13.out.os).trans hb1.out.os, ((q7.tape.trans q6.tape).trans hb13.out.tape).trans hb1.out.tape, ((q7.output.trans q6.output).trans hb13.out.output).trans hb1.out.output, by have := q7.size; have := q6.size; omega, fun k hk hkS => ?_⟩
        exact (((q7.block k (by have := q6.size; omega) (by simp only [List.mem_cons, not_or]; exact ⟨by omega, hkS⟩)).trans (q6.block k (by omega) (by omega))).trans (hb13.out.block k (by omega))).trans (hb1.out.block k hk))
      have hS2 := Lib.hid (show ∀ k ∈ S2, k ∈ S ∨ w.heap.size ≤ k from fun k hk => by
        rcases hO.out.2 k hk with h | h
        · exact .inl h
        · have := Hk4.out.size
          have := Hs.out
          exact .inr (by omega))
      clear hn hul
      go_wp2
      refine bodyPost_ret (v := .slice ao no cq) (by simp [results, Try.results156, go_sem]) rfl ?_
      exact ⟨_, u, S2, rfl, hO.out.1, hS2.out, hOn.out, hle.out⟩
end Go.Proofs.Ytnpkanlieflbiaa
