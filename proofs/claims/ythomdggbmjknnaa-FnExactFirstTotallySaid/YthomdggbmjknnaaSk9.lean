/- Totally antisymmetric quasigroups by search: FirstTotally, walked. -/
import Derived.Test.YthomdggbmjknnaaSk8
namespace Go.Proofs.Ythomdggbmjknnaa
open Go.RowKit
set_option linter.unusedVariables false

def JF (bo : Nat) (s : T2) (W : World) (SJ : List Nat) : Prop := ∃ v S', SJ = bo :: S' ∧ W.heap[bo]? = some (.cells #[v] 30 (0, 0)) ∧ OII W v s S' ∧ bo ∉ S'
theorem JF.ok (bo : Nat) : JOk (JF bo) := ⟨fun ⟨v, S', h1, h2, h3, h4⟩ hk => ⟨v, S', h1, (hk bo (by rw [h1]; simp)).trans h2, OII.ok.keep h3 fun k hm => hk k (by rw [h1]; simp [hm]), h4⟩, fun ⟨v, S', h1, h2, h3, h4⟩ k hk => by
  rw [h1] at hk
  rcases List.mem_cons.1 hk with e | e
  · rw [e]; exact heap_lt h2
  · exact OII.ok.lt h3 k e⟩
theorem sm_sz {lo : Int} {n : Nat} {t : T2} (h : Sm lo n t) (h5 : n ≤ 5) : szL List.length t ≤ 1048576 := by
  have h1 := sq_cnt h.sq (by omega)
  have h2 := h.sq.1
  rw [szL_eq]
  omega
set_option maxRecDepth 100000 in
theorem implFirst1 {w0 : World} {bq g c n bo : Nat} (h5 : n ≤ 5) (s : T2) (t : T2) (W : World) (hs : Sm (-1) n t) (hk : SkS (JF bo) w0 bq g c n s t W) :
    Calls Try.prog 50 (#[.slice (some ⟨g, 0, none⟩) n c] ++ #[.pointer (some ⟨bo, 0, none⟩)]) W fun e w' => e = .returned (.bool (stpF s t).2) ∧ SkS (JF bo) w0 bq g c n (stpF s t).1 t w' := by
  obtain ⟨S, SJ, h1, h2, ⟨v, S', e, h3, h3b, h3c⟩, h4⟩ := hk.ex
  subst e
  have hbm := h4 bo (by simp)
  have hcl := Lib.hid (implCloneTable (OII.leads.to _ _ _ _ _ h1 (OII.ok.lt h1)) (Nat.le_refl _) (sm_sz hs h5))
  have H3 := Lib.hid h3
  have Hk := Lib.hid hk
  have H1 := Lib.hid h1
  have H2 := Lib.hid h2
  clear h1 h2 h3 h3b hk hs
  go_enter Try.func50, Try.ntmps50
  go_wp2_with fail
  refine (Calls.mono hcl.out ?_)
  rintro e w5 ⟨v5, rfl, hf5⟩
  have h3' := below_heap hf5.bel H3.out
  have c0 := heap_cell h3' (i := 0) rfl
  have f0 := frozen_at h3' 0
  have H3' := Lib.hid h3'
  have Hf5 := Lib.hid hf5
  have hone := OII.ok.one hf5.choose_spec.1
  obtain ⟨a6, n6, c6, rfl⟩ := hf5.choose_spec.1.isSlice
  clear hcl h3' hf5
  go_wp2
  go_ret
  obtain ⟨S5, q1, q2, q3⟩ := Hf5.out
  have hbW := heap_lt H3.out
  have hset : ∀ k, k ≠ bo → (w5.setCell ⟨bo, 0, none⟩ (.slice a6 n6 c6)).heap[k]? = w5.heap[k]? := fun k hk => keep_set (p := ⟨bo, 0, none⟩) hk
  have hSo : ∀ k ∈ S, k ≠ bo := fun k hk e => (H2.out k hk).2.2 (by rw [e]; simp)
  have hlt := OII.ok.lt H1.out
  refine ⟨rfl, ⟨S, bo :: S5, OII.ok.keep H1.out fun k hk => (hset k (hSo k hk)).trans (q3.block k (hlt k hk)), fun k hk => ⟨(H2.out k hk).1, (H2.out k hk).2.1, fun hm => ?_⟩, ⟨_, S5, rfl, heap_setCell_same w5 bo 0 _ _ _ H3'.out, OII.ok.keep q1 fun k hk => hset k (fun e => by have := q2 k hk; omega), fun hm => by have := q2 bo hm; omega⟩, fun k hk => ?_⟩, (hset bq fun e => hbm.2 e.symm).trans (below_heap q3 Hk.out.box), Hk.out.hbq, (Hk.out.bel.trans (q3.mono Hk.out.bel.size)).setCell hbm.1 _⟩
  · rcases List.mem_cons.1 hm with e | e
    · exact hSo k hk e
    · have := q2 k e; have := hlt k hk; omega
  · rcases List.mem_cons.1 hk with e | e
    · rw [e]; exact hbm
    · have h6 := q2 k e
      have h7 := Hk.out.bel.size
      have h8 := heap_lt Hk.out.box
      exact ⟨by omega, by omega⟩

theorem ft_no {n : Int} (h : inB n 1 5 = false) : ftOk n = false ∧ ftV n = [] := by
  have e : ftOk n = false := by unfold ftOk; rw [h]; rfl
  exact ⟨e, by unfold ftV; rw [e]; rfl⟩
theorem ft_at {N : Nat} (h : inB N 1 5 = true) : ftOk N = decide (0 < (ftR N).cnt) ∧ ftV N = if 0 < (ftR N).cnt then (ftR N).found else [] := by
  have e : ftOk N = decide (0 < (ftR N).cnt) := by unfold ftOk; rw [h, Int.toNat_natCast]; rfl
  refine ⟨e, ?_⟩
  unfold ftV
  rw [e, Int.toNat_natCast]
  by_cases h0 : 0 < (ftR N).cnt
  · rw [if_pos h0, if_pos (decide_eq_true h0)]
  · rw [if_neg h0, if_neg (by simpa using h0)]

set_option maxRecDepth 100000 in
theorem implFirstTotally (n : Int) (w : World) :
    Calls Try.prog 25 #[.int .i64 n] w fun e w' => ∃ v, e = .returned (.tuple #[v, .bool (ftOk n)]) ∧ Fresh OII w w' v (ftV n) := by
  have hmf : ∀ (fn : Fn) (first cap : Array Value) (w : World), (Instr.makeFunc fn first cap).run Try.prog w = .ok (.func fn first cap) w := fun _ _ _ _ => rfl
  cases hn : inB n 1 5
  · have hr := Lib.hid (ft_no hn)
    go_enter Try.func25, Try.ntmps25
    go_wp2_with (go_at_call 36; refine (implIn _ _ _ _ (by assumption) _).mono ?_; rintro e w' ⟨rfl, rfl⟩)
    go_ret2
    exact ⟨_, by rw [hr.out.1]; rfl, by rw [hr.out.2]; exact Fresh.nil (Below.refl _ _)⟩
  · have hbd := inB_true.1 hn
    obtain ⟨N, rfl⟩ := Int.eq_ofNat_of_zero_le (show 0 ≤ n by omega)
    have hN : 1 ≤ N ∧ N ≤ 5 := by omega
    have he := ft_eq hN.1 hN.2
    have hv := Lib.hid (show ftOk N = (seekF N stpF (N * N) [] (unsetT N)).stop ∧ ftV N = (seekF N stpF (N * N) [] (unsetT N)).s from ⟨(ft_at hn).1.trans he.1.symm, (ft_at hn).2.trans he.2.symm⟩)
    clear he
    obtain ⟨W1, hW1⟩ : ∃ W1, W1 = w.alloc (.cells #[.slice none 0 0] 30) := ⟨_, rfl⟩
    have hz1 : W1.heap.size = w.heap.size + 1 := by rw [hW1]; simp
    have hb1 : Below w.heap.size w W1 := by rw [hW1]; repeat' (first | with_reducible exact Below.refl _ _ | with_reducible refine Below.alloc ?_ ?_ _ | with_reducible refine Below.setCell ?_ ?_ _ | with_reducible refine Below.drew ?_ | with_reducible refine Below.draws ?_ _ | omega | (simp; done) | (simp; omega))
    have hm1 : W1.heap[w.heap.size]? = some (.cells #[.slice none 0 0] 30 (0, 0)) := by rw [hW1]; exact heap_alloc_new w _
    have HW1 := Lib.hid hW1
    have Hz1 := Lib.hid hz1
    have Hb1 := Lib.hid hb1
    have Hm1 := Lib.hid hm1
    clear hW1 hz1 hb1 hm1 hbd
    go_enter Try.func25, Try.ntmps25
    go_wp2_with (go_at_call 36; refine (implIn _ _ _ _ (by assumption) _).mono ?_; rintro e w' ⟨rfl, rfl⟩)
    rw [← HW1.out]
    refine (implNewSeeker N hN.1 (by omega) W1).mono ?_
    rintro e w2 ⟨bq, g, c, S, rfl, k1, k2, k3, k4, k5⟩
    have hsk : SkS (JF w.heap.size) w bq g c N [] (unsetT N) w2 := ⟨⟨S, [w.heap.size], k1, fun k hk => by
      have h1 := k2 k hk
      have h2 := Hz1.out
      exact ⟨by omega, h1.2, by simp; omega⟩, ⟨_, [], rfl, below_heap k5 Hm1.out, own_nil _, by simp⟩, fun k hk => by
      have h2 := Hz1.out
      simp at hk; omega⟩, k3, by have := Hz1.out; omega, Hb1.out.trans (k5.mono Hb1.out.size)⟩
    have hcl := implSeek (JF.ok w.heap.size) hN.1 hN.2 (gF := 50) (cap := #[.pointer (some ⟨w.heap.size, 0, none⟩)]) stpF (fun s t W a b => implFirst1 hN.2 s t W a b) (fun _ _ => rfl) (N * N) 0 (by omega) [] (unsetT N) w2 (Sm.unset N) hsk
    rw [show ((0 : Nat) : Int) = 0 from rfl] at hcl
    unfold SeekPost at hcl
    have Hcl := Lib.hid hcl
    clear hcl hsk k1 k2 k3 k4 k5
    generalize seekF N stpF (N * N) [] (unsetT N) = R at *
    go_wp2_with fail
    refine (Calls.mono Hcl.out ?_)
    rintro e w5 ⟨rfl, hk5⟩
    obtain ⟨S5, SJ, _, _, ⟨v, S', e, h3, h3b, h3c⟩, h4⟩ := hk5.ex
    have c0 := heap_cell h3 (i := 0) rfl
    have Hb5 := Lib.hid hk5.bel
    have Hv5 := Lib.hid (show Fresh OII w w5 v R.s from ⟨S', h3b, fun k hk => (h4 k (by rw [e]; simp [hk])).1, hk5.bel⟩)
    obtain ⟨a6, n6, c6, rfl⟩ := h3b.isSlice
    clear hk5 h3 e h3b h3c h4
    go_wp2
    go_ret2
    exact ⟨_, by rw [hv.out.1]; rfl, by rw [hv.out.2]; exact Hv5.out⟩

set_option maxRecDepth 100000 in
theorem specFirstTotally (n : Int) (w : World) :
    Calls Try.prog 24 #[.int .i64 n] w fun e w' => ∃ v, e = .returned (.tuple #[v, .bool (ftOk n)]) ∧ Fresh OII w w' v (ftV n) := by
  cases hn : inB n 1 5
  · have hr := Lib.hid (ft_no hn)
    go_enter Try.func24, Try.ntmps24
    go_wp2_with (go_at_call 44; refine (specIn _ _ _ _ (by assumption) _).mono ?_; rintro e w' ⟨rfl, rfl⟩)
    go_ret2
    exact ⟨_, by rw [hr.out.1]; rfl, by rw [hr.out.2]; exact Fresh.nil (Below.refl _ _)⟩
  · have hbd := inB_true.1 hn
    obtain ⟨N, rfl⟩ := Int.eq_ofNat_of_zero_le (show 0 ≤ n by omega)
    have hN : 1 ≤ N ∧ N ≤ 5 := by omega
    have hv := Lib.hid (show ftOk N = decide (0 < (srch N true (N * N) (zeros N)).cnt) ∧ ftV N = if 0 < (srch N true (N * N) (zeros N)).cnt then (srch N true (N * N) (zeros N)).found else [] from ft_at hn)
    clear hbd
    go_enter Try.func24, Try.ntmps24
    go_wp2_with (go_at_call 44; refine (specIn _ _ _ _ (by assumption) _).mono ?_; rintro e w' ⟨rfl, rfl⟩)
    refine (specBlank N (by omega) _).mono ?_
    rintro e w2 ⟨v2, rfl, hf⟩
    obtain ⟨g, c, rfl⟩ := hf.shape (by simp [zeros]; omega)
    rw [show (zeros N).length = N by simp [zeros]] at *
    have hcl := specSearch true hN.1 hN.2 (N * N) 0 (by omega) (zeros N) w2 (Sm.zeros hN.1) hf
    rw [show ((0 : Nat) : Int) = 0 from rfl] at hcl
    unfold SrchPost at hcl
    have Hcl := Lib.hid hcl
    have Hb2 := Lib.hid hf.bel
    clear hcl hf
    generalize srch N true (N * N) (zeros N) = R at *
    go_wp2_with fail
    refine (Calls.mono Hcl.out ?_)
    rintro e w5 ⟨a5, n5, c5, rfl, hf5, hfd, _⟩
    have Hb5 := Lib.hid hf5.bel
    have Hfd := Lib.hid hfd
    clear hf5 hfd Hcl
    by_cases h0 : R.cnt = 0
    · have hv2 := Lib.hid (show ftOk N = false ∧ ftV N = [] from ⟨by rw [hv.out.1]; simp [h0], by rw [hv.out.2]; simp [h0]⟩)
      rw [h0]
      go_wp2
      go_ret2
      exact ⟨_, by rw [hv2.out.1]; rfl, by rw [hv2.out.2]; exact Fresh.nil Hb5.out⟩
    · have h1 : 0 < R.cnt := by omega
      have hv2 := Lib.hid (show ftOk N = true ∧ ftV N = R.found from ⟨by rw [hv.out.1]; simp [h1], by rw [hv.out.2, if_pos h1]⟩)
      have Hff := Lib.hid (show Fresh OII w w5 (.slice a5 n5 c5) R.found by
        obtain ⟨S, q1, q2⟩ := Hfd.out trivial h1
        exact ⟨S, q1, fun k hk => Nat.le_trans Hb2.out.size (q2 k hk), Hb5.out⟩)
      go_wp2
      go_ret2
      exact ⟨_, by rw [hv2.out.1]; rfl, by rw [hv2.out.2]; exact Hff.out⟩

theorem ftV_cnt (n : Int) : cntL List.length (ftV n) ≤ 1296 := by
  unfold ftV
  split
  · rename_i h
    simp only [ftOk, Bool.and_eq_true, decide_eq_true_eq] at h
    have hb := inB_true.1 h.1
    obtain ⟨N, rfl⟩ := Int.eq_ofNat_of_zero_le (show 0 ≤ n by omega)
    rw [Int.toNat_natCast] at h ⊢
    have hN : 1 ≤ N ∧ N ≤ 5 := by omega
    have key : ∀ N, (srchE N true (N * N) (zeros N) fun r => decide (cntL List.length r.found ≤ 1296)) = true → cntL List.length (ftR N).found ≤ 1296 := fun N h => by
      rw [srchE_eq] at h
      exact of_decide_eq_true h
    have hn : N = 1 ∨ N = 2 ∨ N = 3 ∨ N = 4 ∨ N = 5 := by omega
    rcases hn with rfl | rfl | rfl | rfl | rfl
    · exact key 1 fc1
    · exact key 2 fc2
    · exact key 3 fc3
    · exact key 4 fc4
    · exact key 5 fc5
  · simp [cntL]
end Go.Proofs.Ythomdggbmjknnaa
