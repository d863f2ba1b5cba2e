/- Totally antisymmetric quasigroups by search: CountTotally and FirstTotally, walked. -/
import Derived.Test.YthomdggbmjknnaaSk6
import Derived.Test.YthomdggbmjknnaaSk7
import Derived.Test.YthomdggbmjknnaaB4
namespace Go.Proofs.Ythomdggbmjknnaa
open Go.RowKit
set_option linter.unusedVariables false

theorem ct_eq {n : Nat} (h1 : 1 ≤ n) (h4 : n ≤ 4) : ctR' n = ctR n := by
  have key : decide (ctR n = ctR' n) = true := by
    have hn : n = 1 ∨ n = 2 ∨ n = 3 ∨ n = 4 := by omega
    rcases hn with rfl | rfl | rfl | rfl
    · exact (ct_eval 1).trans ct1
    · exact (ct_eval 2).trans ct2
    · exact (ct_eval 3).trans ct3
    · exact (ct_eval 4).trans ct4
  exact (of_decide_eq_true key).symm
theorem ft_eq {n : Nat} (h1 : 1 ≤ n) (h5 : n ≤ 5) : (ftR' n).stop = decide (0 < (ftR n).cnt) ∧ (ftR' n).s = if 0 < (ftR n).cnt then (ftR n).found else [] := by
  have key : (decide ((ftR' n).stop = decide (0 < (ftR n).cnt)) && (decide ((ftR' n).s = if 0 < (ftR n).cnt then (ftR n).found else []))) = true := by
    have hn : n = 1 ∨ n = 2 ∨ n = 3 ∨ n = 4 ∨ n = 5 := by omega
    rcases hn with rfl | rfl | rfl | rfl | rfl
    · exact (ft_eval 1).trans ft1
    · exact (ft_eval 2).trans ft2
    · exact (ft_eval 3).trans ft3
    · exact (ft_eval 4).trans ft4
    · exact (ft_eval 5).trans ft5
  rw [Bool.and_eq_true, decide_eq_true_eq, decide_eq_true_eq] at key
  exact key

theorem implNewSeeker (n : Nat) (h1 : 1 ≤ n) (h36 : n ≤ 36) (w : World) :
    Calls Try.prog 47 #[.int .i64 n] w fun e w' => ∃ bq g c S, e = .returned (.pointer (some ⟨bq, 0, none⟩)) ∧ OII w' (.slice (some ⟨g, 0, none⟩) n c) (unsetT n) S ∧ (∀ k ∈ S, w.heap.size ≤ k ∧ k ≠ bq) ∧
      w'.heap[bq]? = some (.cells #[.int .i64 n, .slice (some ⟨g, 0, none⟩) n c] 80 (0, 0)) ∧ w.heap.size ≤ bq ∧ Below w.heap.size w w' := by
  have hp : ∀ x y : Nat, x < n → y < n → ∀ w', Below w.heap.size w w' → Calls Try.prog 68 (#[.int .i64 x, .int .i64 y] ++ #[]) w' fun e w'' => e = .returned (.int .i64 (-1)) ∧ ∃ m, w'.drewN m = w'' := by
    intro x y hx hy w' hb
    go_enter Try.func68, Try.ntmps68
    go_wp2
    go_ret
    exact ⟨rfl, 0, rfl⟩
  have hcl := Lib.hid (implMade n h1 h36 w 68 #[] (fun _ _ => -1) hp (fun _ _ => rfl))
  clear hp
  go_enter Try.func47, Try.ntmps47
  go_wp2_with fail
  refine (Calls.mono hcl.out ?_)
  rintro e w1 ⟨v, rfl, hf⟩
  obtain ⟨g, c, rfl⟩ := hf.shape (by simp [tab]; omega)
  rw [show (tab n fun _ _ => (-1 : Int)).length = n by simp [tab]] at *
  have Hf := Lib.hid hf
  clear hf hcl
  go_wp2
  go_ret
  obtain ⟨S, q1, q2, q3⟩ := Hf.out
  refine ⟨w1.heap.size, g, c, S, rfl, OII.ok.keep q1 fun k hk => alloc_old (OII.ok.lt q1 k hk), fun k hk => ⟨q2 k hk, fun e => by have := OII.ok.lt q1 k hk; omega⟩, heap_alloc_new _ _, q3.size, q3.alloc q3.size _⟩

/-! ### CountTotally -/
def JC (bm : Nat) (s : Int) (W : World) (SJ : List Nat) : Prop := SJ = [bm] ∧ W.heap[bm]? = some (.cells #[.int .i64 s] 2 (0, 0))
theorem JC.ok (bm : Nat) : JOk (JC bm) := ⟨fun ⟨h1, h2⟩ hk => ⟨h1, (hk bm (by rw [h1]; simp)).trans h2⟩, fun ⟨h1, h2⟩ k hk => by rw [h1] at hk; simp at hk; rw [hk]; exact heap_lt h2⟩
theorem implCount1 {w0 : World} {bq g c n bm : Nat} (s : Int) (t : T2) (W : World) (hs : Sm (-1) n t) (hk : SkS (JC bm) w0 bq g c n s t W) :
    Calls Try.prog 49 (#[.slice (some ⟨g, 0, none⟩) n c] ++ #[.pointer (some ⟨bm, 0, none⟩)]) W fun e w' => e = .returned (.bool (stpC s t).2) ∧ SkS (JC bm) w0 bq g c n (stpC s t).1 t w' := by
  obtain ⟨S, SJ, h1, h2, ⟨e, h3⟩, h4⟩ := hk.ex
  subst e
  have hbm := h4 bm (by simp)
  have c0 := heap_cell h3 (i := 0) rfl
  have f0 := frozen_at h3 0
  have H3 := Lib.hid h3
  have Hk := Lib.hid hk
  have H1 := Lib.hid h1
  have H2 := Lib.hid h2
  clear h1 h2 h3 hk hs
  go_enter Try.func49, Try.ntmps49
  go_wp2
  go_ret
  have hset : ∀ k, k ≠ bm → (W.setCell ⟨bm, 0, none⟩ (.int .i64 (wrap64 (s + 1)))).heap[k]? = W.heap[k]? := fun k hk => keep_set (p := ⟨bm, 0, none⟩) hk
  refine ⟨rfl, ⟨S, [bm], OII.ok.keep H1.out fun k hk => hset k fun e => (H2.out k hk).2.2 (by rw [e]; simp), H2.out, ⟨rfl, heap_setCell_same W bm 0 _ _ _ H3.out⟩, h4⟩, (hset bq fun e => hbm.2 e.symm).trans Hk.out.box, Hk.out.hbq, Hk.out.bel.setCell hbm.1 _⟩

set_option maxRecDepth 100000 in
theorem implCountTotally (n : Int) (w : World) :
    Calls Try.prog 23 #[.int .i64 n] w fun e w' => e = .returned (.tuple #[.int .i64 (ctV n), .bool (ctOk n)]) ∧ Below w.heap.size w w' := by
  have hmf : ∀ (fn : Fn) (first cap : Array Value) (w : World), (Instr.makeFunc fn first cap).run Try.prog w = .ok (.func fn first cap) w := fun _ _ _ _ => rfl
  cases hn : inB n 1 4
  · have hr := Lib.hid (show ctOk n = false from hn)
    have hv := Lib.hid (show ctV n = 0 by unfold ctV; rw [hr.out]; rfl)
    go_enter Try.func23, Try.ntmps23
    go_wp2_with (go_at_call 36; refine (implIn _ _ _ _ (by assumption) _).mono ?_; rintro e w' ⟨rfl, rfl⟩)
    go_ret2
    exact ⟨by rw [hr.out, hv.out]; rfl, Below.refl _ _⟩
  · have hbd := inB_true.1 hn
    obtain ⟨N, rfl⟩ := Int.eq_ofNat_of_zero_le (show 0 ≤ n by omega)
    have hN : 1 ≤ N ∧ N ≤ 4 := by omega
    have hr := Lib.hid (show ctOk N = true from hn)
    have hv := Lib.hid (show ctV N = (seekF N stpC (N * N) 0 (unsetT N)).s by unfold ctV; rw [hr.out, if_pos rfl, Int.toNat_natCast, ← ct_eq hN.1 hN.2]; rfl)
    obtain ⟨W1, hW1⟩ : ∃ W1, W1 = w.alloc (.cells #[.int .i64 0] 2) := ⟨_, rfl⟩
    have hz1 : W1.heap.size = w.heap.size + 1 := by rw [hW1]; simp
    have hb1 : Below w.heap.size w W1 := by rw [hW1]; repeat' (first | with_reducible exact Below.refl _ _ | with_reducible refine Below.alloc ?_ ?_ _ | with_reducible refine Below.setCell ?_ ?_ _ | with_reducible refine Below.drew ?_ | with_reducible refine Below.draws ?_ _ | omega | (simp; done) | (simp; omega))
    have hm1 : W1.heap[w.heap.size]? = some (.cells #[.int .i64 0] 2 (0, 0)) := by rw [hW1]; exact heap_alloc_new w _
    have HW1 := Lib.hid hW1
    have Hz1 := Lib.hid hz1
    have Hb1 := Lib.hid hb1
    have Hm1 := Lib.hid hm1
    clear hW1 hz1 hb1 hm1 hbd
    go_enter Try.func23, Try.ntmps23
    go_wp2_with (go_at_call 36; refine (implIn _ _ _ _ (by assumption) _).mono ?_; rintro e w' ⟨rfl, rfl⟩)
    rw [← HW1.out]
    refine (implNewSeeker N hN.1 (by omega) W1).mono ?_
    rintro e w2 ⟨bq, g, c, S, rfl, k1, k2, k3, k4, k5⟩
    have hsk : SkS (JC w.heap.size) w bq g c N 0 (unsetT N) w2 := ⟨⟨S, [w.heap.size], k1, fun k hk => by
      have h1 := k2 k hk
      have h2 := Hz1.out
      exact ⟨by omega, h1.2, by simp; omega⟩, ⟨rfl, below_heap k5 Hm1.out⟩, fun k hk => by
      have h2 := Hz1.out
      simp at hk; omega⟩, k3, by have := Hz1.out; omega, Hb1.out.trans (k5.mono Hb1.out.size)⟩
    have hcl := implSeek (JC.ok w.heap.size) hN.1 (by omega) (gF := 49) (cap := #[.pointer (some ⟨w.heap.size, 0, none⟩)]) stpC (fun s t W a b => implCount1 s t W a b) (fun _ _ => rfl) (N * N) 0 (by omega) 0 (unsetT N) w2 (Sm.unset N) hsk
    rw [show ((0 : Nat) : Int) = 0 from rfl] at hcl
    unfold SeekPost at hcl
    have Hcl := Lib.hid hcl
    clear hcl hsk k1 k2 k3 k4 k5
    generalize seekF N stpC (N * N) 0 (unsetT N) = R at *
    go_wp2_with fail
    refine (Calls.mono Hcl.out ?_)
    rintro e w5 ⟨rfl, hk5⟩
    obtain ⟨S5, SJ, _, _, ⟨e, h3⟩, _⟩ := hk5.ex
    have c0 := heap_cell h3 (i := 0) rfl
    have Hb5 := Lib.hid hk5.bel
    clear hk5 h3 e
    go_wp2
    go_ret2
    exact ⟨by rw [hr.out, hv.out]; rfl, Hb5.out⟩

set_option maxRecDepth 100000 in
theorem specCountTotally (n : Int) (w : World) :
    Calls Try.prog 22 #[.int .i64 n] w fun e w' => e = .returned (.tuple #[.int .i64 (ctV n), .bool (ctOk n)]) ∧ Below w.heap.size w w' := by
  cases hn : inB n 1 4
  · have hr := Lib.hid (show ctOk n = false from hn)
    have hv := Lib.hid (show ctV n = 0 by unfold ctV; rw [hr.out]; rfl)
    go_enter Try.func22, Try.ntmps22
    go_wp2_with (go_at_call 44; refine (specIn _ _ _ _ (by assumption) _).mono ?_; rintro e w' ⟨rfl, rfl⟩)
    go_ret2
    exact ⟨by rw [hr.out, hv.out]; rfl, Below.refl _ _⟩
  · have hbd := inB_true.1 hn
    obtain ⟨N, rfl⟩ := Int.eq_ofNat_of_zero_le (show 0 ≤ n by omega)
    have hN : 1 ≤ N ∧ N ≤ 4 := by omega
    have hr := Lib.hid (show ctOk N = true from hn)
    have hv := Lib.hid (show ctV N = ((srch N false (N * N) (zeros N)).cnt : Nat) by unfold ctV; rw [hr.out, if_pos rfl, Int.toNat_natCast]; rfl)
    clear hbd
    go_enter Try.func22, Try.ntmps22
    go_wp2_with (go_at_call 44; refine (specIn _ _ _ _ (by assumption) _).mono ?_; rintro e w' ⟨rfl, rfl⟩)
    refine (specBlank N (by omega) _).mono ?_
    rintro e w2 ⟨v2, rfl, hf⟩
    obtain ⟨g, c, rfl⟩ := hf.shape (by simp [zeros]; omega)
    rw [show (zeros N).length = N by simp [zeros]] at *
    have hcl := specSearch false hN.1 (by omega) (N * N) 0 (by omega) (zeros N) w2 (Sm.zeros hN.1) hf
    rw [show ((0 : Nat) : Int) = 0 from rfl] at hcl
    unfold SrchPost at hcl
    have Hcl := Lib.hid hcl
    clear hcl hf
    generalize srch N false (N * N) (zeros N) = R at *
    go_wp2_with fail
    refine (Calls.mono Hcl.out ?_)
    rintro e w5 ⟨a5, n5, c5, rfl, hf5, _, _⟩
    have Hb5 := Lib.hid hf5.bel
    clear hf5
    go_wp2
    go_ret2
    exact ⟨by rw [hr.out, hv.out]; rfl, Hb5.out⟩
end Go.Proofs.Ythomdggbmjknnaa
