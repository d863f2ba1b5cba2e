/- The least distance: slices.Repeat of one number, walked. -/
import Derived.Test.YtnpkanlieflbiaaLd4
import Derived.Test.YtnpkanlieflbiaaF2
import Derived.Laws.CopyOwn
namespace Go.Proofs.Ytnpkanlieflbiaa
open Go.RowKit
set_option linter.unusedVariables false

theorem implMul1 (n : Nat) (hn : n ≤ 36) (w : World) : Calls Try.prog 172 #[.int .u64 1, .int .u64 n] w fun e w' => e = .returned (.tuple #[.int .u64 0, .int .u64 n]) ∧ w = w' := by
  refine (Any.bits_Mul lays212 1 n (by omega) (by omega) w).mono fun e w' ⟨he, hw⟩ => ⟨?_, hw.symm⟩
  rw [he]
  have e1 : 1 * n / 18446744073709551616 = 0 := by omega
  have e2 : 1 * n % 18446744073709551616 = n := by omega
  rw [e1, e2]
  rfl
theorem splice_at {L cs : List Value} {off : Nat} (h : off + cs.length ≤ L.length) : (splice L off cs).length = L.length ∧ ∀ i, i < off + cs.length → (splice L off cs)[i]? = if i < off then L[i]? else cs[i - off]? := by
  unfold splice
  refine ⟨by simp; omega, fun i hi => ?_⟩
  split
  · rename_i h1
    rw [List.getElem?_append_left (by simp; omega), List.getElem?_take, if_pos h1]
  · rename_i h1
    rw [List.getElem?_append_right (by simp; omega), List.getElem?_append_left (by simp; omega)]
    congr 1
    simp; omega

set_option maxHeartbeats 3200000 in
set_option maxRecDepth 100000 in
theorem implRepeat {w : World} {gs : Nat} (a : Int) (hsrc : w.cell? ⟨gs, 0, none⟩ = some (.int .i64 a)) (n : Nat) (hn : 1 ≤ n ∧ n ≤ 36) :
    Calls Try.prog 160 #[.slice (some ⟨gs, 0, none⟩) 1 1, .int .i64 n] w fun e w' => ∃ v, e = .returned v ∧ Fresh OI w w' v (List.replicate n a) := by
  have hgs : gs < w.heap.size := cell_lt hsrc
  obtain ⟨W1, hW1⟩ : ∃ W1, W1 = w.alloc (.cells (madeCells #[.int .i64 0] n) 2) := ⟨_, rfl⟩
  have hg1 : W1.heap[w.heap.size]? = some (.cells (List.replicate n (.int .i64 0)).toArray 2 (0, 0)) := by
    rw [hW1, heap_alloc_new]
    congr 2
    apply Array.ext
    · simp [madeCells]
    · intro i h1 h2
      simp [madeCells, Nat.mod_one]
  have hb1 : Below w.heap.size w W1 := by rw [hW1]; exact (Below.refl _ _).alloc (Nat.le_refl _) _
  have hs1 : W1.cell? ⟨gs, 0, none⟩ = some (.int .i64 a) := (hb1.cell (p := ⟨gs, 0, none⟩) hgs).trans hsrc
  rw [hW1] at hg1 hb1 hs1
  have Hg1 := Lib.hid hg1
  have Hb1 := Lib.hid hb1
  have Hs1 := Lib.hid (show ∀ (j : Nat) v, [Value.int .i64 a][j]? = some v → (w.alloc (.cells (madeCells #[.int .i64 0] n) 2)).cell? ((⟨gs, 0, none⟩ : Addr).add j) = some v from fun j v hj => by
    have hj0 : j = 0 := by
      have := (List.getElem?_eq_some_iff.1 hj).1
      simp at this; exact this
    subst hj0
    simp at hj
    subst hj
    simpa [Addr.add] using hs1)
  have hmk := run_make_row' (P := Try.prog) 22 2 (.int .i64 0) 8 Try.underlying22 infoI64 rfl .i64 .i64 n (by omega) (by omega)
  clear hW1 hg1 hb1 hs1 hsrc
  go_enter Try.func160, Try.ntmps160
  have Hm1 := Lib.hid (show [Value.int .i64 a].length = Nat.min 1 n by simp [Nat.min_def]; omega)
  go_wp2_with (first
    | (go_at_call 172; refine (implMul1 n hn.2 _).mono ?_; rintro e w' ⟨rfl, rfl⟩)
    | (with_reducible refine wpList_copy_splice rfl _ _ 22 22 rfl 2 Try.underlying22 (by kernel_rfl) (some ⟨w.heap.size, 0, none⟩) (some ⟨gs, 0, none⟩) n n 1 1 rfl rfl w.heap.size 0 (List.replicate n (.int .i64 0)) 2 Hg1.out [.int .i64 a] Hm1.out (fun _ => ⟨rfl, ⟨gs, 0, none⟩, rfl, Hs1.out⟩) (by simp; omega) (by simp [Value.oneCell']) w.heap.size w Hb1.out (Nat.le_refl _) ?_; intro w5 hg5 hb5; have Hg5 := Lib.hid hg5.out; have Hb5 := Lib.hid hb5; clear hg5 hb5))
  have hsp := splice_at (L := List.replicate n (.int .i64 0)) (cs := [.int .i64 a]) (off := 0) (by simp; omega)
  go_loopw [8] (fun jv wr => ∃ (j : Nat) (L : List Value), 1 ≤ j ∧ j ≤ n ∧ jv = .int .i64 j ∧ Hid (L.length = n ∧ ∀ i, i < j → L[i]? = some (.int .i64 a)) ∧ Hid (wr.heap[w.heap.size]? = some (.cells L.toArray 2 (0, 0))) ∧ Hid (Below w.heap.size w wr)) (fun jv _ => n - (intOf jv).toNat)
  case atStart =>
    refine ⟨1, _, Nat.le_refl _, hn.1, rfl, Lib.hid ⟨by rw [hsp.1]; simp, fun i hi => ?_⟩, Hg5, Hb5⟩
    have hi0 : i = 0 := by omega
    subst hi0
    rw [hsp.2 0 (by simp)]
    rfl
  case round =>
    clear hsp Hg5 Hb5
    obtain ⟨j, L, hj1, hjn, rfl, hL, hg, hb⟩ := hrel
    obtain ⟨W2, rfl⟩ : ∃ W2, W2 = wr := ⟨_, rfl⟩
    by_cases hjl : j < n
    · obtain ⟨m, hm⟩ : ∃ m, m = Nat.min j (n - j) := ⟨_, rfl⟩
      have hmb : m ≤ j ∧ m ≤ n - j ∧ 1 ≤ m := by simp only [Nat.min_def] at hm; split at hm <;> omega
      have hcsl : (List.replicate m (Value.int .i64 a)).length = Nat.min j (n - j) := by simpa using hm
      have hsp := splice_at (L := L) (cs := List.replicate m (.int .i64 a)) (off := j) (by rw [hL.out.1]; simp; omega)
      have hL2 := Lib.hid (show (splice L j (List.replicate m (.int .i64 a))).length = n ∧ ∀ i, i < j + m → (splice L j (List.replicate m (.int .i64 a)))[i]? = some (.int .i64 a) from
        ⟨by rw [hsp.1]; exact hL.out.1, fun i hi => by
          rw [hsp.2 i (by simp; omega)]
          split
          · exact hL.out.2 i (by assumption)
          · rw [List.getElem?_replicate, if_pos (by omega)]⟩)
      have Hcsl := Lib.hid hcsl
      have hcell : ∀ i, i < j → W2.cell? ⟨w.heap.size, i, none⟩ = some (.int .i64 a) := fun i hi => by
        rw [cell_of_row W2 w.heap.size i L.toArray 2 (0, 0) hg.out]
        simpa using hL.out.2 i hi
      have Hcell := Lib.hid (show ∀ (i : Nat) v, (List.replicate m (Value.int .i64 a))[i]? = some v → (W2.drew).cell? ((⟨w.heap.size, 0, none⟩ : Addr).add i) = some v from fun i v hi => by
        have him : i < m := by
          have := (List.getElem?_eq_some_iff.1 hi).1
          simpa using this
        rw [List.getElem?_replicate, if_pos him] at hi
        simp only [Option.some.injEq] at hi
        subst hi
        have := hcell i (by omega)
        have e : ((⟨w.heap.size, 0, none⟩ : Addr).add i) = ⟨w.heap.size, i, none⟩ := by unfold Addr.add; split <;> simp_all
        rw [e]
        exact this)
      have hml : (List.replicate m (Value.int .i64 a)).length = m := by simp
      have Hml := Lib.hid hml
      have Hgd := Lib.hid (show W2.drew.heap[w.heap.size]? = some (.cells L.toArray 2 (0, 0)) from hg.out)
      have hbd := Lib.hid hb.out.drew
      clear hsp hcsl hm hcell hml
      go_wp2
      refine wp_region_float 7 (fun _ => True) (by kernel_rfl) (by kernel_rfl) trivial ?_
      intro _
      simp only [List.take_succ_cons, List.take_zero, List.drop_succ_cons, List.drop_zero]
      iterate 7 (refine wpReads_cons _ (by rfl) (by intro w' hSw; go_simp; try (with_reducible rfl)) ?_; try simp only [Act.put, List.setIfInBounds_toArray, List.set_cons_zero, List.set_cons_succ])
      refine wpReads_nil ?_
      refine wpTail_cons fun K hK => ?_
      rw [if_neg (show ¬ n = j by omega)]
      with_reducible refine step_copy_splice rfl _ _ 22 22 rfl 2 Try.underlying22 (by kernel_rfl) (some ⟨w.heap.size, j, none⟩) (some ⟨w.heap.size, 0, none⟩) (n - j) (n - j) j n rfl rfl w.heap.size j L 2 Hgd.out (List.replicate m (.int .i64 a)) Hcsl.out (fun _ => ⟨rfl, ⟨w.heap.size, 0, none⟩, rfl, Hcell.out⟩) (by rw [Hml.out, hL.out.1]; omega) (by simp [Value.oneCell']) w.heap.size w hbd.out (Nat.le_refl _) ?_
      intro w5 hg5 hb5
      have Hg5 := Lib.hid hg5.out
      have Hb5 := Lib.hid hb5
      clear hg5 hb5
      rw [Hml.out]
      refine hK.out _ _ trivial ?_
      clear hK K
      try simp only [Act.put, List.setIfInBounds_toArray, List.set_cons_zero, List.set_cons_succ]
      refine wpTail_cons fun K hK => ?_
      go_simp
      refine hK.out _ _ trivial ?_
      clear hK K
      try simp only [Act.put, List.setIfInBounds_toArray, List.set_cons_zero, List.set_cons_succ]
      refine wpTail_one ?_
      have hwj : IntKind.i64.wrap ((j : Int) + (m : Int)) = ((j + m : Nat) : Int) := by rw [IntWalk.i64_in _ (by omega)]; omega
      go_wp2_with fail
      refine NoPanic.normal ?_
      go_wp2
      go_roundw
      case rel => exact ⟨j + m, _, by omega, by omega, by first | rfl | (rw [hwj]), hL2, Hg5, Hb5⟩
      case measure => (try rw [hwj]); simp [intOf]; omega
    · obtain ⟨hjn2⟩ : Nonempty (j = n) := ⟨by omega⟩
      have hLr := Lib.hid (show L = (List.replicate n a).map (fun z => Value.int .i64 z) from by
        refine List.ext_getElem? fun i => ?_
        by_cases hi : i < n
        · rw [hL.out.2 i (by omega)]; simp [hi]
        · rw [List.getElem?_eq_none (by rw [hL.out.1]; omega), List.getElem?_eq_none (by simp; omega)])
      have hfr := Lib.hid (show Fresh OI w W2 (.slice (some ⟨w.heap.size, 0, none⟩) n n) (List.replicate n a) from by
        have h := hg.out
        rw [hLr.out] at h
        have ho : OI W2 (.slice (some ⟨w.heap.size, 0, none⟩) (List.replicate n a).length n) (List.replicate n a) [w.heap.size] := .inr ⟨w.heap.size, n, _, List.replicate (List.replicate n a).length [], rfl, h, by simp, by simp, by unfold maxLen; omega, by simp, by simp, by simp, fun i hi => ⟨.int .i64 (nth (List.replicate n a) i), by have h5 : i < n := (by simpa using hi); simp [nth_eq hi, h5], rfl, by rw [nth_replicate hi]⟩⟩
        simp only [List.length_replicate] at ho
        exact ⟨_, ho, by simp, hb.out⟩)
      clear hL hg hLr hjn2
      go_wp2
      go_ret
      exact ⟨_, rfl, hfr.out⟩
end Go.Proofs.Ytnpkanlieflbiaa
