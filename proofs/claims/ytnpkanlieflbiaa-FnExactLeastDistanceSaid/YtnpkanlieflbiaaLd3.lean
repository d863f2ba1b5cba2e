/- The library's Sort and Compact over a row of the call's own. Printed by gen_ld3.py. -/
import Derived.Test.YtnpkanlieflbiaaLd1
import Derived.Test.YtnpkanlieflbiaaO2
import Derived.Shelf.SortM.Plain
import Derived.Shelf.SlicesE.Compact
import Derived.Shelf.Bits.Mul64
namespace Go.Proofs.Ytnpkanlieflbiaa
open Go.Shelf Go.RowKit
set_option linter.unusedVariables false

def layS5_ren : Go.Shelf.Ren := ⟨fun | 5 => 176 | 8 => 179 | 7 => 178 | 19 => 189 | 20 => 190 | 10 => 180 | 11 => 181 | 12 => 182 | 13 => 183 | 14 => 184 | 15 => 185 | 16 => 186 | 17 => 187 | 18 => 188 | 30 => 191 | 31 => 192 | 32 => 193 | 33 => 194 | 34 => 195 | 35 => 170 | 40 => 196 | n => n, fun | 23 => 22 | 25 => 2 | 3 => 3 | 32 => 163 | 22 => 22 | 0 => 0 | 44 => 174 | 46 => 140 | 4 => 4 | 36 => 183 | 35 => 182 | 41 => 187 | 5 => 5 | 9 => 9 | 53 => 191 | 57 => 195 | 63 => 197 | 64 => 198 | n => n, fun | n => n⟩
theorem layS5 : Go.Proofs.SlLaysM.n5 Try.prog layS5_ren :=
  { mixed := by kernel_rfl,
    f5 := ⟨"slices.Sort[[]int64,int64]", by decide, Try.func176.trans (congrArg some (by kernel_rfl))⟩,
    f7 := ⟨"slices.pdqsortOrdered[int64]", by decide, Try.func178.trans (congrArg some (by kernel_rfl))⟩,
    f8 := Try.func179.trans (congrArg some (by kernel_rfl)),
    f10 := ⟨"slices.insertionSortOrdered[int64]", by decide, Try.func180.trans (congrArg some (by kernel_rfl))⟩,
    f11 := ⟨"slices.heapSortOrdered[int64]", by decide, Try.func181.trans (congrArg some (by kernel_rfl))⟩,
    f12 := ⟨"slices.breakPatternsOrdered[int64]", by decide, Try.func182.trans (congrArg some (by kernel_rfl))⟩,
    f13 := ⟨"slices.choosePivotOrdered[int64]", by decide, Try.func183.trans (congrArg some (by kernel_rfl))⟩,
    f14 := ⟨"slices.reverseRangeOrdered[int64]", by decide, Try.func184.trans (congrArg some (by kernel_rfl))⟩,
    f15 := ⟨"slices.partialInsertionSortOrdered[int64]", by decide, Try.func185.trans (congrArg some (by kernel_rfl))⟩,
    f16 := ⟨"cmp.Less[int64]", by decide, Try.func186.trans (congrArg some (by kernel_rfl))⟩,
    f17 := ⟨"slices.partitionEqualOrdered[int64]", by decide, Try.func187.trans (congrArg some (by kernel_rfl))⟩,
    f18 := ⟨"slices.partitionOrdered[int64]", by decide, Try.func188.trans (congrArg some (by kernel_rfl))⟩,
    f19 := Try.func189.trans (congrArg some (by kernel_rfl)),
    f20 := Try.func190.trans (congrArg some (by kernel_rfl)),
    f30 := ⟨"slices.siftDownOrdered[int64]", by decide, Try.func191.trans (congrArg some (by kernel_rfl))⟩,
    f31 := Try.func192.trans (congrArg some (by kernel_rfl)),
    f32 := Try.func193.trans (congrArg some (by kernel_rfl)),
    f33 := ⟨"slices.medianAdjacentOrdered[int64]", by decide, Try.func194.trans (congrArg some (by kernel_rfl))⟩,
    f34 := ⟨"slices.medianOrdered[int64]", by decide, Try.func195.trans (congrArg some (by kernel_rfl))⟩,
    f35 := ⟨"cmp.isNaN[int64]", by decide, Try.func170.trans (congrArg some (by kernel_rfl))⟩,
    f40 := ⟨"slices.order2Ordered[int64]", by decide, Try.func196.trans (congrArg some (by kernel_rfl))⟩,
    t0 := Try.underlying0,
    a0 := Try.isAgg0,
    z0 := Try.sizeOf0,
    v0 := Try.zeroValue0,
    t3 := Try.underlying3,
    a3 := Try.isAgg3,
    z3 := Try.sizeOf3,
    v3 := Try.zeroValue3,
    t4 := Try.underlying4,
    a4 := Try.isAgg4,
    z4 := Try.sizeOf4,
    v4 := Try.zeroValue4,
    t5 := Try.underlying5,
    a5 := Try.isAgg5,
    z5 := Try.sizeOf5,
    v5 := Try.zeroValue5,
    t9 := Try.underlying9,
    a9 := Try.isAgg9,
    z9 := Try.sizeOf9,
    v9 := Try.zeroValue9,
    t22 := Try.underlying22,
    a22 := Try.isAgg22,
    z22 := Try.sizeOf22,
    v22 := Try.zeroValue22,
    t23 := Try.underlying22,
    a23 := Try.isAgg22,
    z23 := Try.sizeOf22,
    v23 := Try.zeroValue22,
    t25 := Try.underlying2,
    a25 := Try.isAgg2,
    z25 := Try.sizeOf2,
    v25 := Try.zeroValue2,
    t32 := Try.underlying163,
    a32 := Try.isAgg163,
    z32 := Try.sizeOf163,
    v32 := Try.zeroValue163,
    t35 := Try.underlying182,
    a35 := Try.isAgg182,
    z35 := Try.sizeOf182,
    v35 := Try.zeroValue182,
    t36 := Try.underlying183,
    a36 := Try.isAgg183,
    z36 := Try.sizeOf183,
    v36 := Try.zeroValue183,
    t41 := Try.underlying187,
    a41 := Try.isAgg187,
    z41 := Try.sizeOf187,
    v41 := Try.zeroValue187,
    t44 := Try.underlying174,
    a44 := Try.isAgg174,
    z44 := Try.sizeOf174,
    v44 := Try.zeroValue174,
    t46 := Try.underlying140,
    a46 := Try.isAgg140,
    z46 := Try.sizeOf140,
    v46 := Try.zeroValue140,
    t53 := Try.underlying191,
    a53 := Try.isAgg191,
    z53 := Try.sizeOf191,
    v53 := Try.zeroValue191,
    t57 := Try.underlying195,
    a57 := Try.isAgg195,
    z57 := Try.sizeOf195,
    v57 := Try.zeroValue195,
    t63 := Try.underlying197,
    a63 := Try.isAgg197,
    z63 := Try.sizeOf197,
    v63 := Try.zeroValue197,
    t64 := Try.underlying198,
    a64 := Try.isAgg198,
    z64 := Try.sizeOf198,
    v64 := Try.zeroValue198 }
def layE43_ren : Go.Shelf.Ren := ⟨fun | 43 => 177 | n => n, fun | 22 => 22 | 23 => 2 | 3 => 3 | 4 => 4 | 0 => 0 | n => n, fun | n => n⟩
theorem layE43 : Go.Proofs.SlLaysE.n43 Try.prog layE43_ren :=
  { mixed := by kernel_rfl,
    f43 := ⟨"slices.Compact[[]int64,int64]", by decide, Try.func177.trans (congrArg some (by kernel_rfl))⟩,
    t0 := Try.underlying0,
    a0 := Try.isAgg0,
    z0 := Try.sizeOf0,
    v0 := Try.zeroValue0,
    t3 := Try.underlying3,
    a3 := Try.isAgg3,
    z3 := Try.sizeOf3,
    v3 := Try.zeroValue3,
    t4 := Try.underlying4,
    a4 := Try.isAgg4,
    z4 := Try.sizeOf4,
    v4 := Try.zeroValue4,
    t22 := Try.underlying22,
    a22 := Try.isAgg22,
    z22 := Try.sizeOf22,
    v22 := Try.zeroValue22,
    a23 := Try.isAgg2,
    z23 := Try.sizeOf2 }
def lays212_ren : Go.Shelf.Ren := ⟨fun | 212 => 172 | 263 => 174 | 264 => 175 | n => n, fun | 46 => 163 | 51 => 174 | 146 => 175 | 53 => 140 | 148 => 177 | n => n, fun | n => n⟩
theorem lays212 : Go.Proofs.Lays.n212 Try.prog lays212_ren :=
  { mixed := by kernel_rfl,
    f212 := Try.func172.trans (congrArg some (by kernel_rfl)),
    f263 := Try.func174.trans (congrArg some (by kernel_rfl)),
    f264 := Try.func175.trans (congrArg some (by kernel_rfl)),
    t46 := Try.underlying163,
    a46 := Try.isAgg163,
    z46 := Try.sizeOf163,
    v46 := Try.zeroValue163,
    t51 := Try.underlying174,
    a51 := Try.isAgg174,
    z51 := Try.sizeOf174,
    v51 := Try.zeroValue174,
    t53 := Try.underlying140,
    a53 := Try.isAgg140,
    z53 := Try.sizeOf140,
    v53 := Try.zeroValue140,
    t146 := Try.underlying175,
    a146 := Try.isAgg175,
    z146 := Try.sizeOf175,
    v146 := Try.zeroValue175,
    t148 := Try.underlying177,
    a148 := Try.isAgg177,
    z148 := Try.sizeOf177,
    v148 := Try.zeroValue177 }

open Go.Sort (putRow putCells mapBlock Holds grow)
theorem own_holds {w : World} {g n c : Nat} {xs : List Int} {S : List Nat} (h : OI w (.slice (some ⟨g, 0, none⟩) n c) xs S) : Holds (Value.int .i64) w g 0 xs.toArray := by
  intro j hj
  have hj' : j < xs.length := by simpa using hj
  rw [Nat.zero_add]
  refine ⟨?_, h.frozen j⟩
  rw [h.cell hj', nth_eq hj']
  simp [hj']
/-- A row whose cells were laid anew. -/
theorem own_putRow {w : World} {g n c : Nat} {xs ys : List Int} {S : List Nat} (h : OI w (.slice (some ⟨g, 0, none⟩) n c) xs S) {d : Array Int} (hd : d.size = xs.length) (m : Nat) (hy : ys.length ≤ d.size) (hyd : ∀ i, i < ys.length → d[i]! = nth ys i) :
    OI (putRow (Value.int .i64) (Go.Sort.ahead w m) g 0 d) (.slice (some ⟨g, 0, none⟩) ys.length c) ys [g] ∧ Only [g] w (putRow (Value.int .i64) (Go.Sort.ahead w m) g 0 d) := by
  have hl := h.len
  have hb := h.blocks
  obtain ⟨cur, hcur⟩ := h.heap1
  have hsz : cur.size = c := by
    rcases h with ⟨h0, _⟩ | ⟨g', cap, cur', Ss, h0, hh, h1, _⟩
    · simp at h0
    · simp only [Value.slice.injEq, Option.some.injEq, Addr.mk.injEq, and_true] at h0
      obtain ⟨rfl, _, rfl⟩ := h0
      rw [hh] at hcur
      simp only [Option.some.injEq, Obj.cells.injEq] at hcur
      rw [← hcur.1]; exact h1
  have e1 : (putRow (Value.int .i64) (Go.Sort.ahead w m) g 0 d).heap[g]? = some (.cells (putCells (Value.int .i64) 0 d cur) 2 (0, 0)) := by
    show (w.heap.modify g _)[g]? = _
    rw [Array.getElem?_modify, if_pos rfl, hcur]; rfl
  have e2 : ∀ k, k ≠ g → (putRow (Value.int .i64) (Go.Sort.ahead w m) g 0 d).heap[k]? = w.heap[k]? := fun k hk => by
    show (w.heap.modify g _)[k]? = _
    rw [Array.getElem?_modify, if_neg (Ne.symm hk)]
  refine ⟨.inr ⟨g, c, _, List.replicate ys.length [], rfl, e1, ?_, ?_, hl.2.2, by simp, by simp, by simp, fun i hi => ?_⟩, ⟨rfl, rfl, rfl, by simp [Go.Sort.ahead], fun k hk hS => e2 k (by simpa using hS)⟩⟩
  · simp [putCells, hsz]
  · have := hl.2.1; omega
  · refine ⟨.int .i64 (nth ys i), ?_, rfl, by rw [nth_replicate hi]⟩
    have hi2 : i < cur.size := by have := hl.2.1; omega
    rw [putCells, Array.getElem?_mapIdx, Array.getElem?_eq_getElem hi2]
    simp only [Option.map_some, Nat.zero_le, Nat.zero_add, true_and, Nat.sub_zero]
    rw [if_pos (by omega), hyd i hi]
theorem only_grow {S : List Nat} {w w' : World} (h : Only S w w') (os : Array Obj) : Only S w (grow w' os) :=
  ⟨h.os, h.tape, h.output, by have := h.size; simp; omega, fun k hk hS => by
    have := h.size
    show (w'.heap ++ os)[k]? = _
    rw [Array.getElem?_append_left (by omega)]
    exact h.block k hk hS⟩
theorem own_grow {w : World} {v : Value} {xs : List Int} {S : List Nat} (h : OI w v xs S) (os : Array Obj) : OI (grow w os) v xs S :=
  OI.ok.keep h fun k hk => by
    show (w.heap ++ os)[k]? = _
    rw [Array.getElem?_append_left (OI.ok.lt h k hk)]

theorem keep_mem {d : Array Int} : ∀ j, j < d.size → d[j]! ∈ Lib.compactUpTo d d.size := by
  intro j
  induction j with
  | zero =>
    intro hj
    unfold Lib.compactUpTo
    exact List.mem_map.2 ⟨0, List.mem_filter.2 ⟨List.mem_range.2 hj, by simp [Lib.keeps]⟩, rfl⟩
  | succ j ih =>
    intro hj
    by_cases hk : Lib.keeps d (j + 1) = true
    · unfold Lib.compactUpTo
      exact List.mem_map.2 ⟨j + 1, List.mem_filter.2 ⟨List.mem_range.2 hj, hk⟩, rfl⟩
    · have e : d[j + 1]! = d[j]! := by
        simp [Lib.keeps] at hk
        exact hk
      rw [e]
      exact ih (by omega)
theorem comp_mem {d : Array Int} {y : Int} : y ∈ Lib.compactUpTo d d.size ↔ y ∈ d.toList := by
  constructor
  · intro h
    unfold Lib.compactUpTo at h
    obtain ⟨j, hj, rfl⟩ := List.mem_map.1 h
    have hj' := List.mem_range.1 (List.mem_filter.1 hj).1
    simp [hj']
  · intro h
    obtain ⟨j, hj, rfl⟩ := List.mem_iff_getElem.1 h
    have hj' : j < d.size := by simpa using hj
    have := keep_mem j hj'
    simpa [hj'] using this
theorem comp_len (d : Array Int) : (Lib.compactUpTo d d.size).length ≤ d.size := by
  unfold Lib.compactUpTo
  rw [List.length_map]
  exact Nat.le_trans (List.length_filter_le _ _) (by simp)

set_option maxRecDepth 100000 in
theorem implSort {w : World} {g c n : Nat} {xs : List Int} {S : List Nat} (h : OI w (.slice (some ⟨g, 0, none⟩) n c) xs S) (hn : xs.length ≤ 1048576) :
    Calls Try.prog 176 #[.slice (some ⟨g, 0, none⟩) n c] w fun e w' => e = .returned (.tuple #[]) ∧ ∃ ys, OI w' (.slice (some ⟨g, 0, none⟩) n c) ys [g] ∧ ys.length = n ∧ (∀ y, y ∈ ys ↔ y ∈ xs) ∧ Only [g] w w' := by
  have hl := h.len
  have hg := h.head.2
  obtain ⟨hn1, hc1, hc2⟩ := hl
  subst hn1
  refine (AnyM.slices_Sort_int layS5 g 0 c xs w (own_holds h) hg (by omega)).mono fun e w' ⟨he, m, os, hw⟩ => ⟨he, ?_⟩
  have hlen : (xs.mergeSort fun x y => decide (x ≤ y)).length = xs.length := List.length_mergeSort _
  have := own_putRow h (d := (xs.mergeSort fun x y => decide (x ≤ y)).toArray) (ys := xs.mergeSort fun x y => decide (x ≤ y)) (by simp) m (by simp) (fun i hi => by rw [nth_eq hi]; simp [List.getElem?_eq_getElem hi])
  rw [hlen] at this
  subst hw
  exact ⟨_, own_grow this.1 os, hlen, fun y => List.mem_mergeSort, only_grow this.2 os⟩
set_option maxRecDepth 100000 in
theorem implCompact {w : World} {g c n : Nat} {xs : List Int} {S : List Nat} (h : OI w (.slice (some ⟨g, 0, none⟩) n c) xs S) (hn : xs.length ≤ 1048576) :
    Calls Try.prog 177 #[.slice (some ⟨g, 0, none⟩) n c] w fun e w' => ∃ ys, e = .returned (.slice (some ⟨g, 0, none⟩) ys.length c) ∧ OI w' (.slice (some ⟨g, 0, none⟩) ys.length c) ys [g] ∧ ys.length ≤ n ∧ (∀ y, y ∈ ys ↔ y ∈ xs) ∧ Only [g] w w' := by
  have hl := h.len
  obtain ⟨hn1, hc1, hc2⟩ := hl
  subst hn1
  have hC := AnyE.slices_Compact layE43 (Value.int .i64) (fun _ => rfl) (EqlAt.intD _ _ _) (NeqAt.intD _ _ _) (0 : Int) (fun _ => by kernel_rfl) g 0 c xs.toArray w (own_holds h) (by simp; omega) (by simpa using hc1)
  rw [show xs.toArray.size = xs.length by simp] at hC
  refine hC.mono fun e w' ⟨he, q, hw⟩ => ?_
  have hcl := comp_len xs.toArray
  rw [show xs.toArray.size = xs.length by simp] at hcl
  have hmem : ∀ y, y ∈ Lib.compactUpTo xs.toArray xs.length ↔ y ∈ xs := fun y => by
    have := comp_mem (d := xs.toArray) (y := y)
    rwa [show xs.toArray.size = xs.length by simp] at this
  generalize hys : Lib.compactUpTo xs.toArray xs.length = ys at *
  have := own_putRow h (d := (ys ++ List.replicate (xs.length - ys.length) (0 : Int)).toArray) (ys := ys) (by simp; omega) q (by simp) (fun i hi => by rw [nth_eq hi]; simp [List.getElem?_append_left hi, List.getElem?_eq_getElem hi])
  subst hw
  exact ⟨ys, he, this.1, hcl, hmem, this.2⟩
end Go.Proofs.Ytnpkanlieflbiaa
