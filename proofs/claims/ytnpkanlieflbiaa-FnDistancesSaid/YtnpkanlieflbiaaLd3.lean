/- The library's Sort and Compact over a row of the call's own. Printed by gen_ld3.py. -/
import Derived.Test.YtnpkanlieflbiaaLd1
import Derived.Test.YtnpkanlieflbiaaO2
import Derived.Shelf.SortM.Plain
import Derived.Shelf.SlicesE.Compact
import Derived.Shelf.Bits.Mul64
import Derived.Test.YtnpkanlieflbiaaE6
import Derived.Deep.DeepCutAuto
import Derived.Test.YtnpkanlieflbiaaF2
import Derived.Laws.CopyOwn
import Derived.Lib.MinMax
namespace Go.Proofs.Ytnpkanlieflbiaa
open Go.Shelf Go.RowKit
set_option linter.unusedVariables false

def layS5_ren : Go.Shelf.Ren := ⟨fun | 5 => 176 | 8 => 179 | 7 => 178 | 19 => 189 | 20 => 190 | 10 => 180 | 11 => 181 | 12 => 182 | 13 => 183 | 14 => 184 | 15 => 185 | 16 => 186 | 17 => 187 | 18 => 188 | 30 => 191 | 31 => 192 | 32 => 193 | 33 => 194 | 34 => 195 | 35 => 170 | 40 => 196 | n => n, fun | 23 => 22 | 25 => 2 | 3 => 3 | 32 => 163 | 22 => 22 | 0 => 0 | 44 => 174 | 46 => 140 | 4 => 4 | 36 => 183 | 35 => 182 | 41 => 187 | 5 => 5 | 9 => 9 | 53 => 191 | 57 => 195 | 63 => 197 | 64 => 198 | n => n, fun | n => n⟩
theorem layS5 : Go.Proofs.SlLaysM.n5 Try.prog layS5_ren :=
  { mixed := by kernel_rfl,
    f5 := ⟨"slices.Sort[[]int64,int64]", by decide, Try.func176.trans (congrArg some (by kernel_rfl))⟩,
    f7 := ⟨"slices.pdqsortOrdered[int64]", by decide, Try.func178.trans (congrArg some (by kernel_rfl))⟩,
    f8 := Try.func179.trans (congrArg some (by kernel_rfl)),
    f10 := ⟨"slices.insertionSortOrdered[int64]", by decide, Try.func180.trans (congrArg some (by kernel_rfl))⟩,
    f11 := ⟨"slices.heapSortOrdered[int64]", by decide, Try.func181.trans (congrArg some (by kernel_rfl))⟩,
    f12 := ⟨"slices.breakPatternsOrdered[int64]", by decide, Try.func182.trans (congrArg some (by kernel_rfl))⟩,
    f13 := ⟨"slices.choosePivotOrdered[int64]", by decide, Try.func183.trans (congrArg some (by kernel_rfl))⟩,
    f14 := ⟨"slices.reverseRangeOrdered[int64]", by decide, Try.func184.trans (congrArg some (by kernel_rfl))⟩,
    f15 := ⟨"slices.partialInsertionSortOrdered[int64]", by decide, Try.func185.trans (congrArg some (by kernel_rfl))⟩,
    f16 := ⟨"cmp.Less[int64]", by decide, Try.func186.trans (congrArg some (by kernel_rfl))⟩,
    f17 := ⟨"slices.partitionEqualOrdered[int64]", by decide, Try.func187.trans (congrArg some (by kernel_rfl))⟩,
    f18 := ⟨"slices.partitionOrdered[int64]", by decide, Try.func188.trans (congrArg some (by kernel_rfl))⟩,
    f19 := Try.func189.trans (congrArg some (by kernel_rfl)),
    f20 := Try.func190.trans (congrArg some (by kernel_rfl)),
    f30 := ⟨"slices.siftDownOrdered[int64]", by decide, Try.func191.trans (congrArg some (by kernel_rfl))⟩,
    f31 := Try.func192.trans (congrArg some (by kernel_rfl)),
    f32 := Try.func193.trans (congrArg some (by kernel_rfl)),
    f33 := ⟨"slices.medianAdjacentOrdered[int64]", by decide, Try.func194.trans (congrArg some (by kernel_rfl))⟩,
    f34 := ⟨"slices.medianOrdered[int64]", by decide, Try.func195.trans (congrArg some (by kernel_rfl))⟩,
    f35 := ⟨"cmp.isNaN[int64]", by decide, Try.func170.trans (congrArg some (by kernel_rfl))⟩,
    f40 := ⟨"slices.order2Ordered[int64]", by decide, Try.func196.trans (congrArg some (by kernel_rfl))⟩,
    t0 := Try.underlying0,
    a0 := Try.isAgg0,
    z0 := Try.sizeOf0,
    v0 := Try.zeroValue0,
    t3 := Try.underlying3,
    a3 := Try.isAgg3,
    z3 := Try.sizeOf3,
    v3 := Try.zeroValue3,
    t4 := Try.underlying4,
    a4 := Try.isAgg4,
    z4 := Try.sizeOf4,
    v4 := Try.zeroValue4,
    t5 := Try.underlying5,
    a5 := Try.isAgg5,
    z5 := Try.sizeOf5,
    v5 := Try.zeroValue5,
    t9 := Try.underlying9,
    a9 := Try.isAgg9,
    z9 := Try.sizeOf9,
    v9 := Try.zeroValue9,
    t22 := Try.underlying22,
    a22 := Try.isAgg22,
    z22 := Try.sizeOf22,
    v22 := Try.zeroValue22,
    t23 := Try.underlying22,
    a23 := Try.isAgg22,
    z23 := Try.sizeOf22,
    v23 := Try.zeroValue22,
    t25 := Try.underlying2,
    a25 := Try.isAgg2,
    z25 := Try.sizeOf2,
    v25 := Try.zeroValue2,
    t32 := Try.underlying163,
    a32 := Try.isAgg163,
    z32 := Try.sizeOf163,
    v32 := Try.zeroValue163,
    t35 := Try.underlying182,
    a35 := Try.isAgg182,
    z35 := Try.sizeOf182,
    v35 := Try.zeroValue182,
    t36 := Try.underlying183,
    a36 := Try.isAgg183,
    z36 := Try.sizeOf183,
    v36 := Try.zeroValue183,
    t41 := Try.underlying187,
    a41 := Try.isAgg187,
    z41 := Try.sizeOf187,
    v41 := Try.zeroValue187,
    t44 := Try.underlying174,
    a44 := Try.isAgg174,
    z44 := Try.sizeOf174,
    v44 := Try.zeroValue174,
    t46 := Try.underlying140,
    a46 := Try.isAgg140,
    z46 := Try.sizeOf140,
    v46 := Try.zeroValue140,
    t53 := Try.underlying191,
    a53 := Try.isAgg191,
    z53 := Try.sizeOf191,
    v53 := Try.zeroValue191,
    t57 := Try.underlying195,
    a57 := Try.isAgg195,
    z57 := Try.sizeOf195,
    v57 := Try.zeroValue195,
    t63 := Try.underlying197,
    a63 := Try.isAgg197,
    z63 := Try.sizeOf197,
    v63 := Try.zeroValue197,
    t64 := Try.underlying198,
    a64 := Try.isAgg198,
    z64 := Try.sizeOf198,
    v64 := Try.zeroValue198 }
def layE43_ren : Go.Shelf.Ren := ⟨fun | 43 => 177 | n => n, fun | 22 => 22 | 23 => 2 | 3 => 3 | 4 => 4 | 0 => 0 | n => n, fun | n => n⟩
theorem layE43 : Go.Proofs.SlLaysE.n43 Try.prog layE43_ren :=
  { mixed := by kernel_rfl,
    f43 := ⟨"slices.Compact[[]int64,int64]", by decide, Try.func177.trans (congrArg some (by kernel_rfl))⟩,
    t0 := Try.underlying0,
    a0 := Try.isAgg0,
    z0 := Try.sizeOf0,
    v0 := Try.zeroValue0,
    t3 := Try.underlying3,
    a3 := Try.isAgg3,
    z3 := Try.sizeOf3,
    v3 := Try.zeroValue3,
    t4 := Try.underlying4,
    a4 := Try.isAgg4,
    z4 := Try.sizeOf4,
    v4 := Try.zeroValue4,
    t22 := Try.underlying22,
    a22 := Try.isAgg22,
    z22 := Try.sizeOf22,
    v22 := Try.zeroValue22,
    a23 := Try.isAgg2,
    z23 := Try.sizeOf2 }
def lays212_ren : Go.Shelf.Ren := ⟨fun | 212 => 172 | 263 => 174 | 264 => 175 | n => n, fun | 46 => 163 | 51 => 174 | 146 => 175 | 53 => 140 | 148 => 177 | n => n, fun | n => n⟩
theorem lays212 : Go.Proofs.Lays.n212 Try.prog lays212_ren :=
  { mixed := by kernel_rfl,
    f212 := Try.func172.trans (congrArg some (by kernel_rfl)),
    f263 := Try.func174.trans (congrArg some (by kernel_rfl)),
    f264 := Try.func175.trans (congrArg some (by kernel_rfl)),
    t46 := Try.underlying163,
    a46 := Try.isAgg163,
    z46 := Try.sizeOf163,
    v46 := Try.zeroValue163,
    t51 := Try.underlying174,
    a51 := Try.isAgg174,
    z51 := Try.sizeOf174,
    v51 := Try.zeroValue174,
    t53 := Try.underlying140,
    a53 := Try.isAgg140,
    z53 := Try.sizeOf140,
    v53 := Try.zeroValue140,
    t146 := Try.underlying175,
    a146 := Try.isAgg175,
    z146 := Try.sizeOf175,
    v146 := Try.zeroValue175,
    t148 := Try.underlying177,
    a148 := Try.isAgg177,
    z148 := Try.sizeOf177,
    v148 := Try.zeroValue177 }

open Go.Sort (putRow putCells mapBlock Holds grow)
theorem own_holds {w : World} {g n c : Nat} {xs : List Int} {S : List Nat} (h : OI w (.slice (some ⟨g, 0, none⟩) n c) xs S) : Holds (Value.int .i64) w g 0 xs.toArray := by
  intro j hj
  have hj' : j < xs.length := by simpa using hj
  rw [Nat.zero_add]
  refine ⟨?_, h.frozen j⟩
  rw [h.cell hj', nth_eq hj']
  simp [hj']
/-- A row whose cells were laid anew. -/
theorem own_putRow {w : World} {g n c : Nat} {xs ys : List Int} {S : List Nat} (h : OI w (.slice (some ⟨g, 0, none⟩) n c) xs S) {d : Array Int} (hd : d.size = xs.length) (m : Nat) (hy : ys.length ≤ d.size) (hyd : ∀ i, i < ys.length → d[i]! = nth ys i) :
    OI (putRow (Value.int .i64) (Go.Sort.ahead w m) g 0 d) (.slice (some ⟨g, 0, none⟩) ys.length c) ys [g] ∧ Only [g] w (putRow (Value.int .i64) (Go.Sort.ahead w m) g 0 d) := by
  have hl := h.len
  have hb := h.blocks
  obtain ⟨cur, hcur⟩ := h.heap1
  have hsz : cur.size = c := by
    rcases h with ⟨h0, _⟩ | ⟨g', cap, cur', Ss, h0, hh, h1, _⟩
    · simp at h0
    · simp only [Value.slice.injEq, Option.some.injEq, Addr.mk.injEq, and_true] at h0
      obtain ⟨rfl, _, rfl⟩ := h0
      rw [hh] at hcur
      simp only [Option.some.injEq, Obj.cells.injEq] at hcur
      rw [← hcur.1]; exact h1
  have e1 : (putRow (Value.int .i64) (Go.Sort.ahead w m) g 0 d).heap[g]? = some (.cells (putCells (Value.int .i64) 0 d cur) 2 (0, 0)) := by
    show (w.heap.modify g _)[g]? = _
    rw [Array.getElem?_modify, if_pos rfl, hcur]; rfl
  have e2 : ∀ k, k ≠ g → (putRow (Value.int .i64) (Go.Sort.ahead w m) g 0 d).heap[k]? = w.heap[k]? := fun k hk => by
    show (w.heap.modify g _)[k]? = _
    rw [Array.getElem?_modify, if_neg (Ne.symm hk)]
  refine ⟨.inr ⟨g, c, _, List.replicate ys.length [], rfl, e1, ?_, ?_, hl.2.2, by simp, by simp, by simp, fun i hi => ?_⟩, ⟨rfl, rfl, rfl, by simp [Go.Sort.ahead], fun k hk hS => e2 k (by simpa using hS)⟩⟩
  · simp [putCells, hsz]
  · have := hl.2.1; omega
  · refine ⟨.int .i64 (nth ys i), ?_, rfl, by rw [nth_replicate hi]⟩
    have hi2 : i < cur.size := by have := hl.2.1; omega
    rw [putCells, Array.getElem?_mapIdx, Array.getElem?_eq_getElem hi2]
    simp only [Option.map_some, Nat.zero_le, Nat.zero_add, true_and, Nat.sub_zero]
    rw [if_pos (by omega), hyd i hi]
theorem only_grow {S : List Nat} {w w' : World} (h : Only S w w') (os : Array Obj) : Only S w (grow w' os) :=
  ⟨h.os, h.tape, h.output, by have := h.size; simp; omega, fun k hk hS => by
    have := h.size
    show (w'.heap ++ os)[k]? = _
    rw [Array.getElem?_append_left (by omega)]
    exact h.block k hk hS⟩
theorem own_grow {w : World} {v : Value} {xs : List Int} {S : List Nat} (h : OI w v xs S) (os : Array Obj) : OI (grow w os) v xs S :=
  OI.ok.keep h fun k hk => by
    show (w.heap ++ os)[k]? = _
    rw [Array.getElem?_append_left (OI.ok.lt h k hk)]

theorem keep_mem {d : Array Int} : ∀ j, j < d.size → d[j]! ∈ Lib.compactUpTo d d.size := by
  intro j
  induction j with
  | zero =>
    intro hj
    unfold Lib.compactUpTo
    exact List.mem_map.2 ⟨0, List.mem_filter.2 ⟨List.mem_range.2 hj, by simp [Lib.keeps]⟩, rfl⟩
  | succ j ih =>
    intro hj
    by_cases hk : Lib.keeps d (j + 1) = true
    · unfold Lib.compactUpTo
      exact List.mem_map.2 ⟨j + 1, List.mem_filter.2 ⟨List.mem_range.2 hj, hk⟩, rfl⟩
    · have e : d[j + 1]! = d[j]! := by
        simp [Lib.keeps] at hk
        exact hk
      rw [e]
      exact ih (by omega)
theorem comp_mem {d : Array Int} {y : Int} : y ∈ Lib.compactUpTo d d.size ↔ y ∈ d.toList := by
  constructor
  · intro h
    unfold Lib.compactUpTo at h
    obtain ⟨j, hj, rfl⟩ := List.mem_map.1 h
    have hj' := List.mem_range.1 (List.mem_filter.1 hj).1
    simp [hj']
  · intro h
    obtain ⟨j, hj, rfl⟩ := List.mem_iff_getElem.1 h
    have hj' : j < d.size := by simpa using hj
    have := keep_mem j hj'
    simpa [hj'] using this
theorem comp_len (d : Array Int) : (Lib.compactUpTo d d.size).length ≤ d.size := by
  unfold Lib.compactUpTo
  rw [List.length_map]
  exact Nat.le_trans (List.length_filter_le _ _) (by simp)

set_option maxRecDepth 100000 in
theorem implSort {w : World} {g c n : Nat} {xs : List Int} {S : List Nat} (h : OI w (.slice (some ⟨g, 0, none⟩) n c) xs S) (hn : xs.length ≤ 1048576) :
    Calls Try.prog 176 #[.slice (some ⟨g, 0, none⟩) n c] w fun e w' => e = .returned (.tuple #[]) ∧ ∃ ys, OI w' (.slice (some ⟨g, 0, none⟩) n c) ys [g] ∧ ys.length = n ∧ (∀ y, y ∈ ys ↔ y ∈ xs) ∧ Only [g] w w' := by
  have hl := h.len
  have hg := h.head.2
  obtain ⟨hn1, hc1, hc2⟩ := hl
  subst hn1
  refine (AnyM.slices_Sort_int layS5 g 0 c xs w (own_holds h) hg (by omega)).mono fun e w' ⟨he, m, os, hw⟩ => ⟨he, ?_⟩
  have hlen : (xs.mergeSort fun x y => decide (x ≤ y)).length = xs.length := List.length_mergeSort _
  have := own_putRow h (d := (xs.mergeSort fun x y => decide (x ≤ y)).toArray) (ys := xs.mergeSort fun x y => decide (x ≤ y)) (by simp) m (by simp) (fun i hi => by rw [nth_eq hi]; simp [List.getElem?_eq_getElem hi])
  rw [hlen] at this
  subst hw
  exact ⟨_, own_grow this.1 os, hlen, fun y => List.mem_mergeSort, only_grow this.2 os⟩
set_option maxRecDepth 100000 in
theorem implCompact {w : World} {g c n : Nat} {xs : List Int} {S : List Nat} (h : OI w (.slice (some ⟨g, 0, none⟩) n c) xs S) (hn : xs.length ≤ 1048576) :
    Calls Try.prog 177 #[.slice (some ⟨g, 0, none⟩) n c] w fun e w' => ∃ ys, e = .returned (.slice (some ⟨g, 0, none⟩) ys.length c) ∧ OI w' (.slice (some ⟨g, 0, none⟩) ys.length c) ys [g] ∧ ys.length ≤ n ∧ (∀ y, y ∈ ys ↔ y ∈ xs) ∧ Only [g] w w' := by
  have hl := h.len
  obtain ⟨hn1, hc1, hc2⟩ := hl
  subst hn1
  have hC := AnyE.slices_Compact layE43 (Value.int .i64) (fun _ => rfl) (EqlAt.intD _ _ _) (NeqAt.intD _ _ _) (0 : Int) (fun _ => by kernel_rfl) g 0 c xs.toArray w (own_holds h) (by simp; omega) (by simpa using hc1)
  rw [show xs.toArray.size = xs.length by simp] at hC
  refine hC.mono fun e w' ⟨he, q, hw⟩ => ?_
  have hcl := comp_len xs.toArray
  rw [show xs.toArray.size = xs.length by simp] at hcl
  have hmem : ∀ y, y ∈ Lib.compactUpTo xs.toArray xs.length ↔ y ∈ xs := fun y => by
    have := comp_mem (d := xs.toArray) (y := y)
    rwa [show xs.toArray.size = xs.length by simp] at this
  generalize hys : Lib.compactUpTo xs.toArray xs.length = ys at *
  have := own_putRow h (d := (ys ++ List.replicate (xs.length - ys.length) (0 : Int)).toArray) (ys := ys) (by simp; omega) q (by simp) (fun i hi => by rw [nth_eq hi]; simp [List.getElem?_append_left hi, List.getElem?_eq_getElem hi])
  subst hw
  exact ⟨ys, he, this.1, hcl, hmem, this.2⟩
end Go.Proofs.Ytnpkanlieflbiaa
/- The least distance: the states that are reached from a state, walked. -/
namespace Go.Proofs.Ytnpkanlieflbiaa
open Go.RowKit
set_option linter.unusedVariables false

theorem BoxC.nextRow {P : Nat → Prop} {w : World} {b : Nat} {x : Chn} (h : BoxC P w b x) (hv : VC x) {k s : Nat} (hk : k < x.n) (hs : s < x.S) :
    ∃ c c' b1 o1 b2 o2 c2 b3 o3 c3 b4 o4 R, w.cell? ⟨b, 4, none⟩ = some (.slice (some ⟨b2, o2, none⟩) x.tables.length c) ∧ w.cell? ⟨b, 5, none⟩ = some (.slice (some ⟨b1, o1, none⟩) x.places.length c') ∧ (x.tables.length ≤ c ∧ c ≤ maxLen) ∧ (x.places.length ≤ c' ∧ c' ≤ maxLen) ∧
      w.cell? ⟨b1, o1 + k, none⟩ = some (.int .i64 ((nth x.places k).toNat : Nat)) ∧ (nth x.places k).toNat < x.tables.length ∧
      w.cell? ⟨b2, o2 + (nth x.places k).toNat, none⟩ = some (.slice (some ⟨b3, o3, none⟩) x.S c2) ∧ (x.S ≤ c2 ∧ c2 ≤ maxLen) ∧
      w.cell? ⟨b3, o3 + s, none⟩ = some (.slice (some ⟨b4, o4, none⟩) x.b c3) ∧ (x.b ≤ c3 ∧ c3 ≤ maxLen) ∧ RdI P w (.slice (some ⟨b4, o4, none⟩) x.b c3) R ∧ R.length = x.b ∧ ∀ d, d < x.b → nth R d = (nxt x k s d : Int) := by
  obtain ⟨a, c, a', c', g0, g1, g2, g3, g4, g5, hu, hp, h1, h2⟩ := h.cells
  have hpl := hv.place k hk
  have hS := hv.states
  have hB := hv.base
  simp only [Chn.S, Chn.b, Chn.n] at *
  obtain ⟨b1, o1, u1, rfl, _, hc1, rfl⟩ := Rd.elim hp k hk
  have hi : (nth x.places k).toNat < x.tables.length := by omega
  obtain ⟨b2, o2, a2, c2, rfl, _, hc2, q1, q2, hr2⟩ := Rd.row hu hi
  have hl2 := hv.tabLen _ hi
  obtain ⟨b3, o3, a3, c3, rfl, _, hc3, q3, q4, hr3⟩ := Rd.row hr2 (x := s) (by omega)
  have hl3 := hv.rowLen _ s hi (by omega)
  have e2 : (nth x.tables (nth x.places k).toNat).length = x.states.toNat := by omega
  have e3 : (nth (nth x.tables (nth x.places k).toNat) s).length = x.base.toNat := by omega
  obtain ⟨b4, o4, u4, e4, _, _, _⟩ := Rd.elim hr3 0 (by omega)
  subst e4
  rw [e2] at hc2 q1
  rw [e3] at hc3 q3 hr3
  refine ⟨c, c', b1, o1, b2, o2, c2, b3, o3, c3, b4, o4, _, g4, g5, h1, h2, ?_, hi, hc2, ⟨q1, q2⟩, hc3, ⟨q3, q4⟩, hr3, e3, fun d hd => (hv.cellN (k := k) (s := s) (d := d) hk hs hd).1⟩
  rw [hc1]; congr 2; omega

set_option maxHeartbeats 3200000 in
set_option maxRecDepth 100000 in
theorem implReached {B bx : Nat} {x : Chn} {w : World} (h : BoxC (· < B) w bx x) (hB : B ≤ w.heap.size) (hv : VC x) (k s : Nat) (hk : k < x.n) (hs : s < x.S) :
    Calls Try.prog 173 #[.pointer (some ⟨bx, 0, none⟩), .int .i64 k, .int .i64 s] w fun e w' => ∃ v L, e = .returned v ∧ Fresh OI w w' v L ∧ L.length ≤ x.b ∧ ∀ y, y ∈ L ↔ ∃ d, d < x.b ∧ y = (nxt x k s d : Int) := by
  obtain ⟨c, c', b1, o1, b2, o2, c2, b3, o3, c3, b4, o4, R, g4, g5, h1, h2, hc1, hi, hc2, h3, hc3, h4, hR, hRl, hRn⟩ := h.nextRow hv hk hs
  have hbd := hv.nat
  have hmem := Lib.hid (show ∀ y, y ∈ R ↔ ∃ d, d < x.b ∧ y = (nxt x k s d : Int) from fun y => by
    constructor
    · intro hy
      obtain ⟨d, hd, rfl⟩ := List.mem_iff_getElem.1 hy
      exact ⟨d, by omega, by rw [← hRn d (by omega), nth_eq hd]⟩
    · rintro ⟨d, hd, rfl⟩
      rw [← hRn d hd]
      exact nth_mem (by omega))
  unfold maxLen at h1 h2 h3 h4
  simp only [Chn.n] at hk
  have hR' := Lib.hid (fun m => RdI.ok.keep (w' := w.drewN m) hR fun _ _ => rfl)
  have hRl' := Lib.hid hRl
  have HB := Lib.hid hB
  clear h hv hR hRl hRn hB
  generalize (nth x.places k).toNat = I at *
  generalize x.S = S at *
  generalize x.b = b at *
  go_enter Try.func173, Try.ntmps173
  go_wp2
  refine wp_region_quiet_tail_lit 16 (by kernel_rfl) (by kernel_rfl) ?_
  simp only [List.take_succ_cons, List.take_zero, List.drop_succ_cons, List.drop_zero]
  repeat (go_big_quiet_step (fail))
  refine wpQuiet_nil ?_
  rintro _ ⟨nq, rfl⟩
  clear g4 g5 hc1 hc2 hc3
  go_wp2_with fail
  refine (slClone (hR'.out nq) (fun j hj => by have := HB.out; show j < w.heap.size; omega) (by rw [hRl'.out]; omega)).mono ?_
  rintro e w1 ⟨v1, rfl, hf1⟩
  obtain ⟨g, gc, rfl⟩ := hf1.shape (by rw [hRl'.out]; omega)
  rw [hRl'.out] at hf1 ⊢
  obtain ⟨S1, o1', l1, bel1⟩ := hf1
  have hb1 := o1'.blocks
  subst hb1
  have hg : w.heap.size ≤ g := l1 g (by simp)
  have Ho1 := Lib.hid o1'
  have Bel1 := Lib.hid (show Below w.heap.size w w1 from (bel_draws rfl).trans bel1)
  clear l1 bel1 o1'
  go_wp2_with fail
  refine (implSort Ho1.out (by rw [hRl'.out]; omega)).mono ?_
  rintro e w2 ⟨rfl, ys, ho2, hl2, hm2, hon2⟩
  have Ho2 := Lib.hid ho2
  have Hm2 := Lib.hid hm2
  have Bel2 := Lib.hid (below_only Bel1.out hon2 Bel1.out.size (fun j hj => by simp at hj; omega))
  have Hl2 := Lib.hid hl2
  clear ho2 hm2 hon2 hl2 Ho1
  go_wp2_with fail
  refine (implCompact Ho2.out (by rw [Hl2.out]; omega)).mono ?_
  rintro e w3 ⟨zs, rfl, ho3, hl3, hm3, hon3⟩
  have Hf3 := Lib.hid (show Fresh OI w w3 _ zs from ⟨_, ho3, fun j hj => by simp at hj; omega, below_only Bel2.out hon3 Bel2.out.size (fun j hj => by simp at hj; omega)⟩)
  have Hm3 := Lib.hid (fun y => (hm3 y).trans ((Hm2.out y).trans (hmem.out y)))
  clear ho3 hm3 hon3
  go_wp2
  go_ret
  exact ⟨_, zs, rfl, Hf3.out, hl3, Hm3.out⟩
end Go.Proofs.Ytnpkanlieflbiaa
/- The least distance: slices.Repeat of one number, walked. -/
namespace Go.Proofs.Ytnpkanlieflbiaa
open Go.RowKit
set_option linter.unusedVariables false

theorem implMul1 (n : Nat) (hn : n ≤ 36) (w : World) : Calls Try.prog 172 #[.int .u64 1, .int .u64 n] w fun e w' => e = .returned (.tuple #[.int .u64 0, .int .u64 n]) ∧ w = w' := by
  refine (Any.bits_Mul lays212 1 n (by omega) (by omega) w).mono fun e w' ⟨he, hw⟩ => ⟨?_, hw.symm⟩
  rw [he]
  have e1 : 1 * n / 18446744073709551616 = 0 := by omega
  have e2 : 1 * n % 18446744073709551616 = n := by omega
  rw [e1, e2]
  rfl
theorem splice_at {L cs : List Value} {off : Nat} (h : off + cs.length ≤ L.length) : (splice L off cs).length = L.length ∧ ∀ i, i < off + cs.length → (splice L off cs)[i]? = if i < off then L[i]? else cs[i - off]? := by
  unfold splice
  refine ⟨by simp; omega, fun i hi => ?_⟩
  split
  · rename_i h1
    rw [List.getElem?_append_left (by simp; omega), List.getElem?_take, if_pos h1]
  · rename_i h1
    rw [List.getElem?_append_right (by simp; omega), List.getElem?_append_left (by simp; omega)]
    congr 1
    simp; omega

set_option maxHeartbeats 3200000 in
set_option maxRecDepth 100000 in
theorem implRepeat {w : World} {gs : Nat} (a : Int) (hsrc : w.cell? ⟨gs, 0, none⟩ = some (.int .i64 a)) (n : Nat) (hn : 1 ≤ n ∧ n ≤ 36) :
    Calls Try.prog 160 #[.slice (some ⟨gs, 0, none⟩) 1 1, .int .i64 n] w fun e w' => ∃ v, e = .returned v ∧ Fresh OI w w' v (List.replicate n a) := by
  have hgs : gs < w.heap.size := cell_lt hsrc
  obtain ⟨W1, hW1⟩ : ∃ W1, W1 = w.alloc (.cells (madeCells #[.int .i64 0] n) 2) := ⟨_, rfl⟩
  have hg1 : W1.heap[w.heap.size]? = some (.cells (List.replicate n (.int .i64 0)).toArray 2 (0, 0)) := by
    rw [hW1, heap_alloc_new]
    congr 2
    apply Array.ext
    · simp [madeCells]
    · intro i h1 h2
      simp [madeCells, Nat.mod_one]
  have hb1 : Below w.heap.size w W1 := by rw [hW1]; exact (Below.refl _ _).alloc (Nat.le_refl _) _
  have hs1 : W1.cell? ⟨gs, 0, none⟩ = some (.int .i64 a) := (hb1.cell (p := ⟨gs, 0, none⟩) hgs).trans hsrc
  rw [hW1] at hg1 hb1 hs1
  have Hg1 := Lib.hid hg1
  have Hb1 := Lib.hid hb1
  have Hs1 := Lib.hid (show ∀ (j : Nat) v, [Value.int .i64 a][j]? = some v → (w.alloc (.cells (madeCells #[.int .i64 0] n) 2)).cell? ((⟨gs, 0, none⟩ : Addr).add j) = some v from fun j v hj => by
    have hj0 : j = 0 := by
      have := (List.getElem?_eq_some_iff.1 hj).1
      simp at this; exact this
    subst hj0
    simp at hj
    subst hj
    simpa [Addr.add] using hs1)
  have hmk := run_make_row' (P := Try.prog) 22 2 (.int .i64 0) 8 Try.underlying22 infoI64 rfl .i64 .i64 n (by omega) (by omega)
  clear hW1 hg1 hb1 hs1 hsrc
  go_enter Try.func160, Try.ntmps160
  have Hm1 := Lib.hid (show [Value.int .i64 a].length = Nat.min 1 n by simp [Nat.min_def]; omega)
  go_wp2_with (first
    | (go_at_call 172; refine (implMul1 n hn.2 _).mono ?_; rintro e w' ⟨rfl, rfl⟩)
    | (with_reducible refine wpList_copy_splice rfl _ _ 22 22 rfl 2 Try.underlying22 (by kernel_rfl) (some ⟨w.heap.size, 0, none⟩) (some ⟨gs, 0, none⟩) n n 1 1 rfl rfl w.heap.size 0 (List.replicate n (.int .i64 0)) 2 Hg1.out [.int .i64 a] Hm1.out (fun _ => ⟨rfl, ⟨gs, 0, none⟩, rfl, Hs1.out⟩) (by simp; omega) (by simp [Value.oneCell']) w.heap.size w Hb1.out (Nat.le_refl _) ?_; intro w5 hg5 hb5; have Hg5 := Lib.hid hg5.out; have Hb5 := Lib.hid hb5; clear hg5 hb5))
  have hsp := splice_at (L := List.replicate n (.int .i64 0)) (cs := [.int .i64 a]) (off := 0) (by simp; omega)
  go_loopw [8] (fun jv wr => ∃ (j : Nat) (L : List Value), 1 ≤ j ∧ j ≤ n ∧ jv = .int .i64 j ∧ Hid (L.length = n ∧ ∀ i, i < j → L[i]? = some (.int .i64 a)) ∧ Hid (wr.heap[w.heap.size]? = some (.cells L.toArray 2 (0, 0))) ∧ Hid (Below w.heap.size w wr)) (fun jv _ => n - (intOf jv).toNat)
  case atStart =>
    refine ⟨1, _, Nat.le_refl _, hn.1, rfl, Lib.hid ⟨by rw [hsp.1]; simp, fun i hi => ?_⟩, Hg5, Hb5⟩
    have hi0 : i = 0 := by omega
    subst hi0
    rw [hsp.2 0 (by simp)]
    rfl
  case round =>
    clear hsp Hg5 Hb5
    obtain ⟨j, L, hj1, hjn, rfl, hL, hg, hb⟩ := hrel
    obtain ⟨W2, rfl⟩ : ∃ W2, W2 = wr := ⟨_, rfl⟩
    by_cases hjl : j < n
    · obtain ⟨m, hm⟩ : ∃ m, m = Nat.min j (n - j) := ⟨_, rfl⟩
      have hmb : m ≤ j ∧ m ≤ n - j ∧ 1 ≤ m := by simp only [Nat.min_def] at hm; split at hm <;> omega
      have hcsl : (List.replicate m (Value.int .i64 a)).length = Nat.min j (n - j) := by simpa using hm
      have hsp := splice_at (L := L) (cs := List.replicate m (.int .i64 a)) (off := j) (by rw [hL.out.1]; simp; omega)
      have hL2 := Lib.hid (show (splice L j (List.replicate m (.int .i64 a))).length = n ∧ ∀ i, i < j + m → (splice L j (List.replicate m (.int .i64 a)))[i]? = some (.int .i64 a) from
        ⟨by rw [hsp.1]; exact hL.out.1, fun i hi => by
          rw [hsp.2 i (by simp; omega)]
          split
          · exact hL.out.2 i (by assumption)
          · rw [List.getElem?_replicate, if_pos (by omega)]⟩)
      have Hcsl := Lib.hid hcsl
      have hcell : ∀ i, i < j → W2.cell? ⟨w.heap.size, i, none⟩ = some (.int .i64 a) := fun i hi => by
        rw [cell_of_row W2 w.heap.size i L.toArray 2 (0, 0) hg.out]
        simpa using hL.out.2 i hi
      have Hcell := Lib.hid (show ∀ (i : Nat) v, (List.replicate m (Value.int .i64 a))[i]? = some v → (W2.drew).cell? ((⟨w.heap.size, 0, none⟩ : Addr).add i) = some v from fun i v hi => by
        have him : i < m := by
          have := (List.getElem?_eq_some_iff.1 hi).1
          simpa using this
        rw [List.getElem?_replicate, if_pos him] at hi
        simp only [Option.some.injEq] at hi
        subst hi
        have := hcell i (by omega)
        have e : ((⟨w.heap.size, 0, none⟩ : Addr).add i) = ⟨w.heap.size, i, none⟩ := by unfold Addr.add; split <;> simp_all
        rw [e]
        exact this)
      have hml : (List.replicate m (Value.int .i64 a)).length = m := by simp
      have Hml := Lib.hid hml
      have Hgd := Lib.hid (show W2.drew.heap[w.heap.size]? = some (.cells L.toArray 2 (0, 0)) from hg.out)
      have hbd := Lib.hid hb.out.drew
      clear hsp hcsl hm hcell hml
      go_wp2
      refine wp_region_float 7 (fun _ => True) (by kernel_rfl) (by kernel_rfl) trivial ?_
      intro _
      simp only [List.take_succ_cons, List.take_zero, List.drop_succ_cons, List.drop_zero]
      iterate 7 (refine wpReads_cons _ (by rfl) (by intro w' hSw; go_simp; try (with_reducible rfl)) ?_; try simp only [Act.put, List.setIfInBounds_toArray, List.set_cons_zero, List.set_cons_succ])
      refine wpReads_nil ?_
      refine wpTail_cons fun K hK => ?_
      rw [if_neg (show ¬ n = j by omega)]
      with_reducible refine step_copy_splice rfl _ _ 22 22 rfl 2 Try.underlying22 (by kernel_rfl) (some ⟨w.heap.size, j, none⟩) (some ⟨w.heap.size, 0, none⟩) (n - j) (n - j) j n rfl rfl w.heap.size j L 2 Hgd.out (List.replicate m (.int .i64 a)) Hcsl.out (fun _ => ⟨rfl, ⟨w.heap.size, 0, none⟩, rfl, Hcell.out⟩) (by rw [Hml.out, hL.out.1]; omega) (by simp [Value.oneCell']) w.heap.size w hbd.out (Nat.le_refl _) ?_
      intro w5 hg5 hb5
      have Hg5 := Lib.hid hg5.out
      have Hb5 := Lib.hid hb5
      clear hg5 hb5
      rw [Hml.out]
      refine hK.out _ _ trivial ?_
      clear hK K
      try simp only [Act.put, List.setIfInBounds_toArray, List.set_cons_zero, List.set_cons_succ]
      refine wpTail_cons fun K hK => ?_
      go_simp
      refine hK.out _ _ trivial ?_
      clear hK K
      try simp only [Act.put, List.setIfInBounds_toArray, List.set_cons_zero, List.set_cons_succ]
      refine wpTail_one ?_
      have hwj : IntKind.i64.wrap ((j : Int) + (m : Int)) = ((j + m : Nat) : Int) := by rw [IntWalk.i64_in _ (by omega)]; omega
      go_wp2_with fail
      refine NoPanic.normal ?_
      go_wp2
      go_roundw
      case rel => exact ⟨j + m, _, by omega, by omega, by first | rfl | (rw [hwj]), hL2, Hg5, Hb5⟩
      case measure => (try rw [hwj]); simp [intOf]; omega
    · obtain ⟨hjn2⟩ : Nonempty (j = n) := ⟨by omega⟩
      have hLr := Lib.hid (show L = (List.replicate n a).map (fun z => Value.int .i64 z) from by
        refine List.ext_getElem? fun i => ?_
        by_cases hi : i < n
        · rw [hL.out.2 i (by omega)]; simp [hi]
        · rw [List.getElem?_eq_none (by rw [hL.out.1]; omega), List.getElem?_eq_none (by simp; omega)])
      have hfr := Lib.hid (show Fresh OI w W2 (.slice (some ⟨w.heap.size, 0, none⟩) n n) (List.replicate n a) from by
        have h := hg.out
        rw [hLr.out] at h
        have ho : OI W2 (.slice (some ⟨w.heap.size, 0, none⟩) (List.replicate n a).length n) (List.replicate n a) [w.heap.size] := .inr ⟨w.heap.size, n, _, List.replicate (List.replicate n a).length [], rfl, h, by simp, by simp, by unfold maxLen; omega, by simp, by simp, by simp, fun i hi => ⟨.int .i64 (nth (List.replicate n a) i), by have h5 : i < n := (by simpa using hi); simp [nth_eq hi, h5], rfl, by rw [nth_replicate hi]⟩⟩
        simp only [List.length_replicate] at ho
        exact ⟨_, ho, by simp, hb.out⟩)
      clear hL hg hLr hjn2
      go_wp2
      go_ret
      exact ⟨_, rfl, hfr.out⟩
end Go.Proofs.Ytnpkanlieflbiaa
/- The least distance: one number of the table before, walked. -/
namespace Go.Proofs.Ytnpkanlieflbiaa
open Go.RowKit
set_option linter.unusedVariables false

/-- What is found so far: no more than far, no more than what is done at equal symbols; and it is met. -/
structure StI (b : Nat) (f : Nat → Nat → Nat) (p q : Nat → Nat) (D : Nat) (out : Nat) : Prop where
  cap : out ≤ farN
  eqs : ∀ d, d < D → out ≤ f (p d) (q d)
  met : out = farN ∨ (∃ d, d < b ∧ out = f (p d) (q d)) ∨ ∃ d e, d < b ∧ e < b ∧ out = f (p d) (q e) + 1
section sti
variable {b D out : Nat} {f : Nat → Nat → Nat} {p q : Nat → Nat}
theorem StI.start (b : Nat) (f : Nat → Nat → Nat) (p q : Nat → Nat) : StI b f p q 0 farN := ⟨Nat.le_refl _, fun _ h => absurd h (Nat.not_lt_zero _), .inl rfl⟩
theorem StI.eq (h : StI b f p q D out) (hD : D < b) : StI b f p q (D + 1) (min out (f (p D) (q D))) := by
  refine ⟨by have := h.cap; omega, fun d hd => ?_, ?_⟩
  · by_cases e : d = D
    · subst e; omega
    · have := h.eqs d (by omega); omega
  · rcases Nat.le_total out (f (p D) (q D)) with h1 | h1
    · rw [Nat.min_eq_left h1]; exact h.met
    · rw [Nat.min_eq_right h1]; exact .inr (.inl ⟨D, hD, rfl⟩)
theorem StI.two (h : StI b f p q D out) {u v : Nat} (hu : ∃ d, d < b ∧ u = p d) (hv : ∃ e, e < b ∧ v = q e) : StI b f p q D (min out (f u v + 1)) := by
  refine ⟨by have := h.cap; omega, fun d hd => by have := h.eqs d hd; omega, ?_⟩
  rcases Nat.le_total out (f u v + 1) with h1 | h1
  · rw [Nat.min_eq_left h1]; exact h.met
  · rw [Nat.min_eq_right h1]
    obtain ⟨d, hd, rfl⟩ := hu
    obtain ⟨e, he, rfl⟩ := hv
    exact .inr (.inr ⟨d, e, hd, he, rfl⟩)
theorem StI.done (h : StI b f p q b out) (h2 : ∀ d e, d < b → e < b → out ≤ f (p d) (q e) + 1) : out = minN farN b fun d => minN farN b fun e => f (p d) (q e) + if d = e then 0 else 1 := by
  refine Nat.le_antisymm ?_ ?_
  · rcases minN_get farN b fun d => minN farN b fun e => f (p d) (q e) + if d = e then 0 else 1 with h1 | ⟨d, hd, h1⟩
    · rw [h1]; exact h.cap
    · rw [h1]
      rcases minN_get farN b fun e => f (p d) (q e) + if d = e then 0 else 1 with h3 | ⟨e, he, h3⟩
      · rw [h3]; exact h.cap
      · rw [h3]
        by_cases e1 : d = e
        · subst e1
          rw [if_pos rfl]
          exact h.eqs d hd
        · rw [if_neg e1]
          exact h2 d e hd he
  · rcases h.met with h1 | ⟨d, hd, h1⟩ | ⟨d, e, hd, he, h1⟩
    · rw [h1]; exact minN_cap _ _ _
    · rw [h1]
      refine Nat.le_trans (minN_le hd) (Nat.le_trans (minN_le hd) ?_)
      show f (p d) (q d) + (if d = d then 0 else 1) ≤ _
      rw [if_pos rfl]; exact Nat.le_refl _
    · rw [h1]
      refine Nat.le_trans (minN_le hd) (Nat.le_trans (minN_le he) ?_)
      show f (p d) (q e) + (if d = e then 0 else 1) ≤ _
      split <;> omega
end sti

theorem grid_at {P : Nat → Prop} {w : World} {b n c : Nat} {T : List (List Int)} {f : Nat → Nat → Nat} (h : RdII P w (.slice (some ⟨b, 0, none⟩) n c) T) (hG : Grid n n T f) {i j : Nat} (hi : i < n) (hj : j < n) :
    ∃ b2 o2 c2, w.cell? ⟨b, i, none⟩ = some (.slice (some ⟨b2, o2, none⟩) n c2) ∧ (n ≤ c2 ∧ c2 ≤ 9223372036854775807) ∧ w.cell? ⟨b2, o2 + j, none⟩ = some (.int .i64 (f i j)) := by
  obtain ⟨hrl, hrv⟩ := hG.2 i hi
  have hv := hrv j hj
  obtain ⟨b', o', u, e, hP, hc, hu⟩ := Rd.elim h i (by rw [hG.1]; exact hi)
  simp only [Option.some.injEq, Addr.mk.injEq, and_true] at e
  obtain ⟨rfl, rfl⟩ := e
  obtain ⟨a2, c2, rfl, g1, g2, hrd⟩ := hu
  obtain ⟨b2, o2, u2, rfl, hP2, hc2, rfl⟩ := hrd j (by omega)
  rw [hrl] at hc g1
  rw [hv] at hc2
  rw [Nat.zero_add] at hc
  unfold maxLen at g2
  exact ⟨b2, o2, c2, hc, ⟨g1, g2⟩, hc2⟩

set_option maxHeartbeats 3200000 in
set_option maxRecDepth 100000 in
theorem implStep {B bx : Nat} {x : Chn} {w : World} (h : BoxC (· < B) w bx x) (hB : B ≤ w.heap.size) (hbx : bx < w.heap.size) (hv : VC x) (k s t : Nat) (hk : k < x.n) (hs : s < x.S) (ht : t < x.S)
    {g c : Nat} {T : List (List Int)} {f : Nat → Nat → Nat} {P : Nat → Prop} (hT : RdII P w (.slice (some ⟨g, 0, none⟩) x.S c) T) (hc : x.S ≤ c ∧ c ≤ maxLen) (hG : Grid x.S x.S T f) (hf : ∀ a b, f a b ≤ farN) :
    Calls Try.prog 161 #[.pointer (some ⟨bx, 0, none⟩), .int .i64 k, .int .i64 s, .int .i64 t, .slice (some ⟨g, 0, none⟩) x.S c] w fun e w' =>
      e = .returned (.int .i64 ((minN farN x.b fun d => minN farN x.b fun e => f (nxt x k s d) (nxt x k t e) + if d = e then 0 else 1 : Nat) : Int)) ∧ Below w.heap.size w w' := by
  have hnat := hv.nat
  have H := Lib.hid h
  have Hv := Lib.hid hv; clear hv
  obtain ⟨a, c0, a', c', g0, g1, g2, g3, g4, g5, hu, hpp, ⟨h1, h2⟩, h3, h4⟩ := h.cells
  obtain ⟨NS, hNS⟩ : ∃ n : Nat, n = x.S := ⟨_, rfl⟩
  obtain ⟨NB, hNB⟩ : ∃ n : Nat, n = x.b := ⟨_, rfl⟩
  rw [show x.base = (NB : Int) by have := Hv.out.base; rw [hNB]; show x.base = (x.base.toNat : Int); omega] at g0
  have hps := Lib.hid (show ∀ d, d < NB → nxt x k s d < NS from fun d hd => by rw [hNS]; exact (Hv.out.cellN hk hs (by rw [← hNB]; exact hd)).2)
  have hpt := Lib.hid (show ∀ d, d < NB → nxt x k t d < NS from fun d hd => by rw [hNS]; exact (Hv.out.cellN hk ht (by rw [← hNB]; exact hd)).2)
  have hrs := Lib.hid (fun (W : World) (hb : Below w.heap.size w W) => implReached (H.out.below hb hB hbx) (Nat.le_trans hB hb.size) Hv.out k s hk hs)
  have hrt := Lib.hid (fun (W : World) (hb : Below w.heap.size w W) => implReached (H.out.below hb hB hbx) (Nat.le_trans hB hb.size) Hv.out k t hk ht)
  have hnx := Lib.hid (fun (W : World) (hb : Below w.heap.size w W) (m d : Nat) (hd : d < NB) => implNext ((H.out.below hb hB hbx).draws m) Hv.out k s d hk hs (by rw [← hNB]; exact hd))
  have hny := Lib.hid (fun (W : World) (hb : Below w.heap.size w W) (m d : Nat) (hd : d < NB) => implNext ((H.out.below hb hB hbx).draws m) Hv.out k t d hk ht (by rw [← hNB]; exact hd))
  rw [← hNS, ← hNB] at hnat
  rw [← hNS] at hT hG hc ⊢
  have HG := Lib.hid (fun (W : World) (hb : Below w.heap.size w W) (i j : Nat) (hi : i < NS) (hj : j < NS) => (show ∃ b2 o2 c2, W.cell? ⟨g, i, none⟩ = some (.slice (some ⟨b2, o2, none⟩) NS c2) ∧ (NS ≤ c2 ∧ c2 ≤ 9223372036854775807) ∧ W.cell? ⟨b2, o2 + j, none⟩ = some (.int .i64 (f i j)) from by
    obtain ⟨b2, o2, c2, e1, e2, e3⟩ := grid_at hT hG hi hj
    exact ⟨b2, o2, c2, (hb.cell (p := ⟨g, i, none⟩) (cell_lt e1)).trans e1, e2, (hb.cell (p := ⟨b2, o2 + j, none⟩) (cell_lt e3)).trans e3⟩))
  have Hf := Lib.hid (show ∀ a b, f a b ≤ 1099511627776 from hf)
  rw [← hNB]
  rw [← hNB] at hrs hrt
  have HNB := Lib.hid hNB
  have Hk := Lib.hid hk; have Hs := Lib.hid hs; have Ht := Lib.hid ht
  clear hu hpp h g1 g2 g3 g4 g5 hT hG hf hNS hNB hB H hk hs ht
  unfold maxLen at hc
  obtain ⟨p, hp⟩ : ∃ p : Nat → Nat, p = nxt x k s := ⟨_, rfl⟩
  obtain ⟨q, hq⟩ : ∃ q : Nat → Nat, q = nxt x k t := ⟨_, rfl⟩
  have hst := Lib.hid (show ∀ out, StI NB f p q NB out → (∀ d e, d < NB → e < NB → out ≤ f (p d) (q e) + 1) → out = minN farN NB fun d => minN farN NB fun e => f (nxt x k s d) (nxt x k t e) + if d = e then 0 else 1 from fun out h1 h2 => by subst hp hq; exact h1.done h2)
  generalize (minN farN NB fun d => minN farN NB fun e => f (nxt x k s d) (nxt x k t e) + if d = e then 0 else 1) = RES at *
  rw [← hp] at hps hrs hnx
  rw [← hq] at hpt hrt hny
  clear hp hq
  go_enter Try.func161, Try.ntmps161
  go_wp2
  go_loopw [11, 21] (fun ov iv wr => ∃ d out : Nat, d ≤ NB ∧ iv = .int .i64 d ∧ ov = .int .i64 out ∧ out ≤ 1099511627776 ∧ Hid (StI NB f p q d out) ∧ Hid (Below w.heap.size w wr)) (fun _ iv _ => NB - (intOf iv).toNat)
  case atStart => exact ⟨0, 1099511627776, Nat.zero_le _, rfl, rfl, Nat.le_refl _, Lib.hid (StI.start _ _ _ _), Lib.hid (Below.refl _ _)⟩
  case round =>
    obtain ⟨d, out, hd, rfl, rfl, ho, hI, hb⟩ := hrel
    obtain ⟨W2, rfl⟩ : ∃ W2, W2 = wr := ⟨_, rfl⟩
    by_cases hdl : d < NB
    · have hx1 := hps.out d hdl
      have hy1 := hpt.out d hdl
      obtain ⟨b2, o2, c2, e1, e2, e3⟩ := HG.out W2 hb.out _ _ hx1 hy1
      have hcx := Lib.hid (fun m => hnx.out W2 hb.out m d hdl)
      have hcy := Lib.hid (fun m => hny.out W2 hb.out m d hdl)
      have hI2 := Lib.hid (hI.out.eq hdl)
      have hV := Hf.out (p d) (q d)
      clear hI
      generalize f (p d) (q d) = V at *
      generalize hP : p d = P at *
      have HP := Lib.hid hP; clear hP
      generalize hQ : q d = Q at *
      have HQ := Lib.hid hQ; clear hQ
      go_wp2_with fail
      refine wp_region_quiet_lit (by kernel_rfl) (by kernel_rfl) ?_
      repeat (go_big_quiet_step (first | with_reducible exact quiet_draws (hcx.out _) | with_reducible exact quiet_draws (hcy.out _)))
      refine wpQuiet_nil ?_
      rintro _ ⟨nq, rfl⟩
      go_wp2
      go_roundw
      case rel => exact ⟨d + 1, _, by omega, by go_num, by go_num, by omega, hI2, Lib.hid (hb.out.trans ((bel_draws rfl).mono hb.out.size))⟩
      case measure => simp [intOf]; omega
    · obtain ⟨hdn⟩ : Nonempty (d = NB) := ⟨by omega⟩
      rw [hdn] at hI
      have hcr := Lib.hid (hrs.out W2 hb.out)
      have hbd := hnat.1
      clear hdn
      go_wp2_with fail
      refine (Calls.mono hcr.out ?_)
      rintro e w3 ⟨v, LA, rfl, hfr, hlA, hmA⟩
      have hA0 : (p 0 : Int) ∈ LA := (hmA _).2 ⟨0, by omega, rfl⟩
      obtain ⟨ga, ca, rfl⟩ := hfr.shape (List.length_pos_of_mem hA0)
      have HA := Lib.hid (show ∀ i, i < LA.length → ∃ u : Nat, u < NS ∧ nth LA i = (u : Int) ∧ (∃ d, d < NB ∧ u = p d) ∧ ∀ W, Below w3.heap.size w3 W → W.cell? ⟨ga, i, none⟩ = some (.int .i64 u) from fun i hi => by
        obtain ⟨d, hd1, hd2⟩ := (hmA _).1 (nth_mem hi)
        refine ⟨p d, hps.out d hd1, hd2, ⟨d, hd1, rfl⟩, fun W hW => ?_⟩
        have hc1 := hfr.choose_spec.1.cell hi
        rw [hd2] at hc1
        exact (hW.cell (p := ⟨ga, i, none⟩) (cell_lt hc1)).trans hc1)
      have HAm := Lib.hid (show ∀ d, d < NB → ∃ i, i < LA.length ∧ nth LA i = (p d : Int) from fun d hd => by
        obtain ⟨i, hi, e⟩ := List.mem_iff_getElem.1 ((hmA _).2 ⟨d, hd, rfl⟩)
        exact ⟨i, hi, by rw [nth_eq hi]; exact e⟩)
      have hca := hfr.len2
      unfold maxLen at hca
      have Hb3 := Lib.hid (hb.out.trans (hfr.bel.mono hb.out.size))
      have hI3 := Lib.hid hI.out
      clear hfr hmA hA0 hb hcr
      obtain ⟨nA, hnA⟩ : ∃ n, n = LA.length := ⟨_, rfl⟩
      rw [← hnA] at HA HAm hca hlA ⊢
      clear hnA
      go_wp2
      go_loopw [11, 47] (fun ov iv wr => ∃ i out : Nat, i ≤ nA ∧ iv = .int .i64 i ∧ ov = .int .i64 out ∧ out ≤ 1099511627776 ∧ Hid (StI NB f p q NB out) ∧ Hid (∀ i', i' < i → ∀ e, e < NB → ∀ u : Nat, nth LA i' = u → out ≤ f u (q e) + 1) ∧ Hid (Below w3.heap.size w3 wr)) (fun _ iv _ => nA - (intOf iv).toNat)
      case atStart => exact ⟨0, out, Nat.zero_le _, rfl, rfl, ho, hI3, Lib.hid (fun i' h => absurd h (Nat.not_lt_zero _)), Lib.hid (Below.refl _ _)⟩
      case round =>
        clear hI3 hI ho
        obtain ⟨i, out, hi, rfl, rfl, ho, hI, hT, hb⟩ := hrel
        obtain ⟨W4, rfl⟩ : ∃ W4, W4 = wr := ⟨_, rfl⟩
        by_cases hil : i < nA
        · obtain ⟨u, hu, hnu, hud, hcu⟩ := HA.out i hil
          have cu := hcu W4 hb.out
          have Hb4 := Lib.hid (Hb3.out.trans (hb.out.mono Hb3.out.size))
          have hct := Lib.hid (hrt.out W4 Hb4.out)
          have Hnu := Lib.hid hnu
          have Hud := Lib.hid hud
          clear hcu hnu hud
          go_wp2_with fail
          refine (Calls.mono hct.out ?_)
          rintro e w5 ⟨v, LB, rfl, hfr, hlB, hmB⟩
          have hB0 : (q 0 : Int) ∈ LB := (hmB _).2 ⟨0, by omega, rfl⟩
          obtain ⟨gb, cb, rfl⟩ := hfr.shape (List.length_pos_of_mem hB0)
          have HB2 := Lib.hid (show ∀ j, j < LB.length → ∃ y : Nat, y < NS ∧ nth LB j = (y : Int) ∧ (∃ d, d < NB ∧ y = q d) ∧ ∀ W, Below w5.heap.size w5 W → W.cell? ⟨gb, j, none⟩ = some (.int .i64 y) from fun j hj => by
            obtain ⟨d, hd1, hd2⟩ := (hmB _).1 (nth_mem hj)
            refine ⟨q d, hpt.out d hd1, hd2, ⟨d, hd1, rfl⟩, fun W hW => ?_⟩
            have hc1 := hfr.choose_spec.1.cell hj
            rw [hd2] at hc1
            exact (hW.cell (p := ⟨gb, j, none⟩) (cell_lt hc1)).trans hc1)
          have HBm := Lib.hid (show ∀ d, d < NB → ∃ i, i < LB.length ∧ nth LB i = (q d : Int) from fun d hd => by
            obtain ⟨i, hi, e⟩ := List.mem_iff_getElem.1 ((hmB _).2 ⟨d, hd, rfl⟩)
            exact ⟨i, hi, by rw [nth_eq hi]; exact e⟩)
          have hcb := hfr.len2
          unfold maxLen at hcb
          have Hb5 := Lib.hid (hb.out.trans (hfr.bel.mono hb.out.size))
          have hb5s := Lib.hid hfr.bel
          clear hfr hmB hB0 hb hct Hb4 cu
          obtain ⟨nB, hnB⟩ : ∃ n, n = LB.length := ⟨_, rfl⟩
          rw [← hnB] at HB2 HBm hcb hlB ⊢
          clear hnB
          go_wp2
          go_loopw [11, 56] (fun ov iv wr => ∃ j out2 : Nat, j ≤ nB ∧ iv = .int .i64 j ∧ ov = .int .i64 out2 ∧ out2 ≤ out ∧ Hid (StI NB f p q NB out2) ∧ Hid (∀ j', j' < j → ∀ y : Nat, nth LB j' = y → out2 ≤ f u y + 1) ∧ Hid (Below w5.heap.size w5 wr)) (fun _ iv _ => nB - (intOf iv).toNat)
          case atStart => exact ⟨0, out, Nat.zero_le _, rfl, rfl, Nat.le_refl _, hI, Lib.hid (fun i' h => absurd h (Nat.not_lt_zero _)), Lib.hid (Below.refl _ _)⟩
          case round =>
            clear hI
            obtain ⟨j, out2, hj, rfl, rfl, ho2, hI, hT2, hb⟩ := hrel
            obtain ⟨W6, rfl⟩ : ∃ W6, W6 = wr := ⟨_, rfl⟩
            by_cases hjl : j < nB
            · obtain ⟨y, hy, hny2, hyd, hcy2⟩ := HB2.out j hjl
              have cy := hcy2 W6 hb.out
              have Hb6 := Lib.hid (Hb3.out.trans ((Hb5.out.trans (hb.out.mono Hb5.out.size)).mono Hb3.out.size))
              obtain ⟨b2, o2, c2, e1, e2, e3⟩ := HG.out W6 Hb6.out _ _ hu hy
              have hV := Hf.out u y
              have hI2 := Lib.hid (hI.out.two Hud.out hyd)
              have hT3 := Lib.hid (show ∀ j', j' < j + 1 → ∀ z : Nat, nth LB j' = z → min out2 (f u y + 1) ≤ f u z + 1 from fun j' hj' z hz => by
                rcases Nat.lt_succ_iff_lt_or_eq.1 hj' with h | rfl
                · have := hT2.out j' h z hz; omega
                · rw [hny2] at hz
                  obtain rfl : y = z := by omega
                  omega)
              clear hI hT2 hcy2 hny2 hyd
              generalize f u y = V at *
              go_wp2
              go_roundw
              case rel => exact ⟨j + 1, min out2 (V + 1), by omega, by go_num, by go_num, by omega, hI2, hT3, hb⟩
              case measure => simp [intOf]; omega
            · obtain ⟨hjn⟩ : Nonempty (j = nB) := ⟨by omega⟩
              have hT4 := Lib.hid (show ∀ i', i' < i + 1 → ∀ e, e < NB → ∀ z : Nat, nth LA i' = z → out2 ≤ f z (q e) + 1 from fun i' hi' e he z hz => by
                rcases Nat.lt_succ_iff_lt_or_eq.1 hi' with h | rfl
                · have := hT.out i' h e he z hz; omega
                · rw [Hnu.out] at hz
                  obtain rfl : u = z := by omega
                  obtain ⟨j', hj1, hj2⟩ := HBm.out e he
                  exact hT2.out j' (by omega) _ hj2)
              have Hb6 := Lib.hid (Hb5.out.trans (hb.out.mono Hb5.out.size))
              clear hjn hT2
              go_wp2
              go_roundw
              case rel => exact ⟨i + 1, out2, by omega, by go_num, rfl, by omega, hI, hT4, Hb6⟩
              case measure => simp [intOf]; omega
        · obtain ⟨hin⟩ : Nonempty (i = nA) := ⟨by omega⟩
          have hres := Lib.hid (hst.out out hI.out (fun d e hd1 he1 => by
            obtain ⟨i', hi1, hi2⟩ := HAm.out d hd1
            exact hT.out i' (by omega) e he1 _ hi2))
          have Hbe := Lib.hid (Hb3.out.trans (hb.out.mono Hb3.out.size))
          clear hin
          go_wp2
          go_ret
          exact ⟨by rw [hres.out]; rfl, Hbe.out⟩
end Go.Proofs.Ytnpkanlieflbiaa
