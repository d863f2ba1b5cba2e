/- The chain of one table at all places, walked. -/
import Derived.Test.YtnpkanlieflbiaaT1
import Derived.Test.YtnpkanlieflbiaaO2
import Derived.Test.YtnpkanlieflbiaaD2
import Derived.Test.YtnpkanlieflbiaaF2
namespace Go.Proofs.Ytnpkanlieflbiaa
open Go.RowKit
set_option linter.unusedVariables false

set_option maxHeartbeats 800000 in
set_option maxRecDepth 100000 in
theorem implCloneTable {B : Nat} {v : Value} {t : List (List Int)} {w : World} (h : RdII (· < B) w v t) (hB : B ≤ w.heap.size) (hn : szL List.length t ≤ 1048576) :
    Calls Try.prog 99 #[v] w fun e w' => ∃ v', e = .returned v' ∧ Fresh OII w w' v' t := by
  have Hr := Lib.hid h
  obtain ⟨a, c, rfl, h1, h2⟩ := h.isSlice
  clear h
  unfold maxLen at h2
  have hl : t.length ≤ 1048576 := by have := szL_len List.length t; omega
  have Hrow := Lib.hid (show ∀ x, x < t.length → (nth t x).length ≤ 1048576 from fun x hx => by have := szL_nth List.length hx; omega)
  clear hn
  go_enter Try.func99, Try.ntmps99
  go_wp2
  go_loopw [3, 9] (fun ov iv wr => ∃ k : Nat, k ≤ t.length ∧ iv = .int .i64 k ∧ Hid (Fresh OII w wr ov (t.take k))) (fun _ iv _ => t.length - (intOf iv).toNat)
  case atStart => exact ⟨0, Nat.zero_le _, rfl, Lib.hid (Fresh.empty (E := 22) (R := OI) (Below.refl _ _))⟩
  case round =>
    obtain ⟨k, hk, rfl, hf⟩ := hrel
    obtain ⟨W2, rfl⟩ : ∃ W2, W2 = wr := ⟨_, rfl⟩
    by_cases hlt : k < t.length
    · have hb2 := hf.out.bel.size
      obtain ⟨b, o, a1, c1, rfl, hP, hc, g1, g2, hr⟩ := Rd.row (RdII.ok.keep Hr.out (w' := W2) fun j hj => hf.out.bel.block j (by omega)) hlt
      have Hcl := Lib.hid (slClone hr (fun j hj => by have : j < B := hj; omega) (Hrow.out k hlt))
      have hs := Lib.hid (take_nth hlt)
      have hlk := Lib.hid (show (t.take k).length ≤ 1048576 by simp; omega)
      obtain ⟨a0, n0, c0, rfl⟩ := hf.out.choose_spec.1.isSlice
      unfold maxLen at g2
      clear hr
      go_wp2_with fail
      refine (Calls.mono Hcl.out ?_)
      rintro e w5 ⟨v5, rfl, hf5⟩
      obtain ⟨S, T, p1, p2, p3, p4⟩ := pushRow OI.ok hf.out hf5
      have Hp1 := Lib.hid p1
      have Hp2 := Lib.hid p2
      have Hp3 := Lib.hid p3
      have Hp4 := Lib.hid p4
      obtain ⟨a3, n3, c3, rfl⟩ := p2.isSlice
      clear p1 p2 p3 p4 hf5
      go_wp2_with (at_builtin; refine wpList_push rfl _ _ 38 rfl OI.ok Try.underlying38 infoSl' rfl Hp1.out Hp2.out Hp3.out (by have := hlk.out; omega) (by have := hlk.out; unfold maxLen; omega) rfl rfl ?_; intro v1 w8 S8 hown1 honly1 hS8; have Hf5 := Lib.hid (Hp4.out v1 w8 S8 hown1 honly1 hS8); clear hown1 honly1 hS8)
      go_roundw
      case rel => exact ⟨k + 1, by omega, by go_num, by rw [hs.out]; exact Hf5⟩
      case measure => simp [intOf]; omega
    · obtain ⟨hkn⟩ : Nonempty (k = t.length) := ⟨by omega⟩
      have hx : t.take k = t := by rw [hkn, List.take_length]
      rw [hx] at hf
      clear hkn
      go_wp2
      go_ret
      exact ⟨_, rfl, hf.out⟩

theorem specOwn {P : Nat → Prop} {v : Value} {xs : List Int} {w : World} (h : RdI P w v xs) (hP : ∀ k, P k → k < w.heap.size) (hn : xs.length ≤ 1048576) :
    Calls Try.prog 146 #[v] w fun e w' => ∃ v, e = .returned v ∧ Fresh OI w w' v xs := by
  have h0 := Lib.hid h
  obtain ⟨a, c, rfl, h1, h2, hrd⟩ := h
  clear hrd
  have hsrc : RdI P (w.alloc (.cells #[] 2)) (.slice a xs.length c) xs := RdI.ok.keep h0.out fun k hk => Below.heap_alloc w _ k (hP k hk)
  have Hsrc := Lib.hid hsrc; clear hsrc
  have hf0 : Fresh OI w (w.alloc (.cells #[] 2)) (.slice (some ⟨w.heap.size, 0, none⟩) 0 0) [] := Fresh.empty (Below.refl _ _)
  have Hf0 := Lib.hid hf0; clear hf0
  go_enter Try.func146, Try.ntmps146
  go_wp2_with (at_builtin; refine wpList_appendF rfl (.tmp 3) (.tmp 4) 22 rfl (f := fI) (fun _ => rfl) Try.underlying22 infoI64 rfl Hf0.out Hsrc.out (by simp; omega) (by simp; unfold maxLen; omega) rfl rfl ?_; intro v1 w1 hf1)
  go_ret
  exact ⟨_, rfl, by rw [List.nil_append] at hf1; exact hf1⟩

/-- The chain of one table in the making. -/
structure EvS (w : World) (c0 c1 c2 c3 : Int) (NP : Nat) (T : List (List Int)) (tv : Value) (S : List Nat) (wr : World) : Prop where
  zero : wr.heap[w.heap.size]? = some (.cells #[.int .i64 0, .int .i64 0, .int .i64 0, .int .i64 0, .slice none 0 0, .slice none 0 0] 28 (0, 0))
  out : wr.heap[w.heap.size + 1 + 1]? = some (.cells #[tv] 38 (0, 0))
  pls : wr.heap[w.heap.size + 1 + 1 + 1]? = some (.cells (madeCells #[fI 0] NP) 2 (0, 0))
  box : wr.heap[w.heap.size + 1 + 1 + 1 + 1]? = some (.cells #[.int .i64 c0, .int .i64 c1, .int .i64 c2, .int .i64 c3, .slice (some ⟨w.heap.size + 1 + 1, 0, none⟩) 1 1, .slice (some ⟨w.heap.size + 1 + 1 + 1, 0, none⟩) NP NP] 28 (0, 0))
  tab : OII wr tv T S
  b : ∀ j ∈ S, j = w.heap.size + 1 ∨ w.heap.size + 1 + 1 + 1 + 1 < j
  bel : Below w.heap.size w wr
section evs
variable {w : World} {c0 c1 c2 c3 : Int} {NP : Nat} {T : List (List Int)} {tv : Value} {S : List Nat} {wr : World}
theorem EvS.size (h : EvS w c0 c1 c2 c3 NP T tv S wr) : w.heap.size + 1 + 1 + 1 + 1 < wr.heap.size := heap_lt h.box
theorem EvS.keep (h : EvS w c0 c1 c2 c3 NP T tv S wr) {w' : World} (hb : Below wr.heap.size wr w') : EvS w c0 c1 c2 c3 NP T tv S w' :=
  ⟨below_heap hb h.zero, below_heap hb h.out, below_heap hb h.pls, below_heap hb h.box, OII.ok.keep h.tab fun k hk => hb.block k (OII.ok.lt h.tab k hk), h.b, h.bel.trans (hb.mono h.bel.size)⟩
theorem EvS.push (h : EvS w c0 c1 c2 c3 NP T tv S wr) {w5 : World} {v1 : Value} {T' : List (List Int)} {T7 S' : List Nat} (hT7 : ∀ j ∈ T7, w.heap.size + 1 + 1 + 1 + 1 < j) (ho : OII w5 v1 T' S') (hn : Only S wr w5) (hS : ∀ k ∈ S', k ∈ S ∨ k ∈ T7 ∨ wr.heap.size ≤ k) :
    w5.heap[w.heap.size + 1 + 1]? = some (.cells #[tv] 38 (0, 0)) ∧ EvS w c0 c1 c2 c3 NP T' v1 S' (w5.setCell ⟨w.heap.size + 1 + 1, 0, none⟩ v1) := by
  have hz := h.size
  have hb : ∀ k ∈ S', k = w.heap.size + 1 ∨ w.heap.size + 1 + 1 + 1 + 1 < k := fun k hk => by
    rcases hS k hk with e | e | e
    · exact h.b k e
    · exact .inr (hT7 k e)
    · omega
  have hk : ∀ {k o}, wr.heap[k]? = some o → (k = w.heap.size ∨ k = w.heap.size + 1 + 1 ∨ k = w.heap.size + 1 + 1 + 1 ∨ k = w.heap.size + 1 + 1 + 1 + 1) → w5.heap[k]? = some o := fun h1 h2 => Only.heap hn h1 fun hm => by have := h.b _ hm; omega
  have ho' := hk h.out (by omega)
  have e2 := heap_setCell_same w5 (w.heap.size + 1 + 1) 0 _ _ v1 ho'
  have hset : ∀ k, k ≠ w.heap.size + 1 + 1 → (w5.setCell ⟨w.heap.size + 1 + 1, 0, none⟩ v1).heap[k]? = w5.heap[k]? := fun k hk => heap_setCell_other w5 _ k v1 (by simpa using hk)
  refine ⟨ho', (hset _ (by omega)).trans (hk h.zero (by omega)), by rw [e2]; rfl, (hset _ (by omega)).trans (hk h.pls (by omega)), (hset _ (by omega)).trans (hk h.box (by omega)), OII.ok.keep ho fun k hk => hset k (by have := hb k hk; omega), hb, ?_⟩
  exact (below_only h.bel hn (by omega) fun j hj => by have := h.b j hj; omega).setCell (by show _ ≤ w.heap.size + 1 + 1; omega) _
theorem EvS.base (h : EvS w c0 c1 c2 c3 NP T tv S wr) (z : Int) : EvS w z c1 c2 c3 NP T tv S (wr.setCell ⟨w.heap.size + 1 + 1 + 1 + 1, 0, none⟩ (.int .i64 z)) := by
  have hset : ∀ k, k ≠ w.heap.size + 1 + 1 + 1 + 1 → (wr.setCell ⟨w.heap.size + 1 + 1 + 1 + 1, 0, none⟩ (.int .i64 z)).heap[k]? = wr.heap[k]? := fun k hk => heap_setCell_other wr _ k _ (by simpa using hk)
  have e2 := heap_setCell_same wr (w.heap.size + 1 + 1 + 1 + 1) 0 _ _ (.int .i64 z) h.box
  exact ⟨(hset _ (by omega)).trans h.zero, (hset _ (by omega)).trans h.out, (hset _ (by omega)).trans h.pls, by rw [e2]; rfl, OII.ok.keep h.tab fun k hk => hset k (by have := h.b k hk; omega), h.b, h.bel.setCell (by show _ ≤ w.heap.size + 1 + 1 + 1 + 1; omega) _⟩
theorem EvS.done (h : EvS w c0 c1 c2 c3 NP T tv S wr) (hNP : NP ≤ 20) {w' : World} (hn : Only [w.heap.size] wr w') {x : Chn} (hx : x = ⟨c0, c1, c2, c3, [T], List.replicate NP 0⟩) :
    Fresh OC w w' (.agg #[.int .i64 c0, .int .i64 c1, .int .i64 c2, .int .i64 c3, .slice (some ⟨w.heap.size + 1 + 1, 0, none⟩) 1 1, .slice (some ⟨w.heap.size + 1 + 1 + 1, 0, none⟩) NP NP]) x := by
  subst hx
  have hz := h.size
  have kp : ∀ k, k < wr.heap.size → k ≠ w.heap.size → w'.heap[k]? = wr.heap[k]? := fun k hk hne => hn.block k hk (by simpa using hne)
  have hlt := OII.ok.lt h.tab
  have ht : OII w' tv T S := OII.ok.keep h.tab fun k hk => kp k (hlt k hk) (by have := h.b k hk; omega)
  have h1 : OIII w' (.slice (some ⟨w.heap.size + 1 + 1, 0, none⟩) 1 1) [T] ((w.heap.size + 1 + 1) :: S) :=
    .inr ⟨w.heap.size + 1 + 1, 1, #[tv], [S], rfl, (kp _ (by omega) (by omega)).trans h.out, rfl, Nat.le_refl _, by unfold maxLen; omega, by simp, by
      rw [List.nodup_cons]
      exact ⟨fun hm => by have := h.b _ hm; omega, OII.ok.nodup h.tab⟩, rfl, fun i hi => by
      obtain rfl : i = 0 := by simpa using hi
      exact ⟨tv, rfl, ht⟩⟩
  have h2 : OI w' (.slice (some ⟨w.heap.size + 1 + 1 + 1, 0, none⟩) NP NP) (List.replicate NP 0) [w.heap.size + 1 + 1 + 1] := by
    refine .inr ⟨w.heap.size + 1 + 1 + 1, NP, _, List.replicate NP [], by simp, (kp _ (by omega) (by omega)).trans h.pls, by simp [size_madeCells], by simp, by unfold maxLen; omega, by simp, by simp, by simp, fun i hi => ?_⟩
    have hi' : i < NP := by simpa using hi
    exact ⟨fI 0, by simp [madeCells, hi', Nat.mod_one], by rw [nth_replicate hi'], by rw [nth_replicate hi']⟩
  refine ⟨(w.heap.size + 1 + 1) :: S ++ [w.heap.size + 1 + 1 + 1], ⟨_, _, _, _, rfl, h1, h2, rfl, fun k hk hm => ?_⟩, fun k hk => ?_, below_only h.bel hn (by omega) (by simp)⟩
  · have e : k = w.heap.size + 1 + 1 + 1 := by simpa using hm
    rcases List.mem_cons.1 hk with h5 | h5
    · omega
    · have := h.b k h5; omega
  · rcases List.mem_append.1 hk with h5 | h5
    · rcases List.mem_cons.1 h5 with h6 | h6
      · omega
      · have := h.b k h6; omega
    · have : k = w.heap.size + 1 + 1 + 1 := by simpa using h5
      omega
theorem alloc_at {w : World} {o : Obj} {k : Nat} (h : k = w.heap.size) : (w.alloc o).heap[k]? = some o := by subst h; exact heap_alloc_new w o
theorem alloc_old {w : World} {o : Obj} {k : Nat} (h : k < w.heap.size) : (w.alloc o).heap[k]? = w.heap[k]? := Below.heap_alloc w o k h
theorem EvS.start (w : World) (L a b : Int) (NP : Nat) : EvS w 0 L a b NP [] (.slice (some ⟨w.heap.size + 1, 0, none⟩) 0 0) [w.heap.size + 1]
    (((((w.alloc (.cells #[.int .i64 0, .int .i64 0, .int .i64 0, .int .i64 0, .slice none 0 0, .slice none 0 0] 28)).alloc (.cells #[] 22)).alloc (.cells #[.slice (some ⟨w.heap.size + 1, 0, none⟩) 0 0] 38)).alloc (.cells (madeCells #[.int .i64 0] NP) 2)).alloc
      (.cells #[.int .i64 0, .int .i64 L, .int .i64 a, .int .i64 b, .slice (some ⟨w.heap.size + 1 + 1, 0, none⟩) 1 1, .slice (some ⟨w.heap.size + 1 + 1 + 1, 0, none⟩) NP NP] 28)) := by
  refine ⟨?_, ?_, ?_, ?_, .inr ⟨w.heap.size + 1, 0, #[], [], rfl, ?_, rfl, by simp, by unfold maxLen; omega, by simp, by simp, rfl, fun i hi => absurd hi (by simp)⟩, by simp, by repeat' (first | with_reducible exact Below.refl _ _ | with_reducible refine Below.alloc ?_ ?_ _ | with_reducible refine Below.setCell ?_ ?_ _ | with_reducible refine Below.drew ?_ | with_reducible refine Below.draws ?_ _ | omega | (simp; done) | (simp; omega))⟩
  · exact (alloc_old (by simp only [alloc_size]; omega)).trans ((alloc_old (by simp only [alloc_size]; omega)).trans ((alloc_old (by simp only [alloc_size]; omega)).trans ((alloc_old (by simp only [alloc_size]; omega)).trans (alloc_at rfl))))
  · exact (alloc_old (by simp only [alloc_size]; omega)).trans ((alloc_old (by simp only [alloc_size]; omega)).trans (alloc_at (by simp only [alloc_size])))
  · exact (alloc_old (by simp only [alloc_size]; omega)).trans (alloc_at (by simp only [alloc_size]))
  · exact alloc_at (by simp only [alloc_size])
  · exact (alloc_old (by simp only [alloc_size]; omega)).trans ((alloc_old (by simp only [alloc_size]; omega)).trans ((alloc_old (by simp only [alloc_size]; omega)).trans (alloc_at (by simp only [alloc_size]))))
end evs

set_option maxHeartbeats 3200000 in
set_option maxRecDepth 100000 in
theorem specEven {B : Nat} {v : Value} {t : List (List Int)} {w : World} (h : RdII (· < B) w v t) (hB : B ≤ w.heap.size) (hn : szL List.length t ≤ 1048576) (NP : Nat) (hp : 1 ≤ NP ∧ NP ≤ 20) (a b : Int) (h1 : 1 ≤ t.length) :
    Calls Try.prog 97 #[v, .int .i64 NP, .int .i64 a, .int .i64 b] w fun e w' => ∃ u p, e = .returned (.agg #[.int .i64 ((nth t 0).length : Int), .int .i64 t.length, .int .i64 a, .int .i64 b, u, p]) ∧ (∃ g1 c1 g2 c2, u = .slice (some ⟨g1, 0, none⟩) 1 c1 ∧ p = .slice (some ⟨g2, 0, none⟩) NP c2) ∧ Fresh OC w w' (.agg #[.int .i64 ((nth t 0).length : Int), .int .i64 t.length, .int .i64 a, .int .i64 b, u, p]) (evC t NP a b) := by
  have Hr := Lib.hid h
  obtain ⟨at_, c, rfl, h2, h3⟩ := h.isSlice
  clear h
  unfold maxLen at h3
  have hl : t.length ≤ 1048576 := by have := szL_len List.length t; omega
  have Hrow := Lib.hid (show ∀ x, x < t.length → (nth t x).length ≤ 1048576 from fun x hx => by have := szL_nth List.length hx; omega)
  have hmk := run_make_row' (P := Try.prog) 22 2 (.int .i64 0) 8 Try.underlying22 infoI64 rfl .i64 .i64 NP (by omega) (by omega)
  clear hn
  go_enter Try.func97, Try.ntmps97
  go_wp2
  go_loopw [10] (fun iv wr => ∃ (k : Nat) (tv : Value) (S : List Nat), k ≤ t.length ∧ iv = .int .i64 k ∧ Hid (EvS w 0 t.length a b NP (t.take k) tv S wr)) (fun iv _ => t.length - (intOf iv).toNat)
  case atStart => exact ⟨0, _, _, Nat.zero_le _, rfl, Lib.hid (EvS.start w t.length a b NP)⟩
  case round =>
    obtain ⟨k, tv, S, hk, rfl, hst⟩ := hrel
    obtain ⟨W2, rfl⟩ : ∃ W2, W2 = wr := ⟨_, rfl⟩
    have e4 := heap_cell hst.out.box (i := 4) rfl
    have e0 := heap_cell hst.out.out (i := 0) rfl
    have hz := hst.out.size
    by_cases hlt : k < t.length
    · obtain ⟨a0, n0, c0, rfl⟩ := hst.out.tab.isSlice
      obtain ⟨bb, o, a1, c1, rfl, hP, hc, g1, g2, _⟩ := Rd.row Hr.out hlt
      have hbb : bb < B := hP
      obtain ⟨b7, o7, a7, c7, e7, _, hc7, _, _, hr⟩ := Rd.row (RdII.ok.keep Hr.out (w' := W2) fun j hj => hst.out.bel.block j (by omega)) hlt
      simp only [Option.some.injEq, Addr.mk.injEq, and_true] at e7
      obtain ⟨rfl, rfl⟩ := e7
      have hc8 : W2.cell? ⟨bb, o + k, none⟩ = some (.slice a1 (nth t k).length c1) := (hst.out.bel.cell (p := ⟨bb, o + k, none⟩) (by show bb < _; omega)).trans hc
      rw [hc7] at hc8
      simp only [Option.some.injEq, Value.slice.injEq, true_and] at hc8
      obtain ⟨rfl, rfl⟩ := hc8
      have hs := Lib.hid (take_nth hlt)
      have hlk := Lib.hid (show (t.take k).length ≤ 1048576 by simp; omega)
      have hrl := Hrow.out k hlt
      unfold maxLen at g2
      have hsc := Lib.hid (show ∀ w', Below w.heap.size w w' → w'.cell? ⟨w.heap.size + 1 + 1 + 1 + 1, 4, none⟩ = some (.slice (some ⟨w.heap.size + 1 + 1, 0, none⟩) 1 1) → w'.cell? ⟨w.heap.size + 1 + 1, 0, none⟩ = some (.slice a0 n0 c0) →
          (w'.cell? ⟨w.heap.size + 1 + 1 + 1 + 1, 4, none⟩ = some (.slice (some ⟨w.heap.size + 1 + 1, 0, none⟩) 1 1) ∧ w'.cell? ⟨w.heap.size + 1 + 1, 0, none⟩ = some (.slice a0 n0 c0) ∧ w'.cell? ⟨bb, o + k, none⟩ = some (.slice a7 (nth t k).length c7))
        from fun w' hb h1 h2 => ⟨h1, h2, (hb.cell (p := ⟨bb, o + k, none⟩) (by show bb < _; omega)).trans hc⟩)
      have hS0 := hsc.out W2.drew (Below.draws hst.out.bel 1) e4 e0
      have hcl : Hid (∀ q, Calls Try.prog 146 #[.slice a7 (nth t k).length c7] (W2.drewN q) fun e w' => ∃ v7 S7, e = .returned v7 ∧ OI w' v7 (nth t k) S7 ∧ (∀ j ∈ S7, W2.heap.size ≤ j) ∧ EvS w 0 t.length a b NP (t.take k) (.slice a0 n0 c0) S w') := Lib.hid fun q => by
        refine (specOwn (w := W2.drewN q) (RdI.ok.keep hr fun _ _ => rfl) (fun j hj => by show j < W2.heap.size; have : j < B := hj; omega) hrl).mono ?_
        rintro e w3 ⟨v7, rfl, S7, hr7, hS7, hb7⟩
        exact ⟨v7, S7, rfl, hr7, hS7, hst.out.keep ⟨hb7.os, hb7.tape, hb7.output, hb7.size, hb7.block⟩⟩
      clear hc hc7 hr hrl e4 e0 hP
      generalize nth t k = rowV at *
      generalize rowV.length = RL at *
      go_wp2_with fail
      refine wp_region_float 10 (fun w' => w'.cell? ⟨w.heap.size + 1 + 1 + 1 + 1, 4, none⟩ = some (.slice (some ⟨w.heap.size + 1 + 1, 0, none⟩) 1 1) ∧ w'.cell? ⟨w.heap.size + 1 + 1, 0, none⟩ = some (.slice a0 n0 c0) ∧ w'.cell? ⟨bb, o + k, none⟩ = some (.slice a7 RL c7)) (by kernel_rfl) (by kernel_rfl) hS0 ?_
      clear hS0
      intro hS0
      simp only [List.take_succ_cons, List.take_zero, List.drop_succ_cons, List.drop_zero]
      iterate 10 (refine wpReads_cons _ (by rfl) (by intro w' hSw; (try dsimp only at hSw); go_simp; try (with_reducible rfl)) ?_; try simp only [Act.put, List.setIfInBounds_toArray, List.set_cons_zero, List.set_cons_succ])
      refine wpReads_nil ?_
      refine wpTail_cons fun K hK => ?_
      go_simp
      refine (Calls.mono (hcl.out _) ?_)
      rintro e w6 ⟨v7, S7, rfl, hr7, hS7, hst6⟩
      obtain ⟨a9, n9, c9, rfl⟩ := hr7.isSlice
      have e4 := heap_cell hst6.box (i := 4) rfl
      have e0 := heap_cell hst6.out (i := 0) rfl
      have hl6 := hst6.size
      have hT7 := Lib.hid (show ∀ j ∈ S7, w.heap.size + 1 + 1 + 1 + 1 < j from fun j hj => by have := hS7 j hj; omega)
      have hdis := Lib.hid (show ∀ j ∈ S7, j ∉ S from fun j hj hm => by have := hS7 j hj; have := OII.ok.lt hst.out.tab j hm; omega)
      have Hst6 := Lib.hid hst6
      have Hr7 := Lib.hid hr7
      refine hK.out _ _ (hsc.out _ Hst6.out.bel e4 e0) ?_
      clear hK K hS0 hst6 hr7 hS7
      try simp only [Act.put, List.setIfInBounds_toArray, List.set_cons_zero, List.set_cons_succ]
      refine wpTail_cons fun K hK => ?_
      go_simp
      refine hK.out _ _ (hsc.out _ (Below.alloc Hst6.out.bel (by omega) _) ((World.cell?_alloc_past _ _ _ (by show w.heap.size + 1 + 1 + 1 + 1 < _; omega)).trans e4) ((World.cell?_alloc_past _ _ _ (by show w.heap.size + 1 + 1 < _; omega)).trans e0)) ?_
      clear hK K
      try simp only [Act.put, List.setIfInBounds_toArray, List.set_cons_zero, List.set_cons_succ]
      refine wpTail_cons fun K hK => ?_
      refine step_push rfl _ _ 38 rfl OI.ok Try.underlying38 infoSl' rfl w6 Hst6.out.tab rowV S7 Hr7.out hdis.out (by have := hlk.out; omega) (by have := hlk.out; unfold maxLen; omega) rfl rfl rfl ?_
      intro v8 w8 S8 ho8 hn8 hS8
      obtain ⟨a10, n10, c10, rfl⟩ := ho8.isSlice
      have hst9 := Hst6.out.push hT7.out ho8 hn8 hS8
      have hbx8 := Only.heap hn8 Hst6.out.box (fun hm => by have := Hst6.out.b _ hm; omega)
      have e4' := heap_cell hbx8 (i := 4) rfl
      have e0' := heap_cell hst9.1 (i := 0) rfl
      have f0 := frozen_at hst9.1 0
      have Hbel8 := Lib.hid (show Below w.heap.size w w8 from below_only Hst6.out.bel hn8 (by omega) fun j hj => by have := Hst6.out.b j hj; omega)
      have Hst9 := Lib.hid hst9.2
      clear ho8 hn8 hS8 hst9 hbx8
      refine hK.out _ _ (hsc.out _ Hbel8.out e4' e0') ?_
      clear hK K
      try simp only [Act.put, List.setIfInBounds_toArray, List.set_cons_zero, List.set_cons_succ]
      refine wpTail_cons fun K hK => ?_
      go_simp
      refine hK.out _ _ (hsc.out _ Hbel8.out e4' e0') ?_
      clear hK K
      try simp only [Act.put, List.setIfInBounds_toArray, List.set_cons_zero, List.set_cons_succ]
      refine wpTail_one ?_
      go_wp2_with fail
      refine NoPanic.normal ?_
      clear e4 e0 e4' e0'
      generalize w8.setCell ⟨w.heap.size + 1 + 1, 0, none⟩ (.slice a10 n10 c10) = w9 at *
      rw [← hs.out] at Hst9
      go_wp2
      go_roundw
      case rel => exact ⟨k + 1, _, _, by omega, by go_num, Hst9⟩
      case measure => simp [intOf]; omega
    · obtain ⟨hkn⟩ : Nonempty (k = t.length) := ⟨by omega⟩
      have hx : t.take k = t := by rw [hkn, List.take_length]
      rw [hx] at hst
      obtain ⟨bb, o, a1, c1, rfl, hP, hc, g1, g2, _⟩ := Rd.row Hr.out (show 0 < t.length by omega)
      have hbb : bb < B := hP
      have hc8 : W2.cell? ⟨bb, o, none⟩ = some (.slice a1 (nth t 0).length c1) := (hst.out.bel.cell (p := ⟨bb, o, none⟩) (by show bb < _; omega)).trans hc
      have hr0 := Hrow.out 0 (by omega)
      have hb := Lib.hid (hst.out.base ((nth t 0).length : Int))
      have f0 := frozen_at hst.out.box 0
      have d0 := heap_cell hst.out.box (i := 0) rfl
      have z0 := heap_cell hst.out.zero (i := 0) rfl
      have q0 := frozen_at hst.out.zero 0
      have d1 := heap_cell hst.out.box (i := 1) rfl
      have z1 := heap_cell hst.out.zero (i := 1) rfl
      have q1 := frozen_at hst.out.zero 1
      have d2 := heap_cell hst.out.box (i := 2) rfl
      have z2 := heap_cell hst.out.zero (i := 2) rfl
      have q2 := frozen_at hst.out.zero 2
      have d3 := heap_cell hst.out.box (i := 3) rfl
      have z3 := heap_cell hst.out.zero (i := 3) rfl
      have q3 := frozen_at hst.out.zero 3
      have d4 := heap_cell hst.out.box (i := 4) rfl
      have z4 := heap_cell hst.out.zero (i := 4) rfl
      have q4 := frozen_at hst.out.zero 4
      have d5 := heap_cell hst.out.box (i := 5) rfl
      have z5 := heap_cell hst.out.zero (i := 5) rfl
      have q5 := frozen_at hst.out.zero 5
      have hNP := hp.2
      unfold maxLen at g2
      have hxx := Lib.hid (show evC t NP a b = ⟨((nth t 0).length : Int), t.length, a, b, [t], List.replicate NP 0⟩ by unfold evC; simp)
      clear hkn hc
      have hst2 := hst
      clear hst
      go_wp2
      refine bodyPost_ret (v := .agg #[.int .i64 ((nth t 0).length : Nat), .int .i64 t.length, .int .i64 a, .int .i64 b, .slice (some ⟨w.heap.size + 1 + 1, 0, none⟩) 1 1, .slice (some ⟨w.heap.size + 1 + 1 + 1, 0, none⟩) NP NP]) (by simp [results, Try.results97, go_sem, z0, z1, z2, z3, z4, z5]) rfl ⟨_, _, rfl, ⟨_, _, _, _, rfl, rfl⟩, hb.out.done hNP (by repeat' (first | with_reducible exact Only.refl _ _ | with_reducible refine Only.put ?_ ?_ _ _ | (simp; done))) hxx.out⟩

theorem evC_agg (t : List (List Int)) (p a b : Int) (u q : Value) : aggC (evC t p a b) u q = .agg #[.int .i64 ((nth t 0).length : Int), .int .i64 t.length, .int .i64 a, .int .i64 b, u, q] := rfl
theorem nil_fresh {w w' : World} (h : Below w.heap.size w w') : Fresh OC w w' (aggC Chn.nil (.slice none 0 0) (.slice none 0 0)) Chn.nil :=
  ⟨[], ⟨_, _, [], [], rfl, own_nil _, own_nil _, rfl, by simp⟩, by simp, h⟩

set_option maxHeartbeats 3200000 in
set_option maxRecDepth 100000 in
theorem specEvenChain {B : Nat} {v : Value} {t : List (List Int)} {w : World} (h : RdII (· < B) w v t) (hB : B ≤ w.heap.size) (hn : szL List.length t ≤ 1048576) (p a b : Int) :
    Calls Try.prog 42 #[v, .int .i64 p, .int .i64 a, .int .i64 b] w fun e w' => ∃ v', e = .returned (.tuple #[v', .bool (evOk t p a b)]) ∧ Fresh OC w w' v' (evV t p a b) := by
  have Hr := Lib.hid h
  obtain ⟨at_, c, rfl, h2, h3⟩ := h.isSlice
  clear h
  unfold maxLen at h3
  have hl : t.length ≤ 1048576 := by have := szL_len List.length t; omega
  cases hp : inB p 1 20
  · have hv := Lib.hid (ev_p (t := t) (a := a) (b := b) hp)
    have hm := Lib.hid (evV_no hv.out)
    go_enter Try.func42, Try.ntmps42
    go_wp2_with (go_at_call 73; refine (specIn _ _ _ _ (by assumption) _).mono ?_; rintro e w' ⟨rfl, rfl⟩)
    refine bodyPost_ret (v := .tuple #[aggC Chn.nil (.slice none 0 0) (.slice none 0 0), .bool false]) (by simp [results, Try.results42, go_sem, aggC, Chn.nil]) rfl ⟨_, by rw [hv.out], ?_⟩
    rw [hm.out]
    exact nil_fresh (by repeat' (first | with_reducible exact Below.refl _ _ | with_reducible refine Below.alloc ?_ ?_ _ | with_reducible refine Below.setCell ?_ ?_ _ | with_reducible refine Below.drew ?_ | with_reducible refine Below.draws ?_ _ | omega | (simp; done) | (simp; omega)))
  cases ht : inB (t.length : Int) 1 36
  · have hv := Lib.hid (ev_t (p := p) (a := a) (b := b) ht)
    have hm := Lib.hid (evV_no hv.out)
    go_enter Try.func42, Try.ntmps42
    go_wp2_with (go_at_call 73; refine (specIn _ _ _ _ (by assumption) _).mono ?_; rintro e w' ⟨rfl, rfl⟩)
    refine bodyPost_ret (v := .tuple #[aggC Chn.nil (.slice none 0 0) (.slice none 0 0), .bool false]) (by simp [results, Try.results42, go_sem, aggC, Chn.nil]) rfl ⟨_, by rw [hv.out], ?_⟩
    rw [hm.out]
    exact nil_fresh (by repeat' (first | with_reducible exact Below.refl _ _ | with_reducible refine Below.alloc ?_ ?_ _ | with_reducible refine Below.setCell ?_ ?_ _ | with_reducible refine Below.drew ?_ | with_reducible refine Below.draws ?_ _ | omega | (simp; done) | (simp; omega)))
  have hpb := inB_true.1 hp
  have htb := inB_true.1 ht
  obtain ⟨NP, rfl⟩ := Int.eq_ofNat_of_zero_le (show 0 ≤ p by omega)
  have hat : Hid (∀ c, vC (evC t NP a b) = c → evOk t NP a b = c) := Lib.hid fun c h => ev_at hp (by omega) h
  obtain ⟨W1, hW1⟩ : ∃ W1, W1 = w.alloc (.cells #[.int .i64 0, .int .i64 0, .int .i64 0, .int .i64 0, .slice none 0 0, .slice none 0 0] 28) := ⟨_, rfl⟩
  have Hz : Hid (W1.heap[w.heap.size]? = some (.cells #[.int .i64 0, .int .i64 0, .int .i64 0, .int .i64 0, .slice none 0 0, .slice none 0 0] 28 (0, 0))) := Lib.hid (by rw [hW1]; exact heap_alloc_new w _)
  have hs1 : W1.heap.size = w.heap.size + 1 := by rw [hW1]; simp
  have Hb1 : Hid (Below w.heap.size w W1) := Lib.hid (by rw [hW1]; exact (Below.refl _ _).alloc (Nat.le_refl _) _)
  have HE := Lib.hid (specEven (w := W1) (RdII.ok.keep Hr.out fun k hk => Hb1.out.block k (by omega)) (by omega) hn NP (by omega) a b (by omega))
  have HW1 := Lib.hid hW1
  have Hs1 := Lib.hid hs1
  clear hW1 hs1
  go_enter Try.func42, Try.ntmps42
  go_wp2_with (go_at_call 73; refine (specIn _ _ _ _ (by assumption) _).mono ?_; rintro e w' ⟨rfl, rfl⟩)
  rw [← HW1.out]
  refine (Calls.mono HE.out ?_)
  rintro e w4 ⟨u, q, rfl, ⟨g1, c1, g2, c2, rfl, rfl⟩, hf⟩
  have Hf := Lib.hid hf
  have hb4 := hf.bel
  have Hz4 := Lib.hid (below_heap hb4 Hz.out)
  have Hb4 := Lib.hid (Hb1.out.trans (hb4.mono (by have := Hs1.out; omega)))
  have hz4 := hb4.size
  have hcl : Hid (∀ bb, vC (evC t NP a b) = bb → Calls Try.prog 98 #[.pointer (some ⟨w4.heap.size, 0, none⟩)] (w4.alloc (.cells #[.int .i64 ((nth t 0).length : Int), .int .i64 t.length, .int .i64 a, .int .i64 b, .slice (some ⟨g1, 0, none⟩) 1 c1, .slice (some ⟨g2, 0, none⟩) NP c2] 28)) fun e w7 => e = .returned (.bool bb) ∧
      w7.heap[w4.heap.size]? = some (.cells #[.int .i64 ((nth t 0).length : Int), .int .i64 t.length, .int .i64 a, .int .i64 b, .slice (some ⟨g1, 0, none⟩) 1 c1, .slice (some ⟨g2, 0, none⟩) NP c2] 28 (0, 0)) ∧ w7.heap[w.heap.size]? = some (.cells #[.int .i64 0, .int .i64 0, .int .i64 0, .int .i64 0, .slice none 0 0, .slice none 0 0] 28 (0, 0)) ∧ Below w.heap.size w w7 ∧
      Fresh OC W1 w7 (.agg #[.int .i64 ((nth t 0).length : Int), .int .i64 t.length, .int .i64 a, .int .i64 b, .slice (some ⟨g1, 0, none⟩) 1 c1, .slice (some ⟨g2, 0, none⟩) NP c2]) (evC t NP a b)) := Lib.hid fun bb hbb => by
    obtain ⟨u', q', e5, o1, o2⟩ := OC.leads.to _ _ _ _ (· < w4.heap.size) hf.choose_spec.1 (OC.ok.lt hf.choose_spec.1)
    rw [evC_agg] at e5
    simp only [Value.agg.injEq, Array.mk.injEq, List.cons.injEq, true_and, and_true] at e5
    obtain ⟨rfl, rfl⟩ := e5
    refine (specL02Is (BoxC.boxed (x := evC t NP a b) o1 o2 (Nat.le_refl _)) bb hbb).mono ?_
    rintro e w7 ⟨rfl, m, rfl⟩
    have hb7 : Below w4.heap.size w4 ((w4.alloc (.cells #[.int .i64 ((nth t 0).length : Int), .int .i64 t.length, .int .i64 a, .int .i64 b, .slice (some ⟨g1, 0, none⟩) 1 c1, .slice (some ⟨g2, 0, none⟩) NP c2] 28)).drewN m) := Below.draws ((Below.refl _ _).alloc (Nat.le_refl _) _) m
    exact ⟨rfl, heap_alloc_new w4 _, below_heap hb7 Hz4.out, Hb4.out.trans (hb7.mono Hb4.out.size), hf.stayF OC.ok hb7⟩
  clear hf hb4
  cases hv : vC (evC t NP a b)
  · have Hv := Lib.hid (hat.out _ hv)
    have hm := Lib.hid (evV_no Hv.out)
    have HC := Lib.hid (hcl.out _ hv)
    clear hv
    go_wp2_with fail
    refine (Calls.mono HC.out ?_)
    rintro e w7 ⟨rfl, hb7, hz7, hbel7, _⟩
    have z0 := heap_cell hz7 (i := 0) rfl
    have z1 := heap_cell hz7 (i := 1) rfl
    have z2 := heap_cell hz7 (i := 2) rfl
    have z3 := heap_cell hz7 (i := 3) rfl
    have z4 := heap_cell hz7 (i := 4) rfl
    have z5 := heap_cell hz7 (i := 5) rfl
    have f0 := frozen_at hz7 0
    have f1 := frozen_at hz7 1
    have f2 := frozen_at hz7 2
    have f3 := frozen_at hz7 3
    have f4 := frozen_at hz7 4
    have f5 := frozen_at hz7 5
    have Hbel := Lib.hid hbel7
    clear hb7 hz7 hbel7
    go_wp2
    refine bodyPost_ret (v := .tuple #[aggC Chn.nil (.slice none 0 0) (.slice none 0 0), .bool false]) (by simp [results, Try.results42, go_sem, aggC, Chn.nil, z0, z1, z2, z3, z4, z5]) rfl ⟨_, by rw [Hv.out], ?_⟩
    rw [hm.out]
    refine nil_fresh (Hbel.out.trans ?_)
    repeat' (first | with_reducible exact Below.refl _ _ | with_reducible refine Below.alloc ?_ ?_ _ | with_reducible refine Below.setCell ?_ ?_ _ | with_reducible refine Below.drew ?_ | with_reducible refine Below.draws ?_ _ | omega | (simp; done) | (simp; omega))
  · have Hv := Lib.hid (hat.out _ hv)
    have hm := Lib.hid (evV_yes Hv.out)
    have HC := Lib.hid (hcl.out _ hv)
    clear hv
    go_wp2_with fail
    refine (Calls.mono HC.out ?_)
    rintro e w7 ⟨rfl, hb7, hz7, hbel7, hf7⟩
    have z0 := heap_cell hz7 (i := 0) rfl
    have z1 := heap_cell hz7 (i := 1) rfl
    have z2 := heap_cell hz7 (i := 2) rfl
    have z3 := heap_cell hz7 (i := 3) rfl
    have z4 := heap_cell hz7 (i := 4) rfl
    have z5 := heap_cell hz7 (i := 5) rfl
    have f0 := frozen_at hz7 0
    have f1 := frozen_at hz7 1
    have f2 := frozen_at hz7 2
    have f3 := frozen_at hz7 3
    have f4 := frozen_at hz7 4
    have f5 := frozen_at hz7 5
    have d0 := heap_cell hb7 (i := 0) rfl
    have d1 := heap_cell hb7 (i := 1) rfl
    have d2 := heap_cell hb7 (i := 2) rfl
    have d3 := heap_cell hb7 (i := 3) rfl
    have d4 := heap_cell hb7 (i := 4) rfl
    have d5 := heap_cell hb7 (i := 5) rfl
    have hf8 := Lib.hid hf7
    have hlt1 : w.heap.size < W1.heap.size := by have := Hs1.out; omega
    clear hb7 hz7 hbel7 hf7
    go_wp2
    refine bodyPost_ret (v := .tuple #[.agg #[.int .i64 ((nth t 0).length : Int), .int .i64 t.length, .int .i64 a, .int .i64 b, .slice (some ⟨g1, 0, none⟩) 1 c1, .slice (some ⟨g2, 0, none⟩) NP c2], .bool true]) (by simp [results, Try.results42, go_sem, z0, z1, z2, z3, z4, z5]) rfl ⟨_, by rw [Hv.out], by rw [hm.out]; exact Fresh.turnedAt (b := w.heap.size) OC.ok hf8.out Hb1.out (Nat.le_refl _) hlt1 (by repeat' (first | with_reducible exact Only.refl _ _ | with_reducible refine Only.put ?_ ?_ _ _ | (simp; done)))⟩
end Go.Proofs.Ytnpkanlieflbiaa
