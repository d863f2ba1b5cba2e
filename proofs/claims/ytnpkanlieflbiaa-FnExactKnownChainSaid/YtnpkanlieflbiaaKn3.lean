/- Known chains: the reference's luhn, walked. -/
import Derived.Test.YtnpkanlieflbiaaKn2
namespace Go.Proofs.Ytnpkanlieflbiaa
open Go.RowKit
set_option linter.unusedVariables false

/-- A struct in a box of its own, one of whose fields owns memory. -/
structure BxS {α : Type} (R : Rep α) (w0 : World) (bx : Nat) (E : TypeId) (mk : Value → Array Value) (L : α) (ov : Value) (S : List Nat) (wr : World) : Prop where
  box : wr.heap[bx]? = some (.cells (mk ov) E (0, 0))
  own : R wr ov L S
  b : ∀ j ∈ S, w0.heap.size ≤ j ∧ j ≠ bx
  hbx : w0.heap.size ≤ bx
  bel : Below w0.heap.size w0 wr
section bxs
variable {α : Type} {R : Rep α} {w0 : World} {bx : Nat} {E : TypeId} {mk : Value → Array Value} {L : α} {ov : Value} {S : List Nat} {wr : World}
theorem BxS.size (h : BxS R w0 bx E mk L ov S wr) : bx < wr.heap.size := heap_lt h.box
theorem BxS.keep (hR : R.Ok) (h : BxS R w0 bx E mk L ov S wr) {w' : World} (hb : Below wr.heap.size wr w') : BxS R w0 bx E mk L ov S w' :=
  ⟨below_heap hb h.box, hR.keep h.own fun k hk => hb.block k (hR.lt h.own k hk), h.b, h.hbx, h.bel.trans (hb.mono h.bel.size)⟩
theorem BxS.push (hR : R.Ok) (h : BxS R w0 bx E mk L ov S wr) {w5 : World} {v1 : Value} {L' : α} {S' T7 : List Nat} {i : Nat} (hi : (mk ov).setIfInBounds i v1 = mk v1) (hT7 : ∀ j ∈ T7, w0.heap.size ≤ j ∧ j ≠ bx) (ho : R w5 v1 L' S') (hn : Only S wr w5) (hS : ∀ k ∈ S', k ∈ S ∨ k ∈ T7 ∨ wr.heap.size ≤ k) :
    w5.heap[bx]? = some (.cells (mk ov) E (0, 0)) ∧ BxS R w0 bx E mk L' v1 S' (w5.setCell ⟨bx, i, none⟩ v1) := by
  have hz := h.size
  have hs := h.bel.size
  have hb : ∀ k ∈ S', w0.heap.size ≤ k ∧ k ≠ bx := fun k hk => by
    rcases hS k hk with e | e | e
    · exact h.b k e
    · exact hT7 k e
    · omega
  have hbx5 := Only.heap hn h.box (fun hm => (h.b _ hm).2 rfl)
  have e2 := heap_setCell_same w5 bx i _ _ v1 hbx5
  rw [hi] at e2
  have hset : ∀ k, k ≠ bx → (w5.setCell ⟨bx, i, none⟩ v1).heap[k]? = w5.heap[k]? := fun k hk => heap_setCell_other w5 _ k v1 (by simpa using hk)
  exact ⟨hbx5, e2, hR.keep ho fun k hk => hset k (hb k hk).2, hb, h.hbx, (below_only h.bel hn hs fun j hj => (h.b j hj).1).setCell h.hbx _⟩
end bxs

def mkLu (v : Value) : Array Value := #[.int .i64 10, .int .i64 0, v]

set_option maxHeartbeats 3200000 in
set_option maxRecDepth 100000 in
theorem specLuhn (P : Nat) (hP : 1 ≤ P ∧ P ≤ 20) (w : World) :
    Calls Try.prog 75 #[.int .i64 P] w fun e w' => ∃ v, e = .returned v ∧ Fresh OC w w' v (luC P) := by
  obtain ⟨w1, hw1⟩ : ∃ w1, w1 = w.alloc (.cells #[.int .i64 0, .int .i64 0, .int .i64 0, .int .i64 0, .slice none 0 0, .slice none 0 0] 28) := ⟨_, rfl⟩
  have Hz1 := Lib.hid (show w1.heap[w.heap.size]? = some (.cells #[.int .i64 0, .int .i64 0, .int .i64 0, .int .i64 0, .slice none 0 0, .slice none 0 0] 28 (0, 0)) by rw [hw1]; exact heap_alloc_new w _)
  have Hs1 := Lib.hid (show w1.heap.size = w.heap.size + 1 by rw [hw1]; simp)
  have Hb1 := Lib.hid (show Below w.heap.size w w1 by rw [hw1]; exact (Below.refl _ _).alloc (Nat.le_refl _) _)
  have Hw1 := Lib.hid hw1
  have hsz1 : w.heap.size < w1.heap.size := by have := Hs1.out; omega
  have Hf0 := Lib.hid (show BxS OII w1 (w.heap.size + 1) 43 mkLu [] (.slice none 0 0) [] (w1.alloc (.cells #[.int .i64 10, .int .i64 0, .slice none 0 0] 43)) from by
    rw [← Hs1.out]
    exact ⟨heap_alloc_new _ _, own_nil _, by simp, Nat.le_refl _, (Below.refl _ _).alloc (Nat.le_refl _) _⟩)
  clear hw1
  go_enter Try.func75, Try.ntmps75
  go_wp2_with fail
  rw [← Hw1.out]
  go_loopw [4] (fun kv wr => ∃ (i : Nat) (z : Int) (ov : Value) (S : List Nat), i ≤ P ∧ z + 1 + i = P ∧ kv = .int .i64 z ∧ Hid (BxS OII w1 (w.heap.size + 1) 43 mkLu (fromL luL P i) ov S wr)) (fun kv _ => (intOf kv + 1).toNat)
  case atStart => exact ⟨0, (P : Int) - 1, _, _, Nat.zero_le _, by omega, rfl, Hf0⟩
  case round =>
    clear Hf0
    obtain ⟨i, z, ov, S, hi, hz, rfl, hf⟩ := hrel
    obtain ⟨W2, rfl⟩ : ∃ W2, W2 = wr := ⟨_, rfl⟩
    have hz2 := hf.out.size
    have hz2' : w.heap.size + 1 < W2.heap.size + 1 := by omega
    obtain ⟨a0, n0, c0, rfl⟩ := hf.out.own.isSlice
    by_cases h0 : 0 ≤ z
    · obtain ⟨K, rfl⟩ := Int.eq_ofNat_of_zero_le h0
      have hsu := Lib.hid (show fromL luL P (i + 1) = fromL luL P i ++ [luL K] by rw [fromL_succ, show P - 1 - i = K by omega])
      have hln := Lib.hid (fromL_len luL P i)
      have hPi : i ≤ 20 := by omega
      have hm2 : K % 2 = 0 ∨ K % 2 = 1 := by omega
      have Hl0 := Lib.hid (sameLit W2)
      rcases hm2 with hm | hm
      · have e1 : (K : Int).tmod 2 = 0 := by rw [Int.tmod_eq_emod_of_nonneg (by omega)]; omega
        have e2 : (K : Int) % 2 = 0 := by omega
        rw [luL_even hm] at hsu
        have hf3 := Lib.hid (hf.out.keep OII.ok (w' := (W2.alloc (.cells #[.int .i64 0, .int .i64 1, .int .i64 2, .int .i64 3, .int .i64 4, .int .i64 5, .int .i64 6, .int .i64 7, .int .i64 8, .int .i64 9] 2))) ((Below.refl _ _).alloc (Nat.le_refl _) _))
        have Hl3 := Hl0
        have hd := Lib.hid (show ∀ k ∈ [W2.heap.size], k ∉ S from fun k hk hm => by simp at hk; have := OII.ok.lt hf.out.own k hm; omega)
        have hT := Lib.hid (show ∀ j ∈ [W2.heap.size], w1.heap.size ≤ j ∧ j ≠ w.heap.size + 1 from fun j hj => by simp at hj; have := hf.out.bel.size; omega)
        have d2 := heap_cell hf.out.box (i := 2) rfl
        clear hm Hl0 hf
        go_wp2_with (at_builtin; refine wpList_push rfl _ _ 38 rfl OI.ok Try.underlying38 infoSl' rfl hf3.out.own Hl3.out hd.out (by have := hln.out; omega) (by have := hln.out; unfold maxLen; omega) rfl (by rw [alloc_size]; rfl) ?_; intro v7 w7 S8 ho7 hn7 hS8; obtain ⟨a12, n12, c12, rfl⟩ := ho7.isSlice; obtain ⟨hbx7, hst7⟩ := hf3.out.push OII.ok (i := 2) (by rfl) hT.out ho7 hn7 hS8; have f7 := frozen_at hbx7 2; have e7 := heap_cell hbx7 (i := 2) rfl; have Hst7 := Lib.hid hst7; clear ho7 hn7 hS8 hbx7 hst7)
        go_roundw
        case rel => exact ⟨i + 1, (K : Int) - 1, _, _, by omega, by omega, by go_num, by rw [hsu.out]; exact Hst7⟩
        case measure => (first | (simp [intOf]; done) | (simp [intOf]; omega))
      · have e1 : (K : Int).tmod 2 = 1 := by rw [Int.tmod_eq_emod_of_nonneg (by omega)]; omega
        have e2 : (K : Int) % 2 = 1 := by omega
        rw [luL_odd (k := K) (by omega)] at hsu
        have hf3 := Lib.hid (hf.out.keep OII.ok (w' := ((W2.alloc (.cells #[.int .i64 0, .int .i64 1, .int .i64 2, .int .i64 3, .int .i64 4, .int .i64 5, .int .i64 6, .int .i64 7, .int .i64 8, .int .i64 9] 2)).alloc (.cells #[.int .i64 0, .int .i64 2, .int .i64 4, .int .i64 6, .int .i64 8, .int .i64 1, .int .i64 3, .int .i64 5, .int .i64 7, .int .i64 9] 2))) (by repeat' (first | with_reducible exact Below.refl _ _ | with_reducible refine Below.alloc ?_ ?_ _ | with_reducible refine Below.setCell ?_ ?_ _ | with_reducible refine Below.drew ?_ | with_reducible refine Below.draws ?_ _ | omega | (simp; done) | (simp; omega))))
        have Hl3 := Lib.hid (dblLit (W2.alloc (.cells #[.int .i64 0, .int .i64 1, .int .i64 2, .int .i64 3, .int .i64 4, .int .i64 5, .int .i64 6, .int .i64 7, .int .i64 8, .int .i64 9] 2)))
        rw [alloc_size] at Hl3
        have hd := Lib.hid (show ∀ k ∈ [W2.heap.size + 1], k ∉ S from fun k hk hm => by simp at hk; have := OII.ok.lt hf.out.own k hm; omega)
        have hT := Lib.hid (show ∀ j ∈ [W2.heap.size + 1], w1.heap.size ≤ j ∧ j ≠ w.heap.size + 1 from fun j hj => by simp at hj; have := hf.out.bel.size; omega)
        have d2 := heap_cell hf.out.box (i := 2) rfl
        clear hm Hl0 hf
        go_wp2_with (at_builtin; refine wpList_push rfl _ _ 38 rfl OI.ok Try.underlying38 infoSl' rfl hf3.out.own Hl3.out hd.out (by have := hln.out; omega) (by have := hln.out; unfold maxLen; omega) rfl (by rw [alloc_size, alloc_size]; rfl) ?_; intro v7 w7 S8 ho7 hn7 hS8; obtain ⟨a12, n12, c12, rfl⟩ := ho7.isSlice; obtain ⟨hbx7, hst7⟩ := hf3.out.push OII.ok (i := 2) (by rfl) hT.out ho7 hn7 hS8; have f7 := frozen_at hbx7 2; have e7 := heap_cell hbx7 (i := 2) rfl; have Hst7 := Lib.hid hst7; clear ho7 hn7 hS8 hbx7 hst7)
        go_roundw
        case rel => exact ⟨i + 1, (K : Int) - 1, _, _, by omega, by omega, by go_num, by rw [hsu.out]; exact Hst7⟩
        case measure => (first | (simp [intOf]; done) | (simp [intOf]; omega))
    · obtain ⟨hie⟩ : Nonempty (i = P) := ⟨by omega⟩
      rw [hie] at hf
      have hrk : RdII (· < W2.heap.size) W2 _ (luO P) := OII.leads.to _ _ _ _ _ hf.out.own (OII.ok.lt hf.out.own)
      have hra : RdII (· < W2.heap.size) W2 (.slice a0 n0 c0) ((luO P).map id) := by rw [List.map_id]; exact hrk
      have hcl := specL03Chain id hrk hra (Nat.le_refl _) 10 10 0 (by rw [luO, fromL_len]; omega) (by omega) (luO_bd P)
      rw [show ((10 : Nat) : Int) = 10 from rfl, show ((0 : Nat) : Int) = 0 from rfl] at hcl
      have Hcl := Lib.hid hcl
      have d2 := heap_cell hf.out.box (i := 2) rfl
      have Hz2 := Lib.hid (below_heap hf.out.bel Hz1.out)
      have Hbw := Lib.hid (show Below w.heap.size w W2 from Hb1.out.trans (hf.out.bel.mono (by omega)))
      have hzz2 : w.heap.size < W2.heap.size := heap_lt Hz2.out
      clear hcl hrk hra hie hf
      go_wp2_with fail
      refine (Calls.mono Hcl.out ?_)
      rintro e w6 ⟨v6, rfl, hf6⟩
      obtain ⟨u, p, rfl, a7, n7, c7, a8, n8, c8, rfl, rfl⟩ := hf6.aggC
      have hz6 := below_heap hf6.bel Hz2.out
      have z0 := heap_cell hz6 (i := 0) rfl
      have z1 := heap_cell hz6 (i := 1) rfl
      have z2 := heap_cell hz6 (i := 2) rfl
      have z3 := heap_cell hz6 (i := 3) rfl
      have z4 := heap_cell hz6 (i := 4) rfl
      have z5 := heap_cell hz6 (i := 5) rfl
      have f0 := frozen_at hz6 0
      have f1 := frozen_at hz6 1
      have f2 := frozen_at hz6 2
      have f3 := frozen_at hz6 3
      have f4 := frozen_at hz6 4
      have f5 := frozen_at hz6 5
      have Hf := Lib.hid (show Fresh OC W2 w6 _ (luC P) from hf6)
      clear hf6 hz6 d2
      go_wp2
      refine bodyPost_ret (v := .agg #[.int .i64 (addC (luO P) id 10 10 0).base, .int .i64 (addC (luO P) id 10 10 0).states, .int .i64 (addC (luO P) id 10 10 0).start, .int .i64 (addC (luO P) id 10 10 0).stop, .slice a7 n7 c7, .slice a8 n8 c8]) (by simp [results, Try.results75, go_sem, z0, z1, z2, z3, z4, z5]) rfl ⟨_, rfl, Fresh.turned OC.ok Hf.out Hbw.out hzz2 (by repeat' (first | with_reducible exact Only.refl _ _ | with_reducible refine Only.put ?_ ?_ _ _ | (simp; done)))⟩
end Go.Proofs.Ytnpkanlieflbiaa
