/- Numbers of beginnings and of words that lead two states to the end, walked: the reference's. -/
import Derived.Test.YtnpkanlieflbiaaE6
import Derived.Test.YtnpkanlieflbiaaE1
import Derived.Test.YtnpkanlieflbiaaF2
import Derived.Test.YtnpkanlieflbiaaE9
import Derived.Test.YtnpkanlieflbiaaD4
import Derived.Test.YtnpkanlieflbiaaE10
namespace Go.Proofs.Ytnpkanlieflbiaa
open Go.RowKit
set_option linter.unusedVariables false

/-- A slice of one row. -/
theorem Own.oneRow {w : World} {u : Value} {r : List Int} {T : List Nat} (hu : OI w u r T) : OII (w.alloc (.cells #[u] 22)) (.slice (some ⟨w.heap.size, 0, none⟩) 1 1) [r] (w.heap.size :: T) := by
  have hlt := OI.ok.lt hu
  refine .inr ⟨w.heap.size, 1, #[u], [T], rfl, heap_alloc_new w _, rfl, by simp, by unfold maxLen; omega, by simp, ?_, rfl, fun i hi => ?_⟩
  · exact List.nodup_cons.2 ⟨fun h => by have := hlt _ h; omega, OI.ok.nodup hu⟩
  · obtain rfl : i = 0 := by simpa using hi
    exact ⟨u, rfl, OI.ok.keep hu fun k hk => Below.heap_alloc w _ k (hlt k hk)⟩
theorem Grid.snoc {m r : Nat} {t : List (List Int)} {q : List Int} {f : Nat → Nat → Nat} (h : Grid m r t f) (hq : Row r q (f m)) : Grid (m + 1) r (t ++ [q]) f := by
  refine ⟨by rw [List.length_append, h.1]; rfl, fun j hj => ?_⟩
  by_cases e : j < m
  · rw [nth_append_left (by rw [h.1]; exact e)]; exact h.2 j e
  · obtain rfl : j = m := by omega
    have e2 := nth_append_last t q
    rw [h.1] at e2
    rw [e2]
    exact hq
theorem Row.grid1 {r : Nat} {q : List Int} {f : Nat → Nat → Nat} (h : Row r q (f 0)) : Grid 1 r [q] f := by
  refine ⟨rfl, fun j hj => ?_⟩
  obtain rfl : j = 0 := by omega
  exact h

end Go.Proofs.Ytnpkanlieflbiaa
/- Numbers of words that lead two states to the end, walked: the reference's, one row a place. -/
namespace Go.Proofs.Ytnpkanlieflbiaa
open Go.RowKit
set_option linter.unusedVariables false

/-- Pairs of states, in one row. -/
def pairV (x : Chn) (NS k y : Nat) : Nat := bothV x k (y / NS) (y % NS)
theorem pair_at {NS s t : Nat} (ht : t < NS) : (s * NS + t) / NS = s ∧ (s * NS + t) % NS = t := by
  rw [Nat.mul_comm s]
  exact ⟨by rw [Nat.mul_add_div (by omega), Nat.div_eq_of_lt ht, Nat.add_zero], by rw [Nat.mul_add_mod, Nat.mod_eq_of_lt ht]⟩
theorem pairV_at (x : Chn) {NS k s t : Nat} (ht : t < NS) : pairV x NS k (s * NS + t) = bothV x k s t := by
  unfold pairV; rw [(pair_at ht).1, (pair_at ht).2]
theorem pair_lt {NS s t : Nat} (hs : s < NS) (ht : t < NS) : s * NS + t < NS * NS := by
  have := Nat.mul_le_mul_right NS (show s + 1 ≤ NS by omega)
  rw [Nat.succ_mul] at this
  omega
theorem pair_eq {NS y E : Nat} (hE : E < NS) : (y / NS = E ∧ y % NS = E) ↔ y = E * NS + E := by
  constructor
  · rintro ⟨h1, h2⟩
    have := Nat.div_add_mod y NS
    rw [h1, h2, Nat.mul_comm] at this
    exact this.symm
  · rintro rfl
    exact pair_at hE
theorem pairs_start (x : Chn) {NS : Nat} (hE : x.stop.toNat < NS) (j y : Nat) (hj : j < x.n + 1) : (if j = x.n ∧ y = x.stop.toNat * NS + x.stop.toNat then 1 else 0) = rowsF (pairV x NS) x.n j y := by
  unfold rowsF pairV
  by_cases h : x.n ≤ j
  · obtain rfl : j = x.n := by omega
    rw [if_pos h, bothV_last]
    by_cases e : y = x.stop.toNat * NS + x.stop.toNat
    · rw [if_pos ⟨rfl, e⟩, if_pos ((pair_eq hE).2 e)]
    · rw [if_neg (fun h => e h.2), if_neg (fun h => e ((pair_eq hE).1 h))]
  · rw [if_neg h, if_neg (fun e => h (by omega))]
def pairsG (x : Chn) : List (List Int) := gridL (x.n + 1) (x.S * x.S) (pairV x x.S)

set_option maxHeartbeats 3200000 in
set_option maxRecDepth 10000 in
theorem specPairs {B bx : Nat} {x : Chn} {w : World} (h : BoxC (· < B) w bx x) (hB : B ≤ w.heap.size) (hbx : bx < w.heap.size) (hv : VC x) :
    Calls Try.prog 148 #[.pointer (some ⟨bx, 0, none⟩)] w fun e w' => ∃ v, e = .returned v ∧ Fresh OII w w' v (pairsG x) := by
  have hnat := hv.nat
  have H := Lib.hid h
  have Hv := Lib.hid hv; clear hv
  obtain ⟨a, c, a', c', g0, g1, g2, g3, g4, g5, hu, hpp, ⟨h1, h2⟩, h3, h4⟩ := h.cells
  obtain ⟨NS, hNS⟩ : ∃ n : Nat, n = x.S := ⟨_, rfl⟩
  obtain ⟨NB, hNB⟩ : ∃ n : Nat, n = x.b := ⟨_, rfl⟩
  obtain ⟨NE, hNE⟩ : ∃ n : Nat, n = x.stop.toNat := ⟨_, rfl⟩
  rw [show x.base = (NB : Int) by have := Hv.out.base; rw [hNB]; show x.base = (x.base.toNat : Int); omega] at g0
  rw [show x.states = (NS : Int) by have := Hv.out.states; rw [hNS]; show x.states = (x.states.toNat : Int); omega] at g1
  rw [show x.stop = (NE : Int) by have := Hv.out.stop; rw [hNE]; omega] at g3
  rw [← hNS, ← hNB, ← hNE] at hnat
  have HNS := Lib.hid hNS; clear hNS
  have HNB := Lib.hid hNB; clear hNB
  have HNE := Lib.hid hNE; clear hNE
  clear hu hpp h g2 g4
  unfold maxLen at h4
  simp only [Chn.n] at hnat
  obtain ⟨M2, hM2⟩ : ∃ n : Nat, n = NS * NS := ⟨_, rfl⟩
  have hM2b : M2 ≤ 1296 := by
    have := Nat.mul_le_mul hnat.2.1.2 hnat.2.1.2
    omega
  have wM2 : IntKind.i64.wrap ((NS : Int) * (NS : Int)) = (M2 : Int) := by
    rw [hM2, Int.natCast_mul]
    refine IntWalk.i64_in _ ?_
    have : ((M2 : Nat) : Int) = (NS : Int) * (NS : Int) := by rw [hM2, Int.natCast_mul]
    omega
  have hidx := Lib.hid (fun (s t : Nat) (hs : s < NS) (ht : t < NS) => (show s * NS + t < M2 ∧ IntKind.i64.wrap ((s : Int) * (NS : Int)) = ((s * NS : Nat) : Int) ∧ IntKind.i64.wrap (((s * NS : Nat) : Int) + (t : Int)) = ((s * NS + t : Nat) : Int) by
    have h := pair_lt hs ht
    rw [← hM2] at h
    have e1 : ((s * NS : Nat) : Int) = (s : Int) * (NS : Int) := by rw [Int.natCast_mul]
    have e2 : ((s * NS + t : Nat) : Int) = ((s * NS : Nat) : Int) + (t : Int) := by rw [Int.natCast_add]
    exact ⟨h, by rw [← e1]; exact IntWalk.i64_in _ (by omega), by rw [← e2]; exact IntWalk.i64_in _ (by omega)⟩))
  have HM2 := Lib.hid hM2; clear hM2
  have hmk2 := run_make_row' (P := Try.prog) 22 2 (.int .i64 0) 8 Try.underlying22 infoI64 rfl .i64 .i64 M2 (by omega) (by omega)
  go_enter Try.func148, Try.ntmps148
  go_wp2
  go_loopw [4, 5] (fun s i wr => ∃ k : Nat, k ≤ x.places.length + 1 ∧ i = .int .i64 k ∧ ∃ S, OII wr s (List.replicate k (List.replicate M2 0)) S ∧ Hid (∀ k ∈ S, w.heap.size ≤ k) ∧ Below w.heap.size w wr) (fun _ i _ => x.places.length + 1 - (intOf i).toNat)
  case atStart =>
    have hf : Fresh OII w _ _ [] := Fresh.empty (E := 22) (R := OI) (Below.refl w.heap.size w)
    exact ⟨0, Nat.zero_le _, rfl, hf.choose, hf.choose_spec.1, Lib.hid hf.choose_spec.2.1, hf.choose_spec.2.2⟩
  case round =>
    obtain ⟨k, hk, rfl, S, hown, hS, hbel⟩ := hrel
    obtain ⟨W2, rfl⟩ : ∃ W2, W2 = wr := ⟨_, rfl⟩
    have e1 : W2.cell? ⟨bx, 1, none⟩ = some (.int .i64 NS) := (hbel.cell (p := ⟨bx, 1, none⟩) hbx).trans g1
    by_cases hlt : k ≤ x.places.length
    · have hr1 := Own.made W2.drew 2 fI 0 M2 (by unfold maxLen; omega)
      have hown1 : OII (W2.drew.alloc (.cells (madeCells #[fI 0] M2) 2)) _ _ S := Own.alloc OI.ok (OII.ok.keep hown fun _ _ => rfl) (.cells (madeCells #[fI 0] M2) 2)
      have hln := Lib.hid (show (List.replicate k (List.replicate M2 (0 : Int))).length = k by simp)
      have Hown := Lib.hid hown1
      have hd := Lib.hid (show ∀ j ∈ [W2.heap.size], j ∉ S from fun j hj hm => by simp at hj; have h2 := OII.ok.lt hown j hm; omega)
      have Hr1 := Lib.hid (show OI (W2.drew.alloc (.cells (madeCells #[fI 0] M2) 2)) (.slice (some ⟨W2.heap.size, 0, none⟩) M2 M2) (List.replicate M2 0) [W2.heap.size] from hr1)
      have hbel1 := Lib.hid (hbel.drew.alloc (by show w.heap.size ≤ W2.heap.size; exact hbel.size) (.cells (madeCells #[fI 0] M2) 2))
      have hwsz := hbel.size
      have hisl := hown.isSlice
      clear hown1 hown hr1 hbel
      obtain ⟨av, nv, cv, rfl⟩ := hisl
      go_wp2
      go_region_law (refine step_push rfl _ _ 38 rfl OI.ok Try.underlying38 infoSl' rfl (W2.drew.alloc (.cells (madeCells #[fI 0] M2) 2)) Hown.out (List.replicate M2 0) [W2.heap.size] Hr1.out hd.out (by rw [hln.out]; omega) (by rw [hln.out]; unfold maxLen; omega) rfl (by rw [alloc_size]; rfl) rfl ?_; intro v1 w1 S1 hown1 honly1 hS1; have Hon := Lib.hid hown1; have Hol := Lib.hid honly1; have HS1 := Lib.hid hS1; clear hown1 honly1 hS1)
      all_goals go_wp2
      all_goals go_roundw
      all_goals first
        | (simp [intOf]; omega)
        | (refine ⟨k + 1, by omega, by go_num, S1, by rw [List.replicate_succ']; exact Hon.out, Lib.hid fun j hj => ?_, below_only hbel1.out Hol.out hbel1.out.size fun j hj => hS.out j hj⟩
           rcases HS1.out j hj with h | h | h
           · exact hS.out j h
           · simp at h; omega
           · have h2 : (W2.drew.alloc (.cells (madeCells #[fI 0] M2) 2)).heap.size ≤ j := h
             rw [alloc_size] at h2
             have h3 : W2.heap.size + 1 ≤ j := h2
             omega)
    · obtain rfl : k = x.places.length + 1 := by omega
      have hf0 : Fresh OII w W2 _ _ := ⟨S, hown, hS.out, hbel⟩
      obtain ⟨gt, gc, rfl⟩ := hf0.shape (by simp)
      have hl := hf0.len2
      rw [show (List.replicate (x.places.length + 1) (List.replicate M2 (0 : Int))).length = x.places.length + 1 by simp] at *
      obtain ⟨_, hl2, hl3⟩ := hl
      have hg0 := Lib.hid (Grid.zeros (x.places.length + 1) M2)
      have Hf0 := Lib.hid hf0
      clear hown hf0 hbel
      unfold maxLen at hl3
      generalize List.replicate (x.places.length + 1) (List.replicate M2 (0 : Int)) = t at *
      obtain ⟨M, hM⟩ : ∃ M : Nat, M = x.places.length + 1 := ⟨_, rfl⟩
      have hM1 : x.places.length + 1 ≤ M := by omega
      have hM2' : M ≤ x.places.length + 1 := by omega
      rw [← hM] at hg0 Hf0 hl2
      rw [← hM]
      have HM := Lib.hid hM; clear hM
      have hnM : x.places.length < M := by omega
      have hEN : NE < NS := by omega
      have e3 : W2.cell? ⟨bx, 3, none⟩ = some (.int .i64 NE) := (Hf0.out.bel.cell (p := ⟨bx, 3, none⟩) hbx).trans g3
      obtain ⟨i1, i2, i3⟩ := hidx.out NE NE hEN hEN
      obtain ⟨PE, hPE⟩ : ∃ PE, PE = NE * NS + NE := ⟨_, rfl⟩
      have HPE := Lib.hid hPE
      rw [← hPE] at i1 i3
      obtain ⟨QE, hQE⟩ : ∃ QE, QE = NE * NS := ⟨_, rfl⟩
      rw [← hQE] at i2 i3
      clear hPE hQE
      obtain ⟨gx, cx, hc, q1, q2, hc2, hfz, hge, hput⟩ := Hf0.out.put2 (x := x.places.length) (y := PE) (by rw [hg0.out.1]; omega) (by rw [(hg0.out.2 _ (by omega)).1]; omega)
      rw [(hg0.out.2 _ (show x.places.length < M by omega)).1] at hc q1
      unfold maxLen at q2
      have Hput := Lib.hid (fun w2 h2 => hput w2 h2 1)
      have hg1 := Lib.hid (show Grid M M2 (set2 t x.places.length PE 1) (rowsF (pairV x NS) x.places.length) from
        (hg0.out.put (g := fun j y => if j = x.places.length ∧ y = PE then 1 else 0) (show x.places.length < M by omega) (show PE < M2 by omega) (by simp) (fun i j _ _ hne => if_neg hne)).congr (fun j y hj _ => by rw [HPE.out, HNE.out]; exact pairs_start x (by rw [← HNE.out]; exact hEN) j y (by show j < x.places.length + 1; omega)))
      clear hput
      go_wp2
      refine wp_region_quiet_tail_lit 19 (by kernel_rfl) (by kernel_rfl) ?_
      simp only [List.take_succ_cons, List.take_zero, List.drop_succ_cons, List.drop_zero]
      repeat (go_big_quiet_step (fail))
      refine wpQuiet_nil ?_
      rintro _ ⟨nq, rfl⟩
      have Hf1 := Lib.hid (show Fresh OII w ((W2.drewN nq).setCell ⟨gx, PE, none⟩ (.int .i64 1)) _ _ from Hput.out (W2.drewN nq) (bel_draws rfl))
      go_wp2
      clear hc hc2 hfz e3 e1 i1 i2 i3
      go_loopw [6] (fun i wr => ∃ (c : Nat) (z : Int), c ≤ x.places.length ∧ i = .int .i64 z ∧ z = c - 1 ∧ ∃ t, Hid (Grid M M2 t (rowsF (pairV x NS) c)) ∧ Hid (Fresh OII w wr (.slice (some ⟨gt, 0, none⟩) M gc) t)) (fun i _ => (intOf i + 1).toNat)
      case atStart => exact ⟨x.places.length, _, Nat.le_refl _, rfl, rfl, _, hg1, Hf1⟩
      case round =>
        clear Hf1 hg1 Hf0 hg0 Hput hge q1 q2 hS
        obtain ⟨cc, z, hcl, rfl, hz, t, hg, hf⟩ := hrel
        obtain ⟨W3, rfl⟩ : ∃ W, W = wr := ⟨_, rfl⟩
        by_cases hc1 : 1 ≤ cc
        · obtain ⟨k, rfl⟩ : ∃ k, cc = k + 1 := ⟨cc - 1, by omega⟩
          obtain rfl : z = (k : Nat) := by omega
          clear hz
          have hgm := Lib.hid (show Grid M M2 t (midF (pairV x NS) k (0 * NS) 0) by rw [Nat.zero_mul]; exact hg.out.congr (fun j y _ _ => midF_start (pairV x NS) k j y))
          go_wp2
          go_loopw [7] (fun i wr => ∃ s : Nat, s ≤ NS ∧ i = .int .i64 s ∧ ∃ t, Hid (Grid M M2 t (midF (pairV x NS) k (s * NS) 0)) ∧ Hid (Fresh OII w wr (.slice (some ⟨gt, 0, none⟩) M gc) t)) (fun i _ => NS - (intOf i).toNat)
          case atStart => exact ⟨0, Nat.zero_le _, rfl, _, hgm, hf⟩
          case round =>
            clear hgm hg hf
            obtain ⟨s, hs, rfl, t, hg, hf⟩ := hrel
            obtain ⟨W4, rfl⟩ : ∃ W, W = wr := ⟨_, rfl⟩
            have e1 : W4.cell? ⟨bx, 1, none⟩ = some (.int .i64 NS) := (hf.out.bel.cell (p := ⟨bx, 1, none⟩) hbx).trans g1
            by_cases hls : s < NS
            · have hgm := Lib.hid (show Grid M M2 t (midF (pairV x NS) k (s * NS + 0) 0) from hg.out)
              go_wp2
              go_loopw [8] (fun i wr => ∃ y : Nat, y ≤ NS ∧ i = .int .i64 y ∧ ∃ t, Hid (Grid M M2 t (midF (pairV x NS) k (s * NS + y) 0)) ∧ Hid (Fresh OII w wr (.slice (some ⟨gt, 0, none⟩) M gc) t)) (fun i _ => NS - (intOf i).toNat)
              case atStart => exact ⟨0, Nat.zero_le _, rfl, _, hgm, hf⟩
              case round =>
                clear hgm hg hf e1
                obtain ⟨y, hy, rfl, t, hg, hf⟩ := hrel
                obtain ⟨W5, rfl⟩ : ∃ W, W = wr := ⟨_, rfl⟩
                have e1 : W5.cell? ⟨bx, 1, none⟩ = some (.int .i64 NS) := (hf.out.bel.cell (p := ⟨bx, 1, none⟩) hbx).trans g1
                by_cases hly : y < NS
                · go_wp2
                  go_loopw [9] (fun i wr => ∃ d : Nat, d ≤ NB ∧ i = .int .i64 d ∧ ∃ t, Hid (Grid M M2 t (midF (pairV x NS) k (s * NS + y) (bothP x k s y d))) ∧ Hid (Fresh OII w wr (.slice (some ⟨gt, 0, none⟩) M gc) t)) (fun i _ => NB - (intOf i).toNat)
                  case atStart => exact ⟨0, Nat.zero_le _, rfl, _, hg, hf⟩
                  case round =>
                    clear hg hf e1
                    obtain ⟨d, hd, rfl, t, hg, hf⟩ := hrel
                    obtain ⟨W6, rfl⟩ : ∃ W, W = wr := ⟨_, rfl⟩
                    have e0 : W6.cell? ⟨bx, 0, none⟩ = some (.int .i64 NB) := (hf.out.bel.cell (p := ⟨bx, 0, none⟩) hbx).trans g0
                    have e1 : W6.cell? ⟨bx, 1, none⟩ = some (.int .i64 NS) := (hf.out.bel.cell (p := ⟨bx, 1, none⟩) hbx).trans g1
                    by_cases hld : d < NB
                    · have hkn : k < x.n := by show k < x.places.length; omega
                      have hsS : s < x.S := by rw [← HNS.out]; exact hls
                      have hyS : y < x.S := by rw [← HNS.out]; exact hly
                      have hdb : d < x.b := by rw [← HNB.out]; exact hld
                      have hn1 := (Hv.out.cellN hkn hsS hdb).2
                      have hn2 := (Hv.out.cellN hkn hyS hdb).2
                      rw [← HNS.out] at hn1 hn2
                      have hbox6 := H.out.below hf.out.bel hB hbx
                      have hcl1 := Lib.hid (fun m => specNext (hbox6.draws m) Hv.out k s d hkn hsS hdb)
                      have hcl2 := Lib.hid (fun m => specNext (hbox6.draws m) Hv.out k y d hkn hyS hdb)
                      have hEs := Lib.hid (bothP_succ x k s y d)
                      have hE1 := bothP_le Hv.out hkn s y (d := d) (by omega)
                      have hE2 := Hv.out.bothLe (k + 1) (nxt x k s d) (nxt x k y d)
                      obtain ⟨i1, i2, i3⟩ := hidx.out s y hls hly
                      obtain ⟨j1, j2, j3⟩ := hidx.out (nxt x k s d) (nxt x k y d) hn1 hn2
                      have hpv := Lib.hid (pairV_at x (NS := NS) (k := k + 1) (s := nxt x k s d) (t := nxt x k y d) hn2)
                      obtain ⟨gx, cx, hc, q1, q2, hc2, hfz, hge, hput⟩ := hf.out.put2 (x := k) (y := s * NS + y) (by rw [hg.out.1]; omega) (by rw [(hg.out.2 _ (by omega)).1]; omega)
                      rw [(hg.out.2 _ (show k < M by omega)).1] at hc q1
                      rw [(hg.out.2 _ (show k < M by omega)).2 _ i1, midF_at] at hc2
                      obtain ⟨gy, cy, hcy, q3, q4, hcy2, _, _, _⟩ := hf.out.put2 (x := k + 1) (y := nxt x k s d * NS + nxt x k y d) (by rw [hg.out.1]; omega) (by rw [(hg.out.2 _ (by omega)).1]; omega)
                      rw [(hg.out.2 _ (show k + 1 < M by omega)).1] at hcy q3
                      rw [(hg.out.2 _ (show k + 1 < M by omega)).2 _ j1, midF_below, hpv.out] at hcy2
                      have hgn := Lib.hid (hg.out.put (g := midF (pairV x NS) k (s * NS + y) (bothP x k s y (d + 1))) (show k < M by omega) i1 (z := (bothP x k s y d : Int) + bothV x (k + 1) (nxt x k s d) (nxt x k y d)) (by rw [midF_at, hEs.out]; omega) (fun i j _ _ hne => midF_other _ _ _ _ _ _ _ hne))
                      have Hput := Lib.hid hput
                      unfold maxLen at q2 q4
                      clear hput hkn hsS hyS hdb hg hbox6
                      generalize bothP x k s y d = P at *
                      generalize hNX : nxt x k s d = nx at *
                      have HNX := Lib.hid hNX; clear hNX
                      generalize hNY : nxt x k y d = ny at *
                      have HNY := Lib.hid hNY; clear hNY
                      generalize bothV x (k + 1) nx ny = E at *
                      generalize nx * NS + ny = jp at *
                      generalize nx * NS = jq at *
                      generalize hip : s * NS + y = ip at *
                      have Hip := Lib.hid hip; clear hip
                      generalize hiq : s * NS = iq at *
                      have Hiq := Lib.hid hiq; clear hiq
                      go_wp2
                      have w1 : IntKind.i64.wrap ((k : Int) + 1) = (k : Int) + 1 := IntWalk.i64_in _ (by omega)
                      have w2 : IntKind.i64.wrap ((P : Int) + E) = (P : Int) + E := IntWalk.i64_in _ (by omega)
                      have w3 : (0 : Int) ≤ (k : Int) + 1 := by omega
                      have w4 : ((k : Int) + 1).toNat = k + 1 := by omega
                      have w5 : (0 : Int) ≤ (k : Int) := by omega
                      have w6 : (k : Int) < (M : Int) := by omega
                      have w7 : (k : Int) + 1 < (M : Int) := by omega
                      have w8 : (0 : Int) ≤ (ip : Int) := by omega
                      have w9 : (ip : Int) < (M2 : Int) := by omega
                      have w10 : (0 : Int) ≤ (jp : Int) := by omega
                      have w11 : (jp : Int) < (M2 : Int) := by omega
                      refine wp_region_quiet_tail_lit 39 (by kernel_rfl) (by kernel_rfl) ?_
                      simp only [List.take_succ_cons, List.take_zero, List.drop_succ_cons, List.drop_zero]
                      repeat (go_big_quiet_step (first | with_reducible exact quiet_draws (hcl1.out _) | with_reducible exact quiet_draws (hcl2.out _)))
                      refine wpQuiet_nil ?_
                      rintro _ ⟨nq, rfl⟩
                      have Hp6 := Lib.hid (Hput.out (W6.drewN nq) (bel_draws rfl) ((P : Int) + E))
                      go_wp2
                      go_roundw
                      case rel => exact ⟨d + 1, by omega, by go_num, _, hgn, Hp6⟩
                      case measure => simp [intOf]; omega
                    · obtain rfl : d = NB := by omega
                      have hgn := Lib.hid (show Grid M M2 t (midF (pairV x NS) k (s * NS + (y + 1)) 0) from hg.out.congr (fun j q _ _ => by rw [HNB.out, bothP_all x (by show k < x.places.length; omega) s y, ← pairV_at x (k := k) (s := s) hly]; exact midF_next (pairV x NS) k (s * NS + y) j q))
                      go_wp2
                      go_roundw
                      case rel => exact ⟨y + 1, by omega, by go_num, _, hgn, hf⟩
                      case measure => simp [intOf]; omega
                · obtain ⟨hyn⟩ : Nonempty (y = NS) := ⟨by omega⟩
                  have hgn := Lib.hid (show Grid M M2 t (midF (pairV x NS) k ((s + 1) * NS) 0) by rw [Nat.succ_mul]; rw [hyn] at hg; exact hg.out)
                  clear hyn
                  go_wp2
                  go_roundw
                  case rel => exact ⟨s + 1, by omega, by go_num, _, hgn, hf⟩
                  case measure => simp [intOf]; omega
            · obtain ⟨hsn⟩ : Nonempty (s = NS) := ⟨by omega⟩
              have hgn := Lib.hid (show Grid M M2 t (rowsF (pairV x NS) k) by rw [hsn, ← HM2.out] at hg; exact hg.out.congr (fun j y _ hy => midF_end (pairV x NS) k M2 j y hy))
              clear hsn
              go_wp2
              go_roundw
              case rel => exact ⟨k, (k : Int) - 1, by omega, rfl, rfl, _, hgn, hf⟩
              case measure => (show ((k : Int) - 1 + 1).toNat < ((k : Int) + 1).toNat; omega)
        · obtain rfl : cc = 0 := by omega
          obtain rfl : z = -1 := by omega
          clear hz
          have e := (hg.out.congr (g := pairV x NS) (fun j y _ _ => by unfold rowsF; rw [if_pos (Nat.zero_le _)])).eq
          have hr := Lib.hid (show t = pairsG x by rw [e, HM2.out, HNS.out, HM.out]; rfl)
          clear e
          go_wp2
          go_ret
          exact ⟨_, rfl, by rw [← hr.out]; exact hf.out⟩
end Go.Proofs.Ytnpkanlieflbiaa
/- Numbers of undetected errors at a place, walked: the reference's. -/
namespace Go.Proofs.Ytnpkanlieflbiaa
open Go.RowKit
set_option linter.unusedVariables false

theorem pairIx (NS s t : Nat) (hN : NS ≤ 36) (hs : s < NS) (ht : t < NS) : s * NS + t < NS * NS ∧ IntKind.i64.wrap ((s : Int) * (NS : Int)) = ((s * NS : Nat) : Int) ∧ IntKind.i64.wrap (((s * NS : Nat) : Int) + (t : Int)) = ((s * NS + t : Nat) : Int) := by
  have h := pair_lt hs ht
  have h2 := Nat.mul_le_mul hN hN
  have e1 : ((s * NS : Nat) : Int) = (s : Int) * (NS : Int) := by rw [Int.natCast_mul]
  have e2 : ((s * NS + t : Nat) : Int) = ((s * NS : Nat) : Int) + (t : Int) := by rw [Int.natCast_add]
  exact ⟨h, by rw [← e1]; exact IntWalk.i64_in _ (by omega), by rw [← e2]; exact IntWalk.i64_in _ (by omega)⟩
theorem gridL_row {m r j : Nat} (f : Nat → Nat → Nat) (h : j < m) : nth (gridL m r f) j = rowL r (f j) := by rw [gridL, nth_range_map h]; rfl
theorem stP_done (F : List Int × List Int → Nat → Nat) (W : List (List Int × List Int)) (s k : Nat) (h : ∀ p, F p s = 0) : stP F W s k = stP F W (s + 1) 0 := by
  rw [stP_zero, sumN_succ]
  unfold stP
  rw [sumL_zero fun p _ => h p, sumL_zero fun p _ => h p]
/-- A row of a grid that was made, as it is read. -/
theorem gridRow {w0 w : World} {v : Value} {m r mm rr j : Nat} {f : Nat → Nat → Nat} (hf : Fresh OII w0 w v (gridL m r f)) (hm : m = mm) (hr : r = rr) (hj : j < mm) :
    ∃ g c a1 c1, v = .slice (some ⟨g, 0, none⟩) mm c ∧ w.cell? ⟨g, j, none⟩ = some (.slice a1 rr c1) ∧ RdI (· < w.heap.size) w (.slice a1 rr c1) (rowL rr (f j)) ∧ rr ≤ c1 ∧ c1 ≤ maxLen ∧ mm ≤ c ∧ c ≤ maxLen := by
  subst hm
  subst hr
  have hl := gridL_len m r f
  obtain ⟨g, c, rfl⟩ := hf.shape (by rw [hl]; omega)
  rw [hl] at hf
  have hrd := hf.rd OII.leads OII.ok
  have h3 := hf.len2
  obtain ⟨b, o, a1, c1, e, _, hc, q1, q2, hr⟩ := Rd.row hrd (x := j) (by rw [hl]; exact hj)
  simp only [Option.some.injEq, Addr.mk.injEq, and_true] at e
  obtain ⟨rfl, rfl⟩ := e
  rw [gridL_row f hj] at hc q1 hr
  rw [rowL_len] at hc q1 hr
  rw [Nat.zero_add] at hc
  exact ⟨_, c, a1, c1, by rw [hl], hc, hr, q1, q2, h3.2⟩

/-- What is known of each error that is listed. -/
theorem wrongP_digs {kind : Int} {b : Nat} (hb : 2 ≤ b) (hb10 : kind = 5 → 10 ≤ b) {p : List Int × List Int} (h : p ∈ wrongP kind b) : Digs b p.1 ∧ Digs b p.2 ∧ p.1.length = errLen kind ∧ p.2.length = errLen kind := by
  unfold wrongP at h
  obtain ⟨i, _, h2⟩ := List.mem_flatMap.1 h
  obtain ⟨t, ht, rfl⟩ := List.mem_map.1 h2
  have hl := tup_length b (errLen kind) i
  have hd := tup_digs (b := b) (by omega) (errLen kind) i
  have hc := chg_digs (kind := kind) (b := b) hb10 hb hd hl t ht
  exact ⟨hd, hc.1, hl, hc.2.trans hl⟩

end Go.Proofs.Ytnpkanlieflbiaa
