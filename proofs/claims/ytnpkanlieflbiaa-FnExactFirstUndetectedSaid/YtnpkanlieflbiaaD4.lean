/- Numbers of words, walked. -/
import Derived.Test.YtnpkanlieflbiaaD3
import Derived.Test.YtnpkanlieflbiaaC3
import Derived.Deep.RegionWith
import Derived.Deep.CutRange
import Derived.RegionTactic
import Derived.Deep.RegionHeld3
import Derived.IntWalk
namespace Go.Proofs.Ytnpkanlieflbiaa
open Go.RowKit
set_option linter.unusedVariables false

theorem bel_draws {w w' : World} {m : Nat} (h : w.drewN m = w') : Below w.heap.size w w' := by subst h; exact ⟨rfl, rfl, rfl, Nat.le_refl _, fun _ _ => rfl⟩
theorem BoxC.below {B bx : Nat} {x : Chn} {w w' : World} (h : BoxC (· < B) w bx x) (hb : Below w.heap.size w w') (hB : B ≤ w.heap.size) (hbx : bx < w.heap.size) : BoxC (· < B) w' bx x := h.keep fun k hk => hb.block k (by omega)

end Go.Proofs.Ytnpkanlieflbiaa
/- Numbers of words, walked: impl. -/
namespace Go.Proofs.Ytnpkanlieflbiaa
open Go.RowKit
set_option linter.unusedVariables false

set_option maxHeartbeats 1600000 in
set_option maxRecDepth 10000 in
theorem implEnds {B bx : Nat} {x : Chn} {w : World} (h : BoxC (· < B) w bx x) (hB : B ≤ w.heap.size) (hbx : bx < w.heap.size) (hv : VC x) :
    Calls Try.prog 114 #[.pointer (some ⟨bx, 0, none⟩)] w fun e w' => ∃ v, e = .returned v ∧ Fresh OII w w' v (endsG x) := by
  have hnat := hv.nat
  have H := Lib.hid h
  have Hv := Lib.hid hv; clear hv
  obtain ⟨a, c, a', c', g0, g1, g2, g3, g4, g5, hu, hp, ⟨h1, h2⟩, h3, h4⟩ := h.cells
  obtain ⟨NS, hNS⟩ : ∃ n : Nat, n = x.S := ⟨_, rfl⟩
  obtain ⟨NB, hNB⟩ : ∃ n : Nat, n = x.b := ⟨_, rfl⟩
  obtain ⟨NE, hNE⟩ : ∃ n : Nat, n = x.stop.toNat := ⟨_, rfl⟩
  rw [show x.base = (NB : Int) by have := Hv.out.base; rw [hNB]; show x.base = (x.base.toNat : Int); omega] at g0
  rw [show x.states = (NS : Int) by have := Hv.out.states; rw [hNS]; show x.states = (x.states.toNat : Int); omega] at g1
  rw [show x.stop = (NE : Int) by have := Hv.out.stop; rw [hNE]; omega] at g3
  rw [← hNS, ← hNB, ← hNE] at hnat
  have HNS := Lib.hid hNS; clear hNS
  have HNB := Lib.hid hNB; clear hNB
  have HNE := Lib.hid hNE; clear hNE
  clear hu hp h g2 g4
  unfold maxLen at h2 h4
  simp only [Chn.n] at hnat
  have hmk2 := run_make_row' (P := Try.prog) 22 2 (.int .i64 0) 8 Try.underlying22 infoI64 rfl .i64 .i64 NS (by omega) (by omega)
  have hmk := run_make_row' (P := Try.prog) 129 22 (.slice none 0 0) 24 Try.underlying129 infoSl' rfl .i64 .i64 (x.places.length + 1) (by omega) (by omega)
  rw [show ((x.places.length + 1 : Nat) : Int) = (x.places.length : Int) + 1 by omega] at hmk
  go_enter Try.func114, Try.ntmps114
  go_wp2
  go_loopw [19] (fun i wr => ∃ k : Nat, k ≤ x.places.length + 1 ∧ i = .int .i64 k ∧ ∃ t, Hid (t.length = x.places.length + 1 ∧ ∀ i, i < k → nth t i = List.replicate NS 0) ∧ ∃ S, OII wr (.slice (some ⟨w.heap.size, 0, none⟩) (x.places.length + 1) (x.places.length + 1)) t S ∧ Hid (∀ k ∈ S, w.heap.size ≤ k) ∧ Below w.heap.size w wr) (fun i _ => x.places.length + 1 - (intOf i).toNat)
  case atStart => exact ⟨0, Nat.zero_le _, rfl, List.replicate (x.places.length + 1) [], Lib.hid ⟨by simp, fun _ h => absurd h (Nat.not_lt_zero _)⟩, _, Own.madeR w _ own_nil _ (by unfold maxLen; omega), Lib.hid (by simp), (Below.refl _ _).alloc (Nat.le_refl _) _⟩
  case round =>
    obtain ⟨k, hk, rfl, t, ht, S, hown, hS, hbel⟩ := hrel
    have e1 : wr.cell? ⟨bx, 1, none⟩ = some (.int .i64 NS) := (hbel.cell (p := ⟨bx, 1, none⟩) hbx).trans g1
    by_cases hlt : k < x.places.length + 1
    · have htl := ht.out.1
      have hr1 := Own.made wr 2 fI 0 NS (by unfold maxLen; omega)
      have hown1 := Own.alloc OI.ok hown (.cells (madeCells #[fI 0] NS) 2)
      obtain ⟨S', hp, hS'⟩ := hown1.putR OI.ok (i := k) (by omega) hr1 (fun j hj hm => by simp at hj; have h2 := OII.ok.lt hown j hm; omega)
      obtain ⟨u0, T0, hc0, _⟩ := hown1.at (i := k) (by omega)
      have hf0 := hown1.frozen k
      have Hp := Lib.hid hp
      have HS' := Lib.hid (show ∀ j ∈ S', w.heap.size ≤ j from fun j hj => by
        rcases hS' j hj with h | h
        · exact hS.out j h
        · simp at h; rw [h]; exact hbel.size)
      have ht2 := Lib.hid (show (t.set k (List.replicate NS (0 : Int))).length = x.places.length + 1 ∧ ∀ i, i < k + 1 → nth (t.set k (List.replicate NS (0 : Int))) i = List.replicate NS 0 from
        ⟨by rw [List.length_set]; exact htl, fun i hi => by
          rw [nth_set (by omega)]
          split
          · rfl
          · exact ht.out.2 i (by omega)⟩)
      have Hbel := Lib.hid hbel
      clear hp hS' hr1 hown1 hown hbel htl
      go_wp2
      go_roundw
      case rel => exact ⟨k + 1, by omega, by go_num, _, ht2, S', Hp.out, HS', (Hbel.out.alloc Hbel.out.size _).setCell (Nat.le_refl _) _⟩
      case measure => simp [intOf]; omega
    · obtain rfl : k = x.places.length + 1 := by omega
      have et : t = List.replicate (x.places.length + 1) (List.replicate NS 0) := ext_nth (by rw [ht.out.1]; simp) fun i hi => by rw [ht.out.1] at hi; rw [ht.out.2 i hi, nth_replicate hi]
      subst et
      clear ht
      have hf0 : Fresh OII w wr _ _ := ⟨S, hown, hS.out, hbel⟩
      clear hmk
      have hl := hf0.len2
      rw [show (List.replicate (x.places.length + 1) (List.replicate NS (0 : Int))).length = x.places.length + 1 by simp] at *
      obtain ⟨_, hl2, hl3⟩ := hl
      have hg0 := Lib.hid (Grid.zeros (x.places.length + 1) NS)
      have Hf0 := Lib.hid hf0
      clear hown hf0 hbel
      unfold maxLen at hl3
      generalize List.replicate (x.places.length + 1) (List.replicate NS (0 : Int)) = t at *
      obtain ⟨M, hM⟩ : ∃ M : Nat, M = x.places.length + 1 := ⟨_, rfl⟩
      have hM1 : x.places.length + 1 ≤ M := by omega
      have hM2 : M ≤ x.places.length + 1 := by omega
      rw [← hM] at hg0 Hf0 hl2
      rw [← hM]
      have HM := Lib.hid hM; clear hM
      have hnM : x.places.length < M := by omega
      have e3 : wr.cell? ⟨bx, 3, none⟩ = some (.int .i64 NE) := (Hf0.out.bel.cell (p := ⟨bx, 3, none⟩) hbx).trans g3
      obtain ⟨gx, cx, hc, q1, q2, hc2, hfz, hge, hput⟩ := Hf0.out.put2 (x := x.places.length) (y := NE) (by rw [hg0.out.1]; omega) (by rw [(hg0.out.2 _ (by omega)).1]; omega)
      rw [(hg0.out.2 _ (show x.places.length < M by omega)).1] at hc q1
      unfold maxLen at q2
      have Hput := Lib.hid (hput wr.drew ((Below.refl _ _).drew) 1)
      have hg1 := Lib.hid (show Grid M NS (set2 t x.places.length NE 1) (rowsF (endsV x) x.places.length) from
        (hg0.out.put (g := fun j y => if j = x.places.length ∧ y = NE then 1 else 0) (show x.places.length < M by omega) (show NE < NS by omega) (by simp) (fun i j _ _ hne => if_neg hne)).congr (fun j y hj _ => by rw [HNE.out]; exact ends_start x j y (by show j < x.places.length + 1; omega)))
      clear hput
      go_wp2
      go_still_tail 9, (by kernel_rfl)
      change wpList _ _ _ _ _ wr.drew
      generalize hwd : wr.drew = W2
      have hfz2 : W2.frozen? ⟨gx, NE, none⟩ = false := by rw [← hwd]; exact hfz
      have hc22 : W2.cell? ⟨gx, NE, none⟩ = some (.int .i64 (nth (nth t x.places.length) NE)) := by rw [← hwd]; exact hc2
      rw [hwd] at Hput
      have Hwd := Lib.hid hwd
      clear hwd hc hc2 hfz e3
      go_wp2
      go_loopw [6] (fun i wr => ∃ (c : Nat) (z : Int), c ≤ x.places.length ∧ i = .int .i64 z ∧ z = c - 1 ∧ ∃ t, Hid (Grid M NS t (rowsF (endsV x) c)) ∧ Hid (Fresh OII w wr (.slice (some ⟨w.heap.size, 0, none⟩) M M) t)) (fun i _ => (intOf i + 1).toNat)
      case atStart => exact ⟨x.places.length, _, Nat.le_refl _, rfl, rfl, _, hg1, Hput⟩
      case round =>
        clear hfz2 hc22
        obtain ⟨cc, z, hcl, rfl, hz, t, hg, hf⟩ := hrel
        obtain ⟨W3, rfl⟩ : ∃ W, W = wr := ⟨_, rfl⟩
        by_cases hc1 : 1 ≤ cc
        · obtain ⟨k, rfl⟩ : ∃ k, cc = k + 1 := ⟨cc - 1, by omega⟩
          obtain rfl : z = (k : Nat) := by omega
          clear hz
          have hgm := Lib.hid (hg.out.congr (fun j y _ _ => midF_start (endsV x) k j y))
          have e1 : W3.cell? ⟨bx, 1, none⟩ = some (.int .i64 NS) := (hf.out.bel.cell (p := ⟨bx, 1, none⟩) hbx).trans g1
          go_wp2
          go_loopw [50] (fun i wr => ∃ s : Nat, s ≤ NS ∧ i = .int .i64 s ∧ ∃ t, Hid (Grid M NS t (midF (endsV x) k s 0)) ∧ Hid (Fresh OII w wr (.slice (some ⟨w.heap.size, 0, none⟩) M M) t)) (fun i _ => NS - (intOf i).toNat)
          case atStart => exact ⟨0, Nat.zero_le _, rfl, _, hgm, hf⟩
          case round =>
            obtain ⟨s, hs, rfl, t, hg, hf⟩ := hrel
            obtain ⟨W4, rfl⟩ : ∃ W, W = wr := ⟨_, rfl⟩
            clear e1
            have e0 : W4.cell? ⟨bx, 0, none⟩ = some (.int .i64 NB) := (hf.out.bel.cell (p := ⟨bx, 0, none⟩) hbx).trans g0
            by_cases hls : s < NS
            · go_wp2
              go_loopw [57] (fun i wr => ∃ d : Nat, d ≤ NB ∧ i = .int .i64 d ∧ ∃ t, Hid (Grid M NS t (midF (endsV x) k s (endP x k s d))) ∧ Hid (Fresh OII w wr (.slice (some ⟨w.heap.size, 0, none⟩) M M) t)) (fun i _ => NB - (intOf i).toNat)
              case atStart => exact ⟨0, Nat.zero_le _, rfl, _, hg, hf⟩
              case round =>
                clear e0
                obtain ⟨d, hd, rfl, t, hg, hf⟩ := hrel
                obtain ⟨W5, rfl⟩ : ∃ W, W = wr := ⟨_, rfl⟩
                by_cases hld : d < NB
                · have hkn : k < x.n := by show k < x.places.length; omega
                  have hsS : s < x.S := by rw [← HNS.out]; exact hls
                  have hdb : d < x.b := by rw [← HNB.out]; exact hld
                  have hnx := (Hv.out.cellN hkn hsS hdb).2
                  rw [← HNS.out] at hnx
                  have hcl := Lib.hid (fun m => implNext ((H.out.below hf.out.bel hB hbx).draws m) Hv.out k s d hkn hsS hdb)
                  have hEs := Lib.hid (endP_succ x k s d)
                  have hE1 := Hv.out.endPle hkn s (d := d) (by omega)
                  have hE2 := Hv.out.endsLe (k := k + 1) (nxt x k s d)
                  obtain ⟨gx, cx, hc, q1, q2, hc2, hfz, hge, hput⟩ := hf.out.put2 (x := k) (y := s) (by rw [hg.out.1]; omega) (by rw [(hg.out.2 _ (by omega)).1]; omega)
                  rw [(hg.out.2 _ (show k < M by omega)).1] at hc q1
                  rw [(hg.out.2 _ (show k < M by omega)).2 s hls, midF_at] at hc2
                  obtain ⟨gy, cy, hcy, q3, q4, hcy2, _, _, _⟩ := hf.out.put2 (x := k + 1) (y := nxt x k s d) (by rw [hg.out.1]; omega) (by rw [(hg.out.2 _ (by omega)).1]; omega)
                  rw [(hg.out.2 _ (show k + 1 < M by omega)).1] at hcy q3
                  rw [(hg.out.2 _ (show k + 1 < M by omega)).2 _ hnx, midF_below] at hcy2
                  have hgn := Lib.hid (hg.out.put (g := midF (endsV x) k s (endP x k s (d + 1))) (show k < M by omega) hls (z := (endP x k s d : Int) + endsV x (k + 1) (nxt x k s d)) (by rw [midF_at, hEs.out]; omega) (fun i j _ _ hne => midF_other _ _ _ _ _ _ _ hne))
                  have Hput := Lib.hid hput
                  unfold maxLen at q2 q4
                  clear hput hkn hsS hdb
                  generalize endP x k s d = P at *
                  generalize hNX : nxt x k s d = nx at *
                  have HNX := Lib.hid hNX; clear hNX
                  generalize endsV x (k + 1) nx = E at *
                  go_wp2
                  have w1 : IntKind.i64.wrap ((k : Int) + 1) = (k : Int) + 1 := IntWalk.i64_in _ (by omega)
                  have w2 : IntKind.i64.wrap ((P : Int) + E) = (P : Int) + E := IntWalk.i64_in _ (by omega)
                  have w3 : (0 : Int) ≤ (k : Int) + 1 := by omega
                  have w5 : (0 : Int) ≤ (k : Int) := by omega
                  have w6 : (k : Int) < (M : Int) := by omega
                  have w7 : (k : Int) + 1 < (M : Int) := by omega
                  have w8 : (0 : Int) ≤ (s : Int) := by omega
                  have w9 : (s : Int) < (NS : Int) := by omega
                  have w10 : (0 : Int) ≤ (nx : Int) := by omega
                  have w11 : (nx : Int) < (NS : Int) := by omega
                  have w4 : ((k : Int) + 1).toNat = k + 1 := by omega
                  go_region_with (refine (Calls.mono (hcl.out _) ?_); rintro e w' ⟨rfl, m, rfl⟩)
                  all_goals go_wp2
                  all_goals go_roundw
                  all_goals first
                    | exact ⟨d + 1, by omega, by go_num, _, hgn, Lib.hid (Hput.out (W5.drewN _) (bel_draws rfl) _)⟩
                    | (simp [intOf]; omega)
                · obtain rfl : d = NB := by omega
                  have hgn := Lib.hid (show Grid M NS t (midF (endsV x) k (s + 1) 0) from hg.out.congr (fun j y _ _ => by rw [HNB.out, endP_all x (show k < x.n by show k < x.places.length; omega) s]; exact midF_next (endsV x) k s j y))
                  go_wp2
                  go_roundw
                  case rel => exact ⟨s + 1, by omega, by go_num, _, hgn, hf⟩
                  case measure => simp [intOf]; omega
            · obtain rfl : s = NS := by omega
              have hgn := Lib.hid (hg.out.congr (fun j y _ hy => midF_end (endsV x) k s j y hy))
              go_wp2
              go_roundw
              case rel => exact ⟨k, (k : Int) - 1, by omega, rfl, rfl, _, hgn, hf⟩
              case measure => (show ((k : Int) - 1 + 1).toNat < ((k : Int) + 1).toNat; omega)
        · obtain rfl : cc = 0 := by omega
          obtain rfl : z = -1 := by omega
          clear hz
          have e := (hg.out.congr (g := endsV x) (fun j y _ _ => by unfold rowsF; rw [if_pos (Nat.zero_le _)])).eq
          have hr := Lib.hid (show t = endsG x by rw [e, HNS.out, HM.out]; rfl)
          clear e
          go_wp2
          go_ret
          exact ⟨_, rfl, by rw [← hr.out]; exact hf.out⟩
end Go.Proofs.Ytnpkanlieflbiaa
/- CountWords, walked. -/
namespace Go.Proofs.Ytnpkanlieflbiaa
open Go.RowKit
set_option linter.unusedVariables false

def cntV (x : Chn) : Int := if vC x then (endsV x 0 x.start.toNat : Nat) else 0
theorem cntV_no {x : Chn} (h : vC x = false) : cntV x = 0 := by simp [cntV, h]
theorem cntV_yes {x : Chn} (h : vC x = true) : cntV x = (endsV x 0 x.start.toNat : Nat) := by simp [cntV, h]
/-- The first row of the grid of ends, where the chain lies in a box. -/
theorem ends_post {B bx : Nat} {x : Chn} {w w' : World} {v : Value} (h : BoxC (· < B) w bx x) (hbx : bx < w.heap.size) (hv : VC x) (hf : Fresh OII w w' v (endsG x)) {NS : Nat} (hNS : NS = x.S) :
    ∃ g c gx cx, v = .slice (some ⟨g, 0, none⟩) (x.places.length + 1) c ∧ (x.places.length + 1 ≤ c ∧ c ≤ 9223372036854775807) ∧ w'.cell? ⟨g, 0, none⟩ = some (.slice (some ⟨gx, 0, none⟩) NS cx) ∧ (NS ≤ cx ∧ cx ≤ 9223372036854775807) ∧
      w'.cell? ⟨gx, x.start.toNat, none⟩ = some (.int .i64 (endsV x 0 x.start.toNat)) ∧ w'.cell? ⟨bx, 2, none⟩ = some (.int .i64 x.start) ∧ Below w.heap.size w w' := by
  subst hNS
  have hnat := hv.nat
  have hst := hv.start
  have hg := gridL_grid (x.n + 1) x.S (endsV x)
  have hr0 := hg.2 0 (by omega)
  have hlen : (endsG x).length = x.places.length + 1 := hg.1
  have hrl : (nth (endsG x) 0).length = x.S := hr0.1
  have hrv : nth (nth (endsG x) 0) x.start.toNat = (endsV x 0 x.start.toNat : Nat) := hr0.2 _ hnat.2.2.1
  obtain ⟨g, c, rfl⟩ := hf.shape (by omega)
  have hl := hf.len2
  obtain ⟨gx, cx, h1, h2, h3, h4, _⟩ := hf.put2 (x := 0) (y := x.start.toNat) (by omega) (by rw [hrl]; exact hnat.2.2.1)
  rw [hlen] at hl ⊢
  rw [hrl] at h1 h2
  rw [hrv] at h4
  obtain ⟨a, c', a', c'', g0, g1, g2, _⟩ := h.cells
  unfold maxLen at h3 hl
  exact ⟨g, c, gx, cx, rfl, hl.2, h1, ⟨h2, h3⟩, h4, (hf.bel.cell (p := ⟨bx, 2, none⟩) hbx).trans g2, hf.bel⟩

set_option maxRecDepth 10000 in
theorem implCountWords {B : Nat} {v : Value} {x : Chn} {w : World} (h : RdC (· < B) w v x) (hB : B ≤ w.heap.size) (hn : szC x ≤ 1048576) :
    Calls Try.prog 55 #[v] w fun e w' => e = .returned (.tuple #[.int .i64 (cntV x), .bool (vC x)]) ∧ Below w.heap.size w w' := by
  have Hr := Lib.hid h
  obtain ⟨u, p, rfl, hu, hp⟩ := h
  obtain ⟨a, c, rfl, h1, h2⟩ := hu.isSlice
  obtain ⟨a', c', rfl, h3, h4⟩ := hp.isSlice
  have hbx := Lib.hid ((Below.refl w.heap.size w).alloc (Nat.le_refl _) (.cells #[.int .i64 x.base, .int .i64 x.states, .int .i64 x.start, .int .i64 x.stop, .slice a x.tables.length c, .slice a' x.places.length c'] 28))
  have Hbx := Lib.hid (BoxC.boxed hu hp hB); clear hu hp
  have hsz := Lib.hid (alloc_size w (.cells #[.int .i64 x.base, .int .i64 x.states, .int .i64 x.start, .int .i64 x.stop, .slice a x.tables.length c, .slice a' x.places.length c'] 28))
  unfold aggC
  cases hv : vC x
  · have hr := Lib.hid (cntV_no hv)
    have Hv := Lib.hid hv; clear hv
    go_enter Try.func55, Try.ntmps55
    go_wp2_with fail
    refine (implValidChain (Rd.below RdC.ok Hr.out (hbx.out.mono hB)) (by rw [hsz.out]; omega) hn _ Hv.out).mono ?_
    rintro e w1 ⟨rfl, hb⟩
    have Hb := Lib.hid (hbx.out.trans (hb.mono (by rw [hsz.out]; omega))); clear hb
    go_wp2
    go_ret2
    exact ⟨ret_ib hr.out.symm rfl, Hb.out⟩
  · have hvc := vC_iff.1 hv
    have hnat := hvc.nat
    have hst := hvc.start
    have hr := Lib.hid (cntV_yes hv)
    have Hv := Lib.hid hv
    have Hvc := Lib.hid hvc
    obtain ⟨NS, hNS⟩ : ∃ n : Nat, n = x.S := ⟨_, rfl⟩
    have hs2 : x.start < (NS : Int) := by rw [hNS]; show x.start < (x.states.toNat : Int); omega
    have HNS := Lib.hid hNS
    clear hv hvc hNS
    simp only [Chn.n] at hnat
    go_enter Try.func55, Try.ntmps55
    go_wp2_with fail
    refine (implValidChain (Rd.below RdC.ok Hr.out (hbx.out.mono hB)) (by rw [hsz.out]; omega) hn _ Hv.out).mono ?_
    rintro e w1 ⟨rfl, hb⟩
    have hs1 : w.heap.size < w1.heap.size := by have := hb.size; rw [hsz.out] at this; omega
    have Hb1 := Lib.hid (Hbx.out.keep fun k hk => hb.block k (by rw [hsz.out]; omega))
    have Hb := Lib.hid (hbx.out.trans (hb.mono (by rw [hsz.out]; omega))); clear hb
    have hE := Lib.hid (fun n => implEnds (Hb1.out.draws n) (show B ≤ w1.heap.size by omega) (show w.heap.size < w1.heap.size by omega) Hvc.out)
    have hP := Lib.hid (fun n w' v hf => ends_post (w' := w') (v := v) (Hb1.out.draws n) (show w.heap.size < w1.heap.size by omega) Hvc.out hf HNS.out)
    obtain ⟨_, _, _, _, _, _, e2, _⟩ := Hb1.out.cells
    go_wp2_with fail
    go_region_with (refine (Calls.mono (hE.out _) ?_); rintro e w' ⟨v, rfl, hf⟩; obtain ⟨g, cg, gx, cx, rfl, hq1, hk1, hq2, hk2, hk3, hb⟩ := hP.out _ _ _ hf; clear hf)
    all_goals
      have Hb2 := Lib.hid hb
      clear hb
      go_wp2
      go_ret2
      exact ⟨ret_ib hr.out.symm rfl, (Below.draws Hb.out _).trans (Hb2.out.mono (by show w.heap.size ≤ w1.heap.size; omega))⟩
end Go.Proofs.Ytnpkanlieflbiaa
