/- CountWords, walked. -/
import Derived.Test.YtcjmkiedcmlpcaaD5
namespace Go.Proofs.Ytcjmkiedcmlpcaa
open Go.RowKit
set_option linter.unusedVariables false

def cntV (x : Chn) : Int := if vC x then (endsV x 0 x.start.toNat : Nat) else 0
theorem cntV_no {x : Chn} (h : vC x = false) : cntV x = 0 := by simp [cntV, h]
theorem cntV_yes {x : Chn} (h : vC x = true) : cntV x = (endsV x 0 x.start.toNat : Nat) := by simp [cntV, h]
/-- The first row of the grid of ends, where the chain lies in a box. -/
theorem ends_post {B bx : Nat} {x : Chn} {w w' : World} {v : Value} (h : BoxC (· < B) w bx x) (hbx : bx < w.heap.size) (hv : VC x) (hf : Fresh OII w w' v (endsG x)) {NS : Nat} (hNS : NS = x.S) :
    ∃ g c gx cx, v = .slice (some ⟨g, 0, none⟩) (x.places.length + 1) c ∧ (x.places.length + 1 ≤ c ∧ c ≤ 9223372036854775807) ∧ w'.cell? ⟨g, 0, none⟩ = some (.slice (some ⟨gx, 0, none⟩) NS cx) ∧ (NS ≤ cx ∧ cx ≤ 9223372036854775807) ∧
      w'.cell? ⟨gx, x.start.toNat, none⟩ = some (.int .i64 (endsV x 0 x.start.toNat)) ∧ w'.cell? ⟨bx, 2, none⟩ = some (.int .i64 x.start) ∧ Below w.heap.size w w' := by
  subst hNS
  have hnat := hv.nat
  have hst := hv.start
  have hg := gridL_grid (x.n + 1) x.S (endsV x)
  have hr0 := hg.2 0 (by omega)
  have hlen : (endsG x).length = x.places.length + 1 := hg.1
  have hrl : (nth (endsG x) 0).length = x.S := hr0.1
  have hrv : nth (nth (endsG x) 0) x.start.toNat = (endsV x 0 x.start.toNat : Nat) := hr0.2 _ hnat.2.2.1
  obtain ⟨g, c, rfl⟩ := hf.shape (by omega)
  have hl := hf.len2
  obtain ⟨gx, cx, h1, h2, h3, h4, _⟩ := hf.put2 (x := 0) (y := x.start.toNat) (by omega) (by rw [hrl]; exact hnat.2.2.1)
  rw [hlen] at hl ⊢
  rw [hrl] at h1 h2
  rw [hrv] at h4
  obtain ⟨a, c', a', c'', g0, g1, g2, _⟩ := h.cells
  unfold maxLen at h3 hl
  exact ⟨g, c, gx, cx, rfl, hl.2, h1, ⟨h2, h3⟩, h4, (hf.bel.cell (p := ⟨bx, 2, none⟩) hbx).trans g2, hf.bel⟩

set_option maxRecDepth 10000 in
theorem specCountWords {B : Nat} {v : Value} {x : Chn} {w : World} (h : RdC (· < B) w v x) (hB : B ≤ w.heap.size) :
    Calls Try.prog 20 #[v] w fun e w' => e = .returned (.tuple #[.int .i64 (cntV x), .bool (vC x)]) ∧ Below w.heap.size w w' := by
  obtain ⟨u, p, rfl, hu, hp⟩ := h
  obtain ⟨a, c, rfl, h1, h2⟩ := hu.isSlice
  obtain ⟨a', c', rfl, h3, h4⟩ := hp.isSlice
  have hbx := Lib.hid ((Below.refl w.heap.size w).alloc (Nat.le_refl _) (.cells #[.int .i64 x.base, .int .i64 x.states, .int .i64 x.start, .int .i64 x.stop, .slice a x.tables.length c, .slice a' x.places.length c'] 28))
  have Hbx := Lib.hid (BoxC.boxed hu hp hB); clear hu hp
  unfold aggC
  cases hv : vC x
  · have hr := Lib.hid (cntV_no hv)
    have Hv := Lib.hid hv; clear hv
    go_enter Try.func20, Try.ntmps20
    go_wp2_with fail
    refine (specL02Is Hbx.out _ Hv.out).mono ?_
    rintro e w1 ⟨rfl, m, rfl⟩
    go_wp2
    go_ret2
    exact ⟨ret_ib hr.out.symm rfl, hbx.out.trans ⟨rfl, rfl, rfl, Nat.le_refl _, fun _ _ => rfl⟩⟩
  · have hvc := vC_iff.1 hv
    have hnat := hvc.nat
    have hst := hvc.start
    have hr := Lib.hid (cntV_yes hv)
    have Hv := Lib.hid hv
    have Hvc := Lib.hid hvc
    obtain ⟨NS, hNS⟩ : ∃ n : Nat, n = x.S := ⟨_, rfl⟩
    have hs2 : x.start < (NS : Int) := by rw [hNS]; show x.start < (x.states.toNat : Int); omega
    have HNS := Lib.hid hNS
    clear hv hvc hNS
    simp only [Chn.n] at hnat
    go_enter Try.func20, Try.ntmps20
    go_wp2_with fail
    refine (specL02Is Hbx.out _ Hv.out).mono ?_
    rintro e w1 ⟨rfl, m, rfl⟩
    have Hb2 := Lib.hid (fun n => Hbx.out.draws n)
    have hE := Lib.hid (fun n => specEnds (Hb2.out n) (show B ≤ (w.alloc (.cells #[.int .i64 x.base, .int .i64 x.states, .int .i64 x.start, .int .i64 x.stop, .slice a x.tables.length c, .slice a' x.places.length c'] 28)).heap.size by rw [alloc_size]; omega) (show w.heap.size < (w.alloc (.cells #[.int .i64 x.base, .int .i64 x.states, .int .i64 x.start, .int .i64 x.stop, .slice a x.tables.length c, .slice a' x.places.length c'] 28)).heap.size by rw [alloc_size]; omega) Hvc.out)
    have hP := Lib.hid (fun n w' v hf => ends_post (w' := w') (v := v) (Hb2.out n) (show w.heap.size < (w.alloc (.cells #[.int .i64 x.base, .int .i64 x.states, .int .i64 x.start, .int .i64 x.stop, .slice a x.tables.length c, .slice a' x.places.length c'] 28)).heap.size by rw [alloc_size]; omega) Hvc.out hf HNS.out)
    go_wp2_with fail
    go_region_with (refine (Calls.mono (hE.out _) ?_); rintro e w' ⟨v, rfl, hf⟩; obtain ⟨g, cg, gx, cx, rfl, hq1, hk1, hq2, hk2, hk3, hb⟩ := hP.out _ _ _ hf; clear hf)
    all_goals
      have Hb := Lib.hid hb
      clear hb
      go_wp2
      go_ret2
      exact ⟨ret_ib hr.out.symm rfl, (Below.draws hbx.out _).trans (Hb.out.mono (by show w.heap.size ≤ (w.alloc _).heap.size; simp))⟩

set_option maxRecDepth 10000 in
theorem implCountWords {B : Nat} {v : Value} {x : Chn} {w : World} (h : RdC (· < B) w v x) (hB : B ≤ w.heap.size) (hn : szC x ≤ 1048576) :
    Calls Try.prog 21 #[v] w fun e w' => e = .returned (.tuple #[.int .i64 (cntV x), .bool (vC x)]) ∧ Below w.heap.size w w' := by
  have Hr := Lib.hid h
  obtain ⟨u, p, rfl, hu, hp⟩ := h
  obtain ⟨a, c, rfl, h1, h2⟩ := hu.isSlice
  obtain ⟨a', c', rfl, h3, h4⟩ := hp.isSlice
  have hbx := Lib.hid ((Below.refl w.heap.size w).alloc (Nat.le_refl _) (.cells #[.int .i64 x.base, .int .i64 x.states, .int .i64 x.start, .int .i64 x.stop, .slice a x.tables.length c, .slice a' x.places.length c'] 28))
  have Hbx := Lib.hid (BoxC.boxed hu hp hB); clear hu hp
  have hsz := Lib.hid (alloc_size w (.cells #[.int .i64 x.base, .int .i64 x.states, .int .i64 x.start, .int .i64 x.stop, .slice a x.tables.length c, .slice a' x.places.length c'] 28))
  unfold aggC
  cases hv : vC x
  · have hr := Lib.hid (cntV_no hv)
    have Hv := Lib.hid hv; clear hv
    go_enter Try.func21, Try.ntmps21
    go_wp2_with fail
    refine (implValidChain (Rd.below RdC.ok Hr.out (hbx.out.mono hB)) (by rw [hsz.out]; omega) hn _ Hv.out).mono ?_
    rintro e w1 ⟨rfl, hb⟩
    have Hb := Lib.hid (hbx.out.trans (hb.mono (by rw [hsz.out]; omega))); clear hb
    go_wp2
    go_ret2
    exact ⟨ret_ib hr.out.symm rfl, Hb.out⟩
  · have hvc := vC_iff.1 hv
    have hnat := hvc.nat
    have hst := hvc.start
    have hr := Lib.hid (cntV_yes hv)
    have Hv := Lib.hid hv
    have Hvc := Lib.hid hvc
    obtain ⟨NS, hNS⟩ : ∃ n : Nat, n = x.S := ⟨_, rfl⟩
    have hs2 : x.start < (NS : Int) := by rw [hNS]; show x.start < (x.states.toNat : Int); omega
    have HNS := Lib.hid hNS
    clear hv hvc hNS
    simp only [Chn.n] at hnat
    go_enter Try.func21, Try.ntmps21
    go_wp2_with fail
    refine (implValidChain (Rd.below RdC.ok Hr.out (hbx.out.mono hB)) (by rw [hsz.out]; omega) hn _ Hv.out).mono ?_
    rintro e w1 ⟨rfl, hb⟩
    have hs1 : w.heap.size < w1.heap.size := by have := hb.size; rw [hsz.out] at this; omega
    have Hb1 := Lib.hid (Hbx.out.keep fun k hk => hb.block k (by rw [hsz.out]; omega))
    have Hb := Lib.hid (hbx.out.trans (hb.mono (by rw [hsz.out]; omega))); clear hb
    have hE := Lib.hid (fun n => implEnds (Hb1.out.draws n) (show B ≤ w1.heap.size by omega) (show w.heap.size < w1.heap.size by omega) Hvc.out)
    have hP := Lib.hid (fun n w' v hf => ends_post (w' := w') (v := v) (Hb1.out.draws n) (show w.heap.size < w1.heap.size by omega) Hvc.out hf HNS.out)
    obtain ⟨_, _, _, _, _, _, e2, _⟩ := Hb1.out.cells
    go_wp2_with fail
    go_region_with (refine (Calls.mono (hE.out _) ?_); rintro e w' ⟨v, rfl, hf⟩; obtain ⟨g, cg, gx, cx, rfl, hq1, hk1, hq2, hk2, hk3, hb⟩ := hP.out _ _ _ hf; clear hf)
    all_goals
      have Hb2 := Lib.hid hb
      clear hb
      go_wp2
      go_ret2
      exact ⟨ret_ib hr.out.symm rfl, (Below.draws Hb.out _).trans (Hb2.out.mono (by show w.heap.size ≤ w1.heap.size; omega))⟩
end Go.Proofs.Ytcjmkiedcmlpcaa
