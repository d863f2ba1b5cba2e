/- Weightings read from their text, on both sides. Printed by gen_rd8.py. -/
import Derived.Test.YthomdggbmjknnaaDoorRd6
import Derived.Test.YthomdggbmjknnaaDoorV3
import Derived.Test.YthomdggbmjknnaaDoorF2
import Derived.Deep.DeepCutAuto
namespace Go.Proofs.YthomdggbmjknnaaDoor
open Go.Shelf Go.RowKit
set_option linter.unusedVariables false

def Wgt.non : Wgt := ⟨0, 0, 0, []⟩
def rwW (ps : List ByteArray) : Wgt := ⟨rdV (nth ps 0), rdV (nth ps 1), rdV (nth ps 2), rlV (nth ps 3)⟩
def rwOk (s : ByteArray) : Bool := decide ((cutP s 47).length = 4) && (rdB (nth (cutP s 47) 0) && (rdB (nth (cutP s 47) 1) && (rdB (nth (cutP s 47) 2) && (rlOk (nth (cutP s 47) 3) && vW (rwW (cutP s 47))))))
def rwV (s : ByteArray) : Wgt := if rwOk s then rwW (cutP s 47) else Wgt.non
theorem rw_len {s : ByteArray} (h : ¬ (cutP s 47).length = 4) : rwOk s = false := by simp [rwOk, h]
theorem rw_four {s : ByteArray} (h : (cutP s 47).length = 4) : rwOk s = (rdB (nth (cutP s 47) 0) && (rdB (nth (cutP s 47) 1) && (rdB (nth (cutP s 47) 2) && (rlOk (nth (cutP s 47) 3) && vW (rwW (cutP s 47)))))) := by simp [rwOk, h]
theorem rwV_no {s : ByteArray} (h : rwOk s = false) : rwV s = Wgt.non := by simp [rwV, h]
theorem rwV_yes {s : ByteArray} (h : rwOk s = true) : rwV s = rwW (cutP s 47) := by simp [rwV, h]
theorem rwV_sz (s : ByteArray) : szW (rwV s) ≤ 40 := by
  unfold rwV
  split
  · exact rlV_len _
  · show ([] : List Int).length ≤ 40; simp
theorem non_fresh {w w' : World} (h : Below w.heap.size w w') : Fresh OW w w' (aggW Wgt.non (.slice none 0 0)) Wgt.non := ⟨[], ⟨_, rfl, own_nil _⟩, by simp, h⟩
/-- Four strings in a row of the call's own. -/
structure Four (W : World) (g : Nat) (p0 p1 p2 p3 : ByteArray) : Prop where
  c0 : W.cell? ⟨g, 0, none⟩ = some (.string p0)
  c1 : W.cell? ⟨g, 1, none⟩ = some (.string p1)
  c2 : W.cell? ⟨g, 2, none⟩ = some (.string p2)
  c3 : W.cell? ⟨g, 3, none⟩ = some (.string p3)
  lt : g < W.heap.size
theorem Four.keep {W w' : World} {g : Nat} {p0 p1 p2 p3 : ByteArray} (h : Four W g p0 p1 p2 p3) (hb : Below W.heap.size W w') : Four w' g p0 p1 p2 p3 :=
  ⟨(hb.cell (show (⟨g, 0, none⟩ : Addr).block < W.heap.size from h.lt)).trans h.c0, (hb.cell (show (⟨g, 1, none⟩ : Addr).block < W.heap.size from h.lt)).trans h.c1, (hb.cell (show (⟨g, 2, none⟩ : Addr).block < W.heap.size from h.lt)).trans h.c2, (hb.cell (show (⟨g, 3, none⟩ : Addr).block < W.heap.size from h.lt)).trans h.c3, Nat.lt_of_lt_of_le h.lt hb.size⟩
theorem four_of {w0 W : World} {v : Value} {ps : List ByteArray} (h : Fresh OSt w0 W v ps) (h4 : ps.length = 4) : ∃ g c, v = .slice (some ⟨g, 0, none⟩) 4 c ∧ 4 ≤ c ∧ Four W g (nth ps 0) (nth ps 1) (nth ps 2) (nth ps 3) := by
  obtain ⟨S, ho, _, _⟩ := h
  have ho' := ho
  rcases ho with ⟨_, e, _⟩ | ⟨g, cap, cur, Ss, rfl, hh, h1, h2, _⟩
  · rw [e] at h4; simp at h4
  · rw [h4] at ho' h2
    exact ⟨g, cap, by rw [h4], h2, ho'.cell (i := 0) (by omega), ho'.cell (i := 1) (by omega), ho'.cell (i := 2) (by omega), ho'.cell (i := 3) (by omega), heap_lt hh⟩

set_option maxHeartbeats 6400000 in
set_option maxRecDepth 100000 in
theorem specL03Read (s : ByteArray) (hs : s.size ≤ 1048576) (w : World) :
    Calls Tryd.prog 47 #[.string s] w fun e w' => ∃ v, e = .returned (.tuple #[v, .bool (rwOk s)]) ∧ Fresh OW w w' v (rwV s) := by
  obtain ⟨W1, hW1⟩ : ∃ W1, W1 = w.alloc (.cells #[.int .i64 0, .int .i64 0, .int .i64 0, .slice none 0 0] 40) := ⟨_, rfl⟩
  have Hz1 := Lib.hid (show W1.heap[w.heap.size]? = some (.cells #[.int .i64 0, .int .i64 0, .int .i64 0, .slice none 0 0] 40 (0, 0)) by rw [hW1]; exact heap_alloc_new w _)
  have Hb1 := Lib.hid (show Below w.heap.size w W1 by rw [hW1]; exact (Below.refl _ _).alloc (Nat.le_refl _) _)
  have Hs1 := Lib.hid (show W1.heap.size = w.heap.size + 1 by rw [hW1]; simp)
  have HW1 := Lib.hid hW1
  have hcut := Lib.hid (specCut s hs 47 W1)
  have hsz1 : w.heap.size < W1.heap.size := by have := Hs1.out; omega
  obtain ⟨ps, hps0⟩ : ∃ ps, ps = cutP s 47 := ⟨_, rfl⟩
  have Hps := Lib.hid hps0
  have hps : ∀ k, k < ps.length → (nth ps k).size ≤ 1048576 := fun k hk => by rw [hps0] at hk ⊢; exact Nat.le_trans (cutP_size s 47 k hk) hs
  have hpl := (cutP_len s 47)
  rw [← hps0] at hpl
  have Hpz := Lib.hid hps
  clear hW1 hps0 hps
  go_enter Tryd.func47, Tryd.ntmps47
  go_wp2_with fail
  rw [← HW1.out]
  refine (Calls.mono hcut.out ?_)
  rintro e W2 ⟨pv, rfl, hp⟩
  rw [← Hps.out] at hp
  have hz2 := below_heap hp.bel Hz1.out
  have Hb2 := Lib.hid (Hb1.out.trans (hp.bel.mono Hb1.out.size))
  by_cases h4 : ps.length = 4
  · obtain ⟨g, gc, rfl, hgc, hF⟩ := four_of hp h4
    have Hz2 := Lib.hid hz2
    have HO := Lib.hid (rw_four (s := s) (by rw [← Hps.out]; exact h4))
    rw [← Hps.out] at HO
    obtain ⟨X, hX⟩ : ∃ X, X = rwW ps := ⟨_, rfl⟩
    rw [← hX] at HO
    have HVy := Lib.hid (fun h => (rwV_yes (s := s) h).trans (show rwW (cutP s 47) = X by rw [← Hps.out, hX]))
    have HVn := Lib.hid (fun h => rwV_no (s := s) h)
    have z0' := Hpz.out 0 (by omega)
    have z1' := Hpz.out 1 (by omega)
    have z2' := Hpz.out 2 (by omega)
    have z3' := Hpz.out 3 (by omega)
    unfold rwW at hX
    obtain ⟨p0, hp0⟩ : ∃ p, p = nth ps 0 := ⟨_, rfl⟩
    obtain ⟨p1, hp1⟩ : ∃ p, p = nth ps 1 := ⟨_, rfl⟩
    obtain ⟨p2, hp2⟩ : ∃ p, p = nth ps 2 := ⟨_, rfl⟩
    obtain ⟨p3, hp3⟩ : ∃ p, p = nth ps 3 := ⟨_, rfl⟩
    rw [← hp0] at hF HO z0' hX
    rw [← hp1] at hF HO z1' hX
    rw [← hp2] at hF HO z2' hX
    rw [← hp3] at hF HO z3' hX
    have HF2 := Lib.hid hF
    clear hp hz2 hF hp0 hp1 hp2 hp3 hcut
    obtain ⟨n0, hn0⟩ : ∃ n, n = rdV p0 := ⟨_, rfl⟩
    obtain ⟨n1, hn1⟩ : ∃ n, n = rdV p1 := ⟨_, rfl⟩
    obtain ⟨n2, hn2⟩ : ∃ n, n = rdV p2 := ⟨_, rfl⟩
    obtain ⟨n3, hn3⟩ : ∃ n, n = rlV p3 := ⟨_, rfl⟩
    obtain ⟨b0, hb0⟩ : ∃ n, n = rdB p0 := ⟨_, rfl⟩
    obtain ⟨b1, hb1⟩ : ∃ n, n = rdB p1 := ⟨_, rfl⟩
    obtain ⟨b2, hb2⟩ : ∃ n, n = rdB p2 := ⟨_, rfl⟩
    obtain ⟨b3, hb3⟩ : ∃ n, n = rlOk p3 := ⟨_, rfl⟩
    rw [← hn0, ← hn1, ← hn2, ← hn3] at hX
    rw [← hb0, ← hb1, ← hb2, ← hb3] at HO
    have C0 := Lib.hid (show ∀ W, Calls Tryd.prog 38 #[.string p0] W fun e w1 => e = .returned (.tuple #[.int .i64 n0, .bool b0]) ∧ Below W.heap.size W w1 from fun W => by rw [hn0, hb0]; exact specValue p0 (by unfold maxLen; omega) W)
    have C1 := Lib.hid (show ∀ W, Calls Tryd.prog 38 #[.string p1] W fun e w1 => e = .returned (.tuple #[.int .i64 n1, .bool b1]) ∧ Below W.heap.size W w1 from fun W => by rw [hn1, hb1]; exact specValue p1 (by unfold maxLen; omega) W)
    have C2 := Lib.hid (show ∀ W, Calls Tryd.prog 38 #[.string p2] W fun e w1 => e = .returned (.tuple #[.int .i64 n2, .bool b2]) ∧ Below W.heap.size W w1 from fun W => by rw [hn2, hb2]; exact specValue p2 (by unfold maxLen; omega) W)
    have C3 := Lib.hid (show ∀ W, Calls Tryd.prog 40 #[.string p3] W fun e w1 => ∃ v, e = .returned (.tuple #[v, .bool b3]) ∧ Fresh OI W w1 v n3 from fun W => by rw [hn3, hb3]; exact specNumbers p3 z3' W)
    have hlen3 : n3.length ≤ 40 := by rw [hn3]; exact rlV_len _
    clear hn0 hn1 hn2 hn3 hb0 hb1 hb2 hb3 z0' z1' z2' z3' Hpz
    obtain ⟨c0, c1, c2, c3, hgl⟩ := HF2.out
    go_wp2_with fail
    refine (Calls.mono (C0.out W2) ?_)
    rintro e W3 ⟨rfl, hq⟩
    have HF3 := Lib.hid (HF2.out.keep hq)
    have Hz3 := Lib.hid (below_heap hq Hz2.out)
    have Hb3 := Lib.hid (Hb2.out.trans (hq.mono Hb2.out.size))
    clear hq c0 c1 c2 c3 hgl
    obtain ⟨c0, c1, c2, c3, hgl⟩ := HF3.out
    go_wp2_with fail
    refine (Calls.mono (C1.out W3) ?_)
    rintro e W4 ⟨rfl, hq⟩
    have HF4 := Lib.hid (HF3.out.keep hq)
    have Hz4 := Lib.hid (below_heap hq Hz3.out)
    have Hb4 := Lib.hid (Hb3.out.trans (hq.mono Hb3.out.size))
    clear hq c0 c1 c2 c3 hgl
    obtain ⟨c0, c1, c2, c3, hgl⟩ := HF4.out
    go_wp2_with fail
    refine (Calls.mono (C2.out W4) ?_)
    rintro e W5 ⟨rfl, hq⟩
    have HF5 := Lib.hid (HF4.out.keep hq)
    have Hz5 := Lib.hid (below_heap hq Hz4.out)
    have Hb5 := Lib.hid (Hb4.out.trans (hq.mono Hb4.out.size))
    clear hq c0 c1 c2 c3 hgl
    obtain ⟨c0, c1, c2, c3, hgl⟩ := HF5.out
    go_wp2_with fail
    refine (Calls.mono (C3.out W5) ?_)
    rintro e W6 ⟨v6, rfl, hf6⟩
    have Hz6 := Lib.hid (below_heap hf6.bel Hz5.out)
    have Hb6 := Lib.hid (Hb5.out.trans (hf6.bel.mono Hb5.out.size))
    clear c0 c1 c2 c3 hgl
    obtain ⟨a9, l9, c9, rfl⟩ := hf6.choose_spec.1.isSlice
    obtain ⟨W7, hW7⟩ : ∃ W7, W7 = W6.alloc (.cells #[.int .i64 n0, .int .i64 n1, .int .i64 n2, .slice a9 l9 c9] 40) := ⟨_, rfl⟩
    have hb67 : Below W6.heap.size W6 W7 := by rw [hW7]; exact (Below.refl _ _).alloc (Nat.le_refl _) _
    have Hf7 := Lib.hid (show Fresh OW W5 W7 (.agg #[.int .i64 n0, .int .i64 n1, .int .i64 n2, .slice a9 l9 c9]) X by
      rw [hX]
      have := hf6.stay OI.ok hb67
      obtain ⟨S, h1, h2, h3⟩ := this
      exact ⟨S, ⟨_, rfl, h1⟩, h2, h3⟩)
    have hrd : RdI (· < W6.heap.size) W6 (.slice a9 l9 c9) n3 := hf6.rd (Own.leads leaf.leads) OI.ok
    have hbox : BoxW (· < W6.heap.size) W7 W6.heap.size X := by
      rw [hW7, hX]
      exact BoxW.boxed (x := ⟨n0, n1, n2, n3⟩) hrd (Nat.le_refl _)
    have hrw : RdW (· < W6.heap.size) W7 (.agg #[.int .i64 n0, .int .i64 n1, .int .i64 n2, .slice a9 l9 c9]) X := by
      rw [hX]
      exact ⟨_, rfl, RdI.ok.keep hrd fun k hk => hb67.block k hk⟩
    have hzX : szW X ≤ 1048576 := by rw [hX]; show n3.length ≤ _; omega
    have hx7 : W7.heap[W6.heap.size]? = some (.cells #[.int .i64 n0, .int .i64 n1, .int .i64 n2, .slice a9 l9 c9] 40 (0, 0)) := by rw [hW7]; exact heap_alloc_new _ _
    have hz7 := below_heap hb67 Hz6.out
    have Hb7 := Lib.hid (Hb6.out.trans (hb67.mono Hb6.out.size))
    have hlt5 : w.heap.size < W5.heap.size := by have := Hb5.out.size; have := heap_lt Hz5.out; omega
    have hlt7 : w.heap.size < W7.heap.size := heap_lt hz7
    have hlt67 : w.heap.size < W6.heap.size := heap_lt Hz6.out
    have hlt77 : W6.heap.size < W7.heap.size := heap_lt hx7
    have Hbox := Lib.hid hbox
    have Hrw := Lib.hid hrw
    have HW7 := Lib.hid hW7
    have HX := Lib.hid hX
    have Hx7 := Lib.hid hx7
    have Hz7 := Lib.hid hz7
    clear hf6 hb67 hrd hbox hrw hW7 hX hx7 hz7 hlen3 C0 C1 C2 C3
    go_upto_region 9 with fail
    rw [← HW7.out]
    have x0 := heap_cell Hx7.out (i := 0) rfl
    have x1 := heap_cell Hx7.out (i := 1) rfl
    have x2 := heap_cell Hx7.out (i := 2) rfl
    have x3 := heap_cell Hx7.out (i := 3) rfl
    have z0 := heap_cell Hz7.out (i := 0) rfl
    have z1 := heap_cell Hz7.out (i := 1) rfl
    have z2 := heap_cell Hz7.out (i := 2) rfl
    have z3 := heap_cell Hz7.out (i := 3) rfl
    have f0 := frozen_at Hz7.out 0
    have f1 := frozen_at Hz7.out 1
    have f2 := frozen_at Hz7.out 2
    have f3 := frozen_at Hz7.out 3
    cases b0
    · have ho := Lib.hid (show rwOk s = false by rw [HO.out]; rfl)
      go_wp2
      refine bodyPost_ret (v := .tuple #[aggW Wgt.non (.slice none 0 0), .bool false]) (by simp [results, Tryd.results47, go_sem, aggW, Wgt.non, z0, z1, z2, z3]) rfl ⟨_, by rw [ho.out], by rw [(HVn.out ho.out)]; exact non_fresh (Below.trans Hb7.out (by repeat' (first | with_reducible exact Below.refl _ _ | with_reducible refine Below.alloc ?_ ?_ _ | with_reducible refine Below.setCell ?_ ?_ _ | with_reducible refine Below.drew ?_ | with_reducible refine Below.draws ?_ _ | omega | (simp; done) | (simp; omega))))⟩
    cases b1
    · have ho := Lib.hid (show rwOk s = false by rw [HO.out]; rfl)
      go_wp2
      refine bodyPost_ret (v := .tuple #[aggW Wgt.non (.slice none 0 0), .bool false]) (by simp [results, Tryd.results47, go_sem, aggW, Wgt.non, z0, z1, z2, z3]) rfl ⟨_, by rw [ho.out], by rw [(HVn.out ho.out)]; exact non_fresh (Below.trans Hb7.out (by repeat' (first | with_reducible exact Below.refl _ _ | with_reducible refine Below.alloc ?_ ?_ _ | with_reducible refine Below.setCell ?_ ?_ _ | with_reducible refine Below.drew ?_ | with_reducible refine Below.draws ?_ _ | omega | (simp; done) | (simp; omega))))⟩
    cases b2
    · have ho := Lib.hid (show rwOk s = false by rw [HO.out]; rfl)
      go_wp2
      refine bodyPost_ret (v := .tuple #[aggW Wgt.non (.slice none 0 0), .bool false]) (by simp [results, Tryd.results47, go_sem, aggW, Wgt.non, z0, z1, z2, z3]) rfl ⟨_, by rw [ho.out], by rw [(HVn.out ho.out)]; exact non_fresh (Below.trans Hb7.out (by repeat' (first | with_reducible exact Below.refl _ _ | with_reducible refine Below.alloc ?_ ?_ _ | with_reducible refine Below.setCell ?_ ?_ _ | with_reducible refine Below.drew ?_ | with_reducible refine Below.draws ?_ _ | omega | (simp; done) | (simp; omega))))⟩
    cases b3
    · have ho := Lib.hid (show rwOk s = false by rw [HO.out]; rfl)
      go_wp2
      refine bodyPost_ret (v := .tuple #[aggW Wgt.non (.slice none 0 0), .bool false]) (by simp [results, Tryd.results47, go_sem, aggW, Wgt.non, z0, z1, z2, z3]) rfl ⟨_, by rw [ho.out], by rw [(HVn.out ho.out)]; exact non_fresh (Below.trans Hb7.out (by repeat' (first | with_reducible exact Below.refl _ _ | with_reducible refine Below.alloc ?_ ?_ _ | with_reducible refine Below.setCell ?_ ?_ _ | with_reducible refine Below.drew ?_ | with_reducible refine Below.draws ?_ _ | omega | (simp; done) | (simp; omega))))⟩
    cases hvw : vW X
    · have ho := Lib.hid (show rwOk s = false by rw [HO.out, hvw]; rfl)
      go_wp2_with (go_at_call 43; refine (specL03Is Hbox.out hzX _ hvw).mono ?_; rintro e w8 ⟨rfl, m, rfl⟩)
      refine bodyPost_ret (v := .tuple #[aggW Wgt.non (.slice none 0 0), .bool false]) (by simp [results, Tryd.results47, go_sem, aggW, Wgt.non, z0, z1, z2, z3]) rfl ⟨_, by rw [ho.out], by rw [(HVn.out ho.out)]; exact non_fresh (Below.trans Hb7.out (by repeat' (first | with_reducible exact Below.refl _ _ | with_reducible refine Below.alloc ?_ ?_ _ | with_reducible refine Below.setCell ?_ ?_ _ | with_reducible refine Below.drew ?_ | with_reducible refine Below.draws ?_ _ | omega | (simp; done) | (simp; omega))))⟩
    · have ho := Lib.hid (show rwOk s = true by rw [HO.out, hvw]; rfl)
      go_wp2_with (go_at_call 43; refine (specL03Is Hbox.out hzX _ hvw).mono ?_; rintro e w8 ⟨rfl, m, rfl⟩)
      refine bodyPost_ret (v := .tuple #[.agg #[.int .i64 n0, .int .i64 n1, .int .i64 n2, .slice a9 l9 c9], .bool true]) (by simp [results, Tryd.results47, go_sem, z0, z1, z2, z3]) rfl ⟨_, by rw [ho.out], by rw [HVy.out ho.out]; exact Fresh.turnedAt OW.ok Hf7.out Hb5.out (Nat.le_refl _) hlt5 (Only.trans (b := W7.drewN m) ⟨rfl, rfl, rfl, Nat.le_refl _, fun _ _ _ => rfl⟩ (by repeat' (first | with_reducible exact Only.refl _ _ | with_reducible refine Only.put ?_ ?_ _ _ | (simp; done))))⟩
  · have ho := Lib.hid (rw_len (s := s) (by rw [← Hps.out]; exact h4))
    have HVn := Lib.hid (fun h => rwV_no (s := s) h)
    obtain ⟨ga, gn, gc, rfl, hgn, hcap⟩ := own_sl hp.choose_spec.1
    have hgn4 : ¬ gn = 4 := by omega
    have hlt2 : w.heap.size < W2.heap.size := heap_lt hz2
    have z0 := heap_cell hz2 (i := 0) rfl
    have z1 := heap_cell hz2 (i := 1) rfl
    have z2 := heap_cell hz2 (i := 2) rfl
    have z3 := heap_cell hz2 (i := 3) rfl
    have f0 := frozen_at hz2 0
    have f1 := frozen_at hz2 1
    have f2 := frozen_at hz2 2
    have f3 := frozen_at hz2 3
    clear hz2 hp hgn h4 hcut
    go_wp2
    refine bodyPost_ret (v := .tuple #[aggW Wgt.non (.slice none 0 0), .bool false]) (by simp [results, Tryd.results47, go_sem, aggW, Wgt.non, z0, z1, z2, z3]) rfl ⟨_, by rw [ho.out], by rw [(HVn.out ho.out)]; exact non_fresh (Below.trans Hb2.out (by repeat' (first | with_reducible exact Below.refl _ _ | with_reducible refine Below.alloc ?_ ?_ _ | with_reducible refine Below.setCell ?_ ?_ _ | with_reducible refine Below.drew ?_ | with_reducible refine Below.draws ?_ _ | omega | (simp; done) | (simp; omega))))⟩

set_option maxHeartbeats 6400000 in
set_option maxRecDepth 100000 in
theorem implReadWeighting (s : ByteArray) (hs : s.size ≤ 1048576) (w : World) (hl : LaidM w) :
    Calls Tryd.prog 27 #[.string s] w fun e w' => ∃ v, e = .returned (.tuple #[v, .bool (rwOk s)]) ∧ Fresh OW w w' v (rwV s) := by
  obtain ⟨W1, hW1⟩ : ∃ W1, W1 = w.alloc (.cells #[.int .i64 0, .int .i64 0, .int .i64 0, .slice none 0 0] 40) := ⟨_, rfl⟩
  have Hz1 := Lib.hid (show W1.heap[w.heap.size]? = some (.cells #[.int .i64 0, .int .i64 0, .int .i64 0, .slice none 0 0] 40 (0, 0)) by rw [hW1]; exact heap_alloc_new w _)
  have Hb1 := Lib.hid (show Below w.heap.size w W1 by rw [hW1]; exact (Below.refl _ _).alloc (Nat.le_refl _) _)
  have Hs1 := Lib.hid (show W1.heap.size = w.heap.size + 1 by rw [hW1]; simp)
  have HW1 := Lib.hid hW1
  have hcut := Lib.hid (implSplit s hs 47 W1 (hl.keep Hb1.out))
  have hsz1 : w.heap.size < W1.heap.size := by have := Hs1.out; omega
  obtain ⟨ps, hps0⟩ : ∃ ps, ps = cutP s 47 := ⟨_, rfl⟩
  have Hps := Lib.hid hps0
  have hps : ∀ k, k < ps.length → (nth ps k).size ≤ 1048576 := fun k hk => by rw [hps0] at hk ⊢; exact Nat.le_trans (cutP_size s 47 k hk) hs
  have hpl := (cutP_len s 47)
  rw [← hps0] at hpl
  have Hpz := Lib.hid hps
  have Hl := Lib.hid hl
  clear hl
  clear hW1 hps0 hps
  go_enter Tryd.func27, Tryd.ntmps27
  go_wp2_with fail
  rw [← HW1.out]
  refine (Calls.mono hcut.out ?_)
  rintro e W2 ⟨pv, rfl, hp⟩
  rw [show cutP s ((47 : UInt8).toNat : Int) = ps from Hps.out.symm] at hp
  have hz2 := below_heap hp.bel Hz1.out
  have Hb2 := Lib.hid (Hb1.out.trans (hp.bel.mono Hb1.out.size))
  by_cases h4 : ps.length = 4
  · obtain ⟨g, gc, rfl, hgc, hF⟩ := four_of hp h4
    have Hz2 := Lib.hid hz2
    have HO := Lib.hid (rw_four (s := s) (by rw [← Hps.out]; exact h4))
    rw [← Hps.out] at HO
    obtain ⟨X, hX⟩ : ∃ X, X = rwW ps := ⟨_, rfl⟩
    rw [← hX] at HO
    have HVy := Lib.hid (fun h => (rwV_yes (s := s) h).trans (show rwW (cutP s 47) = X by rw [← Hps.out, hX]))
    have HVn := Lib.hid (fun h => rwV_no (s := s) h)
    have z0' := Hpz.out 0 (by omega)
    have z1' := Hpz.out 1 (by omega)
    have z2' := Hpz.out 2 (by omega)
    have z3' := Hpz.out 3 (by omega)
    unfold rwW at hX
    obtain ⟨p0, hp0⟩ : ∃ p, p = nth ps 0 := ⟨_, rfl⟩
    obtain ⟨p1, hp1⟩ : ∃ p, p = nth ps 1 := ⟨_, rfl⟩
    obtain ⟨p2, hp2⟩ : ∃ p, p = nth ps 2 := ⟨_, rfl⟩
    obtain ⟨p3, hp3⟩ : ∃ p, p = nth ps 3 := ⟨_, rfl⟩
    rw [← hp0] at hF HO z0' hX
    rw [← hp1] at hF HO z1' hX
    rw [← hp2] at hF HO z2' hX
    rw [← hp3] at hF HO z3' hX
    have HF2 := Lib.hid hF
    clear hp hz2 hF hp0 hp1 hp2 hp3 hcut
    obtain ⟨n0, hn0⟩ : ∃ n, n = rdV p0 := ⟨_, rfl⟩
    obtain ⟨n1, hn1⟩ : ∃ n, n = rdV p1 := ⟨_, rfl⟩
    obtain ⟨n2, hn2⟩ : ∃ n, n = rdV p2 := ⟨_, rfl⟩
    obtain ⟨n3, hn3⟩ : ∃ n, n = rlV p3 := ⟨_, rfl⟩
    obtain ⟨b0, hb0⟩ : ∃ n, n = rdB p0 := ⟨_, rfl⟩
    obtain ⟨b1, hb1⟩ : ∃ n, n = rdB p1 := ⟨_, rfl⟩
    obtain ⟨b2, hb2⟩ : ∃ n, n = rdB p2 := ⟨_, rfl⟩
    obtain ⟨b3, hb3⟩ : ∃ n, n = rlOk p3 := ⟨_, rfl⟩
    rw [← hn0, ← hn1, ← hn2, ← hn3] at hX
    rw [← hb0, ← hb1, ← hb2, ← hb3] at HO
    have C0 := Lib.hid (show ∀ W, LaidM W → Calls Tryd.prog 16 #[.string p0] W fun e w1 => e = .returned (.tuple #[.int .i64 n0, .bool b0]) ∧ Below W.heap.size W w1 from fun W hL => by rw [hn0, hb0]; exact implReadDecimal p0 (by omega) W hL.toLaidV)
    have C1 := Lib.hid (show ∀ W, LaidM W → Calls Tryd.prog 16 #[.string p1] W fun e w1 => e = .returned (.tuple #[.int .i64 n1, .bool b1]) ∧ Below W.heap.size W w1 from fun W hL => by rw [hn1, hb1]; exact implReadDecimal p1 (by omega) W hL.toLaidV)
    have C2 := Lib.hid (show ∀ W, LaidM W → Calls Tryd.prog 16 #[.string p2] W fun e w1 => e = .returned (.tuple #[.int .i64 n2, .bool b2]) ∧ Below W.heap.size W w1 from fun W hL => by rw [hn2, hb2]; exact implReadDecimal p2 (by omega) W hL.toLaidV)
    have C3 := Lib.hid (show ∀ W, LaidM W → Calls Tryd.prog 18 #[.string p3] W fun e w1 => ∃ v, e = .returned (.tuple #[v, .bool b3]) ∧ Fresh OI W w1 v n3 from fun W hL => by rw [hn3, hb3]; exact implReadList p3 z3' W hL)
    have hlen3 : n3.length ≤ 40 := by rw [hn3]; exact rlV_len _
    clear hn0 hn1 hn2 hn3 hb0 hb1 hb2 hb3 z0' z1' z2' z3' Hpz
    obtain ⟨c0, c1, c2, c3, hgl⟩ := HF2.out
    have Hl2 := Lib.hid (Hl.out.keep Hb2.out)
    go_wp2_with fail
    refine (Calls.mono (C0.out W2 Hl2.out) ?_)
    rintro e W3 ⟨rfl, hq⟩
    have HF3 := Lib.hid (HF2.out.keep hq)
    have Hz3 := Lib.hid (below_heap hq Hz2.out)
    have Hb3 := Lib.hid (Hb2.out.trans (hq.mono Hb2.out.size))
    clear hq c0 c1 c2 c3 hgl
    obtain ⟨c0, c1, c2, c3, hgl⟩ := HF3.out
    have Hl3 := Lib.hid (Hl.out.keep Hb3.out)
    go_wp2_with fail
    refine (Calls.mono (C1.out W3 Hl3.out) ?_)
    rintro e W4 ⟨rfl, hq⟩
    have HF4 := Lib.hid (HF3.out.keep hq)
    have Hz4 := Lib.hid (below_heap hq Hz3.out)
    have Hb4 := Lib.hid (Hb3.out.trans (hq.mono Hb3.out.size))
    clear hq c0 c1 c2 c3 hgl
    obtain ⟨c0, c1, c2, c3, hgl⟩ := HF4.out
    have Hl4 := Lib.hid (Hl.out.keep Hb4.out)
    go_wp2_with fail
    refine (Calls.mono (C2.out W4 Hl4.out) ?_)
    rintro e W5 ⟨rfl, hq⟩
    have HF5 := Lib.hid (HF4.out.keep hq)
    have Hz5 := Lib.hid (below_heap hq Hz4.out)
    have Hb5 := Lib.hid (Hb4.out.trans (hq.mono Hb4.out.size))
    clear hq c0 c1 c2 c3 hgl
    obtain ⟨c0, c1, c2, c3, hgl⟩ := HF5.out
    have Hl5 := Lib.hid (Hl.out.keep Hb5.out)
    go_wp2_with fail
    refine (Calls.mono (C3.out W5 Hl5.out) ?_)
    rintro e W6 ⟨v6, rfl, hf6⟩
    have Hz6 := Lib.hid (below_heap hf6.bel Hz5.out)
    have Hb6 := Lib.hid (Hb5.out.trans (hf6.bel.mono Hb5.out.size))
    clear c0 c1 c2 c3 hgl
    obtain ⟨a9, l9, c9, rfl⟩ := hf6.choose_spec.1.isSlice
    obtain ⟨W7, hW7⟩ : ∃ W7, W7 = W6.alloc (.cells #[.int .i64 n0, .int .i64 n1, .int .i64 n2, .slice a9 l9 c9] 40) := ⟨_, rfl⟩
    have hb67 : Below W6.heap.size W6 W7 := by rw [hW7]; exact (Below.refl _ _).alloc (Nat.le_refl _) _
    have Hf7 := Lib.hid (show Fresh OW W5 W7 (.agg #[.int .i64 n0, .int .i64 n1, .int .i64 n2, .slice a9 l9 c9]) X by
      rw [hX]
      have := hf6.stay OI.ok hb67
      obtain ⟨S, h1, h2, h3⟩ := this
      exact ⟨S, ⟨_, rfl, h1⟩, h2, h3⟩)
    have hrd : RdI (· < W6.heap.size) W6 (.slice a9 l9 c9) n3 := hf6.rd (Own.leads leaf.leads) OI.ok
    have hbox : BoxW (· < W6.heap.size) W7 W6.heap.size X := by
      rw [hW7, hX]
      exact BoxW.boxed (x := ⟨n0, n1, n2, n3⟩) hrd (Nat.le_refl _)
    have hrw : RdW (· < W6.heap.size) W7 (.agg #[.int .i64 n0, .int .i64 n1, .int .i64 n2, .slice a9 l9 c9]) X := by
      rw [hX]
      exact ⟨_, rfl, RdI.ok.keep hrd fun k hk => hb67.block k hk⟩
    have hzX : szW X ≤ 1048576 := by rw [hX]; show n3.length ≤ _; omega
    have hx7 : W7.heap[W6.heap.size]? = some (.cells #[.int .i64 n0, .int .i64 n1, .int .i64 n2, .slice a9 l9 c9] 40 (0, 0)) := by rw [hW7]; exact heap_alloc_new _ _
    have hz7 := below_heap hb67 Hz6.out
    have Hb7 := Lib.hid (Hb6.out.trans (hb67.mono Hb6.out.size))
    have hlt5 : w.heap.size < W5.heap.size := by have := Hb5.out.size; have := heap_lt Hz5.out; omega
    have hlt7 : w.heap.size < W7.heap.size := heap_lt hz7
    have hlt67 : w.heap.size < W6.heap.size := heap_lt Hz6.out
    have hlt77 : W6.heap.size < W7.heap.size := heap_lt hx7
    have Hbox := Lib.hid hbox
    have Hrw := Lib.hid hrw
    have HW7 := Lib.hid hW7
    have HX := Lib.hid hX
    have Hx7 := Lib.hid hx7
    have Hz7 := Lib.hid hz7
    clear hf6 hb67 hrd hbox hrw hW7 hX hx7 hz7 hlen3 C0 C1 C2 C3
    go_upto_region 9 with fail
    rw [← HW7.out]
    have x0 := heap_cell Hx7.out (i := 0) rfl
    have x1 := heap_cell Hx7.out (i := 1) rfl
    have x2 := heap_cell Hx7.out (i := 2) rfl
    have x3 := heap_cell Hx7.out (i := 3) rfl
    have z0 := heap_cell Hz7.out (i := 0) rfl
    have z1 := heap_cell Hz7.out (i := 1) rfl
    have z2 := heap_cell Hz7.out (i := 2) rfl
    have z3 := heap_cell Hz7.out (i := 3) rfl
    have f0 := frozen_at Hz7.out 0
    have f1 := frozen_at Hz7.out 1
    have f2 := frozen_at Hz7.out 2
    have f3 := frozen_at Hz7.out 3
    cases b0
    · have ho := Lib.hid (show rwOk s = false by rw [HO.out]; rfl)
      go_wp2
      refine bodyPost_ret (v := .tuple #[aggW Wgt.non (.slice none 0 0), .bool false]) (by simp [results, Tryd.results27, go_sem, aggW, Wgt.non, z0, z1, z2, z3]) rfl ⟨_, by rw [ho.out], by rw [(HVn.out ho.out)]; exact non_fresh (Below.trans Hb7.out (by repeat' (first | with_reducible exact Below.refl _ _ | with_reducible refine Below.alloc ?_ ?_ _ | with_reducible refine Below.setCell ?_ ?_ _ | with_reducible refine Below.drew ?_ | with_reducible refine Below.draws ?_ _ | omega | (simp; done) | (simp; omega))))⟩
    cases b1
    · have ho := Lib.hid (show rwOk s = false by rw [HO.out]; rfl)
      go_wp2
      refine bodyPost_ret (v := .tuple #[aggW Wgt.non (.slice none 0 0), .bool false]) (by simp [results, Tryd.results27, go_sem, aggW, Wgt.non, z0, z1, z2, z3]) rfl ⟨_, by rw [ho.out], by rw [(HVn.out ho.out)]; exact non_fresh (Below.trans Hb7.out (by repeat' (first | with_reducible exact Below.refl _ _ | with_reducible refine Below.alloc ?_ ?_ _ | with_reducible refine Below.setCell ?_ ?_ _ | with_reducible refine Below.drew ?_ | with_reducible refine Below.draws ?_ _ | omega | (simp; done) | (simp; omega))))⟩
    cases b2
    · have ho := Lib.hid (show rwOk s = false by rw [HO.out]; rfl)
      go_wp2
      refine bodyPost_ret (v := .tuple #[aggW Wgt.non (.slice none 0 0), .bool false]) (by simp [results, Tryd.results27, go_sem, aggW, Wgt.non, z0, z1, z2, z3]) rfl ⟨_, by rw [ho.out], by rw [(HVn.out ho.out)]; exact non_fresh (Below.trans Hb7.out (by repeat' (first | with_reducible exact Below.refl _ _ | with_reducible refine Below.alloc ?_ ?_ _ | with_reducible refine Below.setCell ?_ ?_ _ | with_reducible refine Below.drew ?_ | with_reducible refine Below.draws ?_ _ | omega | (simp; done) | (simp; omega))))⟩
    cases b3
    · have ho := Lib.hid (show rwOk s = false by rw [HO.out]; rfl)
      go_wp2
      refine bodyPost_ret (v := .tuple #[aggW Wgt.non (.slice none 0 0), .bool false]) (by simp [results, Tryd.results27, go_sem, aggW, Wgt.non, z0, z1, z2, z3]) rfl ⟨_, by rw [ho.out], by rw [(HVn.out ho.out)]; exact non_fresh (Below.trans Hb7.out (by repeat' (first | with_reducible exact Below.refl _ _ | with_reducible refine Below.alloc ?_ ?_ _ | with_reducible refine Below.setCell ?_ ?_ _ | with_reducible refine Below.drew ?_ | with_reducible refine Below.draws ?_ _ | omega | (simp; done) | (simp; omega))))⟩
    cases hvw : vW X
    · have ho := Lib.hid (show rwOk s = false by rw [HO.out, hvw]; rfl)
      go_wp2_with fail
      refine (implValidWeighting Hrw.out (by omega) hzX _ hvw).mono ?_
      rintro e w8 ⟨rfl, hb8⟩
      have hz8 := below_heap hb8 Hz7.out
      have hx8 := below_heap hb8 Hx7.out
      have hlt8 : w.heap.size < w8.heap.size := heap_lt hz8
      have Hb8 := Lib.hid (Hb7.out.trans (hb8.mono Hb7.out.size))
      clear x0 x1 x2 x3 z0 z1 z2 z3 f0 f1 f2 f3 hb8
      have z0 := heap_cell hz8 (i := 0) rfl
      have z1 := heap_cell hz8 (i := 1) rfl
      have z2 := heap_cell hz8 (i := 2) rfl
      have z3 := heap_cell hz8 (i := 3) rfl
      have f0 := frozen_at hz8 0
      have f1 := frozen_at hz8 1
      have f2 := frozen_at hz8 2
      have f3 := frozen_at hz8 3
      clear hz8 hx8
      go_wp2
      refine bodyPost_ret (v := .tuple #[aggW Wgt.non (.slice none 0 0), .bool false]) (by simp [results, Tryd.results27, go_sem, aggW, Wgt.non, z0, z1, z2, z3]) rfl ⟨_, by rw [ho.out], by rw [(HVn.out ho.out)]; exact non_fresh (Below.trans Hb8.out (by repeat' (first | with_reducible exact Below.refl _ _ | with_reducible refine Below.alloc ?_ ?_ _ | with_reducible refine Below.setCell ?_ ?_ _ | with_reducible refine Below.drew ?_ | with_reducible refine Below.draws ?_ _ | omega | (simp; done) | (simp; omega))))⟩
    · have ho := Lib.hid (show rwOk s = true by rw [HO.out, hvw]; rfl)
      go_wp2_with fail
      refine (implValidWeighting Hrw.out (by omega) hzX _ hvw).mono ?_
      rintro e w8 ⟨rfl, hb8⟩
      have hz8 := below_heap hb8 Hz7.out
      have hx8 := below_heap hb8 Hx7.out
      have hlt8 : w.heap.size < w8.heap.size := heap_lt hz8
      have hlt68 : W6.heap.size < w8.heap.size := heap_lt hx8
      have Hf8 := Lib.hid (Hf7.out.stayF OW.ok hb8)
      clear x0 x1 x2 x3 z0 z1 z2 z3 f0 f1 f2 f3 hb8
      have x0 := heap_cell hx8 (i := 0) rfl
      have x1 := heap_cell hx8 (i := 1) rfl
      have x2 := heap_cell hx8 (i := 2) rfl
      have x3 := heap_cell hx8 (i := 3) rfl
      have z0 := heap_cell hz8 (i := 0) rfl
      have z1 := heap_cell hz8 (i := 1) rfl
      have z2 := heap_cell hz8 (i := 2) rfl
      have z3 := heap_cell hz8 (i := 3) rfl
      have f0 := frozen_at hz8 0
      have f1 := frozen_at hz8 1
      have f2 := frozen_at hz8 2
      have f3 := frozen_at hz8 3
      clear hz8 hx8
      go_wp2
      refine bodyPost_ret (v := .tuple #[.agg #[.int .i64 n0, .int .i64 n1, .int .i64 n2, .slice a9 l9 c9], .bool true]) (by simp [results, Tryd.results27, go_sem, z0, z1, z2, z3]) rfl ⟨_, by rw [ho.out], by rw [HVy.out ho.out]; exact Fresh.turnedAt OW.ok Hf8.out Hb5.out (Nat.le_refl _) hlt5 (by repeat' (first | with_reducible exact Only.refl _ _ | with_reducible refine Only.put ?_ ?_ _ _ | (simp; done)))⟩
  · have ho := Lib.hid (rw_len (s := s) (by rw [← Hps.out]; exact h4))
    have HVn := Lib.hid (fun h => rwV_no (s := s) h)
    obtain ⟨ga, gn, gc, rfl, hgn, hcap⟩ := own_sl hp.choose_spec.1
    have hgn4 : ¬ gn = 4 := by omega
    have hlt2 : w.heap.size < W2.heap.size := heap_lt hz2
    have z0 := heap_cell hz2 (i := 0) rfl
    have z1 := heap_cell hz2 (i := 1) rfl
    have z2 := heap_cell hz2 (i := 2) rfl
    have z3 := heap_cell hz2 (i := 3) rfl
    have f0 := frozen_at hz2 0
    have f1 := frozen_at hz2 1
    have f2 := frozen_at hz2 2
    have f3 := frozen_at hz2 3
    clear hz2 hp hgn h4 hcut
    go_wp2
    refine bodyPost_ret (v := .tuple #[aggW Wgt.non (.slice none 0 0), .bool false]) (by simp [results, Tryd.results27, go_sem, aggW, Wgt.non, z0, z1, z2, z3]) rfl ⟨_, by rw [ho.out], by rw [(HVn.out ho.out)]; exact non_fresh (Below.trans Hb2.out (by repeat' (first | with_reducible exact Below.refl _ _ | with_reducible refine Below.alloc ?_ ?_ _ | with_reducible refine Below.setCell ?_ ?_ _ | with_reducible refine Below.drew ?_ | with_reducible refine Below.draws ?_ _ | omega | (simp; done) | (simp; omega))))⟩
end Go.Proofs.YthomdggbmjknnaaDoor
