/- The laws' small functions over weightings. -/
import Derived.Test.YthomdggbmjknnaaDoorS0
namespace Go.Proofs.YthomdggbmjknnaaDoor
open Go.RowKit
set_option linter.unusedVariables false

theorem bcell {W w1 : World} (hb : Below W.heap.size W w1) : (∀ b o, b < W.heap.size → w1.cell? ⟨b, o, none⟩ = W.cell? ⟨b, o, none⟩) ∧ (∀ b o, b < W.heap.size → w1.frozen? ⟨b, o, none⟩ = W.frozen? ⟨b, o, none⟩) :=
  ⟨fun b o h => hb.cell (p := ⟨b, o, none⟩) h, fun b o h => hb.frozen (p := ⟨b, o, none⟩) h⟩

theorem keep_set {w : World} {p : Addr} {v : Value} {k : Nat} (h : k ≠ p.block) : (w.setCell p v).heap[k]? = w.heap[k]? := heap_setCell_other w p k v (by simpa using h)

theorem toWeighting_t {B : Nat} {v : Value} {x : Wgt} {w : World} (h : RdW (· < B) w v x) (hB : B ≤ w.heap.size) (hn : szW x ≤ 1048576) :
    Calls Tryd.prog 23 #[v] w fun e w' => ∃ v', e = .returned v' ∧ In OW w.heap.size w'.heap.size w' v' x ∧ Turn 0 0 w w' := by
  obtain ⟨u, rfl, hu⟩ := h
  obtain ⟨a, c, rfl, h1, h2⟩ := hu.isSlice
  unfold maxLen at h2
  have Hu := Lib.hid hu; clear hu
  unfold aggW
  go_enter Tryd.func23, Tryd.ntmps23
  go_wp2_with fail
  refine (toInt64Sx (Rd.below RdI.ok Hu.out (Below.mono (B := w.heap.size) (by repeat' (first | with_reducible exact Below.refl _ _ | with_reducible refine Below.alloc ?_ ?_ _ | with_reducible refine Below.setCell ?_ ?_ _ | with_reducible refine Below.drew ?_ | with_reducible refine Below.draws ?_ _ | omega | (simp; done) | (simp; omega))) hB)) (fun k hk => by simp; omega) hn).mono ?_
  rintro e w1 ⟨v1, rfl, hf⟩
  obtain ⟨S, hS, hS2, hb⟩ := hf
  obtain ⟨av, nv, cv, rfl⟩ := hS.isSlice
  have HS := Lib.hid hS; clear hS
  have HS2 := Lib.hid hS2; clear hS2
  have hsz := hb.size
  simp at hsz
  obtain ⟨hc, hz⟩ := bcell hb
  go_wp2
  refine bodyPost_ret (v := aggW x (.slice av nv cv)) (by simp [results, Tryd.results23, go_sem, aggW, hc]) rfl ⟨_, rfl, ⟨S, ⟨_, rfl, OI.ok.keep HS.out fun k hk => ?_⟩, fun k hk => ⟨?_, ?_⟩⟩, Turn.of_below ?_⟩
  · have := HS2.out k hk
    simp at this
    refine Only.block (S := [w.heap.size + 1, w.heap.size + 1 + 1]) (by repeat' (first | with_reducible exact Only.refl _ _ | with_reducible refine Only.put ?_ ?_ _ _ | (simp; done))) k (OI.ok.lt HS.out k hk) (by simp; omega)
  · have := HS2.out k hk
    simp at this
    omega
  · have := OI.ok.lt HS.out k hk
    simp
    omega
  · refine Below.trans (b := w1) ?_ ?_
    · refine Below.trans ?_ (hb.mono (by first | omega | (simp; done) | (simp; omega)))
      repeat' (first | with_reducible exact Below.refl _ _ | with_reducible refine Below.alloc ?_ ?_ _ | with_reducible refine Below.setCell ?_ ?_ _ | with_reducible refine Below.drew ?_ | with_reducible refine Below.draws ?_ _ | omega | (simp; done) | (simp; omega))
    · repeat' (first | with_reducible exact Below.refl _ _ | with_reducible refine Below.alloc ?_ ?_ _ | with_reducible refine Below.setCell ?_ ?_ _ | with_reducible refine Below.drew ?_ | with_reducible refine Below.draws ?_ _ | omega | (simp; done) | (simp; omega))

theorem szWeighting_t {B : Nat} {v : Value} {x : Wgt} {w : World} (h : RdW (· < B) w v x) (hB : B ≤ w.heap.size) (left : Int) (hl : 0 ≤ left) (hl2 : left ≤ 1048576) :
    Calls Tryd.prog 21 #[v, .int .i64 left] w fun e w' => e = .returned (.int .i64 (szR (szW x) left)) ∧ Turn 0 0 w w' := by
  obtain ⟨u, rfl, hu⟩ := h
  obtain ⟨a, c, rfl, h1, h2⟩ := hu.isSlice
  unfold maxLen at h2
  have Hu := Lib.hid hu; clear hu
  unfold aggW szW
  have hw1 := Lib.hid (Turn.of_below ((Below.refl w.heap.size w).alloc (Nat.le_refl _) (.cells #[.int .i64 x.base, .int .i64 x.modulus, .int .i64 x.target, .slice a x.weights.length c] 37)))
  by_cases hle : (x.weights.length : Int) ≤ left
  · have hv := Lib.hid (szR_yes hle)
    go_enter Tryd.func21, Tryd.ntmps21
    go_wp2_with fail
    refine (szInt64S (RdI.ok.keep Hu.out fun k hk => Below.heap_alloc w _ k (by omega)) _ hl hl2).mono ?_
    rw [hv.out]
    rintro e w' ⟨rfl, rfl⟩
    go_wp2
    go_ret
    exact ⟨ret_int' hv.out.symm, hw1.out⟩
  · have hv := Lib.hid (szR_no (n := x.weights.length) (left := left) (by omega))
    go_enter Tryd.func21, Tryd.ntmps21
    go_wp2_with fail
    refine (szInt64S (RdI.ok.keep Hu.out fun k hk => Below.heap_alloc w _ k (by omega)) _ hl hl2).mono ?_
    rw [hv.out]
    rintro e w' ⟨rfl, rfl⟩
    go_wp2
    go_ret
    exact ⟨ret_int' hv.out.symm, hw1.out⟩

theorem eqWeighting_t {a b c d : Nat} {va vb : Value} {x : Wgt} {w : World} (ha : In OW a b w va x) (hb : In OW c d w vb x) :
    Calls Tryd.prog 25 #[va, vb] w fun e w' => e = .returned (.bool true) ∧ Turn 0 0 w w' := by
  obtain ⟨S, ⟨u, rfl, hu⟩, hS⟩ := ha
  obtain ⟨T, ⟨u', rfl, hu'⟩, hT⟩ := hb
  have Hu := Lib.hid (OI.leads.to _ _ _ _ (· < w.heap.size) hu (OI.ok.lt hu))
  have Hu' := Lib.hid (OI.leads.to _ _ _ _ (· < w.heap.size) hu' (OI.ok.lt hu'))
  clear hu hu' hS hT
  obtain ⟨a1, c1, rfl, h1, h2⟩ := Hu.out.isSlice
  obtain ⟨a2, c2, rfl, h3, h4⟩ := Hu'.out.isSlice
  unfold maxLen at h2 h4
  have hbx := Lib.hid (((Below.refl w.heap.size w).alloc (Nat.le_refl _) (.cells #[.int .i64 x.base, .int .i64 x.modulus, .int .i64 x.target, .slice a1 x.weights.length c1] 40)).alloc (by simp) (.cells #[.int .i64 x.base, .int .i64 x.modulus, .int .i64 x.target, .slice a2 x.weights.length c2] 40))
  unfold aggW
  go_enter Tryd.func25, Tryd.ntmps25
  go_wp2_with fail
  refine (eqInt64S (RdI.ok.keep Hu.out fun k hk => hbx.out.block k hk) (RdI.ok.keep Hu'.out fun k hk => hbx.out.block k hk)).mono ?_
  rintro e w' ⟨rfl, n, rfl⟩
  go_wp2
  go_ret
  exact ⟨rfl, Turn.of_below (hbx.out.trans ⟨rfl, rfl, rfl, Nat.le_refl _, fun _ _ => rfl⟩)⟩

theorem markWeighting_t {lo hi : Nat} {v : Value} {x : Wgt} {w : World} {k : Int} (h : In OW lo hi w v x) (hk : 0 ≤ k) (hk2 : k + szW x ≤ 4611686018427387904) :
    Calls Tryd.prog 28 #[v, .int .i64 k] w fun e w' => e = .returned (.int .i64 (k + szW x)) ∧ In OW lo hi w' v (mkW k x) ∧ Turn lo hi w w' := by
  obtain ⟨S, ⟨u, rfl, hu⟩, hS⟩ := h
  obtain ⟨a1, n1, c1, rfl⟩ := hu.isSlice
  have Hu := Lib.hid hu; clear hu
  have HS := Lib.hid hS; clear hS
  have hbx := Lib.hid ((Below.refl w.heap.size w).alloc (Nat.le_refl _) (.cells #[.int .i64 x.base, .int .i64 x.modulus, .int .i64 x.target, .slice a1 n1 c1] 40))
  unfold aggW
  go_enter Tryd.func28, Tryd.ntmps28
  go_wp2_with fail
  refine (markInt64S (Own.below oI.ok Hu.out hbx.out) hk hk2).mono ?_
  rintro e w1 ⟨rfl, ho, hb⟩
  have Ho := Lib.hid ho; clear ho
  have Hb := Lib.hid hb; clear hb
  go_wp2
  go_ret
  exact ⟨rfl, ⟨S, ⟨_, rfl, Ho.out⟩, HS.out⟩, Turn.after hbx.out ⟨Hb.out.os, Hb.out.tape, Hb.out.output, Hb.out.size, fun i hi hd => Hb.out.block i hi fun hm => by have := HS.out i hm; omega⟩⟩

theorem heldWeighting_t {lo hi : Nat} {v : Value} {x : Wgt} {w : World} {k : Int} (h : In OW lo hi w v (mkW k x)) (hk : 0 ≤ k) (hk2 : k + szW x ≤ 4611686018427387904) :
    Calls Tryd.prog 29 #[v, .int .i64 k] w fun e w' => e = .returned (.int .i64 (k + szW x)) ∧ Turn 0 0 w w' := by
  obtain ⟨S, ⟨u, rfl, hu⟩, hS⟩ := h
  have Hu := Lib.hid (show RdI (· < w.heap.size) w u (mk1 k x.weights.length) from OI.leads.to _ _ _ _ (· < w.heap.size) hu (OI.ok.lt hu))
  clear hu hS
  obtain ⟨a1, c1, rfl, h1, h2⟩ := Hu.out.isSlice
  have hbx := Lib.hid ((Below.refl w.heap.size w).alloc (Nat.le_refl _) (.cells #[.int .i64 x.base, .int .i64 x.modulus, .int .i64 x.target, .slice a1 (mk1 k x.weights.length).length c1] 40))
  unfold aggW mkW
  go_enter Tryd.func29, Tryd.ntmps29
  go_wp2_with fail
  refine (heldInt64S (RdI.ok.keep Hu.out fun i hi => hbx.out.block i hi) hk hk2).mono ?_
  rintro e w1 ⟨rfl, rfl⟩
  go_wp2
  go_ret
  exact ⟨rfl, Turn.of_below hbx.out⟩
end Go.Proofs.YthomdggbmjknnaaDoor
/- Boxes of structs that the laws keep: locals of their own, and parameters. Printed by gen_s2.py. -/
namespace Go.Proofs.YthomdggbmjknnaaDoor
open Go.RowKit
set_option linter.unusedVariables false

theorem turn_set {w w' : World} (h : Turn 0 0 w w') {p : Addr} (hp : w.heap.size ≤ p.block) (v : Value) : Turn 0 0 w (w'.setCell p v) := Turn.of_below (h.bel.setCell hp v)
theorem In.sameF {α : Type} {R : Rep α} (hR : R.Fine) {lo hi : Nat} {w w' : World} {v : Value} {x : α} (h : In R lo hi w v x) (he : w'.heap = w.heap) : In R lo hi w' v x := by
  obtain ⟨S, h1, h2⟩ := h
  exact ⟨S, hR.keep h1 fun k hk => by rw [he], h2⟩
theorem In.same {α : Type} {R : Rep α} (hR : R.Ok) {lo hi : Nat} {w w' : World} {v : Value} {x : α} (h : In R lo hi w v x) (he : w'.heap = w.heap) : In R lo hi w' v x := h.sameF hR.fine he
theorem cnt_le_szW2 (x : Wgt) : szW x ≤ szW x := Nat.le_refl _
theorem setCell_size3 (w : World) (p : Addr) (v : Value) : (w.setCell p v).heap.size = w.heap.size := by simp

/-! ### Weighting -/
def LocW (lo b : Nat) (w : World) (u : Value) (x : Wgt) : Prop := w.heap[b]? = some (.cells #[.int .i64 x.base, .int .i64 x.modulus, .int .i64 x.target, u] 40 (0, 0)) ∧ In OW lo b w (aggW x u) x ∧ lo ≤ b
theorem LocW.keep {lo b a c : Nat} {w w' : World} {u : Value} {x : Wgt} (h : LocW lo b w u x) (t : Turn a c w w') (hd : c ≤ lo ∨ b + 1 ≤ a) : LocW lo b w' u x :=
  ⟨(t.block b (Array.getElem?_eq_some_iff.1 h.1).1 (by have := h.2.2; omega)).trans h.1, h.2.1.keepF OW.ok t (by omega), h.2.2⟩
theorem LocW.lt {lo b : Nat} {w : World} {u : Value} {x : Wgt} (h : LocW lo b w u x) : b < w.heap.size := (Array.getElem?_eq_some_iff.1 h.1).1
theorem LocW.cells {lo b : Nat} {w : World} {u : Value} {x : Wgt} (h : LocW lo b w u x) : w.cell? ⟨b, 0, none⟩ = some (.int .i64 x.base) ∧ w.cell? ⟨b, 1, none⟩ = some (.int .i64 x.modulus) ∧ w.cell? ⟨b, 2, none⟩ = some (.int .i64 x.target) ∧ w.cell? ⟨b, 3, none⟩ = some (u) :=
  ⟨heap_cell h.1 rfl, heap_cell h.1 rfl, heap_cell h.1 rfl, heap_cell h.1 rfl⟩
theorem LocW.turn {lo b : Nat} {w w' : World} {u : Value} {x : Wgt} {k : Int} (h : LocW lo b w u x) (t : Turn lo b w w') (h2 : In OW lo b w' (aggW x u) (mkW k x)) : LocW lo b w' u (mkW k x) :=
  ⟨(t.block b h.lt (.inr (Nat.le_refl _))).trans h.1, h2, h.2.2⟩
theorem LocW.made {lo : Nat} {w : World} {u : Value} {x : Wgt} (h : In OW lo w.heap.size w (aggW x u) x) (hlo : lo ≤ w.heap.size) :
    LocW lo w.heap.size (w.alloc (.cells #[.int .i64 x.base, .int .i64 x.modulus, .int .i64 x.target, u] 40)) u x ∧ Turn 0 0 w (w.alloc (.cells #[.int .i64 x.base, .int .i64 x.modulus, .int .i64 x.target, u] 40)) := by
  have t := Turn.of_below ((Below.refl w.heap.size w).alloc (Nat.le_refl _) (.cells #[.int .i64 x.base, .int .i64 x.modulus, .int .i64 x.target, u] 40))
  exact ⟨⟨heap_alloc_new w _, h.keepF OW.ok t (by omega), hlo⟩, t⟩
def ParW (B b : Nat) (w : World) (u : Value) (x : Wgt) : Prop := w.heap[b]? = some (.cells #[.int .i64 x.base, .int .i64 x.modulus, .int .i64 x.target, u] 37 (0, 0)) ∧ RdW (· < B) w (aggW x u) x ∧ B ≤ b
/-- Type 37. -/
theorem ParW.keep {B b a c : Nat} {w w' : World} {u : Value} {x : Wgt} (h : ParW B b w u x) (t : Turn a c w w') (hd : c = 0 ∨ b + 1 ≤ a) : ParW B b w' u x :=
  ⟨(t.block b (Array.getElem?_eq_some_iff.1 h.1).1 (by omega)).trans h.1, rd_turn RdW.ok h.2.1 t (by have := h.2.2; omega) (by have := h.2.2; have := (Array.getElem?_eq_some_iff.1 h.1).1; omega), h.2.2⟩
/-- Type 37. -/
theorem ParW.cells {B b : Nat} {w : World} {u : Value} {x : Wgt} (h : ParW B b w u x) : w.cell? ⟨b, 0, none⟩ = some (.int .i64 x.base) ∧ w.cell? ⟨b, 1, none⟩ = some (.int .i64 x.modulus) ∧ w.cell? ⟨b, 2, none⟩ = some (.int .i64 x.target) ∧ w.cell? ⟨b, 3, none⟩ = some (u) :=
  ⟨heap_cell h.1 rfl, heap_cell h.1 rfl, heap_cell h.1 rfl, heap_cell h.1 rfl⟩

/-! ### Permuting -/
/-! ### Chain -/
end Go.Proofs.YthomdggbmjknnaaDoor
/- The laws' small functions over chains. -/
namespace Go.Proofs.YthomdggbmjknnaaDoor
open Go.RowKit
set_option linter.unusedVariables false

end Go.Proofs.YthomdggbmjknnaaDoor
/- The laws' small functions over permutings. -/
namespace Go.Proofs.YthomdggbmjknnaaDoor
open Go.RowKit
set_option linter.unusedVariables false

theorem cnt_le_szP (x : Prm) : cntP x ≤ szP x := cnt_le_sz2 x.orders
end Go.Proofs.YthomdggbmjknnaaDoor
