/- Numbers of beginnings, of words that lead two states to the end: impl's begins and both. -/
import Derived.Test.YtcjmkiedcmlpcaaD4
import Derived.Test.YtcjmkiedcmlpcaaC5
import Derived.Test.YtcjmkiedcmlpcaaF1
import Derived.Deep.RegionHeld3
namespace Go.Proofs.Ytcjmkiedcmlpcaa
open Go.RowKit
set_option linter.unusedVariables false

/-! ### One row whose numbers are told -/
def Row (n : Nat) (t : List Int) (f : Nat → Nat) : Prop := t.length = n ∧ ∀ y, y < n → nth t y = (f y : Nat)
theorem Row.put {n : Nat} {t : List Int} {f g : Nat → Nat} (h : Row n t f) {x : Nat} (hx : x < n) {z : Int} (hz : z = (g x : Nat)) (he : ∀ i, i < n → i ≠ x → g i = f i) : Row n (t.set x z) g := by
  refine ⟨by rw [List.length_set]; exact h.1, fun y hy => ?_⟩
  rw [nth_set (by rw [h.1]; exact hx)]
  by_cases e : x = y
  · subst e; rw [if_pos rfl, hz]
  · rw [if_neg e, h.2 y hy, he y hy (fun h => e h.symm)]
theorem Row.congr {n : Nat} {t : List Int} {f g : Nat → Nat} (h : Row n t f) (he : ∀ y, y < n → f y = g y) : Row n t g := ⟨h.1, fun y hy => by rw [h.2 y hy, he y hy]⟩
def rowL (n : Nat) (f : Nat → Nat) : List Int := (List.range n).map fun y => (f y : Int)
theorem Row.eq {n : Nat} {t : List Int} {f : Nat → Nat} (h : Row n t f) : t = rowL n f := by
  refine ext_nth (by rw [h.1]; simp [rowL]) fun y hy => ?_
  rw [h.1] at hy
  rw [h.2 y hy, rowL, nth_range_map hy]
theorem Row.zeros (n : Nat) : Row n (List.replicate n 0) fun _ => 0 := ⟨by simp, fun y hy => by rw [nth_replicate hy]; rfl⟩

/-- What is added up so far: the states before s, and of s the first d symbols. -/
def begP (x : Chn) (k s d y : Nat) : Nat := (sumN s fun r => sumN x.b fun e => if nxt x k r e = y then begV x k r else 0) + sumN d fun e => if nxt x k s e = y then begV x k s else 0
theorem begP_start (x : Chn) (k y : Nat) : begP x k 0 0 y = 0 := by simp [begP, sumN]
theorem begP_next (x : Chn) (k s y : Nat) : begP x k s x.b y = begP x k (s + 1) 0 y := by unfold begP; rw [sumN_succ, sumN_zero]; rfl
theorem begP_succ (x : Chn) (k s d y : Nat) : begP x k s (d + 1) y = begP x k s d y + if nxt x k s d = y then begV x k s else 0 := by unfold begP; rw [sumN_succ]; omega
theorem begP_end (x : Chn) (k y : Nat) : begP x k x.S 0 y = begV x (k + 1) y := by unfold begP; rw [sumN_zero]; rfl
theorem begP_le {x : Chn} (hv : VC x) {k s d y : Nat} (hk : k < x.n) (hs : s < x.S) (hd : d ≤ x.b) (hy : y < x.S) : begP x k s d y ≤ 1000000000000000 := by
  have h1 : begP x k s d y ≤ begP x k s x.b y := by
    unfold begP
    have := sumN_part (fun e => if nxt x k s e = y then begV x k s else 0) hd
    omega
  rw [begP_next] at h1
  have h2 : begP x k (s + 1) 0 y ≤ begV x (k + 1) y := by
    unfold begP
    rw [sumN_zero]
    exact sumN_part (n := x.S) (k := s + 1) (fun r => sumN x.b fun e => if nxt x k r e = y then begV x k r else 0) (by omega)
  have h3 := hv.begLe (k := k + 1) (s := y) (by omega) hy
  omega

set_option maxHeartbeats 1600000 in
set_option maxRecDepth 10000 in
theorem implBegins {B bx : Nat} {x : Chn} {w : World} (h : BoxC (· < B) w bx x) (hB : B ≤ w.heap.size) (hbx : bx < w.heap.size) (hv : VC x) (place : Nat) (hp : place ≤ x.n) :
    Calls Try.prog 96 #[.pointer (some ⟨bx, 0, none⟩), .int .i64 place] w fun e w' => ∃ v, e = .returned v ∧ Fresh OI w w' v (rowL x.S (begV x place)) := by
  have hnat := hv.nat
  have H := Lib.hid h
  have Hv := Lib.hid hv; clear hv
  obtain ⟨a, c, a', c', g0, g1, g2, g3, g4, g5, hu, hpp, ⟨h1, h2⟩, h3, h4⟩ := h.cells
  obtain ⟨NS, hNS⟩ : ∃ n : Nat, n = x.S := ⟨_, rfl⟩
  obtain ⟨NB, hNB⟩ : ∃ n : Nat, n = x.b := ⟨_, rfl⟩
  obtain ⟨NT, hNT⟩ : ∃ n : Nat, n = x.start.toNat := ⟨_, rfl⟩
  rw [show x.base = (NB : Int) by have := Hv.out.base; rw [hNB]; show x.base = (x.base.toNat : Int); omega] at g0
  rw [show x.states = (NS : Int) by have := Hv.out.states; rw [hNS]; show x.states = (x.states.toNat : Int); omega] at g1
  rw [show x.start = (NT : Int) by have := Hv.out.start; rw [hNT]; omega] at g2
  rw [← hNS, ← hNB, ← hNT] at hnat
  have HNS := Lib.hid hNS; clear hNS
  have HNB := Lib.hid hNB; clear hNB
  have HNT := Lib.hid hNT; clear hNT
  clear hu hpp h g3 g4 g5
  simp only [Chn.n] at hnat hp
  have hmk2 := run_make_row' (P := Try.prog) 23 2 (.int .i64 0) 8 Try.underlying23 infoI64 rfl .i64 .i64 NS (by omega) (by omega)
  have hf0 := Fresh.made (Below.refl w.heap.size w) 2 fI 0 NS (by unfold maxLen; omega)
  obtain ⟨q0, q1, q2, q3, q4⟩ := hf0.put1 (fun _ => rfl) (i := NT) (by simp; omega)
  have Hf1 := Lib.hid (show Fresh OI w (w.alloc (.cells ((madeCells #[.int .i64 0] NS).setIfInBounds NT (.int .i64 1)) 2)) (.slice (some ⟨w.heap.size, 0, none⟩) NS NS) ((List.replicate NS 0).set NT 1) by have h := q4 _ (Below.refl _ _) 1; simpa [go_sem] using h)
  have hr1 := Lib.hid (show Row NS ((List.replicate NS (0 : Int)).set NT 1) (begV x 0) from (Row.zeros NS).put (show NT < NS by omega) (by show (1 : Int) = ((if NT = x.start.toNat then 1 else 0 : Nat) : Int); rw [if_pos HNT.out]; rfl) (fun i hi hne => by show (if i = x.start.toNat then 1 else 0) = 0; rw [if_neg (by rw [← HNT.out]; exact hne)]))
  clear q4 hf0
  go_enter Try.func96, Try.ntmps96
  go_wp2
  clear q0 q1 q2 q3 g2
  go_loopw [5, 23] (fun ov iv wr => ∃ (k g : Nat) (t : List Int), k ≤ place ∧ iv = .int .i64 k ∧ ov = .slice (some ⟨g, 0, none⟩) NS NS ∧ Hid (Fresh OI w wr (.slice (some ⟨g, 0, none⟩) NS NS) t) ∧ Hid (Row NS t (begV x k))) (fun _ iv _ => place - (intOf iv).toNat)
  case atStart => exact ⟨0, _, _, Nat.zero_le _, rfl, rfl, Hf1, hr1⟩
  case round =>
    clear Hf1 hr1
    obtain ⟨k, g, t, hk, rfl, rfl, hf, hr⟩ := hrel
    obtain ⟨W2, rfl⟩ : ∃ W2, W2 = wr := ⟨_, rfl⟩
    by_cases hlt : k < place
    · have e1 : W2.cell? ⟨bx, 1, none⟩ = some (.int .i64 NS) := (hf.out.bel.cell (p := ⟨bx, 1, none⟩) hbx).trans g1
      have hhead := hf.out.choose_spec.1.head
      have hgl : g < W2.heap.size := hhead.2
      have hgw : w.heap.size ≤ g := hf.out.choose_spec.2.1 _ hhead.1
      have hSg : hf.out.choose = [g] := hf.out.choose_spec.1.blocks
      have Hrd := Lib.hid (show RdI (· = g) W2 (.slice (some ⟨g, 0, none⟩) NS NS) t from OI.leads.to _ _ _ _ _ hf.out.choose_spec.1 (fun j hj => by rw [hSg] at hj; simpa using hj))
      have hf2 := Lib.hid (show Fresh OI w (W2.alloc (.cells (madeCells #[.int .i64 0] NS) 2)) (.slice (some ⟨W2.heap.size, 0, none⟩) NS NS) (List.replicate NS 0) from Fresh.made hf.out.bel 2 fI 0 NS (by unfold maxLen; omega))
      have hr2 := Lib.hid ((Row.zeros NS).congr (fun y _ => (begP_start x k y).symm))
      have hrd2 := Lib.hid (show RdI (· = g) (W2.alloc (.cells (madeCells #[.int .i64 0] NS) 2)) (.slice (some ⟨g, 0, none⟩) NS NS) t from RdI.ok.keep Hrd.out fun j hj => Below.heap_alloc W2 _ j (by omega))
      have hgg : ¬ g = W2.heap.size := by omega
      have Hrow := Lib.hid (fun y (hy : y < NS) => hr.out.2 y hy)
      have Htl := Lib.hid hr.out.1
      clear hhead hSg hf
      go_wp2
      go_loopw [33] (fun sv wr => ∃ (s : Nat) (t2 : List Int), s ≤ NS ∧ sv = .int .i64 s ∧ Hid (Fresh OI w wr (.slice (some ⟨W2.heap.size, 0, none⟩) NS NS) t2) ∧ Hid (Row NS t2 (begP x k s 0)) ∧ Hid (RdI (· = g) wr (.slice (some ⟨g, 0, none⟩) NS NS) t)) (fun sv _ => NS - (intOf sv).toNat)
      case atStart => exact ⟨0, _, Nat.zero_le _, rfl, hf2, hr2, hrd2⟩
      case round =>
        clear e1 hf2 hr2 hrd2
        obtain ⟨s, t2, hs, rfl, hf, hr2, hrd⟩ := hrel
        obtain ⟨W3, rfl⟩ : ∃ W3, W3 = wr := ⟨_, rfl⟩
        have e0 : W3.cell? ⟨bx, 0, none⟩ = some (.int .i64 NB) := (hf.out.bel.cell (p := ⟨bx, 0, none⟩) hbx).trans g0
        by_cases hls : s < NS
        · obtain ⟨b3, o3, u3, ea, hP3, hc3, rfl⟩ := Rd.elim hrd.out s (by have := Htl.out; omega)
          simp only [Option.some.injEq, Addr.mk.injEq, and_true] at ea
          obtain ⟨rfl, rfl⟩ := ea
          have hc4 : W3.cell? ⟨g, s, none⟩ = some (.int .i64 (begV x k s : Nat)) := by rw [← Hrow.out s hls]; simpa using hc3
          have hbl := Hv.out.begLe (k := k) (s := s) (by show k ≤ x.places.length; omega) (by rw [← HNS.out]; exact hls)
          clear hc3
          go_wp2
          go_loopw [42] (fun dv wr => ∃ (d : Nat) (t2 : List Int), d ≤ NB ∧ dv = .int .i64 d ∧ Hid (Fresh OI w wr (.slice (some ⟨W2.heap.size, 0, none⟩) NS NS) t2) ∧ Hid (Row NS t2 (begP x k s d)) ∧ Hid (RdI (· = g) wr (.slice (some ⟨g, 0, none⟩) NS NS) t)) (fun dv _ => NB - (intOf dv).toNat)
          case atStart => exact ⟨0, _, Nat.zero_le _, rfl, hf, hr2, hrd⟩
          case round =>
            clear e0 hc4 hf hr2 hrd
            obtain ⟨d, t2, hd, rfl, hf, hr2, hrd⟩ := hrel
            obtain ⟨W4, rfl⟩ : ∃ W4, W4 = wr := ⟨_, rfl⟩
            by_cases hld : d < NB
            · have hkn : k < x.n := by show k < x.places.length; omega
              have hsS : s < x.S := by rw [← HNS.out]; exact hls
              have hdb : d < x.b := by rw [← HNB.out]; exact hld
              have hnx := (Hv.out.cellN hkn hsS hdb).2
              have hcl := Lib.hid (implNext (H.out.below hf.out.bel hB hbx) Hv.out k s d hkn hsS hdb)
              have hbp := begP_le Hv.out (d := d) hkn hsS (by omega) hnx
              rw [← HNS.out] at hnx
              obtain ⟨a0, a1, a2, a3, a4⟩ := hf.out.put1 (fun _ => rfl) (i := nxt x k s d) (by rw [hr2.out.1]; exact hnx)
              have hv1 : nth t2 (nxt x k s d) = (begP x k s d (nxt x k s d) : Nat) := hr2.out.2 _ hnx
              have hrn := Lib.hid (hr2.out.put (g := begP x k s (d + 1)) hnx (z := (begP x k s d (nxt x k s d) : Int) + begV x k s) (by rw [begP_succ, if_pos rfl]; omega) (fun i hi hne => by rw [begP_succ, if_neg (fun h => hne h.symm)]; omega))
              have Hput := Lib.hid (fun (w2 : World) (hb2 : Below W4.heap.size W4 w2) (z : Int) => (a4 w2 hb2 z : Fresh OI w (w2.setCell ⟨W2.heap.size, nxt x k s d, none⟩ (.int .i64 z)) _ _))
              have Hk := Lib.hid (fun (w2 : World) (hb2 : Below W4.heap.size W4 w2) (z : Int) => (RdI.ok.keep hrd.out fun j hj => by
                have hj' : j = g := hj
                rw [heap_setCell_other w2 _ j _ (by simp; omega)]
                exact hb2.block j (by have := a3; omega) : RdI (· = g) (w2.setCell ⟨W2.heap.size, nxt x k s d, none⟩ (.int .i64 z)) (.slice (some ⟨g, 0, none⟩) NS NS) t))
              rw [hv1] at a0
              have a0' : W4.cell? ⟨W2.heap.size, nxt x k s d, none⟩ = some (.int .i64 (begP x k s d (nxt x k s d) : Nat)) := a0
              clear a0 a4 hv1 hkn hsS hdb hrd hf hr2
              generalize begP x k s d (nxt x k s d) = P at *
              generalize hNX : nxt x k s d = nx at *
              have HNX := Lib.hid hNX; clear hNX
              generalize begV x k s = E at *
              go_wp2_with fail
              refine (Calls.mono hcl.out ?_)
              rintro e w' ⟨rfl, m, rfl⟩
              have hf5 := Lib.hid (Hput.out (W4.drewN m) (bel_draws rfl) ((P : Int) + E))
              have hk5 := Lib.hid (Hk.out (W4.drewN m) (bel_draws rfl) ((P : Int) + E))
              go_wp2
              go_roundw
              case rel => exact ⟨d + 1, _, by omega, by go_num, hf5, hrn, hk5⟩
              case measure => simp [intOf]; omega
            · obtain rfl : d = NB := by omega
              have hr3 := Lib.hid (show Row NS t2 (begP x k (s + 1) 0) from hr2.out.congr (fun y _ => by rw [HNB.out]; exact begP_next x k s y))
              go_wp2
              go_roundw
              case rel => exact ⟨s + 1, _, by omega, by go_num, hf, hr3, hrd⟩
              case measure => simp [intOf]; omega
        · obtain rfl : s = NS := by omega
          have hr3 := Lib.hid (show Row s t2 (begV x (k + 1)) from hr2.out.congr (fun y _ => by rw [HNS.out]; exact begP_end x k y))
          go_wp2
          go_roundw
          case rel => exact ⟨k + 1, W2.heap.size, _, by omega, by go_num, rfl, hf, hr3⟩
          case measure => simp [intOf]; omega
    · obtain rfl : k = place := by omega
      have e := Lib.hid hr.out.eq
      go_wp2
      go_ret
      exact ⟨_, rfl, by rw [← HNS.out, ← e.out]; exact hf.out⟩
end Go.Proofs.Ytcjmkiedcmlpcaa
