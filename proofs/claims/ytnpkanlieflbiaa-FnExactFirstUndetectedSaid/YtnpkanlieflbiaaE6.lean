/- Numbers of beginnings, of words that lead two states to the end: impl's begins and both. -/
import Derived.Test.YtnpkanlieflbiaaD4
import Derived.Test.YtnpkanlieflbiaaC5
import Derived.Test.YtnpkanlieflbiaaF1
import Derived.Deep.RegionHeld3
import Derived.Test.YtnpkanlieflbiaaH2
import Derived.StillTailTactics
namespace Go.Proofs.Ytnpkanlieflbiaa
open Go.RowKit
set_option linter.unusedVariables false

/-! ### One row whose numbers are told -/
def Row (n : Nat) (t : List Int) (f : Nat → Nat) : Prop := t.length = n ∧ ∀ y, y < n → nth t y = (f y : Nat)
theorem Row.put {n : Nat} {t : List Int} {f g : Nat → Nat} (h : Row n t f) {x : Nat} (hx : x < n) {z : Int} (hz : z = (g x : Nat)) (he : ∀ i, i < n → i ≠ x → g i = f i) : Row n (t.set x z) g := by
  refine ⟨by rw [List.length_set]; exact h.1, fun y hy => ?_⟩
  rw [nth_set (by rw [h.1]; exact hx)]
  by_cases e : x = y
  · subst e; rw [if_pos rfl, hz]
  · rw [if_neg e, h.2 y hy, he y hy (fun h => e h.symm)]
theorem Row.congr {n : Nat} {t : List Int} {f g : Nat → Nat} (h : Row n t f) (he : ∀ y, y < n → f y = g y) : Row n t g := ⟨h.1, fun y hy => by rw [h.2 y hy, he y hy]⟩
def rowL (n : Nat) (f : Nat → Nat) : List Int := (List.range n).map fun y => (f y : Int)
theorem Row.eq {n : Nat} {t : List Int} {f : Nat → Nat} (h : Row n t f) : t = rowL n f := by
  refine ext_nth (by rw [h.1]; simp [rowL]) fun y hy => ?_
  rw [h.1] at hy
  rw [h.2 y hy, rowL, nth_range_map hy]
theorem Row.zeros (n : Nat) : Row n (List.replicate n 0) fun _ => 0 := ⟨by simp, fun y hy => by rw [nth_replicate hy]; rfl⟩

/-- What is added up so far: the states before s, and of s the first d symbols. -/
def begP (x : Chn) (k s d y : Nat) : Nat := (sumN s fun r => sumN x.b fun e => if nxt x k r e = y then begV x k r else 0) + sumN d fun e => if nxt x k s e = y then begV x k s else 0
theorem begP_start (x : Chn) (k y : Nat) : begP x k 0 0 y = 0 := by simp [begP, sumN]
theorem begP_next (x : Chn) (k s y : Nat) : begP x k s x.b y = begP x k (s + 1) 0 y := by unfold begP; rw [sumN_succ, sumN_zero]; rfl
theorem begP_succ (x : Chn) (k s d y : Nat) : begP x k s (d + 1) y = begP x k s d y + if nxt x k s d = y then begV x k s else 0 := by unfold begP; rw [sumN_succ]; omega
theorem begP_end (x : Chn) (k y : Nat) : begP x k x.S 0 y = begV x (k + 1) y := by unfold begP; rw [sumN_zero]; rfl
theorem begP_le {x : Chn} (hv : VC x) {k s d y : Nat} (hk : k < x.n) (hs : s < x.S) (hd : d ≤ x.b) (hy : y < x.S) : begP x k s d y ≤ 1000000000000000 := by
  have h1 : begP x k s d y ≤ begP x k s x.b y := by
    unfold begP
    have := sumN_part (fun e => if nxt x k s e = y then begV x k s else 0) hd
    omega
  rw [begP_next] at h1
  have h2 : begP x k (s + 1) 0 y ≤ begV x (k + 1) y := by
    unfold begP
    rw [sumN_zero]
    exact sumN_part (n := x.S) (k := s + 1) (fun r => sumN x.b fun e => if nxt x k r e = y then begV x k r else 0) (by omega)
  have h3 := hv.begLe (k := k + 1) (s := y) (by omega) hy
  omega

set_option maxHeartbeats 1600000 in
set_option maxRecDepth 10000 in
theorem implBegins {B bx : Nat} {x : Chn} {w : World} (h : BoxC (· < B) w bx x) (hB : B ≤ w.heap.size) (hbx : bx < w.heap.size) (hv : VC x) (place : Nat) (hp : place ≤ x.n) :
    Calls Try.prog 139 #[.pointer (some ⟨bx, 0, none⟩), .int .i64 place] w fun e w' => ∃ v, e = .returned v ∧ Fresh OI w w' v (rowL x.S (begV x place)) := by
  have hnat := hv.nat
  have H := Lib.hid h
  have Hv := Lib.hid hv; clear hv
  obtain ⟨a, c, a', c', g0, g1, g2, g3, g4, g5, hu, hpp, ⟨h1, h2⟩, h3, h4⟩ := h.cells
  obtain ⟨NS, hNS⟩ : ∃ n : Nat, n = x.S := ⟨_, rfl⟩
  obtain ⟨NB, hNB⟩ : ∃ n : Nat, n = x.b := ⟨_, rfl⟩
  obtain ⟨NT, hNT⟩ : ∃ n : Nat, n = x.start.toNat := ⟨_, rfl⟩
  rw [show x.base = (NB : Int) by have := Hv.out.base; rw [hNB]; show x.base = (x.base.toNat : Int); omega] at g0
  rw [show x.states = (NS : Int) by have := Hv.out.states; rw [hNS]; show x.states = (x.states.toNat : Int); omega] at g1
  rw [show x.start = (NT : Int) by have := Hv.out.start; rw [hNT]; omega] at g2
  rw [← hNS, ← hNB, ← hNT] at hnat
  have HNS := Lib.hid hNS; clear hNS
  have HNB := Lib.hid hNB; clear hNB
  have HNT := Lib.hid hNT; clear hNT
  clear hu hpp h g3 g4 g5
  simp only [Chn.n] at hnat hp
  have hmk2 := run_make_row' (P := Try.prog) 22 2 (.int .i64 0) 8 Try.underlying22 infoI64 rfl .i64 .i64 NS (by omega) (by omega)
  have hf0 := Fresh.made (Below.refl w.heap.size w) 2 fI 0 NS (by unfold maxLen; omega)
  obtain ⟨q0, q1, q2, q3, q4⟩ := hf0.put1 (fun _ => rfl) (i := NT) (by simp; omega)
  have Hf1 := Lib.hid (show Fresh OI w (w.alloc (.cells ((madeCells #[.int .i64 0] NS).setIfInBounds NT (.int .i64 1)) 2)) (.slice (some ⟨w.heap.size, 0, none⟩) NS NS) ((List.replicate NS 0).set NT 1) by have h := q4 _ (Below.refl _ _) 1; simpa [go_sem] using h)
  have hr1 := Lib.hid (show Row NS ((List.replicate NS (0 : Int)).set NT 1) (begV x 0) from (Row.zeros NS).put (show NT < NS by omega) (by show (1 : Int) = ((if NT = x.start.toNat then 1 else 0 : Nat) : Int); rw [if_pos HNT.out]; rfl) (fun i hi hne => by show (if i = x.start.toNat then 1 else 0) = 0; rw [if_neg (by rw [← HNT.out]; exact hne)]))
  clear q4 hf0
  go_enter Try.func139, Try.ntmps139
  go_wp2
  clear q0 q1 q2 q3 g2
  go_loopw [5, 23] (fun ov iv wr => ∃ (k g : Nat) (t : List Int), k ≤ place ∧ iv = .int .i64 k ∧ ov = .slice (some ⟨g, 0, none⟩) NS NS ∧ Hid (Fresh OI w wr (.slice (some ⟨g, 0, none⟩) NS NS) t) ∧ Hid (Row NS t (begV x k))) (fun _ iv _ => place - (intOf iv).toNat)
  case atStart => exact ⟨0, _, _, Nat.zero_le _, rfl, rfl, Hf1, hr1⟩
  case round =>
    clear Hf1 hr1
    obtain ⟨k, g, t, hk, rfl, rfl, hf, hr⟩ := hrel
    obtain ⟨W2, rfl⟩ : ∃ W2, W2 = wr := ⟨_, rfl⟩
    by_cases hlt : k < place
    · have e1 : W2.cell? ⟨bx, 1, none⟩ = some (.int .i64 NS) := (hf.out.bel.cell (p := ⟨bx, 1, none⟩) hbx).trans g1
      have hhead := hf.out.choose_spec.1.head
      have hgl : g < W2.heap.size := hhead.2
      have hgw : w.heap.size ≤ g := hf.out.choose_spec.2.1 _ hhead.1
      have hSg : hf.out.choose = [g] := hf.out.choose_spec.1.blocks
      have Hrd := Lib.hid (show RdI (· = g) W2 (.slice (some ⟨g, 0, none⟩) NS NS) t from OI.leads.to _ _ _ _ _ hf.out.choose_spec.1 (fun j hj => by rw [hSg] at hj; simpa using hj))
      have hf2 := Lib.hid (show Fresh OI w (W2.alloc (.cells (madeCells #[.int .i64 0] NS) 2)) (.slice (some ⟨W2.heap.size, 0, none⟩) NS NS) (List.replicate NS 0) from Fresh.made hf.out.bel 2 fI 0 NS (by unfold maxLen; omega))
      have hr2 := Lib.hid ((Row.zeros NS).congr (fun y _ => (begP_start x k y).symm))
      have hrd2 := Lib.hid (show RdI (· = g) (W2.alloc (.cells (madeCells #[.int .i64 0] NS) 2)) (.slice (some ⟨g, 0, none⟩) NS NS) t from RdI.ok.keep Hrd.out fun j hj => Below.heap_alloc W2 _ j (by omega))
      have hgg : ¬ g = W2.heap.size := by omega
      have Hrow := Lib.hid (fun y (hy : y < NS) => hr.out.2 y hy)
      have Htl := Lib.hid hr.out.1
      clear hhead hSg hf
      go_wp2
      go_loopw [33] (fun sv wr => ∃ (s : Nat) (t2 : List Int), s ≤ NS ∧ sv = .int .i64 s ∧ Hid (Fresh OI w wr (.slice (some ⟨W2.heap.size, 0, none⟩) NS NS) t2) ∧ Hid (Row NS t2 (begP x k s 0)) ∧ Hid (RdI (· = g) wr (.slice (some ⟨g, 0, none⟩) NS NS) t)) (fun sv _ => NS - (intOf sv).toNat)
      case atStart => exact ⟨0, _, Nat.zero_le _, rfl, hf2, hr2, hrd2⟩
      case round =>
        clear e1 hf2 hr2 hrd2
        obtain ⟨s, t2, hs, rfl, hf, hr2, hrd⟩ := hrel
        obtain ⟨W3, rfl⟩ : ∃ W3, W3 = wr := ⟨_, rfl⟩
        have e0 : W3.cell? ⟨bx, 0, none⟩ = some (.int .i64 NB) := (hf.out.bel.cell (p := ⟨bx, 0, none⟩) hbx).trans g0
        by_cases hls : s < NS
        · obtain ⟨b3, o3, u3, ea, hP3, hc3, rfl⟩ := Rd.elim hrd.out s (by have := Htl.out; omega)
          simp only [Option.some.injEq, Addr.mk.injEq, and_true] at ea
          obtain ⟨rfl, rfl⟩ := ea
          have hc4 : W3.cell? ⟨g, s, none⟩ = some (.int .i64 (begV x k s : Nat)) := by rw [← Hrow.out s hls]; simpa using hc3
          have hbl := Hv.out.begLe (k := k) (s := s) (by show k ≤ x.places.length; omega) (by rw [← HNS.out]; exact hls)
          clear hc3
          go_wp2
          go_loopw [42] (fun dv wr => ∃ (d : Nat) (t2 : List Int), d ≤ NB ∧ dv = .int .i64 d ∧ Hid (Fresh OI w wr (.slice (some ⟨W2.heap.size, 0, none⟩) NS NS) t2) ∧ Hid (Row NS t2 (begP x k s d)) ∧ Hid (RdI (· = g) wr (.slice (some ⟨g, 0, none⟩) NS NS) t)) (fun dv _ => NB - (intOf dv).toNat)
          case atStart => exact ⟨0, _, Nat.zero_le _, rfl, hf, hr2, hrd⟩
          case round =>
            clear e0 hc4 hf hr2 hrd
            obtain ⟨d, t2, hd, rfl, hf, hr2, hrd⟩ := hrel
            obtain ⟨W4, rfl⟩ : ∃ W4, W4 = wr := ⟨_, rfl⟩
            by_cases hld : d < NB
            · have hkn : k < x.n := by show k < x.places.length; omega
              have hsS : s < x.S := by rw [← HNS.out]; exact hls
              have hdb : d < x.b := by rw [← HNB.out]; exact hld
              have hnx := (Hv.out.cellN hkn hsS hdb).2
              have hcl := Lib.hid (implNext (H.out.below hf.out.bel hB hbx) Hv.out k s d hkn hsS hdb)
              have hbp := begP_le Hv.out (d := d) hkn hsS (by omega) hnx
              rw [← HNS.out] at hnx
              obtain ⟨a0, a1, a2, a3, a4⟩ := hf.out.put1 (fun _ => rfl) (i := nxt x k s d) (by rw [hr2.out.1]; exact hnx)
              have hv1 : nth t2 (nxt x k s d) = (begP x k s d (nxt x k s d) : Nat) := hr2.out.2 _ hnx
              have hrn := Lib.hid (hr2.out.put (g := begP x k s (d + 1)) hnx (z := (begP x k s d (nxt x k s d) : Int) + begV x k s) (by rw [begP_succ, if_pos rfl]; omega) (fun i hi hne => by rw [begP_succ, if_neg (fun h => hne h.symm)]; omega))
              have Hput := Lib.hid (fun (w2 : World) (hb2 : Below W4.heap.size W4 w2) (z : Int) => (a4 w2 hb2 z : Fresh OI w (w2.setCell ⟨W2.heap.size, nxt x k s d, none⟩ (.int .i64 z)) _ _))
              have Hk := Lib.hid (fun (w2 : World) (hb2 : Below W4.heap.size W4 w2) (z : Int) => (RdI.ok.keep hrd.out fun j hj => by
                have hj' : j = g := hj
                rw [heap_setCell_other w2 _ j _ (by simp; omega)]
                exact hb2.block j (by have := a3; omega) : RdI (· = g) (w2.setCell ⟨W2.heap.size, nxt x k s d, none⟩ (.int .i64 z)) (.slice (some ⟨g, 0, none⟩) NS NS) t))
              rw [hv1] at a0
              have a0' : W4.cell? ⟨W2.heap.size, nxt x k s d, none⟩ = some (.int .i64 (begP x k s d (nxt x k s d) : Nat)) := a0
              clear a0 a4 hv1 hkn hsS hdb hrd hf hr2
              generalize begP x k s d (nxt x k s d) = P at *
              generalize hNX : nxt x k s d = nx at *
              have HNX := Lib.hid hNX; clear hNX
              generalize begV x k s = E at *
              go_wp2_with fail
              refine (Calls.mono hcl.out ?_)
              rintro e w' ⟨rfl, m, rfl⟩
              have hf5 := Lib.hid (Hput.out (W4.drewN m) (bel_draws rfl) ((P : Int) + E))
              have hk5 := Lib.hid (Hk.out (W4.drewN m) (bel_draws rfl) ((P : Int) + E))
              go_wp2
              go_roundw
              case rel => exact ⟨d + 1, _, by omega, by go_num, hf5, hrn, hk5⟩
              case measure => simp [intOf]; omega
            · obtain rfl : d = NB := by omega
              have hr3 := Lib.hid (show Row NS t2 (begP x k (s + 1) 0) from hr2.out.congr (fun y _ => by rw [HNB.out]; exact begP_next x k s y))
              go_wp2
              go_roundw
              case rel => exact ⟨s + 1, _, by omega, by go_num, hf, hr3, hrd⟩
              case measure => simp [intOf]; omega
        · obtain rfl : s = NS := by omega
          have hr3 := Lib.hid (show Row s t2 (begV x (k + 1)) from hr2.out.congr (fun y _ => by rw [HNS.out]; exact begP_end x k y))
          go_wp2
          go_roundw
          case rel => exact ⟨k + 1, W2.heap.size, _, by omega, by go_num, rfl, hf, hr3⟩
          case measure => simp [intOf]; omega
    · obtain rfl : k = place := by omega
      have e := Lib.hid hr.out.eq
      go_wp2
      go_ret
      exact ⟨_, rfl, by rw [← HNS.out, ← e.out]; exact hf.out⟩
end Go.Proofs.Ytnpkanlieflbiaa
/- Numbers of words that lead two states to the end, walked: impl's both. -/
namespace Go.Proofs.Ytnpkanlieflbiaa
open Go.RowKit
set_option linter.unusedVariables false

def bothP (x : Chn) (k s t d : Nat) : Nat := sumN d fun e => bothV x (k + 1) (nxt x k s e) (nxt x k t e)
theorem bothP_zero (x : Chn) (k s t : Nat) : bothP x k s t 0 = 0 := rfl
theorem bothP_succ (x : Chn) (k s t d : Nat) : bothP x k s t (d + 1) = bothP x k s t d + bothV x (k + 1) (nxt x k s d) (nxt x k t d) := sumN_succ _ _
theorem bothP_all (x : Chn) {k : Nat} (hk : k < x.n) (s t : Nat) : bothP x k s t x.b = bothV x k s t := (bothV_step x hk s t).symm
theorem bothP_le {x : Chn} (hv : VC x) {k : Nat} (hk : k < x.n) (s t : Nat) {d : Nat} (hd : d ≤ x.b) : bothP x k s t d ≤ 1000000000000000 := by
  have h1 := sumN_part (fun e => bothV x (k + 1) (nxt x k s e) (nxt x k t e)) hd
  have h2 := bothP_all x hk s t
  have h3 := hv.bothLe k s t
  unfold bothP at h2 ⊢
  omega
/-- In the row s the first t are told, number t holds a part, the rest are 0. -/
def rowP (f : Nat → Nat) (t part y : Nat) : Nat := if y < t then f y else if y = t then part else 0
theorem rowP_start (f : Nat → Nat) (y : Nat) : rowP f 0 0 y = 0 := by unfold rowP; rw [if_neg (by omega)]; split <;> rfl
theorem rowP_next (f : Nat → Nat) (t y : Nat) : rowP f t (f t) y = rowP f (t + 1) 0 y := by
  unfold rowP
  by_cases h : y < t
  · rw [if_pos h, if_pos (by omega)]
  · rw [if_neg h]
    by_cases e : y = t
    · subst e; rw [if_pos rfl, if_pos (by omega)]
    · rw [if_neg e, if_neg (by omega)]; split <;> rfl
theorem rowP_end (f : Nat → Nat) {n y : Nat} (hy : y < n) : rowP f n 0 y = f y := by unfold rowP; rw [if_pos hy]
theorem rowP_at (f : Nat → Nat) (t p : Nat) : rowP f t p t = p := by unfold rowP; rw [if_neg (Nat.lt_irrefl _), if_pos rfl]
theorem rowP_other (f : Nat → Nat) (t p q y : Nat) (h : y ≠ t) : rowP f t p y = rowP f t q y := by unfold rowP; rw [if_neg h, if_neg h]
/-- The first s rows are told; there are n. -/
structure PartG (n : Nat) (T : List (List Int)) (f : Nat → Nat → Nat) (s : Nat) : Prop where
  len : T.length = n
  row : ∀ j, j < s → Row n (nth T j) (f j)
theorem PartG.more {n s : Nat} {T : List (List Int)} {f : Nat → Nat → Nat} (h : PartG n T f s) (hs : Row n (nth T s) (f s)) : PartG n T f (s + 1) :=
  ⟨h.len, fun j hj => by
    rcases Nat.lt_succ_iff_lt_or_eq.1 hj with h1 | rfl
    · exact h.row j h1
    · exact hs⟩
theorem PartG.set {n s : Nat} {T : List (List Int)} {f : Nat → Nat → Nat} (h : PartG n T f s) {r : List Int} (hs : s < n) : PartG n (T.set s r) f s :=
  ⟨by rw [List.length_set]; exact h.len, fun j hj => by rw [nth_set (by rw [h.len]; exact hs), if_neg (by omega)]; exact h.row j hj⟩
theorem PartG.set2 {n s : Nat} {T : List (List Int)} {f : Nat → Nat → Nat} (h : PartG n T f s) {y : Nat} {z : Int} (hs : s < n) : PartG n (set2 T s y z) f s := h.set hs
theorem nth_set2_at {T : List (List Int)} {s y : Nat} {z : Int} (hs : s < T.length) : nth (set2 T s y z) s = (nth T s).set y z := by unfold set2; rw [nth_set hs, if_pos rfl]
theorem PartG.grid {n : Nat} {T : List (List Int)} {f : Nat → Nat → Nat} (h : PartG n T f n) : Grid n n T f := ⟨h.len, fun j hj => ⟨(h.row j hj).1, (h.row j hj).2⟩⟩
theorem both_start (x : Chn) (j y : Nat) : (if j = x.stop.toNat ∧ y = x.stop.toNat then 1 else 0) = bothV x x.n j y := (bothV_last x j y).symm

theorem cell_lt {w : World} {b : Nat} {o : Nat} {v : Value} (h : w.cell? ⟨b, o, none⟩ = some v) : b < w.heap.size := by
  rcases Nat.lt_or_ge b w.heap.size with h1 | h1
  · exact h1
  · simp [World.cell?, Array.getElem?_eq_none h1] at h
set_option maxHeartbeats 1600000 in
set_option maxRecDepth 10000 in
theorem implBoth {B bx : Nat} {x : Chn} {w : World} (h : BoxC (· < B) w bx x) (hB : B ≤ w.heap.size) (hbx : bx < w.heap.size) (hv : VC x) (place : Nat) (hp : place ≤ x.n) :
    Calls Try.prog 140 #[.pointer (some ⟨bx, 0, none⟩), .int .i64 place] w fun e w' => ∃ v, e = .returned v ∧ Fresh OII w w' v (gridL x.S x.S (bothV x place)) := by
  have hnat := hv.nat
  have H := Lib.hid h
  have Hv := Lib.hid hv; clear hv
  obtain ⟨a, c, a', c', g0, g1, g2, g3, g4, g5, hu, hpp, ⟨h1, h2⟩, h3, h4⟩ := h.cells
  obtain ⟨NS, hNS⟩ : ∃ n : Nat, n = x.S := ⟨_, rfl⟩
  obtain ⟨NB, hNB⟩ : ∃ n : Nat, n = x.b := ⟨_, rfl⟩
  obtain ⟨NE, hNE⟩ : ∃ n : Nat, n = x.stop.toNat := ⟨_, rfl⟩
  rw [show x.base = (NB : Int) by have := Hv.out.base; rw [hNB]; show x.base = (x.base.toNat : Int); omega] at g0
  rw [show x.states = (NS : Int) by have := Hv.out.states; rw [hNS]; show x.states = (x.states.toNat : Int); omega] at g1
  rw [show x.stop = (NE : Int) by have := Hv.out.stop; rw [hNE]; omega] at g3
  rw [← hNS, ← hNB, ← hNE] at hnat
  have HNS := Lib.hid hNS; clear hNS
  have HNB := Lib.hid hNB; clear hNB
  have HNE := Lib.hid hNE; clear hNE
  clear hu hpp h g2 g4
  unfold maxLen at h2 h4
  simp only [Chn.n] at hnat hp
  have hmk2 := run_make_row' (P := Try.prog) 22 2 (.int .i64 0) 8 Try.underlying22 infoI64 rfl .i64 .i64 NS (by omega) (by omega)
  have hmk := run_make_row' (P := Try.prog) 129 22 (.slice none 0 0) 24 Try.underlying129 infoSl' rfl .i64 .i64 NS (by omega) (by omega)
  go_enter Try.func140, Try.ntmps140
  go_wp2
  go_loopw [19] (fun i wr => ∃ k : Nat, k ≤ NS ∧ i = .int .i64 k ∧ ∃ t, Hid (t.length = NS ∧ ∀ i, i < k → nth t i = List.replicate NS 0) ∧ ∃ S, OII wr (.slice (some ⟨w.heap.size, 0, none⟩) NS NS) t S ∧ Hid (∀ k ∈ S, w.heap.size ≤ k) ∧ Below w.heap.size w wr) (fun i _ => NS - (intOf i).toNat)
  case atStart => exact ⟨0, Nat.zero_le _, rfl, List.replicate NS [], Lib.hid ⟨by simp, fun _ h => absurd h (Nat.not_lt_zero _)⟩, _, Own.madeR w _ own_nil _ (by unfold maxLen; omega), Lib.hid (by simp), (Below.refl _ _).alloc (Nat.le_refl _) _⟩
  case round =>
    obtain ⟨k, hk, rfl, t, ht, S, hown, hS, hbel⟩ := hrel
    have e1 : wr.cell? ⟨bx, 1, none⟩ = some (.int .i64 NS) := (hbel.cell (p := ⟨bx, 1, none⟩) hbx).trans g1
    by_cases hlt : k < NS
    · have htl := ht.out.1
      have hr1 := Own.made wr 2 fI 0 NS (by unfold maxLen; omega)
      have hown1 := Own.alloc OI.ok hown (.cells (madeCells #[fI 0] NS) 2)
      obtain ⟨S', hp', hS'⟩ := hown1.putR OI.ok (i := k) (by omega) hr1 (fun j hj hm => by simp at hj; have h2 := OII.ok.lt hown j hm; omega)
      obtain ⟨u0, T0, hc0, _⟩ := hown1.at (i := k) (by omega)
      have hf0 := hown1.frozen k
      have Hp := Lib.hid hp'
      have HS' := Lib.hid (show ∀ j ∈ S', w.heap.size ≤ j from fun j hj => by
        rcases hS' j hj with h | h
        · exact hS.out j h
        · simp at h; rw [h]; exact hbel.size)
      have ht2 := Lib.hid (show (t.set k (List.replicate NS (0 : Int))).length = NS ∧ ∀ i, i < k + 1 → nth (t.set k (List.replicate NS (0 : Int))) i = List.replicate NS 0 from
        ⟨by rw [List.length_set]; exact htl, fun i hi => by
          rw [nth_set (by omega)]
          split
          · rfl
          · exact ht.out.2 i (by omega)⟩)
      have Hbel := Lib.hid hbel
      clear hp' hS' hr1 hown1 hown hbel htl
      go_wp2
      go_roundw
      case rel => exact ⟨k + 1, by omega, by go_num, _, ht2, S', Hp.out, HS', (Hbel.out.alloc Hbel.out.size _).setCell (Nat.le_refl _) _⟩
      case measure => simp [intOf]; omega
    · obtain ⟨hkn⟩ : Nonempty (k = NS) := ⟨by omega⟩
      have et : t = List.replicate NS (List.replicate NS 0) := ext_nth (by rw [ht.out.1]; simp) fun i hi => by rw [ht.out.1] at hi; rw [ht.out.2 i (by omega), nth_replicate hi]
      subst et
      clear ht
      have hf0 : Fresh OII w wr _ _ := ⟨S, hown, hS.out, hbel⟩
      have hg0 := Lib.hid (Grid.zeros NS NS)
      have e3 : wr.cell? ⟨bx, 3, none⟩ = some (.int .i64 NE) := (hbel.cell (p := ⟨bx, 3, none⟩) hbx).trans g3
      have Hf0 := Lib.hid hf0
      clear hown hf0 hbel
      generalize List.replicate NS (List.replicate NS (0 : Int)) = t at *
      obtain ⟨gx, cx, hc, q1, q2, hc2, hfz, hge, hput⟩ := Hf0.out.put2 (x := NE) (y := NE) (by rw [hg0.out.1]; omega) (by rw [(hg0.out.2 _ (by omega)).1]; omega)
      rw [(hg0.out.2 _ (show NE < NS by omega)).1] at hc q1
      unfold maxLen at q2
      have Hput := Lib.hid (hput wr.drew ((Below.refl _ _).drew) 1)
      have hg1 := Lib.hid (show Grid NS NS (set2 t NE NE 1) (bothV x x.n) from
        (hg0.out.put (g := fun j y => if j = NE ∧ y = NE then 1 else 0) (show NE < NS by omega) (show NE < NS by omega) (by simp) (fun i j _ _ hne => if_neg hne)).congr (fun j y hj _ => by rw [HNE.out]; exact both_start x j y))
      clear hput hkn
      go_wp2
      go_still_tail 12, (by kernel_rfl)
      change wpList _ _ _ _ _ wr.drew
      generalize hwd : wr.drew = W2
      have hfz2 : W2.frozen? ⟨gx, NE, none⟩ = false := by rw [← hwd]; exact hfz
      have hc22 : W2.cell? ⟨gx, NE, none⟩ = some (.int .i64 (nth (nth t NE) NE)) := by rw [← hwd]; exact hc2
      have e5 : W2.cell? ⟨bx, 5, none⟩ = some (.slice a' x.places.length c') := by rw [← hwd]; exact (Hf0.out.bel.cell (p := ⟨bx, 5, none⟩) hbx).trans g5
      rw [hwd] at Hput
      have Hwd := Lib.hid hwd
      have n1 : ¬ bx = gx := by omega
      clear hwd hc hc2 hfz e3 e1
      go_wp2
      clear e5 hc22 hfz2 n1 Hwd
      go_loopw [5, 7] (fun ov iv wr => ∃ (c g gc : Nat) (z : Int) (t : List (List Int)), place ≤ c ∧ c ≤ x.places.length ∧ iv = .int .i64 z ∧ z = c - 1 ∧ ov = .slice (some ⟨g, 0, none⟩) NS gc ∧ Hid (Grid NS NS t (bothV x c)) ∧ Hid (Fresh OII w wr (.slice (some ⟨g, 0, none⟩) NS gc) t)) (fun _ iv _ => (intOf iv + 1).toNat)
      case atStart => exact ⟨x.places.length, _, _, _, _, hp, Nat.le_refl _, rfl, rfl, rfl, hg1, Hput⟩
      case round =>
        clear Hput hg1 hg0 Hf0 hS hge q1 q2
        obtain ⟨c0, g, gc, z, t1, hpc, hcn, rfl, hz, rfl, hg, hf⟩ := hrel
        obtain ⟨W3, rfl⟩ : ∃ W3, W3 = wr := ⟨_, rfl⟩
        by_cases hlt : place < c0
        · obtain ⟨k0, rfl⟩ : ∃ j, c0 = j + 1 := ⟨c0 - 1, by omega⟩
          obtain rfl : z = k0 := by omega
          clear hz
          have e1 : W3.cell? ⟨bx, 1, none⟩ = some (.int .i64 NS) := (hf.out.bel.cell (p := ⟨bx, 1, none⟩) hbx).trans g1
          have hbf0 := Lib.hid (show Fresh OII W3 (W3.alloc (.cells (madeCells #[.slice none 0 0] NS) 22)) (.slice (some ⟨W3.heap.size, 0, none⟩) NS NS) (List.replicate NS []) from ⟨_, Own.madeR W3 _ own_nil _ (by unfold maxLen; omega), by simp, (Below.refl _ _).alloc (Nat.le_refl _) _⟩)
          have hpg0 := Lib.hid (show PartG NS (List.replicate NS []) (bothV x k0) 0 from ⟨by simp, fun _ h => absurd h (Nat.not_lt_zero _)⟩)
          have hb3 : bx < W3.heap.size := by have := hf.out.bel.size; omega
          go_wp2
          go_loopw [63] (fun sv wr => ∃ (s : Nat) (t2 : List (List Int)), s ≤ NS ∧ sv = .int .i64 s ∧ Hid (PartG NS t2 (bothV x k0) s) ∧ Hid (Fresh OII W3 wr (.slice (some ⟨W3.heap.size, 0, none⟩) NS NS) t2)) (fun sv _ => NS - (intOf sv).toNat)
          case atStart => exact ⟨0, _, Nat.zero_le _, rfl, hpg0, hbf0⟩
          case round =>
            clear e1 hbf0 hpg0
            obtain ⟨s, t2, hs, rfl, hpg, hb⟩ := hrel
            obtain ⟨W4, rfl⟩ : ∃ W4, W4 = wr := ⟨_, rfl⟩
            have e1 : W4.cell? ⟨bx, 1, none⟩ = some (.int .i64 NS) := (hb.out.bel.cell (p := ⟨bx, 1, none⟩) hb3).trans ((hf.out.bel.cell (p := ⟨bx, 1, none⟩) hbx).trans g1)
            by_cases hls : s < NS
            · obtain ⟨S4, hown, hS4, hbel⟩ := hb.out
              have htl := hpg.out.len
              have hr1 := Own.made W4 2 fI 0 NS (by unfold maxLen; omega)
              have hown1 := Own.alloc OI.ok hown (.cells (madeCells #[fI 0] NS) 2)
              obtain ⟨S', hp', hS'⟩ := hown1.putR OI.ok (i := s) (by omega) hr1 (fun j hj hm => by simp at hj; have h2 := OII.ok.lt hown j hm; omega)
              obtain ⟨u0, T0, hc0, _⟩ := hown1.at (i := s) (by omega)
              have hf0 := hown1.frozen s
              have Hb2 := Lib.hid (show Fresh OII W3 _ _ _ from ⟨S', hp', fun j hj => by
                rcases hS' j hj with h | h
                · exact hS4 j h
                · simp at h; rw [h]; exact hbel.size, (hbel.alloc hbel.size _).setCell (Nat.le_refl _) _⟩)
              have hpg2 := Lib.hid (hpg.out.set (r := List.replicate NS 0) hls)
              have hrow2 := Lib.hid (show Row NS (nth (t2.set s (List.replicate NS 0)) s) (rowP (bothV x k0 s) 0 0) from by
                rw [nth_set (by omega), if_pos rfl]; exact (Row.zeros NS).congr fun y _ => (rowP_start _ y).symm)
              have hb4 : bx < W4.heap.size := by have := hbel.size; omega
              clear hp' hS' hr1 hown1 hown hbel htl hS4 hb hpg
              go_wp2
              go_loopw [78] (fun tv wr => ∃ (t : Nat) (t2 : List (List Int)), t ≤ NS ∧ tv = .int .i64 t ∧ Hid (PartG NS t2 (bothV x k0) s) ∧ Hid (Row NS (nth t2 s) (rowP (bothV x k0 s) t 0)) ∧ Hid (Fresh OII W3 wr (.slice (some ⟨W3.heap.size, 0, none⟩) NS NS) t2)) (fun tv _ => NS - (intOf tv).toNat)
              case atStart => exact ⟨0, _, Nat.zero_le _, rfl, hpg2, hrow2, Hb2⟩
              case round =>
                clear e1 hpg2 hrow2 Hb2 hb4 hc0 hf0
                obtain ⟨t, t2, ht, rfl, hpg, hrow, hb⟩ := hrel
                obtain ⟨W4, rfl⟩ : ∃ W4, W4 = wr := ⟨_, rfl⟩
                have e0 : W4.cell? ⟨bx, 0, none⟩ = some (.int .i64 NB) := (hb.out.bel.cell (p := ⟨bx, 0, none⟩) hb3).trans ((hf.out.bel.cell (p := ⟨bx, 0, none⟩) hbx).trans g0)
                by_cases hlt2 : t < NS
                · have hrow2 := Lib.hid (show Row NS (nth t2 s) (rowP (bothV x k0 s) t (bothP x k0 s t 0)) from by rw [bothP_zero]; exact hrow.out)
                  go_wp2
                  go_loopw [85] (fun dv wr => ∃ (d : Nat) (t2 : List (List Int)), d ≤ NB ∧ dv = .int .i64 d ∧ Hid (PartG NS t2 (bothV x k0) s) ∧ Hid (Row NS (nth t2 s) (rowP (bothV x k0 s) t (bothP x k0 s t d))) ∧ Hid (Fresh OII W3 wr (.slice (some ⟨W3.heap.size, 0, none⟩) NS NS) t2)) (fun dv _ => NB - (intOf dv).toNat)
                  case atStart => exact ⟨0, _, Nat.zero_le _, rfl, hpg, hrow2, hb⟩
                  case round =>
                    clear e0 hpg hrow2 hrow hb
                    obtain ⟨d, t2, hd, rfl, hpg, hrow, hb⟩ := hrel
                    obtain ⟨W4, rfl⟩ : ∃ W4, W4 = wr := ⟨_, rfl⟩
                    by_cases hld : d < NB
                    · have hkn : k0 < x.n := by show k0 < x.places.length; omega
                      have hsS : s < x.S := by rw [← HNS.out]; exact hls
                      have htS : t < x.S := by rw [← HNS.out]; exact hlt2
                      have hdb : d < x.b := by rw [← HNB.out]; exact hld
                      have hn1 := (Hv.out.cellN hkn hsS hdb).2
                      have hn2 := (Hv.out.cellN hkn htS hdb).2
                      have hbx4 := (H.out.below hf.out.bel hB hbx).below hb.out.bel (by have := hf.out.bel.size; omega) hb3
                      have hcl1 := Lib.hid (fun m => implNext (hbx4.draws m) Hv.out k0 s d hkn hsS hdb)
                      have hcl2 := Lib.hid (fun m => implNext (hbx4.draws m) Hv.out k0 t d hkn htS hdb)
                      have hbs := Lib.hid (bothP_succ x k0 s t d)
                      have hB1 := bothP_le Hv.out hkn s t (d := d) (by omega)
                      have hB2 := Hv.out.bothLe (k0 + 1) (nxt x k0 s d) (nxt x k0 t d)
                      rw [← HNS.out] at hn1 hn2
                      obtain ⟨gx, cx, hc, q1, q2, hc2, hfz, hge, hput⟩ := hb.out.put2 (x := s) (y := t) (by rw [hpg.out.len]; exact hls) (by rw [hrow.out.1]; exact hlt2)
                      rw [hrow.out.1] at hc q1
                      rw [hrow.out.2 t hlt2, rowP_at] at hc2
                      obtain ⟨gy, cy, hcy, q3, q4, hcy2, _, hgy, _⟩ := hf.out.put2 (x := nxt x k0 s d) (y := nxt x k0 t d) (by rw [hg.out.1]; exact hn1) (by rw [(hg.out.2 _ hn1).1]; exact hn2)
                      rw [(hg.out.2 _ hn1).1] at hcy q3
                      rw [(hg.out.2 _ hn1).2 _ hn2] at hcy2
                      have hcy' : W4.cell? ⟨g, nxt x k0 s d, none⟩ = some (.slice (some ⟨gy, 0, none⟩) NS cy) := (hb.out.bel.cell (p := ⟨g, nxt x k0 s d, none⟩) (cell_lt hcy)).trans hcy
                      have hcy2' : W4.cell? ⟨gy, nxt x k0 t d, none⟩ = some (.int .i64 (bothV x (k0 + 1) (nxt x k0 s d) (nxt x k0 t d) : Nat)) := (hb.out.bel.cell (p := ⟨gy, nxt x k0 t d, none⟩) (cell_lt hcy2)).trans hcy2
                      have hpg4 := Lib.hid (hpg.out.set2 (y := t) (z := (bothP x k0 s t d : Int) + bothV x (k0 + 1) (nxt x k0 s d) (nxt x k0 t d)) hls)
                      have hrow4 := Lib.hid (show Row NS (nth (set2 t2 s t ((bothP x k0 s t d : Int) + bothV x (k0 + 1) (nxt x k0 s d) (nxt x k0 t d))) s) (rowP (bothV x k0 s) t (bothP x k0 s t (d + 1))) from by
                        rw [nth_set2_at (by rw [hpg.out.len]; exact hls)]
                        exact hrow.out.put hlt2 (by rw [rowP_at, hbs.out]; omega) (fun i _ hne => rowP_other _ _ _ _ _ hne))
                      have Hput := Lib.hid hput
                      have hbl := Lib.hid (Below.refl W4.heap.size W4)
                      unfold maxLen at q2 q4
                      clear hput hkn hsS htS hdb hcy hcy2 hbx4 hpg hrow
                      generalize bothP x k0 s t d = P at *
                      generalize hNX : nxt x k0 s d = nx at *
                      have HNX := Lib.hid hNX; clear hNX
                      generalize hNY : nxt x k0 t d = ny at *
                      have HNY := Lib.hid hNY; clear hNY
                      generalize bothV x (k0 + 1) nx ny = E at *
                      go_wp2
                      have w2 : IntKind.i64.wrap ((P : Int) + E) = (P : Int) + E := IntWalk.i64_in _ (by omega)
                      have w5 : (0 : Int) ≤ (s : Int) := by omega
                      have w6 : (s : Int) < (NS : Int) := by omega
                      have w8 : (0 : Int) ≤ (t : Int) := by omega
                      have w9 : (t : Int) < (NS : Int) := by omega
                      have w10 : (0 : Int) ≤ (nx : Int) := by omega
                      have w11 : (nx : Int) < (NS : Int) := by omega
                      have w12 : (0 : Int) ≤ (ny : Int) := by omega
                      have w13 : (ny : Int) < (NS : Int) := by omega
                      refine wp_region_quiet_tail_lit 24 (by kernel_rfl) (by kernel_rfl) ?_
                      simp only [List.take_succ_cons, List.take_zero, List.drop_succ_cons, List.drop_zero]
                      repeat (go_big_quiet_step (first | with_reducible exact quiet_draws (hcl1.out _) | with_reducible exact quiet_draws (hcl2.out _)))
                      refine wpQuiet_nil ?_
                      rintro _ ⟨nq, rfl⟩
                      have Hp4 := Lib.hid (Hput.out (W4.drewN nq) (bel_draws rfl) ((P : Int) + E))
                      go_wp2
                      go_roundw
                      case rel => exact ⟨d + 1, _, by omega, by go_num, hpg4, hrow4, Hp4⟩
                      case measure => simp [intOf]; omega
                    · obtain rfl : d = NB := by omega
                      have hr3 := Lib.hid (show Row NS (nth t2 s) (rowP (bothV x k0 s) (t + 1) 0) from hrow.out.congr (fun y _ => by rw [HNB.out, bothP_all x (by show k0 < x.places.length; omega)]; exact rowP_next _ _ _))
                      go_wp2
                      go_roundw
                      case rel => exact ⟨t + 1, _, by omega, by go_num, hpg, hr3, hb⟩
                      case measure => simp [intOf]; omega
                · obtain ⟨htn⟩ : Nonempty (t = NS) := ⟨by omega⟩
                  have hpg3 := Lib.hid (show PartG NS t2 (bothV x k0) (s + 1) from hpg.out.more (hrow.out.congr (fun y hy => by rw [htn]; exact rowP_end _ hy)))
                  go_wp2
                  go_roundw
                  case rel => exact ⟨s + 1, _, by omega, by go_num, hpg3, hb⟩
                  case measure => simp [intOf]; omega
            · obtain ⟨hsn⟩ : Nonempty (s = NS) := ⟨by omega⟩
              have hg3 := Lib.hid (show Grid NS NS t2 (bothV x k0) from (hsn ▸ hpg.out).grid)
              have hb5 := Lib.hid (show Fresh OII w W4 (.slice (some ⟨W3.heap.size, 0, none⟩) NS NS) t2 from ⟨hb.out.choose, hb.out.choose_spec.1, fun j hj => Nat.le_trans hf.out.bel.size (hb.out.choose_spec.2.1 j hj), hf.out.bel.trans (hb.out.choose_spec.2.2.mono hf.out.bel.size)⟩)
              go_wp2
              go_roundw
              case rel => exact ⟨k0, W3.heap.size, NS, _, _, by omega, by omega, rfl, by omega, rfl, hg3, hb5⟩
              case measure => simp [intOf]
        · obtain rfl : c0 = place := by omega
          have e := Lib.hid hg.out.eq
          go_wp2
          go_ret
          exact ⟨_, rfl, by rw [← HNS.out, ← e.out]; exact hf.out⟩
end Go.Proofs.Ytnpkanlieflbiaa
