/- The least distance: impl's tables from the end, walked. -/
import Derived.Test.YtnpkanlieflbiaaLd3
import Derived.Deep.CutRange
import Derived.Deep.DeepCutAuto
namespace Go.Proofs.Ytnpkanlieflbiaa
open Go.RowKit
set_option linter.unusedVariables false

/-! ### A grid and a row made by the call -/
structure GR (w0 wr : World) (g gr n : Nat) (T : List (List Int)) (R : List Int) (S : List Nat) : Prop where
  og : OII wr (.slice (some ⟨g, 0, none⟩) n n) T S
  ow : OI wr (.slice (some ⟨gr, 0, none⟩) n n) R [gr]
  ne : gr ∉ S
  lg : ∀ k ∈ S, w0.heap.size ≤ k
  lr : w0.heap.size ≤ gr
  bel : Below w0.heap.size w0 wr
section gr
variable {w0 wr w2 : World} {g gr n : Nat} {T : List (List Int)} {R : List Int} {S : List Nat}
theorem GR.lenT (h : GR w0 wr g gr n T R S) : T.length = n := h.og.len.1
theorem GR.lenR (h : GR w0 wr g gr n T R S) : R.length = n := h.ow.len.1
theorem GR.gS (h : GR w0 wr g gr n T R S) : g ∈ S := h.og.head.1
theorem GR.ltg (h : GR w0 wr g gr n T R S) : g < wr.heap.size := OII.ok.lt h.og g h.gS
theorem GR.ltr (h : GR w0 wr g gr n T R S) : gr < wr.heap.size := OI.ok.lt h.ow gr (by simp)
theorem GR.neg (h : GR w0 wr g gr n T R S) : g ≠ gr := fun e => h.ne (e ▸ h.gS)
theorem GR.keep (h : GR w0 wr g gr n T R S) (hb : Below wr.heap.size wr w2) : GR w0 w2 g gr n T R S :=
  ⟨OII.ok.keep h.og fun k hk => hb.block k (OII.ok.lt h.og k hk), OI.ok.keep h.ow fun k hk => hb.block k (OI.ok.lt h.ow k hk), h.ne, h.lg, h.lr, h.bel.trans (hb.mono h.bel.size)⟩
theorem GR.widen {w : World} (h : GR w0 wr g gr n T R S) (hb : Below w.heap.size w w0) : GR w wr g gr n T R S :=
  ⟨h.og, h.ow, h.ne, fun k hk => Nat.le_trans hb.size (h.lg k hk), Nat.le_trans hb.size h.lr, hb.trans (h.bel.mono hb.size)⟩
theorem GR.cellI (h : GR w0 wr g gr n T R S) {i : Nat} (hi : i < n) : wr.cell? ⟨gr, i, none⟩ = some (.int .i64 (nth R i)) := h.ow.cell (by rw [h.lenR]; exact hi)
theorem GR.putI (h : GR w0 wr g gr n T R S) (hb : Below wr.heap.size wr w2) {i : Nat} (hi : i < n) (y : Int) : GR w0 (w2.setCell ⟨gr, i, none⟩ (.int .i64 y)) g gr n T (R.set i y) S := by
  have h2 := h.keep hb
  exact ⟨OII.ok.keep h2.og fun k hk => heap_setCell_other _ _ _ _ (fun e => h.ne (by simp at e; rw [← e]; exact hk)), h2.ow.put (by rw [h2.lenR]; exact hi) y, h.ne, h.lg, h.lr, h2.bel.setCell h.lr _⟩
theorem GR.at2 (h : GR w0 wr g gr n T R S) {x y : Nat} (hx : x < n) (hy : y < (nth T x).length) :
    ∃ gx cx, wr.cell? ⟨g, x, none⟩ = some (.slice (some ⟨gx, 0, none⟩) (nth T x).length cx) ∧ (nth T x).length ≤ cx ∧ cx ≤ maxLen ∧ wr.cell? ⟨gx, y, none⟩ = some (.int .i64 (nth (nth T x) y)) ∧ wr.frozen? ⟨gx, y, none⟩ = false ∧ gx ∈ S ∧
      ∀ w2, Below wr.heap.size wr w2 → ∀ z, GR w0 (w2.setCell ⟨gx, y, none⟩ (.int .i64 z)) g gr n (set2 T x y z) R S := by
  obtain ⟨u, T', hc, hu, hT, hput⟩ := h.og.turnAt OI.ok (by rw [h.lenT]; exact hx)
  rcases hu.shape with ⟨rfl, e⟩ | ⟨gx, cx, rfl, hg⟩
  · rw [e] at hy; simp at hy
  · have hl := hu.len
    obtain ⟨cur, hcur⟩ := hu.heap
    have hgS := (hT gx hg).1
    refine ⟨gx, cx, hc, hl.2.1, hl.2.2, hu.cell hy, hu.frozen y, hgS, fun w2 hw2 z => ⟨OII.ok.keep (hput _ _ ((Only.refl _ _).put hg _ _) (hu.put hy z)) fun k hk => setCell_like hcur (fun k hk => hw2.block k hk) (OII.ok.lt h.og k hk), OI.ok.keep (h.keep hw2).ow fun k hk => heap_setCell_other _ _ _ _ (fun e => h.ne ?_), h.ne, h.lg, h.lr, (h.bel.trans (hw2.mono h.bel.size)).setCell (h.lg _ hgS) _⟩⟩
    have e1 : k = gr := by simpa using hk
    have e2 : k = gx := e
    rw [← e1, e2]
    exact hgS
theorem GR.putRow (h : GR w0 wr g gr n T R S) {u : Value} {L : List Int} (hu : Fresh OI wr w2 u L) {i : Nat} (hi : i < n) : ∃ S', GR w0 (w2.setCell ⟨g, i, none⟩ u) g gr n (T.set i L) R S' := by
  obtain ⟨Su, ho, hl, hb⟩ := hu
  have h2 := h.keep hb
  obtain ⟨S', hp, hS'⟩ := h2.og.putR OI.ok (i := i) (by rw [h2.lenT]; exact hi) ho (fun j hj hm => by have h3 := OII.ok.lt h.og j hm; have := hl j hj; omega)
  refine ⟨S', hp, OI.ok.keep h2.ow fun k hk => heap_setCell_other _ _ _ _ (fun e => h.neg (by simp at hk; simp at e; rw [← hk, ← e])), fun hm => ?_, fun k hk => ?_, h.lr, h2.bel.setCell (h.lg _ h.gS) _⟩
  · rcases hS' gr hm with h3 | h3
    · exact h.ne h3
    · have := hl gr h3; have := h.ltr; omega
  · rcases hS' k hk with h3 | h3
    · exact h.lg k h3
    · exact Nat.le_trans h.bel.size (hl k h3)
theorem GR.cellRow (h : GR w0 wr g gr n T R S) {i : Nat} (hi : i < n) : ∃ u, wr.cell? ⟨g, i, none⟩ = some u := by
  obtain ⟨u, _, hc, _⟩ := h.og.at (by rw [h.lenT]; exact hi)
  exact ⟨u, hc⟩
theorem GR.fr (h : GR w0 wr g gr n T R S) (i : Nat) : wr.frozen? ⟨g, i, none⟩ = false := h.og.frozen i
theorem GR.fri (h : GR w0 wr g gr n T R S) (i : Nat) : wr.frozen? ⟨gr, i, none⟩ = false := h.ow.frozen i
theorem GR.rd (h : GR w0 wr g gr n T R S) : RdII (· < wr.heap.size) wr (.slice (some ⟨g, 0, none⟩) n n) T := OII.leads.to _ _ _ _ _ h.og fun j hj => OII.ok.lt h.og j hj
end gr
theorem GR.start (W : World) {n : Nat} (hn : n ≤ maxLen) : ∃ S, GR W ((W.alloc (.cells (madeCells #[.slice none 0 0] n) 22)).alloc (.cells (madeCells #[.int .i64 0] n) 2)) W.heap.size (W.heap.size + 1) n (List.replicate n []) (List.replicate n 0) S := by
  have h1 : OII (W.alloc (.cells (madeCells #[.slice none 0 0] n) 22)) (.slice (some ⟨W.heap.size, 0, none⟩) n n) (List.replicate n []) [W.heap.size] := Own.madeR W _ own_nil n hn
  have hb := (Below.refl W.heap.size W).alloc (Nat.le_refl _) (.cells (madeCells #[.slice none 0 0] n) 22)
  have h2 : OI ((W.alloc (.cells (madeCells #[.slice none 0 0] n) 22)).alloc (.cells (madeCells #[.int .i64 0] n) 2)) (.slice (some ⟨(W.alloc (.cells (madeCells #[.slice none 0 0] n) 22)).heap.size, 0, none⟩) n n) (List.replicate n 0) [(W.alloc (.cells (madeCells #[.slice none 0 0] n) 22)).heap.size] := Own.made _ 2 fI 0 n hn
  have hb2 := hb.alloc hb.size (.cells (madeCells #[.int .i64 0] n) 2)
  rw [alloc_size] at h2
  exact ⟨_, OII.ok.keep h1 fun k hk => Below.heap_alloc _ _ k (OII.ok.lt h1 k hk), h2, by simp, by simp, by omega, hb2⟩
theorem GR.start' (W : World) {n : Nat} (hn : n ≤ maxLen) : ∃ S, GR W ((W.alloc (.cells (madeCells #[.int .i64 0] n) 2)).alloc (.cells (madeCells #[.slice none 0 0] n) 22)) (W.heap.size + 1) W.heap.size n (List.replicate n []) (List.replicate n 0) S := by
  have h1 : OII ((W.alloc (.cells (madeCells #[.int .i64 0] n) 2)).alloc (.cells (madeCells #[.slice none 0 0] n) 22)) (.slice (some ⟨(W.alloc (.cells (madeCells #[.int .i64 0] n) 2)).heap.size, 0, none⟩) n n) (List.replicate n []) [(W.alloc (.cells (madeCells #[.int .i64 0] n) 2)).heap.size] := Own.madeR _ _ own_nil n hn
  have hb := (Below.refl W.heap.size W).alloc (Nat.le_refl _) (.cells (madeCells #[.int .i64 0] n) 2)
  have h2 : OI (W.alloc (.cells (madeCells #[.int .i64 0] n) 2)) (.slice (some ⟨W.heap.size, 0, none⟩) n n) (List.replicate n 0) [W.heap.size] := Own.made W 2 fI 0 n hn
  have hb2 := hb.alloc hb.size (.cells (madeCells #[.slice none 0 0] n) 22)
  rw [alloc_size] at h1
  exact ⟨_, h1, OI.ok.keep h2 fun k hk => Below.heap_alloc _ _ k (OI.ok.lt h2 k hk), by simp, by simp, Nat.le_refl _, hb2⟩
/-! ### The tables, place by place -/
def MV (x : Chn) (c s t : Nat) : Nat := mostR x (x.n - c) c s t
def SV (x : Chn) (c s : Nat) : Nat := sameR x (x.n - c) c s
theorem MV_step {x : Chn} {k : Nat} (hk : k < x.n) (s t : Nat) : MV x k s t = minN farN x.b fun d => minN farN x.b fun e => MV x (k + 1) (nxt x k s d) (nxt x k t e) + if d = e then 0 else 1 := by
  unfold MV
  rw [show x.n - k = (x.n - (k + 1)) + 1 by omega]
  rfl
theorem MV_last (x : Chn) (s t : Nat) : MV x x.n s t = if s = x.stop.toNat ∧ t = x.stop.toNat then 0 else farN := by unfold MV; rw [Nat.sub_self]; rfl
theorem SV_last (x : Chn) (s : Nat) : SV x x.n s = farN := by unfold SV; rw [Nat.sub_self]; rfl
theorem MV_cap (x : Chn) (c s t : Nat) : MV x c s t ≤ farN := mostR_cap _ _ _ _ _
theorem SV_cap (x : Chn) (c s : Nat) : SV x c s ≤ farN := sameR_cap _ _ _ _
theorem SV_step {x : Chn} {k : Nat} (hk : k < x.n) (s : Nat) : SV x k s = minN farN x.b fun d => min (SV x (k + 1) (nxt x k s d)) (minN farN d fun e => MV x (k + 1) (nxt x k s d) (nxt x k s e) + 1) := by
  unfold SV MV
  rw [show x.n - k = (x.n - (k + 1)) + 1 by omega]
  rfl
def alD (x : Chn) (k s d : Nat) : Nat := minN farN d fun d => min (SV x (k + 1) (nxt x k s d)) (minN farN d fun e => MV x (k + 1) (nxt x k s d) (nxt x k s e) + 1)
def alE (x : Chn) (k s d e : Nat) : Nat := min (alD x k s d) (min (SV x (k + 1) (nxt x k s d)) (minN farN e fun e => MV x (k + 1) (nxt x k s d) (nxt x k s e) + 1))
theorem alD_zero (x : Chn) (k s : Nat) : alD x k s 0 = farN := rfl
theorem alD_cap (x : Chn) (k s d : Nat) : alD x k s d ≤ farN := minN_cap _ _ _
theorem alE_zero (x : Chn) (k s d : Nat) : alE x k s d 0 = min (alD x k s d) (SV x (k + 1) (nxt x k s d)) := by
  unfold alE
  rw [minN_zero]
  have := SV_cap x (k + 1) (nxt x k s d)
  omega
theorem alE_cap (x : Chn) (k s d e : Nat) : alE x k s d e ≤ farN := by
  have := alD_cap x k s d
  unfold alE; omega
theorem alE_succ (x : Chn) (k s d e : Nat) : alE x k s d (e + 1) = min (alE x k s d e) (MV x (k + 1) (nxt x k s d) (nxt x k s e) + 1) := by
  unfold alE
  rw [minN_succ]
  omega
theorem alE_all (x : Chn) (k s d : Nat) : alE x k s d d = alD x k s (d + 1) := by
  unfold alE alD
  rw [minN_succ]
theorem alD_all {x : Chn} {k : Nat} (hk : k < x.n) (s : Nat) : alD x k s x.b = SV x k s := (SV_step hk s).symm
theorem GR.grid_cell {w0 wr : World} {g gr n : Nat} {T : List (List Int)} {R : List Int} {S : List Nat} {f : Nat → Nat → Nat} (h : GR w0 wr g gr n T R S) (hG : Grid n n T f) :
    Hid (∀ W, Below wr.heap.size wr W → ∀ i j, i < n → j < n → ∃ b2 o2 c2, W.cell? ⟨g, i, none⟩ = some (.slice (some ⟨b2, o2, none⟩) n c2) ∧ (n ≤ c2 ∧ c2 ≤ 9223372036854775807) ∧ W.cell? ⟨b2, o2 + j, none⟩ = some (.int .i64 (f i j))) := Lib.hid fun W hb i j hi hj => by
  obtain ⟨b2, o2, c2, e1, e2, e3⟩ := grid_at h.rd hG hi hj
  exact ⟨b2, o2, c2, (hb.cell (p := ⟨g, i, none⟩) (cell_lt e1)).trans e1, e2, (hb.cell (p := ⟨b2, o2 + j, none⟩) (cell_lt e3)).trans e3⟩
theorem GR.row_cell {w0 wr : World} {g gr n : Nat} {T : List (List Int)} {R : List Int} {S : List Nat} {f : Nat → Nat} (h : GR w0 wr g gr n T R S) (hG : Row n R f) :
    Hid (∀ W, Below wr.heap.size wr W → ∀ i, i < n → W.cell? ⟨gr, i, none⟩ = some (.int .i64 (f i))) := Lib.hid fun W hb i hi => by
  have e := h.cellI hi
  rw [hG.2 i hi] at e
  exact (hb.cell (p := ⟨gr, i, none⟩) (cell_lt e)).trans e

set_option maxHeartbeats 6400000 in
set_option maxRecDepth 100000 in
theorem implLeast {B bx : Nat} {x : Chn} {w : World} (h : BoxC (· < B) w bx x) (hB : B ≤ w.heap.size) (hbx : bx < w.heap.size) (hv : VC x) :
    Calls Try.prog 113 #[.pointer (some ⟨bx, 0, none⟩)] w fun e w' => e = .returned (.int .i64 (distI x : Nat)) ∧ Below w.heap.size w w' := by
  have hnat := hv.nat
  have H := Lib.hid h
  have Hv := Lib.hid hv; clear hv
  obtain ⟨a, c, a', c', g0, g1, g2, g3, g4, g5, hu, hpp, ⟨h1, h2⟩, h3, h4⟩ := h.cells
  obtain ⟨NS, hNS⟩ : ∃ n : Nat, n = x.S := ⟨_, rfl⟩
  obtain ⟨NB, hNB⟩ : ∃ n : Nat, n = x.b := ⟨_, rfl⟩
  obtain ⟨NE, hNE⟩ : ∃ n : Nat, n = x.stop.toNat := ⟨_, rfl⟩
  obtain ⟨NT, hNT⟩ : ∃ n : Nat, n = x.start.toNat := ⟨_, rfl⟩
  rw [show x.base = (NB : Int) by have := Hv.out.base; rw [hNB]; show x.base = (x.base.toNat : Int); omega] at g0
  rw [show x.states = (NS : Int) by have := Hv.out.states; rw [hNS]; show x.states = (x.states.toNat : Int); omega] at g1
  rw [show x.start = (NT : Int) by have := Hv.out.start; rw [hNT]; omega] at g2
  rw [show x.stop = (NE : Int) by have := Hv.out.stop; rw [hNE]; omega] at g3
  rw [← hNS, ← hNB, ← hNE, ← hNT] at hnat
  have HNS := Lib.hid hNS; clear hNS
  have HNB := Lib.hid hNB; clear hNB
  have HNE := Lib.hid hNE; clear hNE
  have HNT := Lib.hid hNT; clear hNT
  clear hu hpp h g4
  unfold maxLen at h2 h4
  simp only [Chn.n] at hnat
  obtain ⟨NP, hNP⟩ : ∃ n, n = x.places.length := ⟨_, rfl⟩
  rw [← hNP] at hnat h3 g5
  have HNP := Lib.hid hNP; clear hNP
  have G0 := Lib.hid g0; have G1 := Lib.hid g1; have G2 := Lib.hid g2; have G3 := Lib.hid g3; have G5 := Lib.hid g5
  have cl := Lib.hid (fun (o : Nat) (W : World) (hb : Below w.heap.size w W) => (hb.cell (p := ⟨bx, o, none⟩) hbx))
  have hmk2 := run_make_row' (P := Try.prog) 22 2 (.int .i64 0) 8 Try.underlying22 infoI64 rfl .i64 .i64 NS (by omega) (by omega)
  have hmk := run_make_row' (P := Try.prog) 129 22 (.slice none 0 0) 24 Try.underlying129 infoSl' rfl .i64 .i64 NS (by omega) (by omega)
  clear g0 g2 g3 g5
  go_enter Try.func113, Try.ntmps113
  go_upto_region 1 with fail
  go_cut [3, 4] from 13 to 22 (fun v3 v4 wx => ∃ (g gr : Nat) (S : List Nat), v3 = .slice (some ⟨g, 0, none⟩) NS NS ∧ v4 = .slice (some ⟨gr, 0, none⟩) NS NS ∧ GR w wx g gr NS (List.replicate NS []) (List.replicate NS 0) S)
  case first =>
    go_region
    all_goals (go_wp2_with fail; go_meet)
    · obtain ⟨S, hS⟩ := GR.start w (n := NS) (by unfold maxLen; omega)
      exact ⟨_, _, S, rfl, rfl, hS.keep (Below.refl _ _).drew⟩
    · obtain ⟨S, hS⟩ := GR.start' w (n := NS) (by unfold maxLen; omega)
      exact ⟨_, _, S, rfl, rfl, hS.keep (Below.refl _ _).drew⟩
  case rest =>
  clear g1
  obtain ⟨g, gr, S, rfl, rfl, hgr⟩ := hcut
  have Hgr := Lib.hid hgr; clear hgr
  go_wp2
  go_loopw [25] (fun iv wr => ∃ (k : Nat) (T : List (List Int)) (R : List Int) (S : List Nat), k ≤ NS ∧ iv = .int .i64 k ∧ Hid (∀ i, i < k → nth T i = List.replicate NS (1099511627776 : Int) ∧ nth R i = 1099511627776) ∧ Hid (GR w wr g gr NS T R S)) (fun iv _ => NS - (intOf iv).toNat)
  case atStart => exact ⟨0, _, _, _, Nat.zero_le _, rfl, Lib.hid (fun _ h => absurd h (Nat.not_lt_zero _)), Hgr⟩
  case round =>
    clear Hgr
    obtain ⟨k, T, R, S, hk, rfl, hT, hgr⟩ := hrel
    obtain ⟨W2, rfl⟩ : ∃ W, W = wr := ⟨_, rfl⟩
    by_cases hlt : k < NS
    · have e1 := (cl.out 1 W2 hgr.out.bel).trans G1.out
      have hrp := Lib.hid (implRepeat (w := W2.alloc (.cells #[.int .i64 1099511627776] 2)) (gs := W2.heap.size) 1099511627776 (heap_cell (heap_alloc_new W2 _) (i := 0) rfl) NS (by omega))
      have hg2 := Lib.hid (hgr.out.keep ((Below.refl W2.heap.size W2).alloc (Nat.le_refl _) (.cells #[.int .i64 1099511627776] 2)))
      have hlg := hgr.out.ltg
      have hlr := hgr.out.ltr
      have hne := hgr.out.neg
      have hb2 : bx < W2.heap.size := by have := hgr.out.bel.size; omega
      clear hgr
      go_wp2_with fail
      refine (Calls.mono hrp.out ?_)
      rintro e w3 ⟨v, rfl, hf⟩
      obtain ⟨gv, cv, rfl⟩ := hf.shape (by simp; omega)
      obtain ⟨S', hg3⟩ := hg2.out.putRow hf hlt
      have hg2k := hg2.out.keep hf.bel
      obtain ⟨cu, hcu⟩ := hg2k.cellRow hlt
      have fu := hg2k.fr k
      have hci := hg3.cellI hlt
      have fi := hg3.fri k
      have hg4 := Lib.hid (hg3.putI (Below.refl _ _) hlt 1099511627776)
      have hT2 := Lib.hid (show ∀ i, i < k + 1 → nth (T.set k (List.replicate NS (1099511627776 : Int))) i = List.replicate NS (1099511627776 : Int) ∧ nth (R.set k 1099511627776) i = 1099511627776 from fun i hi => by
        rw [nth_set (by rw [hg2k.lenT]; exact hlt), nth_set (by rw [hg2k.lenR]; exact hlt)]
        split
        · exact ⟨rfl, rfl⟩
        · exact hT.out i (by omega))
      simp only [List.length_replicate] at hg4 hg3 hci fi ⊢
      clear hf hg2 hg3 hg2k hT
      go_wp2
      go_roundw
      case rel => exact ⟨k + 1, _, _, _, by omega, by go_num, hT2, hg4⟩
      case measure => simp [intOf]; omega
    · obtain ⟨hkn⟩ : Nonempty (k = NS) := ⟨by omega⟩
      rw [hkn] at hT
      have eT : T = List.replicate NS (List.replicate NS (1099511627776 : Int)) := ext_nth (by rw [hgr.out.lenT]; simp) fun i hi => by rw [hgr.out.lenT] at hi; rw [(hT.out i hi).1, nth_replicate hi]
      have eR : R = List.replicate NS (1099511627776 : Int) := ext_nth (by rw [hgr.out.lenR]; simp) fun i hi => by rw [hgr.out.lenR] at hi; rw [(hT.out i hi).2, nth_replicate hi]
      subst eT eR
      clear hT
      have hg0 := Lib.hid (show Grid NS NS (List.replicate NS (List.replicate NS (1099511627776 : Int))) (fun _ _ => farN) from ⟨by simp, fun j hj => ⟨by rw [nth_replicate hj]; simp, fun y hy => by rw [nth_replicate hj, nth_replicate hy]; rfl⟩⟩)
      have hr1 := Lib.hid (show Row NS (List.replicate NS (1099511627776 : Int)) (SV x NP) from ⟨by simp, fun y hy => by
        have := SV_last x y
        rw [nth_replicate hy, HNP.out, show x.places.length = x.n from rfl, this]
        rfl⟩)
      obtain ⟨gx, cx, hc, q1, q2, hc2, hfz, hgs, hput⟩ := hgr.out.at2 (x := NE) (y := NE) (by omega) (by rw [nth_replicate (show NE < NS by omega)]; simp; omega)
      rw [nth_replicate (show NE < NS by omega)] at hc q1
      simp only [List.length_replicate] at hc q1
      unfold maxLen at q2
      have Hput := Lib.hid (hput W2.drew ((Below.refl _ _).drew) 0)
      have hg1 := Lib.hid (show Grid NS NS (set2 (List.replicate NS (List.replicate NS (1099511627776 : Int))) NE NE 0) (MV x NP) from (hg0.out.put (g := fun j y => if j = NE ∧ y = NE then 0 else farN) (show NE < NS by omega) (show NE < NS by omega) (by simp) (fun i j _ _ hne => if_neg hne)).congr (fun j y _ _ => by rw [HNE.out, HNP.out]; exact (MV_last x j y).symm))
      have e3 := (cl.out 3 W2 hgr.out.bel).trans G3.out
      have e5 := (cl.out 5 W2 hgr.out.bel).trans G5.out
      have hgx : w.heap.size ≤ gx := hgr.out.lg _ hgs
      generalize set2 (List.replicate NS (List.replicate NS (1099511627776 : Int))) NE NE 0 = T1 at *
      generalize nth (nth (List.replicate NS (List.replicate NS (1099511627776 : Int))) NE) NE = V0 at *
      clear hput hkn hg0
      go_wp2
      go_still_tail 12, (by kernel_rfl)
      change wpList _ _ _ _ _ W2.drew
      generalize hwd : W2.drew = W3
      have hfz2 : W3.frozen? ⟨gx, NE, none⟩ = false := by rw [← hwd]; exact hfz
      have hc22 : W3.cell? ⟨gx, NE, none⟩ = some (.int .i64 V0) := by rw [← hwd]; exact hc2
      have e53 : W3.cell? ⟨bx, 5, none⟩ = some (.slice a' NP c') := by rw [← hwd]; exact e5
      rw [hwd] at Hput
      have Hwd := Lib.hid hwd
      have n1 : ¬ bx = gx := by omega
      clear hwd hc hc2 hfz e3 e5 hgr
      go_wp2
      clear e53 hc22 hfz2 n1 Hwd
      go_loopw [3, 4, 6] (fun v3 v4 iv wr => ∃ (c g gr : Nat) (z : Int) (T : List (List Int)) (R : List Int) (S : List Nat), c ≤ NP ∧ iv = .int .i64 z ∧ z = (c : Int) - 1 ∧ v3 = .slice (some ⟨g, 0, none⟩) NS NS ∧ v4 = .slice (some ⟨gr, 0, none⟩) NS NS ∧ Hid (Grid NS NS T (MV x c)) ∧ Hid (Row NS R (SV x c)) ∧ Hid (GR w wr g gr NS T R S)) (fun _ _ iv _ => (intOf iv + 1).toNat)
      case atStart => exact ⟨NP, _, _, _, _, _, _, Nat.le_refl _, rfl, rfl, rfl, rfl, hg1, hr1, Hput⟩
      case round =>
        clear Hput hg1 hr1 q1 q2 hgs hgx
        obtain ⟨c0, g, gr, z, T, R, S, hcn, rfl, hz, rfl, rfl, hG, hR, hgr⟩ := hrel
        obtain ⟨W3, rfl⟩ : ∃ W, W = wr := ⟨_, rfl⟩
        have hb3 : bx < W3.heap.size := by have := hgr.out.bel.size; omega
        by_cases hlt : 0 < c0
        · obtain ⟨k0, rfl⟩ : ∃ j, c0 = j + 1 := ⟨c0 - 1, by omega⟩
          obtain rfl : z = k0 := by omega
          clear hz
          have Hkn := Lib.hid (show k0 < x.n by show k0 < x.places.length; rw [← HNP.out]; omega)
          have HGc := hgr.out.grid_cell hG.out
          have HRc := hgr.out.row_cell hR.out
          have Hrd := Lib.hid hgr.out.rd
          have Hb3 := Lib.hid hgr.out.bel
          have e1 := (cl.out 1 W3 Hb3.out).trans G1.out
          clear hgr hR
          have hstep := Lib.hid (fun (W : World) (hb : Below W3.heap.size W3 W) (s t : Nat) (hs : s < NS) (ht : t < NS) => (show Calls Try.prog 161 #[.pointer (some ⟨bx, 0, none⟩), .int .i64 k0, .int .i64 s, .int .i64 t, .slice (some ⟨g, 0, none⟩) NS NS] W fun e w' => e = .returned (.int .i64 (MV x k0 s t : Nat)) ∧ Below W.heap.size W w' from by
            have hbw : Below w.heap.size w W := Hb3.out.trans (hb.mono Hb3.out.size)
            have h1 := implStep (c := NS) (H.out.below hbw hB hbx) (Nat.le_trans hB hbw.size) (by have := hbw.size; omega) Hv.out k0 s t Hkn.out (by rw [← HNS.out]; exact hs) (by rw [← HNS.out]; exact ht) (P := (· < W3.heap.size)) (by rw [← HNS.out]; exact RdII.ok.keep Hrd.out fun j hj => hb.block j hj) ⟨by rw [← HNS.out]; exact Nat.le_refl _, by unfold maxLen; omega⟩ (by rw [← HNS.out]; exact hG.out) (fun a b => MV_cap _ _ _ _)
            rw [← HNS.out, ← MV_step Hkn.out s t] at h1
            exact h1))
          have hnext := Lib.hid (fun (W : World) (hb : Below W3.heap.size W3 W) (m s d : Nat) (hs : s < NS) (hd : d < NB) => implNext ((H.out.below (Hb3.out.trans (hb.mono Hb3.out.size)) hB hbx).draws m) Hv.out k0 s d Hkn.out (by rw [← HNS.out]; exact hs) (by rw [← HNB.out]; exact hd))
          have hnl := Lib.hid (fun (s d : Nat) (hs : s < NS) (hd : d < NB) => (show nxt x k0 s d < NS from by rw [HNS.out]; exact (Hv.out.cellN Hkn.out (by rw [← HNS.out]; exact hs) (by rw [← HNB.out]; exact hd)).2))
          have cl3 := Lib.hid (fun (o : Nat) (W : World) (hb : Below W3.heap.size W3 W) => cl.out o W (Hb3.out.trans (hb.mono Hb3.out.size)))
          go_upto_region 11 with fail
          go_cut [7, 8] from 59 to 166 (fun v7 v8 wx => ∃ (g gr : Nat) (S : List Nat), v7 = .slice (some ⟨g, 0, none⟩) NS NS ∧ v8 = .slice (some ⟨gr, 0, none⟩) NS NS ∧ GR W3 wx g gr NS (List.replicate NS []) (List.replicate NS 0) S)
          case first =>
            go_region
            all_goals (go_wp2_with fail; go_meet)
            · obtain ⟨S, hS⟩ := GR.start W3 (n := NS) (by unfold maxLen; omega)
              exact ⟨_, _, S, rfl, rfl, hS.keep (Below.refl _ _).drew⟩
            · obtain ⟨S, hS⟩ := GR.start' W3 (n := NS) (by unfold maxLen; omega)
              exact ⟨_, _, S, rfl, rfl, hS.keep (Below.refl _ _).drew⟩
          case rest =>
          clear e1
          obtain ⟨W4, rfl⟩ : ∃ W, W = wc := ⟨_, rfl⟩
          obtain ⟨g2, gr2, S2, rfl, rfl, hgr2⟩ := hcut
          have Hg2 := Lib.hid hgr2
          have e1 := (cl3.out 1 W4 hgr2.bel).trans G1.out
          have hpg0 := Lib.hid (show PartG NS (List.replicate NS []) (MV x k0) 0 from ⟨by simp, fun _ h => absurd h (Nat.not_lt_zero _)⟩)
          have hn2 : ¬ bx = g2 := by have := hgr2.lg _ hgr2.gS; omega
          have hn3 : ¬ bx = gr2 := by have := hgr2.lr; omega
          clear hgr2
          go_wp2
          go_loopw [77] (fun sv wr => ∃ (s : Nat) (T2 : List (List Int)) (R2 : List Int) (S2 : List Nat), s ≤ NS ∧ sv = .int .i64 s ∧ Hid (PartG NS T2 (MV x k0) s) ∧ Hid (∀ j, j < s → nth R2 j = (SV x k0 j : Nat)) ∧ Hid (GR W3 wr g2 gr2 NS T2 R2 S2)) (fun sv _ => NS - (intOf sv).toNat)
          case atStart => exact ⟨0, _, _, _, Nat.zero_le _, rfl, hpg0, Lib.hid (fun _ h => absurd h (Nat.not_lt_zero _)), Hg2⟩
          case round =>
            clear e1 hpg0 Hg2
            obtain ⟨s, T2, R2, S2, hs, rfl, hpg, hal, hgr2⟩ := hrel
            obtain ⟨W4, rfl⟩ : ∃ W, W = wr := ⟨_, rfl⟩
            by_cases hls : s < NS
            · have e1 := (cl3.out 1 W4 hgr2.out.bel).trans G1.out
              have hfr := Lib.hid (show Fresh OI W4 (W4.alloc (.cells (madeCells #[.int .i64 0] NS) 2)) (.slice (some ⟨W4.heap.size, 0, none⟩) NS NS) (List.replicate NS 0) from Fresh.made (Below.refl W4.heap.size W4) 2 fI 0 NS (by unfold maxLen; omega))
              obtain ⟨S3, hp⟩ := hgr2.out.putRow hfr.out hls
              have hk2 := hgr2.out.keep hfr.out.bel
              obtain ⟨cu, hcu⟩ := hk2.cellRow hls
              have fu := hk2.fr s
              have Hp := Lib.hid hp
              have hpg2 := Lib.hid (hpg.out.set (r := List.replicate NS 0) hls)
              have hrow2 := Lib.hid (show (nth (T2.set s (List.replicate NS 0)) s).length = NS ∧ ∀ y, y < 0 → nth (nth (T2.set s (List.replicate NS 0)) s) y = (MV x k0 s y : Nat) from ⟨by rw [nth_set (by rw [hpg.out.len]; exact hls), if_pos rfl]; simp, fun _ h => absurd h (Nat.not_lt_zero _)⟩)
              have hb4 : bx < W4.heap.size := by have := hgr2.out.bel.size; omega
              clear hp hk2 hgr2 hpg hfr
              go_wp2
              go_loopw [92] (fun tv wr => ∃ (t : Nat) (T3 : List (List Int)) (S3 : List Nat), t ≤ NS ∧ tv = .int .i64 t ∧ Hid (PartG NS T3 (MV x k0) s) ∧ Hid ((nth T3 s).length = NS ∧ ∀ y, y < t → nth (nth T3 s) y = (MV x k0 s y : Nat)) ∧ Hid (GR W3 wr g2 gr2 NS T3 R2 S3)) (fun tv _ => NS - (intOf tv).toNat)
              case atStart => exact ⟨0, _, _, Nat.zero_le _, rfl, hpg2, hrow2, Hp⟩
              case round =>
                clear e1 hpg2 hrow2 Hp hcu fu hb4
                obtain ⟨t, T3, S3, ht, rfl, hpg, hrow, hgr3⟩ := hrel
                obtain ⟨W5, rfl⟩ : ∃ W, W = wr := ⟨_, rfl⟩
                by_cases hlt2 : t < NS
                · obtain ⟨gx, cx, hc, q1, q2, hc2, hfz, hgS, hput⟩ := hgr3.out.at2 (x := s) (y := t) hls (by rw [hrow.out.1]; exact hlt2)
                  rw [hrow.out.1] at hc q1
                  unfold maxLen at q2
                  have hst := Lib.hid (fun (W : World) (hb : Below W5.heap.size W5 W) => hstep.out W (hgr3.out.bel.trans (hb.mono hgr3.out.bel.size)) s t hls hlt2)
                  have Hput := Lib.hid hput
                  have hpg3 := Lib.hid (hpg.out.set2 (y := t) (z := ((MV x k0 s t : Nat) : Int)) hls)
                  have hrow3 := Lib.hid (show (nth (set2 T3 s t ((MV x k0 s t : Nat) : Int)) s).length = NS ∧ ∀ y, y < t + 1 → nth (nth (set2 T3 s t ((MV x k0 s t : Nat) : Int)) s) y = (MV x k0 s y : Nat) from by
                    rw [nth_set2_at (by rw [hpg.out.len]; exact hls)]
                    refine ⟨by rw [List.length_set]; exact hrow.out.1, fun y hy => ?_⟩
                    rw [nth_set (by rw [hrow.out.1]; exact hlt2)]
                    by_cases e : t = y
                    · subst e; rw [if_pos rfl]
                    · rw [if_neg e]; exact hrow.out.2 y (by omega))
                  have Hc := Lib.hid (fun (W : World) (hb : Below W5.heap.size W5 W) => (show W.cell? ⟨g2, s, none⟩ = some (.slice (some ⟨gx, 0, none⟩) NS cx) ∧ W.cell? ⟨gx, t, none⟩ = some (.int .i64 (nth (nth T3 s) t)) ∧ W.frozen? ⟨gx, t, none⟩ = false from ⟨(hb.cell (p := ⟨g2, s, none⟩) (cell_lt hc)).trans hc, (hb.cell (p := ⟨gx, t, none⟩) (cell_lt hc2)).trans hc2, (hb.frozen (p := ⟨gx, t, none⟩) (cell_lt hc2)).trans hfz⟩))
                  generalize MV x k0 s t = V at *
                  generalize nth (nth T3 s) t = V1 at *
                  clear hput hpg hrow hgr3
                  go_wp2
                  go_region_with (refine (Calls.mono (hst.out _ (by first | exact Below.refl _ _ | exact (Below.refl _ _).drew)) ?_); rintro e w6 ⟨rfl, hb6⟩; have Hb6 := Lib.hid (show Below W5.heap.size W5 w6 by first | exact (Below.refl _ _).drew.trans hb6 | exact hb6); obtain ⟨hc6, hc62, hfz6⟩ := Hc.out w6 Hb6.out; clear hb6)
                  all_goals (go_wp2_with fail)
                  all_goals go_roundw
                  all_goals first
                    | exact ⟨t + 1, _, _, by omega, by go_num, hpg3, hrow3, Hput.out _ Hb6.out _⟩
                    | (simp [intOf]; omega)
                · obtain ⟨htn⟩ : Nonempty (t = NS) := ⟨by omega⟩
                  have hpg3 := Lib.hid (hpg.out.more (show Row NS (nth T3 s) (MV x k0 s) from ⟨hrow.out.1, fun y hy => hrow.out.2 y (by omega)⟩))
                  have cA := hgr3.out.cellI hls
                  have fA := hgr3.out.fri s
                  have hg4 := Lib.hid (hgr3.out.putI (Below.refl _ _) hls 1099511627776)
                  have hR4 := Lib.hid (show (∀ j, j < s → nth (R2.set s 1099511627776) j = (SV x k0 j : Nat)) ∧ nth (R2.set s 1099511627776) s = (alD x k0 s 0 : Nat) from ⟨fun j hj => by rw [nth_set (by rw [hgr3.out.lenR]; exact hls), if_neg (by omega)]; exact hal.out j hj, by rw [nth_set (by rw [hgr3.out.lenR]; exact hls), if_pos rfl]; rfl⟩)
                  have e0 := (cl3.out 0 W5 hgr3.out.bel).trans G0.out
                  clear hpg hrow hgr3 htn
                  go_wp2
                  go_loopw [115] (fun dv wr => ∃ (d : Nat) (R3 : List Int), d ≤ NB ∧ dv = .int .i64 d ∧ Hid ((∀ j, j < s → nth R3 j = (SV x k0 j : Nat)) ∧ nth R3 s = (alD x k0 s d : Nat)) ∧ Hid (GR W3 wr g2 gr2 NS T3 R3 S3)) (fun dv _ => NB - (intOf dv).toNat)
                  case atStart => exact ⟨0, _, Nat.zero_le _, rfl, hR4, hg4⟩
                  case round =>
                    clear cA fA hg4 hR4 e0
                    obtain ⟨d, R3, hd, rfl, hR3, hgr4⟩ := hrel
                    obtain ⟨W6, rfl⟩ : ∃ W, W = wr := ⟨_, rfl⟩
                    by_cases hdl : d < NB
                    · have cA := hgr4.out.cellI hls
                      rw [hR3.out.2] at cA
                      have fA := hgr4.out.fri s
                      have hnx := hnl.out s d hls hdl
                      have cS := HRc.out W6 hgr4.out.bel _ hnx
                      have hcl := Lib.hid (fun m => hnext.out W6 hgr4.out.bel m s d hls hdl)
                      have hz0 := alE_zero x k0 s d
                      have hg5 := Lib.hid (fun (w2 : World) (hb : Below W6.heap.size W6 w2) (y : Int) => hgr4.out.putI hb hls y)
                      have hR5 := Lib.hid (fun (y : Int) (hy : y = (alE x k0 s d 0 : Nat)) => (show (∀ j, j < s → nth (R3.set s y) j = (SV x k0 j : Nat)) ∧ nth (R3.set s y) s = (alE x k0 s d 0 : Nat) from ⟨fun j hj => by rw [nth_set (by rw [hgr4.out.lenR]; exact hls), if_neg (by omega)]; exact hR3.out.1 j hj, by rw [nth_set (by rw [hgr4.out.lenR]; exact hls), if_pos rfl]; exact hy⟩))
                      have Hz0 := Lib.hid (show ((alE x k0 s d 0 : Nat) : Int) = min ((alD x k0 s d : Nat) : Int) ((SV x (k0 + 1) (nxt x k0 s d) : Nat) : Int) by rw [hz0]; omega)
                      clear hgr4 hR3 hz0
                      generalize alD x k0 s d = A at *
                      generalize SV x (k0 + 1) (nxt x k0 s d) = B1 at *
                      generalize hN1 : nxt x k0 s d = n1 at *
                      have HN1 := Lib.hid hN1; clear hN1
                      go_wp2
                      refine wp_region_quiet_tail_lit 16 (by kernel_rfl) (by kernel_rfl) ?_
                      simp only [List.take_succ_cons, List.take_zero, List.drop_succ_cons, List.drop_zero]
                      repeat (go_big_quiet_step (with_reducible exact quiet_draws (hcl.out _)))
                      refine wpQuiet_nil ?_
                      rintro _ ⟨nq, rfl⟩
                      have hg6 := Lib.hid (hg5.out (W6.drewN nq) (bel_draws rfl) (min (A : Int) (B1 : Int)))
                      have hR6 := Lib.hid (hR5.out (min (A : Int) (B1 : Int)) Hz0.out.symm)
                      clear hg5 hR5 Hz0
                      go_wp2
                      go_loopw [135] (fun ev wr => ∃ (e : Nat) (R4 : List Int), e ≤ d ∧ ev = .int .i64 e ∧ Hid ((∀ j, j < s → nth R4 j = (SV x k0 j : Nat)) ∧ nth R4 s = (alE x k0 s d e : Nat)) ∧ Hid (GR W3 wr g2 gr2 NS T3 R4 S3)) (fun ev _ => d - (intOf ev).toNat)
                      case atStart => exact ⟨0, _, Nat.zero_le _, rfl, hR6, hg6⟩
                      case round =>
                        clear cA fA cS hcl hg6 hR6
                        obtain ⟨e, R4, he, rfl, hR4, hgr5⟩ := hrel
                        obtain ⟨W7, rfl⟩ : ∃ W, W = wr := ⟨_, rfl⟩
                        by_cases hel : e < d
                        · have heb : e < NB := by omega
                          have cA := hgr5.out.cellI hls
                          rw [hR4.out.2] at cA
                          have fA := hgr5.out.fri s
                          have hny := hnl.out s e hls heb
                          obtain ⟨b2, o2, c2, i1, i2, i3⟩ := HGc.out W7 hgr5.out.bel _ _ hnx hny
                          have hcl := Lib.hid (fun m => hnext.out W7 hgr5.out.bel m s d hls hdl)
                          rw [HN1.out] at hcl
                          have hcl2 := Lib.hid (fun m => hnext.out W7 hgr5.out.bel m s e hls heb)
                          have hz0 := alE_succ x k0 s d e
                          rw [HN1.out] at hz0
                          have hcap := MV_cap x (k0 + 1) n1 (nxt x k0 s e)
                          have hg5 := Lib.hid (fun (w2 : World) (hb : Below W7.heap.size W7 w2) (y : Int) => hgr5.out.putI hb hls y)
                          have hR5 := Lib.hid (fun (y : Int) (hy : y = (alE x k0 s d (e + 1) : Nat)) => (show (∀ j, j < s → nth (R4.set s y) j = (SV x k0 j : Nat)) ∧ nth (R4.set s y) s = (alE x k0 s d (e + 1) : Nat) from ⟨fun j hj => by rw [nth_set (by rw [hgr5.out.lenR]; exact hls), if_neg (by omega)]; exact hR4.out.1 j hj, by rw [nth_set (by rw [hgr5.out.lenR]; exact hls), if_pos rfl]; exact hy⟩))
                          have Hz0 := Lib.hid (show ((alE x k0 s d (e + 1) : Nat) : Int) = min ((alE x k0 s d e : Nat) : Int) ((MV x (k0 + 1) n1 (nxt x k0 s e) : Nat) + 1 : Int) by rw [hz0]; omega)
                          clear hgr5 hR4 hz0
                          unfold farN at hcap
                          generalize alE x k0 s d e = A1 at *
                          generalize MV x (k0 + 1) n1 (nxt x k0 s e) = V at *
                          generalize hN2 : nxt x k0 s e = n2 at *
                          have HN2 := Lib.hid hN2; clear hN2
                          go_wp2
                          refine wp_region_quiet_tail_lit 24 (by kernel_rfl) (by kernel_rfl) ?_
                          simp only [List.take_succ_cons, List.take_zero, List.drop_succ_cons, List.drop_zero]
                          repeat (go_big_quiet_step (first | with_reducible exact quiet_draws (hcl.out _) | with_reducible exact quiet_draws (hcl2.out _)))
                          refine wpQuiet_nil ?_
                          rintro _ ⟨nq, rfl⟩
                          have hg6 := Lib.hid (hg5.out (W7.drewN nq) (bel_draws rfl) (min (A1 : Int) ((V : Int) + 1)))
                          have hR6 := Lib.hid (hR5.out (min (A1 : Int) ((V : Int) + 1)) Hz0.out.symm)
                          clear hg5 hR5 Hz0
                          go_wp2
                          go_roundw
                          case rel => exact ⟨e + 1, _, by omega, by go_num, hR6, hg6⟩
                          case measure => simp [intOf]; omega
                        · obtain ⟨hed⟩ : Nonempty (e = d) := ⟨by omega⟩
                          have hR5 := Lib.hid (show (∀ j, j < s → nth R4 j = (SV x k0 j : Nat)) ∧ nth R4 s = (alD x k0 s (d + 1) : Nat) from ⟨hR4.out.1, by rw [hR4.out.2, hed, alE_all]⟩)
                          clear hR4 hed
                          go_wp2
                          go_roundw
                          case rel => exact ⟨d + 1, _, by omega, by go_num, hR5, hgr5⟩
                          case measure => simp [intOf]; omega
                    · obtain ⟨hdn⟩ : Nonempty (d = NB) := ⟨by omega⟩
                      have hR5 := Lib.hid (show ∀ j, j < s + 1 → nth R3 j = (SV x k0 j : Nat) from fun j hj => by
                        rcases Nat.lt_succ_iff_lt_or_eq.1 hj with h | rfl
                        · exact hR3.out.1 j h
                        · rw [hR3.out.2, hdn, HNB.out, alD_all Hkn.out])
                      clear hR3 hdn
                      go_wp2
                      go_roundw
                      case rel => exact ⟨s + 1, _, _, _, by omega, by go_num, hpg3, hR5, hgr4⟩
                      case measure => simp [intOf]; omega
            · obtain ⟨hsn⟩ : Nonempty (s = NS) := ⟨by omega⟩
              rw [hsn] at hpg hal
              have hgN := Lib.hid hpg.out.grid
              have hrN := Lib.hid (show Row NS R2 (SV x k0) from ⟨hgr2.out.lenR, hal.out⟩)
              have hgw := Lib.hid (hgr2.out.widen Hb3.out)
              clear hpg hal hgr2 hsn
              go_wp2
              go_roundw
              case rel => exact ⟨k0, _, _, _, _, _, _, by omega, by go_num, rfl, rfl, rfl, hgN, hrN, hgw⟩
              case measure => simp [intOf]
        · obtain ⟨hc0⟩ : Nonempty (c0 = 0) := ⟨by omega⟩
          rw [hc0] at hR hz
          have cR := hgr.out.row_cell hR.out
          have cR2 := cR.out W3 (Below.refl _ _) NT (by omega)
          have e2 := (cl.out 2 W3 hgr.out.bel).trans G2.out
          have hres := Lib.hid (show SV x 0 NT = distI x by unfold SV distI; rw [HNT.out]; rfl)
          rw [hres.out] at cR2
          have Hbe := Lib.hid hgr.out.bel
          clear cR hR hgr hc0
          obtain ⟨D, hD⟩ : ∃ D, D = distI x := ⟨_, rfl⟩
          rw [← hD] at cR2
          have HD := Lib.hid hD; clear hD hres
          go_wp2
          go_ret
          exact ⟨by rw [← HD.out]; rfl, Hbe.out⟩
end Go.Proofs.Ytnpkanlieflbiaa
/- The least distance: impl's LeastDistance, walked. -/
namespace Go.Proofs.Ytnpkanlieflbiaa
open Go.RowKit
set_option linter.unusedVariables false

theorem dist_far {x : Chn} (hv : vC x = true) (h : farN ≤ distI x) : dOk x = false ∧ dV x = 0 := by
  have h1 : ¬ distI x < farN := by omega
  have : dOk x = false := by simp [dOk, h1]
  exact ⟨this, by simp [dV, this]⟩
theorem dist_near {x : Chn} (hv : vC x = true) (h : distI x < farN) : dOk x = true ∧ dV x = (distI x : Nat) := by
  have : dOk x = true := by simp [dOk, h, hv]
  exact ⟨this, by simp [dV, this]⟩
set_option maxHeartbeats 1600000 in
set_option maxRecDepth 100000 in
theorem implLeastDistance {B : Nat} {v : Value} {x : Chn} {w : World} (h : RdC (· < B) w v x) (hB : B ≤ w.heap.size) (hn : szC x ≤ 1048576) :
    Calls Try.prog 54 #[v] w fun e w' => e = .returned (.tuple #[.int .i64 (dV x), .bool (dOk x)]) ∧ Below w.heap.size w w' := by
  have Hr := Lib.hid h
  obtain ⟨u, p, rfl, hu, hp⟩ := h
  obtain ⟨a, c, rfl, h1, h2⟩ := hu.isSlice
  obtain ⟨a', c', rfl, h3, h4⟩ := hp.isSlice
  have hbx := Lib.hid ((Below.refl w.heap.size w).alloc (Nat.le_refl _) (.cells #[.int .i64 x.base, .int .i64 x.states, .int .i64 x.start, .int .i64 x.stop, .slice a x.tables.length c, .slice a' x.places.length c'] 28))
  have Hbx := Lib.hid (BoxC.boxed hu hp hB); clear hu hp
  have hsz := Lib.hid (alloc_size w (.cells #[.int .i64 x.base, .int .i64 x.states, .int .i64 x.start, .int .i64 x.stop, .slice a x.tables.length c, .slice a' x.places.length c'] 28))
  unfold aggC
  cases hv : vC x
  · have hr := Lib.hid (d_inv hv)
    have Hv := Lib.hid hv; clear hv
    go_enter Try.func54, Try.ntmps54
    go_wp2_with fail
    refine (implValidChain (Rd.below RdC.ok Hr.out (hbx.out.mono hB)) (by rw [hsz.out]; omega) hn _ Hv.out).mono ?_
    rintro e w1 ⟨rfl, hb⟩
    have Hb := Lib.hid (hbx.out.trans (hb.mono (by rw [hsz.out]; omega))); clear hb
    go_wp2
    go_ret2
    exact ⟨by rw [hr.out.1, hr.out.2]; rfl, Hb.out⟩
  · have hvc := vC_iff.1 hv
    have hfar := Lib.hid (fun h => dist_far hv h)
    have hnear := Lib.hid (fun h => dist_near hv h)
    have Hv := Lib.hid hv
    have Hvc := Lib.hid hvc
    clear hv hvc
    go_enter Try.func54, Try.ntmps54
    go_wp2_with fail
    refine (implValidChain (Rd.below RdC.ok Hr.out (hbx.out.mono hB)) (by rw [hsz.out]; omega) hn _ Hv.out).mono ?_
    rintro e w1 ⟨rfl, hb⟩
    have hs1 : w.heap.size < w1.heap.size := by have := hb.size; rw [hsz.out] at this; omega
    have Hb1 := Lib.hid (Hbx.out.keep fun k hk => hb.block k (by rw [hsz.out]; omega))
    have Hb := Lib.hid (hbx.out.trans (hb.mono (by rw [hsz.out]; omega))); clear hb
    go_wp2_with fail
    refine (implLeast Hb1.out (show B ≤ w1.heap.size by omega) hs1 Hvc.out).mono ?_
    rintro e w2 ⟨he, hb2⟩
    obtain ⟨D, hDD⟩ : ∃ D, D = distI x := ⟨_, rfl⟩
    rw [← hDD] at he hfar hnear
    obtain ⟨DI, hDI⟩ : ∃ z : Int, z = (D : Nat) := ⟨_, rfl⟩
    rw [← hDI] at he hnear
    subst he
    clear hDD
    have Hb2 := Lib.hid (Hb.out.trans (hb2.mono Hb.out.size)); clear hb2
    by_cases hD : D < farN
    · have hr := Lib.hid (hnear.out hD)
      have hD2 : DI < 1099511627776 := by unfold farN at hD; omega
      clear hD hDI hfar hnear
      go_wp2
      go_ret2
      exact ⟨by rw [hr.out.1, hr.out.2]; rfl, Hb2.out⟩
    · have hr := Lib.hid (hfar.out (by omega))
      have hD2 : (1099511627776 : Int) ≤ DI := by unfold farN at hD; omega
      clear hD hDI hfar hnear
      go_wp2
      go_ret2
      exact ⟨by rw [hr.out.1, hr.out.2]; rfl, Hb2.out⟩
end Go.Proofs.Ytnpkanlieflbiaa
