/- The least distance: one number of the table before, walked. -/
import Derived.Test.YtnpkanlieflbiaaLd4
import Derived.Lib.MinMax
namespace Go.Proofs.Ytnpkanlieflbiaa
open Go.RowKit
set_option linter.unusedVariables false

/-- What is found so far: no more than far, no more than what is done at equal symbols; and it is met. -/
structure StI (b : Nat) (f : Nat → Nat → Nat) (p q : Nat → Nat) (D : Nat) (out : Nat) : Prop where
  cap : out ≤ farN
  eqs : ∀ d, d < D → out ≤ f (p d) (q d)
  met : out = farN ∨ (∃ d, d < b ∧ out = f (p d) (q d)) ∨ ∃ d e, d < b ∧ e < b ∧ out = f (p d) (q e) + 1
section sti
variable {b D out : Nat} {f : Nat → Nat → Nat} {p q : Nat → Nat}
theorem StI.start (b : Nat) (f : Nat → Nat → Nat) (p q : Nat → Nat) : StI b f p q 0 farN := ⟨Nat.le_refl _, fun _ h => absurd h (Nat.not_lt_zero _), .inl rfl⟩
theorem StI.eq (h : StI b f p q D out) (hD : D < b) : StI b f p q (D + 1) (min out (f (p D) (q D))) := by
  refine ⟨by have := h.cap; omega, fun d hd => ?_, ?_⟩
  · by_cases e : d = D
    · subst e; omega
    · have := h.eqs d (by omega); omega
  · rcases Nat.le_total out (f (p D) (q D)) with h1 | h1
    · rw [Nat.min_eq_left h1]; exact h.met
    · rw [Nat.min_eq_right h1]; exact .inr (.inl ⟨D, hD, rfl⟩)
theorem StI.two (h : StI b f p q D out) {u v : Nat} (hu : ∃ d, d < b ∧ u = p d) (hv : ∃ e, e < b ∧ v = q e) : StI b f p q D (min out (f u v + 1)) := by
  refine ⟨by have := h.cap; omega, fun d hd => by have := h.eqs d hd; omega, ?_⟩
  rcases Nat.le_total out (f u v + 1) with h1 | h1
  · rw [Nat.min_eq_left h1]; exact h.met
  · rw [Nat.min_eq_right h1]
    obtain ⟨d, hd, rfl⟩ := hu
    obtain ⟨e, he, rfl⟩ := hv
    exact .inr (.inr ⟨d, e, hd, he, rfl⟩)
theorem StI.done (h : StI b f p q b out) (h2 : ∀ d e, d < b → e < b → out ≤ f (p d) (q e) + 1) : out = minN farN b fun d => minN farN b fun e => f (p d) (q e) + if d = e then 0 else 1 := by
  refine Nat.le_antisymm ?_ ?_
  · rcases minN_get farN b fun d => minN farN b fun e => f (p d) (q e) + if d = e then 0 else 1 with h1 | ⟨d, hd, h1⟩
    · rw [h1]; exact h.cap
    · rw [h1]
      rcases minN_get farN b fun e => f (p d) (q e) + if d = e then 0 else 1 with h3 | ⟨e, he, h3⟩
      · rw [h3]; exact h.cap
      · rw [h3]
        by_cases e1 : d = e
        · subst e1
          rw [if_pos rfl]
          exact h.eqs d hd
        · rw [if_neg e1]
          exact h2 d e hd he
  · rcases h.met with h1 | ⟨d, hd, h1⟩ | ⟨d, e, hd, he, h1⟩
    · rw [h1]; exact minN_cap _ _ _
    · rw [h1]
      refine Nat.le_trans (minN_le hd) (Nat.le_trans (minN_le hd) ?_)
      show f (p d) (q d) + (if d = d then 0 else 1) ≤ _
      rw [if_pos rfl]; exact Nat.le_refl _
    · rw [h1]
      refine Nat.le_trans (minN_le hd) (Nat.le_trans (minN_le he) ?_)
      show f (p d) (q e) + (if d = e then 0 else 1) ≤ _
      split <;> omega
end sti

theorem grid_at {P : Nat → Prop} {w : World} {b n c : Nat} {T : List (List Int)} {f : Nat → Nat → Nat} (h : RdII P w (.slice (some ⟨b, 0, none⟩) n c) T) (hG : Grid n n T f) {i j : Nat} (hi : i < n) (hj : j < n) :
    ∃ b2 o2 c2, w.cell? ⟨b, i, none⟩ = some (.slice (some ⟨b2, o2, none⟩) n c2) ∧ (n ≤ c2 ∧ c2 ≤ 9223372036854775807) ∧ w.cell? ⟨b2, o2 + j, none⟩ = some (.int .i64 (f i j)) := by
  obtain ⟨hrl, hrv⟩ := hG.2 i hi
  have hv := hrv j hj
  obtain ⟨b', o', u, e, hP, hc, hu⟩ := Rd.elim h i (by rw [hG.1]; exact hi)
  simp only [Option.some.injEq, Addr.mk.injEq, and_true] at e
  obtain ⟨rfl, rfl⟩ := e
  obtain ⟨a2, c2, rfl, g1, g2, hrd⟩ := hu
  obtain ⟨b2, o2, u2, rfl, hP2, hc2, rfl⟩ := hrd j (by omega)
  rw [hrl] at hc g1
  rw [hv] at hc2
  rw [Nat.zero_add] at hc
  unfold maxLen at g2
  exact ⟨b2, o2, c2, hc, ⟨g1, g2⟩, hc2⟩

set_option maxHeartbeats 3200000 in
set_option maxRecDepth 100000 in
theorem implStep {B bx : Nat} {x : Chn} {w : World} (h : BoxC (· < B) w bx x) (hB : B ≤ w.heap.size) (hbx : bx < w.heap.size) (hv : VC x) (k s t : Nat) (hk : k < x.n) (hs : s < x.S) (ht : t < x.S)
    {g c : Nat} {T : List (List Int)} {f : Nat → Nat → Nat} {P : Nat → Prop} (hT : RdII P w (.slice (some ⟨g, 0, none⟩) x.S c) T) (hc : x.S ≤ c ∧ c ≤ maxLen) (hG : Grid x.S x.S T f) (hf : ∀ a b, f a b ≤ farN) :
    Calls Try.prog 161 #[.pointer (some ⟨bx, 0, none⟩), .int .i64 k, .int .i64 s, .int .i64 t, .slice (some ⟨g, 0, none⟩) x.S c] w fun e w' =>
      e = .returned (.int .i64 ((minN farN x.b fun d => minN farN x.b fun e => f (nxt x k s d) (nxt x k t e) + if d = e then 0 else 1 : Nat) : Int)) ∧ Below w.heap.size w w' := by
  have hnat := hv.nat
  have H := Lib.hid h
  have Hv := Lib.hid hv; clear hv
  obtain ⟨a, c0, a', c', g0, g1, g2, g3, g4, g5, hu, hpp, ⟨h1, h2⟩, h3, h4⟩ := h.cells
  obtain ⟨NS, hNS⟩ : ∃ n : Nat, n = x.S := ⟨_, rfl⟩
  obtain ⟨NB, hNB⟩ : ∃ n : Nat, n = x.b := ⟨_, rfl⟩
  rw [show x.base = (NB : Int) by have := Hv.out.base; rw [hNB]; show x.base = (x.base.toNat : Int); omega] at g0
  have hps := Lib.hid (show ∀ d, d < NB → nxt x k s d < NS from fun d hd => by rw [hNS]; exact (Hv.out.cellN hk hs (by rw [← hNB]; exact hd)).2)
  have hpt := Lib.hid (show ∀ d, d < NB → nxt x k t d < NS from fun d hd => by rw [hNS]; exact (Hv.out.cellN hk ht (by rw [← hNB]; exact hd)).2)
  have hrs := Lib.hid (fun (W : World) (hb : Below w.heap.size w W) => implReached (H.out.below hb hB hbx) (Nat.le_trans hB hb.size) Hv.out k s hk hs)
  have hrt := Lib.hid (fun (W : World) (hb : Below w.heap.size w W) => implReached (H.out.below hb hB hbx) (Nat.le_trans hB hb.size) Hv.out k t hk ht)
  have hnx := Lib.hid (fun (W : World) (hb : Below w.heap.size w W) (m d : Nat) (hd : d < NB) => implNext ((H.out.below hb hB hbx).draws m) Hv.out k s d hk hs (by rw [← hNB]; exact hd))
  have hny := Lib.hid (fun (W : World) (hb : Below w.heap.size w W) (m d : Nat) (hd : d < NB) => implNext ((H.out.below hb hB hbx).draws m) Hv.out k t d hk ht (by rw [← hNB]; exact hd))
  rw [← hNS, ← hNB] at hnat
  rw [← hNS] at hT hG hc ⊢
  have HG := Lib.hid (fun (W : World) (hb : Below w.heap.size w W) (i j : Nat) (hi : i < NS) (hj : j < NS) => (show ∃ b2 o2 c2, W.cell? ⟨g, i, none⟩ = some (.slice (some ⟨b2, o2, none⟩) NS c2) ∧ (NS ≤ c2 ∧ c2 ≤ 9223372036854775807) ∧ W.cell? ⟨b2, o2 + j, none⟩ = some (.int .i64 (f i j)) from by
    obtain ⟨b2, o2, c2, e1, e2, e3⟩ := grid_at hT hG hi hj
    exact ⟨b2, o2, c2, (hb.cell (p := ⟨g, i, none⟩) (cell_lt e1)).trans e1, e2, (hb.cell (p := ⟨b2, o2 + j, none⟩) (cell_lt e3)).trans e3⟩))
  have Hf := Lib.hid (show ∀ a b, f a b ≤ 1099511627776 from hf)
  rw [← hNB]
  rw [← hNB] at hrs hrt
  have HNB := Lib.hid hNB
  have Hk := Lib.hid hk; have Hs := Lib.hid hs; have Ht := Lib.hid ht
  clear hu hpp h g1 g2 g3 g4 g5 hT hG hf hNS hNB hB H hk hs ht
  unfold maxLen at hc
  obtain ⟨p, hp⟩ : ∃ p : Nat → Nat, p = nxt x k s := ⟨_, rfl⟩
  obtain ⟨q, hq⟩ : ∃ q : Nat → Nat, q = nxt x k t := ⟨_, rfl⟩
  have hst := Lib.hid (show ∀ out, StI NB f p q NB out → (∀ d e, d < NB → e < NB → out ≤ f (p d) (q e) + 1) → out = minN farN NB fun d => minN farN NB fun e => f (nxt x k s d) (nxt x k t e) + if d = e then 0 else 1 from fun out h1 h2 => by subst hp hq; exact h1.done h2)
  generalize (minN farN NB fun d => minN farN NB fun e => f (nxt x k s d) (nxt x k t e) + if d = e then 0 else 1) = RES at *
  rw [← hp] at hps hrs hnx
  rw [← hq] at hpt hrt hny
  clear hp hq
  go_enter Try.func161, Try.ntmps161
  go_wp2
  go_loopw [11, 21] (fun ov iv wr => ∃ d out : Nat, d ≤ NB ∧ iv = .int .i64 d ∧ ov = .int .i64 out ∧ out ≤ 1099511627776 ∧ Hid (StI NB f p q d out) ∧ Hid (Below w.heap.size w wr)) (fun _ iv _ => NB - (intOf iv).toNat)
  case atStart => exact ⟨0, 1099511627776, Nat.zero_le _, rfl, rfl, Nat.le_refl _, Lib.hid (StI.start _ _ _ _), Lib.hid (Below.refl _ _)⟩
  case round =>
    obtain ⟨d, out, hd, rfl, rfl, ho, hI, hb⟩ := hrel
    obtain ⟨W2, rfl⟩ : ∃ W2, W2 = wr := ⟨_, rfl⟩
    by_cases hdl : d < NB
    · have hx1 := hps.out d hdl
      have hy1 := hpt.out d hdl
      obtain ⟨b2, o2, c2, e1, e2, e3⟩ := HG.out W2 hb.out _ _ hx1 hy1
      have hcx := Lib.hid (fun m => hnx.out W2 hb.out m d hdl)
      have hcy := Lib.hid (fun m => hny.out W2 hb.out m d hdl)
      have hI2 := Lib.hid (hI.out.eq hdl)
      have hV := Hf.out (p d) (q d)
      clear hI
      generalize f (p d) (q d) = V at *
      generalize hP : p d = P at *
      have HP := Lib.hid hP; clear hP
      generalize hQ : q d = Q at *
      have HQ := Lib.hid hQ; clear hQ
      go_wp2_with fail
      refine wp_region_quiet_lit (by kernel_rfl) (by kernel_rfl) ?_
      repeat (go_big_quiet_step (first | with_reducible exact quiet_draws (hcx.out _) | with_reducible exact quiet_draws (hcy.out _)))
      refine wpQuiet_nil ?_
      rintro _ ⟨nq, rfl⟩
      go_wp2
      go_roundw
      case rel => exact ⟨d + 1, _, by omega, by go_num, by go_num, by omega, hI2, Lib.hid (hb.out.trans ((bel_draws rfl).mono hb.out.size))⟩
      case measure => simp [intOf]; omega
    · obtain ⟨hdn⟩ : Nonempty (d = NB) := ⟨by omega⟩
      rw [hdn] at hI
      have hcr := Lib.hid (hrs.out W2 hb.out)
      have hbd := hnat.1
      clear hdn
      go_wp2_with fail
      refine (Calls.mono hcr.out ?_)
      rintro e w3 ⟨v, LA, rfl, hfr, hlA, hmA⟩
      have hA0 : (p 0 : Int) ∈ LA := (hmA _).2 ⟨0, by omega, rfl⟩
      obtain ⟨ga, ca, rfl⟩ := hfr.shape (List.length_pos_of_mem hA0)
      have HA := Lib.hid (show ∀ i, i < LA.length → ∃ u : Nat, u < NS ∧ nth LA i = (u : Int) ∧ (∃ d, d < NB ∧ u = p d) ∧ ∀ W, Below w3.heap.size w3 W → W.cell? ⟨ga, i, none⟩ = some (.int .i64 u) from fun i hi => by
        obtain ⟨d, hd1, hd2⟩ := (hmA _).1 (nth_mem hi)
        refine ⟨p d, hps.out d hd1, hd2, ⟨d, hd1, rfl⟩, fun W hW => ?_⟩
        have hc1 := hfr.choose_spec.1.cell hi
        rw [hd2] at hc1
        exact (hW.cell (p := ⟨ga, i, none⟩) (cell_lt hc1)).trans hc1)
      have HAm := Lib.hid (show ∀ d, d < NB → ∃ i, i < LA.length ∧ nth LA i = (p d : Int) from fun d hd => by
        obtain ⟨i, hi, e⟩ := List.mem_iff_getElem.1 ((hmA _).2 ⟨d, hd, rfl⟩)
        exact ⟨i, hi, by rw [nth_eq hi]; exact e⟩)
      have hca := hfr.len2
      unfold maxLen at hca
      have Hb3 := Lib.hid (hb.out.trans (hfr.bel.mono hb.out.size))
      have hI3 := Lib.hid hI.out
      clear hfr hmA hA0 hb hcr
      obtain ⟨nA, hnA⟩ : ∃ n, n = LA.length := ⟨_, rfl⟩
      rw [← hnA] at HA HAm hca hlA ⊢
      clear hnA
      go_wp2
      go_loopw [11, 47] (fun ov iv wr => ∃ i out : Nat, i ≤ nA ∧ iv = .int .i64 i ∧ ov = .int .i64 out ∧ out ≤ 1099511627776 ∧ Hid (StI NB f p q NB out) ∧ Hid (∀ i', i' < i → ∀ e, e < NB → ∀ u : Nat, nth LA i' = u → out ≤ f u (q e) + 1) ∧ Hid (Below w3.heap.size w3 wr)) (fun _ iv _ => nA - (intOf iv).toNat)
      case atStart => exact ⟨0, out, Nat.zero_le _, rfl, rfl, ho, hI3, Lib.hid (fun i' h => absurd h (Nat.not_lt_zero _)), Lib.hid (Below.refl _ _)⟩
      case round =>
        clear hI3 hI ho
        obtain ⟨i, out, hi, rfl, rfl, ho, hI, hT, hb⟩ := hrel
        obtain ⟨W4, rfl⟩ : ∃ W4, W4 = wr := ⟨_, rfl⟩
        by_cases hil : i < nA
        · obtain ⟨u, hu, hnu, hud, hcu⟩ := HA.out i hil
          have cu := hcu W4 hb.out
          have Hb4 := Lib.hid (Hb3.out.trans (hb.out.mono Hb3.out.size))
          have hct := Lib.hid (hrt.out W4 Hb4.out)
          have Hnu := Lib.hid hnu
          have Hud := Lib.hid hud
          clear hcu hnu hud
          go_wp2_with fail
          refine (Calls.mono hct.out ?_)
          rintro e w5 ⟨v, LB, rfl, hfr, hlB, hmB⟩
          have hB0 : (q 0 : Int) ∈ LB := (hmB _).2 ⟨0, by omega, rfl⟩
          obtain ⟨gb, cb, rfl⟩ := hfr.shape (List.length_pos_of_mem hB0)
          have HB2 := Lib.hid (show ∀ j, j < LB.length → ∃ y : Nat, y < NS ∧ nth LB j = (y : Int) ∧ (∃ d, d < NB ∧ y = q d) ∧ ∀ W, Below w5.heap.size w5 W → W.cell? ⟨gb, j, none⟩ = some (.int .i64 y) from fun j hj => by
            obtain ⟨d, hd1, hd2⟩ := (hmB _).1 (nth_mem hj)
            refine ⟨q d, hpt.out d hd1, hd2, ⟨d, hd1, rfl⟩, fun W hW => ?_⟩
            have hc1 := hfr.choose_spec.1.cell hj
            rw [hd2] at hc1
            exact (hW.cell (p := ⟨gb, j, none⟩) (cell_lt hc1)).trans hc1)
          have HBm := Lib.hid (show ∀ d, d < NB → ∃ i, i < LB.length ∧ nth LB i = (q d : Int) from fun d hd => by
            obtain ⟨i, hi, e⟩ := List.mem_iff_getElem.1 ((hmB _).2 ⟨d, hd, rfl⟩)
            exact ⟨i, hi, by rw [nth_eq hi]; exact e⟩)
          have hcb := hfr.len2
          unfold maxLen at hcb
          have Hb5 := Lib.hid (hb.out.trans (hfr.bel.mono hb.out.size))
          have hb5s := Lib.hid hfr.bel
          clear hfr hmB hB0 hb hct Hb4 cu
          obtain ⟨nB, hnB⟩ : ∃ n, n = LB.length := ⟨_, rfl⟩
          rw [← hnB] at HB2 HBm hcb hlB ⊢
          clear hnB
          go_wp2
          go_loopw [11, 56] (fun ov iv wr => ∃ j out2 : Nat, j ≤ nB ∧ iv = .int .i64 j ∧ ov = .int .i64 out2 ∧ out2 ≤ out ∧ Hid (StI NB f p q NB out2) ∧ Hid (∀ j', j' < j → ∀ y : Nat, nth LB j' = y → out2 ≤ f u y + 1) ∧ Hid (Below w5.heap.size w5 wr)) (fun _ iv _ => nB - (intOf iv).toNat)
          case atStart => exact ⟨0, out, Nat.zero_le _, rfl, rfl, Nat.le_refl _, hI, Lib.hid (fun i' h => absurd h (Nat.not_lt_zero _)), Lib.hid (Below.refl _ _)⟩
          case round =>
            clear hI
            obtain ⟨j, out2, hj, rfl, rfl, ho2, hI, hT2, hb⟩ := hrel
            obtain ⟨W6, rfl⟩ : ∃ W6, W6 = wr := ⟨_, rfl⟩
            by_cases hjl : j < nB
            · obtain ⟨y, hy, hny2, hyd, hcy2⟩ := HB2.out j hjl
              have cy := hcy2 W6 hb.out
              have Hb6 := Lib.hid (Hb3.out.trans ((Hb5.out.trans (hb.out.mono Hb5.out.size)).mono Hb3.out.size))
              obtain ⟨b2, o2, c2, e1, e2, e3⟩ := HG.out W6 Hb6.out _ _ hu hy
              have hV := Hf.out u y
              have hI2 := Lib.hid (hI.out.two Hud.out hyd)
              have hT3 := Lib.hid (show ∀ j', j' < j + 1 → ∀ z : Nat, nth LB j' = z → min out2 (f u y + 1) ≤ f u z + 1 from fun j' hj' z hz => by
                rcases Nat.lt_succ_iff_lt_or_eq.1 hj' with h | rfl
                · have := hT2.out j' h z hz; omega
                · rw [hny2] at hz
                  obtain rfl : y = z := by omega
                  omega)
              clear hI hT2 hcy2 hny2 hyd
              generalize f u y = V at *
              go_wp2
              go_roundw
              case rel => exact ⟨j + 1, min out2 (V + 1), by omega, by go_num, by go_num, by omega, hI2, hT3, hb⟩
              case measure => simp [intOf]; omega
            · obtain ⟨hjn⟩ : Nonempty (j = nB) := ⟨by omega⟩
              have hT4 := Lib.hid (show ∀ i', i' < i + 1 → ∀ e, e < NB → ∀ z : Nat, nth LA i' = z → out2 ≤ f z (q e) + 1 from fun i' hi' e he z hz => by
                rcases Nat.lt_succ_iff_lt_or_eq.1 hi' with h | rfl
                · have := hT.out i' h e he z hz; omega
                · rw [Hnu.out] at hz
                  obtain rfl : u = z := by omega
                  obtain ⟨j', hj1, hj2⟩ := HBm.out e he
                  exact hT2.out j' (by omega) _ hj2)
              have Hb6 := Lib.hid (Hb5.out.trans (hb.out.mono Hb5.out.size))
              clear hjn hT2
              go_wp2
              go_roundw
              case rel => exact ⟨i + 1, out2, by omega, by go_num, rfl, by omega, hI, hT4, Hb6⟩
              case measure => simp [intOf]; omega
        · obtain ⟨hin⟩ : Nonempty (i = nA) := ⟨by omega⟩
          have hres := Lib.hid (hst.out out hI.out (fun d e hd1 he1 => by
            obtain ⟨i', hi1, hi2⟩ := HAm.out d hd1
            exact hT.out i' (by omega) e he1 _ hi2))
          have Hbe := Lib.hid (Hb3.out.trans (hb.out.mono Hb3.out.size))
          clear hin
          go_wp2
          go_ret
          exact ⟨by rw [hres.out]; rfl, Hbe.out⟩
end Go.Proofs.Ytnpkanlieflbiaa
