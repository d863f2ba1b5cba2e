/- Places for check symbols: the reference's. -/
import Derived.Test.YtphlohplkadenaaN1
import Derived.Test.YtphlohplkadenaaV13
namespace Go.Proofs.Ytphlohplkadenaa
open Go.RowKit
set_option linter.unusedVariables false

theorem up_len2 : ∀ (L : List Int) (lo hi : Int), L.Pairwise (· < ·) → (∀ z ∈ L, lo ≤ z ∧ z < hi) → lo ≤ hi → (L.length : Int) ≤ hi - lo
  | [], lo, hi, _, _, h => by simp; omega
  | x :: xs, lo, hi, hp, hb, h => by
    have h1 := hb x (by simp)
    rw [List.pairwise_cons] at hp
    have := up_len2 xs (x + 1) hi hp.2 (fun z hz => by have h2 := hp.1 z hz; have h3 := hb z (by simp [hz]); omega) (by omega)
    simp only [List.length_cons]
    omega
/-- The sums before place k, in order. -/
def SumIs (x : Wgt) (p k : Nat) (L : List Int) : Prop := L.Pairwise (· < ·) ∧ ∀ z, z ∈ L ↔ ∃ r : Nat, r < x.modulus.toNat ∧ reachB x p k r = true ∧ z = (r : Int)
theorem SumIs.start {x : Wgt} (hm : 1 ≤ x.modulus) (p : Nat) : SumIs x p 0 [0] := by
  refine ⟨by simp, fun z => ?_⟩
  simp only [List.mem_singleton]
  constructor
  · rintro rfl
    exact ⟨0, by omega, rfl, rfl⟩
  · rintro ⟨r, _, h, rfl⟩
    have : r = 0 := by simpa [reachB] using h
    omega
theorem SumIs.skip {x : Wgt} {p : Nat} {L : List Int} (h : SumIs x p p L) : SumIs x p (p + 1) L :=
  ⟨h.1, fun z => (h.2 z).trans ⟨fun ⟨r, h1, h2, h3⟩ => ⟨r, h1, (reachB_skip x p r).trans h2, h3⟩, fun ⟨r, h1, h2, h3⟩ => ⟨r, h1, (reachB_skip x p r).symm.trans h2, h3⟩⟩⟩
theorem SumIs.bd {x : Wgt} {p k : Nat} {L : List Int} (h : SumIs x p k L) : ∀ z ∈ L, 0 ≤ z ∧ z < (x.modulus.toNat : Int) := fun z hz => by
  obtain ⟨r, h1, _, rfl⟩ := (h.2 z).1 hz
  omega
theorem SumIs.len {x : Wgt} {p k : Nat} {L : List Int} (h : SumIs x p k L) : L.length ≤ x.modulus.toNat := by
  have := up_len2 L 0 x.modulus.toNat h.1 h.bd (by omega)
  omega
/-- What the first j sums, and the next with d symbols, make. -/
def NextIs (x : Wgt) (k : Nat) (L : List Int) (j d : Nat) (N : List Int) : Prop := N.Pairwise (· < ·) ∧ ∀ z, z ∈ N ↔ (∃ q ∈ L.take j, ∃ e : Nat, e < x.base.toNat ∧ z = (q + nth x.weights k * e) % x.modulus) ∨ ∃ e : Nat, e < d ∧ z = (nth L j + nth x.weights k * e) % x.modulus
theorem NextIs.start (x : Wgt) (k : Nat) (L : List Int) : NextIs x k L 0 0 [] := ⟨by simp, fun z => by simp⟩
theorem NextIs.more {x : Wgt} {k j d : Nat} {L N : List Int} (h : NextIs x k L j d N) : NextIs x k L j (d + 1) (putL N ((nth L j + nth x.weights k * d) % x.modulus)) := by
  refine ⟨putL_up _ h.1, fun z => ?_⟩
  rw [putL_mem, h.2 z]
  constructor
  · rintro ((h1 | ⟨e, he, h2⟩) | h3)
    · exact .inl h1
    · exact .inr ⟨e, by omega, h2⟩
    · exact .inr ⟨d, by omega, h3⟩
  · rintro (h1 | ⟨e, he, h2⟩)
    · exact .inl (.inl h1)
    · rcases Nat.lt_succ_iff_lt_or_eq.1 he with h3 | rfl
      · exact .inl (.inr ⟨e, h3, h2⟩)
      · exact .inr h2
theorem NextIs.next {x : Wgt} {k j : Nat} {L N : List Int} (hj : j < L.length) (h : NextIs x k L j x.base.toNat N) : NextIs x k L (j + 1) 0 N := by
  refine ⟨h.1, fun z => ?_⟩
  rw [h.2 z, take_nth hj]
  constructor
  · rintro (⟨q, hq, h1⟩ | h2)
    · exact .inl ⟨q, by simp [hq], h1⟩
    · exact .inl ⟨nth L j, by simp, h2⟩
  · rintro (⟨q, hq, h1⟩ | ⟨e, he, _⟩)
    · rcases List.mem_append.1 hq with h2 | h2
      · exact .inl ⟨q, h2, h1⟩
      · simp at h2; subst h2; exact .inr h1
    · omega
theorem NextIs.bd {x : Wgt} (hm : 1 ≤ x.modulus) {k j d : Nat} {L N : List Int} (h : NextIs x k L j d N) : ∀ z ∈ N, 0 ≤ z ∧ z < (x.modulus.toNat : Int) := fun z hz => by
  have h1 : ∀ y : Int, 0 ≤ y % x.modulus ∧ y % x.modulus < (x.modulus.toNat : Int) := fun y => by
    have := Int.emod_nonneg y (show x.modulus ≠ 0 by omega)
    have := Int.emod_lt_of_pos y (show 0 < x.modulus by omega)
    omega
  rcases (h.2 z).1 hz with ⟨q, _, e, _, rfl⟩ | ⟨e, _, rfl⟩ <;> exact h1 _
theorem NextIs.len {x : Wgt} (hm : 1 ≤ x.modulus) {k j d : Nat} {L N : List Int} (h : NextIs x k L j d N) : N.length ≤ x.modulus.toNat := by
  have := up_len2 N 0 x.modulus.toNat h.1 (h.bd hm) (by omega)
  omega
theorem NextIs.whole {x : Wgt} (hm : 1 ≤ x.modulus) {p k : Nat} (hk : k ≠ p) {L N : List Int} (hs : SumIs x p k L) (h : NextIs x k L L.length 0 N) : SumIs x p (k + 1) N := by
  refine ⟨h.1, fun z => ?_⟩
  rw [h.2 z, List.take_length]
  have hrb : ∀ r, reachB x p (k + 1) r = true ↔ ∃ q, q < x.modulus.toNat ∧ reachB x p k q = true ∧ ∃ e : Nat, e < x.base.toNat ∧ ((q : Int) + nth x.weights k * e) % x.modulus = r := fun r => by
    show (if k = p then _ else _) = true ↔ _
    rw [if_neg hk]
    simp only [List.any_eq_true, List.mem_range, Bool.and_eq_true, decide_eq_true_eq]
  constructor
  · rintro (⟨q, hq, e, he, rfl⟩ | ⟨e, he, _⟩)
    · obtain ⟨r, h1, h2, rfl⟩ := (hs.2 q).1 hq
      have h3 := Int.emod_nonneg ((r : Int) + nth x.weights k * e) (show x.modulus ≠ 0 by omega)
      have h4 := Int.emod_lt_of_pos ((r : Int) + nth x.weights k * e) (show 0 < x.modulus by omega)
      obtain ⟨y, hy⟩ := Int.eq_ofNat_of_zero_le h3
      exact ⟨y, by omega, (hrb y).2 ⟨r, h1, h2, e, he, hy⟩, hy⟩
    · omega
  · rintro ⟨r, hr, h1, rfl⟩
    obtain ⟨q, h2, h3, e, he, h4⟩ := (hrb r).1 h1
    exact .inl ⟨(q : Int), (hs.2 q).2 ⟨q, h2, h3, rfl⟩, e, he, h4.symm⟩
theorem RdI.wide {P : Nat → Prop} {w : World} {v : Value} {xs : List Int} (h : RdI P w v xs) (hP : ∀ k, P k → k < w.heap.size) : RdI (· < w.heap.size) w v xs := RdI.ok.mono h hP

set_option maxHeartbeats 1600000 in
set_option maxRecDepth 10000 in
theorem specIsCheckPlace {B : Nat} {v : Value} {x : Wgt} {w : World} (h : RdW (· < B) w v x) (hB : B ≤ w.heap.size) (hn : szW x ≤ 1048576) (place : Int) :
    Calls Try.prog 35 #[v, .int .i64 place] w fun e w' => e = .returned (.bool (isCP x place)) ∧ Below w.heap.size w w' := by
  obtain ⟨u, rfl, hu⟩ := h
  obtain ⟨a, c, rfl, h1, h2⟩ := hu.isSlice
  have hbx := Lib.hid ((Below.refl w.heap.size w).alloc (Nat.le_refl _) (.cells #[.int .i64 x.base, .int .i64 x.modulus, .int .i64 x.target, .slice a x.weights.length c] 26))
  have Hbx := Lib.hid (BoxW.boxed hu hB)
  have Hu := Lib.hid hu; clear hu
  have hsz := Lib.hid (al_size w (.cells #[.int .i64 x.base, .int .i64 x.modulus, .int .i64 x.target, .slice a x.weights.length c] 26))
  have hb1 := Lib.hid (heap_alloc_new w (.cells #[.int .i64 x.base, .int .i64 x.modulus, .int .i64 x.target, .slice a x.weights.length c] 26))
  unfold maxLen at h2
  unfold aggW
  cases hv : vW x
  · have hr := Lib.hid (show isCP x place = false by simp [isCP, hv])
    have Hv := Lib.hid hv; clear hv
    go_enter Try.func35, Try.ntmps35
    go_wp2_with fail
    refine (specL03Is Hbx.out hn _ Hv.out).mono ?_
    rintro e w1 ⟨rfl, m, rfl⟩
    go_wp2
    go_ret
    exact ⟨ret_bool hr.out.symm, Below.draws hbx.out _⟩
  · have hvw := vW_iff.1 hv
    have hln := hvw.len
    have Hv := Lib.hid hv
    have Hvw := Lib.hid hvw
    have hwr : IntKind.i64.wrap ((x.weights.length : Int) - 1) = (x.weights.length : Int) - 1 := IntWalk.i64_in _ (by omega)
    cases hin : inB place 0 ((x.weights.length : Int) - 1)
    · have hr := Lib.hid (show isCP x place = false by simp [isCP, hin])
      clear hv hvw
      go_enter Try.func35, Try.ntmps35
      go_wp2_with fail
      refine (specL03Is Hbx.out hn _ Hv.out).mono ?_
      rintro e w1 ⟨rfl, m, rfl⟩
      go_wp2_with (go_at_call 70; refine (specIn _ _ _ _ (by first | assumption | (rw [hwr]; assumption)) _).mono ?_; rintro e w' ⟨rfl, rfl⟩)
      go_ret
      exact ⟨ret_bool hr.out.symm, Below.draws hbx.out _⟩
    · have hpd := inB_true.1 hin
      obtain ⟨p, rfl⟩ : ∃ p : Nat, place = p := ⟨place.toNat, by omega⟩
      have hr := Lib.hid (show isCP x p = chkPl x p by simp [isCP, hin, hv])
      have hpl : p < x.weights.length := by omega
      have hba := hvw.base
      have hmo := hvw.modulus
      have hta := hvw.target
      have hwt := Lib.hid hvw.weight
      have hm1 := Lib.hid (show 1 ≤ x.modulus by omega)
      obtain ⟨NM, hNM⟩ : ∃ n : Nat, n = x.modulus.toNat := ⟨_, rfl⟩
      obtain ⟨NB, hNB⟩ : ∃ n : Nat, n = x.base.toNat := ⟨_, rfl⟩
      have em : x.modulus = (NM : Int) := by omega
      have eb : x.base = (NB : Int) := by omega
      have HNM := Lib.hid hNM
      have HNB := Lib.hid hNB
      have Hem := Lib.hid em
      have Heb := Lib.hid eb
      rw [em] at hmo hta
      rw [eb] at hba
      clear hv hvw hpd hNM hNB em eb
      go_enter Try.func35, Try.ntmps35
      go_wp2_with fail
      refine (specL03Is Hbx.out hn _ Hv.out).mono ?_
      rintro e w1 ⟨rfl, m, rfl⟩
      obtain ⟨W1, hW1⟩ : ∃ W1, W1 = (w.alloc (.cells #[.int .i64 x.base, .int .i64 x.modulus, .int .i64 x.target, .slice a x.weights.length c] 26)).drewN m := ⟨_, rfl⟩
      rw [← hW1]
      have hbb : W1.heap[w.heap.size]? = some (.cells #[.int .i64 x.base, .int .i64 x.modulus, .int .i64 x.target, .slice a x.weights.length c] 26 (0, 0)) := by rw [hW1]; exact hb1.out
      rw [Hem.out, Heb.out] at hbb
      have g0 := heap_cell hbb (i := 0) rfl
      have g1 := heap_cell hbb (i := 1) rfl
      have g2 := heap_cell hbb (i := 2) rfl
      have g3 := heap_cell hbb (i := 3) rfl
      have hs1 : w.heap.size < W1.heap.size := heap_lt hbb
      have Hb := Lib.hid (show Below w.heap.size w W1 by rw [hW1]; exact Below.draws hbx.out m)
      have Hu1 := Lib.hid (RdI.ok.keep Hu.out (w' := W1) fun k hk => Hb.out.block k (by omega))
      have hBw := Lib.hid (show B < W1.heap.size by omega)
      have hl0 := Lib.hid (Own.lit W1 2 fI [0] (by unfold maxLen; simp))
      have hf0 : Fresh OI W1 (W1.alloc (.cells #[.int .i64 0] 2)) (.slice (some ⟨W1.heap.size, 0, none⟩) 1 1) [0] := ⟨_, hl0.out, by simp, (Below.refl _ _).alloc (Nat.le_refl _) _⟩
      have hrd0 := Lib.hid (hf0.rd OI.leads OI.ok)
      have hbl0 := Lib.hid hf0.bel
      have hsi0 := Lib.hid (SumIs.start hm1.out p)
      clear hW1 hbb hf0
      go_wp2_with (go_at_call 70; refine (specIn _ _ _ _ (by first | assumption | (rw [hwr]; assumption)) _).mono ?_; rintro e w' ⟨rfl, rfl⟩)
      go_loopw [5, 6] (fun sv iv wr => ∃ (k : Nat) (a5 : Option Addr) (c5 : Nat) (L : List Int), k ≤ x.weights.length ∧ iv = .int .i64 k ∧ sv = .slice a5 L.length c5 ∧ Hid (RdI (· < wr.heap.size) wr (.slice a5 L.length c5) L) ∧ Hid (SumIs x p k L) ∧ Hid (Below W1.heap.size W1 wr)) (fun _ iv _ => x.weights.length - (intOf iv).toNat)
      case atStart => exact ⟨0, _, _, [0], Nat.zero_le _, rfl, rfl, hrd0, hsi0, hbl0⟩
      case round =>
        clear hrd0 hsi0 hbl0 hl0
        obtain ⟨k, a5, c5, L, hk, rfl, rfl, hrd, hsi, hbel⟩ := hrel
        obtain ⟨W2, rfl⟩ : ∃ W2, W2 = wr := ⟨_, rfl⟩
        have e3 : W2.cell? ⟨w.heap.size, 3, none⟩ = some (.slice a x.weights.length c) := (hbel.out.cell (p := ⟨w.heap.size, 3, none⟩) hs1).trans g3
        have hLl := hsi.out.len
        rw [← HNM.out] at hLl
        obtain ⟨_, _, hcb⟩ := hrd.out.isSlice
        simp only [Value.slice.injEq] at hcb
        obtain ⟨⟨rfl, _, rfl⟩, hc1, hc2⟩ := hcb
        unfold maxLen at hc2
        by_cases hlt : k < x.weights.length
        · by_cases hkp : k = p
          · have hbk : ((k : Int) == (p : Int)) = true := by simp only [beq_iff_eq]; omega
            have hsi2 := Lib.hid (show SumIs x p (k + 1) L by rw [hkp] at hsi ⊢; exact hsi.out.skip)
            clear hkp
            go_wp2
            go_roundw
            case rel => exact ⟨k + 1, _, _, L, by omega, by go_num, rfl, hrd, hsi2, hbel⟩
            case measure => simp [intOf]; omega
          · have hbk : ((k : Int) == (p : Int)) = false := by simp only [beq_eq_false_iff_ne]; omega
            have Hkp := Lib.hid hkp; clear hkp
            have hwk := Lib.hid (hwt.out k hlt)
            have hn0 : Fresh OI W2 (W2.alloc (.cells #[] 2)) (.slice (some ⟨W2.heap.size, 0, none⟩) 0 0) [] := Fresh.empty (Below.refl _ _)
            have hrn0 := Lib.hid (hn0.rd OI.leads OI.ok)
            have hbn0 := Lib.hid hn0.bel
            have hni0 := Lib.hid (NextIs.start x k L)
            clear hn0
            go_wp2
            go_loopw [7, 8] (fun nv jv wr => ∃ (j : Nat) (a7 : Option Addr) (c7 : Nat) (N : List Int), j ≤ L.length ∧ jv = .int .i64 j ∧ nv = .slice a7 N.length c7 ∧ Hid (RdI (· < wr.heap.size) wr (.slice a7 N.length c7) N) ∧ Hid (NextIs x k L j 0 N) ∧ Hid (Below W2.heap.size W2 wr)) (fun _ jv _ => L.length - (intOf jv).toNat)
            case atStart => exact ⟨0, _, _, [], Nat.zero_le _, rfl, rfl, hrn0, hni0, hbn0⟩
            case round =>
              clear hrn0 hni0 hbn0
              obtain ⟨j, a7, c7, N, hj, rfl, rfl, hrn, hni, hbn⟩ := hrel
              obtain ⟨W3, rfl⟩ : ∃ W3, W3 = wr := ⟨_, rfl⟩
              by_cases hlj : j < L.length
              · go_wp2
                go_loopw [7, 9] (fun nv dv wr => ∃ (d : Nat) (a7 : Option Addr) (c7 : Nat) (N : List Int), d ≤ NB ∧ dv = .int .i64 d ∧ nv = .slice a7 N.length c7 ∧ Hid (RdI (· < wr.heap.size) wr (.slice a7 N.length c7) N) ∧ Hid (NextIs x k L j d N) ∧ Hid (Below W2.heap.size W2 wr)) (fun _ dv _ => NB - (intOf dv).toNat)
                case atStart => exact ⟨0, _, _, N, Nat.zero_le _, rfl, rfl, hrn, hni, hbn⟩
                case round =>
                  clear hrn hni hbn
                  obtain ⟨d, a7, c7, N, hd, rfl, rfl, hrn, hni, hbn⟩ := hrel
                  obtain ⟨W4, rfl⟩ : ∃ W4, W4 = wr := ⟨_, rfl⟩
                  have hb4 := hbel.out.trans (hbn.out.mono hbel.out.size)
                  have e0 : W4.cell? ⟨w.heap.size, 0, none⟩ = some (.int .i64 NB) := (hb4.cell (p := ⟨w.heap.size, 0, none⟩) hs1).trans g0
                  by_cases hld : d < NB
                  · have e1 : W4.cell? ⟨w.heap.size, 1, none⟩ = some (.int .i64 NM) := (hb4.cell (p := ⟨w.heap.size, 1, none⟩) hs1).trans g1
                    have e3 : W4.cell? ⟨w.heap.size, 3, none⟩ = some (.slice a x.weights.length c) := (hb4.cell (p := ⟨w.heap.size, 3, none⟩) hs1).trans g3
                    have Hu4 := RdI.ok.keep Hu1.out (w' := W4) fun i hi => hb4.block i (by have := hBw.out; omega)
                    obtain ⟨b3, o3, u3, rfl, hP3, hc3, rfl⟩ := Rd.elim Hu4 k hlt
                    have hc4 : W4.cell? ⟨b3, o3 + k, none⟩ = some (.int .i64 (nth x.weights k)) := hc3
                    have hr4 := RdI.ok.keep hrd.out (w' := W4) fun i hi => hbn.out.block i hi
                    obtain ⟨b5, o5, u5, rfl, hP5, hc5, rfl⟩ := Rd.elim hr4 j hlj
                    have hc6 : W4.cell? ⟨b5, o5 + j, none⟩ = some (.int .i64 (nth L j)) := hc5
                    have hq := hsi.out.bd _ (nth_mem hlj)
                    rw [← HNM.out] at hq
                    obtain ⟨f1, f2, f3, f4, f5, f6⟩ := cpFacts (s := nth L j) (wt := nth x.weights k) (d := (d : Int)) (m := (NM : Int)) hq.1 hq.2 hwk.out.1 (by rw [← Hem.out]; exact hwk.out.2) (by omega) (by omega) (by omega)
                    have hni2 := Lib.hid hni.out.more
                    have hNl := hni.out.len hm1.out
                    have hNl2 := hni2.out.len hm1.out
                    rw [← HNM.out] at hNl hNl2
                    have hput := Lib.hid (fun q => specPut (rd_draws RdI.ok hrn.out q) (fun i hi => hi) (by omega) ((nth L j + nth x.weights k * d) % x.modulus))
                    rw [Hem.out] at hput hni2
                    have hbq := Lib.hid (fun q w5 (hb : Below (W4.drewN q).heap.size (W4.drewN q) w5) => (Below.draws hbn.out q).trans (hb.mono (by show W2.heap.size ≤ W4.heap.size; exact hbn.out.size)))
                    have hNMn : ¬ (NM : Int) = 0 := by omega
                    have j0 : (0 : Int) ≤ (j : Int) := by omega
                    have j1 : (j : Int) < (L.length : Int) := by omega
                    have k0 : (0 : Int) ≤ (k : Int) := by omega
                    have k1 : (k : Int) < (x.weights.length : Int) := by omega
                    clear hc3 hc5 Hu4 hr4 hb4 hq hNl
                    rw [Hem.out] at hNl2
                    generalize nth x.weights k = wt at *
                    generalize nth L j = lj at *
                    go_wp2
                    go_quiet (fail)
                    go_wp2_with fail
                    refine (Calls.mono (hput.out _) ?_)
                    rintro e w5 ⟨v5, rfl, hf5⟩
                    have hrd5 := Lib.hid (hf5.rd OI.leads OI.ok)
                    have hbn5 := Lib.hid (hbq.out _ _ hf5.bel)
                    obtain ⟨a9, c9, rfl, _, _⟩ := hrd5.out.isSlice
                    clear hf5
                    go_wp2
                    go_roundw
                    case rel => exact ⟨d + 1, _, _, _, by omega, by go_num, rfl, hrd5, hni2, hbn5⟩
                    case measure => simp [intOf]; omega
                  · obtain ⟨hdn⟩ : Nonempty (d = NB) := ⟨by omega⟩
                    have hni2 := Lib.hid (show NextIs x k L (j + 1) 0 N by rw [hdn, HNB.out] at hni; exact hni.out.next hlj)
                    clear hdn hb4
                    go_wp2
                    go_roundw
                    case rel => exact ⟨j + 1, _, _, N, by omega, by go_num, rfl, hrn, hni2, hbn⟩
                    case measure => simp [intOf]; omega
              · obtain ⟨hjn⟩ : Nonempty (j = L.length) := ⟨by omega⟩
                have hsi2 := Lib.hid (show SumIs x p (k + 1) N by rw [hjn] at hni; exact hni.out.whole hm1.out Hkp.out hsi.out)
                have hb3 := Lib.hid (hbel.out.trans (hbn.out.mono hbel.out.size))
                clear hjn
                go_wp2
                go_roundw
                case rel => exact ⟨k + 1, _, _, N, by omega, by go_num, rfl, hrn, hsi2, hb3⟩
                case measure => simp [intOf]; omega
        · obtain ⟨hkn⟩ : Nonempty (k = x.weights.length) := ⟨by omega⟩
          have hsw := Lib.hid (show SumIs x p x.weights.length L by rw [hkn] at hsi; exact hsi.out)
          clear hkn
          have g1' : W2.cell? ⟨w.heap.size, 1, none⟩ = some (.int .i64 NM) := (hbel.out.cell (p := ⟨w.heap.size, 1, none⟩) hs1).trans g1
          have g0' : W2.cell? ⟨w.heap.size, 0, none⟩ = some (.int .i64 NB) := (hbel.out.cell (p := ⟨w.heap.size, 0, none⟩) hs1).trans g0
          have g2' : W2.cell? ⟨w.heap.size, 2, none⟩ = some (.int .i64 x.target) := (hbel.out.cell (p := ⟨w.heap.size, 2, none⟩) hs1).trans g2
          have Hu2 := RdI.ok.keep Hu1.out (w' := W2) fun j hj => hbel.out.block j (by have := hBw.out; omega)
          obtain ⟨b3, o3, u3, rfl, hP3, hc3, rfl⟩ := Rd.elim Hu2 p hpl
          have hc4 : W2.cell? ⟨b3, o3 + p, none⟩ = some (.int .i64 (nth x.weights p)) := hc3
          have hwp := hwt.out p hpl
          rw [Hem.out] at hwp
          have hbw := Lib.hid (Hb.out.trans (hbel.out.mono (Nat.le_of_lt hs1)))
          have hcp := Lib.hid (show chkPl x p = true ↔ ∀ j, j < L.length → hitsN x p (nth L j) NB = 1 by
            unfold chkPl
            rw [allB_iff, ← HNB.out]
            constructor
            · intro h j hj
              obtain ⟨r, h1, h2, h3⟩ := (hsw.out.2 _).1 (nth_mem hj)
              have h4 := h r h1
              rw [h2] at h4
              rw [h3]
              simpa using h4
            · intro h s hs
              cases hre : reachB x p x.weights.length s
              · rfl
              · obtain ⟨j, hj, e⟩ := List.mem_iff_getElem.1 ((hsw.out.2 (s : Int)).2 ⟨s, hs, hre, rfl⟩)
                have h5 := h j hj
                rw [nth_eq hj, e] at h5
                simp [h5])
          have hhs := Lib.hid (fun (s : Int) d => hitsN_succ x p s d)
          have hhl := Lib.hid (fun (s : Int) d => hitsN_le x p s d)
          have hst0 := Lib.hid (show W2.drewN 0 = W2 from rfl)
          have e3' := e3
          clear hc3 Hu2 g0 g1 g2 g3
          go_wp2
          go_loopw [11] (fun sv wr => ∃ (j m : Nat), j ≤ L.length ∧ sv = .int .i64 j ∧ Hid (∀ i, i < j → hitsN x p (nth L i) NB = 1) ∧ Hid (W2.drewN m = wr)) (fun sv _ => L.length - (intOf sv).toNat)
          case atStart => exact ⟨0, 0, Nat.zero_le _, rfl, Lib.hid (fun i hi => by omega), hst0⟩
          case round =>
            obtain ⟨j, m, hj, rfl, hok, hm⟩ := hrel
            obtain ⟨W3, rfl⟩ : ∃ W3, W3 = wr := ⟨_, rfl⟩
            by_cases hlj : j < L.length
            · obtain ⟨b5, o5, u5, rfl, _, hc5, rfl⟩ := Rd.elim hrd.out j hlj
              have hq := hsw.out.bd _ (nth_mem hlj)
              rw [← HNM.out] at hq
              have hz0 := Lib.hid (show hitsN x p (nth L j) 0 = 0 from rfl)
              have hcL : W2.cell? ⟨b5, o5 + j, none⟩ = some (.int .i64 (nth L j)) := hc5
              clear hc5
              go_wp2
              go_loopw [12, 13] (fun mv dv wr => ∃ (d m M : Nat), d ≤ NB ∧ dv = .int .i64 d ∧ mv = .int .i64 M ∧ Hid (M = hitsN x p (nth L j) d) ∧ Hid (W2.drewN m = wr)) (fun _ dv _ => NB - (intOf dv).toNat)
              case atStart => exact ⟨0, _, 0, Nat.zero_le _, rfl, rfl, Lib.hid hz0.out.symm, hm⟩
              case round =>
                clear hm
                obtain ⟨d, m, M, hd, rfl, rfl, hM, hm⟩ := hrel
                obtain ⟨W4, rfl⟩ : ∃ W4, W4 = wr := ⟨_, rfl⟩
                have e0 : W4.cell? ⟨w.heap.size, 0, none⟩ = some (.int .i64 NB) := by rw [← hm.out]; exact g0'
                have hMl := hhl.out (nth L j) d
                rw [← hM.out] at hMl
                by_cases hld : d < NB
                · have e1 : W4.cell? ⟨w.heap.size, 1, none⟩ = some (.int .i64 NM) := by rw [← hm.out]; exact g1'
                  have e2 : W4.cell? ⟨w.heap.size, 2, none⟩ = some (.int .i64 x.target) := by rw [← hm.out]; exact g2'
                  have e3 : W4.cell? ⟨w.heap.size, 3, none⟩ = some (.slice (some ⟨b3, o3, none⟩) x.weights.length c) := by rw [← hm.out]; exact e3'
                  have e4 : W4.cell? ⟨b3, o3 + p, none⟩ = some (.int .i64 (nth x.weights p)) := by rw [← hm.out]; exact hc4
                  have e5 : W4.cell? ⟨b5, o5 + j, none⟩ = some (.int .i64 (nth L j)) := by rw [← hm.out]; exact hcL
                  obtain ⟨f1, f2, f3, f4, f5, f6⟩ := cpFacts (s := nth L j) (wt := nth x.weights p) (d := (d : Int)) (m := (NM : Int)) hq.1 hq.2 hwp.1 hwp.2 (by omega) (by omega) (by omega)
                  have hst := hhs.out (nth L j) d
                  rw [Hem.out, ← hM.out] at hst
                  have hNMn : ¬ (NM : Int) = 0 := by omega
                  have hmm := Lib.hid (fun q => show W2.drewN (m + q) = W4.drewN q by rw [← hm.out, World.drewN_drewN])
                  have j0 : (0 : Int) ≤ (j : Int) := by omega
                  have j1 : (j : Int) < (L.length : Int) := by omega
                  have p0 : (0 : Int) ≤ (p : Int) := by omega
                  have p1 : (p : Int) < (x.weights.length : Int) := by omega
                  have wM : wrap64 ((M : Int) + 1) = ((M + 1 : Nat) : Int) := by rw [Int.natCast_add]; exact IntWalk.wrap64_in _ (by omega)
                  have HwM := Lib.hid wM; clear wM
                  by_cases heq : (nth L j + nth x.weights p * d) % (NM : Int) = x.target
                  · rw [if_pos heq] at hst
                    have hb5 : ((nth L j + nth x.weights p * d) % (NM : Int) == x.target) = true := by simp only [beq_iff_eq]; exact heq
                    have hst2 := Lib.hid hst.symm
                    clear hst heq hm
                    generalize nth x.weights p = wt at *
                    generalize hlj2 : nth L j = lj at *
                    clear hlj2
                    go_wp2
                    go_quiet (fail)
                    go_wp2
                    go_roundw
                    case rel => exact ⟨d + 1, _, M + 1, by omega, by go_num, by first | rfl | (rw [HwM.out]) | go_num, hst2, Lib.hid (hmm.out _)⟩
                    case measure => simp [intOf]; omega
                  · rw [if_neg heq] at hst
                    have hb5 : ((nth L j + nth x.weights p * d) % (NM : Int) == x.target) = false := by simp only [beq_eq_false_iff_ne]; exact heq
                    have hst2 := Lib.hid hst.symm
                    clear hst heq hm
                    generalize nth x.weights p = wt at *
                    generalize hlj2 : nth L j = lj at *
                    clear hlj2
                    go_wp2
                    go_quiet (fail)
                    go_wp2
                    go_roundw
                    case rel => exact ⟨d + 1, _, M, by omega, by go_num, rfl, hst2, Lib.hid (hmm.out _)⟩
                    case measure => simp [intOf]; omega
                · obtain ⟨hdn⟩ : Nonempty (d = NB) := ⟨by omega⟩
                  have hM2 : M = hitsN x p (nth L j) NB := by rw [hdn] at hM; exact hM.out
                  clear hdn
                  by_cases h1 : M = 1
                  · have hok2 := Lib.hid (show ∀ i, i < j + 1 → hitsN x p (nth L i) NB = 1 from fun i hi => by
                      rcases Nat.lt_succ_iff_lt_or_eq.1 hi with h | rfl
                      · exact hok.out i h
                      · rw [← hM2, h1])
                    have hb6 : ((M : Int) != 1) = false := by simp [h1]
                    clear hM2 h1
                    go_wp2
                    go_roundw
                    case rel => exact ⟨j + 1, _, by omega, by go_num, hok2, hm⟩
                    case measure => simp [intOf]; omega
                  · have hrf := Lib.hid (show isCP x p = false by
                      rw [hr.out]
                      cases hc : chkPl x p
                      · rfl
                      · exact absurd (hcp.out.1 hc j hlj) (by rw [← hM2]; exact h1))
                    have hb6 : ((M : Int) != 1) = true := by simp; omega
                    have hbw2 := Lib.hid (show Below w.heap.size w W4 by rw [← hm.out]; exact Below.draws hbw.out m)
                    clear hM2 h1
                    go_wp2
                    go_ret
                    exact ⟨ret_bool hrf.out.symm, hbw2.out⟩
            · obtain ⟨hjn⟩ : Nonempty (j = L.length) := ⟨by omega⟩
              have hrt := Lib.hid (show isCP x p = true by rw [hr.out]; rw [hjn] at hok; exact hcp.out.2 hok.out)
              have hbw2 := Lib.hid (show Below w.heap.size w W3 by rw [← hm.out]; exact Below.draws hbw.out m)
              clear hjn
              go_wp2
              go_ret
              exact ⟨ret_bool hrt.out.symm, hbw2.out⟩
end Go.Proofs.Ytphlohplkadenaa
