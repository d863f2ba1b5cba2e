/- A chain of a weighting has no undetected errors of a kind that its weights catch. Nothing here walks. -/
import Derived.Test.YtnpkanlieflbiaaZ1
import Derived.Test.YtnpkanlieflbiaaY6
import Derived.Test.YtnpkanlieflbiaaV7
import Derived.Test.YtnpkanlieflbiaaE15
namespace Go.Proofs.Ytnpkanlieflbiaa
open Go.RowKit
set_option linter.unusedVariables false

theorem dd_at (ws : List (List Int)) : ∀ n k, k < n → ∃ j : Nat, j < (ddTo ws n).length ∧ nth (plTo ws n) k = (j : Int) ∧ nth (ddTo ws n) j = nth ws k
  | 0, k, h => by omega
  | n + 1, k, h => by
    by_cases hk : k < n
    · obtain ⟨j, h1, h2, h3⟩ := dd_at ws n k hk
      have hp : nth (plTo ws (n + 1)) k = nth (plTo ws n) k := by
        show nth (plTo ws n ++ [_]) k = _
        exact nth_append_left (by rw [plTo_len]; exact hk)
      by_cases hm : nth ws n ∈ ddTo ws n
      · rw [hp, ddTo_yes hm]; exact ⟨j, h1, h2, h3⟩
      · rw [hp, ddTo_no hm]
        exact ⟨j, by simp; omega, h2, by rw [nth_append_left h1]; exact h3⟩
    · obtain rfl : k = n := by omega
      by_cases hm : nth ws k ∈ ddTo ws k
      · obtain ⟨ix, hix, _, hp1, hp2⟩ := key_in hm
        obtain ⟨j, hj, e⟩ := List.mem_iff_getElem.1 hm
        have hj2 : nth (ddTo ws k) j = nth ws k := by rw [nth_eq hj]; exact e
        refine ⟨j, by rw [hp1]; exact hj, ?_, by rw [hp1]; exact hj2⟩
        have := (plTo_yes hj hj2).2
        rw [this]
        have h2 := nth_append_last (plTo ws k) ((j : Int))
        rw [plTo_len] at h2
        exact h2
      · obtain ⟨_, hp1, hp2⟩ := key_new hm
        refine ⟨(ddTo ws k).length, by rw [hp1]; simp, ?_, by rw [hp1, nth_append_last]⟩
        rw [hp2]
        have h2 := nth_append_last (plTo ws k) (((ddTo ws k).length : Int))
        rw [plTo_len] at h2
        exact h2
theorem tab_at {m s d : Nat} {l : List Int} (hs : s < m) (hd : d < l.length) : nth (nth (tabOf m l) s) d = ((s : Int) + nth l d) % m := by
  unfold tabOf
  rw [nth_range_map hs, nth_map hd]
section addc
variable {keys : List (List Int)} {f : List Int → List Int} {NB m TG : Nat}
theorem addC_tab {k : Nat} (hk : k < keys.length) : ∃ j : Nat, j < (addC keys f NB m TG).tables.length ∧ nth (addC keys f NB m TG).places k = (j : Int) ∧ nth (addC keys f NB m TG).tables j = tabOf m (f (nth keys k)) := by
  obtain ⟨j, h1, h2, h3⟩ := dd_at keys keys.length k hk
  refine ⟨j, by simpa [addC] using h1, h2, ?_⟩
  show nth ((ddTo keys keys.length).map fun l => tabOf m (f l)) j = _
  rw [nth_map h1, h3]
theorem addC_nxt {k s d : Nat} (hk : k < keys.length) (hs : s < m) (hd : d < (f (nth keys k)).length) : nxt (addC keys f NB m TG) k s d = (((s : Int) + nth (f (nth keys k)) d) % m).toNat := by
  obtain ⟨j, h1, h2, h3⟩ := addC_tab (f := f) (NB := NB) (m := m) (TG := TG) hk
  unfold nxt
  rw [h2, Int.toNat_natCast, h3, tab_at hs hd]
end addc

theorem addsL_at {NB m d : Nat} (w : Int) (h : d < NB) : nth (addsL NB m w) d = w * (d : Int) % m := by unfold addsL; rw [nth_range_map h]
/-- The chain of a right weighting is right. -/
theorem wchn_vc {x : Wgt} (h : VW x) : VC (wchn x) := by
  have hb := h.base
  have hm := h.modulus
  have ht := h.target
  have hl := h.len
  have hkl : (x.weights.map oneL).length = x.weights.length := by simp
  have hd1 := ddTo_len (x.weights.map oneL) (x.weights.map oneL).length
  have hd2 := ddTo_pos (x.weights.map oneL) (x.weights.map oneL).length (by omega)
  have hpl := plTo_len (x.weights.map oneL) (x.weights.map oneL).length
  have eb : (wchn x).base = x.base := by show ((x.base.toNat : Nat) : Int) = x.base; omega
  have es : (wchn x).states = x.modulus := by show ((x.modulus.toNat : Nat) : Int) = x.modulus; omega
  have ep : (wchn x).stop = x.target := by show ((x.target.toNat : Nat) : Int) = x.target; omega
  have et : (wchn x).tables.length = (ddTo (x.weights.map oneL) (x.weights.map oneL).length).length := by simp [wchn, addC]
  have en : (wchn x).places.length = x.weights.length := by show (plTo _ _).length = _; rw [hpl, hkl]
  have hrow : ∀ i, i < (wchn x).tables.length → ∃ w : Int, nth (wchn x).tables i = tabOf x.modulus.toNat (addsL x.base.toNat x.modulus.toNat w) := fun i hi => by
    rw [et] at hi
    refine ⟨nth (nth (ddTo (x.weights.map oneL) (x.weights.map oneL).length) i) 0, ?_⟩
    show nth ((ddTo _ _).map _) i = _
    rw [nth_map hi]
  refine ⟨by rw [eb]; exact hb, by rw [es]; omega, ?_, by rw [ep, es]; exact ht, by rw [et]; omega, by rw [en]; exact hl, by rw [eb, en]; exact h.pow, fun i hi => ?_, fun i s hi hs => ?_, fun i s d hi hs hd => ?_, fun k hk => ?_⟩
  · rw [es]; show 0 ≤ (0 : Int) ∧ (0 : Int) < _; omega
  · obtain ⟨w, e⟩ := hrow i hi
    rw [e, tabOf_len, es]; omega
  · obtain ⟨w, e⟩ := hrow i hi
    rw [es] at hs
    rw [e, eb]
    unfold tabOf
    rw [nth_range_map (by omega), List.length_map, addsL_len]; omega
  · obtain ⟨w, e⟩ := hrow i hi
    rw [es] at hs ⊢
    rw [eb] at hd
    rw [e, tab_at (by omega) (by rw [addsL_len]; omega)]
    have h1 := Int.emod_nonneg ((s : Int) + nth (addsL x.base.toNat x.modulus.toNat w) d) (show (x.modulus.toNat : Int) ≠ 0 by omega)
    have h2 := Int.emod_lt_of_pos ((s : Int) + nth (addsL x.base.toNat x.modulus.toNat w) d) (show (0 : Int) < (x.modulus.toNat : Int) by omega)
    omega
  · rw [en] at hk
    obtain ⟨j, h1, h2, _⟩ := addC_tab (keys := x.weights.map oneL) (f := fun l => addsL x.base.toNat x.modulus.toNat (nth l 0)) (NB := x.base.toNat) (m := x.modulus.toNat) (TG := x.target.toNat) (k := k) (by rw [hkl]; exact hk)
    have h2' : nth (wchn x).places k = (j : Int) := h2
    have h1' : j < (wchn x).tables.length := h1
    rw [h2']; omega
section wch
variable {x : Wgt} (h : VW x)
theorem wchn_len : (wchn x).n = x.weights.length := by show (plTo _ _).length = _; rw [plTo_len]; simp
theorem wchn_nxt (h : VW x) {k s d : Nat} (hk : k < x.weights.length) (hs : s < x.modulus.toNat) (hd : d < x.base.toNat) : nxt (wchn x) k s d = (((s : Int) + nth x.weights k * (d : Int)) % x.modulus).toNat := by
  have hm := h.modulus
  have e := addC_nxt (keys := x.weights.map oneL) (f := fun l => addsL x.base.toNat x.modulus.toNat (nth l 0)) (NB := x.base.toNat) (m := x.modulus.toNat) (TG := x.target.toNat) (k := k) (s := s) (d := d) (by simpa using hk) hs (by rw [addsL_len]; exact hd)
  have e2 : nth (nth (x.weights.map oneL) k) 0 = nth x.weights k := by rw [nth_map hk]; rfl
  simp only [e2] at e
  rw [addsL_at _ hd] at e
  have e3 : ((x.modulus.toNat : Nat) : Int) = x.modulus := by omega
  rw [e3, Int.add_emod_emod] at e
  exact e
/-- What digits from a place on add. -/
def dot (ws : List Int) : Nat → List Int → Int
  | _, [] => 0
  | k, d :: ds => nth ws k * d + dot ws (k + 1) ds
theorem wchn_b (h : VW x) : (wchn x).b = x.base.toNat := Int.toNat_natCast _
theorem wchn_S (h : VW x) : (wchn x).S = x.modulus.toNat := Int.toNat_natCast _
theorem wchn_run (h : VW x) : ∀ (ds : List Int) (k s : Nat), Digs (wchn x).b ds → k + ds.length ≤ x.weights.length → s < x.modulus.toNat → (runN (wchn x) k s ds : Int) = ((s : Int) + dot x.weights k ds) % x.modulus
  | [], k, s, _, _, hs => by
    show (s : Int) = ((s : Int) + 0) % x.modulus
    have hm := h.modulus
    rw [Int.add_zero, Int.emod_eq_of_lt (by omega) (by omega)]
  | d :: ds, k, s, hd, hk, hs => by
    have hm := h.modulus
    simp only [List.length_cons] at hk
    have h0 := hd d (by simp)
    rw [wchn_b h] at h0
    have e1 := wchn_nxt h (k := k) (s := s) (d := d.toNat) (by omega) hs (by omega)
    have e2 : ((d.toNat : Nat) : Int) = d := by omega
    rw [e2] at e1
    have g1 := Int.emod_nonneg ((s : Int) + nth x.weights k * d) (show x.modulus ≠ 0 by omega)
    have g2 := Int.emod_lt_of_pos ((s : Int) + nth x.weights k * d) (show 0 < x.modulus by omega)
    have ih := wchn_run h ds (k + 1) (nxt (wchn x) k s d.toNat) (fun z hz => hd z (by simp [hz])) (by omega) (by rw [e1]; omega)
    show (runN (wchn x) (k + 1) (nxt (wchn x) k s d.toNat) ds : Int) = _
    rw [ih, e1, Int.toNat_of_nonneg g1, Int.emod_add_emod]
    show ((s : Int) + nth x.weights k * d + dot x.weights (k + 1) ds) % x.modulus = ((s : Int) + (nth x.weights k * d + dot x.weights (k + 1) ds)) % x.modulus
    rw [Int.add_assoc]
/-- From two states the same digits lead to one only if they are one. -/
theorem wchn_inj (h : VW x) {u : List Int} {k A B r : Nat} (hA : Leads1 (wchn x) r k A u) (hB : Leads1 (wchn x) r k B u) (hk : k + r ≤ x.weights.length) (ha : A < x.modulus.toNat) (hb : B < x.modulus.toNat) : A = B := by
  have hm := h.modulus
  have e1 := wchn_run h u k A hA.dig (by rw [hA.len]; exact hk) ha
  have e2 := wchn_run h u k B hB.dig (by rw [hB.len]; exact hk) hb
  have e3 : (runN (wchn x) k A u : Int) = (runN (wchn x) k B u : Int) := by rw [hA.run, hB.run]
  rw [e1, e2] at e3
  have h2 : ((A : Int) - B) % x.modulus = 0 := by
    have := Int.emod_eq_emod_iff_emod_sub_eq_zero.1 e3
    rw [show (A : Int) + dot x.weights k u - ((B : Int) + dot x.weights k u) = (A : Int) - B by omega] at this
    exact this
  obtain ⟨c, hc⟩ := Int.dvd_of_emod_eq_zero h2
  rcases Int.lt_trichotomy c 0 with h3 | h3 | h3
  · have : x.modulus * c ≤ x.modulus * (-1) := Int.mul_le_mul_of_nonneg_left (by omega) (by omega)
    omega
  · rw [h3] at hc; omega
  · have : x.modulus * 1 ≤ x.modulus * c := Int.mul_le_mul_of_nonneg_left (by omega) (by omega)
    omega
end wch
/-- What an error of a kind changes. -/
theorem wrong_dot {kind : Int} (hk : 0 ≤ kind ∧ kind ≤ 4) {b : Nat} (ws : List Int) (p : Nat) {q : List Int × List Int} (h : q ∈ wrongP kind b) :
    ∃ a e : Nat, a < b ∧ e < b ∧ a ≠ e ∧ Digs b q.1 ∧ Digs b q.2 ∧ q.1.length = errLen kind ∧ q.2.length = errLen kind ∧ dot ws p q.1 - dot ws p q.2 = byW kind (nth ws p) (nth ws (p + errLen kind - 1)) * ((a : Int) - e) := by
  have h0 : q ∈ wrongS kind b := by rw [wrongS_eq (by omega)]; exact h
  unfold wrongS at h0
  simp only [List.mem_flatMap, List.mem_range] at h0
  obtain ⟨a, ha, c, hc, h1⟩ := h0
  have hk5 : kind = 0 ∨ kind = 1 ∨ kind = 2 ∨ kind = 3 ∨ kind = 4 := by omega
  rcases hk5 with rfl | rfl | rfl | rfl | rfl
  · rw [cellS_0] at h1
    by_cases e : a ≠ c
    · rw [if_pos e] at h1
      obtain rfl : q = ([(a : Int)], [(c : Int)]) := by simpa using h1
      refine ⟨a, c, ha, hc, e, fun d hd => by simp at hd; omega, fun d hd => by simp at hd; omega, rfl, rfl, ?_⟩
      show nth ws p * (a : Int) + 0 - (nth ws p * (c : Int) + 0) = nth ws p * ((a : Int) - c)
      rw [Int.mul_sub]; omega
    · rw [if_neg e] at h1; simp at h1
  · rw [cellS_1] at h1
    by_cases e : a ≠ c
    · rw [if_pos e] at h1
      obtain rfl : q = ([(a : Int), (c : Int)], [(c : Int), (a : Int)]) := by simpa using h1
      refine ⟨a, c, ha, hc, e, fun d hd => by simp at hd; omega, fun d hd => by simp at hd; omega, rfl, rfl, ?_⟩
      show nth ws p * (a : Int) + (nth ws (p + 1) * (c : Int) + 0) - (nth ws p * (c : Int) + (nth ws (p + 1) * (a : Int) + 0)) = (nth ws p - nth ws (p + 1)) * ((a : Int) - c)
      rw [Int.sub_mul, Int.mul_sub, Int.mul_sub]; omega
    · rw [if_neg e] at h1; simp at h1
  · rw [cellS_2] at h1
    unfold tri at h1
    simp only [List.mem_flatMap, List.mem_range] at h1
    obtain ⟨e, he, h1⟩ := h1
    by_cases hae : a = e
    · rw [if_pos hae] at h1; simp at h1
    · rw [if_neg hae] at h1
      obtain rfl : q = ([(a : Int), (c : Int), (e : Int)], [(e : Int), (c : Int), (a : Int)]) := by simpa using h1
      refine ⟨a, e, ha, he, hae, fun d hd => by simp at hd; omega, fun d hd => by simp at hd; omega, rfl, rfl, ?_⟩
      show nth ws p * (a : Int) + (nth ws (p + 1) * (c : Int) + (nth ws (p + 1 + 1) * (e : Int) + 0)) - (nth ws p * (e : Int) + (nth ws (p + 1) * (c : Int) + (nth ws (p + 1 + 1) * (a : Int) + 0))) = (nth ws p - nth ws (p + 1 + 1)) * ((a : Int) - e)
      rw [Int.sub_mul, Int.mul_sub, Int.mul_sub]; omega
  · rw [cellS_3] at h1
    by_cases e : a ≠ c
    · rw [if_pos e] at h1
      obtain rfl : q = ([(a : Int), (a : Int)], [(c : Int), (c : Int)]) := by simpa using h1
      refine ⟨a, c, ha, hc, e, fun d hd => by simp at hd; omega, fun d hd => by simp at hd; omega, rfl, rfl, ?_⟩
      show nth ws p * (a : Int) + (nth ws (p + 1) * (a : Int) + 0) - (nth ws p * (c : Int) + (nth ws (p + 1) * (c : Int) + 0)) = (nth ws p + nth ws (p + 1)) * ((a : Int) - c)
      rw [Int.add_mul, Int.mul_sub, Int.mul_sub]; omega
    · rw [if_neg e] at h1; simp at h1
  · rw [cellS_4] at h1
    unfold tri at h1
    simp only [List.mem_flatMap, List.mem_range] at h1
    obtain ⟨e, he, h1⟩ := h1
    by_cases hae : a = e
    · rw [if_pos hae] at h1; simp at h1
    · rw [if_neg hae] at h1
      obtain rfl : q = ([(a : Int), (c : Int), (a : Int)], [(e : Int), (c : Int), (e : Int)]) := by simpa using h1
      refine ⟨a, e, ha, he, hae, fun d hd => by simp at hd; omega, fun d hd => by simp at hd; omega, rfl, rfl, ?_⟩
      show nth ws p * (a : Int) + (nth ws (p + 1) * (c : Int) + (nth ws (p + 1 + 1) * (a : Int) + 0)) - (nth ws p * (e : Int) + (nth ws (p + 1) * (c : Int) + (nth ws (p + 1 + 1) * (e : Int) + 0))) = (nth ws p + nth ws (p + 1 + 1)) * ((a : Int) - e)
      rw [Int.add_mul, Int.mul_sub, Int.mul_sub]; omega
/-- Where no pair is unseen, no error goes by. -/
theorem wchn_bad {x : Wgt} (h : VW x) {kind : Int} (hk : 0 ≤ kind ∧ kind ≤ 4) {p : Nat} (hp : p + errLen kind ≤ x.weights.length) (hu : unsN x kind p = 0) : badAt (wchn x) kind p = 0 := by
  have hm := h.modulus
  rcases Nat.eq_zero_or_pos (badAt (wchn x) kind p) with e | e
  · exact e
  · exfalso
    obtain ⟨q, hq, h1⟩ := sumL_pos.1 e
    obtain ⟨s, hs, h1⟩ := sumN_pos.1 h1
    unfold bad1 at h1
    rw [wchn_S h] at hs
    obtain ⟨a, c, ha, hc, hac, d1, d2, l1, l2, hdot⟩ := wrong_dot hk x.weights p hq
    obtain ⟨u, u1, u2⟩ := bothV_pos.1 (Nat.pos_of_ne_zero (by intro e; rw [e] at h1; simp at h1))
    have r1 := (wchn_vc h).runLt (k := p) (s := s) d1 (by rw [wchn_len, l1]; exact hp) (by rw [wchn_S h]; exact hs)
    have r2 := (wchn_vc h).runLt (k := p) (s := s) d2 (by rw [wchn_len, l2]; exact hp) (by rw [wchn_S h]; exact hs)
    rw [wchn_S h] at r1 r2
    have hkr : p + errLen kind + ((wchn x).n - (p + errLen kind)) ≤ x.weights.length := by rw [wchn_len]; omega
    have heq := wchn_inj h u1 u2 hkr r1 r2
    have e1 := wchn_run h q.1 p s d1 (by rw [l1]; exact hp) hs
    have e2 := wchn_run h q.2 p s d2 (by rw [l2]; exact hp) hs
    rw [heq, e2] at e1
    have e3 := Int.emod_eq_emod_iff_emod_sub_eq_zero.1 e1.symm
    rw [show (s : Int) + dot x.weights p q.1 - ((s : Int) + dot x.weights p q.2) = dot x.weights p q.1 - dot x.weights p q.2 by omega, hdot] at e3
    unfold unsN at hu
    rw [if_neg (by omega), ← pairs_diff] at hu
    rw [wchn_b h] at ha hc
    have h5 : pairsN x.modulus (byW kind (nth x.weights p) (nth x.weights (p + errLen kind - 1))) x.base.toNat > 0 := by
      unfold pairsN
      refine sumN_pos.2 ⟨a, ha, sumN_pos.2 ⟨c, hc, ?_⟩⟩
      unfold zeroAt b2n
      rw [e3]; simp [hac]
    omega
theorem wchn_caught {x : Wgt} (h : VW x) {kind : Int} (hk : 0 ≤ kind ∧ kind ≤ 4) (hc : ∀ p, p + errLen kind ≤ x.weights.length → unsN x kind p = 0) : caught (wchn x) kind = true := by
  unfold caught uiOk
  have h1 : kindOk kind (wchn x).base = true := by
    unfold kindOk
    rw [inB_true.2 (by omega)]
    simp; omega
  rw [vC_iff.2 (wchn_vc h), h1]
  simp only [Bool.and_self, Bool.true_and, decide_eq_true_eq]
  refine sumN_zeros fun p hp => wchn_bad h hk ?_ (hc p ?_)
  all_goals
    have h2 : nPl (wchn x) kind = x.weights.length + 1 - errLen kind := by unfold nPl; rw [show (wchn x).places.length = x.weights.length from wchn_len]
    rw [h2] at hp
    omega
end Go.Proofs.Ytnpkanlieflbiaa
