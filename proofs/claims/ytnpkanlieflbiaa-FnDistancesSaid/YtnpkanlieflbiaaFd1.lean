/- For FnDistances, plainly: the words that the ranks tell are all checked words, each once. Nothing here walks. -/
import Derived.Test.YtnpkanlieflbiaaC4
import Derived.Test.YtnpkanlieflbiaaZ1
namespace Go.Proofs.Ytnpkanlieflbiaa
open Go.RowKit
set_option linter.unusedVariables false

theorem pickD_at (f : Nat → Nat) : ∀ n d r j r', j < n → r' < f (d + j) → r = restS f d j + r' → pickD f n d r = (d + j, r')
  | 0, d, r, j, r', h, _, _ => by omega
  | n + 1, d, r, 0, r', _, h2, h3 => by
    have e : restS f d 0 = 0 := rfl
    rw [e, Nat.zero_add] at h3
    rw [Nat.add_zero] at h2
    rw [h3, pickD, if_pos h2]
    rfl
  | n + 1, d, r, j + 1, r', h1, h2, h3 => by
    rw [restS_succ] at h3
    rw [pickD, if_neg (by omega), pickD_at f n (d + 1) (r - f d) j r' (by omega) (by rw [show d + 1 + j = d + (j + 1) by omega]; exact h2) (by omega)]
    rw [show d + 1 + j = d + (j + 1) by omega]
theorem pickD_inv (f : Nat → Nat) : ∀ n d r, r < restS f d n → ∃ j r', j < n ∧ r' < f (d + j) ∧ r = restS f d j + r'
  | 0, d, r, h => by simp [restS, sumN] at h
  | n + 1, d, r, h => by
    by_cases h1 : r < f d
    · exact ⟨0, r, by omega, h1, by have e : restS f d 0 = 0 := rfl; omega⟩
    · rw [restS_succ] at h
      obtain ⟨j, r', a, b, c⟩ := pickD_inv f n (d + 1) (r - f d) (by omega)
      refine ⟨j + 1, r', by omega, by rw [show d + (j + 1) = d + 1 + j by omega]; exact b, ?_⟩
      rw [restS_succ]; omega
/-- From a state at a place on: the word of a rank. -/
def wordR (x : Chn) : Nat → Nat → Nat → Nat → List Int
  | 0, _, _, _ => []
  | r + 1, k, s, R => ((pickD (fun d => endsR x r (k + 1) (nxt x k s d)) x.b 0 R).1 : Int) :: wordR x r (k + 1) (nxt x k s (pickD (fun d => endsR x r (k + 1) (nxt x k s d)) x.b 0 R).1) (pickD (fun d => endsR x r (k + 1) (nxt x k s d)) x.b 0 R).2
theorem wordR_succ (x : Chn) (r k s R : Nat) : wordR x (r + 1) k s R = ((pickD (fun d => endsR x r (k + 1) (nxt x k s d)) x.b 0 R).1 : Int) :: wordR x r (k + 1) (nxt x k s (pickD (fun d => endsR x r (k + 1) (nxt x k s d)) x.b 0 R).1) (pickD (fun d => endsR x r (k + 1) (nxt x k s d)) x.b 0 R).2 := rfl
theorem wordTo_succ (x : Chn) (R k : Nat) : wordTo x R (k + 1) = ((wordTo x R k).1 ++ [((pickD (behind x k (wordTo x R k).2.1) x.b 0 (wordTo x R k).2.2).1 : Int)], nxt x k (wordTo x R k).2.1 (pickD (behind x k (wordTo x R k).2.1) x.b 0 (wordTo x R k).2.2).1,
      (pickD (behind x k (wordTo x R k).2.1) x.b 0 (wordTo x R k).2.2).2) := rfl
theorem behind_eq {x : Chn} {r k s : Nat} (h : k + (r + 1) = x.n) : (behind x k s) = fun d => endsR x r (k + 1) (nxt x k s d) := by
  funext d
  unfold behind endsV
  rw [show x.n - (k + 1) = r by omega]
theorem wordTo_run (x : Chn) (R : Nat) : ∀ r k, k + r = x.n → wordG x R = (wordTo x R k).1 ++ wordR x r k (wordTo x R k).2.1 (wordTo x R k).2.2
  | 0, k, h => by
    obtain rfl : k = x.n := by omega
    simp [wordR, wordG]
  | r + 1, k, h => by
    rw [wordTo_run x R r (k + 1) (by omega)]
    rw [wordTo_succ, wordR_succ]
    simp only [behind_eq h, List.append_assoc, List.singleton_append]
theorem wordG_eq (x : Chn) (R : Nat) : wordG x R = wordR x x.n 0 x.start.toNat R := by
  rw [wordTo_run x R x.n 0 (by omega)]; rfl
theorem restS_all (x : Chn) (r k s : Nat) : restS (fun d => endsR x r (k + 1) (nxt x k s d)) 0 x.b = endsR x (r + 1) k s := by
  unfold restS
  simp only [Nat.zero_add]
  rfl
theorem restS_part {f : Nat → Nat} {j n : Nat} (h : j < n) : restS f 0 j + f j ≤ restS f 0 n := by
  have := sumN_part (n := n) (k := j + 1) (fun i => f (0 + i)) (by omega)
  rw [sumN_succ] at this
  simp only [Nat.zero_add] at this
  unfold restS
  simp only [Nat.zero_add]
  exact this
theorem wordR_one {x : Chn} {r k s R j R' : Nat} (hj : j < x.b) (hR : R' < endsR x r (k + 1) (nxt x k s j)) (e : R = restS (fun d => endsR x r (k + 1) (nxt x k s d)) 0 j + R') :
    wordR x (r + 1) k s R = (j : Int) :: wordR x r (k + 1) (nxt x k s j) R' := by
  have h := pickD_at (fun d => endsR x r (k + 1) (nxt x k s d)) x.b 0 R j R' hj (by simpa using hR) e
  rw [Nat.zero_add] at h
  rw [wordR_succ, h]
theorem wordR_in {x : Chn} : ∀ r k s R, R < endsR x r k s → Leads1 x r k s (wordR x r k s R)
  | 0, k, s, R, h => by
    unfold endsR at h
    split at h
    · rename_i e
      exact ⟨rfl, by simp [Digs, wordR], by simpa [runN, wordR] using e⟩
    · omega
  | r + 1, k, s, R, h => by
    rw [← restS_all] at h
    obtain ⟨j, R', hj, hR', e⟩ := pickD_inv _ _ _ _ h
    rw [Nat.zero_add] at hR'
    rw [wordR_one hj hR' e]
    exact Leads1.cons.2 ⟨⟨by omega, by omega⟩, wordR_in r (k + 1) _ R' hR'⟩
theorem wordR_onto {x : Chn} : ∀ r k s u, Leads1 x r k s u → ∃ R, R < endsR x r k s ∧ wordR x r k s R = u
  | 0, k, s, u, h => by
    have hl := List.length_eq_zero_iff.1 h.len
    subst hl
    have hr := h.run
    simp only [runN] at hr
    exact ⟨0, by unfold endsR; rw [if_pos hr]; omega, rfl⟩
  | r + 1, k, s, u, h => by
    cases u with
    | nil => have := h.len; simp at this
    | cons a u =>
      obtain ⟨ha, hu⟩ := Leads1.cons.1 h
      obtain ⟨R', hR', e⟩ := wordR_onto r (k + 1) _ u hu
      have hj : a.toNat < x.b := by omega
      refine ⟨restS (fun d => endsR x r (k + 1) (nxt x k s d)) 0 a.toNat + R', ?_, ?_⟩
      · rw [← restS_all]
        have := restS_part (f := fun d => endsR x r (k + 1) (nxt x k s d)) hj
        omega
      · rw [wordR_one hj hR' rfl, e]
        congr 1; omega
theorem wordR_inj {x : Chn} : ∀ r k s R Q, R < endsR x r k s → Q < endsR x r k s → wordR x r k s R = wordR x r k s Q → R = Q
  | 0, k, s, R, Q, h1, h2, _ => by
    unfold endsR at h1 h2
    split at h1 <;> simp_all
  | r + 1, k, s, R, Q, h1, h2, h => by
    rw [← restS_all] at h1 h2
    obtain ⟨j, R', hj, hR', e⟩ := pickD_inv _ _ _ _ h1
    obtain ⟨i, Q', hi, hQ', e'⟩ := pickD_inv _ _ _ _ h2
    rw [Nat.zero_add] at hR' hQ'
    rw [wordR_one hj hR' e, wordR_one hi hQ' e'] at h
    simp only [List.cons.injEq] at h
    obtain rfl : j = i := by omega
    have := wordR_inj r (k + 1) _ R' Q' hR' hQ' h.2
    rw [e, e', this]
/-- The number of checked words. -/
def cntW (x : Chn) : Nat := endsV x 0 x.start.toNat
theorem cntW_eq (x : Chn) : cntW x = endsR x x.n 0 x.start.toNat := by simp [cntW, endsV]
theorem wordG_in {x : Chn} {R : Nat} (h : R < cntW x) : Ckd x (wordG x R) := by
  rw [wordG_eq]; rw [cntW_eq] at h; exact wordR_in _ _ _ _ h
theorem wordG_onto {x : Chn} {u : List Int} (h : Ckd x u) : ∃ R, R < cntW x ∧ wordG x R = u := by
  obtain ⟨R, a, b⟩ := wordR_onto _ _ _ _ h
  exact ⟨R, by rw [cntW_eq]; exact a, by rw [wordG_eq]; exact b⟩
theorem wordG_inj {x : Chn} {R Q : Nat} (h : R < cntW x) (hQ : Q < cntW x) (e : wordG x R = wordG x Q) : R = Q := by
  rw [wordG_eq, wordG_eq] at e; rw [cntW_eq] at h hQ; exact wordR_inj _ _ _ _ _ h hQ e
/-- What the law's three loops find: the pairs before i, and of i those before k. -/
def bestP (x : Chn) (i k : Nat) : Nat := min (minN 99 i fun a => minN 99 a fun b => ham (wordG x a) (wordG x b)) (minN 99 k fun b => ham (wordG x i) (wordG x b))
theorem bestP_start (x : Chn) : bestP x 0 0 = 99 := rfl
theorem bestP_next (x : Chn) (i : Nat) : bestP x i i = bestP x (i + 1) 0 := by
  unfold bestP
  rw [minN_succ, minN_zero]
  have := minN_cap 99 i fun a => minN 99 a fun b => ham (wordG x a) (wordG x b)
  omega
theorem bestP_succ (x : Chn) (i k : Nat) : bestP x i (k + 1) = min (bestP x i k) (ham (wordG x i) (wordG x k)) := by
  unfold bestP
  rw [minN_succ]
  omega
theorem bestP_le (x : Chn) (i k : Nat) : bestP x i k ≤ 99 := by
  unfold bestP
  have := minN_cap 99 k fun b => ham (wordG x i) (wordG x b)
  omega
theorem two_iff {x : Chn} (hn : x.n ≤ 20) : distI x < farN ↔ 1 < cntW x := by
  rw [distI_two hn]
  constructor
  · rintro ⟨u, v, hu, hv, hne⟩
    obtain ⟨R, hR, e⟩ := wordG_onto hu
    obtain ⟨Q, hQ, e'⟩ := wordG_onto hv
    have : R ≠ Q := fun h => hne (by rw [← e, ← e', h])
    omega
  · intro h
    exact ⟨_, _, wordG_in (R := 0) (by omega), wordG_in (R := 1) h, fun e => by
      have := wordG_inj (by omega) h e
      omega⟩
theorem bestP_dist {x : Chn} (hn : x.n ≤ 20) (h : 1 < cntW x) : bestP x (cntW x) 0 = distI x := by
  have hd := (two_iff hn).2 h
  have hi := distI_is hd
  have hle := hi.le
  refine Nat.le_antisymm ?_ ?_
  · obtain ⟨⟨u, v, hu, hv, hne, e⟩, _⟩ := hi
    obtain ⟨R, hR, e1⟩ := wordG_onto hu
    obtain ⟨Q, hQ, e2⟩ := wordG_onto hv
    have hRQ : R ≠ Q := fun h => hne (by rw [← e1, ← e2, h])
    have hs : ham v u = ham u v := by
      clear hne e e1 e2 hu hv
      induction u generalizing v with
      | nil => cases v <;> rfl
      | cons a u ih => cases v with
        | nil => rfl
        | cons b v => simp only [ham, ih v, eq_comm]
    unfold bestP
    rcases Nat.lt_or_ge Q R with h1 | h1
    · refine Nat.le_trans (Nat.min_le_left _ _) (Nat.le_trans (minN_le hR) (Nat.le_trans (minN_le h1) ?_))
      show ham (wordG x R) (wordG x Q) ≤ _
      rw [e1, e2, e]; exact Nat.le_refl _
    · refine Nat.le_trans (Nat.min_le_left _ _) (Nat.le_trans (minN_le hQ) (Nat.le_trans (minN_le (show R < Q by omega)) ?_))
      show ham (wordG x Q) (wordG x R) ≤ _
      rw [e1, e2, hs, e]; exact Nat.le_refl _
  · unfold bestP
    rw [minN_zero]
    have h99 : distI x ≤ 99 := by omega
    have : distI x ≤ minN 99 (cntW x) fun a => minN 99 a fun b => ham (wordG x a) (wordG x b) := by
      rcases minN_get 99 (cntW x) fun a => minN 99 a fun b => ham (wordG x a) (wordG x b) with h1 | ⟨a, ha, h1⟩
      · rw [h1]; exact h99
      · rw [h1]
        rcases minN_get 99 a fun b => ham (wordG x a) (wordG x b) with h2 | ⟨b, hb, h2⟩
        · rw [h2]; exact h99
        · rw [h2]
          exact hi.2 _ _ (wordG_in ha) (wordG_in (by omega)) fun e => by
            have := wordG_inj ha (by omega) e
            omega
    omega
/-- Single errors are caught exactly if the least distance is more than one, or there are less than two words. -/
theorem caught_iff {x : Chn} (hv : VC x) (hn : x.n ≤ 20) : (∀ p, p < x.n → badAt x 0 p = 0) ↔ ¬ distI x < farN ∨ 1 < distI x := by
  have hb := bad0_pos hv
  constructor
  · intro h
    by_cases h1 : distI x < farN
    · right
      obtain ⟨⟨u, v, hu, hv', hne, e⟩, _⟩ := distI_is h1
      rcases Nat.lt_or_ge 1 (distI x) with h2 | h2
      · exact h2
      · exfalso
        have h3 : ham u v ≠ 0 := fun h0 => hne (ham_zero (by rw [hu.len, hv'.len]) h0)
        obtain ⟨p, hp, hp2⟩ := hb.2 ⟨u, v, hu, hv', by omega⟩
        have := h p hp
        omega
    · exact .inl h1
  · intro h p hp
    rcases Nat.eq_zero_or_pos (badAt x 0 p) with h1 | h1
    · exact h1
    · exfalso
      obtain ⟨u, v, hu, hv', e⟩ := hb.1 ⟨p, hp, h1⟩
      have hne : u ≠ v := fun h => by rw [h, ham_self] at e; omega
      have htw := (distI_two hn).2 ⟨u, v, hu, hv', hne⟩
      have := (distI_is htw).2 u v hu hv' hne
      rcases h with h | h
      · exact h htw
      · omega
end Go.Proofs.Ytnpkanlieflbiaa
