/- The least distance of two different checked words, plainly: what both searches tell. Nothing here walks. -/
import Derived.Test.YtnpkanlieflbiaaC2
namespace Go.Proofs.Ytnpkanlieflbiaa
open Go.RowKit
set_option linter.unusedVariables false

/-! ### Least numbers -/
def minN (c n : Nat) (f : Nat → Nat) : Nat := (List.range n).foldl (fun a i => min a (f i)) c
theorem minN_zero (c : Nat) (f : Nat → Nat) : minN c 0 f = c := rfl
theorem minN_succ (c n : Nat) (f : Nat → Nat) : minN c (n + 1) f = min (minN c n f) (f n) := by simp [minN, List.range_succ]
theorem minN_cap (c n : Nat) (f : Nat → Nat) : minN c n f ≤ c := by
  induction n with
  | zero => exact Nat.le_refl _
  | succ n ih => rw [minN_succ]; omega
theorem minN_le {c n : Nat} {f : Nat → Nat} {i : Nat} (h : i < n) : minN c n f ≤ f i := by
  induction n with
  | zero => omega
  | succ n ih =>
    rw [minN_succ]
    by_cases e : i = n
    · subst e; omega
    · have := ih (by omega); omega
theorem minN_get (c n : Nat) (f : Nat → Nat) : minN c n f = c ∨ ∃ i, i < n ∧ minN c n f = f i := by
  induction n with
  | zero => exact .inl rfl
  | succ n ih =>
    rw [minN_succ]
    rcases Nat.le_total (minN c n f) (f n) with h | h
    · rw [Nat.min_eq_left h]
      rcases ih with h1 | ⟨i, hi, h1⟩
      · exact .inl h1
      · exact .inr ⟨i, by omega, h1⟩
    · rw [Nat.min_eq_right h]; exact .inr ⟨n, by omega, rfl⟩
theorem minN_congr {c n : Nat} {f g : Nat → Nat} (h : ∀ i, i < n → f i = g i) : minN c n f = minN c n g := by
  induction n with
  | zero => rfl
  | succ n ih => rw [minN_succ, minN_succ, ih fun i hi => h i (by omega), h n (by omega)]

/-! ### Distances -/
def ham : List Int → List Int → Nat
  | a :: u, b :: v => ham u v + if a = b then 0 else 1
  | _, _ => 0
theorem ham_le (u v : List Int) : ham u v ≤ u.length := by
  induction u generalizing v with
  | nil => simp [ham]
  | cons a u ih =>
    cases v with
    | nil => simp [ham]
    | cons b v =>
      have := ih v
      simp only [ham, List.length_cons]
      split <;> omega
theorem ham_zero {u v : List Int} (hl : u.length = v.length) (h : ham u v = 0) : u = v := by
  induction u generalizing v with
  | nil => cases v with
    | nil => rfl
    | cons b v => simp at hl
  | cons a u ih =>
    cases v with
    | nil => simp at hl
    | cons b v =>
      simp only [ham] at h
      by_cases e : a = b
      · subst e
        rw [ih (by simpa using hl) (by omega)]
      · rw [if_neg e] at h; omega
theorem ham_self (u : List Int) : ham u u = 0 := by
  induction u with
  | nil => rfl
  | cons a u ih => simp [ham, ih]
theorem ham_snoc {u v : List Int} (hl : u.length = v.length) (a b : Int) : ham (u ++ [a]) (v ++ [b]) = ham u v + if a = b then 0 else 1 := by
  induction u generalizing v with
  | nil => cases v with
    | nil => simp [ham]
    | cons b v => simp at hl
  | cons c u ih =>
    cases v with
    | nil => simp at hl
    | cons d v =>
      simp only [List.cons_append, ham]
      rw [ih (by simpa using hl)]
      omega
theorem ham_append {u v u' v' : List Int} (hl : u.length = v.length) : ham (u ++ u') (v ++ v') = ham u v + ham u' v' := by
  induction u generalizing v with
  | nil => cases v with
    | nil => simp [ham]
    | cons b v => simp at hl
  | cons c u ih =>
    cases v with
    | nil => simp at hl
    | cons d v =>
      simp only [List.cons_append, ham]
      rw [ih (by simpa using hl)]
      omega

/-- Words of r digits that lead from a state at a place to the end. -/
structure Leads1 (x : Chn) (r k s : Nat) (u : List Int) : Prop where
  len : u.length = r
  dig : Digs x.b u
  run : runN x k s u = x.stop.toNat
theorem Leads1.cons {x : Chn} {r k s : Nat} {a : Int} {u : List Int} : Leads1 x (r + 1) k s (a :: u) ↔ (0 ≤ a ∧ a < x.b) ∧ Leads1 x r (k + 1) (nxt x k s a.toNat) u := by
  constructor
  · rintro ⟨h1, h2, h3⟩
    exact ⟨h2 a (by simp), ⟨by simpa using h1, fun d hd => h2 d (by simp [hd]), h3⟩⟩
  · rintro ⟨h0, h1, h2, h3⟩
    refine ⟨by simp [h1], fun d hd => ?_, h3⟩
    rcases List.mem_cons.1 hd with rfl | h
    · exact h0
    · exact h2 d h
/-- A checked word. -/
abbrev Ckd (x : Chn) (u : List Int) : Prop := Leads1 x x.n 0 x.start.toNat u

abbrev farN : Nat := 1099511627776
/-- Backwards: the least distance from two states on; of two different words from one state on. -/
def mostR (x : Chn) : Nat → Nat → Nat → Nat → Nat
  | 0, _, s, t => if s = x.stop.toNat ∧ t = x.stop.toNat then 0 else farN
  | r + 1, k, s, t => minN farN x.b fun d => minN farN x.b fun e => mostR x r (k + 1) (nxt x k s d) (nxt x k t e) + if d = e then 0 else 1
def sameR (x : Chn) : Nat → Nat → Nat → Nat
  | 0, _, _ => farN
  | r + 1, k, s => minN farN x.b fun d => min (sameR x r (k + 1) (nxt x k s d)) (minN farN d fun e => mostR x r (k + 1) (nxt x k s d) (nxt x k s e) + 1)
theorem mostR_cap (x : Chn) (r k s t : Nat) : mostR x r k s t ≤ farN := by
  cases r with
  | zero => unfold mostR; split <;> omega
  | succ r => unfold mostR; exact minN_cap _ _ _
theorem sameR_cap (x : Chn) (r k s : Nat) : sameR x r k s ≤ farN := by
  cases r with
  | zero => unfold sameR; omega
  | succ r => unfold sameR; exact minN_cap _ _ _
theorem mostR_le {x : Chn} {r k s t : Nat} {u v : List Int} (hu : Leads1 x r k s u) (hv : Leads1 x r k t v) : mostR x r k s t ≤ ham u v := by
  induction r generalizing k s t u v with
  | zero =>
    have h1 : u = [] := List.length_eq_zero_iff.1 hu.len
    have h2 : v = [] := List.length_eq_zero_iff.1 hv.len
    subst h1 h2
    have h3 := hu.run
    have h4 := hv.run
    simp only [runN] at h3 h4
    simp [mostR, h3, h4]
  | succ r ih =>
    cases u with
    | nil => have := hu.len; simp at this
    | cons a u =>
      cases v with
      | nil => have := hv.len; simp at this
      | cons b v =>
        obtain ⟨ha, hu⟩ := Leads1.cons.1 hu
        obtain ⟨hb, hv⟩ := Leads1.cons.1 hv
        have h := ih hu hv
        unfold mostR
        refine Nat.le_trans (minN_le (i := a.toNat) (by omega)) (Nat.le_trans (minN_le (i := b.toNat) (by omega)) ?_)
        show _ ≤ ham u v + _
        by_cases e : a = b
        · rw [if_pos (by rw [e]), if_pos e]; omega
        · rw [if_neg (by omega), if_neg e]; omega
theorem mostR_get {x : Chn} {r k s t : Nat} (h : mostR x r k s t < farN) : ∃ u v, Leads1 x r k s u ∧ Leads1 x r k t v ∧ ham u v = mostR x r k s t := by
  induction r generalizing k s t with
  | zero =>
    unfold mostR at h ⊢
    by_cases e : s = x.stop.toNat ∧ t = x.stop.toNat
    · rw [if_pos e]
      exact ⟨[], [], ⟨rfl, by simp [Digs], e.1⟩, ⟨rfl, by simp [Digs], e.2⟩, rfl⟩
    · rw [if_neg e] at h; omega
  | succ r ih =>
    unfold mostR at h ⊢
    rcases minN_get farN x.b fun d => minN farN x.b fun e => mostR x r (k + 1) (nxt x k s d) (nxt x k t e) + if d = e then 0 else 1 with h1 | ⟨d, hd, h1⟩
    · rw [h1] at h; omega
    · rw [h1] at h ⊢
      rcases minN_get farN x.b fun e => mostR x r (k + 1) (nxt x k s d) (nxt x k t e) + if d = e then 0 else 1 with h2 | ⟨e, he, h2⟩
      · rw [h2] at h; omega
      · rw [h2] at h ⊢
        obtain ⟨u, v, hu, hv, hm⟩ := ih (k := k + 1) (s := nxt x k s d) (t := nxt x k t e) (by omega)
        refine ⟨(d : Int) :: u, (e : Int) :: v, Leads1.cons.2 ⟨by omega, hu⟩, Leads1.cons.2 ⟨by omega, hv⟩, ?_⟩
        show ham u v + _ = _
        rw [hm]
        by_cases h3 : d = e
        · rw [if_pos h3, if_pos (by rw [h3])]
        · rw [if_neg h3, if_neg (by omega)]
theorem mostR_symm (x : Chn) (r k s t : Nat) : mostR x r k s t = mostR x r k t s := by
  have hs : ∀ u v : List Int, ham u v = ham v u := by
    intro u
    induction u with
    | nil => intro v; cases v <;> rfl
    | cons a u ih =>
      intro v
      cases v with
      | nil => rfl
      | cons b v => simp only [ham, ih v, eq_comm]
  have h : ∀ s t, mostR x r k s t ≤ mostR x r k t s := fun s t => by
    rcases Nat.lt_or_ge (mostR x r k t s) farN with h | h
    · obtain ⟨u, v, hu, hv, hm⟩ := mostR_get h
      rw [← hm, hs]; exact mostR_le hv hu
    · exact Nat.le_trans (mostR_cap _ _ _ _ _) h
  exact Nat.le_antisymm (h s t) (h t s)
theorem sameR_le {x : Chn} {r k s : Nat} {u v : List Int} (hu : Leads1 x r k s u) (hv : Leads1 x r k s v) (hne : u ≠ v) : sameR x r k s ≤ ham u v := by
  induction r generalizing k s u v with
  | zero =>
    have h1 : u = [] := List.length_eq_zero_iff.1 hu.len
    have h2 : v = [] := List.length_eq_zero_iff.1 hv.len
    exact absurd (h1.trans h2.symm) hne
  | succ r ih =>
    cases u with
    | nil => have := hu.len; simp at this
    | cons a u =>
      cases v with
      | nil => have := hv.len; simp at this
      | cons b v =>
        obtain ⟨ha, hu⟩ := Leads1.cons.1 hu
        obtain ⟨hb, hv⟩ := Leads1.cons.1 hv
        unfold sameR
        by_cases e : a = b
        · subst e
          have h := ih hu hv (fun h => hne (by rw [h]))
          refine Nat.le_trans (minN_le (i := a.toNat) (by omega)) ?_
          show _ ≤ ham u v + _
          rw [if_pos rfl]
          omega
        · have hm := mostR_le hu hv
          show _ ≤ ham u v + _
          rw [if_neg e]
          rcases Nat.lt_or_ge b.toNat a.toNat with hlt | hge
          · refine Nat.le_trans (minN_le (i := a.toNat) (by omega)) ?_
            have := minN_le (c := farN) (f := fun e => mostR x r (k + 1) (nxt x k s a.toNat) (nxt x k s e) + 1) hlt
            omega
          · refine Nat.le_trans (minN_le (i := b.toNat) (by omega)) ?_
            have := minN_le (c := farN) (f := fun e => mostR x r (k + 1) (nxt x k s b.toNat) (nxt x k s e) + 1) (show a.toNat < b.toNat by omega)
            rw [mostR_symm] at this
            omega
theorem sameR_get {x : Chn} {r k s : Nat} (h : sameR x r k s < farN) : ∃ u v, Leads1 x r k s u ∧ Leads1 x r k s v ∧ u ≠ v ∧ ham u v = sameR x r k s := by
  induction r generalizing k s with
  | zero => unfold sameR at h; omega
  | succ r ih =>
    unfold sameR at h ⊢
    rcases minN_get farN x.b fun d => min (sameR x r (k + 1) (nxt x k s d)) (minN farN d fun e => mostR x r (k + 1) (nxt x k s d) (nxt x k s e) + 1) with h1 | ⟨d, hd, h1⟩
    · rw [h1] at h; omega
    · rw [h1] at h ⊢
      rcases Nat.le_total (sameR x r (k + 1) (nxt x k s d)) (minN farN d fun e => mostR x r (k + 1) (nxt x k s d) (nxt x k s e) + 1) with h2 | h2
      · rw [Nat.min_eq_left h2] at h ⊢
        obtain ⟨u, v, hu, hv, hne, hm⟩ := ih h
        refine ⟨(d : Int) :: u, (d : Int) :: v, Leads1.cons.2 ⟨by omega, hu⟩, Leads1.cons.2 ⟨by omega, hv⟩, fun h => hne (by simpa using h), ?_⟩
        show ham u v + _ = _
        rw [if_pos rfl, hm]
        rfl
      · rw [Nat.min_eq_right h2] at h ⊢
        rcases minN_get farN d fun e => mostR x r (k + 1) (nxt x k s d) (nxt x k s e) + 1 with h3 | ⟨e, he, h3⟩
        · rw [h3] at h; omega
        · rw [h3] at h ⊢
          obtain ⟨u, v, hu, hv, hm⟩ := mostR_get (x := x) (r := r) (k := k + 1) (s := nxt x k s d) (t := nxt x k s e) (by omega)
          refine ⟨(d : Int) :: u, (e : Int) :: v, Leads1.cons.2 ⟨by omega, hu⟩, Leads1.cons.2 ⟨by omega, hv⟩, fun h => ?_, ?_⟩
          · simp only [List.cons.injEq] at h; omega
          · show ham u v + _ = _
            rw [if_neg (by omega), hm]

/-- The least distance, capped. -/
def distI (x : Chn) : Nat := sameR x x.n 0 x.start.toNat
/-- A number is the least distance of two different checked words, and such are there. -/
def IsDist (x : Chn) (m : Nat) : Prop := (∃ u v, Ckd x u ∧ Ckd x v ∧ u ≠ v ∧ ham u v = m) ∧ ∀ u v, Ckd x u → Ckd x v → u ≠ v → m ≤ ham u v
theorem IsDist.eq {x : Chn} {m m' : Nat} (h : IsDist x m) (h' : IsDist x m') : m = m' := by
  obtain ⟨⟨u, v, a, b, c, d⟩, e⟩ := h
  obtain ⟨⟨u', v', a', b', c', d'⟩, e'⟩ := h'
  have := e u' v' a' b' c'
  have := e' u v a b c
  omega
theorem IsDist.le {x : Chn} {m : Nat} (h : IsDist x m) : m ≤ x.n := by
  obtain ⟨⟨u, v, a, b, c, d⟩, e⟩ := h
  have := ham_le u v
  rw [a.len] at this
  omega
/-- There are two different checked words. -/
def TwoW (x : Chn) : Prop := ∃ u v, Ckd x u ∧ Ckd x v ∧ u ≠ v
theorem distI_two {x : Chn} (hn : x.n ≤ 20) : distI x < farN ↔ TwoW x := by
  constructor
  · intro h
    obtain ⟨u, v, a, b, c, _⟩ := sameR_get h
    exact ⟨u, v, a, b, c⟩
  · rintro ⟨u, v, a, b, c⟩
    have h1 := sameR_le a b c
    have h2 := ham_le u v
    rw [a.len] at h2
    unfold distI farN
    omega
theorem distI_is {x : Chn} (h : distI x < farN) : IsDist x (distI x) := by
  obtain ⟨u, v, a, b, c, d⟩ := sameR_get h
  exact ⟨⟨u, v, a, b, c, d⟩, fun u v a b c => sameR_le a b c⟩
end Go.Proofs.Ytnpkanlieflbiaa
