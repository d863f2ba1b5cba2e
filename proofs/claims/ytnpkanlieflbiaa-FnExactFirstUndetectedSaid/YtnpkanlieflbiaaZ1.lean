/- When numbers of words are more than none, and what single errors that stay unseen are. Nothing here walks. -/
import Derived.Test.YtnpkanlieflbiaaC5
import Derived.Test.YtnpkanlieflbiaaC6
namespace Go.Proofs.Ytnpkanlieflbiaa
open Go.RowKit
set_option linter.unusedVariables false

theorem bothR_pos (x : Chn) : ∀ r k s t, 0 < bothR x r k s t ↔ ∃ u, Leads1 x r k s u ∧ Leads1 x r k t u
  | 0, k, s, t => by
    unfold bothR
    constructor
    · intro h
      by_cases e : s = x.stop.toNat ∧ t = x.stop.toNat
      · exact ⟨[], ⟨rfl, fun d hd => by simp at hd, e.1⟩, ⟨rfl, fun d hd => by simp at hd, e.2⟩⟩
      · rw [if_neg e] at h; exact absurd h (Nat.lt_irrefl _)
    · rintro ⟨u, h1, h2⟩
      obtain rfl : u = [] := List.eq_nil_of_length_eq_zero h1.len
      have e1 : s = x.stop.toNat := h1.run
      have e2 : t = x.stop.toNat := h2.run
      rw [if_pos ⟨e1, e2⟩]; exact Nat.one_pos
  | r + 1, k, s, t => by
    unfold bothR
    rw [sumN_pos]
    constructor
    · rintro ⟨d, hd, h⟩
      obtain ⟨u, h1, h2⟩ := (bothR_pos x r (k + 1) _ _).1 h
      exact ⟨(d : Int) :: u, Leads1.cons.2 ⟨by omega, by simpa using h1⟩, Leads1.cons.2 ⟨by omega, by simpa using h2⟩⟩
    · rintro ⟨u, h1, h2⟩
      cases u with
      | nil => have := h1.len; simp at this
      | cons a u =>
        obtain ⟨ha, h1⟩ := Leads1.cons.1 h1
        obtain ⟨_, h2⟩ := Leads1.cons.1 h2
        exact ⟨a.toNat, by omega, (bothR_pos x r (k + 1) _ _).2 ⟨u, h1, h2⟩⟩
theorem bothV_pos {x : Chn} {k s t : Nat} : 0 < bothV x k s t ↔ ∃ u, Leads1 x (x.n - k) k s u ∧ Leads1 x (x.n - k) k t u := bothR_pos x _ _ _ _
theorem endsV_pos {x : Chn} {k s : Nat} : 0 < endsV x k s ↔ ∃ u, Leads1 x (x.n - k) k s u := by
  rw [← bothV_same, bothV_pos]
  exact ⟨fun ⟨u, h, _⟩ => ⟨u, h⟩, fun ⟨u, h⟩ => ⟨u, h, h⟩⟩
theorem begV_pos {x : Chn} (hv : VC x) : ∀ (k s : Nat), k ≤ x.n → (0 < begV x k s ↔ ∃ u, u.length = k ∧ Digs x.b u ∧ runN x 0 x.start.toNat u = s)
  | 0, s, _ => by
    unfold begV
    constructor
    · intro h
      by_cases e : s = x.start.toNat
      · exact ⟨[], rfl, fun d hd => by simp at hd, e.symm⟩
      · rw [if_neg e] at h; exact absurd h (Nat.lt_irrefl _)
    · rintro ⟨u, h1, _, h3⟩
      obtain rfl : u = [] := List.eq_nil_of_length_eq_zero h1
      have e : x.start.toNat = s := h3
      rw [if_pos e.symm]; exact Nat.one_pos
  | k + 1, s, hk => by
    unfold begV
    rw [sumN_pos]
    constructor
    · rintro ⟨r, hr, h⟩
      obtain ⟨d, hd, h⟩ := sumN_pos.1 h
      by_cases e : nxt x k r d = s
      · rw [if_pos e] at h
        obtain ⟨u, h1, h2, h3⟩ := (begV_pos hv k r (by omega)).1 h
        refine ⟨u ++ [(d : Int)], by simp [h1], fun z hz => ?_, ?_⟩
        · rcases List.mem_append.1 hz with h | h
          · exact h2 z h
          · simp at h; omega
        · rw [runN_snoc, h1, h3, Nat.zero_add, Int.toNat_natCast]; exact e
      · rw [if_neg e] at h; exact absurd h (Nat.lt_irrefl _)
    · rintro ⟨u, h1, h2, h3⟩
      obtain ⟨u', a, rfl⟩ : ∃ u' a, u = u' ++ [a] := by
        refine ⟨u.dropLast, u.getLast (by intro e; rw [e] at h1; simp at h1), (List.dropLast_concat_getLast _).symm⟩
      have hl : u'.length = k := by simpa using h1
      have hd' : Digs x.b u' := fun z hz => h2 z (by simp [hz])
      have ha := h2 a (by simp)
      rw [runN_snoc, hl, Nat.zero_add] at h3
      refine ⟨runN x 0 x.start.toNat u', hv.runLt hd' (by omega) hv.nat.2.2.1, sumN_pos.2 ⟨a.toNat, by omega, ?_⟩⟩
      rw [if_pos h3]
      exact (begV_pos hv k _ (by omega)).2 ⟨u', hl, hd', rfl⟩

theorem mem_wrong0 {b : Nat} {q : List Int × List Int} : q ∈ wrongP 0 b ↔ ∃ a c : Nat, a < b ∧ c < b ∧ a ≠ c ∧ q = ([(a : Int)], [(c : Int)]) := by
  rw [← wrongS_eq (by omega)]
  unfold wrongS
  simp only [List.mem_flatMap, List.mem_range, cellS_0]
  constructor
  · rintro ⟨a, ha, c, hc, h⟩
    by_cases e : a ≠ c
    · rw [if_pos e] at h
      exact ⟨a, c, ha, hc, e, by simpa using h⟩
    · rw [if_neg e] at h; simp at h
  · rintro ⟨a, c, ha, hc, e, rfl⟩
    exact ⟨a, ha, c, hc, by rw [if_pos e]; simp⟩
theorem sumL_pos {α : Type} {L : List α} {f : α → Nat} : 0 < sumL L f ↔ ∃ a ∈ L, 0 < f a := by
  induction L with
  | nil => simp [sumL]
  | cons a L ih =>
    rw [sumL_cons]
    constructor
    · intro h
      by_cases e : 0 < f a
      · exact ⟨a, by simp, e⟩
      · obtain ⟨c, h1, h2⟩ := ih.1 (by omega)
        exact ⟨c, by simp [h1], h2⟩
    · rintro ⟨c, h1, h2⟩
      rcases List.mem_cons.1 h1 with rfl | h1
      · omega
      · have := ih.2 ⟨c, h1, h2⟩; omega
theorem ham_one {u v : List Int} (hl : u.length = v.length) (h : ham u v = 1) : ∃ p a c s, a ≠ c ∧ u = p ++ a :: s ∧ v = p ++ c :: s := by
  induction u generalizing v with
  | nil => simp [ham] at h
  | cons a u ih =>
    cases v with
    | nil => simp at hl
    | cons c v =>
      simp only [ham] at h
      have hl' : u.length = v.length := by simpa using hl
      by_cases e : a = c
      · rw [if_pos e] at h
        obtain ⟨p, a', c', s, h1, h2, h3⟩ := ih hl' (by omega)
        exact ⟨a :: p, a', c', s, h1, by rw [h2]; rfl, by rw [h3, e]; rfl⟩
      · rw [if_neg e] at h
        have := ham_zero hl' (by omega)
        exact ⟨[], a, c, u, e, rfl, by rw [this]; rfl⟩
/-- A checked word, told by a beginning, what stands at a place, and the rest. -/
theorem ckd_parts {x : Chn} {p s : List Int} {a : Int} (hl : (p ++ a :: s).length = x.n) : Ckd x (p ++ a :: s) ↔ Digs x.b p ∧ (0 ≤ a ∧ a < x.b) ∧ Leads1 x (x.n - (p.length + 1)) (p.length + 1) (runN x p.length (runN x 0 x.start.toNat p) [a]) s := by
  have hs : s.length = x.n - (p.length + 1) := by simp at hl; omega
  have hr : runN x 0 x.start.toNat (p ++ a :: s) = runN x (p.length + 1) (runN x p.length (runN x 0 x.start.toNat p) [a]) s := by
    rw [runN_append, Nat.zero_add]; rfl
  constructor
  · rintro ⟨h1, h2, h3⟩
    exact ⟨fun d hd => h2 d (by simp [hd]), h2 a (by simp), hs, fun d hd => h2 d (by simp [hd]), by rw [← hr]; exact h3⟩
  · rintro ⟨h1, h2, h3, h4, h5⟩
    refine ⟨hl, fun d hd => ?_, by rw [hr]; exact h5⟩
    rcases List.mem_append.1 hd with h | h
    · exact h1 d h
    · rcases List.mem_cons.1 h with rfl | h
      · exact h2
      · exact h4 d h
/-- An unseen single error is two checked words of distance one. -/
theorem bad0_pos {x : Chn} (hv : VC x) : (∃ p, p < x.n ∧ 0 < badAt x 0 p) ↔ ∃ u v, Ckd x u ∧ Ckd x v ∧ ham u v = 1 := by
  have e1 : errLen 0 = 1 := rfl
  constructor
  · rintro ⟨p, hp, h⟩
    obtain ⟨q, hq, h⟩ := sumL_pos.1 h
    obtain ⟨a, c, ha, hc, hac, rfl⟩ := mem_wrong0.1 hq
    obtain ⟨s, hs, h⟩ := sumN_pos.1 h
    rw [e1] at h
    unfold bad1 at h
    obtain ⟨u, g1, g2, g3⟩ := (begV_pos hv p s (by omega)).1 (Nat.pos_of_ne_zero (by intro e; rw [e] at h; simp at h))
    obtain ⟨z, k1, k2⟩ := bothV_pos.1 (Nat.pos_of_ne_zero (by intro e; rw [e] at h; simp at h))
    have hlz := k1.len
    refine ⟨u ++ (a : Int) :: z, u ++ (c : Int) :: z, ?_, ?_, ?_⟩
    · rw [ckd_parts (by simp; omega), g1, g3]
      exact ⟨g2, by omega, k1⟩
    · rw [ckd_parts (by simp; omega), g1, g3]
      exact ⟨g2, by omega, k2⟩
    · rw [ham_append rfl, ham_self]
      simp only [ham, ham_self]
      rw [if_neg (by omega)]
  · rintro ⟨u, v, hu, hv2, h⟩
    obtain ⟨p, a, c, s, hac, rfl, rfl⟩ := ham_one (hu.len.trans hv2.len.symm) h
    obtain ⟨g1, g2, g3⟩ := (ckd_parts hu.len).1 hu
    obtain ⟨_, k2, k3⟩ := (ckd_parts hv2.len).1 hv2
    have hl := hu.len
    simp at hl
    refine ⟨p.length, by omega, sumL_pos.2 ⟨([((a.toNat : Nat) : Int)], [((c.toNat : Nat) : Int)]), mem_wrong0.2 ⟨a.toNat, c.toNat, by omega, by omega, by omega, rfl⟩, ?_⟩⟩
    refine sumN_pos.2 ⟨runN x 0 x.start.toNat p, hv.runLt g1 (by omega) hv.nat.2.2.1, ?_⟩
    unfold bad1
    refine Nat.mul_pos ((begV_pos hv p.length _ (by omega)).2 ⟨p, rfl, g1, rfl⟩) (bothV_pos.2 ⟨s, ?_, ?_⟩)
    · rw [show ((a.toNat : Nat) : Int) = a by omega]; exact g3
    · rw [show ((c.toNat : Nat) : Int) = c by omega]; exact k3
end Go.Proofs.Ytnpkanlieflbiaa
