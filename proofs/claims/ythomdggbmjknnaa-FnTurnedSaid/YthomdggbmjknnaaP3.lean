/- What the law of orders says, plainly. Nothing here walks. -/
import Derived.Test.YthomdggbmjknnaaP2
import Derived.Test.YthomdggbmjknnaaO3
import Derived.Test.YthomdggbmjknnaaR2
namespace Go.Proofs.Ythomdggbmjknnaa
open Go.RowKit
set_option linter.unusedVariables false

theorem ordB_of' {xs : List Int} {n : Int} {m : Nat} (hm : m ≤ xs.length) (h1 : ∀ i, i < m → 0 ≤ nth xs i ∧ nth xs i ≤ n - 1) (h2 : ∀ i j, i < j → j < m → nth xs i ≠ nth xs j) : ordB xs n m = true := by
  induction m with
  | zero => rfl
  | succ m ih =>
    rw [ordB_succ, ih (by omega) (fun i hi => h1 i (by omega)) (fun i j hi hj => h2 i j hi (by omega))]
    rw [show inB (nth xs m) 0 (n - 1) = true from inB_true.2 (h1 m (by omega))]
    have : hasI (xs.take m) (nth xs m) = false := hasI_no fun i hi => by
      rw [List.length_take] at hi
      rw [nth_take (by omega)]
      exact h2 i m (by omega) (by omega)
    rw [this]; rfl
theorem Ordr.ord {n : Nat} {xs : List Int} (h : Ordr n xs) : ordB xs xs.length xs.length = true :=
  ordB_of' (Nat.le_refl _) (fun i hi => by have := h.2.1 i (by rw [← h.1]; exact hi); have := h.1; omega) (fun i j hij hj e => by have := h.1; have := h.2.2 i j (by omega) (by omega) e; omega)
theorem Ordr.is {n : Nat} {xs : List Int} (h : Ordr n xs) (h1 : 1 ≤ n) (h2 : n ≤ 36) : isOrd xs 36 = true := by
  have := h.1
  rw [isOrd_end h.ord]
  simp only [Bool.and_eq_true, decide_eq_true_eq]
  omega
theorem Ordr.closed {n : Nat} {xs : List Int} (h : Ordr n xs) : Closed xs := fun i hi => by
  have h1 := h.1
  have := h.2.1 i (by omega)
  omega
theorem Ordr.comp {n : Nat} {f g : List Int} (h : Ordr n f) (k : Ordr n g) : Ordr n (compL f g) := by
  have hl : (compL f g).length = n := by rw [compL_length]; exact k.1
  have e : ∀ i, i < n → nth (compL f g) i = nth f (nth g i).toNat := fun i hi => nth_compL (by rw [k.1]; exact hi)
  refine ⟨hl, fun i hi => ?_, fun i j hi hj he => ?_⟩
  · rw [e i hi]
    have := k.2.1 i hi
    exact h.2.1 _ (by omega)
  · rw [e i hi, e j hj] at he
    have h1 := k.2.1 i hi
    have h2 := k.2.1 j hj
    have := h.2.2 _ _ (by omega) (by omega) he
    exact k.2.2 i j hi hj (by omega)
theorem Ordr.inv {n : Nat} {f : List Int} (h : Ordr n f) : Ordr n (invL f) ∧ ∀ i, i < n → nth f (nth (invL f) i).toNat = i := by
  have hl := h.1
  have hs : ∀ i, i < n → ∃ j, j < n ∧ nth f j = i ∧ nth (invL f) i = j := fun i hi => by
    obtain ⟨j, hj, e⟩ := ord_surj h.ord (z := i) (by omega)
    have := invL_at h.ord h.closed hj
    rw [e] at this
    exact ⟨j, by omega, e, this⟩
  refine ⟨⟨(invTo_len f f.length).trans hl, fun i hi => ?_, fun i j hi hj he => ?_⟩, fun i hi => ?_⟩
  · obtain ⟨j, hj, _, e⟩ := hs i hi
    rw [e]; omega
  · obtain ⟨a, ha, e1, e2⟩ := hs i hi
    obtain ⟨b, hb, e3, e4⟩ := hs j hj
    rw [e2, e4] at he
    have : a = b := by omega
    rw [this] at e1
    omega
  · obtain ⟨j, hj, e1, e2⟩ := hs i hi
    rw [e2, Int.toNat_natCast]; exact e1

/-! ### Cycles -/
theorem cyc_cnt {f : List Int} (hc : Closed f) : ∀ (n : Nat) (s : List Bool) (c : List Int) (x : Nat), s.length = f.length → x < f.length → unseen (cyc f n s c x).1 + (cyc f n s c x).2.length = unseen s + c.length
  | 0, s, c, x, _, _ => rfl
  | n + 1, s, c, x, hs, hx => by
    cases e : nth s x with
    | true => rw [cyc_seen e]
    | false =>
      rw [cyc_step e]
      have h1 := unseen_set (by omega) e
      have h2 := hc x hx
      have h3 := cyc_cnt hc n (s.set x true) (c ++ [(x : Int)]) (nth f x).toNat (by simpa using hs) (by omega)
      rw [List.length_append] at h3
      simp only [List.length_singleton] at h3
      omega
def lensL (cs : List (List Int)) : Nat := (cs.map List.length).sum
theorem lensL_snoc (cs : List (List Int)) (c : List Int) : lensL (cs ++ [c]) = lensL cs + c.length := by simp [lensL]
theorem lensL_take {cs : List (List Int)} {i : Nat} (h : i < cs.length) : lensL (cs.take (i + 1)) = lensL (cs.take i) + (nth cs i).length := by rw [take_nth h, lensL_snoc]
theorem cycTo_cnt {f : List Int} (hc : Closed f) : ∀ k, k ≤ f.length → lensL (cycTo f k).2 + unseen (cycTo f k).1 = f.length
  | 0, _ => by
    have e1 : (cycTo f 0).1 = List.replicate f.length false := rfl
    have e2 : (cycTo f 0).2 = [] := rfl
    rw [e1, e2]; simp [lensL, unseen, List.countP_replicate]
  | k + 1, hk => by
    have ih := cycTo_cnt hc k (by omega)
    have hl := (cycTo_len f k).1
    have h1 := cyc_cnt hc f.length (cycTo f k).1 [] k hl (by omega)
    rw [cycTo_succ]
    by_cases e : (cyc f f.length (cycTo f k).1 [] k).2 = []
    · rw [e] at h1
      rw [if_pos e]
      simp only [List.length_nil] at h1
      show lensL (cycTo f k).2 + unseen (cyc f f.length (cycTo f k).1 [] k).1 = _
      omega
    · rw [if_neg e]
      show lensL ((cycTo f k).2 ++ [_]) + unseen (cyc f f.length (cycTo f k).1 [] k).1 = _
      rw [lensL_snoc]
      simp only [List.length_nil] at h1
      omega
theorem cyc_sum {f : List Int} (hc : Closed f) (ho : ordB f f.length f.length = true) : lensL (cycL f) = f.length := by
  have h := cycTo_cnt hc f.length (Nat.le_refl _)
  have hi := cycTo_inv hc ho f.length (Nat.le_refl _)
  have h0 : unseen (cycTo f f.length).1 = 0 := by
    unfold unseen
    rw [List.countP_eq_zero]
    intro b hb
    obtain ⟨i, hi2, rfl⟩ := List.mem_iff_getElem.1 hb
    have := hi.done i (by rw [← hi.len]; exact hi2)
    rw [nth_eq hi2] at this
    simp [this]
  show lensL (cycTo f f.length).2 = _
  omega
theorem cycTo_min {f : List Int} (hc : Closed f) (ho : ordB f f.length f.length = true) : ∀ k, k ≤ f.length → ∀ c ∈ (cycTo f k).2, ∀ l, l < c.length → nth c 0 ≤ nth c l
  | 0, _, c, h => by
    have e2 : (cycTo f 0).2 = [] := rfl
    rw [e2] at h; simp at h
  | k + 1, hk, c, h => by
    have ih := cycTo_min hc ho k (by omega)
    have I := cycTo_inv hc ho k (by omega)
    have hkl : k < f.length := by omega
    cases hsk : nth (cycTo f k).1 k with
    | true =>
      have e : cycTo f (k + 1) = cycTo f k := by rw [cycTo_succ, cyc_seen hsk]; rfl
      rw [e] at h
      exact ih c h
    | false =>
      have hb : ∀ l, nth (cycTo f k).1 (itn f l k) = false := by
        intro l
        induction l with
        | zero => exact hsk
        | succ l ihl =>
          cases e : nth (cycTo f k).1 (itn f (l + 1) k) with
          | false => rfl
          | true => rw [I.back _ (itn_lt hc hkl l) e] at ihl; cases ihl
      obtain ⟨m, hm, hmi, h2, h1, hy2⟩ := cyc_run hc ho I.back hkl hsk f.length 0 (cycTo f k).1 (by omega) I.len (fun y _ => by simp) (fun a b _ h => absurd h (Nat.not_lt_zero _))
      have hR : (cyc f f.length (cycTo f k).1 [] k).2 = (List.range m).map fun l => (itn f l k : Int) := h2
      have hRn : (cyc f f.length (cycTo f k).1 [] k).2 ≠ [] := by rw [hR]; intro e; have := congrArg List.length e; simp at this; omega
      rw [cycTo_succ, if_neg hRn] at h
      rcases List.mem_append.1 h with h | h
      · exact ih c h
      · simp only [List.mem_singleton] at h
        intro l hl
        rw [h, hR] at hl ⊢
        have hl' : l < m := by simpa using hl
        rw [nth_eq (by simp; omega), nth_eq hl]
        simp only [List.getElem_map, List.getElem_range]
        have h3 : ¬ itn f l k < k := fun h4 => by
          have := I.done _ h4
          rw [hb l] at this; cases this
        show ((k : Nat) : Int) ≤ _
        omega
theorem cyc_min {f : List Int} (hc : Closed f) (ho : ordB f f.length f.length = true) {c : List Int} (h : c ∈ cycL f) : ∀ l, l < c.length → nth c 0 ≤ nth c l := cycTo_min hc ho f.length (Nat.le_refl _) c h
/-- What the law asks at one place of a cycle. -/
theorem cyc_place {f : List Int} (hc : Closed f) (ho : ordB f f.length f.length = true) {i k : Nat} (hi : i < (cycL f).length) (hk : k < (nth (cycL f) i).length) :
    0 ≤ nth (nth (cycL f) i) k ∧ nth (nth (cycL f) i) k < f.length ∧ nth f (nth (nth (cycL f) i) k).toNat = nth (nth (cycL f) i) ((k + 1) % (nth (cycL f) i).length) ∧ nth (nth (cycL f) i) 0 ≤ nth (nth (cycL f) i) k := by
  have hm := nth_mem hi
  obtain ⟨h1, h2, h3, h4, h5⟩ := cyc_shift hc (cycL_form hc ho hm) hk 1
  rw [powL_one f hc] at h5
  exact ⟨h2, h3, h5.symm, cyc_min hc ho hm k hk⟩
end Go.Proofs.Ythomdggbmjknnaa
