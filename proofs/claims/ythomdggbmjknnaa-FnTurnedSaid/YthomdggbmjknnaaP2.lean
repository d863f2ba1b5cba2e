/- The cycles of an order, plainly. -/
import Derived.Test.YthomdggbmjknnaaO5
namespace Go.Proofs.Ythomdggbmjknnaa
open Go.RowKit
set_option linter.unusedVariables false

def stp (f : List Int) (x : Nat) : Nat := (nth f x).toNat
def itn (f : List Int) : Nat → Nat → Nat
  | 0, x => x
  | j + 1, x => stp f (itn f j x)
theorem stp_lt {f : List Int} (hc : Closed f) {x : Nat} (hx : x < f.length) : stp f x < f.length := by have := hc x hx; unfold stp; omega
theorem itn_lt {f : List Int} (hc : Closed f) {x : Nat} (hx : x < f.length) : ∀ j, itn f j x < f.length
  | 0 => hx
  | j + 1 => stp_lt hc (itn_lt hc hx j)
theorem itn_add (f : List Int) (a x : Nat) : ∀ b, itn f (a + b) x = itn f b (itn f a x)
  | 0 => rfl
  | b + 1 => by show stp f (itn f (a + b) x) = stp f _; rw [itn_add f a x b]
theorem itf_itn {f : List Int} (hc : Closed f) {x : Nat} (hx : x < f.length) : ∀ j, itf f j (x : Int) = (itn f j x : Int) := by
  have h1 : ∀ j (y : Nat), y < f.length → itf f (j + 1) (y : Int) = itf f j ((stp f y : Nat) : Int) := by
    intro j y hy
    have := hc y hy
    show itf f j (nth f ((y : Int).toNat)) = _
    rw [Int.toNat_natCast]
    unfold stp
    rw [Int.toNat_of_nonneg this.1]
  have h2 : ∀ j (y : Nat), y < f.length → itf f j (y : Int) = (itn f j y : Int) := by
    intro j
    induction j with
    | zero => intro y hy; rfl
    | succ j ih =>
      intro y hy
      rw [h1 j y hy, ih _ (stp_lt hc hy), show j + 1 = 1 + j by omega, itn_add f 1 y j]; rfl
  exact fun j => h2 j x hx
theorem stp_inj {f : List Int} (hc : Closed f) (h : ordB f f.length f.length = true) {x y : Nat} (hx : x < f.length) (hy : y < f.length) (e : stp f x = stp f y) : x = y := by
  have h1 := hc x hx
  have h2 := hc y hy
  unfold stp at e
  exact ord_inj (Nat.le_refl _) h hx hy (by omega)

/-- What one run of the inner loop does. -/
theorem cyc_run {f : List Int} (hc : Closed f) (ho : ordB f f.length f.length = true) {s0 : List Bool} (hback : ∀ y, y < f.length → nth s0 (stp f y) = true → nth s0 y = true) {i : Nat} (hi : i < f.length) (hn : nth s0 i = false) :
    ∀ (fuel j : Nat) (s : List Bool), f.length ≤ j + fuel → s.length = f.length → (∀ y, y < f.length → (nth s y = true ↔ nth s0 y = true ∨ ∃ l, l < j ∧ y = itn f l i)) → (∀ a b, a < b → b < j → itn f a i ≠ itn f b i) →
      ∃ m, 1 ≤ m ∧ itn f m i = i ∧ (cyc f fuel s ((List.range j).map fun l => (itn f l i : Int)) (itn f j i)).2 = (List.range m).map (fun l => (itn f l i : Int)) ∧
        (cyc f fuel s ((List.range j).map fun l => (itn f l i : Int)) (itn f j i)).1.length = f.length ∧
        ∀ y, y < f.length → (nth (cyc f fuel s ((List.range j).map fun l => (itn f l i : Int)) (itn f j i)).1 y = true ↔ nth s0 y = true ∨ ∃ l, l < m ∧ y = itn f l i) := by
  have hback2 : ∀ l, nth s0 (itn f l i) = false := by
    intro l
    induction l with
    | zero => exact hn
    | succ l ih =>
      cases e : nth s0 (itn f (l + 1) i) with
      | false => rfl
      | true => rw [hback _ (itn_lt hc hi l) e] at ih; cases ih
  have hstop : ∀ (j : Nat) (s : List Bool), (∀ y, y < f.length → (nth s y = true ↔ nth s0 y = true ∨ ∃ l, l < j ∧ y = itn f l i)) → (∀ a b, a < b → b < j → itn f a i ≠ itn f b i) → nth s (itn f j i) = true → 1 ≤ j ∧ itn f j i = i := by
    intro j s hs hd ht
    rcases (hs _ (itn_lt hc hi j)).1 ht with h | ⟨l, hl, e⟩
    · rw [hback2 j] at h; cases h
    · refine ⟨by omega, ?_⟩
      cases l with
      | zero => exact e
      | succ l =>
        obtain ⟨j', rfl⟩ : ∃ j', j = j' + 1 := ⟨j - 1, by omega⟩
        exact absurd (stp_inj hc ho (itn_lt hc hi l) (itn_lt hc hi j') e.symm) (hd l j' (by omega) (by omega))
  intro fuel
  induction fuel with
  | zero =>
    intro j s hf hsl hs hd
    have ht : nth s (itn f j i) = true := by
      cases e : nth s (itn f j i) with
      | true => rfl
      | false =>
        exfalso
        have hnd : ((List.range (j + 1)).map fun l => itn f l i).Nodup := by
          unfold List.Nodup
          rw [List.pairwise_iff_getElem]
          intro a b ha hb hab e2
          simp only [List.length_map, List.length_range] at ha hb
          simp only [List.getElem_map, List.getElem_range] at e2
          by_cases hbj : b = j
          · subst hbj
            have := (hs (itn f a i) (itn_lt hc hi a)).2 (.inr ⟨a, hab, rfl⟩)
            rw [e2, e] at this; cases this
          · exact hd a b hab (by omega) e2
        have := nodup_lt_length f.length _ hnd (fun x hx => by
          obtain ⟨l, _, rfl⟩ := List.mem_map.1 hx
          exact itn_lt hc hi l)
        simp only [List.length_map, List.length_range] at this
        omega
    have hst := hstop j s hs hd ht
    exact ⟨j, hst.1, hst.2, rfl, hsl, hs⟩
  | succ fuel ih =>
    intro j s hf hsl hs hd
    cases e : nth s (itn f j i) with
    | true =>
      have hst := hstop j s hs hd e
      rw [cyc_seen e]
      exact ⟨j, hst.1, hst.2, rfl, hsl, hs⟩
    | false =>
      have hjl := itn_lt hc hi j
      rw [cyc_step e]
      have e1 : (List.range j).map (fun l => (itn f l i : Int)) ++ [(itn f j i : Int)] = (List.range (j + 1)).map fun l => (itn f l i : Int) := by simp [List.range_succ]
      rw [e1]
      refine ih (j + 1) (s.set (itn f j i) true) (by omega) (by rw [List.length_set]; exact hsl) (fun y hy => ?_) (fun a b hab hb => ?_)
      · rw [nth_set (by rw [hsl]; exact hjl)]
        by_cases h : itn f j i = y
        · rw [if_pos h]
          exact ⟨fun _ => .inr ⟨j, by omega, h.symm⟩, fun _ => rfl⟩
        · rw [if_neg h, hs y hy]
          constructor
          · rintro (h1 | ⟨l, hl, h1⟩)
            · exact .inl h1
            · exact .inr ⟨l, by omega, h1⟩
          · rintro (h1 | ⟨l, hl, h1⟩)
            · exact .inl h1
            · rcases Nat.lt_succ_iff_lt_or_eq.1 hl with h2 | rfl
              · exact .inr ⟨l, h2, h1⟩
              · exact absurd h1.symm h
      · by_cases hbj : b = j
        · subst hbj
          intro e2
          have := (hs (itn f a i) (itn_lt hc hi a)).2 (.inr ⟨a, hab, rfl⟩)
          rw [e2, e] at this; cases this
        · exact hd a b hab (by omega)

/-- The form of a cycle. -/
def IsCyc (f : List Int) (c : List Int) : Prop := ∃ i m, i < f.length ∧ 1 ≤ m ∧ itn f m i = i ∧ c = (List.range m).map fun l => (itn f l i : Int)
structure CycInv (f : List Int) (k : Nat) (st : List Bool × List (List Int)) : Prop where
  len : st.1.length = f.length
  back : ∀ y, y < f.length → nth st.1 (stp f y) = true → nth st.1 y = true
  done : ∀ y, y < k → nth st.1 y = true
  within : ∀ y, y < f.length → nth st.1 y = true → ∃ c ∈ st.2, ∃ l, l < c.length ∧ nth c l = (y : Int)
  form : ∀ c ∈ st.2, IsCyc f c
theorem cycTo_inv {f : List Int} (hc : Closed f) (ho : ordB f f.length f.length = true) : ∀ k, k ≤ f.length → CycInv f k (cycTo f k) := by
  intro k
  induction k with
  | zero =>
    intro _
    refine ⟨by simp [cycTo, iterK], fun y hy h => ?_, fun y h => absurd h (Nat.not_lt_zero _), fun y hy h => ?_, fun c h => ?_⟩
    · have e : (cycTo f 0).1 = List.replicate f.length false := rfl
      rw [e, nth_replicate (stp_lt hc hy)] at h; cases h
    · have e : (cycTo f 0).1 = List.replicate f.length false := rfl
      rw [e, nth_replicate hy] at h; cases h
    · have e : (cycTo f 0).2 = [] := rfl
      rw [e] at h; simp at h
  | succ k ih =>
    intro hk
    have I := ih (by omega)
    have hkl : k < f.length := by omega
    cases hsk : nth (cycTo f k).1 k with
    | true =>
      have e : cycTo f (k + 1) = cycTo f k := by rw [cycTo_succ, cyc_seen hsk]; rfl
      rw [e]
      refine ⟨I.len, I.back, fun y hy => ?_, I.within, I.form⟩
      rcases Nat.lt_succ_iff_lt_or_eq.1 hy with h | rfl
      · exact I.done y h
      · exact hsk
    | false =>
      obtain ⟨m, hm, hmi, h2, h1, hy2⟩ := cyc_run hc ho I.back hkl hsk f.length 0 (cycTo f k).1 (by omega) I.len (fun y _ => by simp) (fun a b _ h => absurd h (Nat.not_lt_zero _))
      have hR : (cyc f f.length (cycTo f k).1 [] k).2 = (List.range m).map fun l => (itn f l k : Int) := h2
      have h1' : (cyc f f.length (cycTo f k).1 [] k).1.length = f.length := h1
      have hy2' : ∀ y, y < f.length → (nth (cyc f f.length (cycTo f k).1 [] k).1 y = true ↔ nth (cycTo f k).1 y = true ∨ ∃ l, l < m ∧ y = itn f l k) := hy2
      have hRn : (cyc f f.length (cycTo f k).1 [] k).2 ≠ [] := by rw [hR]; intro e; have := congrArg List.length e; simp at this; omega
      rw [cycTo_succ, if_neg hRn]
      refine ⟨h1', fun y hy h => ?_, fun y hy => ?_, fun y hy h => ?_, fun c hcm => ?_⟩
      · rw [hy2' y hy]
        rcases (hy2' _ (stp_lt hc hy)).1 h with h | ⟨l, hl, e⟩
        · exact .inl (I.back y hy h)
        · right
          cases l with
          | zero =>
            have e' : stp f y = stp f (itn f (m - 1) k) := by
              rw [e]
              show k = itn f (m - 1 + 1) k
              rw [show m - 1 + 1 = m by omega, hmi]
            exact ⟨m - 1, by omega, stp_inj hc ho hy (itn_lt hc hkl _) e'⟩
          | succ l => exact ⟨l, by omega, stp_inj hc ho hy (itn_lt hc hkl _) e⟩
      · rw [hy2' y (by omega)]
        rcases Nat.lt_succ_iff_lt_or_eq.1 hy with h | rfl
        · exact .inl (I.done y h)
        · exact .inr ⟨0, by omega, rfl⟩
      · rcases (hy2' y hy).1 h with h | ⟨l, hl, e⟩
        · obtain ⟨c, hcm, l, hl, e⟩ := I.within y hy h
          exact ⟨c, List.mem_append_left _ hcm, l, hl, e⟩
        · refine ⟨_, List.mem_append_right _ (List.mem_singleton.2 rfl), l, by rw [hR]; simpa using hl, ?_⟩
          rw [hR, nth_eq (by simpa using hl), e]; simp
      · rcases List.mem_append.1 hcm with h | h
        · exact I.form c h
        · simp only [List.mem_singleton] at h
          exact ⟨k, m, hkl, hm, hmi, h.trans hR⟩
theorem cycL_form {f : List Int} (hc : Closed f) (ho : ordB f f.length f.length = true) {c : List Int} (h : c ∈ cycL f) : IsCyc f c := (cycTo_inv hc ho f.length (Nat.le_refl _)).form c h
theorem cycL_all {f : List Int} (hc : Closed f) (ho : ordB f f.length f.length = true) {x : Nat} (hx : x < f.length) : ∃ c ∈ cycL f, ∃ l, l < c.length ∧ nth c l = (x : Int) :=
  (cycTo_inv hc ho f.length (Nat.le_refl _)).within x hx ((cycTo_inv hc ho f.length (Nat.le_refl _)).done x hx)
theorem itn_cycle {f : List Int} {i m : Nat} (h : itn f m i = i) : ∀ q, itn f (m * q) i = i
  | 0 => rfl
  | q + 1 => by rw [Nat.mul_succ, itn_add, itn_cycle h q, h]
theorem itn_mod {f : List Int} {i m : Nat} (h : itn f m i = i) (k : Nat) : itn f (k % m) i = itn f k i := by
  conv => rhs; rw [← Nat.div_add_mod k m]
  rw [itn_add, itn_cycle h]
/-- In a cycle, n places on stands what n steps lead to. -/
theorem cyc_shift {f : List Int} (hc : Closed f) {c : List Int} (h : IsCyc f c) {l : Nat} (hl : l < c.length) (n : Nat) : 1 ≤ c.length ∧ 0 ≤ nth c l ∧ nth c l < f.length ∧ (l + n) % c.length < c.length ∧ nth c ((l + n) % c.length) = nth (powL f n) (nth c l).toNat := by
  obtain ⟨i, m, hi, hm, hmi, rfl⟩ := h
  have hlen : ((List.range m).map fun l => (itn f l i : Int)).length = m := by simp
  rw [hlen] at hl ⊢
  have hat : ∀ j, j < m → nth ((List.range m).map fun l => (itn f l i : Int)) j = (itn f j i : Int) := fun j hj => by rw [nth_eq (by simpa using hj)]; simp
  have hml := Nat.mod_lt (l + n) (show 0 < m by omega)
  rw [hat l hl, hat _ hml, Int.toNat_natCast]
  have hb := itn_lt hc hi l
  refine ⟨hm, by omega, by omega, hml, ?_⟩
  rw [nth_powL hb, itf_itn hc hb, itn_mod hmi, itn_add]
end Go.Proofs.Ythomdggbmjknnaa
