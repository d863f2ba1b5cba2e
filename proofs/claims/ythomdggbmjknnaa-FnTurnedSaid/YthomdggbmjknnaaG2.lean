/- Quasigroups turned and renamed: plainly. Nothing here walks. -/
import Derived.Test.YthomdggbmjknnaaB5
import Derived.Test.YthomdggbmjknnaaP3
namespace Go.Proofs.Ythomdggbmjknnaa
open Go.RowKit
set_option linter.unusedVariables false

structure QN (n : Nat) (t : List (List Int)) : Prop where
  n1 : 1 ≤ n
  n2 : n ≤ 36
  sq : Sq n t
  bd : ∀ x y, x < n → y < n → 0 ≤ nth (nth t x) y ∧ nth (nth t x) y < n
  row : ∀ x y y', x < n → y < n → y' < n → nth (nth t x) y = nth (nth t x) y' → y = y'
  col : ∀ x x' y, x < n → x' < n → y < n → nth (nth t x) y = nth (nth t x') y → x = x'

theorem isQ_ords {t : List (List Int)} (h : isQ t = true) : (∀ x, x < t.length → ordB (nth t x) (nth t x).length (nth t x).length = true) ∧ ∀ y, y < t.length → ordB (colL t y) (colL t y).length (colL t y).length = true := by
  have hl := isQ_len h
  rw [isQ_in hl.1 hl.2, Bool.and_eq_true, allB_iff, allB_iff] at h
  refine ⟨fun x hx => ?_, fun y hy => ?_⟩
  · have := h.1 x hx
    simp only [rowOk, isOrd, Bool.and_eq_true] at this
    exact this.2.1
  · have := h.2 y hy
    simp only [colOk, isOrd, Bool.and_eq_true] at this
    exact this.1
theorem QN.of {t : List (List Int)} (h : isQ t = true) : QN t.length t := by
  have hl := isQ_len h
  obtain ⟨h1, h2⟩ := isQ_ords h
  refine ⟨hl.1, hl.2, ⟨rfl, fun x hx => isQ_rowLen h hx⟩, fun x y hx hy => isQ_bd h hx hy, fun x y y' hx hy hy' e => ?_, fun x x' y hx hx' hy e => ?_⟩
  · have e1 := isQ_rowLen h hx
    exact ord_inj (Nat.le_refl _) (h1 x hx) (by omega) (by omega) e
  · have e1 := colL_length t y
    refine ord_inj (Nat.le_refl _) (h2 y hy) (by omega) (by omega) ?_
    rw [nth_colL hx, nth_colL hx']; exact e
theorem QN.is {n : Nat} {t : List (List Int)} (h : QN n t) : isQ t = true := by
  have e := h.sq.1
  have n1 := h.n1
  have n2 := h.n2
  rw [isQ_in (by omega) (by omega), Bool.and_eq_true, allB_iff, allB_iff]
  refine ⟨fun x hx => ?_, fun y hy => ?_⟩
  · have e1 := h.sq.2 x (by omega)
    have ho : ordB (nth t x) ((nth t x).length : Int) (nth t x).length = true := ordB_of' (Nat.le_refl _) (fun i hi => by have := h.bd x i (by omega) (by omega); omega) (fun i j hij hj e2 => by have := h.row x i j (by omega) (by omega) (by omega) e2; omega)
    simp only [rowOk, isOrd, Bool.and_eq_true, decide_eq_true_eq]
    exact ⟨by omega, ho, by omega, by omega⟩
  · have e1 := colL_length t y
    have ho : ordB (colL t y) ((colL t y).length : Int) (colL t y).length = true := ordB_of' (Nat.le_refl _) (fun i hi => by
      rw [nth_colL (by omega)]
      have := h.bd i y (by omega) (by omega); omega) (fun i j hij hj e2 => by
      rw [nth_colL (by omega), nth_colL (by omega)] at e2
      have := h.col i j y (by omega) (by omega) (by omega) e2; omega)
    simp only [colOk, isOrd, Bool.and_eq_true, decide_eq_true_eq]
    exact ⟨ho, by omega, by omega⟩
theorem QN.rowS {n : Nat} {t : List (List Int)} (h : QN n t) {x z : Nat} (hx : x < n) (hz : z < n) : ∃ y, y < n ∧ nth (nth t x) y = (z : Int) := by
  have e := h.sq.1
  have e1 := h.sq.2 x hx
  obtain ⟨i, hi, he⟩ := ord_surj ((isQ_ords h.is).1 x (by omega)) (z := z) (by omega)
  exact ⟨i, by omega, he⟩
theorem QN.colS {n : Nat} {t : List (List Int)} (h : QN n t) {y z : Nat} (hy : y < n) (hz : z < n) : ∃ x, x < n ∧ nth (nth t x) y = (z : Int) := by
  have e := h.sq.1
  have e1 := colL_length t y
  obtain ⟨i, hi, he⟩ := ord_surj ((isQ_ords h.is).2 y (by omega)) (z := z) (by omega)
  rw [nth_colL (by omega)] at he
  exact ⟨i, by omega, he⟩

/-! ### A table that is filled at places that are all different -/
def fillR (pos : Nat → Nat → Nat × Nat) (val : Nat → Nat → Int) (x : Nat) (out : List (List Int)) (y : Nat) : List (List Int) := iterTo (fun out y => set2 out (pos x y).1 (pos x y).2 (val x y)) out y
def fillT (pos : Nat → Nat → Nat × Nat) (val : Nat → Nat → Int) (n x : Nat) : List (List Int) := iterTo (fun out x => fillR pos val x out n) (zeros n) x
theorem iterTo_inv2 {α : Type} {step : α → Nat → α} {a : α} {n : Nat} (p : Nat → α → Prop) (h0 : p 0 a) (h : ∀ b k, k < n → p k b → p (k + 1) (step b k)) : ∀ k, k ≤ n → p k (iterTo step a k) := by
  intro k
  induction k with
  | zero => intro _; exact h0
  | succ k ih => intro hk; exact h _ _ (by omega) (ih (by omega))
theorem fill_at {n : Nat} {pos : Nat → Nat → Nat × Nat} {val : Nat → Nat → Int} (hp : ∀ x y, x < n → y < n → (pos x y).1 < n ∧ (pos x y).2 < n) (hi : ∀ x y x' y', x < n → y < n → x' < n → y' < n → pos x y = pos x' y' → x = x' ∧ y = y') :
    Sq n (fillT pos val n n) ∧ ∀ x y, x < n → y < n → nth (nth (fillT pos val n n) (pos x y).1) (pos x y).2 = val x y := by
  have key : ∀ X, X ≤ n → Sq n (fillT pos val n X) ∧ ∀ x y, x < X → y < n → nth (nth (fillT pos val n X) (pos x y).1) (pos x y).2 = val x y := by
    refine iterTo_inv2 (fun X out => Sq n out ∧ ∀ x y, x < X → y < n → nth (nth out (pos x y).1) (pos x y).2 = val x y) ⟨zeros_sq n, fun x y hx => absurd hx (Nat.not_lt_zero _)⟩ ?_
    rintro out X hX ⟨h1, h2⟩
    have row : ∀ Y, Y ≤ n → Sq n (fillR pos val X out Y) ∧ ∀ x y, y < n → (x < X ∨ (x = X ∧ y < Y)) → nth (nth (fillR pos val X out Y) (pos x y).1) (pos x y).2 = val x y := by
      refine iterTo_inv2 (fun Y out => Sq n out ∧ ∀ x y, y < n → (x < X ∨ (x = X ∧ y < Y)) → nth (nth out (pos x y).1) (pos x y).2 = val x y) ⟨h1, fun x y hy hxy => h2 x y (by omega) hy⟩ ?_
      rintro o Y hY ⟨h3, h4⟩
      have hpp := hp X Y hX hY
      refine ⟨set2_sq h3 _ _ _ hpp.1, fun x y hy hxy => ?_⟩
      rw [nth_set2 h3 hpp.1 hpp.2]
      by_cases e : x = X ∧ y = Y
      · obtain ⟨rfl, rfl⟩ := e
        rw [if_pos ⟨rfl, rfl⟩]
      · rw [if_neg fun e2 => e (by
          have := hi X Y x y hX hY (by omega) hy (Prod.ext e2.1 e2.2)
          omega)]
        exact h4 x y hy (by omega)
    exact ⟨(row n (Nat.le_refl _)).1, fun x y hx hy => (row n (Nat.le_refl _)).2 x y hy (by omega)⟩
  exact ⟨(key n (Nat.le_refl _)).1, fun x y hx hy => (key n (Nat.le_refl _)).2 x y hx hy⟩

/-! ### Turned -/
def tpos (kind : Int) (x y : Nat) (z : Int) : Nat × Nat := if kind = 0 then (y, x) else if kind = 1 then (x, z.toNat) else if kind = 2 then (z.toNat, y) else if kind = 3 then (y, z.toNat) else (z.toNat, x)
def tval (kind : Int) (x y : Nat) (z : Int) : Int := if kind = 0 then z else if kind = 1 then (y : Int) else if kind = 2 then (x : Int) else if kind = 3 then (x : Int) else (y : Int)
theorem turnSet_eq (kind : Int) (x y : Nat) (z : Int) (out : List (List Int)) : turnSet kind x y z out = set2 out (tpos kind x y z).1 (tpos kind x y z).2 (tval kind x y z) := by
  unfold turnSet tpos tval
  by_cases h0 : kind = 0
  · simp only [if_pos h0]
  by_cases h1 : kind = 1
  · simp only [if_neg h0, if_pos h1]
  by_cases h2 : kind = 2
  · simp only [if_neg h0, if_neg h1, if_pos h2]
  by_cases h3 : kind = 3
  · simp only [if_neg h0, if_neg h1, if_neg h2, if_pos h3]
  · simp only [if_neg h0, if_neg h1, if_neg h2, if_neg h3]
theorem turnT_fill (t : List (List Int)) (kind : Int) : turnT t kind = fillT (fun x y => tpos kind x y (nth (nth t x) y)) (fun x y => tval kind x y (nth (nth t x) y)) t.length t.length := by
  have e : ∀ x, turnRow t kind x = fillR (fun x y => tpos kind x y (nth (nth t x) y)) (fun x y => tval kind x y (nth (nth t x) y)) x := fun x => by
    funext out y
    unfold turnRow fillR
    simp only [turnSet_eq]
  unfold turnT turnTo fillT
  simp only [e]
/-- Of three numbers that belong together two tell the third. -/
theorem QN.three {n : Nat} {t : List (List Int)} (h : QN n t) {x y x' y' : Nat} (hx : x < n) (hy : y < n) (hx' : x' < n) (hy' : y' < n) :
    (x = x' → y = y' → nth (nth t x) y = nth (nth t x') y') ∧ (x = x' → nth (nth t x) y = nth (nth t x') y' → y = y') ∧ (y = y' → nth (nth t x) y = nth (nth t x') y' → x = x') := by
  refine ⟨fun a b => by rw [a, b], fun a b => ?_, fun a b => ?_⟩
  · subst a; exact h.row x y y' hx hy hy' b
  · subst a; exact h.col x x' y hx hx' hy b
theorem turn_facts {n : Nat} {t : List (List Int)} (h : QN n t) {kind : Int} (hk : 0 ≤ kind ∧ kind ≤ 4) :
    Sq n (turnT t kind) ∧ (∀ x y, x < n → y < n → nth (nth (turnT t kind) (tpos kind x y (nth (nth t x) y)).1) (tpos kind x y (nth (nth t x) y)).2 = tval kind x y (nth (nth t x) y)) ∧
      ∀ a b, a < n → b < n → ∃ x y, x < n ∧ y < n ∧ tpos kind x y (nth (nth t x) y) = (a, b) := by
  have hl := h.sq.1
  have kc : kind = 0 ∨ kind = 1 ∨ kind = 2 ∨ kind = 3 ∨ kind = 4 := by omega
  have h1 : ∀ x y, x < n → y < n → (tpos kind x y (nth (nth t x) y)).1 < n ∧ (tpos kind x y (nth (nth t x) y)).2 < n := fun x y hx hy => by
    have b := h.bd x y hx hy
    rcases kc with rfl | rfl | rfl | rfl | rfl <;> simp [tpos] <;> omega
  have h2 : ∀ x y x' y', x < n → y < n → x' < n → y' < n → tpos kind x y (nth (nth t x) y) = tpos kind x' y' (nth (nth t x') y') → x = x' ∧ y = y' := fun x y x' y' hx hy hx' hy' e => by
    have b := h.bd x y hx hy
    have b' := h.bd x' y' hx' hy'
    obtain ⟨t1, t2, t3⟩ := h.three hx hy hx' hy'
    rcases kc with rfl | rfl | rfl | rfl | rfl <;> simp [tpos] at e
    · omega
    · exact ⟨e.1, t2 e.1 (by omega)⟩
    · exact ⟨t3 e.2 (by omega), e.2⟩
    · exact ⟨t3 e.1 (by omega), e.1⟩
    · exact ⟨e.2, t2 e.2 (by omega)⟩
  have h3 := fill_at (val := fun x y => tval kind x y (nth (nth t x) y)) h1 h2
  rw [turnT_fill, hl]
  refine ⟨h3.1, h3.2, fun a b ha hb => ?_⟩
  rcases kc with rfl | rfl | rfl | rfl | rfl
  · exact ⟨b, a, hb, ha, by simp [tpos]⟩
  · obtain ⟨y, hy, e⟩ := h.rowS ha hb
    exact ⟨a, y, ha, hy, by simp [tpos, e]⟩
  · obtain ⟨x, hx, e⟩ := h.colS hb ha
    exact ⟨x, b, hx, hb, by simp [tpos, e]⟩
  · obtain ⟨x, hx, e⟩ := h.colS ha hb
    exact ⟨x, a, hx, ha, by simp [tpos, e]⟩
  · obtain ⟨y, hy, e⟩ := h.rowS hb ha
    exact ⟨b, y, hb, hy, by simp [tpos, e]⟩
theorem QN.turn {n : Nat} {t : List (List Int)} (h : QN n t) {kind : Int} (hk : 0 ≤ kind ∧ kind ≤ 4) : QN n (turnT t kind) := by
  have kc : kind = 0 ∨ kind = 1 ∨ kind = 2 ∨ kind = 3 ∨ kind = 4 := by omega
  obtain ⟨g1, g2, g3⟩ := turn_facts h hk
  refine ⟨h.n1, h.n2, g1, fun a b ha hb => ?_, fun a b b' ha hb hb' e => ?_, fun a a' b ha ha' hb e => ?_⟩
  · obtain ⟨x, y, hx, hy, e⟩ := g3 a b ha hb
    have h4 := g2 x y hx hy
    rw [e] at h4
    rw [h4]
    have b := h.bd x y hx hy
    rcases kc with rfl | rfl | rfl | rfl | rfl <;> simp [tval] <;> omega
  · obtain ⟨x, y, hx, hy, e1⟩ := g3 a b ha hb
    obtain ⟨x', y', hx', hy', e2⟩ := g3 a b' ha hb'
    have h4 := g2 x y hx hy
    have h5 := g2 x' y' hx' hy'
    rw [e1] at h4
    rw [e2] at h5
    rw [h4, h5] at e
    have b1 := h.bd x y hx hy
    have b2 := h.bd x' y' hx' hy'
    obtain ⟨t1, t2, t3⟩ := h.three hx hy hx' hy'
    rcases kc with rfl | rfl | rfl | rfl | rfl <;> simp [tpos, tval] at e e1 e2
    · have := t3 (by omega) e; omega
    · have := t1 (by omega) (by omega); omega
    · have := t2 (by omega) (by omega); omega
    · have := t1 (by omega) (by omega); omega
    · have := t3 (by omega) (by omega); omega
  · obtain ⟨x, y, hx, hy, e1⟩ := g3 a b ha hb
    obtain ⟨x', y', hx', hy', e2⟩ := g3 a' b ha' hb
    have h4 := g2 x y hx hy
    have h5 := g2 x' y' hx' hy'
    rw [e1] at h4
    rw [e2] at h5
    rw [h4, h5] at e
    have b1 := h.bd x y hx hy
    have b2 := h.bd x' y' hx' hy'
    obtain ⟨t1, t2, t3⟩ := h.three hx hy hx' hy'
    rcases kc with rfl | rfl | rfl | rfl | rfl <;> simp [tpos, tval] at e e1 e2
    · have := t2 (by omega) e; omega
    · have := t3 (by omega) (by omega); omega
    · have := t1 (by omega) (by omega); omega
    · have := t2 (by omega) (by omega); omega
    · have := t1 (by omega) (by omega); omega
def backK (kind : Int) : Int := if kind > 2 then 7 - kind else kind
theorem turn_back {n : Nat} {t : List (List Int)} (h : QN n t) {kind : Int} (hk : 0 ≤ kind ∧ kind ≤ 4) : turnT (turnT t kind) (backK kind) = t := by
  have kc : kind = 0 ∨ kind = 1 ∨ kind = 2 ∨ kind = 3 ∨ kind = 4 := by omega
  have hb : 0 ≤ backK kind ∧ backK kind ≤ 4 := by unfold backK; split <;> omega
  obtain ⟨g1, g2, g3⟩ := turn_facts h hk
  obtain ⟨k1, k2, k3⟩ := turn_facts (h.turn hk) hb
  refine Sq.ext k1 h.sq fun x y hx hy => ?_
  have h4 := g2 x y hx hy
  have b1 := h.bd x y hx hy
  have hp : (tpos kind x y (nth (nth t x) y)).1 < n ∧ (tpos kind x y (nth (nth t x) y)).2 < n := by
    rcases kc with rfl | rfl | rfl | rfl | rfl <;> simp [tpos] <;> omega
  have h5 := k2 _ _ hp.1 hp.2
  rw [h4] at h5
  generalize turnT (turnT t kind) (backK kind) = v at h5 ⊢
  generalize nth (nth t x) y = z at *
  rcases kc with rfl | rfl | rfl | rfl | rfl
  · simpa [tpos, tval, backK] using h5
  · simp [tpos, tval, backK] at h5; omega
  · simp [tpos, tval, backK] at h5; omega
  · simp [tpos, tval, backK] at h5; omega
  · simp [tpos, tval, backK] at h5; omega

/-! ### Renamed -/
theorem ren_QN {n : Nat} {t : List (List Int)} {r c v : List Int} (h : QN n t) (hr : Ordr n r) (hc : Ordr n c) (hv : Ordr n v) : QN n (renTo t r c v t.length) := by
  have hl := h.sq.1
  have e : renTo t r c v t.length = fillT (fun x y => ((nth r x).toNat, (nth c y).toNat)) (fun x y => nth v (nth (nth t x) y).toNat) n n := by rw [hl]; unfold renTo; rw [hl]; rfl
  have h1 : ∀ x y, x < n → y < n → (nth r x).toNat < n ∧ (nth c y).toNat < n := fun x y hx hy => by have := hr.2.1 x hx; have := hc.2.1 y hy; omega
  have h2 : ∀ x y x' y', x < n → y < n → x' < n → y' < n → (((nth r x).toNat, (nth c y).toNat) : Nat × Nat) = ((nth r x').toNat, (nth c y').toNat) → x = x' ∧ y = y' := fun x y x' y' hx hy hx' hy' e => by
    simp only [Prod.mk.injEq] at e
    have := hr.2.1 x hx
    have := hr.2.1 x' hx'
    have := hc.2.1 y hy
    have := hc.2.1 y' hy'
    exact ⟨hr.2.2 x x' hx hx' (by omega), hc.2.2 y y' hy hy' (by omega)⟩
  obtain ⟨g1, g2⟩ := fill_at (val := fun x y => nth v (nth (nth t x) y).toNat) h1 h2
  rw [← e] at g1 g2
  have g3 : ∀ a b, a < n → b < n → ∃ x y, x < n ∧ y < n ∧ nth r x = (a : Int) ∧ nth c y = (b : Int) ∧ nth (nth (renTo t r c v t.length) a) b = nth v (nth (nth t x) y).toNat := fun a b ha hb => by
    have l1 := hr.1
    have l2 := hc.1
    obtain ⟨x, hx, e1⟩ := ord_surj hr.ord (z := a) (by omega)
    obtain ⟨y, hy, e2⟩ := ord_surj hc.ord (z := b) (by omega)
    have := g2 x y (by omega) (by omega)
    dsimp only at this
    rw [e1, e2] at this
    exact ⟨x, y, by omega, by omega, e1, e2, by simpa using this⟩
  refine ⟨h.n1, h.n2, g1, fun a b ha hb => ?_, fun a b b' ha hb hb' he => ?_, fun a a' b ha ha' hb he => ?_⟩
  · obtain ⟨x, y, hx, hy, e1, e2, e3⟩ := g3 a b ha hb
    rw [e3]
    have := h.bd x y hx hy
    exact hv.2.1 _ (by omega)
  · obtain ⟨x, y, hx, hy, e1, e2, e3⟩ := g3 a b ha hb
    obtain ⟨x', y', hx', hy', e1', e2', e3'⟩ := g3 a b' ha hb'
    rw [e3, e3'] at he
    have b1 := h.bd x y hx hy
    have b2 := h.bd x' y' hx' hy'
    have h6 := hv.2.2 _ _ (by omega) (by omega) he
    have hxx : x = x' := hr.2.2 x x' hx hx' (by omega)
    have := (h.three hx hy hx' hy').2.1 hxx (by omega)
    subst this
    omega
  · obtain ⟨x, y, hx, hy, e1, e2, e3⟩ := g3 a b ha hb
    obtain ⟨x', y', hx', hy', e1', e2', e3'⟩ := g3 a' b ha' hb
    rw [e3, e3'] at he
    have b1 := h.bd x y hx hy
    have b2 := h.bd x' y' hx' hy'
    have h6 := hv.2.2 _ _ (by omega) (by omega) he
    have hyy : y = y' := hc.2.2 y y' hy hy' (by omega)
    have := (h.three hx hy hx' hy').2.2 hyy (by omega)
    subst this
    omega
theorem add_QN {n : Nat} (h1 : 1 ≤ n) (h2 : n ≤ 36) : QN n (tab n fun x y => (((x + y) % n : Nat) : Int)) := by
  have at_ : ∀ x y, x < n → y < n → nth (nth (tab n fun x y => (((x + y) % n : Nat) : Int)) x) y = (((x + y) % n : Nat) : Int) := fun x y hx hy => nth_tab hx hy
  have md : ∀ a b b', b < n → b' < n → (a + b) % n = (a + b') % n → b = b' := fun a b b' hb hb' e => by
    have h3 := Nat.div_add_mod (a + b) n
    have h4 := Nat.div_add_mod (a + b') n
    rw [e] at h3
    have hlt : ∀ p q : Nat, n * p < n * q + n → p ≤ q := fun p q h => by
      have : n * p < n * (q + 1) := by rw [Nat.mul_add, Nat.mul_one]; exact h
      have := Nat.lt_of_mul_lt_mul_left this
      omega
    have h5 := hlt ((a + b) / n) ((a + b') / n) (by omega)
    have h6 := hlt ((a + b') / n) ((a + b) / n) (by omega)
    have h7 : (a + b) / n = (a + b') / n := by omega
    rw [h7] at h3
    omega
  refine ⟨h1, h2, tab_sq n _, fun x y hx hy => ?_, fun x y y' hx hy hy' e => ?_, fun x x' y hx hx' hy e => ?_⟩
  · rw [at_ x y hx hy]; have := Nat.mod_lt (x + y) (show n > 0 by omega); omega
  · rw [at_ x y hx hy, at_ x y' hx hy'] at e; exact md x y y' hy hy' (by omega)
  · rw [at_ x y hx hy, at_ x' y hx' hy] at e; exact md y x x' hx hx' (by rw [Nat.add_comm y x, Nat.add_comm y x']; omega)
end Go.Proofs.Ythomdggbmjknnaa
