/- The tables of a x + b y + c, plainly: when they are quasigroups, and when no two commute. Nothing here walks. -/
import Derived.Test.YtakliggacjckpaaM1
import Derived.Test.YtakliggacjckpaaP1
import Derived.Test.YtakliggacjckpaaB3
import Derived.Test.YtakliggacjckpaaQ4
namespace Go.Proofs.Ytakliggacjckpaa
open Go.RowKit
set_option linter.unusedVariables false

/-- Some multiple that is not 0 vanishes exactly if there is a common divisor. -/
theorem zero_mul_iff (A n : Nat) (hn : 1 ≤ n) : (∃ d, 0 < d ∧ d < n ∧ n ∣ A * d) ↔ Nat.gcd A n ≠ 1 := by
  constructor
  · rintro ⟨d, h1, h2, h3⟩ hg
    have : n ∣ d := Nat.Coprime.dvd_of_dvd_mul_left (by rw [Nat.Coprime, Nat.gcd_comm]; exact hg) h3
    have := Nat.le_of_dvd h1 this
    omega
  · intro hg
    obtain ⟨k, hk⟩ := Nat.gcd_dvd_right A n
    obtain ⟨m, hm⟩ := Nat.gcd_dvd_left A n
    have hg0 : 0 < Nat.gcd A n := Nat.gcd_pos_of_pos_right A (by omega)
    generalize Nat.gcd A n = g at *
    have hk0 : 0 < k := by
      rcases Nat.eq_zero_or_pos k with h | h
      · subst h; simp at hk; omega
      · exact h
    refine ⟨k, hk0, ?_, ?_⟩
    · rw [hk]
      have : 2 * k ≤ g * k := Nat.mul_le_mul_right k (by omega)
      omega
    · refine ⟨m, ?_⟩
      rw [hm, hk, Nat.mul_assoc, Nat.mul_assoc, Nat.mul_comm m k]
theorem emod_eq_iff {p q n : Int} : p % n = q % n ↔ n ∣ p - q := by
  rw [Int.emod_eq_emod_iff_emod_sub_eq_zero, Int.dvd_iff_emod_eq_zero]
theorem dvd_nat {n A d : Nat} : (n : Int) ∣ (A : Int) * d ↔ n ∣ A * d := by rw [← Int.natCast_mul, Int.natCast_dvd_natCast]
/-- A difference of places is one of numbers. -/
theorem dvd_diff {n A x y : Nat} (h : y ≤ x) : (n : Int) ∣ (A : Int) * ((x : Int) - y) ↔ n ∣ A * (x - y) := by
  rw [show ((x : Int) - y) = ((x - y : Nat) : Int) by omega, dvd_nat]
theorem ordB_of {xs : List Int} {n : Int} {m : Nat} (hm : m ≤ xs.length) (h1 : ∀ i, i < m → 0 ≤ nth xs i ∧ nth xs i ≤ n - 1) (h2 : ∀ i j, i < j → j < m → nth xs i ≠ nth xs j) : ordB xs n m = true := by
  induction m with
  | zero => rfl
  | succ m ih =>
    rw [ordB_succ, ih (by omega) (fun i hi => h1 i (by omega)) (fun i j hi hj => h2 i j hi (by omega))]
    rw [show inB (nth xs m) 0 (n - 1) = true from inB_true.2 (h1 m (by omega))]
    have : hasI (xs.take m) (nth xs m) = false := hasI_no fun i hi => by
      rw [List.length_take] at hi
      rw [nth_take (by omega)]
      exact h2 i m (by omega) (by omega)
    rw [this]; rfl
/-- Rows and columns whose numbers are told: each number once. -/
theorem isOrd_fun {n : Nat} (h1 : 1 ≤ n) (h2 : n ≤ 36) (f : Nat → Int) (hb : ∀ i, i < n → 0 ≤ f i ∧ f i < n) : isOrd ((List.range n).map f) 36 = true ↔ ∀ i j, i < j → j < n → f i ≠ f j := by
  have hl : ((List.range n).map f).length = n := by simp
  unfold isOrd
  rw [hl]
  simp only [Bool.and_eq_true, decide_eq_true_eq]
  constructor
  · rintro ⟨h, _⟩ i j hij hj e
    have := ord_inj (by rw [hl]; exact Nat.le_refl _) h (show i < n by omega) hj (by rw [nth_range_map (by omega), nth_range_map hj]; exact e)
    omega
  · intro h
    refine ⟨ordB_of (by rw [hl]; exact Nat.le_refl _) (fun i hi => ?_) (fun i j hij hj => ?_), h1, h2⟩
    · rw [nth_range_map hi]; have := hb i hi; omega
    · rw [nth_range_map (by omega), nth_range_map hj]; exact h i j hij hj
section lin
variable {n a b c : Nat} (hn : 1 ≤ n) (hn2 : n ≤ 36)
theorem linF_bd (hn : 1 ≤ n) (x y : Nat) : 0 ≤ linF n a b c x y ∧ linF n a b c x y < n := ⟨Int.emod_nonneg _ (by omega), Int.emod_lt_of_pos _ (by omega)⟩
theorem linF_row (x y y' : Nat) : linF n a b c x y = linF n a b c x y' ↔ (n : Int) ∣ (b : Int) * ((y : Int) - y') := by
  unfold linF
  rw [emod_eq_iff, show (a : Int) * x + b * y + c - (a * x + b * y' + c) = (b : Int) * ((y : Int) - y') by rw [Int.mul_sub]; omega]
theorem linF_col (x x' y : Nat) : linF n a b c x y = linF n a b c x' y ↔ (n : Int) ∣ (a : Int) * ((x : Int) - x') := by
  unfold linF
  rw [emod_eq_iff, show (a : Int) * x + b * y + c - (a * x' + b * y + c) = (a : Int) * ((x : Int) - x') by rw [Int.mul_sub]; omega]
theorem gcd_free (hn : 1 ≤ n) (A : Nat) : Nat.gcd A n = 1 ↔ ∀ i j, i < j → j < n → ¬ (n : Int) ∣ (A : Int) * ((i : Int) - j) := by
  constructor
  · intro h i j hij hj hd
    have h2 : (n : Int) ∣ (A : Int) * ((j : Int) - i) := by
      rw [show (A : Int) * ((j : Int) - i) = -((A : Int) * ((i : Int) - j)) by rw [Int.mul_sub, Int.mul_sub]; omega]
      exact Int.dvd_neg.2 hd
    rw [dvd_diff (by omega)] at h2
    exact (zero_mul_iff A n hn).1 ⟨j - i, by omega, by omega, h2⟩ h
  · intro h
    apply Classical.byContradiction
    intro hg
    obtain ⟨d, h1, h2, h3⟩ := (zero_mul_iff A n hn).2 hg
    refine h 0 d h1 h2 ?_
    rw [show (A : Int) * (((0 : Nat) : Int) - d) = -((A : Int) * d) by rw [Int.mul_sub]; simp]
    exact Int.dvd_neg.2 (dvd_nat.2 h3)
theorem lin_len : (linT n a b c).length = n := by simp [linT, tab]
theorem lin_row {x : Nat} (hx : x < n) : nth (linT n a b c) x = (List.range n).map fun y => linF n a b c x y := by simp only [linT, tab, Int.toNat_natCast]; rw [nth_range_map hx]
theorem lin_at {x y : Nat} (hx : x < n) (hy : y < n) : nth (nth (linT n a b c) x) y = linF n a b c x y := by rw [lin_row hx, nth_range_map hy]
theorem lin_col {y : Nat} (hy : y < n) : colL (linT n a b c) y = (List.range n).map fun x => linF n a b c x y := by
  unfold colL
  rw [lin_len]
  refine List.map_congr_left fun x hx => ?_
  exact lin_at (List.mem_range.1 hx) hy
/-- The table is a quasigroup exactly if a and b have no divisor in common with n. -/
theorem lin_isQ (hn : 1 ≤ n) (hn2 : n ≤ 36) : isQ (linT n a b c) = true ↔ Nat.gcd a n = 1 ∧ Nat.gcd b n = 1 := by
  rw [isQ_in (by rw [lin_len]; exact hn) (by rw [lin_len]; exact hn2), Bool.and_eq_true, allB_iff, allB_iff, lin_len]
  have hr : (∀ x, x < n → rowOk (linT n a b c) x = true) ↔ Nat.gcd b n = 1 := by
    rw [gcd_free hn b]
    constructor
    · intro h
      have h0 := h 0 (by omega)
      unfold rowOk at h0
      rw [Bool.and_eq_true, lin_row (by omega), isOrd_fun hn hn2 _ fun i _ => linF_bd hn 0 i] at h0
      exact fun i j hij hj hd => h0.2 i j hij hj ((linF_row 0 i j).2 hd)
    · intro h x hx
      unfold rowOk
      rw [Bool.and_eq_true, lin_row hx, isOrd_fun hn hn2 _ fun i _ => linF_bd hn x i]
      exact ⟨by simp [lin_len], fun i j hij hj e => h i j hij hj ((linF_row x i j).1 e)⟩
  have hc : (∀ y, y < n → colOk (linT n a b c) y = true) ↔ Nat.gcd a n = 1 := by
    rw [gcd_free hn a]
    constructor
    · intro h
      have h0 := h 0 (by omega)
      unfold colOk at h0
      rw [lin_col (by omega), isOrd_fun hn hn2 _ fun i _ => linF_bd hn i 0] at h0
      exact fun i j hij hj hd => h0 i j hij hj ((linF_col i j 0).2 hd)
    · intro h y hy
      unfold colOk
      rw [lin_col hy, isOrd_fun hn hn2 _ fun i _ => linF_bd hn i y]
      exact fun i j hij hj e => h i j hij hj ((linF_col i j y).1 e)
  rw [hr, hc]
  exact ⟨fun h => ⟨h.2, h.1⟩, fun h => ⟨h.2, h.1⟩⟩
theorem cancel_unit {b n : Nat} (h : Nat.gcd b n = 1) (z : Int) : (n : Int) ∣ (b : Int) * z ↔ (n : Int) ∣ z := by
  constructor
  · intro hd
    obtain ⟨u, v, huv⟩ := bezout b n
    rw [h] at huv
    have e : z = ((b : Int) * z) * u + (n : Int) * (v * z) := by
      calc z = (1 : Int) * z := by rw [Int.one_mul]
        _ = ((b : Int) * u + (n : Int) * v) * z := by rw [huv]; rfl
        _ = ((b : Int) * z) * u + (n : Int) * (v * z) := by rw [Int.add_mul, Int.mul_assoc, Int.mul_comm u z, ← Int.mul_assoc, Int.mul_assoc (n : Int) v z]
    rw [e]
    exact Int.dvd_add (Int.dvd_trans hd (Int.dvd_mul_right _ _)) (Int.dvd_mul_right _ _)
  · intro hd; exact Int.dvd_trans hd (Int.dvd_mul_left _ _)
theorem dvd_shift {n : Nat} {p q : Int} (h : (n : Int) ∣ p - q) : (n : Int) ∣ p ↔ (n : Int) ∣ q := by
  constructor
  · intro hp
    have := Int.dvd_sub hp h
    rwa [show p - (p - q) = q by omega] at this
  · intro hq
    have := Int.dvd_add h hq
    rwa [show p - q + q = p by omega] at this
theorem lin_swap {x y : Nat} (hx : x < n) (hy : y < n) (hb : b ≤ n) : swapQ (linT n a b c) x y = true ↔ (n : Int) ∣ ((a + n - b : Nat) : Int) * ((y : Int) - x) := by
  unfold swapQ
  rw [lin_at hx hy, lin_at hy hx, beq_iff_eq]
  unfold linF
  rw [emod_eq_iff]
  rw [← Int.dvd_neg]
  refine dvd_shift ⟨(x : Int) - y, ?_⟩
  rw [show ((a + n - b : Nat) : Int) = (a : Int) + n - b by omega]
  simp only [Int.add_mul, Int.sub_mul, Int.mul_sub, Int.neg_sub]
  omega
theorem lin_chain {k x y : Nat} (hk : k < n) (hx : x < n) (hy : y < n) (hb : Nat.gcd b n = 1) : chainQ (linT n a b c) k x y = true ↔ (n : Int) ∣ ((a + n - 1 : Nat) : Int) * ((y : Int) - x) := by
  have hn : 1 ≤ n := by omega
  have b1 := linF_bd (a := a) (b := b) (c := c) hn k x
  have b2 := linF_bd (a := a) (b := b) (c := c) hn k y
  unfold chainQ
  rw [lin_at hk hx, lin_at hk hy]
  obtain ⟨v1, h1⟩ := Int.eq_ofNat_of_zero_le b1.1
  obtain ⟨v2, h2⟩ := Int.eq_ofNat_of_zero_le b2.1
  rw [h1, h2, Int.toNat_natCast, Int.toNat_natCast, lin_at (by omega) hy, lin_at (by omega) hx, beq_iff_eq]
  unfold linF at h1 h2 ⊢
  rw [emod_eq_iff]
  have e1 := Int.mul_ediv_add_emod ((a : Int) * k + b * x + c) n
  have e2 := Int.mul_ediv_add_emod ((a : Int) * k + b * y + c) n
  rw [h1] at e1
  rw [h2] at e2
  generalize ((a : Int) * k + b * x + c) / n = q1 at *
  generalize ((a : Int) * k + b * y + c) / n = q2 at *
  rw [← cancel_unit hb (((a + n - 1 : Nat) : Int) * ((y : Int) - x)), ← Int.dvd_neg]
  refine dvd_shift ⟨(a : Int) * q1 - a * q2 - (b : Int) * (y - x), ?_⟩
  rw [show ((a + n - 1 : Nat) : Int) = (a : Int) + n - 1 by omega]
  have f1 : (a : Int) * v1 = a * (a * k) + a * (b * x) + a * c - a * (n * q1) := by rw [← Int.mul_add, ← Int.mul_add, ← Int.mul_sub]; congr 1; omega
  have f2 : (a : Int) * v2 = a * (a * k) + a * (b * y) + a * c - a * (n * q2) := by rw [← Int.mul_add, ← Int.mul_add, ← Int.mul_sub]; congr 1; omega
  have g1 : (n : Int) * (a * q1) = a * (n * q1) := by rw [← Int.mul_assoc, Int.mul_comm (n : Int) a, Int.mul_assoc]
  have g2 : (n : Int) * (a * q2) = a * (n * q2) := by rw [← Int.mul_assoc, Int.mul_comm (n : Int) a, Int.mul_assoc]
  have g3 : ∀ z : Int, (b : Int) * (a * z) = a * (b * z) := fun z => by rw [← Int.mul_assoc, Int.mul_comm (b : Int) a, Int.mul_assoc]
  have g4 : ∀ z : Int, (b : Int) * (n * z) = n * (b * z) := fun z => by rw [← Int.mul_assoc, Int.mul_comm (b : Int) n, Int.mul_assoc]
  simp only [Int.add_mul, Int.sub_mul, Int.mul_sub, Int.mul_add, Int.one_mul, g1, g2, g3, g4, f1, f2]
  omega
theorem sumB_zero_iff {n : Nat} {f : Nat → Nat} : sumB n f = 0 ↔ ∀ i, i < n → f i = 0 := by
  constructor
  · intro h
    induction n with
    | zero => intro i hi; omega
    | succ n ih =>
      rw [sumB_succ] at h
      intro i hi
      by_cases e : i = n
      · subst e; omega
      · exact ih (by omega) i (by omega)
  · exact sumB_zero_of
theorem cntB_zero_iff {n : Nat} {p : Nat → Bool} : cntB n p = 0 ↔ ∀ i, i < n → p i = false := by
  unfold cntB
  rw [List.countP_eq_zero]
  simp [List.mem_range]
theorem lin_swaps (hn : 1 ≤ n) (hb : b ≤ n) : swapN (linT n a b c) = 0 ↔ Nat.gcd (a + n - b) n = 1 := by
  unfold swapN
  rw [sumB_zero_iff, lin_len, gcd_free hn]
  constructor
  · intro h i j hij hj hd
    have h1 := cntB_zero_iff.1 (h j hj) i hij
    rw [(lin_swap hj (by omega) hb).2 hd] at h1; cases h1
  · intro h x hx
    rw [cntB_zero_iff]
    intro y hy
    cases hs : swapQ (linT n a b c) x y with
    | false => rfl
    | true => exact absurd ((lin_swap hx (by omega) hb).1 hs) (h y x hy hx)
theorem lin_chains (hn : 1 ≤ n) (hb : Nat.gcd b n = 1) : chainN (linT n a b c) = 0 ↔ Nat.gcd (a + n - 1) n = 1 := by
  unfold chainN
  rw [sumB_zero_iff, lin_len, gcd_free hn]
  constructor
  · intro h i j hij hj hd
    have h1 := cntB_zero_iff.1 (sumB_zero_iff.1 (h 0 (by omega)) j hj) i hij
    rw [(lin_chain (by omega) hj (by omega) hb).2 hd] at h1; cases h1
  · intro h k hk
    rw [sumB_zero_iff]
    intro x hx
    rw [cntB_zero_iff]
    intro y hy
    cases hs : chainQ (linT n a b c) k x y with
    | false => rfl
    | true => exact absurd ((lin_chain hk hx (by omega) hb).1 hs) (h y x hy hx)
/-- .. and totally antisymmetric exactly if a - 1 and a - b have none either. -/
theorem lin_isT (hn : 1 ≤ n) (hn2 : n ≤ 36) (hb : b ≤ n) (h : isQ (linT n a b c) = true) : isT (linT n a b c) = true ↔ Nat.gcd (a + n - 1) n = 1 ∧ Nat.gcd (a + n - b) n = 1 := by
  have hg := (lin_isQ hn hn2).1 h
  unfold isT
  rw [h, Bool.true_and, Bool.and_eq_true, decide_eq_true_eq, decide_eq_true_eq, lin_swaps hn hb, lin_chains hn hg.2]
  exact ⟨fun h => ⟨h.2, h.1⟩, fun h => ⟨h.2, h.1⟩⟩
end lin
end Go.Proofs.Ytakliggacjckpaa
