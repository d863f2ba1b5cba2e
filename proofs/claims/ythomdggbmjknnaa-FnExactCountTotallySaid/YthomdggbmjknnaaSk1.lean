/- Totally antisymmetric quasigroups by search: both searches, plainly. Nothing here walks. -/
import Derived.Test.YthomdggbmjknnaaB1
import Derived.Test.YthomdggbmjknnaaF1
import Derived.Test.YthomdggbmjknnaaQ4
namespace Go.Proofs.Ythomdggbmjknnaa
open Go.RowKit
set_option linter.unusedVariables false

abbrev T2 := List (List Int)
def anyB (k : Nat) (p : Nat → Bool) : Bool := (List.range k).any p
theorem anyB_zero (p : Nat → Bool) : anyB 0 p = false := rfl
theorem anyB_succ (k : Nat) (p : Nat → Bool) : anyB (k + 1) p = (anyB k p || p k) := by simp [anyB, List.range_succ]
theorem anyB_iff {k : Nat} {p : Nat → Bool} : anyB k p = true ↔ ∃ i, i < k ∧ p i = true := by simp [anyB]
theorem anyB_yes {p : Nat → Bool} {k m : Nat} (hk : k < m) (h : p k = true) : anyB m p = true := anyB_iff.2 ⟨k, hk, h⟩
theorem anyB_more {p : Nat → Bool} {k : Nat} (h : anyB k p = false) (h2 : p k = false) : anyB (k + 1) p = false := by rw [anyB_succ, h, h2]; rfl

/-- May a number stand at a place, says the reference. -/
def free0 (t : T2) (x y : Nat) (z : Int) : Bool := decide (x ≤ y) || !(nth (nth t y) x == z)
def freeC (t : T2) (y : Nat) (z : Int) (k : Nat) : Bool := allB k fun k => !(nth (nth t k) y == z)
def freeR (t : T2) (x : Nat) (z : Int) (k : Nat) : Bool := allB k fun k => !(nth (nth t x) k == z)
def freeS (t : T2) (x y : Nat) (z : Int) : Bool := (free0 t x y z && freeC t y z x) && freeR t x z y

structure SS where
  cnt : Nat
  found : T2
  tab : T2
def srchStep (rec : T2 → SS) (x y : Nat) (first : Bool) (s : SS) (z : Nat) : SS :=
  if first && decide (0 < s.cnt) then s else
  if freeS s.tab x y z then ⟨s.cnt + (rec (set2 s.tab x y z)).cnt, if s.cnt = 0 ∧ 0 < (rec (set2 s.tab x y z)).cnt then (rec (set2 s.tab x y z)).found else s.found, (rec (set2 s.tab x y z)).tab⟩
  else s
def srch (n : Nat) (first : Bool) : Nat → T2 → SS
  | 0, t => if totB t then ⟨1, t, t⟩ else ⟨0, [], t⟩
  | m + 1, t => iterK (srchStep (srch n first m) ((n * n - (m + 1)) / n) ((n * n - (m + 1)) % n) first) ⟨0, [], t⟩ n

/-- Is a number used in a row or a column. -/
def usedC (t : T2) (y : Nat) (z : Int) (k : Nat) : Bool := anyB k fun r => nth (nth t r) y == z
def usedI (t : T2) (x y : Nat) (z : Int) : Bool := hasI ((nth t x).take y) z || usedC t y z x
def hit0 (t : T2) (x y : Nat) : Bool := decide (0 ≤ nth (nth t x) y) && nth (nth t x) y == nth (nth t y) x
def hit1 (t : T2) (x y c : Nat) : Bool := decide (0 ≤ nth (nth t c) x) && (decide (0 ≤ nth (nth t c) y) && (decide (0 ≤ nth (nth t (nth (nth t c) x).toNat) y) && nth (nth t (nth (nth t c) x).toNat) y == nth (nth t (nth (nth t c) y).toNat) x))
def clashY (n : Nat) (t : T2) (x y : Nat) : Bool := hit0 t x y || anyB n (hit1 t x y)
def clashX (n : Nat) (t : T2) (x : Nat) : Bool := anyB x (clashY n t x)
def clash (n : Nat) (t : T2) : Bool := anyB n (clashX n t)

structure KS (σ : Type) where
  s : σ
  tab : T2
  stop : Bool
def seekStep {σ : Type} (n : Nat) (rec : σ → T2 → KS σ) (x y : Nat) (k : KS σ) (z : Nat) : KS σ :=
  if k.stop then k else
  if usedI k.tab x y z then k else
  if clash n (set2 k.tab x y z) then ⟨k.s, set2 (set2 k.tab x y z) x y (-1), false⟩ else
  if (rec k.s (set2 k.tab x y z)).stop then rec k.s (set2 k.tab x y z) else ⟨(rec k.s (set2 k.tab x y z)).s, set2 (rec k.s (set2 k.tab x y z)).tab x y (-1), false⟩
def seekF {σ : Type} (n : Nat) (stp : σ → T2 → σ × Bool) : Nat → σ → T2 → KS σ
  | 0, s, t => ⟨(stp s t).1, t, (stp s t).2⟩
  | m + 1, s, t => iterK (seekStep n (seekF n stp m) ((n * n - (m + 1)) / n) ((n * n - (m + 1)) % n)) ⟨s, t, false⟩ n

/-! ### Tables of small numbers -/
structure Sm (lo : Int) (n : Nat) (t : T2) : Prop where
  sq : Sq n t
  cell : ∀ x y, x < n → y < n → lo ≤ nth (nth t x) y ∧ nth (nth t x) y < n
theorem Sm.set {lo : Int} {n : Nat} {t : T2} (h : Sm lo n t) {x y : Nat} {z : Int} (hx : x < n) (hy : y < n) (hz : lo ≤ z ∧ z < n) : Sm lo n (set2 t x y z) :=
  ⟨set2_sq h.sq x y z hx, fun i j hi hj => by
    rw [nth_set2 h.sq hx hy]
    split
    · exact hz
    · exact h.cell i j hi hj⟩
theorem Sm.zeros {n : Nat} (hn : 1 ≤ n) : Sm 0 n (zeros n) := ⟨zeros_sq n, fun x y hx hy => by rw [Go.Proofs.Ythomdggbmjknnaa.zeros, nth_replicate hx, nth_replicate hy]; omega⟩
theorem Sm.wq {n : Nat} {t : T2} (h : Sm 0 n t) (h1 : 1 ≤ n) (h2 : n ≤ 36) : WQ t :=
  ⟨by rw [h.sq.1]; exact ⟨h1, h2⟩, fun x hx => by rw [h.sq.1] at hx ⊢; exact h.sq.2 x hx, fun x y hx hy => by rw [h.sq.1] at hx hy ⊢; exact h.cell x y hx hy⟩
theorem Sm.unset (n : Nat) : Sm (-1) n (tab n fun _ _ => -1) := ⟨tab_sq n _, fun x y hx hy => by rw [nth_tab hx hy]; omega⟩
theorem at_lt {n m : Nat} (h1 : 1 ≤ n) (h : m + 1 ≤ n * n) : (n * n - (m + 1)) / n < n ∧ (n * n - (m + 1)) % n < n :=
  ⟨Nat.div_lt_of_lt_mul (by omega), Nat.mod_lt _ (by omega)⟩
theorem srchStep_tab {rec : T2 → SS} {n x y : Nat} {first : Bool} (hx : x < n) (hy : y < n) (hr : ∀ t, Sm 0 n t → Sm 0 n (rec t).tab) {s : SS} (h : Sm 0 n s.tab) {z : Nat} (hz : z < n) : Sm 0 n (srchStep rec x y first s z).tab := by
  unfold srchStep
  split
  · exact h
  · split
    · exact hr _ (h.set hx hy (by omega))
    · exact h
theorem srch_tab {n : Nat} (h1 : 1 ≤ n) (first : Bool) : ∀ (m : Nat) (hm : m ≤ n * n) (t : T2), Sm 0 n t → Sm 0 n (srch n first m t).tab := by
  intro m
  induction m with
  | zero => intro _ t h; unfold srch; split <;> exact h
  | succ m ih =>
    intro hm t h
    exact iterK_inv (fun _ (s : SS) => Sm 0 n s.tab) h (fun b k hk hb => srchStep_tab (at_lt h1 hm).1 (at_lt h1 hm).2 (ih (by omega)) hb hk) n (Nat.le_refl _)
theorem iterK_le {step : SS → Nat → SS} {a : SS} {c : Nat} (h0 : a.cnt = 0) (h : ∀ b k, (step b k).cnt ≤ b.cnt + c) (k : Nat) : (iterK step a k).cnt ≤ k * c := by
  induction k with
  | zero => show a.cnt ≤ _; omega
  | succ k ih => have := h (iterK step a k) k; show (step _ k).cnt ≤ _; rw [Nat.succ_mul]; omega
theorem srch_cnt {n : Nat} (first : Bool) : ∀ (m : Nat) (t : T2), (srch n first m t).cnt ≤ n ^ m := by
  intro m
  induction m with
  | zero => intro t; unfold srch; split <;> simp
  | succ m ih =>
    intro t
    have := iterK_le (step := srchStep (srch n first m) ((n * n - (m + 1)) / n) ((n * n - (m + 1)) % n) first) (a := ⟨0, [], t⟩) (c := n ^ m) rfl (fun b k => by
      unfold srchStep
      split
      · omega
      · split
        · show b.cnt + _ ≤ _; have := ih (set2 b.tab ((n * n - (m + 1)) / n) ((n * n - (m + 1)) % n) k); omega
        · omega) n
    show SS.cnt (iterK _ _ _) ≤ _
    rw [Nat.pow_succ]
    exact Nat.le_trans this (Nat.le_of_eq (Nat.mul_comm _ _))
theorem pow525 {n m : Nat} (hn : n ≤ 5) (hm : m ≤ n * n) : n ^ m ≤ 300000000000000000 := by
  have h1 : n ^ m ≤ 5 ^ m := Nat.pow_le_pow_left hn m
  have h3 : n * n ≤ 5 * 5 := Nat.mul_le_mul hn hn
  have h2 : 5 ^ m ≤ 5 ^ 25 := Nat.pow_le_pow_right (by omega) (by omega)
  have h4 : (5 : Nat) ^ 25 = 298023223876953125 := by decide
  omega
/-- Behind the first one that is found nothing is done any more. -/
theorem srch_stop {rec : T2 → SS} {x y : Nat} {s : SS} (h : 0 < s.cnt) (z : Nat) : srchStep rec x y true s z = s := by simp [srchStep, h]
theorem iterK_stay {α : Type} {step : α → Nat → α} {a : α} {k n : Nat} (hk : k ≤ n) (h : ∀ j, step (iterK step a k) j = iterK step a k) : iterK step a n = iterK step a k := by
  induction n with
  | zero =>
    have e : k = 0 := by omega
    rw [e]
  | succ n ih =>
    by_cases e : k = n + 1
    · rw [e]
    · show step (iterK step a n) n = _
      rw [ih (by omega)]
      exact h n
theorem seekStep_tab {σ : Type} {n : Nat} {rec : σ → T2 → KS σ} {x y : Nat} (hx : x < n) (hy : y < n) (hr : ∀ s t, Sm (-1) n t → Sm (-1) n (rec s t).tab) {k : KS σ} (h : Sm (-1) n k.tab) {z : Nat} (hz : z < n) : Sm (-1) n (seekStep n rec x y k z).tab := by
  unfold seekStep
  have h1 := h.set hx hy (z := (z : Int)) (by omega)
  split
  · exact h
  split
  · exact h
  split
  · exact h1.set hx hy (by omega)
  split
  · exact hr _ _ h1
  · exact (hr _ _ h1).set hx hy (by omega)
theorem seek_tab {σ : Type} {n : Nat} (h1 : 1 ≤ n) (stp : σ → T2 → σ × Bool) : ∀ (m : Nat) (hm : m ≤ n * n) (s : σ) (t : T2), Sm (-1) n t → Sm (-1) n (seekF n stp m s t).tab := by
  intro m
  induction m with
  | zero => intro _ s t h; exact h
  | succ m ih =>
    intro hm s t h
    exact iterK_inv (fun _ (k : KS σ) => Sm (-1) n k.tab) h (fun b k hk hb => seekStep_tab (at_lt h1 hm).1 (at_lt h1 hm).2 (ih (by omega)) hb hk) n (Nat.le_refl _)
theorem seek_stop {σ : Type} {n : Nat} {rec : σ → T2 → KS σ} {x y : Nat} {k : KS σ} (h : k.stop = true) (z : Nat) : seekStep n rec x y k z = k := by simp [seekStep, h]

/-! ### Evaluated -/
section
variable {α : Type}
def fN (n : Nat) (k : Nat → α) : α := match n with
  | 0 => k 0
  | m + 1 => k (m + 1)
theorem fN_eq (n : Nat) (k : Nat → α) : fN n k = k n := by cases n <;> rfl
def fI2 (i : Int) (k : Int → α) : α := match i with
  | .ofNat n => fN n fun n => k (.ofNat n)
  | .negSucc n => fN n fun n => k (.negSucc n)
theorem fI2_eq (i : Int) (k : Int → α) : fI2 i k = k i := by cases i <;> simp [fI2, fN_eq]
def fL : List Int → (List Int → α) → α
  | [], k => k []
  | x :: r, k => fI2 x fun x => fL r fun r => k (x :: r)
theorem fL_eq (l : List Int) (k : List Int → α) : fL l k = k l := by
  induction l generalizing k with
  | nil => rfl
  | cons x r ih => simp only [fL, fI2_eq, ih]
def fT : T2 → (T2 → α) → α
  | [], k => k []
  | x :: r, k => fL x fun x => fT r fun r => k (x :: r)
theorem fT_eq (l : T2) (k : T2 → α) : fT l k = k l := by
  induction l generalizing k with
  | nil => rfl
  | cons x r ih => simp only [fT, fL_eq, ih]
end
def iterE {α β : Type} (step : α → Nat → (α → β) → β) (k : α → β) (a : α) : Nat → Nat → β
  | _, 0 => k a
  | z, r + 1 => step a z fun a => iterE step k a (z + 1) r
theorem iterE_eq {α β : Type} {step : α → Nat → (α → β) → β} {st : α → Nat → α} (h : ∀ a z k, step a z k = k (st a z)) (k : α → β) (a : α) (r z : Nat) : iterE step k (iterK st a z) z r = k (iterK st a (z + r)) := by
  induction r generalizing z with
  | zero => rfl
  | succ r ih =>
    show step _ z _ = _
    rw [h]
    have := ih (z + 1)
    rw [show z + 1 + r = z + (r + 1) by omega] at this
    exact this
/-- The searches once more, each state told before the next. -/
def srchE {β : Type} (n : Nat) (first : Bool) : Nat → T2 → (SS → β) → β
  | 0, t, k => if totB t then k ⟨1, t, t⟩ else k ⟨0, [], t⟩
  | m + 1, t, k => iterE (fun s z k => bif first && Nat.blt 0 s.cnt then k s else bif freeS s.tab ((n * n - (m + 1)) / n) ((n * n - (m + 1)) % n) z then fT (set2 s.tab ((n * n - (m + 1)) / n) ((n * n - (m + 1)) % n) z) fun t1 => srchE n first m t1 fun r => fN (s.cnt + r.cnt) fun c => bif Nat.beq s.cnt 0 && Nat.blt 0 r.cnt then k ⟨c, r.found, r.tab⟩ else k ⟨c, s.found, r.tab⟩
      else k s) k ⟨0, [], t⟩ 0 n
theorem srchE_eq {β : Type} (n : Nat) (first : Bool) : ∀ (m : Nat) (t : T2) (k : SS → β), srchE n first m t k = k (srch n first m t) := by
  intro m
  induction m with
  | zero => intro t k; unfold srchE srch; split <;> rfl
  | succ m ih =>
    intro t k
    have := iterE_eq (β := β) (st := srchStep (srch n first m) ((n * n - (m + 1)) / n) ((n * n - (m + 1)) % n) first) (step := fun s z k => bif first && Nat.blt 0 s.cnt then k s else bif freeS s.tab ((n * n - (m + 1)) / n) ((n * n - (m + 1)) % n) z then fT (set2 s.tab ((n * n - (m + 1)) / n) ((n * n - (m + 1)) % n) z) fun t1 => srchE n first m t1 fun r => fN (s.cnt + r.cnt) fun c => bif Nat.beq s.cnt 0 && Nat.blt 0 r.cnt then k ⟨c, r.found, r.tab⟩ else k ⟨c, s.found, r.tab⟩
      else k s) (fun s z k => by
        simp only [fT_eq, ih, fN_eq, srchStep, cond_eq_ite]
        have e1 : Nat.blt 0 s.cnt = decide (0 < s.cnt) := by cases s.cnt <;> rfl
        rw [e1]
        by_cases h1 : (first && decide (0 < s.cnt)) = true
        · rw [if_pos h1, if_pos h1]
        · rw [if_neg h1, if_neg h1]
          split
          · have e2 : ∀ c : Nat, (Nat.beq s.cnt 0 && Nat.blt 0 c) = decide (s.cnt = 0 ∧ 0 < c) := fun c => by cases s.cnt <;> cases c <;> simp [Nat.blt, Nat.beq, Nat.ble]
            rw [e2]
            by_cases h2 : s.cnt = 0 ∧ 0 < (srch n first m (set2 s.tab ((n * n - (m + 1)) / n) ((n * n - (m + 1)) % n) z)).cnt
            · rw [if_pos (decide_eq_true h2), if_pos h2]
            · rw [if_neg (by simpa using h2), if_neg h2]
          · rfl) k ⟨0, [], t⟩ n 0
    rw [Nat.zero_add] at this
    exact this
def seekE {σ β : Type} (n : Nat) (stp : σ → T2 → (σ → Bool → β) → β) : Nat → σ → T2 → (KS σ → β) → β
  | 0, s, t, k => stp s t fun s b => k ⟨s, t, b⟩
  | m + 1, s, t, k => iterE (fun q z k => bif q.stop then k q else bif usedI q.tab ((n * n - (m + 1)) / n) ((n * n - (m + 1)) % n) z then k q else fT (set2 q.tab ((n * n - (m + 1)) / n) ((n * n - (m + 1)) % n) z) fun t1 =>
      bif clash n t1 then fT (set2 t1 ((n * n - (m + 1)) / n) ((n * n - (m + 1)) % n) (-1)) fun t2 => k ⟨q.s, t2, false⟩ else
      seekE n stp m q.s t1 fun r => bif r.stop then k ⟨r.s, r.tab, r.stop⟩ else fT (set2 r.tab ((n * n - (m + 1)) / n) ((n * n - (m + 1)) % n) (-1)) fun t2 => k ⟨r.s, t2, false⟩) k ⟨s, t, false⟩ 0 n
theorem seekE_eq {σ β : Type} (n : Nat) {stp : σ → T2 → (σ → Bool → β) → β} {st : σ → T2 → σ × Bool} (hst : ∀ s t k, stp s t k = k (st s t).1 (st s t).2) : ∀ (m : Nat) (s : σ) (t : T2) (k : KS σ → β), seekE n stp m s t k = k (seekF n st m s t) := by
  intro m
  induction m with
  | zero => intro s t k; unfold seekE seekF; rw [hst]
  | succ m ih =>
    intro s t k
    have := iterE_eq (β := β) (st := seekStep n (seekF n st m) ((n * n - (m + 1)) / n) ((n * n - (m + 1)) % n)) (step := fun (q : KS σ) z k => bif q.stop then k q else bif usedI q.tab ((n * n - (m + 1)) / n) ((n * n - (m + 1)) % n) z then k q else fT (set2 q.tab ((n * n - (m + 1)) / n) ((n * n - (m + 1)) % n) z) fun t1 =>
      bif clash n t1 then fT (set2 t1 ((n * n - (m + 1)) / n) ((n * n - (m + 1)) % n) (-1)) fun t2 => k ⟨q.s, t2, false⟩ else
      seekE n stp m q.s t1 fun r => bif r.stop then k ⟨r.s, r.tab, r.stop⟩ else fT (set2 r.tab ((n * n - (m + 1)) / n) ((n * n - (m + 1)) % n) (-1)) fun t2 => k ⟨r.s, t2, false⟩) (fun q z k => by
        simp only [fT_eq, ih, seekStep, cond_eq_ite]
        split
        · rfl
        · split
          · rfl
          · split
            · rfl
            · split <;> rfl) k ⟨s, t, false⟩ n 0
    rw [Nat.zero_add] at this
    exact this
end Go.Proofs.Ythomdggbmjknnaa
