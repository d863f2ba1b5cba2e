/- Chains, plainly: runs, pairs of states, beginnings, the errors of a kind, numbers of undetected errors. Nothing here walks. -/
import Derived.Test.YtnpkanlieflbiaaC1
namespace Go.Proofs.Ytnpkanlieflbiaa
open Go.RowKit
set_option linter.unusedVariables false

/-! ### Runs -/
def runN (x : Chn) : Nat → Nat → List Int → Nat
  | _, s, [] => s
  | k, s, d :: ds => runN x (k + 1) (nxt x k s d.toNat) ds
theorem runN_snoc (x : Chn) (k s : Nat) (ds : List Int) (d : Int) : runN x k s (ds ++ [d]) = nxt x (k + ds.length) (runN x k s ds) d.toNat := by
  induction ds generalizing k s with
  | nil => simp [runN]
  | cons e ds ih =>
    simp only [List.cons_append, runN, ih, List.length_cons]
    rw [show k + 1 + ds.length = k + (ds.length + 1) by omega]
theorem runN_append (x : Chn) (k s : Nat) (ds es : List Int) : runN x k s (ds ++ es) = runN x (k + ds.length) (runN x k s ds) es := by
  induction ds generalizing k s with
  | nil => simp [runN]
  | cons e ds ih =>
    simp only [List.cons_append, runN, ih, List.length_cons]
    rw [show k + 1 + ds.length = k + (ds.length + 1) by omega]
/-- Digits below n. -/
def Digs (n : Nat) (ds : List Int) : Prop := ∀ d ∈ ds, 0 ≤ d ∧ d < n
theorem VC.runLt {x : Chn} (h : VC x) {ds : List Int} (hd : Digs x.b ds) : ∀ {k s : Nat}, k + ds.length ≤ x.n → s < x.S → runN x k s ds < x.S := by
  induction ds with
  | nil => intro k s _ hs; exact hs
  | cons e ds ih =>
    intro k s hk hs
    simp only [List.length_cons] at hk
    have he := hd e (by simp)
    exact ih (fun d hm => hd d (by simp [hm])) (by omega) ((h.cellN (by omega) hs (by omega)).2)

/-! ### Numbers of words that lead two states to the end -/
def bothR (x : Chn) : Nat → Nat → Nat → Nat → Nat
  | 0, _, s, t => if s = x.stop.toNat ∧ t = x.stop.toNat then 1 else 0
  | r + 1, k, s, t => sumN x.b fun d => bothR x r (k + 1) (nxt x k s d) (nxt x k t d)
def bothV (x : Chn) (k s t : Nat) : Nat := bothR x (x.n - k) k s t
theorem bothR_le (x : Chn) : ∀ r k s t, bothR x r k s t ≤ x.b ^ r
  | 0, _, s, t => by unfold bothR; split <;> simp
  | r + 1, k, s, t => by
    unfold bothR
    rw [Nat.pow_succ, Nat.mul_comm]
    exact sumN_le fun d _ => bothR_le x r (k + 1) _ _
theorem bothR_same (x : Chn) : ∀ r k s, bothR x r k s s = endsR x r k s
  | 0, _, s => by simp [bothR, endsR]
  | r + 1, k, s => by
    unfold bothR endsR
    exact sumN_congr fun d _ => bothR_same x r (k + 1) _
theorem bothV_same (x : Chn) (k s : Nat) : bothV x k s s = endsV x k s := bothR_same x _ _ _
theorem bothV_last (x : Chn) (s t : Nat) : bothV x x.n s t = if s = x.stop.toNat ∧ t = x.stop.toNat then 1 else 0 := by simp [bothV, bothR]
theorem bothV_step (x : Chn) {k : Nat} (hk : k < x.n) (s t : Nat) : bothV x k s t = sumN x.b fun d => bothV x (k + 1) (nxt x k s d) (nxt x k t d) := by
  unfold bothV
  rw [show x.n - k = (x.n - (k + 1)) + 1 by omega]
  rfl
theorem VC.bothLe {x : Chn} (h : VC x) (k s t : Nat) : bothV x k s t ≤ 1000000000000000 :=
  Nat.le_trans (bothR_le x _ _ _ _) (h.powN (by omega))

/-! ### Numbers of beginnings -/
def begV (x : Chn) : Nat → Nat → Nat
  | 0, s => if s = x.start.toNat then 1 else 0
  | k + 1, s => sumN x.S fun r => sumN x.b fun d => if nxt x k r d = s then begV x k r else 0
theorem VC.begSum {x : Chn} (h : VC x) : ∀ k, k ≤ x.n → sumN x.S (begV x k) = x.b ^ k
  | 0, _ => by
    exact sumN_one (k := x.start.toNat) h.nat.2.2.1 1
  | k + 1, hk => by
    have ih := h.begSum k (by omega)
    show (sumN x.S fun s => sumN x.S fun r => sumN x.b fun d => if nxt x k r d = s then begV x k r else 0) = _
    rw [sumN_comm]
    have e : ∀ r, r < x.S → (sumN x.S fun s => sumN x.b fun d => if nxt x k r d = s then begV x k r else 0) = x.b * begV x k r := by
      intro r hr
      rw [sumN_comm]
      rw [← sumN_const]
      refine sumN_congr fun d hd => ?_
      have := (h.cellN (k := k) (by omega) hr hd).2
      rw [show (fun s => if nxt x k r d = s then begV x k r else 0) = fun s => if s = nxt x k r d then begV x k r else 0 from funext fun s => by simp only [eq_comm]]
      exact sumN_one this _
    rw [sumN_congr e, sumN_mul, ih, Nat.pow_succ, Nat.mul_comm]
theorem VC.begLe {x : Chn} (h : VC x) {k s : Nat} (hk : k ≤ x.n) (hs : s < x.S) : begV x k s ≤ 1000000000000000 := by
  have h1 := h.begSum k hk
  have h2 := sumN_part (n := x.S) (k := s + 1) (begV x k) (by omega)
  rw [sumN_succ] at h2
  have h3 := h.powN hk
  omega

/-! ### The errors of a kind -/
/-- Into which symbols an error of a kind changes some, in order. -/
def chg (kind : Int) (b : Nat) (f : List Int) : List (List Int) :=
  if kind = 0 then ((List.range b).filter fun (c : Nat) => decide ((c : Int) ≠ nth f 0)).map fun (c : Nat) => [(c : Int)]
  else if kind = 1 ∨ kind = 2 then (if nth f 0 ≠ nth f (f.length - 1) then [(f.set 0 (nth f (f.length - 1))).set (f.length - 1) (nth f 0)] else [])
  else if kind = 3 ∨ kind = 4 then (if nth f 0 = nth f (f.length - 1) then ((List.range b).filter fun (c : Nat) => decide ((c : Int) ≠ nth f 0)).map fun (c : Nat) => (f.set 0 (c : Int)).set (f.length - 1) (c : Int) else [])
  else if kind = 5 then (if nth f 1 = 0 ∧ 2 ≤ nth f 0 ∧ nth f 0 ≤ 9 then [[1, nth f 0]] else if nth f 0 = 1 ∧ 2 ≤ nth f 1 ∧ nth f 1 ≤ 9 then [[nth f 1, 0]] else [])
  else []
/-- The digits of a number, of n places: list number i of all lists. -/
def tup (b : Nat) : Nat → Nat → List Int
  | 0, _ => []
  | n + 1, i => tup b n (i / b) ++ [((i % b : Nat) : Int)]
theorem tup_length (b n i : Nat) : (tup b n i).length = n := by
  induction n generalizing i with
  | zero => rfl
  | succ n ih => simp [tup, ih]
theorem tup_digs {b : Nat} (hb : 1 ≤ b) (n i : Nat) : Digs b (tup b n i) := by
  induction n generalizing i with
  | zero => intro d hd; simp [tup] at hd
  | succ n ih =>
    intro d hd
    rcases List.mem_append.1 hd with h | h
    · exact ih _ d h
    · simp at h; subst h
      have := Nat.mod_lt i (show b > 0 by omega)
      omega
theorem chg_digs {b : Nat} {kind : Int} (hb10 : kind = 5 → 10 ≤ b) (hb : 2 ≤ b) {f : List Int} (hf : Digs b f) (hl : f.length = errLen kind) : ∀ t ∈ chg kind b f, Digs b t ∧ t.length = f.length := by
  have hn : ∀ i, i < f.length → 0 ≤ nth f i ∧ nth f i < b := fun i hi => hf _ (nth_mem hi)
  have hset : ∀ (g : List Int) (i : Nat) (y : Int), Digs b g → 0 ≤ y → y < b → Digs b (g.set i y) := fun g i y hg h1 h2 d hd => by
    rcases List.mem_or_eq_of_mem_set hd with h | rfl
    · exact hg d h
    · exact ⟨h1, h2⟩
  intro t ht
  have hel := errLen_bd kind
  unfold chg at ht
  split at ht
  · rename_i hk
    obtain ⟨c, hc, rfl⟩ := List.mem_map.1 ht
    have := List.mem_range.1 (List.mem_filter.1 hc).1
    refine ⟨fun d hd => ?_, ?_⟩
    · simp at hd; subst hd; omega
    · rw [hl, errLen, if_pos hk]; rfl
  · split at ht
    · split at ht
      · simp at ht; subst ht
        have h0 := hn 0 (by omega)
        have h1 := hn (f.length - 1) (by omega)
        exact ⟨hset _ _ _ (hset _ _ _ hf h1.1 h1.2) h0.1 h0.2, by simp⟩
      · simp at ht
    · split at ht
      · split at ht
        · obtain ⟨c, hc, rfl⟩ := List.mem_map.1 ht
          have := List.mem_range.1 (List.mem_filter.1 hc).1
          exact ⟨hset _ _ _ (hset _ _ _ hf (by omega) (by omega)) (by omega) (by omega), by simp⟩
        · simp at ht
      · split at ht
        · rename_i h5
          have := hb10 h5
          have hl2 : f.length = 2 := by rw [hl, h5]; rfl
          split at ht
          · rename_i h6
            simp at ht; subst ht
            refine ⟨fun d hd => ?_, by simp [hl2]⟩
            simp at hd
            omega
          · split at ht
            · rename_i h6
              simp at ht; subst ht
              refine ⟨fun d hd => ?_, by simp [hl2]⟩
              simp at hd
              omega
            · simp at ht
        · simp at ht

/-! ### Sums over lists -/
def sumL {α : Type} (L : List α) (f : α → Nat) : Nat := (L.map f).sum
theorem sumL_nil {α : Type} (f : α → Nat) : sumL [] f = 0 := rfl
theorem sumL_cons {α : Type} (a : α) (L : List α) (f : α → Nat) : sumL (a :: L) f = f a + sumL L f := by simp [sumL]
theorem sumL_append {α : Type} (L M : List α) (f : α → Nat) : sumL (L ++ M) f = sumL L f + sumL M f := by simp [sumL]
theorem sumL_snoc {α : Type} (L : List α) (a : α) (f : α → Nat) : sumL (L ++ [a]) f = sumL L f + f a := by rw [sumL_append]; simp [sumL]
theorem sumL_range (n : Nat) (f : Nat → Nat) : sumL (List.range n) f = sumN n f := rfl
theorem sumL_congr {α : Type} {L : List α} {f g : α → Nat} (h : ∀ a ∈ L, f a = g a) : sumL L f = sumL L g := by
  induction L with
  | nil => rfl
  | cons a L ih => rw [sumL_cons, sumL_cons, h a (by simp), ih fun b hb => h b (by simp [hb])]
theorem sumL_le {α : Type} {L : List α} {f : α → Nat} {c : Nat} (h : ∀ a ∈ L, f a ≤ c) : sumL L f ≤ L.length * c := by
  induction L with
  | nil => simp [sumL]
  | cons a L ih =>
    rw [sumL_cons, List.length_cons, Nat.succ_mul]
    have := h a (by simp)
    have := ih fun b hb => h b (by simp [hb])
    omega
theorem sumL_take_le {α : Type} (L : List α) (f : α → Nat) (k : Nat) : sumL (L.take k) f ≤ sumL L f := by
  have := congrArg (fun M => sumL M f) (List.take_append_drop k L)
  simp only [sumL_append] at this
  omega
theorem sumL_flatMap {α β : Type} (L : List α) (g : α → List β) (f : β → Nat) : sumL (L.flatMap g) f = sumL L fun a => sumL (g a) f := by
  induction L with
  | nil => rfl
  | cons a L ih => rw [List.flatMap_cons, sumL_append, ih, sumL_cons]
theorem sumL_map {α β : Type} (L : List α) (g : α → β) (f : β → Nat) : sumL (L.map g) f = sumL L fun a => f (g a) := by simp [sumL, Function.comp_def]
theorem sumL_sumN {α : Type} (L : List α) (n : Nat) (f : α → Nat → Nat) : sumL L (fun a => sumN n (f a)) = sumN n fun i => sumL L fun a => f a i := by
  induction L with
  | nil => rw [sumL_nil]; exact (sumN_zeros fun i _ => rfl).symm
  | cons a L ih => rw [sumL_cons, ih, ← sumN_add]; exact sumN_congr fun i _ => (sumL_cons a L fun a => f a i).symm

/-! ### Numbers of undetected errors -/
/-- All lists of symbols with what errors of a kind make of them. -/
def wrongP (kind : Int) (b : Nat) : List (List Int × List Int) := (List.range (b ^ errLen kind)).flatMap fun i => (chg kind b (tup b (errLen kind) i)).map fun t => (tup b (errLen kind) i, t)
def all1 (x : Chn) (place n : Nat) (p : List Int × List Int) (s : Nat) : Nat := begV x place s * endsV x (place + n) (runN x place s p.1)
def bad1 (x : Chn) (place n : Nat) (p : List Int × List Int) (s : Nat) : Nat := begV x place s * bothV x (place + n) (runN x place s p.1) (runN x place s p.2)
def allAt (x : Chn) (kind : Int) (place : Nat) : Nat := sumL (wrongP kind x.b) fun p => sumN x.S (all1 x place (errLen kind) p)
def badAt (x : Chn) (kind : Int) (place : Nat) : Nat := sumL (wrongP kind x.b) fun p => sumN x.S (bad1 x place (errLen kind) p)
/-- What is at least one of two numbers that lead to the end. -/
theorem bothR_le_ends (x : Chn) : ∀ r k s t, bothR x r k s t ≤ endsR x r k s
  | 0, _, s, t => by unfold bothR endsR; split <;> split <;> simp_all
  | r + 1, k, s, t => by
    unfold bothR endsR
    exact sumN_mono fun d _ => bothR_le_ends x r (k + 1) _ _
theorem bad_le_all (x : Chn) (place n : Nat) (p : List Int × List Int) (s : Nat) : bad1 x place n p s ≤ all1 x place n p s :=
  Nat.mul_le_mul (Nat.le_refl _) (bothR_le_ends x _ _ _ _)
theorem badAt_le_allAt (x : Chn) (kind : Int) (place : Nat) : badAt x kind place ≤ allAt x kind place := by
  unfold badAt allAt
  generalize wrongP kind x.b = L
  induction L with
  | nil => exact Nat.le_refl _
  | cons a L ih =>
    rw [sumL_cons, sumL_cons]
    have := sumN_mono (n := x.S) fun s _ => bad_le_all x place (errLen kind) a s
    omega
theorem chg_len (kind : Int) {b : Nat} (hb : 1 ≤ b) (f : List Int) : (chg kind b f).length ≤ b := by
  have hr : ∀ p : Nat → Bool, ((List.range b).filter p).length ≤ b := fun p => Nat.le_trans (List.length_filter_le _ _) (by simp)
  unfold chg
  split
  · simpa using hr _
  · split
    · split <;> simp <;> omega
    · split
      · split
        · simpa using hr _
        · simp
      · split
        · split
          · simp; omega
          · split <;> simp <;> omega
        · simp
theorem wrongP_len (kind : Int) {b : Nat} (hb : 1 ≤ b) : (wrongP kind b).length ≤ b ^ errLen kind * b := by
  have h : ∀ n, ((List.range n).flatMap fun i => (chg kind b (tup b (errLen kind) i)).map fun t => (tup b (errLen kind) i, t)).length ≤ n * b := by
    intro n
    induction n with
    | zero => simp
    | succ n ih =>
      rw [List.range_succ, List.flatMap_append, List.length_append, Nat.succ_mul]
      have := chg_len kind hb (tup b (errLen kind) n)
      simp only [List.flatMap_cons, List.flatMap_nil, List.append_nil, List.length_map]
      omega
  exact h _
theorem VC.all1Sum {x : Chn} (h : VC x) {place n : Nat} (hp : place + n ≤ x.n) (p : List Int × List Int) : sumN x.S (all1 x place n p) ≤ x.b ^ (x.n - n) := by
  have h1 : sumN x.S (all1 x place n p) ≤ sumN x.S fun s => x.b ^ (x.n - (place + n)) * begV x place s := sumN_mono fun s _ => by
    unfold all1
    rw [Nat.mul_comm]
    exact Nat.mul_le_mul (endsR_le x _ _ _) (Nat.le_refl _)
  rw [sumN_mul, h.begSum place (by omega), ← Nat.pow_add] at h1
  rwa [show x.n - (place + n) + place = x.n - n by omega] at h1
theorem VC.allAtLe {x : Chn} (h : VC x) {kind : Int} {place : Nat} (hp : place + errLen kind ≤ x.n) : allAt x kind place ≤ 36000000000000000 := by
  have hb := h.nat.1
  have h1 : allAt x kind place ≤ (wrongP kind x.b).length * x.b ^ (x.n - errLen kind) := sumL_le fun p _ => h.all1Sum hp p
  have h2 := Nat.mul_le_mul_right (x.b ^ (x.n - errLen kind)) (wrongP_len kind (show 1 ≤ x.b by omega))
  have h3 : x.b ^ errLen kind * x.b * x.b ^ (x.n - errLen kind) = x.b * x.b ^ x.n := by
    rw [Nat.mul_comm (x.b ^ errLen kind) x.b, Nat.mul_assoc, ← Nat.pow_add, show errLen kind + (x.n - errLen kind) = x.n by omega]
  have h4 := h.powN (Nat.le_refl x.n)
  have h5 : x.b * x.b ^ x.n ≤ 36 * 1000000000000000 := Nat.mul_le_mul (by omega) h4
  omega
end Go.Proofs.Ytnpkanlieflbiaa
