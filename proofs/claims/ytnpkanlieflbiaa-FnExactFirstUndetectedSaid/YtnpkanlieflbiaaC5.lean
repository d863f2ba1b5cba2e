/- The errors of a kind in the order of the reference: the same list. Nothing here walks. -/
import Derived.Test.YtnpkanlieflbiaaC2
namespace Go.Proofs.Ytnpkanlieflbiaa
open Go.RowKit
set_option linter.unusedVariables false

/-- What the reference lists at two symbols. -/
def cellS (kind : Int) (b a c : Nat) : List (List Int × List Int) :=
  if kind = 0 then (if a ≠ c then [([(a : Int)], [(c : Int)])] else [])
  else if kind = 1 then (if a ≠ c then [([(a : Int), (c : Int)], [(c : Int), (a : Int)])] else [])
  else if kind = 3 then (if a ≠ c then [([(a : Int), (a : Int)], [(c : Int), (c : Int)])] else [])
  else if kind = 5 then (if a = 1 ∧ 2 ≤ c ∧ c ≤ 9 then [([1, (c : Int)], [(c : Int), 0])] else []) ++ (if c = 0 ∧ 2 ≤ a ∧ a ≤ 9 then [([(a : Int), 0], [1, (a : Int)])] else [])
  else if kind = 2 then (List.range b).flatMap fun e => if a = e then [] else [([(a : Int), (c : Int), (e : Int)], [(e : Int), (c : Int), (a : Int)])]
  else if kind = 4 then (List.range b).flatMap fun e => if a = e then [] else [([(a : Int), (c : Int), (a : Int)], [(e : Int), (c : Int), (e : Int)])]
  else []
def wrongS (kind : Int) (b : Nat) : List (List Int × List Int) := (List.range b).flatMap fun a => (List.range b).flatMap fun c => cellS kind b a c

theorem range_split {α : Type} (m b : Nat) (g : Nat → List α) : (List.range (m * b)).flatMap g = (List.range m).flatMap fun j => (List.range b).flatMap fun c => g (j * b + c) := by
  induction m with
  | zero => simp
  | succ m ih =>
    rw [List.range_succ, List.flatMap_append, ← ih, Nat.succ_mul, List.range_add, List.flatMap_append]
    simp [List.flatMap_map]
theorem flatMap_congr' {α β : Type} {L : List α} {f g : α → List β} (h : ∀ a ∈ L, f a = g a) : L.flatMap f = L.flatMap g := by
  induction L with
  | nil => rfl
  | cons a L ih => rw [List.flatMap_cons, List.flatMap_cons, h a (by simp), ih fun b hb => h b (by simp [hb])]
theorem filter_flat {α β : Type} (L : List α) (p : α → Bool) (f : α → β) : (L.filter p).map f = L.flatMap fun c => if p c then [f c] else [] := by
  induction L with
  | nil => rfl
  | cons a L ih =>
    rw [List.flatMap_cons, ← ih]
    cases h : p a <;> simp [h]
theorem range_one {β : Type} {b a : Nat} (h : a < b) (G : List β) : ((List.range b).flatMap fun c => if a = c then G else []) = G := by
  induction b with
  | zero => omega
  | succ b ih =>
    rw [List.range_succ, List.flatMap_append]
    by_cases e : a = b
    · subst e
      have : ((List.range a).flatMap fun c => if a = c then G else []) = [] := by
        rw [List.flatMap_eq_nil_iff]
        intro c hc
        rw [if_neg (by have := List.mem_range.1 hc; omega)]
      rw [this]; simp
    · rw [ih (by omega)]; simp [e]
theorem tup_split {b c : Nat} (hc : c < b) (n j : Nat) : tup b (n + 1) (j * b + c) = tup b n j ++ [(c : Int)] := by
  show tup b n ((j * b + c) / b) ++ [(((j * b + c) % b : Nat) : Int)] = _
  rw [Nat.mul_comm, Nat.mul_add_div (by omega), Nat.div_eq_of_lt hc, Nat.add_zero, Nat.mul_add_mod, Nat.mod_eq_of_lt hc]
/-- All lists of n + 1 symbols, by the first n and the last. -/
theorem tups_split {β : Type} (b n : Nat) (F : List Int → List β) : ((List.range (b ^ (n + 1))).flatMap fun i => F (tup b (n + 1) i)) = (List.range (b ^ n)).flatMap fun j => (List.range b).flatMap fun (c : Nat) => F (tup b n j ++ [(c : Int)]) := by
  rw [Nat.pow_succ, range_split]
  exact flatMap_congr' fun j _ => flatMap_congr' fun c hc => by rw [tup_split (List.mem_range.1 hc)]
theorem tups1 {β : Type} (b : Nat) (F : List Int → List β) : ((List.range (b ^ 1)).flatMap fun i => F (tup b 1 i)) = (List.range b).flatMap fun (a : Nat) => F [(a : Int)] := by
  rw [tups_split b 0 F]; simp [tup]
theorem tups2 {β : Type} (b : Nat) (F : List Int → List β) : ((List.range (b ^ 2)).flatMap fun i => F (tup b 2 i)) = (List.range b).flatMap fun (a : Nat) => (List.range b).flatMap fun (c : Nat) => F [(a : Int), (c : Int)] := by
  rw [tups_split b 1 F, tups1 b fun l => (List.range b).flatMap fun (c : Nat) => F (l ++ [(c : Int)])]; rfl
theorem tups3 {β : Type} (b : Nat) (F : List Int → List β) : ((List.range (b ^ 3)).flatMap fun i => F (tup b 3 i)) = (List.range b).flatMap fun (a : Nat) => (List.range b).flatMap fun (c : Nat) => (List.range b).flatMap fun (e : Nat) => F [(a : Int), (c : Int), (e : Int)] := by
  rw [tups_split b 2 F, tups2 b fun l => (List.range b).flatMap fun (c : Nat) => F (l ++ [(c : Int)])]; rfl
/-- The reference lists the same pairs in the same order. -/
theorem wrongS_eq {kind : Int} (hk : 0 ≤ kind ∧ kind ≤ 5) (b : Nat) : wrongS kind b = wrongP kind b := by
  have hk2 : kind = 0 ∨ kind = 1 ∨ kind = 2 ∨ kind = 3 ∨ kind = 4 ∨ kind = 5 := by omega
  unfold wrongP wrongS
  have fm : ∀ {α β : Type} (L : List α) (f : α → β), L.map f = L.flatMap fun a => [f a] := fun L f => by
    induction L with
    | nil => rfl
    | cons a L ih => rw [List.flatMap_cons, List.map_cons, ih]; rfl
  rcases hk2 with rfl | rfl | rfl | rfl | rfl | rfl
  · rw [show errLen 0 = 1 from rfl, tups1 b fun l => (chg 0 b l).map fun t => (l, t)]
    refine flatMap_congr' fun a ha => ?_
    simp only [chg, if_pos, List.map_map]
    rw [filter_flat]
    refine flatMap_congr' fun c hc => ?_
    simp only [cellS, if_pos, nth, List.getD_cons_zero, Function.comp_apply, decide_eq_true_eq, ne_eq, Int.natCast_inj]
    by_cases e : a = c
    · rw [if_neg (by omega), if_neg (by omega)]
    · rw [if_pos e, if_pos (by omega)]
  · rw [show errLen 1 = 2 from rfl, tups2 b fun l => (chg 1 b l).map fun t => (l, t)]
    refine flatMap_congr' fun a ha => flatMap_congr' fun c hc => ?_
    have e1 : chg 1 b [(a : Int), (c : Int)] = if (a : Int) ≠ c then [[(c : Int), (a : Int)]] else [] := rfl
    rw [e1]
    have e2 : cellS 1 b a c = if a ≠ c then [([(a : Int), (c : Int)], [(c : Int), (a : Int)])] else [] := rfl
    rw [e2]
    by_cases e : a = c
    · rw [if_neg (by omega), if_neg (by omega)]; rfl
    · rw [if_pos e, if_pos (by omega)]; rfl
  · rw [show errLen 2 = 3 from rfl, tups3 b fun l => (chg 2 b l).map fun t => (l, t)]
    refine flatMap_congr' fun a ha => flatMap_congr' fun c hc => ?_
    have e2 : cellS 2 b a c = (List.range b).flatMap fun e => if a = e then [] else [([(a : Int), (c : Int), (e : Int)], [(e : Int), (c : Int), (a : Int)])] := rfl
    rw [e2]
    refine flatMap_congr' fun e he => ?_
    have e1 : chg 2 b [(a : Int), (c : Int), (e : Int)] = if (a : Int) ≠ e then [[(e : Int), (c : Int), (a : Int)]] else [] := rfl
    rw [e1]
    by_cases h : a = e
    · rw [if_pos h, if_neg (by omega)]; rfl
    · rw [if_neg h, if_pos (by omega)]; rfl
  · rw [show errLen 3 = 2 from rfl, tups2 b fun l => (chg 3 b l).map fun t => (l, t)]
    refine flatMap_congr' fun a ha => ?_
    have e1 : ∀ c : Nat, ((chg 3 b [(a : Int), (c : Int)]).map fun t => ([(a : Int), (c : Int)], t)) = if a = c then ((List.range b).flatMap fun x => if a ≠ x then [([(a : Int), (a : Int)], [(x : Int), (x : Int)])] else []) else [] := by
      intro c
      have e0 : chg 3 b [(a : Int), (c : Int)] = if (a : Int) = c then ((List.range b).filter fun (x : Nat) => decide ((x : Int) ≠ (a : Int))).map fun (x : Nat) => [(x : Int), (x : Int)] else [] := rfl
      rw [e0]
      by_cases h : a = c
      · subst h
        rw [if_pos rfl, if_pos rfl, List.map_map, filter_flat]
        refine flatMap_congr' fun x _ => ?_
        by_cases hx : a = x
        · rw [if_neg (by simp [hx]), if_neg (by simp [hx])]
        · rw [if_pos (by simp; omega), if_pos hx]; rfl
      · rw [if_neg (by omega), if_neg h]; rfl
    rw [flatMap_congr' fun c _ => e1 c, range_one (List.mem_range.1 ha)]
    rfl
  · rw [show errLen 4 = 3 from rfl, tups3 b fun l => (chg 4 b l).map fun t => (l, t)]
    refine flatMap_congr' fun a ha => flatMap_congr' fun c hc => ?_
    have e1 : ∀ e : Nat, ((chg 4 b [(a : Int), (c : Int), (e : Int)]).map fun t => ([(a : Int), (c : Int), (e : Int)], t)) = if a = e then ((List.range b).flatMap fun x => if a = x then [] else [([(a : Int), (c : Int), (a : Int)], [(x : Int), (c : Int), (x : Int)])]) else [] := by
      intro e
      have e0 : chg 4 b [(a : Int), (c : Int), (e : Int)] = if (a : Int) = e then ((List.range b).filter fun (x : Nat) => decide ((x : Int) ≠ (a : Int))).map fun (x : Nat) => [(x : Int), (c : Int), (x : Int)] else [] := rfl
      rw [e0]
      by_cases h : a = e
      · subst h
        rw [if_pos rfl, if_pos rfl, List.map_map, filter_flat]
        refine flatMap_congr' fun x _ => ?_
        by_cases hx : a = x
        · rw [if_neg (by simp [hx]), if_pos hx]
        · rw [if_pos (by simp; omega), if_neg hx]; rfl
      · rw [if_neg (by omega), if_neg h]; rfl
    rw [flatMap_congr' fun e _ => e1 e, range_one (List.mem_range.1 ha)]
    rfl
  · rw [show errLen 5 = 2 from rfl, tups2 b fun l => (chg 5 b l).map fun t => (l, t)]
    refine flatMap_congr' fun a ha => flatMap_congr' fun c hc => ?_
    have e1 : chg 5 b [(a : Int), (c : Int)] = if (c : Int) = 0 ∧ 2 ≤ (a : Int) ∧ (a : Int) ≤ 9 then [[1, (a : Int)]] else if (a : Int) = 1 ∧ 2 ≤ (c : Int) ∧ (c : Int) ≤ 9 then [[(c : Int), 0]] else [] := rfl
    have e2 : cellS 5 b a c = (if a = 1 ∧ 2 ≤ c ∧ c ≤ 9 then [([1, (c : Int)], [(c : Int), 0])] else []) ++ (if c = 0 ∧ 2 ≤ a ∧ a ≤ 9 then [([(a : Int), 0], [1, (a : Int)])] else []) := rfl
    rw [e1, e2]
    by_cases h1 : c = 0 ∧ 2 ≤ a ∧ a ≤ 9
    · rw [if_pos h1, if_neg (by omega), if_pos (by omega)]
      rw [h1.1]; rfl
    · rw [if_neg h1, if_neg (show ¬ ((c : Int) = 0 ∧ 2 ≤ (a : Int) ∧ (a : Int) ≤ 9) by omega)]
      by_cases h2 : a = 1 ∧ 2 ≤ c ∧ c ≤ 9
      · rw [if_pos h2, if_pos (by omega)]
        rw [h2.1]; rfl
      · rw [if_neg h2, if_neg (by omega)]; rfl

/-- The reference adds up by states first. -/
theorem allAt_eq (x : Chn) (kind : Int) (place : Nat) : allAt x kind place = sumN x.S fun s => sumL (wrongP kind x.b) fun p => all1 x place (errLen kind) p s := sumL_sumN _ _ _
theorem badAt_eq (x : Chn) (kind : Int) (place : Nat) : badAt x kind place = sumN x.S fun s => sumL (wrongP kind x.b) fun p => bad1 x place (errLen kind) p s := sumL_sumN _ _ _
theorem all1_zero {x : Chn} {place n s : Nat} {p : List Int × List Int} (h : begV x place s = 0) : all1 x place n p s = 0 := by simp [all1, h]
theorem bad1_zero {x : Chn} {place n s : Nat} {p : List Int × List Int} (h : begV x place s = 0) : bad1 x place n p s = 0 := by simp [bad1, h]
theorem sumL_zero {α : Type} {L : List α} {f : α → Nat} (h : ∀ a ∈ L, f a = 0) : sumL L f = 0 := by
  have := sumL_le (L := L) (f := f) (c := 0) fun a ha => by rw [h a ha]; exact Nat.le_refl _
  omega
theorem sumL_take_succ {α : Type} [Inhabited α] {L : List α} {k : Nat} (h : k < L.length) (f : α → Nat) : sumL (L.take (k + 1)) f = sumL (L.take k) f + f (nth L k) := by
  rw [take_nth h, sumL_snoc]
end Go.Proofs.Ytnpkanlieflbiaa
/- Partial sums over the errors of a kind, in the order of each side. Nothing here walks. -/
namespace Go.Proofs.Ytnpkanlieflbiaa
open Go.RowKit
set_option linter.unusedVariables false

/-! ### Tuple by tuple, change by change, state by state -/
def ptI (F : List Int × List Int → Nat → Nat) (S : Nat) (kind : Int) (b i : Nat) : Nat := sumN i fun j => sumL (chg kind b (tup b (errLen kind) j)) fun t => sumN S (F (tup b (errLen kind) j, t))
def ptJ (F : List Int × List Int → Nat → Nat) (S : Nat) (kind : Int) (b i : Nat) (d : List (List Int)) : Nat := ptI F S kind b i + sumL d fun t => sumN S (F (tup b (errLen kind) i, t))
def ptK (F : List Int × List Int → Nat → Nat) (S : Nat) (kind : Int) (b i : Nat) (d : List (List Int)) (t : List Int) (s : Nat) : Nat := ptJ F S kind b i d + sumN s (F (tup b (errLen kind) i, t))
theorem ptI_zero (F : List Int × List Int → Nat → Nat) (S : Nat) (kind : Int) (b : Nat) : ptI F S kind b 0 = 0 := rfl
theorem ptJ_nil (F : List Int × List Int → Nat → Nat) (S : Nat) (kind : Int) (b i : Nat) : ptJ F S kind b i [] = ptI F S kind b i := by unfold ptJ; rw [sumL_nil]; omega
theorem ptJ_all (F : List Int × List Int → Nat → Nat) (S : Nat) (kind : Int) (b i : Nat) : ptJ F S kind b i (chg kind b (tup b (errLen kind) i)) = ptI F S kind b (i + 1) := by unfold ptJ ptI; rw [sumN_succ]
theorem ptK_zero (F : List Int × List Int → Nat → Nat) (S : Nat) (kind : Int) (b i : Nat) (d : List (List Int)) (t : List Int) : ptK F S kind b i d t 0 = ptJ F S kind b i d := by unfold ptK; rw [sumN_zero]; omega
theorem ptK_succ (F : List Int × List Int → Nat → Nat) (S : Nat) (kind : Int) (b i : Nat) (d : List (List Int)) (t : List Int) (s : Nat) : ptK F S kind b i d t (s + 1) = ptK F S kind b i d t s + F (tup b (errLen kind) i, t) s := by unfold ptK; rw [sumN_succ]; omega
theorem ptK_all (F : List Int × List Int → Nat → Nat) (S : Nat) (kind : Int) (b i : Nat) (d : List (List Int)) (t : List Int) : ptK F S kind b i d t S = ptJ F S kind b i (d ++ [t]) := by unfold ptK ptJ; rw [sumL_snoc]; omega
theorem ptI_end (F : List Int × List Int → Nat → Nat) (S : Nat) (kind : Int) (b : Nat) : ptI F S kind b (b ^ errLen kind) = sumL (wrongP kind b) fun p => sumN S (F p) := by
  unfold ptI wrongP
  rw [sumL_flatMap, sumL_range]
  exact sumN_congr fun i _ => (sumL_map (chg kind b (tup b (errLen kind) i)) (fun t => (tup b (errLen kind) i, t)) fun p => sumN S (F p)).symm
theorem sumL_prefix {α : Type} {L M : List α} (h : L <+: M) (f : α → Nat) : sumL L f ≤ sumL M f := by
  obtain ⟨K, rfl⟩ := h
  rw [sumL_append]; omega
theorem ptK_le (F : List Int × List Int → Nat → Nat) (S : Nat) (kind : Int) (b : Nat) {i s : Nat} {d : List (List Int)} {t : List Int} (hi : i < b ^ errLen kind) (hs : s ≤ S) (hp : (d ++ [t]) <+: chg kind b (tup b (errLen kind) i)) :
    ptK F S kind b i d t s ≤ sumL (wrongP kind b) fun p => sumN S (F p) := by
  have h1 : ptK F S kind b i d t s ≤ ptK F S kind b i d t S := by
    unfold ptK
    have := sumN_part (F (tup b (errLen kind) i, t)) hs
    omega
  rw [ptK_all] at h1
  have h2 : ptJ F S kind b i (d ++ [t]) ≤ ptJ F S kind b i (chg kind b (tup b (errLen kind) i)) := by
    unfold ptJ
    have := sumL_prefix hp fun t => sumN S (F (tup b (errLen kind) i, t))
    omega
  rw [ptJ_all] at h2
  have h3 : ptI F S kind b (i + 1) ≤ ptI F S kind b (b ^ errLen kind) := sumN_part _ (by omega)
  rw [ptI_end] at h3
  omega

/-! ### State by state, pair by pair -/
def stP (F : List Int × List Int → Nat → Nat) (W : List (List Int × List Int)) (s k : Nat) : Nat := (sumN s fun r => sumL W fun p => F p r) + sumL (W.take k) fun p => F p s
theorem stP_start (F : List Int × List Int → Nat → Nat) (W : List (List Int × List Int)) : stP F W 0 0 = 0 := by simp [stP, sumN, sumL]
theorem stP_zero (F : List Int × List Int → Nat → Nat) (W : List (List Int × List Int)) (s : Nat) : stP F W s 0 = sumN s fun r => sumL W fun p => F p r := by simp [stP, sumL]
theorem stP_succ (F : List Int × List Int → Nat → Nat) (W : List (List Int × List Int)) (s : Nat) {k : Nat} (hk : k < W.length) : stP F W s (k + 1) = stP F W s k + F (nth W k) s := by
  unfold stP; rw [sumL_take_succ hk]; omega
theorem stP_next (F : List Int × List Int → Nat → Nat) (W : List (List Int × List Int)) (s : Nat) : stP F W s W.length = stP F W (s + 1) 0 := by
  rw [stP_zero, sumN_succ]; unfold stP; rw [List.take_length]
theorem stP_skip (F : List Int × List Int → Nat → Nat) (W : List (List Int × List Int)) (s : Nat) (h : ∀ p, F p s = 0) : stP F W s 0 = stP F W (s + 1) 0 := by
  rw [stP_zero, stP_zero, sumN_succ, sumL_zero fun p _ => h p]; omega
theorem stP_le (F : List Int × List Int → Nat → Nat) (W : List (List Int × List Int)) {s k S : Nat} (hs : s < S) : stP F W s k ≤ sumN S fun r => sumL W fun p => F p r := by
  have h1 := sumL_take_le W (fun p => F p s) k
  have h2 := sumN_part (fun r => sumL W fun p => F p r) (show s + 1 ≤ S by omega)
  rw [sumN_succ] at h2
  unfold stP
  omega

/-! ### Both sides' totals -/
theorem ptI_all {x : Chn} {kind : Int} {place : Nat} : ptI (all1 x place (errLen kind)) x.S kind x.b (x.b ^ errLen kind) = allAt x kind place := ptI_end _ _ _ _
theorem ptI_bad {x : Chn} {kind : Int} {place : Nat} : ptI (bad1 x place (errLen kind)) x.S kind x.b (x.b ^ errLen kind) = badAt x kind place := ptI_end _ _ _ _
theorem stP_all {x : Chn} {kind : Int} {place : Nat} : stP (all1 x place (errLen kind)) (wrongP kind x.b) x.S 0 = allAt x kind place := by rw [stP_zero]; exact (allAt_eq x kind place).symm
theorem stP_bad {x : Chn} {kind : Int} {place : Nat} : stP (bad1 x place (errLen kind)) (wrongP kind x.b) x.S 0 = badAt x kind place := by rw [stP_zero]; exact (badAt_eq x kind place).symm

/-! ### How many pairs there are -/
theorem flatMap_len {β : Type} {n m : Nat} {f : Nat → List β} (h : ∀ i, i < n → (f i).length ≤ m) : ((List.range n).flatMap f).length ≤ n * m := by
  induction n with
  | zero => simp
  | succ n ih =>
    rw [List.range_succ, List.flatMap_append, List.length_append, Nat.succ_mul]
    have h1 := ih fun i hi => h i (by omega)
    have h2 := h n (by omega)
    simp only [List.flatMap_cons, List.flatMap_nil, List.append_nil]
    omega
theorem cellS_len (kind : Int) {b : Nat} (hb : 2 ≤ b) (a c : Nat) : (cellS kind b a c).length ≤ b := by
  have h1 : ∀ (f : Nat → List (List Int × List Int)), (∀ e, (f e).length ≤ 1) → ((List.range b).flatMap f).length ≤ b := fun f h => by
    have := flatMap_len (n := b) (m := 1) (f := f) fun i _ => h i
    omega
  unfold cellS
  split
  · split <;> simp <;> omega
  · split
    · split <;> simp <;> omega
    · split
      · split <;> simp <;> omega
      · split
        · rw [List.length_append]
          split <;> split <;> simp <;> omega
        · split
          · exact h1 _ fun e => by split <;> simp
          · split
            · exact h1 _ fun e => by split <;> simp
            · simp
/-- The pairs of the first a symbols, then of the first c behind symbol a. -/
def wB (kind : Int) (b a c : Nat) : List (List Int × List Int) := ((List.range a).flatMap fun a => (List.range b).flatMap fun c => cellS kind b a c) ++ (List.range c).flatMap fun c => cellS kind b a c
theorem wB_start (kind : Int) (b : Nat) : wB kind b 0 0 = [] := rfl
theorem wB_next (kind : Int) (b a : Nat) : wB kind b a b = wB kind b (a + 1) 0 := by unfold wB; rw [List.range_succ, List.flatMap_append]; simp
theorem wB_succ (kind : Int) (b a c : Nat) : wB kind b a (c + 1) = wB kind b a c ++ cellS kind b a c := by unfold wB; rw [List.range_succ (n := c), List.flatMap_append, List.append_assoc]; simp
theorem wB_end (kind : Int) (b : Nat) : wB kind b b 0 = wrongS kind b := by unfold wB wrongS; simp
theorem wB_len (kind : Int) {b a c : Nat} (hb : 2 ≤ b) (hb2 : b ≤ 36) (ha : a ≤ b) (hc : c ≤ b) : (wB kind b a c).length ≤ 50000 := by
  have h1 := flatMap_len (n := a) (m := b * b) (f := fun a => (List.range b).flatMap fun c => cellS kind b a c) fun i _ => flatMap_len (n := b) (m := b) fun j _ => cellS_len kind hb i j
  have h2 := flatMap_len (n := c) (m := b) (f := fun c => cellS kind b a c) fun j _ => cellS_len kind hb a j
  have h3 : a * (b * b) ≤ 36 * (36 * 36) := Nat.mul_le_mul (by omega) (Nat.mul_le_mul hb2 hb2)
  have h4 : c * b ≤ 36 * 36 := Nat.mul_le_mul (by omega) hb2
  unfold wB
  rw [List.length_append]
  omega
/-- The third symbols, of jumps. -/
def tri (f : Nat → List Int × List Int) (a e : Nat) : List (List Int × List Int) := (List.range e).flatMap fun e => if a = e then [] else [f e]
theorem tri_zero (f : Nat → List Int × List Int) (a : Nat) : tri f a 0 = [] := rfl
theorem tri_no (f : Nat → List Int × List Int) {a e : Nat} (h : a = e) : tri f a (e + 1) = tri f a e := by unfold tri; rw [List.range_succ, List.flatMap_append]; simp [h]
theorem tri_yes (f : Nat → List Int × List Int) {a e : Nat} (h : a ≠ e) : tri f a (e + 1) = tri f a e ++ [f e] := by unfold tri; rw [List.range_succ, List.flatMap_append]; simp [h]
theorem tri_len (f : Nat → List Int × List Int) (a e : Nat) : (tri f a e).length ≤ e := by
  have := flatMap_len (n := e) (m := 1) (f := fun e => if a = e then [] else [f e]) fun i _ => by split <;> simp
  unfold tri
  omega
theorem cellS_2 (b a c : Nat) : cellS 2 b a c = tri (fun e => ([(a : Int), (c : Int), (e : Int)], [(e : Int), (c : Int), (a : Int)])) a b := rfl
theorem cellS_4 (b a c : Nat) : cellS 4 b a c = tri (fun e => ([(a : Int), (c : Int), (a : Int)], [(e : Int), (c : Int), (e : Int)])) a b := rfl
theorem cellS_0 (b a c : Nat) : cellS 0 b a c = if a ≠ c then [([(a : Int)], [(c : Int)])] else [] := rfl
theorem cellS_1 (b a c : Nat) : cellS 1 b a c = if a ≠ c then [([(a : Int), (c : Int)], [(c : Int), (a : Int)])] else [] := rfl
theorem cellS_3 (b a c : Nat) : cellS 3 b a c = if a ≠ c then [([(a : Int), (a : Int)], [(c : Int), (c : Int)])] else [] := rfl
theorem cellS_5 (b a c : Nat) : cellS 5 b a c = (if a = 1 ∧ 2 ≤ c ∧ c ≤ 9 then [([1, (c : Int)], [(c : Int), 0])] else []) ++ (if c = 0 ∧ 2 ≤ a ∧ a ≤ 9 then [([(a : Int), 0], [1, (a : Int)])] else []) := rfl

/-! ### Two lists of lists, grown side by side -/
end Go.Proofs.Ytnpkanlieflbiaa
