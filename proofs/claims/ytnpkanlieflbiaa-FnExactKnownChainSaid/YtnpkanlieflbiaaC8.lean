/- Chains that add numbers, plainly: one table for each different list. Nothing here walks. -/
import Derived.Test.YtnpkanlieflbiaaC1
namespace Go.Proofs.Ytnpkanlieflbiaa
open Go.RowKit
set_option linter.unusedVariables false

theorem idx_new {α : Type} [DecidableEq α] {L : List α} {a : α} (h : a ∉ L) : (L ++ [a]).idxOf a = L.length := by
  rw [List.idxOf_append, if_neg h]; simp
section dd
variable {α : Type} [DecidableEq α] [Inhabited α]
/-- The different ones among the first k, in order. -/
def ddTo (ws : List α) : Nat → List α
  | 0 => []
  | k + 1 => if nth ws k ∈ ddTo ws k then ddTo ws k else ddTo ws k ++ [nth ws k]
def plTo (ws : List α) : Nat → List Int
  | 0 => []
  | k + 1 => plTo ws k ++ [(((ddTo ws (k + 1)).idxOf (nth ws k) : Nat) : Int)]
theorem ddTo_nodup (ws : List α) : ∀ k, (ddTo ws k).Nodup
  | 0 => by simp [ddTo]
  | k + 1 => by
    unfold ddTo
    split
    · exact ddTo_nodup ws k
    · rename_i h
      rw [List.nodup_append]
      refine ⟨ddTo_nodup ws k, by simp, fun a ha b hb => ?_⟩
      simp at hb; subst hb
      exact fun e => h (e ▸ ha)
theorem ddTo_len (ws : List α) : ∀ k, (ddTo ws k).length ≤ k
  | 0 => by simp [ddTo]
  | k + 1 => by
    have := ddTo_len ws k
    unfold ddTo
    split
    · omega
    · simp; omega
theorem ddTo_pos (ws : List α) : ∀ k, 0 < k → 0 < (ddTo ws k).length
  | 0, h => by omega
  | k + 1, _ => by
    unfold ddTo
    split
    · rename_i h; exact List.length_pos_of_mem h
    · simp
theorem ddTo_mem (ws : List α) : ∀ (k i : Nat), i < k → nth ws i ∈ ddTo ws k
  | 0, i, h => by omega
  | k + 1, i, h => by
    unfold ddTo
    by_cases e : i = k
    · subst e
      split
      · assumption
      · simp
    · have := ddTo_mem ws k i (by omega)
      split
      · exact this
      · simp [this]
theorem ddTo_sub (ws : List α) : ∀ (k : Nat), k ≤ ws.length → ∀ a ∈ ddTo ws k, a ∈ ws
  | 0, _, a, h => by simp [ddTo] at h
  | k + 1, hk, a, h => by
    unfold ddTo at h
    split at h
    · exact ddTo_sub ws k (by omega) a h
    · rcases List.mem_append.1 h with h1 | h1
      · exact ddTo_sub ws k (by omega) a h1
      · simp at h1; subst h1; exact nth_mem (by omega)
theorem plTo_len (ws : List α) : ∀ k, (plTo ws k).length = k
  | 0 => rfl
  | k + 1 => by simp [plTo, plTo_len ws k]
theorem ddTo_yes {ws : List α} {k : Nat} (h : nth ws k ∈ ddTo ws k) : ddTo ws (k + 1) = ddTo ws k := by rw [ddTo, if_pos h]
theorem ddTo_no {ws : List α} {k : Nat} (h : nth ws k ∉ ddTo ws k) : ddTo ws (k + 1) = ddTo ws k ++ [nth ws k] := by rw [ddTo, if_neg h]
/-- The index of one that is there. -/
theorem idx_at {L : List α} (hn : L.Nodup) {j : Nat} (hj : j < L.length) {a : α} (h : nth L j = a) : L.idxOf a = j := by
  subst h
  rw [nth_eq hj]
  exact hn.idxOf_getElem j hj
theorem plTo_yes {ws : List α} {k j : Nat} (hj : j < (ddTo ws k).length) (h : nth (ddTo ws k) j = nth ws k) : ddTo ws (k + 1) = ddTo ws k ∧ plTo ws (k + 1) = plTo ws k ++ [(j : Int)] := by
  have e := ddTo_yes (ws := ws) (k := k) (h ▸ nth_mem hj)
  refine ⟨e, ?_⟩
  rw [plTo, e, idx_at (ddTo_nodup ws k) hj h]
theorem plTo_no {ws : List α} {k : Nat} (h : ∀ j, j < (ddTo ws k).length → nth (ddTo ws k) j ≠ nth ws k) : ddTo ws (k + 1) = ddTo ws k ++ [nth ws k] ∧ plTo ws (k + 1) = plTo ws k ++ [((ddTo ws k).length : Int)] := by
  have hm : nth ws k ∉ ddTo ws k := fun hm => by
    obtain ⟨j, hj, e⟩ := List.mem_iff_getElem.1 hm
    exact h j hj (by rw [nth_eq hj]; exact e)
  have e := ddTo_no hm
  refine ⟨e, ?_⟩
  rw [plTo, e, idx_new hm]
theorem plTo_bd (ws : List α) (n : Nat) : ∀ (k : Nat), k ≤ n → ∀ p ∈ plTo ws k, 0 ≤ p ∧ p < ((ddTo ws n).length : Int)
  | 0, _, p, h => by simp [plTo] at h
  | k + 1, hk, p, h => by
    rcases List.mem_append.1 h with h1 | h1
    · exact plTo_bd ws n k (by omega) p h1
    · simp at h1; subst h1
      have hm := ddTo_mem ws (k + 1) k (by omega)
      have h2 : (ddTo ws (k + 1)).length ≤ (ddTo ws n).length := by
        clear h hm
        induction n with
        | zero => omega
        | succ n ih =>
          by_cases e : k + 1 = n + 1
          · rw [e]; exact Nat.le_refl _
          · have := ih (by omega)
            have h3 : (ddTo ws n).length ≤ (ddTo ws (n + 1)).length := by
              rw [ddTo]
              split <;> simp
            omega
      have h3 := List.idxOf_lt_length_of_mem hm
      omega
/-- By a map that parts what is different. -/
theorem ddTo_map {β : Type} [DecidableEq β] [Inhabited β] (f : α → β) (hf : ∀ a b, f a = f b → a = b) (ws : List α) : ∀ k, k ≤ ws.length → ddTo (ws.map f) k = (ddTo ws k).map f
  | 0, _ => rfl
  | k + 1, hk => by
    have ih := ddTo_map f hf ws k (by omega)
    have e : nth (ws.map f) k = f (nth ws k) := nth_map (by omega)
    unfold ddTo
    rw [ih, e]
    have hm : f (nth ws k) ∈ (ddTo ws k).map f ↔ nth ws k ∈ ddTo ws k := by
      rw [List.mem_map]
      exact ⟨fun ⟨a, ha, h⟩ => hf _ _ h ▸ ha, fun h => ⟨_, h, rfl⟩⟩
    by_cases h : nth ws k ∈ ddTo ws k
    · rw [if_pos h, if_pos (hm.2 h)]
    · rw [if_neg h, if_neg fun h1 => h (hm.1 h1)]; simp
theorem plTo_map {β : Type} [DecidableEq β] [Inhabited β] (f : α → β) (hf : ∀ a b, f a = f b → a = b) (ws : List α) : ∀ k, k ≤ ws.length → plTo (ws.map f) k = plTo ws k
  | 0, _ => rfl
  | k + 1, hk => by
    have ih := plTo_map f hf ws k (by omega)
    have e : nth (ws.map f) k = f (nth ws k) := nth_map (by omega)
    have hm := ddTo_mem ws (k + 1) k (by omega)
    unfold plTo
    rw [ih, e, ddTo_map f hf ws (k + 1) hk]
    congr 3
    obtain ⟨j, hj, h⟩ := List.mem_iff_getElem.1 hm
    rw [idx_at (ddTo_nodup ws (k + 1)) hj (by rw [nth_eq hj]; exact h)]
    refine idx_at ?_ (by simpa using hj) (by rw [nth_map hj, nth_eq hj, h])
    rw [← ddTo_map f hf ws (k + 1) hk]
    exact ddTo_nodup _ _
end dd

/-- The table that adds numbers. -/
def tabOf (m : Nat) (l : List Int) : List (List Int) := (List.range m).map fun (s : Nat) => l.map fun n => ((s : Int) + n) % m
/-- The chain that adds numbers: keys, and what is added for each. -/
def addC (keys : List (List Int)) (adds : List Int → List Int) (base m target : Nat) : Chn :=
  { base := base, states := m, start := 0, stop := target, tables := (ddTo keys keys.length).map fun l => tabOf m (adds l), places := plTo keys keys.length }
def weighL (base : Nat) (w : Int) : List Int := (List.range base).map fun (d : Nat) => w * (d : Int)
def addsL (base m : Nat) (w : Int) : List Int := (List.range base).map fun (d : Nat) => w * (d : Int) % m
theorem weighL_inj {base : Nat} (hb : 2 ≤ base) (a b : Int) (h : weighL base a = weighL base b) : a = b := by
  have h1 := congrArg (fun l => nth l 1) h
  simp only [weighL] at h1
  rw [nth_eq (by simp; omega), nth_eq (by simp; omega)] at h1
  simpa using h1
theorem tabOf_weigh (base m : Nat) (w : Int) : tabOf m (weighL base w) = tabOf m (addsL base m w) := by
  unfold tabOf weighL addsL
  refine List.map_congr_left fun s _ => ?_
  rw [List.map_map, List.map_map]
  refine List.map_congr_left fun d _ => ?_
  show ((s : Int) + w * d) % m = ((s : Int) + w * d % m) % m
  rw [Int.add_emod_emod]
/-- Both chains of a weighting are one. -/
theorem weigh_chain {base : Nat} (hb : 2 ≤ base) (m target : Nat) (ws : List Int) :
    addC (ws.map (weighL base)) id base m target = addC (ws.map fun w => [w]) (fun l => addsL base m (nth l 0)) base m target := by
  have h1 : ∀ a b : Int, [a] = [b] → a = b := fun a b h => by simpa using h
  unfold addC
  rw [List.length_map, List.length_map, ddTo_map _ (weighL_inj hb) ws _ (Nat.le_refl _), ddTo_map _ h1 ws _ (Nat.le_refl _), plTo_map _ (weighL_inj hb) ws _ (Nat.le_refl _), plTo_map _ h1 ws _ (Nat.le_refl _), List.map_map, List.map_map]
  congr 1
  refine List.map_congr_left fun w _ => ?_
  exact tabOf_weigh base m w
end Go.Proofs.Ytnpkanlieflbiaa
