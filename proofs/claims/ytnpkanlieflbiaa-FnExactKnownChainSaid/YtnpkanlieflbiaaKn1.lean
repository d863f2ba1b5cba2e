/- Known chains, plainly. Nothing here walks. -/
import Derived.Test.YtnpkanlieflbiaaY6
namespace Go.Proofs.Ytnpkanlieflbiaa
open Go.RowKit
set_option linter.unusedVariables false

/-- Told from the last place on: the first i of P. -/
def fromL {α : Type} (f : Nat → α) (P i : Nat) : List α := (List.range i).map fun j => f (P - 1 - j)
theorem fromL_succ {α : Type} (f : Nat → α) (P i : Nat) : fromL f P (i + 1) = fromL f P i ++ [f (P - 1 - i)] := by unfold fromL; rw [List.range_succ, List.map_append]; rfl
theorem fromL_len {α : Type} (f : Nat → α) (P i : Nat) : (fromL f P i).length = i := by simp [fromL]
theorem nth_fromL {α : Type} [Inhabited α] (f : Nat → α) (P : Nat) {i j : Nat} (h : j < i) : nth (fromL f P i) j = f (P - 1 - j) := by
  rw [nth_eq (by rw [fromL_len]; exact h)]; simp [fromL]
def sameT : List Int := [0, 1, 2, 3, 4, 5, 6, 7, 8, 9]
def dblT : List Int := [0, 2, 4, 6, 8, 1, 3, 5, 7, 9]
def luL (k : Nat) : List Int := if k % 2 = 0 then sameT else dblT
theorem luL_even {k : Nat} (h : k % 2 = 0) : luL k = sameT := by simp [luL, h]
theorem luL_odd {k : Nat} (h : ¬ k % 2 = 0) : luL k = dblT := by simp [luL, h]
theorem luL_bd (k : Nat) : (luL k).length = 10 ∧ ∀ j, j < (luL k).length → 0 ≤ nth (luL k) j ∧ nth (luL k) j ≤ 2000 := by
  have key : ∀ l : List Int, l.length = 10 → (l.all fun x => decide (0 ≤ x) && decide (x ≤ 2000)) = true → l.length = 10 ∧ ∀ j, j < l.length → 0 ≤ nth l j ∧ nth l j ≤ 2000 := fun l h1 h2 => ⟨h1, fun j hj => by
    have := List.all_eq_true.1 h2 (nth l j) (nth_mem hj)
    simpa using this⟩
  unfold luL
  split
  · exact key _ rfl (by decide)
  · exact key _ rfl (by decide)
def luO (P : Nat) : List (List Int) := fromL luL P P
def luC (P : Nat) : Chn := addC (luO P) id 10 10 0
theorem luO_bd (P : Nat) : ∀ i, i < (luO P).length → (nth (luO P) i).length ≤ 36 ∧ ∀ j, j < (nth (luO P) i).length → 0 ≤ nth (nth (luO P) i) j ∧ nth (nth (luO P) i) j ≤ 2000 := fun i hi => by
  have hi' : i < P := by rw [luO, fromL_len] at hi; exact hi
  rw [luO, nth_fromL _ _ hi']
  have := luL_bd (P - 1 - i)
  exact ⟨by omega, this.2⟩
theorem luC_sz {P : Nat} (h : P ≤ 20) : szC (luC P) ≤ 30000 := szC_addC (by rw [luO, fromL_len]; exact h) (by omega) (fun l hl => by
  obtain ⟨i, hi, rfl⟩ := List.mem_iff_getElem.1 hl
  have := (luO_bd P i hi).1
  rw [nth_eq hi] at this
  exact this)

def hyY (x d : Nat) : Nat := (x + d) % 10
def hyZ (x d : Nat) : Nat := if hyY x d = 0 then 10 else hyY x d
def hyA (x d : Nat) : Nat := 2 * hyZ x d % 11
def hyRA (x j : Nat) : List Int := (List.range j).map fun d => ((hyA x d : Nat) : Int)
def hyRB (x j : Nat) : List Int := (List.range j).map fun d => ((hyY x d : Nat) : Int)
def hyTA (i : Nat) : List (List Int) := (List.range i).map fun x => hyRA x 10
def hyTB (i : Nat) : List (List Int) := (List.range i).map fun x => hyRB x 10
theorem hyRA_succ (x j : Nat) : hyRA x (j + 1) = hyRA x j ++ [((hyA x j : Nat) : Int)] := by unfold hyRA; rw [List.range_succ, List.map_append]; rfl
theorem hyRB_succ (x j : Nat) : hyRB x (j + 1) = hyRB x j ++ [((hyY x j : Nat) : Int)] := by unfold hyRB; rw [List.range_succ, List.map_append]; rfl
theorem hyTA_succ (i : Nat) : hyTA (i + 1) = hyTA i ++ [hyRA i 10] := by unfold hyTA; rw [List.range_succ, List.map_append]; rfl
theorem hyTB_succ (i : Nat) : hyTB (i + 1) = hyTB i ++ [hyRB i 10] := by unfold hyTB; rw [List.range_succ, List.map_append]; rfl
theorem hyRA_len (x j : Nat) : (hyRA x j).length = j := by simp [hyRA]
theorem hyRB_len (x j : Nat) : (hyRB x j).length = j := by simp [hyRB]
theorem hyTA_len (i : Nat) : (hyTA i).length = i := by simp [hyTA]
theorem hyTB_len (i : Nat) : (hyTB i).length = i := by simp [hyTB]
def hyC (P : Nat) : Chn := ⟨10, 11, 10, 1, if P = 1 then [hyTB 11] else [hyTA 11, hyTB 11], List.replicate (P - 1) 0 ++ [if P = 1 then 0 else 1]⟩
theorem hyC_cnt {P : Nat} (h : P ≤ 20) : cntC (hyC P) ≤ 30000 := by
  have h1 : cntL (cntL List.length) (hyC P).tables ≤ 1000 := by
    unfold hyC
    dsimp only
    split
    · decide
    · decide
  have h2 : (hyC P).places.length ≤ 21 := by simp [hyC]; omega
  unfold cntC
  omega

def kw (kind k : Nat) : Int := if kind = 1 then 1 + 2 * ((k % 2 : Nat) : Int) else if kind = 2 then (k : Int) + 1 else ((2 ^ k % 11 : Nat) : Int)
def kbN (kind : Nat) : Nat := if kind = 2 ∨ kind = 3 then 11 else 10
def knW (kind P : Nat) : Wgt := ⟨kbN kind, kbN kind, if kind = 3 then 1 else 0, fromL (kw kind) P P⟩
def knOk (kind p : Int) : Bool := inB kind 0 4 && (inB p 1 20 && (powB (kbN kind.toNat) p.toNat && !(decide (kind = 2) && !decide (p = 10))))
def knC (kind P : Nat) : Chn := if kind = 0 then luC P else if kind = 4 then hyC P else wchn (knW kind P)
def knV (kind p : Int) : Chn := if knOk kind p then knC kind.toNat p.toNat else Chn.nil
theorem knV_no {kind p : Int} (h : knOk kind p = false) : knV kind p = Chn.nil := by simp [knV, h]
theorem knV_yes {kind p : Int} (h : knOk kind p = true) : knV kind p = knC kind.toNat p.toNat := by simp [knV, h]
theorem knW_vw {kind P : Nat} (hk : 1 ≤ kind ∧ kind ≤ 3) (hP : 1 ≤ P ∧ P ≤ 20) (hpow : powB (kbN kind) P = true) (h2 : kind = 2 → P = 10) : VW (knW kind P) := by
  have hb : kbN kind = 10 ∨ kbN kind = 11 := by unfold kbN; split <;> simp
  have hb3 : kind = 2 ∨ kind = 3 → kbN kind = 11 := fun h => by unfold kbN; rw [if_pos h]
  have hb2 : 2 ≤ ((kbN kind : Nat) : Int) ∧ ((kbN kind : Nat) : Int) ≤ 36 := by omega
  have hl : 1 ≤ (fromL (kw kind) P P).length ∧ (fromL (kw kind) P P).length ≤ 20 := by rw [fromL_len]; exact hP
  refine ⟨hb2, hb2, ?_, hl, ?_, ?_⟩
  · show 0 ≤ (if kind = 3 then (1 : Int) else 0) ∧ (if kind = 3 then (1 : Int) else 0) < ((kbN kind : Nat) : Int)
    split <;> omega
  · show ((kbN kind : Nat) : Int) ^ (fromL (kw kind) P P).length ≤ _
    rw [fromL_len]
    exact of_decide_eq_true hpow
  · intro i hi
    have hi' : i < P := by
      have : i < (fromL (kw kind) P P).length := hi
      rw [fromL_len] at this; exact this
    show 0 ≤ nth (fromL (kw kind) P P) i ∧ nth (fromL (kw kind) P P) i < ((kbN kind : Nat) : Int)
    rw [nth_fromL _ _ hi']
    unfold kw
    split
    · omega
    · split
      · rename_i h
        have := h2 h
        have := hb3 (.inl h)
        omega
      · have := hb3 (.inr (by omega))
        omega
theorem kn_cnt (kind p : Int) : cntC (knV kind p) ≤ 30000 := by
  cases h : knOk kind p
  · rw [knV_no h]; decide
  · rw [knV_yes h]
    simp only [knOk, Bool.and_eq_true, inB_true] at h
    obtain ⟨h1, h2, h3, h4⟩ := h
    obtain ⟨K, rfl⟩ := Int.eq_ofNat_of_zero_le (show 0 ≤ kind by omega)
    obtain ⟨P, rfl⟩ := Int.eq_ofNat_of_zero_le (show 0 ≤ p by omega)
    rw [Int.toNat_natCast, Int.toNat_natCast] at *
    unfold knC
    split
    · exact Nat.le_trans (cnt_le_szC _) (luC_sz (by omega))
    · split
      · exact hyC_cnt (by omega)
      · refine Nat.le_trans (cnt_le_szC _) (wchn_sz (knW_vw (by omega) (by omega) h3 fun e => ?_))
        simp at h4
        omega
end Go.Proofs.Ytnpkanlieflbiaa
