/- A text cut at a mark: plainly, and against the library's Split. Nothing here walks. -/
import Derived.Test.YthomdggbmjknnaaDoorRd2
import Derived.Lib.SplitLaws
namespace Go.Proofs.YthomdggbmjknnaaDoor
open Go.RowKit
set_option linter.unusedVariables false

/-! ### Over lists of bytes -/
def cutGo (c : UInt8) : List UInt8 → List UInt8 → List (List UInt8)
  | cur, [] => [cur]
  | cur, b :: r => if b = c then cur :: cutGo c [] r else cutGo c (cur ++ [b]) r
def addHead (cur : List UInt8) : List (List UInt8) → List (List UInt8)
  | [] => []
  | p :: q => (cur ++ p) :: q
theorem cutGo_add (c : UInt8) (l : List UInt8) : ∀ cur, cutGo c cur l = addHead cur (cutGo c [] l) := by
  induction l with
  | nil => intro cur; simp [cutGo, addHead]
  | cons b r ih =>
    intro cur
    by_cases h : b = c
    · simp [cutGo, h, addHead]
    · simp only [cutGo, if_neg h, List.nil_append]
      rw [ih (cur ++ [b]), ih [b]]
      cases cutGo c [] r with
      | nil => rfl
      | cons p q => simp [addHead]
theorem splitK_ne {c b : UInt8} (h : ¬ b = c) (r : List UInt8) (k : Nat) : Lib.splitK [c] 0 k (b :: r) = addHead [b] (Lib.splitK [c] 0 k r) := by
  have hp : ([c] : List UInt8).isPrefixOf (b :: r) = false := by simp [List.isPrefixOf, Ne.symm h]
  have hix : Lib.index (b :: r) [c] = if Lib.index r [c] == -1 then -1 else Lib.index r [c] + 1 := by rw [Lib.index, hp]; simp
  cases k with
  | zero => rfl
  | succ k =>
    by_cases hm : Lib.index r [c] = -1
    · have e1 : Lib.index (b :: r) [c] = -1 := by rw [hix, if_pos (beq_iff_eq.2 hm)]
      unfold Lib.splitK
      rw [if_pos (beq_iff_eq.2 e1), if_pos (beq_iff_eq.2 hm)]
      rfl
    · have hge := Lib.index_ge r [c]
      obtain ⟨j, hj⟩ : ∃ j : Nat, Lib.index r [c] = j := ⟨(Lib.index r [c]).toNat, by omega⟩
      have e1 : Lib.index (b :: r) [c] = ((j + 1 : Nat) : Int) := by rw [hix, if_neg (fun e => hm (beq_iff_eq.1 e)), hj]; omega
      unfold Lib.splitK
      rw [if_neg (fun e => by have := beq_iff_eq.1 e; omega), if_neg (fun e => hm (beq_iff_eq.1 e)), e1, hj]
      simp [addHead]
theorem splitK_eq (c : UInt8) (l : List UInt8) : Lib.splitK [c] 0 (l.count c) l = cutGo c [] l := by
  induction l with
  | nil => rfl
  | cons b r ih =>
    by_cases h : b = c
    · subst h
      have hix : Lib.index (b :: r) [b] = 0 := by rw [Lib.index]; simp [List.isPrefixOf]
      rw [List.count_cons_self]
      unfold Lib.splitK
      rw [hix, if_neg (by decide)]
      simp [cutGo, ih]
    · rw [List.count_cons_of_ne (by simpa using h), splitK_ne h, ih]
      simp only [cutGo, if_neg h, List.nil_append]
      exact (cutGo_add c r [b]).symm

/-! ### Place by place, as the reference does it -/
structure CutS where
  ps : List ByteArray
  fr : Nat
def cutStep (s : ByteArray) (c : Int) (a : CutS) (i : Nat) : CutS := if byt s i = c then ⟨a.ps ++ [s.extract a.fr i], i + 1⟩ else a
def cutTo (s : ByteArray) (c : Int) : Nat → CutS
  | 0 => ⟨[], 0⟩
  | k + 1 => cutStep s c (cutTo s c k) k
def cutP (s : ByteArray) (c : Int) : List ByteArray := (cutTo s c s.size).ps ++ [s.extract (cutTo s c s.size).fr s.size]
theorem cutTo_succ (s : ByteArray) (c : Int) (k : Nat) : cutTo s c (k + 1) = cutStep s c (cutTo s c k) k := rfl
theorem cutTo_bd (s : ByteArray) (c : Int) (k : Nat) : (cutTo s c k).fr ≤ k ∧ (cutTo s c k).ps.length ≤ k := by
  induction k with
  | zero => exact ⟨Nat.le_refl _, Nat.le_refl _⟩
  | succ k ih =>
    rw [cutTo_succ]
    unfold cutStep
    split
    · simp; omega
    · omega
theorem cutP_len (s : ByteArray) (c : Int) : 1 ≤ (cutP s c).length ∧ (cutP s c).length ≤ s.size + 1 := by
  have := (cutTo_bd s c s.size).2
  unfold cutP
  simp; omega
theorem cutTo_size (s : ByteArray) (c : Int) (k : Nat) : ∀ x ∈ (cutTo s c k).ps, x.size ≤ s.size := by
  induction k with
  | zero => intro x hx; simp [cutTo] at hx
  | succ k ih =>
    rw [cutTo_succ]
    unfold cutStep
    split
    · intro x hx
      simp only [List.mem_append, List.mem_singleton] at hx
      rcases hx with h | rfl
      · exact ih x h
      · rw [ByteArray.size_extract]; omega
    · exact ih
theorem cutP_size (s : ByteArray) (c : Int) (k : Nat) (hk : k < (cutP s c).length) : (nth (cutP s c) k).size ≤ s.size := by
  have h := nth_mem hk
  generalize nth (cutP s c) k = x at h
  unfold cutP at h
  simp only [List.mem_append, List.mem_singleton] at h
  rcases h with h | rfl
  · exact cutTo_size s c s.size x h
  · rw [ByteArray.size_extract]; omega
theorem ext_data (s : ByteArray) (a b : Nat) : (s.extract a b).data.toList = (s.data.toList.drop a).take (b - a) := Lib.extract_data s a b
theorem cutTo_go (s : ByteArray) (c : UInt8) (k : Nat) (hk : k ≤ s.size) :
    (cutTo s (c.toNat : Int) k).ps.map (·.data.toList) ++ cutGo c ((s.extract (cutTo s (c.toNat : Int) k).fr k).data.toList) (s.data.toList.drop k) = cutGo c [] s.data.toList := by
  induction k with
  | zero =>
    have : (s.extract 0 0).data.toList = [] := by rw [ext_data]; simp
    show [] ++ cutGo c ((s.extract 0 0).data.toList) s.data.toList = _
    rw [this]; rfl
  | succ k ih =>
    have ih := ih (by omega)
    obtain ⟨b, e1, e2, e3⟩ := byt_list (s := s) (k := k) (by omega)
    have hl : s.data.toList.length = s.size := by simp
    have hd : s.data.toList.drop k = b :: s.data.toList.drop (k + 1) := by
      rw [List.drop_eq_getElem_cons (by omega)]
      rw [List.getElem?_eq_getElem (by omega)] at e1
      simp only [Option.some.injEq] at e1
      rw [e1]
    have hf := (cutTo_bd s (c.toNat : Int) k).1
    rw [hd] at ih
    rw [cutTo_succ]
    unfold cutStep
    by_cases h : b = c
    · subst h
      rw [if_pos e2]
      simp only [cutGo, if_true] at ih
      have : (s.extract (k + 1) (k + 1)).data.toList = [] := by rw [ext_data]; simp
      rw [this, List.map_append, ← ih]
      simp
    · have hne : ¬ byt s k = (c.toNat : Int) := by
        rw [e2]; intro e
        exact h (UInt8.toNat_inj.1 (by omega))
      rw [if_neg hne]
      simp only [cutGo, if_neg h] at ih
      have he : (s.extract (cutTo s (c.toNat : Int) k).fr k).data.toList ++ [b] = (s.extract (cutTo s (c.toNat : Int) k).fr (k + 1)).data.toList := by
        rw [ext_data, ext_data, show k + 1 - (cutTo s (c.toNat : Int) k).fr = (k - (cutTo s (c.toNat : Int) k).fr) + 1 by omega]
        rw [List.take_succ_eq_append_getElem (by rw [List.length_drop]; omega)]
        congr 2
        rw [List.getElem_drop]
        rw [List.getElem?_eq_getElem (by omega)] at e1
        simp only [Option.some.injEq] at e1
        rw [← e1]
        congr 1
        omega
      rw [he] at ih
      exact ih
theorem cutP_go (s : ByteArray) (c : UInt8) : (cutP s (c.toNat : Int)).map (·.data.toList) = cutGo c [] s.data.toList := by
  have h := cutTo_go s c s.size (Nat.le_refl _)
  rw [List.drop_of_length_le (by simp)] at h
  unfold cutP
  rw [List.map_append, ← h]
  rfl
theorem data_inj {a b : List ByteArray} (h : a.map (·.data.toList) = b.map (·.data.toList)) : a = b := by
  induction a generalizing b with
  | nil => cases b with
    | nil => rfl
    | cons y b => simp at h
  | cons x a ih =>
    cases b with
    | nil => simp at h
    | cons y b =>
      simp only [List.map_cons, List.cons.injEq] at h
      rw [ih h.2, show x = y from ByteArray.ext (Array.toList_inj.1 h.1)]
/-- What the library cuts is what the reference cuts. -/
theorem split_eq (s : ByteArray) (c : UInt8) : Lib.splitB ⟨#[c]⟩ 0 (Lib.countB s ⟨#[c]⟩) s = cutP s (c.toNat : Int) ∧ Lib.countB s ⟨#[c]⟩ + 1 = (cutP s (c.toNat : Int)).length := by
  have h1 : Lib.countB s ⟨#[c]⟩ = s.data.toList.count c := by
    show Lib.count s.data.toList [c] = _
    exact Lib.count_one c _
  have h2 : Lib.splitB ⟨#[c]⟩ 0 (Lib.countB s ⟨#[c]⟩) s = cutP s (c.toNat : Int) := by
    apply data_inj
    rw [Lib.splitB_data, cutP_go, h1]
    exact splitK_eq c _
  exact ⟨h2, by rw [← h2]; exact (Lib.splitB_all ⟨#[c]⟩ (by simp [ByteArray.size]) 0 _ s rfl).symm⟩

/-! ### Lists of numbers -/
def noneS : ByteArray := ⟨#[110, 111, 110, 101]⟩
/-- The first k pieces are numbers. -/
def rdTo (ps : List ByteArray) (k : Nat) : Bool := (ps.take k).all rdB
theorem rdTo_succ {ps : List ByteArray} {k : Nat} (h : k < ps.length) : rdTo ps (k + 1) = (rdTo ps k && rdB (nth ps k)) := by
  unfold rdTo; rw [take_nth h]; simp
theorem rdTo_no {ps : List ByteArray} {k : Nat} (h : k < ps.length) (hb : rdB (nth ps k) = false) : ps.all rdB = false := by
  cases hc : ps.all rdB
  · rfl
  · have := List.all_eq_true.1 hc _ (nth_mem h)
    rw [hb] at this; cases this
def rlOk (s : ByteArray) : Bool := decide (s = noneS) || (decide ((cutP s 32).length ≤ 40) && (cutP s 32).all rdB)
def rlV (s : ByteArray) : List Int := if s = noneS then [] else if rlOk s then (cutP s 32).map rdV else []
theorem rl_none {s : ByteArray} (h : s = noneS) : rlOk s = true ∧ rlV s = [] := by simp [rlOk, rlV, h]
theorem rl_long {s : ByteArray} (h : ¬ s = noneS) (h2 : 40 < (cutP s 32).length) : rlOk s = false ∧ rlV s = [] := by
  have : rlOk s = false := by
    unfold rlOk
    have h3 : ¬ (cutP s 32).length ≤ 40 := by omega
    simp [h, h3]
  exact ⟨this, by unfold rlV; rw [if_neg h, this]; rfl⟩
theorem rl_bad {s : ByteArray} (h : ¬ s = noneS) (h2 : (cutP s 32).all rdB = false) : rlOk s = false ∧ rlV s = [] := by
  have : rlOk s = false := by unfold rlOk; rw [h2]; simp [h]
  exact ⟨this, by unfold rlV; rw [if_neg h, this]; rfl⟩
theorem rl_yes {s : ByteArray} (h : ¬ s = noneS) (h2 : (cutP s 32).length ≤ 40) (h3 : (cutP s 32).all rdB = true) : rlOk s = true ∧ rlV s = (cutP s 32).map rdV := by
  have : rlOk s = true := by unfold rlOk; rw [h3]; simp [h2]
  exact ⟨this, by unfold rlV; rw [if_neg h, this]; rfl⟩
theorem rlV_len (s : ByteArray) : (rlV s).length ≤ 40 := by
  unfold rlV
  split
  · simp
  · split
    · rename_i h1 h2
      have : (cutP s 32).length ≤ 40 := by
        unfold rlOk at h2
        simp [h1] at h2
        exact h2.1
      simpa using this
    · simp
theorem map_snoc (ps : List ByteArray) {k : Nat} (h : k < ps.length) : (ps.take (k + 1)).map rdV = (ps.take k).map rdV ++ [rdV (nth ps k)] := by rw [take_nth h, List.map_append]; rfl
end Go.Proofs.YthomdggbmjknnaaDoor
