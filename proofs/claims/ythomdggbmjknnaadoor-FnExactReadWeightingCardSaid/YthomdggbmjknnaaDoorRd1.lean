/- Numbers read from their text: plainly. Nothing here walks. -/
import Derived.Test.YthomdggbmjknnaaDoorDc5
import Derived.Test.YthomdggbmjknnaaDoorA1
import Derived.Lib.ParseIntB
namespace Go.Proofs.YthomdggbmjknnaaDoor
open Go.RowKit
set_option linter.unusedVariables false

def isDig (c : UInt8) : Bool := decide (48 ≤ c.toNat) && decide (c.toNat ≤ 57)
theorem isDig_iff {c : UInt8} : isDig c = true ↔ 48 ≤ c.toNat ∧ c.toNat ≤ 57 := by simp [isDig]
def digVal (acc : Nat) : List UInt8 → Nat
  | [] => acc
  | c :: r => digVal (10 * acc + (c.toNat - 48)) r
theorem digVal_append (acc : Nat) (l r : List UInt8) : digVal acc (l ++ r) = digVal (digVal acc l) r := by
  induction l generalizing acc with
  | nil => rfl
  | cons c l ih => exact ih _
theorem digVal_le (acc : Nat) (l : List UInt8) : acc ≤ digVal acc l := by
  induction l generalizing acc with
  | nil => exact Nat.le_refl _
  | cons c l ih => have := ih (10 * acc + (c.toNat - 48)); show acc ≤ digVal _ l; omega
theorem digVal_lt (acc : Nat) (l : List UInt8) (h : l.all isDig = true) : digVal acc l < (acc + 1) * 10 ^ l.length := by
  induction l generalizing acc with
  | nil => show acc < (acc + 1) * 1; omega
  | cons c l ih =>
    simp only [List.all_cons, Bool.and_eq_true] at h
    have h1 := ih (10 * acc + (c.toNat - 48)) h.2
    have h2 := isDig_iff.1 h.1
    show digVal _ l < _
    have h3 : (10 * acc + (c.toNat - 48) + 1) * 10 ^ l.length ≤ ((acc + 1) * 10) * 10 ^ l.length := Nat.mul_le_mul_right _ (by omega)
    rw [List.length_cons, Nat.pow_succ, show (acc + 1) * (10 ^ l.length * 10) = ((acc + 1) * 10) * 10 ^ l.length by rw [Nat.mul_comm (10 ^ l.length), Nat.mul_assoc]]
    omega
theorem dec_dig (u : Nat) : (Lib.decDigits u).all isDig = true ∧ digVal 0 (Lib.decDigits u) = u ∧ 1 ≤ (Lib.decDigits u).length := by
  induction u using Nat.strongRecOn with
  | ind u ih =>
    have hd : ∀ d, d < 10 → isDig (UInt8.ofNat (48 + d)) = true ∧ (UInt8.ofNat (48 + d)).toNat - 48 = d := fun d hd => by
      have e : (UInt8.ofNat (48 + d)).toNat = 48 + d := by simp; omega
      exact ⟨isDig_iff.2 (by omega), by omega⟩
    by_cases h : u < 10
    · rw [Lib.decDigits, dif_pos h]
      obtain ⟨h1, h2⟩ := hd u h
      refine ⟨by simp only [List.all_cons, List.all_nil, h1, Bool.and_true], ?_, by simp⟩
      show 10 * 0 + _ = u
      omega
    · rw [Lib.decDigits, dif_neg h]
      obtain ⟨g1, g2, g3⟩ := ih (u / 10) (by omega)
      obtain ⟨h1, h2⟩ := hd (u % 10) (by omega)
      refine ⟨by rw [List.all_append, g1]; simp only [List.all_cons, List.all_nil, h1, Bool.and_true], ?_, by simp⟩
      rw [digVal_append, g2]
      show 10 * (u / 10) + _ = u
      omega

def rdDigits (l : List UInt8) : List UInt8 := if l.head? = some 45 then l.tail else l
def rdNum (l : List UInt8) : Int := if l.head? = some 45 then -((digVal 0 l.tail : Nat) : Int) else ((digVal 0 l : Nat) : Int)
def rdIn (l : List UInt8) : Bool := decide (1 ≤ (rdDigits l).length) && (decide ((rdDigits l).length ≤ 16) && (rdDigits l).all isDig)
def rdB (s : ByteArray) : Bool := rdIn s.data.toList && (inB (rdNum s.data.toList) (-1000000000000000) 1000000000000000 && decide (dS (rdNum s.data.toList) = s))
def rdV (s : ByteArray) : Int := if rdB s then rdNum s.data.toList else 0
theorem rdV_yes {s : ByteArray} (h : rdB s = true) : rdV s = rdNum s.data.toList := by simp [rdV, h]
theorem rdV_no {s : ByteArray} (h : rdB s = false) : rdV s = 0 := by simp [rdV, h]
theorem rdB_no {s : ByteArray} (h : rdIn s.data.toList = false) : rdB s = false := by simp [rdB, h]
theorem rdB_in {s : ByteArray} (h : rdIn s.data.toList = true) (h2 : inB (rdNum s.data.toList) (-1000000000000000) 1000000000000000 = false) : rdB s = false := by simp [rdB, h2]
theorem rdB_at {s : ByteArray} (h : rdIn s.data.toList = true) (h2 : inB (rdNum s.data.toList) (-1000000000000000) 1000000000000000 = true) : rdB s = decide (dS (rdNum s.data.toList) = s) := by simp [rdB, h, h2]

theorem dec_len16 {u : Nat} (h : u ≤ 1000000000000000) : (Lib.decDigits u).length ≤ 16 := by
  have h1 := dec_dig u
  by_cases h2 : (Lib.decDigits u).length ≤ 16
  · exact h2
  · exfalso
    have key : ∀ (k u : Nat), u < 10 ^ (k + 1) → (Lib.decDigits u).length ≤ k + 1 := by
      intro k
      induction k with
      | zero => intro u hu; rw [Lib.decDigits, dif_pos (by omega)]; simp
      | succ k ih =>
        intro u hu
        by_cases h : u < 10
        · rw [Lib.decDigits, dif_pos h]; simp
        · rw [Lib.decDigits, dif_neg h]
          have := ih (u / 10) (by rw [Nat.pow_succ] at hu; omega)
          simp; omega
    have := key 15 u (by have : (10 : Nat) ^ (15 + 1) = 10000000000000000 := by decide
                         omega)
    omega
theorem dec_head (u : Nat) : ∃ c r, Lib.decDigits u = c :: r ∧ 48 ≤ c.toNat ∧ c.toNat ≤ 57 := by
  obtain ⟨h1, h2, h3⟩ := dec_dig u
  cases h : Lib.decDigits u with
  | nil => rw [h] at h3; simp at h3
  | cons c r =>
    rw [h] at h1
    simp only [List.all_cons, Bool.and_eq_true] at h1
    exact ⟨c, r, rfl, isDig_iff.1 h1.1⟩
theorem parseUintM_ok (M acc : Nat) (l : List UInt8) (h : l.all isDig = true) (h1 : digVal acc l ≤ 1000000000000000000) (h2 : digVal acc l ≤ M) : Lib.parseUintM M acc l = .ok (digVal acc l) := by
  induction l generalizing acc with
  | nil => rfl
  | cons c l ih =>
    simp only [List.all_cons, Bool.and_eq_true] at h
    have hc := isDig_iff.1 h.1
    have h3 : digVal acc (c :: l) = digVal (10 * acc + (c.toNat - 48)) l := rfl
    have h4 := digVal_le (10 * acc + (c.toNat - 48)) l
    rw [h3] at h1 h2
    have e : acc * 10 + (c.toNat - 48) = 10 * acc + (c.toNat - 48) := by omega
    rw [Lib.parseUintM, if_pos hc, if_neg (by omega), if_neg (by omega), e, ih _ h.2 h1 h2]
    rfl
/-- A number's own text: read back. -/
theorem rd_itoa {v : Int} (h : -1000000000000000 ≤ v ∧ v ≤ 1000000000000000) : rdIn (Lib.itoa v) = true ∧ rdNum (Lib.itoa v) = v ∧ Lib.parseIntB 64 (Lib.itoa v) = .ok v := by
  obtain ⟨g1, g2, g3⟩ := dec_dig v.natAbs
  have g4 := dec_len16 (u := v.natAbs) (by omega)
  obtain ⟨c, r, e, hc1, hc2⟩ := dec_head v.natAbs
  have pm := parseUintM_ok (2 ^ 64 - 1) 0 _ g1 (by rw [g2]; omega) (by rw [g2]; omega)
  rw [g2] at pm
  by_cases h0 : v < 0
  · have ei : Lib.itoa v = 45 :: Lib.decDigits v.natAbs := by rw [Lib.itoa, if_pos h0]
    rw [ei]
    have d1 : rdDigits (45 :: Lib.decDigits v.natAbs) = Lib.decDigits v.natAbs := by simp [rdDigits]
    refine ⟨?_, ?_, ?_⟩
    · unfold rdIn; rw [d1, g1]; simp; omega
    · unfold rdNum; simp only [List.head?_cons, if_true, List.tail_cons, g2]; omega
    · unfold Lib.parseIntB Lib.parseUintB
      have h45 : (45 : UInt8).toNat = 45 := rfl
      simp only [h45, or_true, if_true]
      rw [if_neg (by rw [e]; simp), pm]
      have n1 : ¬ (2 ^ (64 - 1) < v.natAbs) := by omega
      simp [n1]
      omega
  · have ei : Lib.itoa v = Lib.decDigits v.natAbs := by rw [Lib.itoa, if_neg h0, show v.toNat = v.natAbs by omega]
    rw [ei]
    have hn : (Lib.decDigits v.natAbs).head? ≠ some 45 := by
      rw [e]; intro h; simp at h; rw [h] at hc1; simp at hc1
    have d1 : rdDigits (Lib.decDigits v.natAbs) = Lib.decDigits v.natAbs := by simp [rdDigits, hn]
    refine ⟨?_, ?_, ?_⟩
    · unfold rdIn; rw [d1, g1]; simp; omega
    · unfold rdNum; rw [if_neg hn, g2]; omega
    · rw [e] at pm ⊢
      unfold Lib.parseIntB Lib.parseUintB
      have n2 : ¬ c.toNat = 43 := by omega
      have n3 : ¬ c.toNat = 45 := by omega
      simp only [n2, n3, or_false, if_false]
      rw [if_neg (by simp), pm]
      have n1 : ¬ (2 ^ (64 - 1) ≤ v.natAbs) := by omega
      simp [n1]
      omega
theorem dS_data (v : Int) : (dS v).data.toList = Lib.itoa v := by simp [dS]
/-- What the library's reading says of it. -/
theorem rdB_bad {s : ByteArray} (h : ∀ v, Lib.parseIntB 64 s.data.toList ≠ .ok v) : rdB s = false := by
  cases hb : rdB s
  · rfl
  · exfalso
    simp only [rdB, Bool.and_eq_true, decide_eq_true_eq, inB_true] at hb
    obtain ⟨h1, h2, h3⟩ := hb
    have h4 := (rd_itoa h2).2.2
    rw [← dS_data, h3] at h4
    exact h _ h4
theorem rdB_ok {s : ByteArray} {v : Int} (h : Lib.parseIntB 64 s.data.toList = .ok v) : rdB s = (inB v (-1000000000000000) 1000000000000000 && decide (dS v = s)) ∧ (rdB s = true → rdV s = v) := by
  have key : rdB s = true → rdNum s.data.toList = v ∧ (inB v (-1000000000000000) 1000000000000000 && decide (dS v = s)) = true := fun hb => by
    simp only [rdB, Bool.and_eq_true, decide_eq_true_eq, inB_true] at hb
    obtain ⟨h1, h2, h3⟩ := hb
    have h4 := (rd_itoa h2).2.2
    rw [← dS_data, h3, h] at h4
    simp only [Lib.NumEnd.ok.injEq] at h4
    rw [← h4] at h2 h3
    exact ⟨h4.symm, by rw [inB_true.2 h2, h3]; simp⟩
  refine ⟨?_, fun hb => by rw [rdV_yes hb]; exact (key hb).1⟩
  cases hb : rdB s
  · cases hr : (inB v (-1000000000000000) 1000000000000000 && decide (dS v = s))
    · rfl
    · exfalso
      simp only [Bool.and_eq_true, decide_eq_true_eq, inB_true] at hr
      obtain ⟨h2, h3⟩ := hr
      obtain ⟨k1, k2, k3⟩ := rd_itoa h2
      have e : Lib.itoa v = s.data.toList := by rw [← dS_data, h3]
      rw [e] at k1 k2
      have : rdB s = true := by unfold rdB; rw [k1, k2, inB_true.2 h2, h3]; simp
      rw [hb] at this; cases this
  · rw [(key hb).2]
end Go.Proofs.YthomdggbmjknnaaDoor
