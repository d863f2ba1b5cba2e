/- The chain of one table at all places, and two chains beside each other: plainly. Nothing here walks. -/
import Derived.Test.YtnpkanlieflbiaaS0
import Derived.Test.YtnpkanlieflbiaaB1
namespace Go.Proofs.Ytnpkanlieflbiaa
open Go.RowKit
set_option linter.unusedVariables false

/-! ### One table at all places -/
def evC (t : List (List Int)) (p a b : Int) : Chn := ⟨((nth t 0).length : Int), t.length, a, b, [t], List.replicate p.toNat 0⟩
def evOk (t : List (List Int)) (p a b : Int) : Bool := inB p 1 20 && (inB t.length 1 36 && vC (evC t p a b))
def evV (t : List (List Int)) (p a b : Int) : Chn := if evOk t p a b then evC t p a b else Chn.nil
theorem evV_no {t : List (List Int)} {p a b : Int} (h : evOk t p a b = false) : evV t p a b = Chn.nil := by simp [evV, h]
theorem evV_yes {t : List (List Int)} {p a b : Int} (h : evOk t p a b = true) : evV t p a b = evC t p a b := by simp [evV, h]
theorem ev_p {t : List (List Int)} {p a b : Int} (h : inB p 1 20 = false) : evOk t p a b = false := by simp [evOk, h]
theorem ev_t {t : List (List Int)} {p a b : Int} (h : inB t.length 1 36 = false) : evOk t p a b = false := by simp [evOk, h]
theorem ev_at {t : List (List Int)} {p a b : Int} (h : inB p 1 20 = true) (h2 : 1 ≤ t.length) {c : Bool} (h3 : vC (evC t p a b) = c) : evOk t p a b = c := by
  cases h4 : inB (t.length : Int) 1 36
  · have h5 : vC (evC t p a b) = false := by
      have : inB (evC t p a b).states 1 36 = false := h4
      simp [vC, headC, this]
    rw [ev_t h4, ← h3, h5]
  · simp [evOk, h, h4, h3]
theorem ev_cnt {t : List (List Int)} {p a b : Int} (h : szL List.length t ≤ 1048576) : cntC (evV t p a b) ≤ 2000000 := by
  cases h1 : evOk t p a b
  · rw [evV_no h1]; decide
  · rw [evV_yes h1]
    simp only [evOk, Bool.and_eq_true, inB_true] at h1
    have h2 := cnt_le_sz2 t
    show cntL (cntL List.length) [t] + (List.replicate p.toNat (0 : Int)).length ≤ _
    have h3 : cntL (cntL List.length) [t] = cntL List.length t := by simp [cntL]
    rw [h3, List.length_replicate]
    omega

theorem VC.cnt {x : Chn} (h : VC x) : cntC x ≤ 30000 := by
  have c1 : ∀ t ∈ x.tables, cntL List.length t ≤ 1296 := fun t ht => by
    obtain ⟨i, hi, rfl⟩ := List.mem_iff_getElem.1 ht
    have e := h.tabLen i hi
    rw [nth_eq hi] at e
    have hst := h.states
    have := cntL_le (cnt := List.length) (t := x.tables[i]) (b := 36) fun c hc => by
      obtain ⟨s, hs, rfl⟩ := List.mem_iff_getElem.1 hc
      have e2 := h.rowLen i s hi (by omega)
      rw [nth_eq hi, nth_eq hs] at e2
      have := h.base
      omega
    omega
  have c2 := cntL_le c1
  have := h.tables
  have := h.places
  show cntL (cntL List.length) x.tables + x.places.length ≤ _
  omega
theorem ev_cntA (t : List (List Int)) (p a b : Int) : cntC (evV t p a b) ≤ 30000 := by
  cases h : evOk t p a b
  · rw [evV_no h]; decide
  · rw [evV_yes h]
    simp only [evOk, Bool.and_eq_true] at h
    exact (vC_iff.1 h.2.2).cnt

/-! ### Two chains beside each other -/
def jnR (x y : Chn) (k s j : Nat) : List Int := (List.range j).map fun e => ((nxt x k (s / y.S) e * y.S + nxt y k (s % y.S) e : Nat) : Int)
def jnT (x y : Chn) (k m : Nat) : List (List Int) := (List.range m).map fun s => jnR x y k s x.b
def jnTs (x y : Chn) (k : Nat) : List (List (List Int)) := (List.range k).map fun i => jnT x y i (x.S * y.S)
def jnP (k : Nat) : List Int := (List.range k).map fun (i : Nat) => (i : Int)
def jnC (x y : Chn) : Chn := ⟨x.base, x.states * y.states, x.start * y.states + y.start, x.stop * y.states + y.stop, jnTs x y x.n, jnP x.n⟩
def jnOk (x y : Chn) : Bool := vC x && (vC y && (decide (x.base = y.base) && (decide (x.places.length = y.places.length) && decide (x.states * y.states ≤ 36))))
def jnV (x y : Chn) : Chn := if jnOk x y then jnC x y else Chn.nil
theorem jnV_no {x y : Chn} (h : jnOk x y = false) : jnV x y = Chn.nil := by simp [jnV, h]
theorem jnV_yes {x y : Chn} (h : jnOk x y = true) : jnV x y = jnC x y := by simp [jnV, h]
theorem jnR_succ (x y : Chn) (k s j : Nat) : jnR x y k s (j + 1) = jnR x y k s j ++ [((nxt x k (s / y.S) j * y.S + nxt y k (s % y.S) j : Nat) : Int)] := by unfold jnR; rw [List.range_succ, List.map_append]; rfl
theorem jnR_len (x y : Chn) (k s j : Nat) : (jnR x y k s j).length = j := by simp [jnR]
theorem jnT_succ (x y : Chn) (k m : Nat) : jnT x y k (m + 1) = jnT x y k m ++ [jnR x y k m x.b] := by unfold jnT; rw [List.range_succ, List.map_append]; rfl
theorem jnT_len (x y : Chn) (k m : Nat) : (jnT x y k m).length = m := by simp [jnT]
theorem jnTs_succ (x y : Chn) (k : Nat) : jnTs x y (k + 1) = jnTs x y k ++ [jnT x y k (x.S * y.S)] := by unfold jnTs; rw [List.range_succ, List.map_append]; rfl
theorem jnTs_len (x y : Chn) (k : Nat) : (jnTs x y k).length = k := by simp [jnTs]
theorem jnP_succ (k : Nat) : jnP (k + 1) = jnP k ++ [(k : Int)] := by unfold jnP; rw [List.range_succ, List.map_append]; rfl
theorem jnP_len (k : Nat) : (jnP k).length = k := by simp [jnP]
theorem jn_idx {S T p q : Nat} (hp : p < S) (hq : q < T) : p * T + q < S * T := by
  have : (p + 1) * T ≤ S * T := Nat.mul_le_mul_right T hp
  rw [Nat.add_mul] at this
  omega
theorem jn_parts {x y : Chn} (h : jnOk x y = true) : VC x ∧ VC y ∧ x.base = y.base ∧ x.n = y.n ∧ x.states * y.states ≤ 36 ∧ x.states * y.states = ((x.S * y.S : Nat) : Int) ∧ x.S * y.S ≤ 36 ∧ 1 ≤ x.S * y.S := by
  simp only [jnOk, Bool.and_eq_true, decide_eq_true_eq] at h
  obtain ⟨h1, h2, h3, h4, h5⟩ := h
  have v1 := vC_iff.1 h1
  have v2 := vC_iff.1 h2
  have e1 : x.states = (x.S : Int) := by have := v1.states; show _ = ((x.states.toNat : Nat) : Int); omega
  have e2 : y.states = (y.S : Int) := by have := v2.states; show _ = ((y.states.toNat : Nat) : Int); omega
  have e3 : x.states * y.states = ((x.S * y.S : Nat) : Int) := by rw [e1, e2]; push_cast; rfl
  refine ⟨v1, v2, h3, h4, h5, e3, by omega, ?_⟩
  exact Nat.mul_pos (by have := v1.nat; omega) (by have := v2.nat; omega)
theorem jn_next {x y : Chn} (h : jnOk x y = true) {k s e : Nat} (hk : k < x.n) (hs : s < x.S * y.S) (he : e < x.b) : s / y.S < x.S ∧ s % y.S < y.S ∧ nxt x k (s / y.S) e < x.S ∧ nxt y k (s % y.S) e < y.S ∧ nxt x k (s / y.S) e * y.S + nxt y k (s % y.S) e < x.S * y.S := by
  obtain ⟨v1, v2, h3, h4, h5, h6, h7, h8⟩ := jn_parts h
  have n1 := v1.nat
  have n2 := v2.nat
  have a1 : s / y.S < x.S := Nat.div_lt_of_lt_mul (by rw [Nat.mul_comm]; exact hs)
  have a2 : s % y.S < y.S := Nat.mod_lt _ (by omega)
  have c1 := (v1.cellN hk a1 he).2
  have c2 := (v2.cellN (k := k) (by omega) a2 (by show e < y.base.toNat; rw [← h3]; exact he)).2
  exact ⟨a1, a2, c1, c2, jn_idx c1 c2⟩
theorem jn_vC {x y : Chn} (h : jnOk x y = true) : vC (jnC x y) = true := by
  obtain ⟨v1, v2, h3, h4, h5, h6, h7, h8⟩ := jn_parts h
  have n1 := v1.nat
  have n2 := v2.nat
  have e2 : y.states = (y.S : Int) := by have := v2.states; show _ = ((y.states.toNat : Nat) : Int); omega
  have eb : x.base = (x.b : Int) := by have := v1.base; show _ = ((x.base.toNat : Nat) : Int); omega
  have st : ∀ a b : Int, 0 ≤ a → a < x.states → 0 ≤ b → b < y.states → 0 ≤ a * y.states + b ∧ a * y.states + b < x.states * y.states := fun a b g1 g2 g3 g4 => by
    obtain ⟨p, rfl⟩ := Int.eq_ofNat_of_zero_le g1
    obtain ⟨q, rfl⟩ := Int.eq_ofNat_of_zero_le g3
    have := jn_idx (S := x.S) (T := y.S) (p := p) (q := q) (by show p < x.states.toNat; omega) (by omega)
    rw [h6, e2]
    have e : ((p : Int)) * (y.S : Int) + (q : Int) = ((p * y.S + q : Nat) : Int) := by push_cast; rfl
    rw [e]
    omega
  have tl : ∀ i, i < x.n → nth (jnTs x y x.n) i = jnT x y i (x.S * y.S) := fun i hi => nth_range_map hi
  refine vC_iff.2 ⟨v1.base, ⟨by show 1 ≤ x.states * y.states; omega, h5⟩, st _ _ v1.start.1 v1.start.2 v2.start.1 v2.start.2, st _ _ v1.stop.1 v1.stop.2 v2.stop.1 v2.stop.2, ?_, ?_, ?_, ?_, ?_, ?_, ?_⟩
  · show 1 ≤ (jnTs x y x.n).length ∧ (jnTs x y x.n).length ≤ 20; rw [jnTs_len]; omega
  · show 1 ≤ (jnP x.n).length ∧ (jnP x.n).length ≤ 20; rw [jnP_len]; omega
  · show x.base ^ (jnP x.n).length ≤ _; rw [jnP_len]; exact v1.pow
  · intro i hi
    change i < (jnTs x y x.n).length at hi
    rw [jnTs_len] at hi
    show ((nth (jnTs x y x.n) i).length : Int) = x.states * y.states
    rw [tl i hi, jnT_len, h6]
  · intro i s hi hs
    change i < (jnTs x y x.n).length at hi
    rw [jnTs_len] at hi
    change (s : Int) < x.states * y.states at hs
    rw [h6] at hs
    show ((nth (nth (jnTs x y x.n) i) s).length : Int) = x.base
    rw [tl i hi, jnT, nth_range_map (by omega), jnR_len, eb]
  · intro i s d hi hs hd
    change i < (jnTs x y x.n).length at hi
    rw [jnTs_len] at hi
    change (s : Int) < x.states * y.states at hs
    rw [h6] at hs
    change (d : Int) < x.base at hd
    rw [eb] at hd
    show 0 ≤ nth (nth (nth (jnTs x y x.n) i) s) d ∧ nth (nth (nth (jnTs x y x.n) i) s) d < x.states * y.states
    rw [tl i hi, jnT, nth_range_map (by omega), jnR, nth_range_map (by omega), h6]
    have := (jn_next h hi (s := s) (e := d) (by omega) (by omega)).2.2.2.2
    omega
  · intro k hk
    change k < (jnP x.n).length at hk
    rw [jnP_len] at hk
    show 0 ≤ nth (jnP x.n) k ∧ nth (jnP x.n) k < ((jnTs x y x.n).length : Int)
    rw [jnTs_len, jnP, nth_range_map hk]
    omega
theorem jn_cnt (x y : Chn) : cntC (jnV x y) ≤ 30000 := by
  cases h : jnOk x y
  · rw [jnV_no h]; decide
  · rw [jnV_yes h]
    obtain ⟨v1, v2, h3, h4, h5, h6, h7, h8⟩ := jn_parts h
    have n1 := v1.nat
    have c1 : ∀ t ∈ jnTs x y x.n, cntL List.length t ≤ 1296 := fun t ht => by
      obtain ⟨i, _, rfl⟩ := List.mem_map.1 ht
      have := cntL_le (cnt := List.length) (t := jnT x y i (x.S * y.S)) (b := 36) fun c hc => by
        obtain ⟨s, _, rfl⟩ := List.mem_map.1 hc
        rw [jnR_len]; omega
      rw [jnT_len] at this
      omega
    have c2 := cntL_le c1
    rw [jnTs_len] at c2
    show cntL (cntL List.length) (jnTs x y x.n) + (jnP x.n).length ≤ _
    rw [jnP_len]
    omega
end Go.Proofs.Ytnpkanlieflbiaa
