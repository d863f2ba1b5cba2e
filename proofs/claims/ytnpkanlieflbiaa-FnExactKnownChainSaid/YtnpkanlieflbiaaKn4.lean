/- Known chains: the system of two moduli, walked on both sides. -/
import Derived.Test.YtnpkanlieflbiaaKn3
import Derived.Test.YtnpkanlieflbiaaT4
namespace Go.Proofs.Ytnpkanlieflbiaa
open Go.RowKit
set_option linter.unusedVariables false

/-- Two values made side by side. -/
def Pr {α β : Type} (RA : Rep α) (RB : Rep β) (w0 wr : World) (va vb : Value) (a : α) (b : β) : Prop := ∃ Sa Sb, RA wr va a Sa ∧ RB wr vb b Sb ∧ (∀ k ∈ Sa, k ∉ Sb) ∧ (∀ k ∈ Sa, w0.heap.size ≤ k) ∧ (∀ k ∈ Sb, w0.heap.size ≤ k) ∧ Below w0.heap.size w0 wr
section pr
variable {α β : Type} {RA : Rep α} {RB : Rep β} {w0 wr : World} {va vb : Value} {a : α} {b : β}
theorem Pr.swap (h : Pr RA RB w0 wr va vb a b) : Pr RB RA w0 wr vb va b a := by
  obtain ⟨Sa, Sb, h1, h2, h3, h4, h5, h6⟩ := h
  exact ⟨Sb, Sa, h2, h1, fun k hk hm => h3 k hm hk, h5, h4, h6⟩
theorem Pr.bel (h : Pr RA RB w0 wr va vb a b) : Below w0.heap.size w0 wr := by obtain ⟨_, _, _, _, _, _, _, h6⟩ := h; exact h6
theorem Pr.fst (h : Pr RA RB w0 wr va vb a b) : Fresh RA w0 wr va a := by obtain ⟨Sa, Sb, h1, h2, h3, h4, h5, h6⟩ := h; exact ⟨Sa, h1, h4, h6⟩
theorem Pr.keep (hA : RA.Ok) (hB : RB.Ok) (h : Pr RA RB w0 wr va vb a b) {w' : World} (hb : Below wr.heap.size wr w') : Pr RA RB w0 w' va vb a b := by
  obtain ⟨Sa, Sb, h1, h2, h3, h4, h5, h6⟩ := h
  exact ⟨Sa, Sb, hA.keep h1 fun k hk => hb.block k (hA.lt h1 k hk), hB.keep h2 fun k hk => hb.block k (hB.lt h2 k hk), h3, h4, h5, h6.trans (hb.mono h6.size)⟩
/-- One number more on the left. -/
theorem Pr.pushL (hA : RA.Ok) (hB : RB.Ok) (h : Pr RA RB w0 wr va vb a b) : ∃ Sa, RA wr va a Sa ∧ ∀ v w' S' a', RA w' v a' S' → Only Sa wr w' → (∀ k ∈ S', k ∈ Sa ∨ k ∈ ([] : List Nat) ∨ wr.heap.size ≤ k) → Pr RA RB w0 w' v vb a' b := by
  obtain ⟨Sa, Sb, h1, h2, h3, h4, h5, h6⟩ := h
  refine ⟨Sa, h1, fun v w' S' a' g1 g2 g3 => ⟨S', Sb, g1, hB.keep h2 fun k hk => g2.block k (hB.lt h2 k hk) (fun hm => h3 k hm hk), fun k hk hm => ?_, fun k hk => ?_, h5, below_only h6 g2 h6.size h4⟩⟩
  · rcases g3 k hk with e | e | e
    · exact h3 k e hm
    · simp at e
    · have := hB.lt h2 k hm; omega
  · rcases g3 k hk with e | e | e
    · exact h4 k e
    · simp at e
    · have := h6.size; omega
end pr
/-- A row more on both sides, the left first. -/
theorem Pr.both {w0 W2 W3 : World} {fv lv ra rb : Value} {A B : List (List Int)} {a b : List Int} (h : Pr OII OII w0 W2 fv lv A B) (hr : Pr OI OI W2 W3 ra rb a b) :
    ∃ Sa Ta, OII W3 fv A Sa ∧ OI W3 ra a Ta ∧ (∀ k ∈ Ta, k ∉ Sa) ∧ ∀ v1 w5 S1, OII w5 v1 (A ++ [a]) S1 → Only Sa W3 w5 → (∀ k ∈ S1, k ∈ Sa ∨ k ∈ Ta ∨ W3.heap.size ≤ k) →
      ∃ Sb Tb, OII w5 lv B Sb ∧ OI w5 rb b Tb ∧ (∀ k ∈ Tb, k ∉ Sb) ∧ ∀ v2 w6 S2, OII w6 v2 (B ++ [b]) S2 → Only Sb w5 w6 → (∀ k ∈ S2, k ∈ Sb ∨ k ∈ Tb ∨ w5.heap.size ≤ k) → Pr OII OII w0 w6 v1 v2 (A ++ [a]) (B ++ [b]) := by
  obtain ⟨Sa, Sb, h1, h2, h3, h4, h5, h6⟩ := h
  obtain ⟨Ta, Tb, r1, r2, r3, r4, r5, r6⟩ := hr
  have lA := OII.ok.lt h1
  have lB := OII.ok.lt h2
  have lTa := OI.ok.lt r1
  have lTb := OI.ok.lt r2
  have hz := r6.size
  have hz0 := h6.size
  refine ⟨Sa, Ta, OII.ok.keep h1 fun k hk => r6.block k (lA k hk), r1, fun k hk hm => by have := r4 k hk; have := lA k hm; omega, fun v1 w5 S1 g1 g2 g3 => ?_⟩
  have gz := g2.size
  have kB : ∀ k ∈ Sb, w5.heap[k]? = W2.heap[k]? := fun k hk => (g2.block k (by have := lB k hk; omega) (fun hm => h3 k hm hk)).trans (r6.block k (lB k hk))
  have kTb : ∀ k ∈ Tb, w5.heap[k]? = W3.heap[k]? := fun k hk => g2.block k (lTb k hk) (fun hm => by have := r5 k hk; have := lA k hm; omega)
  refine ⟨Sb, Tb, OII.ok.keep h2 kB, OI.ok.keep r2 kTb, fun k hk hm => by have := r5 k hk; have := lB k hm; omega, fun v2 w6 S2 q1 q2 q3 => ?_⟩
  have l1 := OII.ok.lt g1
  have dS1 : ∀ k ∈ S1, k ∉ Sb := fun k hk hm => by
    have := lB k hm
    rcases g3 k hk with e | e | e
    · exact h3 k e hm
    · have := r4 k e; omega
    · omega
  have hb3 := h6.trans (r6.mono h6.size)
  have hb5 := below_only hb3 g2 hb3.size h4
  refine ⟨S1, S2, OII.ok.keep g1 fun k hk => q2.block k (l1 k hk) (dS1 k hk), q1, fun k hk hm => ?_, fun k hk => ?_, fun k hk => ?_, below_only hb5 q2 hb5.size h5⟩
  · have hl := l1 k hk
    rcases q3 k hm with e | e | e
    · exact dS1 k hk e
    · have e5 := r5 k e
      have e6 := lTb k e
      rcases g3 k hk with f | f | f
      · have := lA k f; omega
      · exact r3 k f e
      · omega
    · omega
  · rcases g3 k hk with e | e | e
    · exact h4 k e
    · have := r4 k e; omega
    · omega
  · rcases q3 k hk with e | e | e
    · exact h5 k e
    · have := r5 k e; omega
    · have := hb5.size; omega

/-- The inner numbers. -/
theorem hy_step (x d : Nat) (hx : x < 11) (hd : d < 10) : ((x : Int) + d).tmod 10 = (hyY x d : Int) ∧ (2 * (hyZ x d : Int)).tmod 11 = (hyA x d : Int) ∧ hyY x d < 10 ∧ hyZ x d ≤ 10 ∧ hyA x d < 11 := by
  have h1 : hyY x d < 10 := Nat.mod_lt _ (by omega)
  have h2 : hyZ x d ≤ 10 := by unfold hyZ; split <;> omega
  refine ⟨?_, ?_, h1, h2, Nat.mod_lt _ (by omega)⟩
  · rw [Int.tmod_eq_emod_of_nonneg (by omega)]; unfold hyY; omega
  · rw [Int.tmod_eq_emod_of_nonneg (by omega)]; unfold hyA; omega
theorem hyC_one : hyC 1 = ⟨10, 11, 10, 1, [hyTB 11], [0]⟩ := rfl
theorem hyC_more {P : Nat} (h : ¬ P = 1) : hyC P = ⟨10, 11, 10, 1, [hyTA 11, hyTB 11], List.replicate (P - 1) 0 ++ [1]⟩ := by simp [hyC, h]
end Go.Proofs.Ytnpkanlieflbiaa
