/- What the walks of the laws keep of memory: each thing that was made lies within an interval of blocks; each step turns one interval. And the laws' small functions, said so. -/
import Derived.Test.YtmgfbmpiaanhkaaH1
namespace Go.Proofs.Ytmgfbmpiaanhkaa
open Go.RowKit
set_option linter.unusedVariables false

/-- A step that turned, of what was there, the blocks from lo to hi alone. -/
structure Turn (lo hi : Nat) (w w' : World) : Prop where
  os : w'.os = w.os
  tape : w'.tape = w.tape
  output : w'.output = w.output
  size : w.heap.size ≤ w'.heap.size
  block : ∀ k, k < w.heap.size → (k < lo ∨ hi ≤ k) → w'.heap[k]? = w.heap[k]?

theorem Turn.of_below {w w' : World} (h : Below w.heap.size w w') : Turn 0 0 w w' := ⟨h.os, h.tape, h.output, h.size, fun k hk _ => h.block k hk⟩
theorem Turn.of_draws {w w' : World} (h : ∃ n, w.drewN n = w') : Turn 0 0 w w' := by obtain ⟨n, rfl⟩ := h; exact ⟨rfl, rfl, rfl, Nat.le_refl _, fun _ _ _ => rfl⟩
theorem Turn.below {B lo hi : Nat} {w0 w w' : World} (h : Below B w0 w) (t : Turn lo hi w w') (h1 : B ≤ lo ∨ hi = 0) (h2 : B ≤ w.heap.size) : Below B w0 w' :=
  h.trans ⟨t.os, t.tape, t.output, t.size, fun k hk => t.block k (by omega) (by omega)⟩

/-- x, as R says, lies at v, all its blocks from lo on and below hi. -/
def In {α : Type} (R : Rep α) (lo hi : Nat) (w : World) (v : Value) (x : α) : Prop := ∃ S, R w v x S ∧ ∀ k ∈ S, lo ≤ k ∧ k < hi

theorem In.of_fresh {α : Type} {R : Rep α} (hR : R.Ok) {w w' : World} {v : Value} {x : α} (h : Fresh R w w' v x) : In R w.heap.size w'.heap.size w' v x ∧ Turn 0 0 w w' :=
  ⟨⟨h.choose, h.choose_spec.1, fun k hk => ⟨h.choose_spec.2.1 k hk, hR.lt h.choose_spec.1 k hk⟩⟩, Turn.of_below h.choose_spec.2.2⟩
theorem In.keep {α : Type} {R : Rep α} (hR : R.Ok) {lo hi a b : Nat} {w w' : World} {v : Value} {x : α} (h : In R lo hi w v x) (t : Turn a b w w') (hd : b ≤ lo ∨ hi ≤ a) : In R lo hi w' v x := by
  obtain ⟨S, h1, h2⟩ := h
  exact ⟨S, hR.keep h1 fun k hk => t.block k (hR.lt h1 k hk) (by have := h2 k hk; omega), h2⟩
theorem In.rd {α : Type} {R : Rep α} {Q : RRep α} (hL : Leads R Q) {lo hi : Nat} {w : World} {v : Value} {x : α} (h : In R lo hi w v x) : Q (fun k => lo ≤ k ∧ k < hi) w v x := by
  obtain ⟨S, h1, h2⟩ := h
  exact hL.to _ _ _ _ _ h1 h2
theorem In.rdlt {α : Type} {R : Rep α} {Q : RRep α} (hL : Leads R Q) (hR : R.Ok) {lo hi : Nat} {w : World} {v : Value} {x : α} (h : In R lo hi w v x) : Q (· < w.heap.size) w v x := by
  obtain ⟨S, h1, h2⟩ := h
  exact hL.to _ _ _ _ _ h1 (hR.lt h1)
theorem rd_turn {α : Type} {R : RRep α} (hR : R.Ok) {B lo hi : Nat} {w w' : World} {v : Value} {x : α} (h : R (· < B) w v x) (t : Turn lo hi w w') (h1 : B ≤ lo ∨ hi = 0) (h2 : B ≤ w.heap.size) : R (· < B) w' v x :=
  hR.keep h fun k hk => t.block k (by omega) (by omega)
theorem rd_wide {α : Type} {R : RRep α} (hR : R.Ok) {B : Nat} {w : World} {v : Value} {x : α} (h : R (· < B) w v x) (h2 : B ≤ w.heap.size) : R (· < w.heap.size) w v x :=
  hR.mono h fun k hk => by omega

theorem OI.ok : Rep.Ok OI := Own.ok oI.ok
theorem OI.leads : Leads OI RdI := Own.leads leaf.leads

theorem toInt64S_t {B : Nat} {v : Value} {xs : List Int} {w : World} (h : RdI (· < B) w v xs) (hB : B ≤ w.heap.size) (hn : xs.length ≤ 1048576) :
    Calls Try.prog 24 #[v] w fun e w' => ∃ v', e = .returned v' ∧ In OI w.heap.size w'.heap.size w' v' xs ∧ Turn 0 0 w w' := by
  refine (toInt64S h (fun k hk => by omega) hn).mono ?_
  rintro e w' ⟨rfl, ho, hb⟩
  exact ⟨_, rfl, ⟨_, ho, fun k hk => ⟨by simp at hk; omega, OI.ok.lt ho k hk⟩⟩, Turn.of_below hb⟩
theorem eqInt64S_t {a b c d : Nat} {va vb : Value} {xs : List Int} {w : World} (ha : In OI a b w va xs) (hb : In OI c d w vb xs) :
    Calls Try.prog 26 #[va, vb] w fun e w' => e = .returned (.bool true) ∧ Turn 0 0 w w' :=
  (eqInt64S (ha.rd OI.leads) (hb.rd OI.leads)).mono fun e w' ⟨he, h⟩ => ⟨he, Turn.of_draws h⟩
theorem markInt64S_t {lo hi : Nat} {v : Value} {xs : List Int} {w : World} {k : Int} (h : In OI lo hi w v xs) (hk : 0 ≤ k) (hk2 : k + xs.length ≤ 4611686018427387904) :
    Calls Try.prog 33 #[v, .int .i64 k] w fun e w' => e = .returned (.int .i64 (k + xs.length)) ∧ In OI lo hi w' v (mk1 k xs.length) ∧ Turn lo hi w w' := by
  obtain ⟨S, h1, h2⟩ := h
  refine (markInt64S h1 hk hk2).mono ?_
  rintro e w' ⟨rfl, ho, hb⟩
  exact ⟨rfl, ⟨S, ho, h2⟩, ⟨hb.os, hb.tape, hb.output, hb.size, fun k hk hd => hb.block k hk fun hS => by have := h2 k hS; omega⟩⟩
theorem heldInt64S_t {lo hi n : Nat} {v : Value} {w : World} {k : Int} (h : In OI lo hi w v (mk1 k n)) (hk : 0 ≤ k) (hk2 : k + n ≤ 4611686018427387904) :
    Calls Try.prog 34 #[v, .int .i64 k] w fun e w' => e = .returned (.int .i64 (k + n)) ∧ Turn 0 0 w w' :=
  (heldInt64S (h.rd OI.leads) hk hk2).mono fun e w' ⟨he, h⟩ => ⟨he, Turn.of_draws ⟨0, h⟩⟩
end Go.Proofs.Ytmgfbmpiaanhkaa
