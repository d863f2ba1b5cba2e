/- Orders: whether a list is one, on both sides. A set of numbers kept in a map[int64]bool. -/
import Derived.Test.YthomdggbmjknnaaDoorA1
import Derived.Test.YthomdggbmjknnaaDoorH2
import Derived.Maps.OwnOps
import Derived.Maps.Views
namespace Go.Proofs.YthomdggbmjknnaaDoor
open Go.RowKit Go.Maps
set_option linter.unusedVariables false

theorem ret_bool' {a b : Bool} (h : a = b) : Ending.returned (.bool a) = .returned (.bool b) := by rw [h]

/-! ### A set of numbers, kept in a map -/
theorem lawI64 : Keyed Tryd.prog 2 := int_keyed Tryd.underlying2
theorem zeroBool (w : World) : (zeroValue 4).run Tryd.prog w = .ok (.bool false) w := by kernel_rfl
set_option maxRecDepth 100000 in
theorem plainElem_bool_inv {H : Type} {v : Value} {z : DataW H × List MemPlace} (h : plainElem Tryd.prog 4 v = some z) : ∃ x, v = .bool x ∧ z = (.lit (.bool x), []) := by
  unfold plainElem at h
  rw [Tryd.underlying4] at h
  cases v <;> simp at h
  exact ⟨_, rfl, h.symm⟩

/-- Block b is a map of at most n entries: S says at which numbers it holds true. -/
def SetM (w : World) (b n : Nat) (S : Int → Bool) : Prop :=
  ∃ D : DataW Unit, w.ownsMap Tryd.prog 2 (plainElem Tryd.prog 4) b n D ∧ ∀ x : Int, (Lit.int .i64 x).wf = true → D.atKey (.int .i64 x) (.lit (.bool false)) = .lit (.bool (S x))
theorem SetM.made (w : World) : SetM (w.alloc (.map #[] 0)) w.heap.size 0 fun _ => false := ⟨_, World.ownsMap_made _ _ _ _, fun _ _ => rfl⟩
/-! ### l00Has -/
def hasI (xs : List Int) (x : Int) : Bool := xs.contains x
theorem hasI_iff {xs : List Int} {x : Int} : hasI xs x = true ↔ ∃ i, i < xs.length ∧ nth xs i = x := by
  simp only [hasI, List.contains_iff_mem, List.mem_iff_getElem]
  constructor
  · rintro ⟨i, hi, h⟩; exact ⟨i, hi, by rw [nth_eq hi]; exact h⟩
  · rintro ⟨i, hi, h⟩; exact ⟨i, hi, by rw [← nth_eq hi]; exact h⟩
theorem hasI_no {xs : List Int} {x : Int} (h : ∀ i, i < xs.length → ¬ nth xs i = x) : hasI xs x = false := by
  cases e : hasI xs x with
  | false => rfl
  | true => obtain ⟨i, hi, hx⟩ := hasI_iff.1 e; exact absurd hx (h i hi)

theorem Rd.front {α : Type} [Inhabited α] {R : RRep α} {P : Nat → Prop} {w : World} {a : Option Addr} {n c : Nat} {xs : List α} (h : Rd R P w (.slice a n c) xs) {i : Nat} (hi : i ≤ xs.length) : Rd R P w (.slice a i c) (xs.take i) := by
  obtain ⟨a', c', e, h1, h2, hrd⟩ := h
  simp only [Value.slice.injEq] at e
  obtain ⟨rfl, rfl, rfl⟩ := e
  have hl : (xs.take i).length = i := by simp; omega
  refine ⟨a, c, by rw [hl], by rw [hl]; omega, h2, fun j hj => ?_⟩
  rw [hl] at hj
  obtain ⟨b, o, u, e1, e2, e3, e4⟩ := hrd j (by omega)
  exact ⟨b, o, u, e1, e2, e3, by rw [nth_take hj]; exact e4⟩

/-! ### Orders -/
def ordB (xs : List Int) (n : Int) (k : Nat) : Bool := (List.range k).all fun i => inB (nth xs i) 0 (n - 1) && !hasI (xs.take i) (nth xs i)
theorem ordB_succ (xs : List Int) (n : Int) (k : Nat) : ordB xs n (k + 1) = (ordB xs n k && (inB (nth xs k) 0 (n - 1) && !hasI (xs.take k) (nth xs k))) := by simp [ordB, List.range_succ]
theorem ordB_no {xs : List Int} {n : Int} {k m : Nat} (hk : k < m) (h : (inB (nth xs k) 0 (n - 1) && !hasI (xs.take k) (nth xs k)) = false) : ordB xs n m = false := by
  unfold ordB; rw [List.all_eq_false]
  exact ⟨k, List.mem_range.2 hk, by rw [h]; simp⟩
theorem ordB_at {xs : List Int} {n : Int} {k m : Nat} (h : ordB xs n m = true) (hk : k < m) : (0 ≤ nth xs k ∧ nth xs k ≤ n - 1) ∧ hasI (xs.take k) (nth xs k) = false := by
  unfold ordB at h; rw [List.all_eq_true] at h
  have := h k (List.mem_range.2 hk)
  simp only [Bool.and_eq_true, Bool.not_eq_true'] at this
  exact ⟨inB_true.1 this.1, this.2⟩
/-- Whether a list is an order of at most most things. -/
def isOrd (xs : List Int) (most : Nat) : Bool := ordB xs xs.length xs.length && (decide (1 ≤ xs.length) && decide (xs.length ≤ most))
theorem isOrd_no {xs : List Int} {most : Nat} (h : ordB xs xs.length xs.length = false) : isOrd xs most = false := by simp [isOrd, h]
theorem isOrd_end {xs : List Int} {most : Nat} (h : ordB xs xs.length xs.length = true) : isOrd xs most = (decide (1 ≤ xs.length) && decide (xs.length ≤ most)) := by simp [isOrd, h]

theorem quiet_same {f : FuncId} {args : Array Value} {w : World} {n : Nat} {v : Value}
    (h : Calls Tryd.prog f args (w.drewN n) fun e w' => e = .returned v ∧ w.drewN n = w') : Calls Tryd.prog f args (w.drewN n) fun e w'' => e = .returned v ∧ ∃ m, w'' = w.drewN m :=
  h.mono fun _ _ ⟨he, hm⟩ => ⟨he, n, hm.symm⟩
theorem rd_draws {α : Type} {R : RRep α} (hR : R.Ok) {P : Nat → Prop} {w : World} {v : Value} {x : α} (h : R P w v x) (n : Nat) : R P (w.drewN n) v x := hR.keep h fun _ _ => rfl

theorem below_draws {w w' : World} (h : ∃ m, w.drewN m = w') : Below w.heap.size w w' := by obtain ⟨m, rfl⟩ := h; exact ⟨rfl, rfl, rfl, Nat.le_refl _, fun _ _ => rfl⟩
end Go.Proofs.YthomdggbmjknnaaDoor
