/- LinearTable. -/
import Derived.Test.YthomdggbmjknnaaB2
namespace Go.Proofs.Ythomdggbmjknnaa
open Go.RowKit
set_option linter.unusedVariables false

def linOk (n a b c : Int) : Bool := inB n 1 36 && (inB a 0 (n - 1) && (inB b 0 (n - 1) && inB c 0 (n - 1)))
def linF (n a b c : Int) (x y : Nat) : Int := (a * x + b * y + c) % n
def linT (n a b c : Int) : List (List Int) := tab n.toNat (linF n a b c)
def linR (n a b c : Int) : Bool := linOk n a b c && isQ (linT n a b c)
def linV (n a b c : Int) : List (List Int) := if linR n a b c then linT n a b c else []
theorem linR_no {n a b c : Int} (h : linOk n a b c = false) : linR n a b c = false := by simp [linR, h]
theorem linR_q {n a b c : Int} (h : isQ (linT n a b c) = false) : linR n a b c = false := by simp [linR, h]
theorem linR_yes {n a b c : Int} (h : linOk n a b c = true) (h2 : isQ (linT n a b c) = true) : linR n a b c = true := by simp [linR, h, h2]
theorem linV_no {n a b c : Int} (h : linR n a b c = false) : linV n a b c = [] := by simp [linV, h]
theorem linV_yes {n a b c : Int} (h : linR n a b c = true) : linV n a b c = linT n a b c := by simp [linV, h]
theorem linV_cnt (n a b c : Int) : cntL List.length (linV n a b c) ≤ 1296 := by
  unfold linV
  split
  · rename_i h
    simp only [linR, linOk, Bool.and_eq_true] at h
    have hn := inB_true.1 h.1.1
    have hs := tab_sq n.toNat (linF n a b c)
    have : cntL List.length (linT n a b c) ≤ (linT n a b c).length * 36 := by
      have h36 : ∀ x ∈ linT n a b c, x.length ≤ 36 := by
        intro x hx
        obtain ⟨i, hi, rfl⟩ := List.mem_iff_getElem.1 hx
        rw [← nth_eq hi]
        have := hs.2 i (by rw [← hs.1]; exact hi)
        unfold linT; omega
      clear hs h hn
      generalize linT n a b c = t at *
      induction t with
      | nil => simp [cntL]
      | cons x t ih =>
        have h1 := h36 x (by simp)
        have h2 := ih (fun y hy => h36 y (by simp [hy]))
        simp only [cntL, List.map_cons, List.sum_cons, List.length_cons] at h2 ⊢
        omega
    have hl : (linT n a b c).length = n.toNat := hs.1
    rw [hl] at this
    omega
  · simp [cntL]
theorem mulBd {a : Int} {n : Int} {x : Nat} (h1 : 0 ≤ a) (h2 : a ≤ n - 1) (hn : n ≤ 36) (hx : x < n.toNat) : 0 ≤ a * x ∧ a * x ≤ 1225 := by
  have h3 : (0 : Int) ≤ x := by omega
  refine ⟨Int.mul_nonneg h1 h3, ?_⟩
  have h4 : a * (x : Int) ≤ 35 * 35 := Int.mul_le_mul (by omega) (by omega) h3 (by omega)
  omega

theorem box_at (w : World) (v : Value) (E : TypeId) : (w.alloc (.cells #[v] E)).cell? ⟨w.heap.size, 0, none⟩ = some v := by simp
theorem box_past (w : World) (o : Obj) {k : Nat} {v : Value} (h : w.cell? ⟨k, 0, none⟩ = some v) (hk : k < w.heap.size) : (w.alloc o).cell? ⟨k, 0, none⟩ = some v := by
  rw [World.cell?_alloc_past _ _ _ hk]; exact h
theorem box4 (w : World) (p q r s : Value) (E : TypeId) :
    ((((w.alloc (.cells #[p] E)).alloc (.cells #[q] E)).alloc (.cells #[r] E)).alloc (.cells #[s] E)).cell? ⟨w.heap.size, 0, none⟩ = some p ∧
    ((((w.alloc (.cells #[p] E)).alloc (.cells #[q] E)).alloc (.cells #[r] E)).alloc (.cells #[s] E)).cell? ⟨w.heap.size + 1, 0, none⟩ = some q ∧
    ((((w.alloc (.cells #[p] E)).alloc (.cells #[q] E)).alloc (.cells #[r] E)).alloc (.cells #[s] E)).cell? ⟨w.heap.size + 1 + 1, 0, none⟩ = some r ∧
    ((((w.alloc (.cells #[p] E)).alloc (.cells #[q] E)).alloc (.cells #[r] E)).alloc (.cells #[s] E)).cell? ⟨w.heap.size + 1 + 1 + 1, 0, none⟩ = some s := by
  refine ⟨box_past _ _ (box_past _ _ (box_past _ _ (box_at _ _ _) ?_) ?_) ?_, box_past _ _ (box_past _ _ ?_ ?_) ?_, box_past _ _ ?_ ?_, ?_⟩
  · simp
  · simp; omega
  · simp; omega
  · have := box_at (w.alloc (.cells #[p] E)) q E; rwa [alloc_size] at this
  · simp
  · simp
  · have := box_at ((w.alloc (.cells #[p] E)).alloc (.cells #[q] E)) r E; rwa [alloc_size, alloc_size] at this
  · simp
  · have := box_at (((w.alloc (.cells #[p] E)).alloc (.cells #[q] E)).alloc (.cells #[r] E)) s E; rwa [alloc_size, alloc_size, alloc_size] at this

end Go.Proofs.Ythomdggbmjknnaa
