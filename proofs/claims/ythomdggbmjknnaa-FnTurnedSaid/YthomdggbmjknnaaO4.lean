/- Orders: the cycles. -/
import Derived.Test.YthomdggbmjknnaaO3
namespace Go.Proofs.Ythomdggbmjknnaa
open Go.RowKit
set_option linter.unusedVariables false

theorem infoB2 : (Try.prog.info? 4).map (fun i => (i.zero, i.size, i.bytes)) = some (some (.bool false), 1, 1) := by kernel_rfl
theorem infoSl2' : (Try.prog.info? 25).map (fun i => (i.zero, i.size, i.bytes)) = some (some (.slice none 0 0), 1, 24) := by kernel_rfl
abbrev OB2 := OwnB 4
theorem OB2.ok : Rep.Ok OB2 := Own.ok oB.ok
def slLen : Value → Nat
  | .slice _ n _ => n
  | _ => 0
theorem Own.slLen {α : Type} [Inhabited α] {E : TypeId} {R : Rep α} {w : World} {v : Value} {xs : List α} {S : List Nat} (h : Own E R w v xs S) : slLen v = xs.length := by
  rcases h with ⟨rfl, rfl, _⟩ | ⟨g, cap, cur, Ss, rfl, _⟩ <;> rfl
theorem Own.other2 {α : Type} [Inhabited α] {E : TypeId} {R : Rep α} (hR : R.Ok) {w : World} {v : Value} {xs : List α} {S : List Nat} (h : Own E R w v xs S) {g i : Nat} (hg : g ∉ S) (u : Value) : Own E R (w.setCell ⟨g, i, none⟩ u) v xs S :=
  h.keep hR fun k hk => heap_setCell_other w _ k u (fun e => hg (by simp at e; rw [← e]; exact hk))
theorem Own.alloc2 {α : Type} [Inhabited α] {E : TypeId} {R : Rep α} (hR : R.Ok) {w : World} {v : Value} {xs : List α} {S : List Nat} (h : Own E R w v xs S) (o : Obj) : Own E R (w.alloc o) v xs S :=
  h.keep hR fun k hk => Below.heap_alloc _ _ _ ((Own.ok hR).lt h k hk)
theorem Own.empty {α : Type} [Inhabited α] (E : TypeId) (R : Rep α) (w : World) : Own E R (w.alloc (.cells #[] E)) (.slice (some ⟨w.heap.size, 0, none⟩) 0 0) [] [w.heap.size] :=
  .inr ⟨w.heap.size, 0, #[], [], rfl, heap_alloc_new w _, rfl, by simp, by simp, by simp, by simp, by simp, fun i hi => absurd hi (by simp)⟩

theorem Only.cell {S : List Nat} {w w' : World} (h : Only S w w') {p : Addr} (hp : p.block < w.heap.size) (hS : p.block ∉ S) : w'.cell? p = w.cell? p := cell_keep (h.block _ hp hS)
theorem setCell_size (w : World) (p : Addr) (v : Value) : (w.setCell p v).heap.size = w.heap.size := by simp
theorem alloc_size2 (w : World) (o : Obj) : (w.alloc o).heap.size = w.heap.size + 1 := by simp
/-- Steps from x on, up to what has been seen: what has been seen then, and the steps. -/
def cyc (f : List Int) : Nat → List Bool → List Int → Nat → List Bool × List Int
  | 0, s, c, x => (s, c)
  | n + 1, s, c, x => if nth s x then (s, c) else cyc f n (s.set x true) (c ++ [(x : Int)]) (nth f x).toNat
theorem cyc_seen {f : List Int} {n : Nat} {s : List Bool} {c : List Int} {x : Nat} (h : nth s x = true) : cyc f n s c x = (s, c) := by
  cases n with
  | zero => rfl
  | succ n => simp [cyc, h]
theorem cyc_step {f : List Int} {n : Nat} {s : List Bool} {c : List Int} {x : Nat} (h : nth s x = false) : cyc f (n + 1) s c x = cyc f n (s.set x true) (c ++ [(x : Int)]) (nth f x).toNat := by simp [cyc, h]
theorem cyc_ge (f : List Int) : ∀ n s c x, c.length ≤ (cyc f n s c x).2.length := by
  intro n
  induction n with
  | zero => intro s c x; exact Nat.le_refl _
  | succ n ih =>
    intro s c x
    unfold cyc
    split
    · exact Nat.le_refl _
    · have := ih (s.set x true) (c ++ [(x : Int)]) (nth f x).toNat
      simp only [List.length_append, List.length_singleton] at this
      omega
theorem cyc_ne (f : List Int) (n : Nat) (s : List Bool) (c : List Int) (x : Nat) (h : nth s x = false) (hn : 1 ≤ n) : (cyc f n s c x).2 ≠ [] := by
  obtain ⟨m, rfl⟩ : ∃ m, n = m + 1 := ⟨n - 1, by omega⟩
  rw [cyc_step h]
  intro e
  have := cyc_ge f m (s.set x true) (c ++ [(x : Int)]) (nth f x).toNat
  rw [e] at this
  simp at this
def unseen (s : List Bool) : Nat := s.countP (· == false)
theorem unseen_set {s : List Bool} {x : Nat} (hx : x < s.length) (h : nth s x = false) : unseen (s.set x true) + 1 = unseen s := by
  unfold unseen
  rw [nth_eq hx] at h
  have h1 := List.countP_set (p := (· == false)) (l := s) (a := true) hx
  have h2 : 0 < s.countP (· == false) := List.countP_pos_iff.2 ⟨s[x], List.getElem_mem hx, by rw [h]; rfl⟩
  have h3 : (s.set x true).countP (· == false) = s.countP (· == false) - 1 := by rw [h1, h]; simp
  rw [h3]; omega
theorem unseen_le (s : List Bool) : unseen s ≤ s.length := List.countP_le_length
/-- The state behind the first k numbers: what has been seen, and the cycles. -/
def cycTo (f : List Int) (k : Nat) : List Bool × List (List Int) :=
  iterK (fun st i => ((cyc f f.length st.1 [] i).1, if (cyc f f.length st.1 [] i).2 = [] then st.2 else st.2 ++ [(cyc f f.length st.1 [] i).2])) (List.replicate f.length false, []) k
theorem cycTo_succ (f : List Int) (k : Nat) : cycTo f (k + 1) = ((cyc f f.length (cycTo f k).1 [] k).1, if (cyc f f.length (cycTo f k).1 [] k).2 = [] then (cycTo f k).2 else (cycTo f k).2 ++ [(cyc f f.length (cycTo f k).1 [] k).2]) := rfl
def cycL (f : List Int) : List (List Int) := (cycTo f f.length).2
def cycV (f : List Int) : List (List Int) := if isOrd f 36 then cycL f else []
theorem cycV_no {f : List Int} (h : isOrd f 36 = false) : cycV f = [] := by simp [cycV, h]
theorem cycV_yes {f : List Int} (h : isOrd f 36 = true) : cycV f = cycL f := by simp [cycV, h]
theorem cyc_len (f : List Int) : ∀ n s c x, (cyc f n s c x).1.length = s.length ∧ (cyc f n s c x).2.length ≤ c.length + n := by
  intro n
  induction n with
  | zero => intro s c x; exact ⟨rfl, by simp [cyc]⟩
  | succ n ih =>
    intro s c x
    unfold cyc
    split
    · exact ⟨rfl, by show c.length ≤ _; omega⟩
    · have := ih (s.set x true) (c ++ [(x : Int)]) (nth f x).toNat
      simp only [List.length_set, List.length_append, List.length_singleton] at this
      exact ⟨this.1, by omega⟩
theorem cycTo_len (f : List Int) (k : Nat) : (cycTo f k).1.length = f.length ∧ (cycTo f k).2.length ≤ k ∧ ∀ c ∈ (cycTo f k).2, c.length ≤ f.length := by
  induction k with
  | zero => exact ⟨by simp [cycTo, iterK], by simp [cycTo, iterK], by simp [cycTo, iterK]⟩
  | succ k ih =>
    have h1 := cyc_len f f.length (cycTo f k).1 [] k
    rw [cycTo_succ]
    refine ⟨by rw [h1.1, ih.1], ?_, ?_⟩
    · show (if _ then _ else _ : List (List Int)).length ≤ _
      split
      · omega
      · simp; omega
    · intro c hc
      have hc' : c ∈ (if (cyc f f.length (cycTo f k).1 [] k).2 = [] then (cycTo f k).2 else (cycTo f k).2 ++ [(cyc f f.length (cycTo f k).1 [] k).2]) := hc
      split at hc'
      · exact ih.2.2 c hc'
      · rcases List.mem_append.1 hc' with h | h
        · exact ih.2.2 c h
        · simp at h; subst h; have := h1.2; simp at this; exact this
theorem cntL_bd {t : List (List Int)} {a b : Nat} (hl : t.length ≤ a) (h : ∀ c ∈ t, c.length ≤ b) : cntL List.length t ≤ a * b := by
  have : cntL List.length t ≤ t.length * b := by
    clear hl
    induction t with
    | nil => simp [cntL]
    | cons x t ih =>
      have h1 := h x (by simp)
      have h2 := ih (fun y hy => h y (by simp [hy]))
      simp only [cntL, List.map_cons, List.sum_cons, List.length_cons, Nat.succ_mul] at h2 ⊢
      omega
  exact Nat.le_trans this (Nat.mul_le_mul_right _ hl)
theorem cycV_cnt (f : List Int) : cntL List.length (cycV f) ≤ 1296 := by
  unfold cycV
  split
  · rename_i h
    have hl := isOrd_len h
    have h1 := cycTo_len f f.length
    exact cntL_bd (a := 36) (b := 36) (by have := h1.2.1; unfold cycL; omega) (fun c hc => by have := h1.2.2 c hc; omega)
  · simp [cntL]

end Go.Proofs.Ythomdggbmjknnaa
