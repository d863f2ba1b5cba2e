/- Orders: composing, inverting, powers by squaring. -/
import Derived.Test.YtnpkanlieflbiaaO1
namespace Go.Proofs.Ytnpkanlieflbiaa
open Go.RowKit
set_option linter.unusedVariables false

/-- What g and then f do. -/
def compL (f g : List Int) : List Int := g.map fun k => nth f k.toNat
theorem compL_length (f g : List Int) : (compL f g).length = g.length := by simp [compL]
theorem compL_take_succ (f : List Int) {g : List Int} {k : Nat} (h : k < g.length) : compL f (g.take (k + 1)) = compL f (g.take k) ++ [nth f (nth g k).toNat] := by
  rw [take_nth h]; simp [compL]
theorem nth_compL {f g : List Int} {i : Nat} (h : i < g.length) : nth (compL f g) i = nth f (nth g i).toNat := nth_map h

/-- The order that changes nothing. -/
def sameL (n : Nat) : List Int := (List.range n).map fun (i : Nat) => (i : Int)
theorem sameL_length (n : Nat) : (sameL n).length = n := by simp [sameL]
theorem nth_sameL {n i : Nat} (h : i < n) : nth (sameL n) i = i := by rw [nth_eq (by simpa [sameL] using h)]; simp [sameL]
theorem implSameOrder (n : Nat) (hn : n ≤ 1048576) (w : World) :
    Calls Try.prog 133 #[.int .i64 n] w fun e w' => ∃ v, e = .returned v ∧ Fresh OI w w' v (sameL n) := by
  go_enter Try.func133, Try.ntmps133
  go_wp2
  go_loopw [3, 7] (fun v i wr => ∃ k : Nat, k ≤ n ∧ i = .int .i64 k ∧ Fresh OI w wr v (sameL k)) (fun _ i _ => n - (intOf i).toNat)
  case atStart => exact ⟨0, Nat.zero_le _, rfl, Fresh.empty (Below.refl _ _)⟩
  case round =>
    obtain ⟨k, hk, rfl, hf⟩ := hrel
    have hs := Lib.hid (show sameL (k + 1) = sameL k ++ [(k : Int)] by simp [sameL, List.range_succ])
    have hl2 := Lib.hid (show (sameL k).length ≤ 1048576 by rw [sameL_length]; omega)
    by_cases hlt : k < n
    · go_wp2_with (at_builtin; refine wpList_pushF rfl _ _ 22 rfl (f := fI) (fun _ => rfl) Try.underlying22 infoI64 rfl hf (k : Int) (by have := hl2.out; omega) (by have := hl2.out; unfold maxLen; omega) rfl rfl ?_; intro v1 w1 hf1)
      go_roundw
      case rel => exact ⟨k + 1, by omega, by go_num, by rw [hs.out]; assumption⟩
      case measure => simp [intOf]; omega
    · obtain rfl : k = n := by omega
      go_wp2
      go_ret
      exact ⟨_, rfl, hf⟩

theorem slClone {P : Nat → Prop} {v : Value} {xs : List Int} {w : World} (h : RdI P w v xs) (hP : ∀ k, P k → k < w.heap.size) (hn : xs.length ≤ 1048576) :
    Calls Try.prog 147 #[v] w fun e w' => ∃ v, e = .returned v ∧ Fresh OI w w' v xs := by
  have h0 := Lib.hid h
  obtain ⟨a, c, rfl, h1, h2, hrd⟩ := h
  cases a with
  | none =>
    have hx : xs = [] := by
      rcases Nat.eq_zero_or_pos xs.length with h | h
      · exact List.eq_nil_of_length_eq_zero h
      · obtain ⟨b, o, u, e, _⟩ := hrd 0 h; cases e
    subst hx
    clear hrd
    have hnil := Lib.run_eql_slice_nil (P := Try.prog)
    go_enter Try.func147, Try.ntmps147
    go_wp2
    go_ret
    exact ⟨_, rfl, Fresh.nil (Below.refl _ _)⟩
  | some ad =>
    clear hrd
    have hsrc : RdI P (w.alloc (.cells #[] 2)) (.slice (some ad) xs.length c) xs := RdI.ok.keep h0.out fun k hk => Below.heap_alloc w _ k (hP k hk)
    have Hsrc := Lib.hid hsrc; clear hsrc
    have hf0 : Fresh OI w (w.alloc (.cells #[] 2)) (.slice (some ⟨w.heap.size, 0, none⟩) 0 0) [] := Fresh.empty (Below.refl _ _)
    have Hf0 := Lib.hid hf0; clear hf0
    have hnil := Lib.run_eql_slice_nil (P := Try.prog)
    go_enter Try.func147, Try.ntmps147
    go_wp2_with (at_builtin; refine wpList_appendF rfl (.tmp 5) (.tmp 6) 22 rfl (f := fI) (fun _ => rfl) Try.underlying22 infoI64 rfl Hf0.out Hsrc.out (by simp; omega) (by simp; unfold maxLen; omega) rfl rfl ?_; intro v1 w1 hf1)
    go_ret
    exact ⟨_, rfl, by rw [List.nil_append] at hf1; exact hf1⟩

/-- Powers of an order. -/
def itf (f : List Int) : Nat → Int → Int
  | 0, x => x
  | n + 1, x => itf f n (nth f x.toNat)
def powL (f : List Int) (n : Nat) : List Int := (List.range f.length).map fun (i : Nat) => itf f n i
theorem powL_length (f : List Int) (n : Nat) : (powL f n).length = f.length := by simp [powL]
theorem nth_powL {f : List Int} {n i : Nat} (h : i < f.length) : nth (powL f n) i = itf f n i := by rw [nth_eq (by simpa [powL] using h)]; simp [powL]
def Closed (f : List Int) : Prop := ∀ i, i < f.length → 0 ≤ nth f i ∧ nth f i < f.length
theorem itf_bd {f : List Int} (h : Closed f) : ∀ (n : Nat) (x : Int), 0 ≤ x → x < f.length → 0 ≤ itf f n x ∧ itf f n x < f.length := by
  intro n
  induction n with
  | zero => intro x h1 h2; exact ⟨h1, h2⟩
  | succ n ih =>
    intro x h1 h2
    have := h x.toNat (by omega)
    exact ih _ this.1 this.2
theorem itf_add (f : List Int) : ∀ (a b : Nat) (x : Int), itf f (a + b) x = itf f b (itf f a x) := by
  intro a
  induction a with
  | zero => intro b x; simp [itf]
  | succ a ih => intro b x; rw [show a + 1 + b = (a + b) + 1 by omega]; exact ih b _
theorem powL_closed {f : List Int} (h : Closed f) (n : Nat) : Closed (powL f n) := by
  intro i hi
  rw [powL_length] at hi ⊢
  rw [nth_powL hi]
  exact itf_bd h n i (by omega) (by omega)
theorem compL_powL {f : List Int} (h : Closed f) (a b : Nat) : compL (powL f a) (powL f b) = powL f (b + a) := by
  apply ext_nth (by rw [compL_length, powL_length, powL_length])
  intro i hi
  rw [compL_length, powL_length] at hi
  have := itf_bd h b i (by omega) (by omega)
  rw [nth_compL (by rw [powL_length]; exact hi), nth_powL hi, nth_powL hi, nth_powL (by omega), itf_add, Int.toNat_of_nonneg this.1]
theorem powL_zero (f : List Int) : powL f 0 = sameL f.length := rfl
theorem powL_one (f : List Int) (h : Closed f) : powL f 1 = f := by
  apply ext_nth (powL_length f 1)
  intro i hi
  rw [powL_length] at hi
  rw [nth_powL hi]; simp [itf]
theorem isOrd_closed {f : List Int} {most : Nat} (h : isOrd f most = true) : Closed f := by
  intro i hi
  simp only [isOrd, Bool.and_eq_true] at h
  have := (ordB_at h.1 hi).1
  omega
theorem isOrd_len {f : List Int} {most : Nat} (h : isOrd f most = true) : 1 ≤ f.length ∧ f.length ≤ most := by
  simp only [isOrd, Bool.and_eq_true, decide_eq_true_eq] at h
  exact h.2

def powOk (f : List Int) (n : Int) : Bool := isOrd f 36 && inB n 0 1000000000000000
def powV (f : List Int) (n : Int) : List Int := if powOk f n then powL f n.toNat else []
theorem powV_no {f : List Int} {n : Int} (h : powOk f n = false) : powV f n = [] := by simp [powV, h]
theorem powV_yes {f : List Int} {n : Int} (h : powOk f n = true) : powV f n = powL f n.toNat := by simp [powV, h]
theorem powV_len (f : List Int) (n : Int) : (powV f n).length ≤ 36 := by
  unfold powV
  split
  · rename_i h
    simp only [powOk, Bool.and_eq_true] at h
    rw [powL_length]; exact (isOrd_len h.1).2
  · simp

/-! ### ComposeOrders, InverseOrder -/
def cmpOk (f g : List Int) : Bool := isOrd f 36 && isOrd g 36 && decide (f.length = g.length)
def cmpV (f g : List Int) : List Int := if cmpOk f g then compL f g else []
theorem cmpV_no {f g : List Int} (h : cmpOk f g = false) : cmpV f g = [] := by simp [cmpV, h]
theorem cmpV_yes {f g : List Int} (h : cmpOk f g = true) : cmpV f g = compL f g := by simp [cmpV, h]
theorem cmpV_len (f g : List Int) : (cmpV f g).length ≤ 36 := by
  unfold cmpV
  split
  · rename_i h
    simp only [cmpOk, Bool.and_eq_true] at h
    rw [compL_length]; exact (isOrd_len h.1.2).2
  · simp

end Go.Proofs.Ytnpkanlieflbiaa
