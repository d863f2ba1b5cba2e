/- Orders: composing, inverting, powers by squaring. -/
import Derived.Test.YthomdggbmjknnaaO1
namespace Go.Proofs.Ythomdggbmjknnaa
open Go.RowKit
set_option linter.unusedVariables false

/-- What g and then f do. -/
def compL (f g : List Int) : List Int := g.map fun k => nth f k.toNat
theorem compL_length (f g : List Int) : (compL f g).length = g.length := by simp [compL]
theorem compL_take_succ (f : List Int) {g : List Int} {k : Nat} (h : k < g.length) : compL f (g.take (k + 1)) = compL f (g.take k) ++ [nth f (nth g k).toNat] := by
  rw [take_nth h]; simp [compL]
theorem nth_compL {f g : List Int} {i : Nat} (h : i < g.length) : nth (compL f g) i = nth f (nth g i).toNat := nth_map h

theorem implCompose {P Q : Nat → Prop} {vf vg : Value} {f g : List Int} {w : World} (hf : RdI P w vf f) (hg : RdI Q w vg g) (hP : ∀ k, P k → k < w.heap.size) (hQ : ∀ k, Q k → k < w.heap.size) (hn : g.length ≤ 1048576)
    (hx : ∀ i, i < g.length → 0 ≤ nth g i ∧ nth g i < f.length) :
    Calls Try.prog 35 #[vf, vg] w fun e w' => ∃ v, e = .returned v ∧ Fresh OI w w' v (compL f g) := by
  obtain ⟨a, c, rfl, h1, h2, hrd⟩ := hf
  obtain ⟨a', c', rfl, h1', h2', hrd'⟩ := hg
  have Hrd := Lib.hid hrd; clear hrd
  have Hrd' := Lib.hid hrd'; clear hrd'
  unfold maxLen at h2 h2'
  go_enter Try.func35, Try.ntmps35
  go_wp2
  go_loopw [5, 11] (fun v i wr => ∃ k : Nat, k ≤ g.length ∧ i = .int .i64 k ∧ Fresh OI w wr v (compL f (g.take k))) (fun _ i _ => g.length - (intOf i).toNat)
  case atStart => exact ⟨0, Nat.zero_le _, rfl, Fresh.empty (Below.refl _ _)⟩
  case round =>
    obtain ⟨k, hk, rfl, hf⟩ := hrel
    by_cases hlt : k < g.length
    · obtain ⟨b', o', u', rfl, hPb', hc', rfl⟩ := Hrd'.out k hlt
      obtain ⟨n, hn'⟩ := Int.eq_ofNat_of_zero_le (hx k hlt).1
      have hnf := (hx k hlt).2
      rw [hn'] at hnf
      obtain ⟨b, o, u, rfl, hPb, hc, rfl⟩ := Hrd.out n (by omega)
      have hc1 : wr.cell? ⟨b', o' + k, none⟩ = some (Value.int .i64 n) := by rw [← hn']; exact (hf.bel.cell (hQ b' hPb')).trans hc'
      have hc2 : wr.cell? ⟨b, o + n, none⟩ = some (Value.int .i64 (nth f n)) := (hf.bel.cell (hP b hPb)).trans hc
      have hs := Lib.hid (show compL f (g.take (k + 1)) = compL f (g.take k) ++ [nth f n] by rw [compL_take_succ f hlt, hn']; rfl)
      have hl2 := Lib.hid (show (compL f (g.take k)).length ≤ 1048576 by rw [compL_length, List.length_take]; omega)
      clear hc hc' hn'
      go_wp2_with (at_builtin; refine wpList_pushF rfl (.tmp 15) (.tmp 20) 25 rfl (f := fI) (fun _ => rfl) Try.underlying25 infoI64 rfl hf (nth f n) (by have := hl2.out; omega) (by have := hl2.out; unfold maxLen; omega) rfl rfl ?_; intro v1 w1 hf1)
      go_roundw
      case rel => exact ⟨k + 1, by omega, by go_num, by rw [hs.out]; assumption⟩
      case measure => simp [intOf]; omega
    · obtain rfl : k = g.length := by omega
      rw [List.take_length] at hf
      go_wp2
      go_ret
      exact ⟨_, rfl, hf⟩

/-- The order that changes nothing. -/
def sameL (n : Nat) : List Int := (List.range n).map fun (i : Nat) => (i : Int)
theorem sameL_length (n : Nat) : (sameL n).length = n := by simp [sameL]
theorem nth_sameL {n i : Nat} (h : i < n) : nth (sameL n) i = i := by rw [nth_eq (by simpa [sameL] using h)]; simp [sameL]
theorem implSameOrder (n : Nat) (hn : n ≤ 1048576) (w : World) :
    Calls Try.prog 37 #[.int .i64 n] w fun e w' => ∃ v, e = .returned v ∧ Fresh OI w w' v (sameL n) := by
  go_enter Try.func37, Try.ntmps37
  go_wp2
  go_loopw [3, 7] (fun v i wr => ∃ k : Nat, k ≤ n ∧ i = .int .i64 k ∧ Fresh OI w wr v (sameL k)) (fun _ i _ => n - (intOf i).toNat)
  case atStart => exact ⟨0, Nat.zero_le _, rfl, Fresh.empty (Below.refl _ _)⟩
  case round =>
    obtain ⟨k, hk, rfl, hf⟩ := hrel
    have hs := Lib.hid (show sameL (k + 1) = sameL k ++ [(k : Int)] by simp [sameL, List.range_succ])
    have hl2 := Lib.hid (show (sameL k).length ≤ 1048576 by rw [sameL_length]; omega)
    by_cases hlt : k < n
    · go_wp2_with (at_builtin; refine wpList_pushF rfl _ _ 25 rfl (f := fI) (fun _ => rfl) Try.underlying25 infoI64 rfl hf (k : Int) (by have := hl2.out; omega) (by have := hl2.out; unfold maxLen; omega) rfl rfl ?_; intro v1 w1 hf1)
      go_roundw
      case rel => exact ⟨k + 1, by omega, by go_num, by rw [hs.out]; assumption⟩
      case measure => simp [intOf]; omega
    · obtain rfl : k = n := by omega
      go_wp2
      go_ret
      exact ⟨_, rfl, hf⟩

theorem slClone {P : Nat → Prop} {v : Value} {xs : List Int} {w : World} (h : RdI P w v xs) (hP : ∀ k, P k → k < w.heap.size) (hn : xs.length ≤ 1048576) :
    Calls Try.prog 38 #[v] w fun e w' => ∃ v, e = .returned v ∧ Fresh OI w w' v xs := by
  have h0 := Lib.hid h
  obtain ⟨a, c, rfl, h1, h2, hrd⟩ := h
  cases a with
  | none =>
    have hx : xs = [] := by
      rcases Nat.eq_zero_or_pos xs.length with h | h
      · exact List.eq_nil_of_length_eq_zero h
      · obtain ⟨b, o, u, e, _⟩ := hrd 0 h; cases e
    subst hx
    clear hrd
    have hnil := Lib.run_eql_slice_nil (P := Try.prog)
    go_enter Try.func38, Try.ntmps38
    go_wp2
    go_ret
    exact ⟨_, rfl, Fresh.nil (Below.refl _ _)⟩
  | some ad =>
    clear hrd
    have hsrc : RdI P (w.alloc (.cells #[] 2)) (.slice (some ad) xs.length c) xs := RdI.ok.keep h0.out fun k hk => Below.heap_alloc w _ k (hP k hk)
    have Hsrc := Lib.hid hsrc; clear hsrc
    have hf0 : Fresh OI w (w.alloc (.cells #[] 2)) (.slice (some ⟨w.heap.size, 0, none⟩) 0 0) [] := Fresh.empty (Below.refl _ _)
    have Hf0 := Lib.hid hf0; clear hf0
    have hnil := Lib.run_eql_slice_nil (P := Try.prog)
    go_enter Try.func38, Try.ntmps38
    go_wp2_with (at_builtin; refine wpList_appendF rfl (.tmp 5) (.tmp 6) 25 rfl (f := fI) (fun _ => rfl) Try.underlying25 infoI64 rfl Hf0.out Hsrc.out (by simp; omega) (by simp; unfold maxLen; omega) rfl rfl ?_; intro v1 w1 hf1)
    go_ret
    exact ⟨_, rfl, by rw [List.nil_append] at hf1; exact hf1⟩

/-- Powers of an order. -/
def itf (f : List Int) : Nat → Int → Int
  | 0, x => x
  | n + 1, x => itf f n (nth f x.toNat)
def powL (f : List Int) (n : Nat) : List Int := (List.range f.length).map fun (i : Nat) => itf f n i
theorem powL_length (f : List Int) (n : Nat) : (powL f n).length = f.length := by simp [powL]
theorem nth_powL {f : List Int} {n i : Nat} (h : i < f.length) : nth (powL f n) i = itf f n i := by rw [nth_eq (by simpa [powL] using h)]; simp [powL]
def Closed (f : List Int) : Prop := ∀ i, i < f.length → 0 ≤ nth f i ∧ nth f i < f.length
theorem itf_bd {f : List Int} (h : Closed f) : ∀ (n : Nat) (x : Int), 0 ≤ x → x < f.length → 0 ≤ itf f n x ∧ itf f n x < f.length := by
  intro n
  induction n with
  | zero => intro x h1 h2; exact ⟨h1, h2⟩
  | succ n ih =>
    intro x h1 h2
    have := h x.toNat (by omega)
    exact ih _ this.1 this.2
theorem itf_add (f : List Int) : ∀ (a b : Nat) (x : Int), itf f (a + b) x = itf f b (itf f a x) := by
  intro a
  induction a with
  | zero => intro b x; simp [itf]
  | succ a ih => intro b x; rw [show a + 1 + b = (a + b) + 1 by omega]; exact ih b _
theorem powL_closed {f : List Int} (h : Closed f) (n : Nat) : Closed (powL f n) := by
  intro i hi
  rw [powL_length] at hi ⊢
  rw [nth_powL hi]
  exact itf_bd h n i (by omega) (by omega)
theorem compL_powL {f : List Int} (h : Closed f) (a b : Nat) : compL (powL f a) (powL f b) = powL f (b + a) := by
  apply ext_nth (by rw [compL_length, powL_length, powL_length])
  intro i hi
  rw [compL_length, powL_length] at hi
  have := itf_bd h b i (by omega) (by omega)
  rw [nth_compL (by rw [powL_length]; exact hi), nth_powL hi, nth_powL hi, nth_powL (by omega), itf_add, Int.toNat_of_nonneg this.1]
theorem powL_zero (f : List Int) : powL f 0 = sameL f.length := rfl
theorem powL_one (f : List Int) (h : Closed f) : powL f 1 = f := by
  apply ext_nth (powL_length f 1)
  intro i hi
  rw [powL_length] at hi
  rw [nth_powL hi]; simp [itf]
theorem isOrd_closed {f : List Int} {most : Nat} (h : isOrd f most = true) : Closed f := by
  intro i hi
  simp only [isOrd, Bool.and_eq_true] at h
  have := (ordB_at h.1 hi).1
  omega
theorem isOrd_len {f : List Int} {most : Nat} (h : isOrd f most = true) : 1 ≤ f.length ∧ f.length ≤ most := by
  simp only [isOrd, Bool.and_eq_true, decide_eq_true_eq] at h
  exact h.2

def powOk (f : List Int) (n : Int) : Bool := isOrd f 36 && inB n 0 1000000000000000
def powV (f : List Int) (n : Int) : List Int := if powOk f n then powL f n.toNat else []
theorem powV_no {f : List Int} {n : Int} (h : powOk f n = false) : powV f n = [] := by simp [powV, h]
theorem powV_yes {f : List Int} {n : Int} (h : powOk f n = true) : powV f n = powL f n.toNat := by simp [powV, h]
theorem powV_len (f : List Int) (n : Int) : (powV f n).length ≤ 36 := by
  unfold powV
  split
  · rename_i h
    simp only [powOk, Bool.and_eq_true] at h
    rw [powL_length]; exact (isOrd_len h.1).2
  · simp

theorem implPowerOrder {B : Nat} {v : Value} {f : List Int} {w : World} (h : RdI (· < B) w v f) (hB : B ≤ w.heap.size) (n : Int) (hn : f.length ≤ 1048576) :
    Calls Try.prog 14 #[v, .int .i64 n] w fun e w' => ∃ v, e = .returned (.tuple #[v, .bool (powOk f n)]) ∧ Fresh OI w w' v (powV f n) := by
  have h0 := Lib.hid h
  cases ho : isOrd f 36
  · have hr := Lib.hid (show powOk f n = false by simp [powOk, ho])
    go_enter Try.func14, Try.ntmps14
    go_wp2_with (go_at_call 15; refine (implIsOrder h0.out hB hn).mono ?_; rw [ho]; rintro e w1 ⟨rfl, hb⟩)
    go_ret2
    exact ⟨_, by rw [hr.out]; rfl, by rw [powV_no hr.out]; exact Fresh.nil (by assumption)⟩
  · cases hin : inB n 0 1000000000000000
    · have hr := Lib.hid (show powOk f n = false by simp [powOk, hin])
      go_enter Try.func14, Try.ntmps14
      go_wp2_with (first
        | (go_at_call 15; refine (implIsOrder h0.out hB hn).mono ?_; rw [ho]; rintro e w1 ⟨rfl, hb⟩)
        | (go_at_call 36; refine (implIn _ _ _ _ (by assumption) _).mono ?_; rintro e w' ⟨rfl, rfl⟩))
      go_ret2
      exact ⟨_, by rw [hr.out]; rfl, by rw [powV_no hr.out]; exact Fresh.nil (by assumption)⟩
    · have hr := Lib.hid (show powOk f n = true by simp [powOk, hin, ho])
      have hcl := Lib.hid (isOrd_closed ho)
      obtain ⟨N, rfl⟩ := Int.eq_ofNat_of_zero_le (inB_true.1 hin).1
      have hN := (inB_true.1 hin).2
      obtain ⟨a, c, rfl, h1, h2, _⟩ := id h
      unfold maxLen at h2
      go_enter Try.func14, Try.ntmps14
      go_wp2_with fail
      refine (implIsOrder h0.out hB hn).mono ?_
      rw [ho]
      rintro e w1 ⟨rfl, hb1⟩
      go_wp2_with (go_at_call 36; refine (implIn _ _ _ _ (by assumption) _).mono ?_; rintro e w' ⟨rfl, rfl⟩)
      refine (implSameOrder f.length hn _).mono ?_
      rintro e w2 ⟨vs, rfl, hs⟩
      have hs' := hs.back hb1
      have hrd2 : RdI (· < B) w2 (.slice a f.length c) f := Rd.below RdI.ok h0.out (hs'.bel.mono hB)
      go_wp2_with fail
      refine (slClone hrd2 (fun k hk => Nat.lt_of_lt_of_le hk (Nat.le_trans hB hs'.bel.size)) hn).mono ?_
      rintro e w3 ⟨vp, rfl, hp⟩
      have hp' := hp.back hs'.bel
      have hs3 := hs'.stay OI.ok hp.bel
      have Hp := Lib.hid hp'
      have Hs := Lib.hid hs3
      clear hp' hs3 hp hs hs' hb1 hrd2
      go_wp2_with fail
      go_loopw [1, 6, 7] (fun x vo vp wr => ∃ n a b : Nat, x = .int .i64 n ∧ Hid (a + b * n = N) ∧ (n : Int) ≤ 1000000000000000 ∧ Fresh OI w wr vo (powL f a) ∧ Fresh OI w wr vp (powL f b)) (fun x _ _ _ => (intOf x).toNat)
      case atStart => exact ⟨N, 0, 1, rfl, Lib.hid (by omega), hN, by rw [powL_zero]; exact Hs.out, by rw [powL_one f hcl.out]; exact Hp.out⟩
      case round =>
        obtain ⟨n, a', b', rfl, hab, hn10, hfo, hfp⟩ := hrel
        by_cases hpos : 0 < n
        · have hlo := Lib.hid (powL_closed hcl.out b')
          have rdo := Lib.hid (hfo.rd OI.leads OI.ok)
          have rdp := Lib.hid (hfp.rd OI.leads OI.ok)
          by_cases hodd : n % 2 = 1
          · have ho1 : ((n : Int) % 2 == 1) = true := by simp; omega
            have hab2 := Lib.hid (show (b' + a') + (b' + b') * (n / 2) = N by rw [← hab.out, ← Nat.two_mul, Nat.mul_assoc, Nat.mul_left_comm, show b' * n = b' * (2 * (n / 2) + 1) by rw [show 2 * (n / 2) + 1 = n by omega], Nat.mul_add, Nat.mul_left_comm b' 2]; omega)
            clear hodd
            go_wp2_with fail
            refine (implCompose rdo.out rdp.out (fun k hk => hk) (fun k hk => hk) (by rw [powL_length]; omega) (by rw [powL_length, powL_length]; have := hlo.out; unfold Closed at this; rw [powL_length] at this; exact this)).mono ?_
            rintro e w4 ⟨v4, rfl, hf4⟩
            rw [compL_powL hcl.out] at hf4
            have hf4' := Lib.hid (hf4.back hfo.bel)
            have hfp4 := hfp.stay OI.ok hf4.bel
            have rdp4 := Lib.hid (hfp4.rd OI.leads OI.ok)
            have Hfp4 := Lib.hid hfp4
            clear hf4 hfp4 hfp hfo
            go_wp2_with fail
            refine (implCompose rdp4.out rdp4.out (fun k hk => hk) (fun k hk => hk) (by rw [powL_length]; omega) (by rw [powL_length]; have := hlo.out; unfold Closed at this; rw [powL_length] at this; exact this)).mono ?_
            rintro e w5 ⟨v5, rfl, hf5⟩
            rw [compL_powL hcl.out] at hf5
            have hf5' := Lib.hid (hf5.back Hfp4.out.bel)
            have hf4'' := Lib.hid (hf4'.out.stay OI.ok hf5.bel)
            clear hf5
            go_wp2_with fail
            go_roundw
            case rel => exact ⟨n / 2, b' + a', b' + b', by go_num, hab2, by omega, hf4''.out, hf5'.out⟩
            case measure => simp [intOf]; omega
          · have ho1 : ((n : Int) % 2 == 1) = false := by simp; omega
            have hab2 := Lib.hid (show a' + (b' + b') * (n / 2) = N by rw [← hab.out, ← Nat.two_mul, Nat.mul_assoc, Nat.mul_left_comm, show b' * n = b' * (2 * (n / 2)) by rw [show 2 * (n / 2) = n by omega]])
            have Hfo := Lib.hid hfo
            clear hodd
            go_wp2_with fail
            refine (implCompose rdp.out rdp.out (fun k hk => hk) (fun k hk => hk) (by rw [powL_length]; omega) (by rw [powL_length]; have := hlo.out; unfold Closed at this; rw [powL_length] at this; exact this)).mono ?_
            rintro e w5 ⟨v5, rfl, hf5⟩
            rw [compL_powL hcl.out] at hf5
            have hf5' := Lib.hid (hf5.back hfp.bel)
            have hf4'' := Lib.hid (Hfo.out.stay OI.ok hf5.bel)
            clear hf5 hfp hfo
            go_wp2_with fail
            go_roundw
            case rel => exact ⟨n / 2, a', b' + b', by go_num, hab2, by omega, hf4''.out, hf5'.out⟩
            case measure => simp [intOf]; omega
        · obtain rfl : n = 0 := by omega
          have hv := Lib.hid (show powV f (N : Int) = powL f a' by rw [powV_yes hr.out, Int.toNat_natCast, show N = a' by have := hab.out; omega])
          have Hfo := Lib.hid hfo
          clear hfp hfo
          go_wp2_with fail
          go_ret2
          exact ⟨_, by rw [hr.out]; rfl, by rw [hv.out]; exact Hfo.out⟩

/-! ### ComposeOrders, InverseOrder -/
def cmpOk (f g : List Int) : Bool := isOrd f 36 && isOrd g 36 && decide (f.length = g.length)
def cmpV (f g : List Int) : List Int := if cmpOk f g then compL f g else []
theorem cmpV_no {f g : List Int} (h : cmpOk f g = false) : cmpV f g = [] := by simp [cmpV, h]
theorem cmpV_yes {f g : List Int} (h : cmpOk f g = true) : cmpV f g = compL f g := by simp [cmpV, h]
theorem cmpV_len (f g : List Int) : (cmpV f g).length ≤ 36 := by
  unfold cmpV
  split
  · rename_i h
    simp only [cmpOk, Bool.and_eq_true] at h
    rw [compL_length]; exact (isOrd_len h.1.2).2
  · simp

theorem implComposeOrders {B : Nat} {vf vg : Value} {f g : List Int} {w : World} (hf : RdI (· < B) w vf f) (hg : RdI (· < B) w vg g) (hB : B ≤ w.heap.size) (hn : f.length ≤ 1048576) (hn' : g.length ≤ 1048576) :
    Calls Try.prog 12 #[vf, vg] w fun e w' => ∃ v, e = .returned (.tuple #[v, .bool (cmpOk f g)]) ∧ Fresh OI w w' v (cmpV f g) := by
  have Hf := Lib.hid hf
  have Hg := Lib.hid hg
  cases h1 : isOrd f 36
  · have hr := Lib.hid (show cmpOk f g = false by simp [cmpOk, h1])
    go_enter Try.func12, Try.ntmps12
    go_wp2_with fail
    refine (implIsOrder Hf.out hB hn).mono ?_
    rw [h1]
    rintro e w1 ⟨rfl, hb⟩
    go_wp2_with fail
    go_ret2
    exact ⟨_, by rw [hr.out]; rfl, by rw [cmpV_no hr.out]; exact Fresh.nil hb⟩
  · cases h2 : isOrd g 36
    · have hr := Lib.hid (show cmpOk f g = false by simp [cmpOk, h2])
      go_enter Try.func12, Try.ntmps12
      go_wp2_with fail
      refine (implIsOrder Hf.out hB hn).mono ?_
      rw [h1]
      rintro e w1 ⟨rfl, hb⟩
      go_wp2_with fail
      refine (implIsOrder (B := B) (Rd.below RdI.ok Hg.out (hb.mono hB)) (Nat.le_trans hB hb.size) hn').mono ?_
      rw [h2]
      rintro e w2 ⟨rfl, hb2⟩
      go_wp2_with fail
      go_ret2
      exact ⟨_, by rw [hr.out]; rfl, by rw [cmpV_no hr.out]; exact Fresh.nil (hb.trans (hb2.mono hb.size))⟩
    · have hcl := Lib.hid (isOrd_closed h2)
      obtain ⟨a, c, rfl, g1, g2, _⟩ := id hf
      obtain ⟨a', c', rfl, g1', g2', _⟩ := id hg
      unfold maxLen at g2 g2'
      by_cases hl : f.length = g.length
      · have hr := Lib.hid (show cmpOk f g = true by simp [cmpOk, h1, h2, hl])
        have hlb : ((f.length : Int) != g.length) = false := by simp [hl]
        have HL := Lib.hid hl; clear hl
        go_enter Try.func12, Try.ntmps12
        go_wp2_with fail
        refine (implIsOrder Hf.out hB hn).mono ?_
        rw [h1]
        rintro e w1 ⟨rfl, hb⟩
        go_wp2_with fail
        refine (implIsOrder (B := B) (Rd.below RdI.ok Hg.out (hb.mono hB)) (Nat.le_trans hB hb.size) hn').mono ?_
        rw [h2]
        rintro e w2 ⟨rfl, hb2⟩
        have hb3 := Lib.hid (hb.trans (hb2.mono hb.size))
        clear hb hb2
        go_wp2_with fail
        refine (implCompose (Rd.below RdI.ok Hf.out (hb3.out.mono hB)) (Rd.below RdI.ok Hg.out (hb3.out.mono hB)) (fun k hk => Nat.lt_of_lt_of_le hk (Nat.le_trans hB hb3.out.size)) (fun k hk => Nat.lt_of_lt_of_le hk (Nat.le_trans hB hb3.out.size)) hn' (by rw [HL.out]; exact hcl.out)).mono ?_
        rintro e w4 ⟨v4, rfl, hf4⟩
        go_wp2_with fail
        go_ret2
        exact ⟨_, by rw [hr.out]; rfl, by rw [cmpV_yes hr.out]; exact hf4.back hb3.out⟩
      · have hr := Lib.hid (show cmpOk f g = false by simp [cmpOk, hl])
        have hlb : ((f.length : Int) != g.length) = true := by simp; omega
        have HL := Lib.hid hl; clear hl
        go_enter Try.func12, Try.ntmps12
        go_wp2_with fail
        refine (implIsOrder Hf.out hB hn).mono ?_
        rw [h1]
        rintro e w1 ⟨rfl, hb⟩
        go_wp2_with fail
        refine (implIsOrder (B := B) (Rd.below RdI.ok Hg.out (hb.mono hB)) (Nat.le_trans hB hb.size) hn').mono ?_
        rw [h2]
        rintro e w2 ⟨rfl, hb2⟩
        have hb3 := Lib.hid (hb.trans (hb2.mono hb.size))
        clear hb hb2
        go_wp2_with fail
        go_ret2
        exact ⟨_, by rw [hr.out]; rfl, by rw [cmpV_no hr.out]; exact Fresh.nil hb3.out⟩

end Go.Proofs.Ythomdggbmjknnaa
