/- Orders: whether a list is one, on both sides. A set of numbers kept in a map[int64]bool. -/
import Derived.Test.YtnpkanlieflbiaaA1
import Derived.Test.YtnpkanlieflbiaaH2
import Derived.Maps.OwnOps
import Derived.Maps.Views
namespace Go.Proofs.Ytnpkanlieflbiaa
open Go.RowKit Go.Maps
set_option linter.unusedVariables false

theorem ret_bool' {a b : Bool} (h : a = b) : Ending.returned (.bool a) = .returned (.bool b) := by rw [h]

/-! ### A set of numbers, kept in a map -/
theorem lawI64 : Keyed Try.prog 2 := int_keyed Try.underlying2
theorem zeroBool (w : World) : (zeroValue 4).run Try.prog w = .ok (.bool false) w := by kernel_rfl
set_option maxRecDepth 100000 in
theorem plainElem_bool_inv {H : Type} {v : Value} {z : DataW H × List MemPlace} (h : plainElem Try.prog 4 v = some z) : ∃ x, v = .bool x ∧ z = (.lit (.bool x), []) := by
  unfold plainElem at h
  rw [Try.underlying4] at h
  cases v <;> simp at h
  exact ⟨_, rfl, h.symm⟩

/-- Block b is a map of at most n entries: S says at which numbers it holds true. -/
def SetM (w : World) (b n : Nat) (S : Int → Bool) : Prop :=
  ∃ D : DataW Unit, w.ownsMap Try.prog 2 (plainElem Try.prog 4) b n D ∧ ∀ x : Int, (Lit.int .i64 x).wf = true → D.atKey (.int .i64 x) (.lit (.bool false)) = .lit (.bool (S x))
theorem SetM.made (w : World) : SetM (w.alloc (.map #[] 0)) w.heap.size 0 fun _ => false := ⟨_, World.ownsMap_made _ _ _ _, fun _ _ => rfl⟩
theorem SetM.lookup {w : World} {b n : Nat} {S : Int → Bool} (h : SetM w b n S) {x : Int} (hx : (Lit.int .i64 x).wf = true) : (Instr.lookup 173 (.map (some b)) (.int .i64 x) false).run Try.prog w = .ok (.bool (S x)) w := by
  obtain ⟨D, hD, hS⟩ := h
  obtain ⟨v, ps, hrun, hv⟩ := hD.lookup lawI64 Try.underlying173 (zeroBool w) (plainElem_bool Try.underlying4 false) (keyOf_int_mk Try.underlying2 hx)
  obtain ⟨c, rfl, hc⟩ := plainElem_bool_inv hv
  rw [hS x hx] at hc
  simp only [Prod.mk.injEq, DataW.lit.injEq, Lit.bool.injEq] at hc
  rw [hrun, hc.1]

theorem wpList_seen {w : World} {ops : Array Oper} {rest : List Oper} {o : Oper} {a : Act} {Q : Exit → Act → World → Prop} {S : Int → Bool} {b n : Nat} {x : Int}
    (hw : Region.wanted o (yielded ops a.tmps) = true) (m y : Operand) (hop : o.op = Op.lookup 173 m y false) (h : SetM w b n S) (hx : (Lit.int .i64 x).wf = true) (hm : a.eval m = .map (some b)) (hy : a.eval y = .int .i64 x)
    (hK : wpList Try.prog ops Q rest (a.put o.dst (.bool (S x))) w) : wpList Try.prog ops Q (o :: rest) a w := by
  refine BigFrame.wpList_want hw fun K' hK' => ?_
  have hrun := h.lookup hx
  unfold Oper.wp
  simp [execOp, hop, hm, hy, hrun, Result.andThen]
  exact hK' _ _ hK

theorem wpList_see {w : World} {ops : Array Oper} {rest : List Oper} {o : Oper} {a : Act} {Q : Exit → Act → World → Prop} {S : Int → Bool} {b n : Nat} {x : Int}
    (hg : o.guard = none) (m y v : Operand) (hop : o.op = Op.mapUpdate 173 m y v) (h : SetM w b n S) (hn : n < maxLen) (hx : (Lit.int .i64 x).wf = true) (hm : a.eval m = .map (some b)) (hy : a.eval y = .int .i64 x) (hv : a.eval v = .bool true)
    (hK : ∀ w', SetM w' b (n + 1) (fun z => if z = x then true else S z) → w.grownBy w' (some b) → wpList Try.prog ops Q rest (a.put o.dst undef) w') : wpList Try.prog ops Q (o :: rest) a w := by
  obtain ⟨D, hD, hS⟩ := h
  refine wpList_mapUpdate_own _ hg _ _ _ 173 hop 2 4 lawI64 Try.underlying173 _ b n _ hm hD hn _ _ _ hy hv (keyOf_int_mk Try.underlying2 hx) _ [] (plainElem_bool Try.underlying4 true) ?_
  intro w' h1 h2
  refine hK w' ⟨_, h1, fun z hz => ?_⟩ h2
  show _ = DataW.lit (Lit.bool (if z = x then true else S z))
  split
  · rename_i e
    subst e
    exact atKey_put_same hD.isMap (show WideAt.IsKeyLit (Lit.int .i64 z) from trivial) _ _
  · rename_i e
    rw [atKey_put_other (fun h => e (by simpa using h))]
    exact hS z hz

/-! ### l00Has -/
def hasI (xs : List Int) (x : Int) : Bool := xs.contains x
theorem hasI_iff {xs : List Int} {x : Int} : hasI xs x = true ↔ ∃ i, i < xs.length ∧ nth xs i = x := by
  simp only [hasI, List.contains_iff_mem, List.mem_iff_getElem]
  constructor
  · rintro ⟨i, hi, h⟩; exact ⟨i, hi, by rw [nth_eq hi]; exact h⟩
  · rintro ⟨i, hi, h⟩; exact ⟨i, hi, by rw [← nth_eq hi]; exact h⟩
theorem hasI_no {xs : List Int} {x : Int} (h : ∀ i, i < xs.length → ¬ nth xs i = x) : hasI xs x = false := by
  cases e : hasI xs x with
  | false => rfl
  | true => obtain ⟨i, hi, hx⟩ := hasI_iff.1 e; exact absurd hx (h i hi)

theorem Rd.front {α : Type} [Inhabited α] {R : RRep α} {P : Nat → Prop} {w : World} {a : Option Addr} {n c : Nat} {xs : List α} (h : Rd R P w (.slice a n c) xs) {i : Nat} (hi : i ≤ xs.length) : Rd R P w (.slice a i c) (xs.take i) := by
  obtain ⟨a', c', e, h1, h2, hrd⟩ := h
  simp only [Value.slice.injEq] at e
  obtain ⟨rfl, rfl, rfl⟩ := e
  have hl : (xs.take i).length = i := by simp; omega
  refine ⟨a, c, by rw [hl], by rw [hl]; omega, h2, fun j hj => ?_⟩
  rw [hl] at hj
  obtain ⟨b, o, u, e1, e2, e3, e4⟩ := hrd j (by omega)
  exact ⟨b, o, u, e1, e2, e3, by rw [nth_take hj]; exact e4⟩

theorem specHas {P : Nat → Prop} {v : Value} {xs : List Int} {w : World} (h : RdI P w v xs) (x : Int) :
    Calls Try.prog 163 #[v, .int .i64 x] w fun e w' => e = .returned (.bool (hasI xs x)) ∧ w = w' := by
  obtain ⟨a, c, rfl, h1, h2, hrd⟩ := h
  have Hrd := Lib.hid hrd; clear hrd
  unfold maxLen at h2
  go_enter Try.func163, Try.ntmps163
  go_wp2
  go_loop [5] (fun i => ∃ k : Nat, k ≤ xs.length ∧ i = .int .i64 k ∧ Hid (∀ j, j < k → ¬ nth xs j = x)) (fun i => xs.length - (intOf i).toNat)
  case atStart => exact ⟨0, Nat.zero_le _, rfl, Lib.hid fun _ h => absurd h (Nat.not_lt_zero _)⟩
  case round =>
    obtain ⟨k, hk, rfl, hok⟩ := hrel
    by_cases hlt : k < xs.length
    · obtain ⟨b, o, u, rfl, hPb, hc, rfl⟩ := Hrd.out k hlt
      have hc1 : w.cell? ⟨b, o + k, none⟩ = some (Value.int .i64 (nth xs k)) := hc
      clear hc
      by_cases hx : nth xs k = x
      · have hr := Lib.hid (hasI_iff.2 ⟨k, hlt, hx⟩)
        have hxb : (nth xs k == x) = true := by simp [hx]
        have Hx := Lib.hid hx; clear hx
        go_wp2
        go_ret
        exact ⟨by rw [hr.out]; rfl, rfl⟩
      · have hok2 := Lib.hid (show ∀ j, j < k + 1 → ¬ nth xs j = x from fun j hj => by
          rcases Nat.lt_succ_iff_lt_or_eq.1 hj with h | rfl
          · exact hok.out j h
          · exact hx)
        have hxb : (nth xs k == x) = false := by simp [hx]
        have Hx := Lib.hid hx; clear hx
        go_wp2
        go_round
        case rel => exact ⟨k + 1, by omega, by go_num, hok2⟩
        case measure => simp [intOf]; omega
    · obtain rfl : k = xs.length := by omega
      have hr := Lib.hid (hasI_no hok.out)
      go_wp2
      go_ret
      exact ⟨by rw [hr.out]; rfl, rfl⟩

/-! ### Orders -/
def ordB (xs : List Int) (n : Int) (k : Nat) : Bool := (List.range k).all fun i => inB (nth xs i) 0 (n - 1) && !hasI (xs.take i) (nth xs i)
theorem ordB_succ (xs : List Int) (n : Int) (k : Nat) : ordB xs n (k + 1) = (ordB xs n k && (inB (nth xs k) 0 (n - 1) && !hasI (xs.take k) (nth xs k))) := by simp [ordB, List.range_succ]
theorem ordB_no {xs : List Int} {n : Int} {k m : Nat} (hk : k < m) (h : (inB (nth xs k) 0 (n - 1) && !hasI (xs.take k) (nth xs k)) = false) : ordB xs n m = false := by
  unfold ordB; rw [List.all_eq_false]
  exact ⟨k, List.mem_range.2 hk, by rw [h]; simp⟩
theorem ordB_at {xs : List Int} {n : Int} {k m : Nat} (h : ordB xs n m = true) (hk : k < m) : (0 ≤ nth xs k ∧ nth xs k ≤ n - 1) ∧ hasI (xs.take k) (nth xs k) = false := by
  unfold ordB at h; rw [List.all_eq_true] at h
  have := h k (List.mem_range.2 hk)
  simp only [Bool.and_eq_true, Bool.not_eq_true'] at this
  exact ⟨inB_true.1 this.1, this.2⟩
/-- Whether a list is an order of at most most things. -/
def isOrd (xs : List Int) (most : Nat) : Bool := ordB xs xs.length xs.length && (decide (1 ≤ xs.length) && decide (xs.length ≤ most))
theorem isOrd_no {xs : List Int} {most : Nat} (h : ordB xs xs.length xs.length = false) : isOrd xs most = false := by simp [isOrd, h]
theorem isOrd_end {xs : List Int} {most : Nat} (h : ordB xs xs.length xs.length = true) : isOrd xs most = (decide (1 ≤ xs.length) && decide (xs.length ≤ most)) := by simp [isOrd, h]

theorem implOrderOf {P : Nat → Prop} {v : Value} {xs : List Int} {w : World} (h : RdI P w v xs) (hP : ∀ k, P k → k < w.heap.size) (most : Nat) (hn : xs.length ≤ 1048576) :
    Calls Try.prog 164 #[v, .int .i64 most] w fun e w' => e = .returned (.bool (isOrd xs most)) ∧ Below w.heap.size w w' := by
  obtain ⟨a, c, rfl, h1, h2, hrd⟩ := h
  have Hrd := Lib.hid hrd; clear hrd
  have hmm := @run_makeMap Try.prog
  unfold maxLen at h2
  go_enter Try.func164, Try.ntmps164
  go_wp2
  go_loopw [11] (fun i wr => ∃ k : Nat, k ≤ xs.length ∧ i = .int .i64 k ∧ Hid (ordB xs xs.length k = true) ∧ SetM wr w.heap.size k (fun x => hasI (xs.take k) x) ∧ Below w.heap.size w wr) (fun i _ => xs.length - (intOf i).toNat)
  case atStart => exact ⟨0, Nat.zero_le _, rfl, Lib.hid rfl, SetM.made w, (Below.refl _ _).alloc (Nat.le_refl _) _⟩
  case round =>
    obtain ⟨k, hk, rfl, hok, hset, hbel⟩ := hrel
    by_cases hlt : k < xs.length
    · obtain ⟨b, o, u, rfl, hPb, hc, rfl⟩ := Hrd.out k hlt
      have hc1 : wr.cell? ⟨b, o + k, none⟩ = some (Value.int .i64 (nth xs k)) := (hbel.cell (hP b hPb)).trans hc
      have Hbel := Lib.hid hbel
      clear hc hbel
      cases hin : inB (nth xs k) 0 ((xs.length : Int) - 1)
      · have hr := Lib.hid (isOrd_no (most := most) (ordB_no hlt (by rw [hin]; rfl)))
        go_wp2_with (go_at_call 78; refine (implIn _ _ _ _ (by assumption) _).mono ?_; rintro e w' ⟨rfl, rfl⟩)
        go_ret
        exact ⟨by rw [hr.out]; rfl, Hbel.out⟩
      · have hbd := inB_true.1 hin
        have hwf : (Lit.int .i64 (nth xs k)).wf = true := WalkArith.wf_i64 (by omega)
        have Hwf := Lib.hid hwf; clear hwf
        cases hh : hasI (xs.take k) (nth xs k)
        · have hset' := Lib.hid hset; clear hset
          have hok2 := Lib.hid (show ordB xs xs.length (k + 1) = true by rw [ordB_succ, hok.out, hin, hh]; rfl)
          go_wp2_with (first
            | (go_at_call 78; refine (implIn _ _ _ _ (by assumption) _).mono ?_; rintro e w' ⟨rfl, rfl⟩)
            | (at_lookup; refine wpList_seen rfl (.tmp 22) (.tmp 23) rfl hset'.out Hwf.out rfl rfl ?_; simp only [hh])
            | (at_mapUpdate; refine wpList_see rfl (.tmp 26) (.tmp 27) (.const (.bool true)) rfl hset'.out (by unfold maxLen; omega) Hwf.out rfl rfl rfl ?_; intro w1 hset1 hg1))
          go_roundw
          case rel =>
            refine ⟨k + 1, by omega, by go_num, hok2, ?_, Hbel.out.grown hg1 Hbel.out.size (fun j hj => by cases hj; exact Nat.le_refl _)⟩
            have e : (fun z => if z = nth xs k then true else hasI (xs.take k) z) = fun x => hasI (xs.take (k + 1)) x := by
              funext z
              rw [take_nth hlt]
              simp only [hasI, List.contains_append, List.contains_cons, List.contains_nil, Bool.or_false]
              by_cases e : z = nth xs k
              · rw [if_pos e]; simp [e]
              · rw [if_neg e]; simp [e]
            rw [← e]; exact hset1
          case measure => simp [intOf]; omega
        · have hset' := Lib.hid hset; clear hset
          have hr := Lib.hid (isOrd_no (most := most) (ordB_no hlt (by rw [hin, hh]; rfl)))
          go_wp2_with (first
            | (go_at_call 78; refine (implIn _ _ _ _ (by assumption) _).mono ?_; rintro e w' ⟨rfl, rfl⟩)
            | (at_lookup; refine wpList_seen rfl (.tmp 22) (.tmp 23) rfl hset'.out Hwf.out rfl rfl ?_; simp only [hh]))
          go_ret
          exact ⟨by rw [hr.out]; rfl, Hbel.out⟩
    · obtain rfl : k = xs.length := by omega
      have hr := Lib.hid (isOrd_end (most := most) hok.out)
      have Hbel := Lib.hid hbel; clear hbel hset
      by_cases hl1 : 1 ≤ xs.length
      · go_wp2
        go_ret
        refine ⟨ret_bool' ?_, Hbel.out⟩
        rw [hr.out, Bool.eq_iff_iff]; simp; omega
      · go_wp2
        go_ret
        refine ⟨ret_bool' ?_, Hbel.out⟩
        rw [hr.out, Bool.eq_iff_iff]; simp; omega

theorem implIsOrder {B : Nat} {v : Value} {xs : List Int} {w : World} (h : RdI (· < B) w v xs) (hB : B ≤ w.heap.size) (hn : xs.length ≤ 1048576) :
    Calls Try.prog 128 #[v] w fun e w' => e = .returned (.bool (isOrd xs 36)) ∧ Below w.heap.size w w' := by
  go_enter Try.func128, Try.ntmps128
  go_wp2_with (go_at_call 164; refine (implOrderOf h (fun k hk => by omega) 36 hn).mono ?_; rintro e w1 ⟨rfl, hb⟩)
  go_ret
  exact ⟨rfl, by assumption⟩

theorem quiet_same {f : FuncId} {args : Array Value} {w : World} {n : Nat} {v : Value}
    (h : Calls Try.prog f args (w.drewN n) fun e w' => e = .returned v ∧ w.drewN n = w') : Calls Try.prog f args (w.drewN n) fun e w'' => e = .returned v ∧ ∃ m, w'' = w.drewN m :=
  h.mono fun _ _ ⟨he, hm⟩ => ⟨he, n, hm.symm⟩
theorem rd_draws {α : Type} {R : RRep α} (hR : R.Ok) {P : Nat → Prop} {w : World} {v : Value} {x : α} (h : R P w v x) (n : Nat) : R P (w.drewN n) v x := hR.keep h fun _ _ => rfl

theorem specOrder {P : Nat → Prop} {v : Value} {xs : List Int} {w : World} (h : RdI P w v xs) (n : Int) (hn : 0 ≤ n) (hn2 : n ≤ 1048576) :
    Calls Try.prog 123 #[v, .int .i64 n] w fun e w' => e = .returned (.bool (ordB xs n xs.length && decide ((xs.length : Int) = n))) ∧ ∃ m, w.drewN m = w' := by
  have h0 := Lib.hid h
  obtain ⟨a, c, rfl, h1, h2, hrd⟩ := h
  have Hrd := Lib.hid hrd; clear hrd
  unfold maxLen at h2
  go_enter Try.func123, Try.ntmps123
  go_wp2
  go_loopw [5] (fun i wr => ∃ k m : Nat, k ≤ xs.length ∧ i = .int .i64 k ∧ Hid (ordB xs n k = true) ∧ Hid (w.drewN m = wr)) (fun i _ => xs.length - (intOf i).toNat)
  case atStart => exact ⟨0, 0, Nat.zero_le _, rfl, Lib.hid rfl, Lib.hid rfl⟩
  case round =>
    obtain ⟨k, m, hk, rfl, hok, hm⟩ := hrel
    by_cases hlt : k < xs.length
    · obtain ⟨b, o, u, rfl, hPb, hc, rfl⟩ := Hrd.out k hlt
      have hc1 : wr.cell? ⟨b, o + k, none⟩ = some (Value.int .i64 (nth xs k)) := by rw [← hm.out]; exact hc
      have hfr := Lib.hid (show RdI P wr (.slice (some ⟨b, o, none⟩) k c) (xs.take k) by rw [← hm.out]; exact rd_draws RdI.ok (h0.out.front hk) m)
      clear hc
      cases hin : inB (nth xs k) 0 (n - 1)
      · have hr := Lib.hid (show (ordB xs n xs.length && decide ((xs.length : Int) = n)) = false by rw [ordB_no hlt (by rw [hin]; rfl)]; rfl)
        go_wp2
        go_quiet ((go_at_call 73; exact quiet_same (specIn _ _ _ _ hin _)))
        go_wp2
        go_ret
        exact ⟨by rw [hr.out]; rfl, _, draws_more hm.out _⟩
      · cases hh : hasI (xs.take k) (nth xs k)
        · have hok2 := Lib.hid (show ordB xs n (k + 1) = true by rw [ordB_succ, hok.out, hin, hh]; rfl)
          have hh' := hh
          go_wp2
          go_quiet ((first | (go_at_call 73; exact quiet_same (specIn _ _ _ _ hin _)) | (go_at_call 163; exact quiet_same ((specHas (rd_draws RdI.ok hfr.out _) _).mono fun e w' ⟨h1, h2⟩ => ⟨by rw [h1, hh], h2⟩))))
          go_wp2
          go_roundw
          case rel => exact ⟨k + 1, _, by omega, by go_num, hok2, Lib.hid (draws_more hm.out _)⟩
          case measure => simp [intOf]; omega
        · have hr := Lib.hid (show (ordB xs n xs.length && decide ((xs.length : Int) = n)) = false by rw [ordB_no hlt (by rw [hin, hh]; rfl)]; rfl)
          go_wp2
          go_quiet ((first | (go_at_call 73; exact quiet_same (specIn _ _ _ _ hin _)) | (go_at_call 163; exact quiet_same ((specHas (rd_draws RdI.ok hfr.out _) _).mono fun e w' ⟨h1, h2⟩ => ⟨by rw [h1, hh], h2⟩))))
          go_wp2
          go_ret
          exact ⟨by rw [hr.out]; rfl, _, draws_more hm.out _⟩
    · obtain rfl : k = xs.length := by omega
      have hr := Lib.hid (show (ordB xs n xs.length && decide ((xs.length : Int) = n)) = decide ((xs.length : Int) = n) by rw [hok.out]; rfl)
      go_wp2
      go_ret
      refine ⟨ret_bool' ?_, _, hm.out⟩
      rw [hr.out, Bool.eq_iff_iff]; simp
theorem below_draws {w w' : World} (h : ∃ m, w.drewN m = w') : Below w.heap.size w w' := by obtain ⟨m, rfl⟩ := h; exact ⟨rfl, rfl, rfl, Nat.le_refl _, fun _ _ => rfl⟩
end Go.Proofs.Ytnpkanlieflbiaa
