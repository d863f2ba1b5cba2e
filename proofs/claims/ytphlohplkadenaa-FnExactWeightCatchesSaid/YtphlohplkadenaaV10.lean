/- WeightCatches, walked. -/
import Derived.Test.YtphlohplkadenaaV9
namespace Go.Proofs.Ytphlohplkadenaa
open Go.RowKit
set_option linter.unusedVariables false

def plcs (x : Wgt) (kind : Int) : Nat := x.weights.length + 1 - errLen kind
def sumU (x : Wgt) (kind : Int) (k : Nat) : Nat := sumN k fun i => unsN x kind i
def catV (x : Wgt) (kind : Int) : Bool := kindOk kind x.base && decide (sumU x kind (plcs x kind) = 0)
def catW (x : Wgt) (kind : Int) : Bool := vW x && catV x kind
theorem sumU_succ (x : Wgt) (kind : Int) (k : Nat) : sumU x kind (k + 1) = sumU x kind k + unsN x kind k := sumN_succ _ _
theorem sumU_mono (x : Wgt) (kind : Int) {k n : Nat} (h : k ≤ n) : sumU x kind k ≤ sumU x kind n := by
  induction n with
  | zero => obtain rfl : k = 0 := by omega
            exact Nat.le_refl _
  | succ n ih =>
    rcases Nat.lt_or_ge n k with h' | h'
    · obtain rfl : k = n + 1 := by omega
      exact Nat.le_refl _
    · have := ih h'
      rw [sumU_succ]; omega
theorem unsN_le {x : Wgt} (hb : x.base ≤ 36) (kind : Int) (p : Nat) : unsN x kind p ≤ 3000 := by
  unfold unsN
  split
  · have := phonN_le x.modulus (nth x.weights p) (nth x.weights (p + 1)) 8; omega
  · have := diffN_le x.modulus (byW kind (nth x.weights p) (nth x.weights (p + errLen kind - 1))) x.base.toNat x.base.toNat (by omega)
    omega
theorem sumU_le {x : Wgt} (hb : x.base ≤ 36) (kind : Int) (k : Nat) : sumU x kind k ≤ k * 3000 := sumN_le fun p _ => unsN_le hb kind p
theorem clip_plcs {x : Wgt} {kind : Int} : clip ((x.weights.length : Int) - errLen kind + 1) = (plcs x kind : Int) := by
  unfold clip plcs; split <;> omega

set_option maxRecDepth 10000 in
theorem specCatches {P : Nat → Prop} {bx : Nat} {x : Wgt} {w : World} (h : BoxW P w bx x) (hn : szW x ≤ 1048576) (hv : VW x) (kind : Int) (r : Bool) (hr : catV x kind = r) :
    Calls Try.prog 86 #[.pointer (some ⟨bx, 0, none⟩), .int .i64 kind] w fun e w' => e = .returned (.bool r) ∧ ∃ m, w.drewN m = w' := by
  have Hr := Lib.hid hr; clear hr
  have hln := hv.len
  have hel := errLen_bd kind
  have Hpl := Lib.hid (fun z hz => specPlaces h hn kind z hz)
  cases hko : kindOk kind x.base
  · have hf := Lib.hid (show catV x kind = false by simp [catV, hko])
    have Hz := Lib.hid (plcN_no hko)
    clear hko h hv
    go_enter Try.func86, Try.ntmps86
    go_wp2_with (go_at_call 81; refine (Hpl.out (-1) Hz.out).mono ?_; rintro e w' ⟨rfl, m, rfl⟩)
    go_loopw [6] (fun i wr => i = .int .i64 0 ∧ w.drewN m = wr) (fun i _ => (intOf i).toNat)
    case atStart => exact ⟨rfl, rfl⟩
    case round =>
      obtain ⟨rfl, rfl⟩ := hrel
      go_wp2
      go_ret
      exact ⟨ret_bool (by rw [← Hr.out, hf.out]), m, rfl⟩
  · have Hz := Lib.hid ((plcN_yes hko).trans clip_plcs)
    have hf := Lib.hid (show catV x kind = decide (sumU x kind (plcs x kind) = 0) by simp [catV, hko])
    have Hun := Lib.hid (fun m p hp => specUnseen (h.draws m) hv kind p hko hp)
    have hpb : Hid (∀ k, k < plcs x kind → k + errLen kind ≤ x.weights.length) := Lib.hid fun k hk => by unfold plcs at hk; omega
    have hul := Lib.hid (fun p => unsN_le (x := x) (by have := hv.base; omega) kind p)
    have hp21 : plcs x kind ≤ 21 := by unfold plcs; omega
    clear h hv hko
    generalize hN : plcs x kind = N at *
    have HN := Lib.hid hN; clear hN
    go_enter Try.func86, Try.ntmps86
    go_wp2_with (go_at_call 81; refine (Hpl.out N Hz.out).mono ?_; rintro e w' ⟨rfl, m, rfl⟩)
    go_loopw [6] (fun i wr => ∃ k : Nat, k ≤ N ∧ i = .int .i64 k ∧ Hid (sumU x kind k = 0) ∧ w.drewN m = wr) (fun i _ => N - (intOf i).toNat)
    case atStart => exact ⟨0, by omega, rfl, Lib.hid rfl, by first | rfl | trivial⟩
    case round =>
      obtain ⟨k, hk, rfl, hs, rfl⟩ := hrel
      by_cases hlt : k < N
      · have hub := hul.out k
        have hc := Lib.hid (Hun.out m k (hpb.out k hlt))
        have hsu := Lib.hid (sumU_succ x kind k)
        generalize unsN x kind k = U at *
        by_cases h0 : 0 < U
        · have hm := Lib.hid (sumU_mono x kind (show k + 1 ≤ N from hlt))
          go_wp2_with (go_at_call 82; refine (Calls.mono hc.out ?_); rintro e w' ⟨rfl, rfl⟩)
          go_ret
          exact ⟨ret_bool (by rw [← Hr.out, hf.out]; symm; have := hm.out; have := hsu.out; simp; omega), m, rfl⟩
        · obtain rfl : U = 0 := by omega
          go_wp2_with (go_at_call 82; refine (Calls.mono hc.out ?_); rintro e w' ⟨rfl, rfl⟩)
          go_roundw
          case rel => exact ⟨k + 1, by omega, by go_num, Lib.hid (by rw [hsu.out, hs.out]), by first | rfl | trivial⟩
          case measure => simp [intOf]; omega
      · obtain rfl : k = N := by omega
        go_wp2
        go_ret
        exact ⟨ret_bool (by rw [← Hr.out, hf.out, hs.out]; simp), m, rfl⟩

set_option maxRecDepth 10000 in
theorem implUnseenAll {P : Nat → Prop} {bx : Nat} {x : Wgt} {w : World} (h : BoxW P w bx x) (hv : VW x) (kind : Int) (hk : kindOk kind x.base = true) :
    Calls Try.prog 87 #[.pointer (some ⟨bx, 0, none⟩), .int .i64 kind] w fun e w' => e = .returned (.int .i64 (sumU x kind (plcs x kind))) ∧ ∃ m, w.drewN m = w' := by
  have hln := hv.len
  have hel := errLen_bd kind
  have hnn : x.weights.length ≤ 1048576 := by omega
  obtain ⟨a, c, g0, g1, g2, g3, _, h1, h2⟩ := h.cells
  have Hun := Lib.hid (fun m p hp => implUnseen (h.draws m) hv kind p hk hp)
  have hpb : Hid (∀ k, k < plcs x kind → k + errLen kind ≤ x.weights.length) := Lib.hid fun k hk => by unfold plcs at hk; omega
  have hul := Lib.hid (fun p => unsN_le (x := x) (by have := hv.base; omega) kind p)
  have hsl := Lib.hid (fun k => sumU_le (x := x) (by have := hv.base; omega) kind k)
  have hp21 : plcs x kind ≤ 21 := by unfold plcs; omega
  have hpz : Hid (∀ k : Nat, k < plcs x kind ↔ (k : Int) ≤ (x.weights.length : Int) - errLen kind) := Lib.hid fun k => by unfold plcs; omega
  clear h hv hk
  generalize hN : plcs x kind = N at *
  have HN := Lib.hid hN; clear hN
  go_enter Try.func87, Try.ntmps87
  go_wp2
  go_loopw [5, 6] (fun s i wr => ∃ k : Nat, k ≤ N ∧ i = .int .i64 k ∧ s = .int .i64 (sumU x kind k) ∧ ∃ m, w.drewN m = wr) (fun _ i _ => N - (intOf i).toNat)
  case atStart => exact ⟨0, by omega, rfl, rfl, 0, rfl⟩
  case round =>
    obtain ⟨k, hk, rfl, rfl, m, rfl⟩ := hrel
    have hkz := hpz.out k
    by_cases hlt : k < N
    · have hub := hul.out k
      have hsb := hsl.out k
      have hc := Lib.hid (Hun.out m k (hpb.out k hlt))
      have hsu := Lib.hid (sumU_succ x kind k)
      have hz := hkz.1 hlt
      clear hkz
      generalize unsN x kind k = U at *
      generalize sumU x kind k = S at *
      go_wp2_with (first | (go_at_call 84; refine (implLastPlace _ hnn _ _).mono ?_; rintro e w' ⟨rfl, rfl⟩) | (go_at_call 85; refine (Calls.mono hc.out ?_); rintro e w' ⟨rfl, m2, rfl⟩))
      go_roundw
      case rel => exact ⟨k + 1, by omega, by go_num, by rw [hsu.out]; go_num, m + m2, by first | rfl | simp⟩
      case measure => simp [intOf]; omega
    · have hz : ¬ (k : Int) ≤ (x.weights.length : Int) - errLen kind := fun g => hlt (hkz.2 g)
      clear hkz
      obtain rfl : k = N := by omega
      go_wp2_with (go_at_call 84; refine (implLastPlace _ hnn _ _).mono ?_; rintro e w' ⟨rfl, rfl⟩)
      go_ret
      exact ⟨rfl, m, rfl⟩

set_option maxRecDepth 10000 in
theorem specWeightCatches {B : Nat} {v : Value} {x : Wgt} {w : World} (h : RdW (· < B) w v x) (hB : B ≤ w.heap.size) (hn : szW x ≤ 1048576) (kind : Int) :
    Calls Try.prog 38 #[v, .int .i64 kind] w fun e w' => e = .returned (.bool (catW x kind)) ∧ Below w.heap.size w w' := by
  obtain ⟨u, rfl, hu⟩ := h
  obtain ⟨a, c, rfl, h1, h2⟩ := hu.isSlice
  have hbx := Lib.hid ((Below.refl w.heap.size w).alloc (Nat.le_refl _) (.cells #[.int .i64 x.base, .int .i64 x.modulus, .int .i64 x.target, .slice a x.weights.length c] 26))
  have Hbx := Lib.hid (BoxW.boxed hu hB); clear hu
  unfold aggW
  cases hv : vW x
  · have hr := Lib.hid (show catW x kind = false by simp [catW, hv])
    have Hv := Lib.hid hv; clear hv
    go_enter Try.func38, Try.ntmps38
    go_wp2_with (go_at_call 63; refine (specL03Is Hbx.out hn _ Hv.out).mono ?_; rintro e w1 ⟨rfl, m, rfl⟩)
    go_ret
    exact ⟨ret_bool hr.out.symm, Below.draws hbx.out _⟩
  · have hr := Lib.hid (show catW x kind = catV x kind by simp [catW, hv])
    have Hvw := Lib.hid (vW_iff.1 hv)
    have Hv := Lib.hid hv; clear hv
    have Hc := Lib.hid (fun m => specCatches (Hbx.out.draws m) hn Hvw.out kind _ rfl)
    generalize catV x kind = R at *
    cases R
    all_goals
      go_enter Try.func38, Try.ntmps38
      go_wp2_with (first | (go_at_call 63; refine (specL03Is Hbx.out hn _ Hv.out).mono ?_; rintro e w1 ⟨rfl, m, rfl⟩) | (go_at_call 86; refine (Calls.mono (Hc.out _) ?_); rintro e w1 ⟨rfl, m2, rfl⟩))
      go_ret
      exact ⟨ret_bool hr.out.symm, Below.draws hbx.out _⟩

set_option maxRecDepth 10000 in
theorem implWeightCatches {B : Nat} {v : Value} {x : Wgt} {w : World} (h : RdW (· < B) w v x) (hB : B ≤ w.heap.size) (hn : szW x ≤ 1048576) (kind : Int) :
    Calls Try.prog 39 #[v, .int .i64 kind] w fun e w' => e = .returned (.bool (catW x kind)) ∧ Below w.heap.size w w' := by
  have Hr := Lib.hid h
  obtain ⟨u, rfl, hu⟩ := h
  obtain ⟨a, c, rfl, h1, h2⟩ := hu.isSlice
  have hbx := Lib.hid ((Below.refl w.heap.size w).alloc (Nat.le_refl _) (.cells #[.int .i64 x.base, .int .i64 x.modulus, .int .i64 x.target, .slice a x.weights.length c] 26))
  have Hbx := Lib.hid (BoxW.boxed hu hB); clear hu
  have hsz := Lib.hid (al_size w (.cells #[.int .i64 x.base, .int .i64 x.modulus, .int .i64 x.target, .slice a x.weights.length c] 26))
  have hb1 := Lib.hid (heap_alloc_new w (.cells #[.int .i64 x.base, .int .i64 x.modulus, .int .i64 x.target, .slice a x.weights.length c] 26))
  unfold maxLen at h2
  unfold aggW
  cases hv : vW x
  · have hr := Lib.hid (show catW x kind = false by simp [catW, hv])
    have Hv := Lib.hid hv; clear hv
    go_enter Try.func39, Try.ntmps39
    go_wp2_with fail
    refine (implValidWeighting (Rd.below RdW.ok Hr.out (hbx.out.mono hB)) (by rw [hsz.out]; omega) hn _ Hv.out).mono ?_
    rintro e w1 ⟨rfl, hb⟩
    have Hb := Lib.hid (hbx.out.trans (hb.mono (by rw [hsz.out]; omega))); clear hb
    go_wp2
    go_ret
    exact ⟨ret_bool hr.out.symm, Hb.out⟩
  · have Hvw := Lib.hid (vW_iff.1 hv)
    have Hv := Lib.hid hv
    cases hko : kindOk kind x.base
    · have hr := Lib.hid (show catW x kind = false by simp [catW, catV, hko])
      have Hko := Lib.hid hko
      clear hv hko
      go_enter Try.func39, Try.ntmps39
      go_wp2_with fail
      refine (implValidWeighting (Rd.below RdW.ok Hr.out (hbx.out.mono hB)) (by rw [hsz.out]; omega) hn _ Hv.out).mono ?_
      rintro e w1 ⟨rfl, hb⟩
      have hc0 := heap_cell (below_heap hb hb1.out) (i := 0) rfl
      have Hb := Lib.hid (hbx.out.trans (hb.mono (by rw [hsz.out]; omega))); clear hb
      go_wp2_with (go_at_call 83; refine (implKindOk _ _ _ Hko.out _).mono ?_; rintro e w' ⟨rfl, rfl⟩)
      go_ret
      exact ⟨ret_bool hr.out.symm, Hb.out⟩
    · have hr := Lib.hid (show catW x kind = decide (sumU x kind (plcs x kind) = 0) by simp [catW, catV, hv, hko])
      have Hko := Lib.hid hko
      have hp21 : plcs x kind ≤ 21 := by have := (Hvw.out).len; unfold plcs; omega
      have hsb := sumU_le (x := x) (by have := (Hvw.out).base; omega) kind (plcs x kind)
      clear hv hko
      have Hall := Lib.hid (fun (w' : World) (g : BoxW (· < B) w' w.heap.size x) => implUnseenAll g Hvw.out kind Hko.out)
      generalize sumU x kind (plcs x kind) = S at *
      by_cases h0 : S = 0
      · subst h0
        go_enter Try.func39, Try.ntmps39
        go_wp2_with fail
        refine (implValidWeighting (Rd.below RdW.ok Hr.out (hbx.out.mono hB)) (by rw [hsz.out]; omega) hn _ Hv.out).mono ?_
        rintro e w1 ⟨rfl, hb⟩
        have hc0 := heap_cell (below_heap hb hb1.out) (i := 0) rfl
        have hB1 := Lib.hid (Hbx.out.keep fun k hk => hb.block k (by rw [hsz.out]; omega))
        have Hb := Lib.hid (hbx.out.trans (hb.mono (by rw [hsz.out]; omega))); clear hb
        go_wp2_with (first | (go_at_call 83; refine (implKindOk _ _ _ Hko.out _).mono ?_; rintro e w' ⟨rfl, rfl⟩) | (go_at_call 87; refine (Calls.mono (Hall.out _ hB1.out) ?_); rintro e w' ⟨rfl, m, rfl⟩))
        go_ret
        exact ⟨ret_bool (by rw [hr.out]; rfl), Below.draws Hb.out _⟩
      · have hs1 : (S : Int) ≠ 0 := by omega
        go_enter Try.func39, Try.ntmps39
        go_wp2_with fail
        refine (implValidWeighting (Rd.below RdW.ok Hr.out (hbx.out.mono hB)) (by rw [hsz.out]; omega) hn _ Hv.out).mono ?_
        rintro e w1 ⟨rfl, hb⟩
        have hc0 := heap_cell (below_heap hb hb1.out) (i := 0) rfl
        have hB1 := Lib.hid (Hbx.out.keep fun k hk => hb.block k (by rw [hsz.out]; omega))
        have Hb := Lib.hid (hbx.out.trans (hb.mono (by rw [hsz.out]; omega))); clear hb
        go_wp2_with (first | (go_at_call 83; refine (implKindOk _ _ _ Hko.out _).mono ?_; rintro e w' ⟨rfl, rfl⟩) | (go_at_call 87; refine (Calls.mono (Hall.out _ hB1.out) ?_); rintro e w' ⟨rfl, m, rfl⟩))
        go_ret
        exact ⟨ret_bool (by rw [hr.out]; simp [h0]), Below.draws Hb.out _⟩
end Go.Proofs.Ytphlohplkadenaa
