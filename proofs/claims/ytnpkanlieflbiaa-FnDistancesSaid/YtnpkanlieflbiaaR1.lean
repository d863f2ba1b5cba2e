/- The source of choices: what it draws lies in its bounds, and it touches nothing but itself. -/
import Derived.Test.YtnpkanlieflbiaaO1
import Derived.Test.YtnpkanlieflbiaaI0
import Derived.Test.YtnpkanlieflbiaaF1
import Derived.Deep.QuietTactic
import Derived.BigQuiet
import Derived.IntWalk
namespace Go.Proofs.Ytnpkanlieflbiaa
open Go.RowKit
set_option linter.unusedVariables false

/-- Block b is a source over bytes below B that has been asked A times at most. -/
def Src (B : Nat) (w : World) (b A : Nat) : Prop := B ≤ b ∧ ∃ (u : Value) (zs : List UInt8) (at_ : Nat) (seed : Int), w.heap[b]? = some (.cells #[u, .int .i64 at_, .int .u64 seed] 142 (0, 0)) ∧ Rd rY (· < B) w u zs ∧ at_ ≤ A ∧ 0 ≤ seed ∧ seed ≤ 18446744073709551615
theorem hcell1 {w : World} {b : Nat} {cs : Array Value} {t : TypeId} (h : w.heap[b]? = some (.cells cs t (0, 0))) {i : Nat} {u : Value} (hi : cs[i]? = some u) : w.cell? ⟨b, i, none⟩ = some u := by
  rw [cell_of_row w b i cs t (0, 0) h, hi]
theorem Src.keep {B b A : Nat} {w w' : World} (h : Src B w b A) (hk : ∀ k, k < B ∨ k = b → w'.heap[k]? = w.heap[k]?) : Src B w' b A := by
  obtain ⟨h0, u, zs, a, s, h1, h2, h3⟩ := h
  exact ⟨h0, u, zs, a, s, (hk b (.inr rfl)).trans h1, (Rd.ok rleaf.ok).keep h2 fun k h => hk k (.inl h), h3⟩
theorem Src.more {B b A A' : Nat} {w : World} (h : Src B w b A) (hA : A ≤ A') : Src B w b A' := by
  obtain ⟨h0, u, zs, a, s, h1, h2, h3, h4⟩ := h
  exact ⟨h0, u, zs, a, s, h1, h2, by omega, h4⟩
theorem Src.lt {B b A : Nat} {w : World} (h : Src B w b A) : b < w.heap.size := by
  obtain ⟨h0, u, zs, a, s, h1, _⟩ := h
  exact (Array.getElem?_eq_some_iff.1 h1).1

theorem bel_dr (w : World) (m : Nat) : Below w.heap.size w (w.drewN m) := ⟨rfl, rfl, rfl, Nat.le_refl _, fun _ _ => rfl⟩
theorem u64_bd (n : Int) : 0 ≤ IntKind.u64.wrap n ∧ IntKind.u64.wrap n ≤ 18446744073709551615 := by
  have h1 := Int.emod_nonneg n (show (18446744073709551616 : Int) ≠ 0 by omega)
  have h2 := Int.emod_lt_of_pos n (show (0 : Int) < 18446744073709551616 by omega)
  have e : IntKind.u64.wrap n = n % 18446744073709551616 := rfl
  rw [e]; omega
theorem and255 (x : Int) : ∃ z : Nat, z ≤ 255 ∧ bits .and .u64 x 255 = (z : Int) := by
  refine ⟨(BitVec.ofInt 64 x &&& BitVec.ofInt 64 255).toNat, ?_, ?_⟩
  · rw [BitVec.toNat_and]
    exact Nat.le_trans Nat.and_le_right (by decide)
  · have h : (BitVec.ofInt 64 x &&& BitVec.ofInt 64 255).toNat ≤ 255 := by
      rw [BitVec.toNat_and]
      exact Nat.le_trans Nat.and_le_right (by decide)
    show IntKind.u64.wrap ((BitVec.ofInt 64 x &&& BitVec.ofInt 64 255).toNat : Int) = _
    generalize (BitVec.ofInt 64 x &&& BitVec.ofInt 64 255).toNat = z at *
    show (z : Int) % 18446744073709551616 = z
    omega
/-- Behind a draw: the place and the seed are new. -/
theorem Src.step {B b A : Nat} {w w1 : World} {u : Value} {zs : List UInt8} {at_ : Nat} {seed : Int} (h0 : B ≤ b) (h1 : w.heap[b]? = some (.cells #[u, .int .i64 at_, .int .u64 seed] 142 (0, 0))) (h2 : Rd rY (· < B) w u zs) (h3 : at_ ≤ A)
    {sd : Int} (hs : 0 ≤ sd ∧ sd ≤ 18446744073709551615) (hw : Below w.heap.size w w1) :
    Src B (((w1).setCell ⟨b, 1, none⟩ (.int .i64 ((at_ : Int) + 1))).setCell ⟨b, 2, none⟩ (.int .u64 sd)) b (A + 1) ∧ Only [b] w (((w1).setCell ⟨b, 1, none⟩ (.int .i64 ((at_ : Int) + 1))).setCell ⟨b, 2, none⟩ (.int .u64 sd)) := by
  have hb := (Array.getElem?_eq_some_iff.1 h1).1
  have e1 := (hw.block b hb).trans h1
  have e2 := heap_setCell_same w1 b 1 _ _ (.int .i64 ((at_ : Int) + 1)) e1
  have e3 := heap_setCell_same _ b 2 _ _ (.int .u64 sd) e2
  have o1 : Only [b] w w1 := ⟨hw.os, hw.tape, hw.output, hw.size, fun k hk _ => hw.block k hk⟩
  have o2 := (o1.put (g := b) (by simp) 1 (.int .i64 ((at_ : Int) + 1))).put (g := b) (by simp) 2 (.int .u64 sd)
  refine ⟨⟨h0, u, zs, at_ + 1, sd, ?_, (Rd.ok rleaf.ok).keep h2 fun k hk => o2.block k (by omega) (by simp; omega), by omega, hs.1, hs.2⟩, o2⟩
  rw [e3]; rfl

theorem src_dr {B b A : Nat} {w w1 : World} (h : Src B w1 b A ∧ Only [b] w w1) (n : Nat) : Src B (w1.drewN n) b A ∧ Only [b] w (w1.drewN n) :=
  ⟨h.1.keep fun _ _ => rfl, h.2.trans ⟨rfl, rfl, rfl, Nat.le_refl _, fun _ _ _ => rfl⟩⟩
set_option maxRecDepth 100000 in
set_option maxHeartbeats 1600000 in
theorem srcNext {B b A : Nat} {w : World} (h : Src B w b A) (hA : A ≤ 1099511627776) :
    Calls Try.prog 134 #[.pointer (some ⟨b, 0, none⟩)] w fun e w' => (∃ z : Nat, z ≤ 255 ∧ e = .returned (.int .i64 z)) ∧ Src B w' b (A + 1) ∧ Only [b] w w' := by
  obtain ⟨h0, u, zs, at_, seed, h1, h2, h3, h4, h5⟩ := h
  obtain ⟨a, c, rfl, g1, g2, hrd⟩ := h2
  have c0 := hcell1 h1 (i := 0) rfl
  have c1 := hcell1 h1 (i := 1) rfl
  have c2 := hcell1 h1 (i := 2) rfl
  have fz : ∀ i, w.frozen? ⟨b, i, none⟩ = false := fun i => frozen_of_row w b i _ _ h1
  have fz1 := fz 1
  have fz2 := fz 2
  have H1 := Lib.hid h1
  have Hrd := Lib.hid hrd
  clear h1 hrd fz
  unfold maxLen at g2
  by_cases hlt : at_ < zs.length
  · obtain ⟨b2, o2, u2, rfl, hP, hc, rfl⟩ := Hrd.out at_ hlt
    have hc1 : w.cell? ⟨b2, o2 + at_, none⟩ = some (.int .u8 ((nth zs at_).toNat : Int)) := hc
    have hb := (nth zs at_).toNat_lt
    have hne : ¬ b2 = b := by omega
    clear hc
    generalize (nth zs at_).toNat = z at *
    have wf1 : IntKind.i64.wrap ((at_ : Int) + 1) = (at_ : Int) + 1 := IntWalk.i64_in _ (by omega)
    go_enter Try.func134, Try.ntmps134
    go_wp2
    go_quiet (fail)
    go_wp2
    obtain ⟨nq0, rfl⟩ : ∃ z, z = nq := ⟨_, rfl⟩
    go_quiet (fail)
    go_wp2
    generalize hsd : IntKind.u64.wrap (IntKind.u64.wrap (IntKind.u64.wrap (seed * 6364136223846793005) + (z : Int)) + 1442695040888963407) = sd
    have hsb := u64_bd (IntKind.u64.wrap (IntKind.u64.wrap (seed * 6364136223846793005) + (z : Int)) + 1442695040888963407)
    rw [hsd] at hsb
    clear hsd
    have hst := Lib.hid (Src.step h0 H1.out ⟨_, c, rfl, g1, by unfold maxLen; exact g2, Hrd.out⟩ h3 hsb (bel_dr w (nq0 + nq)))
    go_quiet (fail)
    go_wp2
    go_ret
    exact ⟨⟨z, by omega, rfl⟩, src_dr hst.out nq⟩
  · have wf1 : IntKind.i64.wrap ((at_ : Int) + 1) = (at_ : Int) + 1 := IntWalk.i64_in _ (by omega)
    have hnl : ¬ (at_ : Int) + 1 ≤ zs.length := by omega
    go_enter Try.func134, Try.ntmps134
    go_wp2
    go_quiet (fail)
    go_wp2
    generalize hsd : IntKind.u64.wrap (IntKind.u64.wrap (IntKind.u64.wrap (seed * 6364136223846793005)) + 1442695040888963407) = sd
    have hsb := u64_bd (IntKind.u64.wrap (IntKind.u64.wrap (seed * 6364136223846793005)) + 1442695040888963407)
    rw [hsd] at hsb
    clear hsd
    have hst := Lib.hid (Src.step h0 H1.out ⟨_, c, rfl, g1, by unfold maxLen; exact g2, Hrd.out⟩ h3 hsb (bel_dr w nq))
    go_quiet (fail)
    go_wp2
    obtain ⟨z, hz, he⟩ := and255 (sd / 1099511627776)
    have hz2 : wrap64 (z : Int) = z := by unfold wrap64; omega
    go_ret
    exact ⟨⟨z, hz, ret_int (by rw [he, hz2])⟩, src_dr hst.out nq⟩

set_option maxRecDepth 100000 in
theorem srcPick {B b A : Nat} {w : World} (h : Src B w b A) (hA : A ≤ 1000000000000) (n : Int) (hn : n ≤ 1000000000000) :
    Calls Try.prog 89 #[.pointer (some ⟨b, 0, none⟩), .int .i64 n] w fun e w' => (∃ r, InR n r ∧ e = .returned (.int .i64 r)) ∧ Src B w' b (A + 2) ∧ Only [b] w w' := by
  by_cases h1 : n ≤ 1
  · have hr := Lib.hid (show InR n 0 from ⟨by omega, fun h => by omega, fun _ => rfl⟩)
    have H := Lib.hid (h.more (show A ≤ A + 2 by omega))
    clear h
    go_enter Try.func89, Try.ntmps89
    go_wp2
    go_ret
    exact ⟨⟨0, hr.out, rfl⟩, H.out, Only.refl _ _⟩
  · have H := Lib.hid h; clear h
    go_enter Try.func89, Try.ntmps89
    go_wp2_with fail
    refine (srcNext H.out (by omega)).mono ?_
    rintro e w1 ⟨⟨z, hz, rfl⟩, hs1, ho1⟩
    have Hs1 := Lib.hid hs1; clear hs1
    have Ho1 := Lib.hid ho1; clear ho1
    by_cases h2 : 200 < n
    · go_wp2_with fail
      refine (srcNext Hs1.out (by omega)).mono ?_
      rintro e w2 ⟨⟨z2, hz2, rfl⟩, hs2, ho2⟩
      have Hs2 := Lib.hid hs2; clear hs2
      have Ho2 := Lib.hid (Ho1.out.trans ho2); clear ho2
      have hr := Lib.hid (show InR n (((z : Int) * 256 + z2) % n) from ⟨Int.emod_nonneg _ (by omega), fun h => Int.emod_lt_of_pos _ (by omega), fun h => by omega⟩)
      go_wp2
      go_ret
      exact ⟨⟨_, hr.out, rfl⟩, Hs2.out, Ho2.out⟩
    · have Hs2 := Lib.hid (Hs1.out.more (show A + 1 ≤ A + 2 by omega))
      have hr := Lib.hid (show InR n ((z : Int) % n) from ⟨Int.emod_nonneg _ (by omega), fun h => Int.emod_lt_of_pos _ (by omega), fun h => by omega⟩)
      go_wp2
      go_ret
      exact ⟨⟨_, hr.out, rfl⟩, Hs2.out, Ho1.out⟩
theorem srcOne {B b A : Nat} {w : World} (h : Src B w b A) (hA : A ≤ 1000000000000) (n : Int) (hn : n ≤ 1000000000000) :
    Calls Try.prog 88 #[.pointer (some ⟨b, 0, none⟩), .int .i64 n] w fun e w' => (∃ r : Bool, e = .returned (.bool r)) ∧ Src B w' b (A + 2) ∧ Only [b] w w' := by
  have H := Lib.hid h; clear h
  go_enter Try.func88, Try.ntmps88
  go_wp2_with fail
  refine (srcPick H.out hA n hn).mono ?_
  rintro e w1 ⟨⟨z, hz, rfl⟩, hs1, ho1⟩
  have Hs1 := Lib.hid hs1; clear hs1 hz
  have Ho1 := Lib.hid ho1; clear ho1
  go_wp2
  go_ret
  exact ⟨⟨_, rfl⟩, Hs1.out, Ho1.out⟩
theorem srcAmong {B b A : Nat} {P : Nat → Prop} {w : World} {v : Value} {xs : List Int} (h : Src B w b A) (hA : A ≤ 1000000000000) (hv : RdI P w v xs) (hP : ∀ k, P k → k < w.heap.size ∧ k ≠ b) (hl : 1 ≤ xs.length) (hl2 : xs.length ≤ 1000) :
    Calls Try.prog 87 #[.pointer (some ⟨b, 0, none⟩), v] w fun e w' => (∃ i, i < xs.length ∧ e = .returned (.int .i64 (nth xs i))) ∧ Src B w' b (A + 2) ∧ Only [b] w w' := by
  have H := Lib.hid h; clear h
  have Hv := Lib.hid hv
  have HP := Lib.hid hP; clear hP
  obtain ⟨a, c, rfl, g1, g2, _⟩ := hv
  unfold maxLen at g2
  go_enter Try.func87, Try.ntmps87
  go_wp2_with fail
  refine (srcPick H.out hA _ (by omega)).mono ?_
  rintro e w1 ⟨⟨z, hz, rfl⟩, hs1, ho1⟩
  obtain ⟨z, rfl⟩ := Int.eq_ofNat_of_zero_le hz.1
  have hzl : z < xs.length := by have := hz.2.1 (by omega); omega
  have Hv1 := Lib.hid (RdI.ok.keep Hv.out fun k hk => ho1.block k (HP.out k hk).1 (by have := (HP.out k hk).2; simpa using this))
  obtain ⟨b3, o3, u3, rfl, _, hc3, rfl⟩ := Rd.elim Hv1.out z hzl
  have hc4 : w1.cell? ⟨b3, o3 + z, none⟩ = some (.int .i64 (nth xs z)) := hc3
  have Hs1 := Lib.hid hs1; clear hs1 hz hc3
  have Ho1 := Lib.hid ho1; clear ho1
  go_wp2
  go_ret
  exact ⟨⟨z, hzl, rfl⟩, Hs1.out, Ho1.out⟩
theorem srcFrom {B : Nat} {w : World} {v : Value} {zs : List UInt8} (h : Rd rY (· < B) w v zs) (hB : B ≤ w.heap.size) :
    Calls Try.prog 86 #[v] w fun e w' => e = .returned (.pointer (some ⟨w.heap.size, 0, none⟩)) ∧ Src B w' w.heap.size 0 ∧ Below w.heap.size w w' ∧ w'.heap.size = w.heap.size + 1 := by
  obtain ⟨a, c, rfl, g1, g2, hrd⟩ := h
  have hh := Lib.hid (heap_alloc_new w (.cells #[.slice a zs.length c, .int .i64 0, .int .u64 0] 142))
  have hr := Lib.hid ((Rd.ok (R := rY) rleaf.ok).keep (w' := w.alloc (.cells #[.slice a zs.length c, .int .i64 0, .int .u64 0] 142)) (⟨a, c, rfl, g1, g2, hrd⟩ : Rd rY (· < B) w (.slice a zs.length c) zs) fun k hk => Below.heap_alloc w _ k (by omega))
  clear hrd
  go_enter Try.func86, Try.ntmps86
  go_wp2
  go_ret
  exact ⟨rfl, ⟨hB, _, zs, 0, 0, hh.out, hr.out, Nat.le_refl _, by omega, by omega⟩, (Below.refl _ _).alloc (Nat.le_refl _) _, by simp⟩
end Go.Proofs.Ytnpkanlieflbiaa
