/- The drawn chain of the laws: spec.R8Chain, walked. -/
import Derived.Test.YtnpkanlieflbiaaU2
import Derived.Test.YtnpkanlieflbiaaI0
namespace Go.Proofs.Ytnpkanlieflbiaa
open Go.RowKit
set_option linter.unusedVariables false

theorem bheap {W w1 : World} (h : Below W.heap.size W w1) {k : Nat} {o : Obj} (hk : W.heap[k]? = some o) : w1.heap[k]? = some o := (h.block k (Array.getElem?_eq_some_iff.1 hk).1).trans hk
theorem specDrawSizedZ {B b A : Nat} {w : World} (h : Src B w b A) (hA : A ≤ 100000000) (nb np : Int) (hb : 2 ≤ nb ∧ nb ≤ 10) (hp : 1 ≤ np ∧ np ≤ 4) :
    Calls Try.prog 94 #[.pointer (some ⟨b, 0, none⟩), .int .i64 nb, .int .i64 np] w fun e w' => ∃ v x NS, e = .returned v ∧ (∃ S, OC w' v x S ∧ ∀ k ∈ S, w.heap.size ≤ k) ∧ Only [b] w w' ∧ (1 ≤ NS ∧ NS ≤ 10) ∧ DCh NS nb.toNat np.toNat x := by
  obtain ⟨NB, rfl⟩ := Int.eq_ofNat_of_zero_le (show 0 ≤ nb by omega)
  obtain ⟨NP, rfl⟩ := Int.eq_ofNat_of_zero_le (show 0 ≤ np by omega)
  rw [Int.toNat_natCast, Int.toNat_natCast]
  exact specDrawSized h hA NB NP (by omega) (by omega)
/-- A chain that the laws draw. -/
structure R8 (x : Chn) : Prop where
  vc : VC x
  states : x.S ≤ 10
  words : x.b ^ x.n ≤ 256
  tabs : x.tables.length ≤ 3
  sz : szC x ≤ 1048576
theorem pow_small {NB NP : Nat} (h : (NB ≤ 4 ∧ NP ≤ 4) ∨ (NB ≤ 10 ∧ NP ≤ 2)) : NB ^ NP ≤ 256 := by
  rcases h with ⟨h1, h2⟩ | ⟨h1, h2⟩
  · rcases Nat.eq_zero_or_pos NB with e | e
    · subst e
      cases NP with
      | zero => decide
      | succ n => rw [Nat.pow_succ]; omega
    · exact Nat.le_trans (Nat.pow_le_pow_left h1 NP) (Nat.le_trans (Nat.pow_le_pow_right (by omega) h2) (by decide))
  · exact Nat.le_trans (Nat.pow_le_pow_left h1 NP) (Nat.le_trans (Nat.pow_le_pow_right (by omega) h2) (by decide))
theorem cntU {α : Type} {cnt : α → Nat} {t : List α} {b : Nat} (h : ∀ i, i < t.length → ∀ a, t[i]? = some a → cnt a ≤ b) : cntL cnt t ≤ t.length * b := by
  induction t with
  | nil => simp [cntL]
  | cons x t ih =>
    have h1 := h 0 (by simp) x rfl
    have h2 := ih (fun i hi a ha => h (i + 1) (by simp; omega) a (by simpa using ha))
    simp only [cntL, List.map_cons, List.sum_cons, List.length_cons, Nat.succ_mul] at h2 ⊢
    omega
theorem DCh.r8 {NS NB NP : Nat} {x : Chn} (h : DCh NS NB NP x) (hs : 1 ≤ NS ∧ NS ≤ 10) (hb : 2 ≤ NB ∧ NB ≤ 10) (hp : 1 ≤ NP ∧ NP ≤ 4) (hw : NB ^ NP ≤ 256) : R8 x := by
  have e1 := h.base
  have e2 := h.states
  have e3 := h.pls
  refine ⟨h.vc hs hb hp, by show x.states.toNat ≤ 10; omega, ?_, h.tabs.2, ?_⟩
  · have : x.b = NB := by show x.base.toNat = NB; omega
    rw [this, show x.n = NP from e3]; exact hw
  · have ht : ∀ i, i < x.tables.length → ∀ a, x.tables[i]? = some a → szL List.length a ≤ 200 := fun i hi a ha => by
      have hg := h.tab i hi
      have hea : nth x.tables i = a := by rw [nth_eq hi]; rw [List.getElem?_eq_getElem hi] at ha; exact Option.some.inj ha
      rw [hea] at hg
      have h4 : cntL List.length a ≤ a.length * 10 := cntU fun j hj r hr => by
        have h5 := (hg.2 j hj).1
        have h6 : nth a j = r := by rw [nth_eq hj]; rw [List.getElem?_eq_getElem hj] at hr; exact Option.some.inj hr
        rw [h6] at h5; omega
      rw [szL_eq]
      omega
    have h7 : cntL (szL List.length) x.tables ≤ x.tables.length * 200 := cntU ht
    have h8 := h.tabs
    show szL (szL List.length) x.tables + x.places.length ≤ 1048576
    rw [szL_eq]
    omega
set_option maxRecDepth 10000 in
set_option maxHeartbeats 1600000 in
theorem specR8Chain {B : Nat} {w : World} {v : Value} {zs : List UInt8} (h : Rd rY (· < B) w v zs) (hB : B ≤ w.heap.size) :
    Calls Try.prog 37 #[v] w fun e w' => ∃ (v' : Value) (x : Chn), e = .returned v' ∧ Fresh OC w w' v' x ∧ R8 x := by
  obtain ⟨w0, hw0⟩ : ∃ w0, w0 = w.alloc (.cells #[.int .i64 0, .int .i64 0, .int .i64 0, .int .i64 0, .slice none 0 0, .slice none 0 0] 28) := ⟨_, rfl⟩
  have hb0 := (Below.refl w.heap.size w).alloc (Nat.le_refl _) (.cells #[.int .i64 0, .int .i64 0, .int .i64 0, .int .i64 0, .slice none 0 0, .slice none 0 0] 28)
  have hz0 := heap_alloc_new w (.cells #[.int .i64 0, .int .i64 0, .int .i64 0, .int .i64 0, .slice none 0 0, .slice none 0 0] 28)
  rw [← hw0] at hb0 hz0
  have H0 := Lib.hid ((Rd.ok (R := rY) rleaf.ok).keep h (w' := w0) fun k hk => hb0.block k (by omega))
  have Hz0 := Lib.hid hz0
  have Hb0 := Lib.hid hb0
  have Hw0 := Lib.hid hw0
  have hsz0 := heap_lt hz0
  clear h hz0 hb0 hw0
  go_enter Try.func37, Try.ntmps37
  go_wp2_with fail
  rw [← Hw0.out]
  refine (srcFrom H0.out (by omega)).mono ?_
  rintro e w1 ⟨rfl, hs1, hb1, hz1⟩
  have Hz1 := Lib.hid (bheap hb1 Hz0.out)
  have Hs1 := Lib.hid hs1
  have Hb1 := Lib.hid (Hb0.out.trans (hb1.mono Hb0.out.size))
  have hsz1 : w0.heap.size < w1.heap.size := by omega
  clear hs1 hb1 hz1 H0 Hw0 Hz0
  generalize w0.heap.size = b at *
  go_wp2_with fail
  refine (srcPick Hs1.out (by omega) 3 (by omega)).mono ?_
  rintro e w2 ⟨⟨z1, hz1, rfl⟩, hs2, ho2⟩
  obtain ⟨NB, rfl⟩ : ∃ q, z1 = q - 2 := ⟨z1 + 2, by omega⟩
  have hNB : 2 ≤ NB ∧ NB ≤ 4 := by have := hz1.1; have := hz1.2.1 (by omega); omega
  have m1 : (2 : Int) + (NB - 2) = NB := by omega
  have Hs2 := Lib.hid (hs2.more (show _ ≤ 10 by omega))
  have Hz2 := Lib.hid (oheap ho2 Hz1.out (by simp; omega))
  have Hb2 := Lib.hid (below_only Hb1.out ho2 (by omega) (by simp; omega))
  have hsz2 := ho2.size
  clear hz1 hs2 ho2 Hs1 Hz1 Hb1
  go_wp2_with fail
  clear m1
  refine (srcPick Hs2.out (by omega) 4 (by omega)).mono ?_
  rintro e w3 ⟨⟨z2, hz2, rfl⟩, hs3, ho3⟩
  obtain ⟨NP, rfl⟩ : ∃ q, z2 = q - 1 := ⟨z2 + 1, by omega⟩
  have hNP : 1 ≤ NP ∧ NP ≤ 4 := by have := hz2.1; have := hz2.2.1 (by omega); omega
  have m1 : (1 : Int) + (NP - 1) = NP := by omega
  have Hs3 := Lib.hid (hs3.more (show _ ≤ 20 by omega))
  have Hz3 := Lib.hid (oheap ho3 Hz2.out (by simp; omega))
  have Hb3 := Lib.hid (below_only Hb2.out ho3 (by omega) (by simp; omega))
  have hsz3 := ho3.size
  clear hz2 hs3 ho3 Hs2 Hz2 Hb2
  go_wp2_with fail
  clear m1
  refine (srcOne Hs3.out (by omega) 4 (by omega)).mono ?_
  rintro e w4 ⟨⟨r, rfl⟩, hs4, ho4⟩
  have Hs4 := Lib.hid (hs4.more (show _ ≤ 30 by omega))
  have Hz4 := Lib.hid (oheap ho4 Hz3.out (by simp; omega))
  have Hb4 := Lib.hid (below_only Hb3.out ho4 (by omega) (by simp; omega))
  have hsz4 := ho4.size
  clear hs4 ho4 Hs3 Hz3 Hb3
  have key : ∀ (W : World) (nb np : Int), (2 ≤ nb ∧ nb ≤ 10) → (1 ≤ np ∧ np ≤ 4) → nb.toNat ^ np.toNat ≤ 256 → Src B W b 40 → W.heap[w.heap.size]? = some (.cells #[.int .i64 0, .int .i64 0, .int .i64 0, .int .i64 0, .slice none 0 0, .slice none 0 0] 28 (0, 0)) → Below w.heap.size w W →
      Calls Try.prog 94 #[.pointer (some ⟨b, 0, none⟩), .int .i64 nb, .int .i64 np] W fun e w' => ∃ (cb cs ca co : Int) (a7 : Option Addr) (n7 c7 : Nat) (a8 : Option Addr) (n8 c8 : Nat) (x : Chn), e = .returned (.agg #[.int .i64 cb, .int .i64 cs, .int .i64 ca, .int .i64 co, .slice a7 n7 c7, .slice a8 n8 c8]) ∧ R8 x ∧
        w'.heap[w.heap.size]? = some (.cells #[.int .i64 0, .int .i64 0, .int .i64 0, .int .i64 0, .slice none 0 0, .slice none 0 0] 28 (0, 0)) ∧ ∀ w2, Only [w.heap.size] w' w2 → Fresh OC w w2 (.agg #[.int .i64 cb, .int .i64 cs, .int .i64 ca, .int .i64 co, .slice a7 n7 c7, .slice a8 n8 c8]) x := by
    intro W nb np hnb hnp hpw hs hz hbw
    refine (specDrawSizedZ hs (by omega) nb np hnb hnp).mono ?_
    rintro e w' ⟨v, x, NS, rfl, ⟨S, hS, hS2⟩, ho, hNS, hd⟩
    obtain ⟨u, p, Sa, Sb, rfl, ot, op, eS, hSS⟩ := id hS
    obtain ⟨a7, n7, c7, rfl⟩ := ot.isSlice
    obtain ⟨a8, n8, c8, rfl⟩ := op.isSlice
    refine ⟨_, _, _, _, _, _, _, _, _, _, x, rfl, hd.r8 hNS (by omega) (by omega) hpw, oheap ho hz (by simp; omega), fun w2 hon => ⟨S, OC.ok.keep hS fun k hk => hon.block k (OC.ok.lt hS k hk) ?_, fun k hk => by have := hS2 k hk; have := hbw.size; omega, ?_⟩⟩
    · have := hS2 k hk
      have := heap_lt hz
      simp; omega
    · exact below_only (below_only hbw ho hbw.size (by simp; omega)) hon (by have := hbw.size; have := ho.size; omega) (by simp)
  have Key := Lib.hid key; clear key
  cases r
  · go_wp2_with fail
    refine (Calls.mono (Key.out w4 NB NP (by omega) hNP (pow_small (by omega)) (Hs4.out.more (by omega)) Hz4.out Hb4.out) ?_)
    rintro e w6 ⟨cb, cs, ca, co, a7, n7, c7, a8, n8, c8, x, rfl, hr, hz, hF⟩
    have z0 := heap_cell hz (i := 0) rfl
    have z1 := heap_cell hz (i := 1) rfl
    have z2 := heap_cell hz (i := 2) rfl
    have z3 := heap_cell hz (i := 3) rfl
    have z4 := heap_cell hz (i := 4) rfl
    have z5 := heap_cell hz (i := 5) rfl
    have f0 := frozen_at hz 0
    have f1 := frozen_at hz 1
    have f2 := frozen_at hz 2
    have f3 := frozen_at hz 3
    have f4 := frozen_at hz 4
    have f5 := frozen_at hz 5
    have HF := Lib.hid hF
    have Hr := Lib.hid hr
    clear hz hF hr
    go_wp2
    refine bodyPost_ret (v := .agg #[.int .i64 cb, .int .i64 cs, .int .i64 ca, .int .i64 co, .slice a7 n7 c7, .slice a8 n8 c8]) (by simp [results, Try.results37, go_sem, z0, z1, z2, z3, z4, z5]) rfl ⟨_, x, rfl, HF.out _ (by repeat' (first | with_reducible exact Only.refl _ _ | with_reducible refine Only.put ?_ ?_ _ _ | (simp; done))), Hr.out⟩
  · go_wp2_with fail
    refine (srcPick Hs4.out (by omega) 2 (by omega)).mono ?_
    rintro e w5 ⟨⟨z3, hz3, rfl⟩, hs5, ho5⟩
    obtain ⟨NP2, rfl⟩ : ∃ q, z3 = q - 1 := ⟨z3 + 1, by omega⟩
    have hNP2 : 1 ≤ NP2 ∧ NP2 ≤ 2 := by have := hz3.1; have := hz3.2.1 (by omega); omega
    have m1 : (1 : Int) + (NP2 - 1) = NP2 := by omega
    have Hs5 := Lib.hid (hs5.more (show _ ≤ 40 by omega))
    have Hz5 := Lib.hid (oheap ho5 Hz4.out (by simp; omega))
    have Hb5 := Lib.hid (below_only Hb4.out ho5 (by omega) (by simp; omega))
    clear hz3 hs5 ho5 Hs4 Hz4 Hb4
    go_wp2_with fail
    refine (Calls.mono (Key.out w5 10 NP2 (by omega) (by omega) (pow_small (by omega)) Hs5.out Hz5.out Hb5.out) ?_)
    rintro e w6 ⟨cb, cs, ca, co, a7, n7, c7, a8, n8, c8, x, rfl, hr, hz, hF⟩
    clear m1
    have z0 := heap_cell hz (i := 0) rfl
    have z1 := heap_cell hz (i := 1) rfl
    have z2 := heap_cell hz (i := 2) rfl
    have z3 := heap_cell hz (i := 3) rfl
    have z4 := heap_cell hz (i := 4) rfl
    have z5 := heap_cell hz (i := 5) rfl
    have f0 := frozen_at hz 0
    have f1 := frozen_at hz 1
    have f2 := frozen_at hz 2
    have f3 := frozen_at hz 3
    have f4 := frozen_at hz 4
    have f5 := frozen_at hz 5
    have HF := Lib.hid hF
    have Hr := Lib.hid hr
    clear hz hF hr
    go_wp2
    refine bodyPost_ret (v := .agg #[.int .i64 cb, .int .i64 cs, .int .i64 ca, .int .i64 co, .slice a7 n7 c7, .slice a8 n8 c8]) (by simp [results, Try.results37, go_sem, z0, z1, z2, z3, z4, z5]) rfl ⟨_, x, rfl, HF.out _ (by repeat' (first | with_reducible exact Only.refl _ _ | with_reducible refine Only.put ?_ ?_ _ _ | (simp; done))), Hr.out⟩
end Go.Proofs.Ytnpkanlieflbiaa
