/- The laws' small functions over permutings. -/
import Derived.Test.YtnpkanlieflbiaaS1
namespace Go.Proofs.Ytnpkanlieflbiaa
open Go.RowKit
set_option linter.unusedVariables false

theorem cnt_le_szP (x : Prm) : cntP x ≤ szP x := cnt_le_sz2 x.orders
theorem toPermuting_t {B : Nat} {v : Value} {x : Prm} {w : World} (h : RdP (· < B) w v x) (hB : B ≤ w.heap.size) (hn : szP x ≤ 1048576) :
    Calls Try.prog 24 #[v] w fun e w' => ∃ v', e = .returned v' ∧ In OP w.heap.size w'.heap.size w' v' x ∧ Turn 0 0 w w' := by
  obtain ⟨u, rfl, hu⟩ := h
  obtain ⟨a, c, rfl, h1, h2⟩ := hu.isSlice
  unfold maxLen at h2
  have Hu := Lib.hid hu; clear hu
  unfold aggP
  go_enter Try.func24, Try.ntmps24
  go_wp2_with fail
  refine (toInt64SSx (Rd.below RdII.ok Hu.out (Below.mono (B := w.heap.size) (by repeat' (first | with_reducible exact Below.refl _ _ | with_reducible refine Below.alloc ?_ ?_ _ | with_reducible refine Below.setCell ?_ ?_ _ | with_reducible refine Below.drew ?_ | with_reducible refine Below.draws ?_ _ | omega | (simp; done) | (simp; omega))) hB)) (fun k hk => by simp; omega) hn).mono ?_
  rintro e w1 ⟨v1, rfl, hf⟩
  obtain ⟨S, hS, hS2, hb⟩ := hf
  obtain ⟨av, nv, cv, rfl⟩ := hS.isSlice
  have HS := Lib.hid hS; clear hS
  have HS2 := Lib.hid hS2; clear hS2
  have hsz := hb.size
  simp at hsz
  obtain ⟨hc, hz⟩ := bcell hb
  go_wp2
  refine bodyPost_ret (v := aggP x (.slice av nv cv)) (by simp [results, Try.results24, go_sem, aggP, hc]) rfl ⟨_, rfl, ⟨S, ⟨_, rfl, OII.ok.keep HS.out fun k hk => ?_⟩, fun k hk => ⟨?_, ?_⟩⟩, Turn.of_below ?_⟩
  · have := HS2.out k hk
    simp at this
    refine Only.block (S := [w.heap.size + 1, w.heap.size + 1 + 1]) (by repeat' (first | with_reducible exact Only.refl _ _ | with_reducible refine Only.put ?_ ?_ _ _ | (simp; done))) k (OII.ok.lt HS.out k hk) (by simp; omega)
  · have := HS2.out k hk
    simp at this
    omega
  · have := OII.ok.lt HS.out k hk
    simp
    omega
  · refine Below.trans (b := w1) ?_ ?_
    · refine Below.trans ?_ (hb.mono (by first | omega | (simp; done) | (simp; omega)))
      repeat' (first | with_reducible exact Below.refl _ _ | with_reducible refine Below.alloc ?_ ?_ _ | with_reducible refine Below.setCell ?_ ?_ _ | with_reducible refine Below.drew ?_ | with_reducible refine Below.draws ?_ _ | omega | (simp; done) | (simp; omega))
    · repeat' (first | with_reducible exact Below.refl _ _ | with_reducible refine Below.alloc ?_ ?_ _ | with_reducible refine Below.setCell ?_ ?_ _ | with_reducible refine Below.drew ?_ | with_reducible refine Below.draws ?_ _ | omega | (simp; done) | (simp; omega))

theorem szPermuting_t {B : Nat} {v : Value} {x : Prm} {w : World} (h : RdP (· < B) w v x) (hB : B ≤ w.heap.size) (left : Int) (hl : 0 ≤ left) (hl2 : left ≤ 1048576) :
    Calls Try.prog 22 #[v, .int .i64 left] w fun e w' => e = .returned (.int .i64 (szR (szP x) left)) ∧ Turn 0 0 w w' := by
  obtain ⟨u, rfl, hu⟩ := h
  obtain ⟨a, c, rfl, h1, h2⟩ := hu.isSlice
  unfold maxLen at h2
  have Hu := Lib.hid hu; clear hu
  unfold aggP szP
  obtain ⟨N, hN⟩ : ∃ N, N = szL List.length x.orders := ⟨_, rfl⟩
  have HN := Lib.hid hN
  rw [← hN]
  clear hN
  have hw1 := Lib.hid (Turn.of_below ((Below.refl w.heap.size w).alloc (Nat.le_refl _) (.cells #[.int .i64 x.base, .int .i64 x.target, .slice a x.orders.length c] 40)))
  by_cases hle : (N : Int) ≤ left
  · have hv := Lib.hid (szR_yes hle)
    go_enter Try.func22, Try.ntmps22
    go_wp2_with fail
    refine (szInt64SS (RdII.ok.keep Hu.out fun k hk => Below.heap_alloc w _ k (by omega)) _ hl hl2).mono ?_
    rw [← HN.out, hv.out]
    rintro e w' ⟨rfl, rfl⟩
    go_wp2
    go_ret
    exact ⟨ret_int' hv.out.symm, hw1.out⟩
  · have hv := Lib.hid (szR_no (n := N) (left := left) (by omega))
    go_enter Try.func22, Try.ntmps22
    go_wp2_with fail
    refine (szInt64SS (RdII.ok.keep Hu.out fun k hk => Below.heap_alloc w _ k (by omega)) _ hl hl2).mono ?_
    rw [← HN.out, hv.out]
    rintro e w' ⟨rfl, rfl⟩
    go_wp2
    go_ret
    exact ⟨ret_int' hv.out.symm, hw1.out⟩

theorem eqPermuting_t {a b c d : Nat} {va vb : Value} {x : Prm} {w : World} (ha : In OP a b w va x) (hb : In OP c d w vb x) :
    Calls Try.prog 26 #[va, vb] w fun e w' => e = .returned (.bool true) ∧ Turn 0 0 w w' := by
  obtain ⟨S, ⟨u, rfl, hu⟩, hS⟩ := ha
  obtain ⟨T, ⟨u', rfl, hu'⟩, hT⟩ := hb
  have Hu := Lib.hid (OII.leads.to _ _ _ _ (· < w.heap.size) hu (OII.ok.lt hu))
  have Hu' := Lib.hid (OII.leads.to _ _ _ _ (· < w.heap.size) hu' (OII.ok.lt hu'))
  clear hu hu' hS hT
  obtain ⟨a1, c1, rfl, h1, h2⟩ := Hu.out.isSlice
  obtain ⟨a2, c2, rfl, h3, h4⟩ := Hu'.out.isSlice
  unfold maxLen at h2 h4
  have hbx := Lib.hid (((Below.refl w.heap.size w).alloc (Nat.le_refl _) (.cells #[.int .i64 x.base, .int .i64 x.target, .slice a1 x.orders.length c1] 43)).alloc (by simp) (.cells #[.int .i64 x.base, .int .i64 x.target, .slice a2 x.orders.length c2] 43))
  unfold aggP
  go_enter Try.func26, Try.ntmps26
  go_wp2_with fail
  refine (eqInt64SS (RdII.ok.keep Hu.out fun k hk => hbx.out.block k hk) (RdII.ok.keep Hu'.out fun k hk => hbx.out.block k hk)).mono ?_
  rintro e w' ⟨rfl, n, rfl⟩
  go_wp2
  go_ret
  exact ⟨rfl, Turn.of_below (hbx.out.trans ⟨rfl, rfl, rfl, Nat.le_refl _, fun _ _ => rfl⟩)⟩

theorem markPermuting_t {lo hi : Nat} {v : Value} {x : Prm} {w : World} {k : Int} (h : In OP lo hi w v x) (hk : 0 ≤ k) (hk2 : k + cntP x ≤ 4611686018427387904) :
    Calls Try.prog 27 #[v, .int .i64 k] w fun e w' => e = .returned (.int .i64 (k + cntP x)) ∧ In OP lo hi w' v (mkP k x) ∧ Turn lo hi w w' := by
  obtain ⟨S, ⟨u, rfl, hu⟩, hS⟩ := h
  obtain ⟨a1, n1, c1, rfl⟩ := hu.isSlice
  have Hu := Lib.hid hu; clear hu
  have HS := Lib.hid hS; clear hS
  have hbx := Lib.hid ((Below.refl w.heap.size w).alloc (Nat.le_refl _) (.cells #[.int .i64 x.base, .int .i64 x.target, .slice a1 n1 c1] 43))
  unfold aggP
  go_enter Try.func27, Try.ntmps27
  go_wp2_with fail
  refine (markInt64SS (Own.below OI.ok Hu.out hbx.out) hk hk2).mono ?_
  rintro e w1 ⟨rfl, ho, hb⟩
  have Ho := Lib.hid ho; clear ho
  have Hb := Lib.hid hb; clear hb
  go_wp2
  go_ret
  exact ⟨rfl, ⟨S, ⟨_, rfl, Ho.out⟩, HS.out⟩, Turn.after hbx.out ⟨Hb.out.os, Hb.out.tape, Hb.out.output, Hb.out.size, fun i hi hd => Hb.out.block i hi fun hm => by have := HS.out i hm; omega⟩⟩

end Go.Proofs.Ytnpkanlieflbiaa
