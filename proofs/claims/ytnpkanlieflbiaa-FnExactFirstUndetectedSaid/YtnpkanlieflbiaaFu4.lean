/- The first undetected error: the reference's least list behind two states, walked. -/
import Derived.Test.YtnpkanlieflbiaaFu1
import Derived.Test.YtnpkanlieflbiaaE12
import Derived.Test.YtnpkanlieflbiaaD7
namespace Go.Proofs.Ytnpkanlieflbiaa
open Go.RowKit
set_option linter.unusedVariables false

theorem gridAt {P : Nat → Prop} {w : World} {b n m r c : Nat} {T : List (List Int)} {f : Nat → Nat → Nat} (h : RdII P w (.slice (some ⟨b, 0, none⟩) n c) T) (hG : Grid m r T f) {i j : Nat} (hi : i < m) (hj : j < r) :
    ∃ b2 o2 c2, w.cell? ⟨b, i, none⟩ = some (.slice (some ⟨b2, o2, none⟩) r c2) ∧ (r ≤ c2 ∧ c2 ≤ 9223372036854775807) ∧ w.cell? ⟨b2, o2 + j, none⟩ = some (.int .i64 (f i j)) := by
  obtain ⟨hrl, hrv⟩ := hG.2 i hi
  have hv := hrv j hj
  obtain ⟨b', o', u, e, hP, hc, hu⟩ := Rd.elim h i (by rw [hG.1]; exact hi)
  simp only [Option.some.injEq, Addr.mk.injEq, and_true] at e
  obtain ⟨rfl, rfl⟩ := e
  obtain ⟨a2, c2, rfl, g1, g2, hrd⟩ := hu
  obtain ⟨b2, o2, u2, rfl, hP2, hc2, rfl⟩ := hrd j (by omega)
  rw [hrl] at hc g1
  rw [hv] at hc2
  rw [Nat.zero_add] at hc
  unfold maxLen at g2
  exact ⟨b2, o2, c2, hc, ⟨g1, g2⟩, hc2⟩
theorem pairsAt {P : Nat → Prop} {w : World} {x : Chn} {b n c : Nat} (h : RdII P w (.slice (some ⟨b, 0, none⟩) n c) (pairsG x)) {k s t : Nat} (hk : k ≤ x.n) (hs : s < x.S) (ht : t < x.S) :
    ∃ b2 o2 c2, w.cell? ⟨b, k, none⟩ = some (.slice (some ⟨b2, o2, none⟩) (x.S * x.S) c2) ∧ (x.S * x.S ≤ c2 ∧ c2 ≤ 9223372036854775807) ∧ w.cell? ⟨b2, o2 + (s * x.S + t), none⟩ = some (.int .i64 (bothV x k s t : Nat)) := by
  have hg := gridL_grid (x.n + 1) (x.S * x.S) (pairV x x.S)
  have := gridAt (r := x.S * x.S) (m := x.n + 1) (f := pairV x x.S) h hg (i := k) (j := s * x.S + t) (by omega) (pair_lt hs ht)
  rw [pairV_at x ht] at this
  exact this

set_option maxHeartbeats 3200000 in
set_option maxRecDepth 100000 in
theorem specLeast {B bx : Nat} {x : Chn} {w : World} (h : BoxC (· < B) w bx x) (hB : B ≤ w.heap.size) (hbx : bx < w.heap.size) (hv : VC x) {P : Nat → Prop} {gp np cp : Nat} (hp : RdII P w (.slice (some ⟨gp, 0, none⟩) np cp) (pairsG x)) (hnp : np = x.n + 1 ∧ np ≤ cp ∧ cp ≤ maxLen)
    (place s t : Nat) (hpl : place ≤ x.n) (hs : s < x.S) (ht : t < x.S) (h0 : 0 < bothV x place s t) :
    Calls Try.prog 152 #[.pointer (some ⟨bx, 0, none⟩), .slice (some ⟨gp, 0, none⟩) np cp, .int .i64 place, .int .i64 s, .int .i64 t] w fun e w' =>
      ∃ v c, e = .returned v ∧ Fresh OI w w' v c ∧ LeastL (TwoS x (x.n - place) place s t) c := by
  have hnat := hv.nat
  have H := Lib.hid h
  have Hv := Lib.hid hv; clear hv
  obtain ⟨a, c, a', c', g0, g1, g2, g3, g4, g5, hu, hpp, ⟨h1, h2⟩, h3, h4⟩ := h.cells
  obtain ⟨NS, hNS⟩ : ∃ n : Nat, n = x.S := ⟨_, rfl⟩
  obtain ⟨NB, hNB⟩ : ∃ n : Nat, n = x.b := ⟨_, rfl⟩
  obtain ⟨SI, hSI⟩ : ∃ z : Int, z = x.states := ⟨_, rfl⟩
  have eS : SI = (NS : Int) := by have := Hv.out.states; rw [hNS, hSI]; show x.states = (x.states.toNat : Int); omega
  rw [← hSI] at g1
  rw [← hNS, ← hNB] at hnat
  obtain ⟨M2, hM2⟩ : ∃ n : Nat, n = NS * NS := ⟨_, rfl⟩
  have hM2b : M2 ≤ 1296 := by
    have := Nat.mul_le_mul hnat.2.1.2 hnat.2.1.2
    omega
  have hmul := Lib.hid (fun (s t : Nat) (hs : s < NS) (ht : t < NS) => (show ∃ q : Nat, q = s * NS ∧ q + t < M2 ∧ (s : Int) * SI = (q : Int) from
    ⟨s * NS, rfl, by rw [hM2]; exact pair_lt hs ht, by rw [eS, Int.natCast_mul]⟩))
  obtain ⟨NP, hNP⟩ : ∃ n, n = x.places.length := ⟨_, rfl⟩
  have hpl2 : place ≤ NP := by rw [hNP]; exact hpl
  rw [show x.n = NP from hNP.symm] at hnp
  rw [← hNP] at h3 g5
  have hnP1 : NP < np := by omega
  have hnP2 : np ≤ cp ∧ cp ≤ 9223372036854775807 := by have := hnp.2; unfold maxLen at this; omega
  have hpr := Lib.hid (fun (k s t : Nat) (hk : k ≤ NP) (hs : s < NS) (ht : t < NS) => (show ∃ b2 o2 c2, w.cell? ⟨gp, k, none⟩ = some (.slice (some ⟨b2, o2, none⟩) M2 c2) ∧ (M2 ≤ c2 ∧ c2 ≤ 9223372036854775807) ∧ w.cell? ⟨b2, o2 + (s * NS + t), none⟩ = some (.int .i64 (bothV x k s t : Nat)) from by
    have := pairsAt hp (k := k) (by rw [hNP] at hk; exact hk) (by rw [← hNS]; exact hs) (by rw [← hNS]; exact ht)
    rw [← hNS, ← hM2] at this
    exact this))
  have hnP20 : NP ≤ 20 := by rw [hNP]; exact hnat.2.2.2.2.2
  have Hs := Lib.hid hs; have Ht := Lib.hid ht
  have hGP := Lib.hid (show GP (TwoS x (x.n - place) place s t) [] from by
    obtain ⟨c, hc⟩ := twoS_pos.1 h0
    exact GP.nil hc)
  obtain ⟨R, hR⟩ : ∃ r, r = x.n - place := ⟨_, rfl⟩
  have hR2 : R + place = NP := by rw [hR, hNP]; show x.places.length - place + place = _; have : place ≤ x.places.length := hpl; omega
  rw [← hR] at hGP
  have HNS := Lib.hid hNS; have HNB := Lib.hid hNB; have HNP := Lib.hid hNP; have HR := Lib.hid hR
  have hstep := Lib.hid (fun (u : List Int) (hg : GP (TwoS x R place s t) u) (hl : u.length < R) => (show runN x place s u < NS ∧ runN x place t u < NS from by
    have hd := hg.digs
    rw [HNS.out]
    exact ⟨Hv.out.runLt hd (by show _ ≤ x.places.length; omega) Hs.out, Hv.out.runLt hd (by show _ ≤ x.places.length; omega) Ht.out⟩))
  clear hu hpp h g2 g3 g4 hNS hNB hSI eS hM2 hNP hp hR h0 hpl hs ht hnp
  unfold maxLen at h4
  go_enter Try.func152, Try.ntmps152
  go_wp2
  go_loopw [3, 4, 11, 12] (fun xv yv ov iv wr => ∃ (u : List Int) (i sx sy : Nat), u.length ≤ R ∧ i = place + u.length ∧ iv = .int .i64 i ∧ xv = .int .i64 sx ∧ yv = .int .i64 sy ∧ Hid (sx = runN x place s u ∧ sy = runN x place t u) ∧ Hid (GP (TwoS x R place s t) u) ∧ Hid (Fresh OI w wr ov u)) (fun _ _ _ iv _ => NP - (intOf iv).toNat)
  case atStart => exact ⟨[], place, s, t, Nat.zero_le _, rfl, rfl, rfl, rfl, Lib.hid ⟨rfl, rfl⟩, hGP, Lib.hid (Fresh.empty (Below.refl _ _))⟩
  case round =>
    clear hGP
    obtain ⟨u, i, sx, sy, hul, hi, rfl, rfl, rfl, hxy, hg, hf⟩ := hrel
    obtain ⟨W2, rfl⟩ : ∃ W, W = wr := ⟨_, rfl⟩
    have e5 : W2.cell? ⟨bx, 5, none⟩ = some (.slice a' NP c') := (hf.out.bel.cell (p := ⟨bx, 5, none⟩) hbx).trans g5
    have Hbw := Lib.hid hf.out.bel
    by_cases hlt : u.length < R
    · obtain ⟨hsx, hsy⟩ := hstep.out u hg.out hlt
      rw [← hxy.out.1] at hsx
      rw [← hxy.out.2] at hsy
      have hdg := Lib.hid hg.out.digs
      obtain ⟨D, ⟨hD1, hD2⟩, hD3⟩ := ex_least (hg.out.more hlt)
      have hVe : ∀ d, bothR x (R - (u.length + 1)) (place + u.length + 1) (nxt x (place + u.length) (runN x place s u) d) (nxt x (place + u.length) (runN x place t u) d) = bothV x (i + 1) (nxt x i sx d) (nxt x i sy d) := fun d => by
        rw [hi, hxy.out.1, hxy.out.2]
        unfold bothV
        rw [show x.n - (place + u.length + 1) = R - (u.length + 1) by rw [HR.out]; omega]
      have hgn := Lib.hid (show GP (TwoS x R place s t) (u ++ [(D : Int)]) from hg.out.two hdg.out hD1 hlt hD2 fun e he => by
        rcases Nat.eq_zero_or_pos (bothR x (R - (u.length + 1)) (place + u.length + 1) (nxt x (place + u.length) (runN x place s u) e) (nxt x (place + u.length) (runN x place t u) e)) with h5 | h5
        · exact h5
        · exact absurd ⟨by omega, h5⟩ (hD3 e he))
      have hVD := hD2
      rw [hVe] at hVD
      have hV0 := Lib.hid (show ∀ d, d < D → bothV x (i + 1) (nxt x i sx d) (nxt x i sy d) = 0 from fun d hd => by
        rcases Nat.eq_zero_or_pos (bothV x (i + 1) (nxt x i sx d) (nxt x i sy d)) with h5 | h5
        · exact h5
        · exact absurd ⟨by omega, by rw [hVe]; exact h5⟩ (hD3 d hd))
      have HVD := Lib.hid hVD
      rw [← HNB.out] at hD1
      have hxyn := Lib.hid (show nxt x i sx D = runN x place s (u ++ [(D : Int)]) ∧ nxt x i sy D = runN x place t (u ++ [(D : Int)]) from by
        rw [runN_snoc, runN_snoc, hi, hxy.out.1, hxy.out.2]; exact ⟨rfl, rfl⟩)
      have hin : i < NP := by omega
      have hcx := Lib.hid (fun (W : World) (hb : Below w.heap.size w W) (m d : Nat) (hd : d < NB) => specNext ((H.out.below hb hB hbx).draws m) Hv.out i sx d (by show _ < x.places.length; rw [← HNP.out]; exact hin) (by rw [← HNS.out]; exact hsx) (by rw [← HNB.out]; exact hd))
      have hcy := Lib.hid (fun (W : World) (hb : Below w.heap.size w W) (m d : Nat) (hd : d < NB) => specNext ((H.out.below hb hB hbx).draws m) Hv.out i sy d (by show _ < x.places.length; rw [← HNP.out]; exact hin) (by rw [← HNS.out]; exact hsy) (by rw [← HNB.out]; exact hd))
      have hnl := Lib.hid (show ∀ d, d < NB → nxt x i sx d < NS ∧ nxt x i sy d < NS from fun d hd => by
        rw [HNS.out]
        exact ⟨(Hv.out.cellN (by show _ < x.places.length; rw [← HNP.out]; exact hin) (by rw [← HNS.out]; exact hsx) (by rw [← HNB.out]; exact hd)).2, (Hv.out.cellN (by show _ < x.places.length; rw [← HNP.out]; exact hin) (by rw [← HNS.out]; exact hsy) (by rw [← HNB.out]; exact hd)).2⟩)
      have e1 : W2.cell? ⟨bx, 1, none⟩ = some (.int .i64 SI) := (hf.out.bel.cell (p := ⟨bx, 1, none⟩) hbx).trans g1
      have Hf := Lib.hid hf.out
      have Hi := Lib.hid hi
      have Hlt := Lib.hid hlt
      clear hf hVe hD2 hD3 hVD hg hxy hi hlt
      go_wp2
      clear e5
      go_loopw [13] (fun dv wr => ∃ (d m : Nat), d ≤ D ∧ dv = .int .i64 d ∧ Hid (W2.drewN m = wr)) (fun dv _ => D - (intOf dv).toNat)
      case atStart => exact ⟨0, 0, Nat.zero_le _, rfl, Lib.hid rfl⟩
      case round =>
        obtain ⟨d, m, hd, rfl, hm⟩ := hrel
        obtain ⟨W3, rfl⟩ : ∃ W, W = wr := ⟨_, rfl⟩
        have hb3 := Lib.hid (show Below W2.heap.size W2 W3 by rw [← hm.out]; exact bel_draws rfl)
        have hbw3 := Hbw.out.trans (hb3.out.mono Hbw.out.size)
        obtain ⟨hn1, hn2⟩ := hnl.out d (by omega)
        obtain ⟨b2, o2, c2, i1, i2, i3⟩ := hpr.out (i + 1) _ _ (by omega) hn1 hn2
        replace i1 := (hbw3.cell (p := ⟨gp, i + 1, none⟩) (cell_lt i1)).trans i1
        replace i3 := (hbw3.cell (p := ⟨b2, o2 + (nxt x i sx d * NS + nxt x i sy d), none⟩) (cell_lt i3)).trans i3
        obtain ⟨q2, hq2, hq2t, hzq2⟩ := hmul.out _ _ hn1 hn2
        rw [← hq2] at i3
        have hc1 := Lib.hid (fun m2 => hcx.out W3 hbw3 m2 d (by omega))
        have hc2 := Lib.hid (fun m2 => hcy.out W3 hbw3 m2 d (by omega))
        have e13 : W3.cell? ⟨bx, 1, none⟩ = some (.int .i64 SI) := by rw [← hm.out]; exact e1
        have wy1 : IntKind.i64.wrap (((nxt x i sx d : Nat) : Int) * SI) = (q2 : Int) := by rw [hzq2]; exact IntWalk.i64_in _ (by omega)
        obtain ⟨V, hV⟩ : ∃ V, V = bothV x (i + 1) (nxt x i sx d) (nxt x i sy d) := ⟨_, rfl⟩
        rw [← hV] at i3
        have HV := Lib.hid hV
        clear hq2 hzq2 hV
        generalize hN1 : nxt x i sx d = n1 at *
        have HN1 := Lib.hid hN1; clear hN1
        generalize hN2 : nxt x i sy d = n2 at *
        have HN2 := Lib.hid hN2; clear hN2
        have wy2 : IntKind.i64.wrap ((q2 : Int) + (n2 : Int)) = (q2 : Int) + (n2 : Int) := IntWalk.i64_in _ (by omega)
        have wy3 : ((q2 : Int) + (n2 : Int)).toNat = q2 + n2 := by omega
        have wy4 : (0 : Int) ≤ (q2 : Int) + (n2 : Int) := by omega
        have wy5 : (q2 : Int) + (n2 : Int) < (M2 : Int) := by omega
        go_wp2
        refine wp_region_quiet_lit (by kernel_rfl) (by kernel_rfl) ?_
        repeat (go_big_quiet_step (first | with_reducible exact quiet_draws (hc1.out _) | with_reducible exact quiet_draws (hc2.out _)))
        refine wpQuiet_nil ?_
        rintro _ ⟨nq, rfl⟩
        clear wy1 wy2 wy3 wy4 wy5
        have hm2 := Lib.hid (show W2.drewN (m + nq) = W3.drewN nq by rw [← hm.out, World.drewN_drewN])
        by_cases hdD : d < D
        · have hV2 : V = 0 := by rw [HV.out, ← HN1.out, ← HN2.out]; exact hV0.out d hdD
          subst hV2
          go_wp2
          go_roundw
          case rel => exact ⟨d + 1, m + nq, by omega, by go_num, hm2⟩
          case measure => simp [intOf]; omega
        · obtain ⟨hdn⟩ : Nonempty (d = D) := ⟨by omega⟩
          have hV2 : 0 < V := by rw [HV.out, ← HN1.out, ← HN2.out, hdn]; exact HVD.out
          have hV3 : ¬ ((V : Int) = 0) := by omega
          have hul2 : u.length < 1000 := by have := Hlt.out; omega
          have hc7 := Lib.hid (fun (W : World) (hb : Below w.heap.size w W) (m : Nat) => hcx.out W hb m D hD1)
          have hc8 := Lib.hid (fun (W : World) (hb : Below w.heap.size w W) (m : Nat) => hcy.out W hb m D hD1)
          obtain ⟨na, nc, ncc, rfl⟩ := Hf.out.choose_spec.1.isSlice
          have Hf3 := Lib.hid (show Fresh OI w (W3.drewN nq) (.slice na nc ncc) u from by rw [← hm2.out]; exact Hf.out.drewN OI.ok _)
          rw [hdn]
          clear hV2 i1 i3 hc1 hc2 e13 hdn e1
          go_wp2_with (first
            | (at_builtin; refine wpList_pushF rfl (.tmp 51) (.tmp 53) 22 rfl (fun _ => rfl) Try.underlying22 infoI64 rfl Hf3.out (D : Int) (by omega) (by unfold maxLen; omega) rfl rfl ?_; intro v1 w4 hf4))
          have Hf4 := Lib.hid hf4
          refine (Calls.mono (hc7.out w4 hf4.bel 0) ?_)
          clear hf4
          rintro e w5 ⟨rfl, m5, rfl⟩
          go_wp2_with fail
          refine (Calls.mono (hc8.out w4 Hf4.out.bel m5) ?_)
          rintro e w6 ⟨rfl, m6, rfl⟩
          go_wp2
          go_roundw
          case rel => exact ⟨u ++ [(D : Int)], i + 1, _, _, by have := Hlt.out; simp; omega, by have := Hi.out; simp; omega, by go_num, rfl, rfl, hxyn, hgn, Lib.hid (Hf4.out.drewN OI.ok (m5 + m6))⟩
          case measure => simp [intOf]; omega
    · have huR : u.length = R := by omega
      have hL := Lib.hid (show LeastL (TwoS x (x.n - place) place s t) u from by rw [← HR.out]; exact hg.out.done (fun c hc => hc.len) huR)
      have hiN : i = NP := by omega
      obtain ⟨na, nc, ncc, rfl⟩ := hf.out.choose_spec.1.isSlice
      clear hi huR
      go_wp2
      go_ret
      exact ⟨_, u, rfl, hf.out, hL.out⟩
end Go.Proofs.Ytnpkanlieflbiaa
/- The first undetected error: the reference's fronts, walked. -/
namespace Go.Proofs.Ytnpkanlieflbiaa
open Go.RowKit
set_option linter.unusedVariables false

theorem specOwnF {P : Nat → Prop} {v : Value} {xs : List Int} {w : World} (h : RdI P w v xs) (hP : ∀ k, P k → k < w.heap.size) (hn : xs.length ≤ 1048576) :
    Calls Try.prog 146 #[v] w fun e w' => ∃ v, e = .returned v ∧ Fresh OI w w' v xs := by
  have h0 := Lib.hid h
  obtain ⟨a, c, rfl, h1, h2, hrd⟩ := h
  clear hrd
  have hsrc : RdI P (w.alloc (.cells #[] 2)) (.slice a xs.length c) xs := RdI.ok.keep h0.out fun k hk => Below.heap_alloc w _ k (hP k hk)
  have Hsrc := Lib.hid hsrc; clear hsrc
  have hf0 : Fresh OI w (w.alloc (.cells #[] 2)) (.slice (some ⟨w.heap.size, 0, none⟩) 0 0) [] := Fresh.empty (Below.refl _ _)
  have Hf0 := Lib.hid hf0; clear hf0
  go_enter Try.func146, Try.ntmps146
  go_wp2_with (at_builtin; refine wpList_appendF rfl (.tmp 3) (.tmp 4) 22 rfl (f := fI) (fun _ => rfl) Try.underlying22 infoI64 rfl Hf0.out Hsrc.out (by simp; omega) (by simp; unfold maxLen; omega) rfl rfl ?_; intro v1 w1 hf1)
  go_ret
  exact ⟨_, rfl, by rw [List.nil_append] at hf1; exact hf1⟩


theorem Own.emptyF {α : Type} [Inhabited α] (E : TypeId) (R : Rep α) (w : World) : Own E R (w.alloc (.cells #[] E)) (.slice (some ⟨w.heap.size, 0, none⟩) 0 0) [] [w.heap.size] :=
  .inr ⟨w.heap.size, 0, #[], [], rfl, heap_alloc_new w _, rfl, by simp, by simp, by simp, by simp, by simp, fun i hi => absurd hi (by simp)⟩
theorem infoBf : (Try.prog.info? 4).map (fun i => (i.zero, i.size, i.bytes)) = some (some (.bool false), 1, 1) := by kernel_rfl
abbrev OBf : Rep (List Bool) := OwnB 4
/-- The marks and the next front in the making. -/
structure FN (w0 wr : World) (gs M : Nat) (seen : List Bool) (vn : Value) (A : List (List Int)) (S : List Nat) : Prop where
  os : OBf wr (.slice (some ⟨gs, 0, none⟩) M M) seen [gs]
  on : OII wr vn A S
  ne : gs ∉ S
  ls : w0.heap.size ≤ gs
  ln : ∀ k ∈ S, w0.heap.size ≤ k
  bel : Below w0.heap.size w0 wr
section fn
variable {w0 wr w2 : World} {gs M : Nat} {seen : List Bool} {vn : Value} {A : List (List Int)} {S : List Nat}
theorem FN.lenS (h : FN w0 wr gs M seen vn A S) : seen.length = M := h.os.len.1
theorem FN.keep (h : FN w0 wr gs M seen vn A S) (hb : Below wr.heap.size wr w2) : FN w0 w2 gs M seen vn A S :=
  ⟨(Own.ok oB.ok).keep h.os fun k hk => hb.block k ((Own.ok oB.ok).lt h.os k hk), OII.ok.keep h.on fun k hk => hb.block k (OII.ok.lt h.on k hk), h.ne, h.ls, h.ln, h.bel.trans (hb.mono h.bel.size)⟩
theorem FN.cell (h : FN w0 wr gs M seen vn A S) {i : Nat} (hi : i < M) : wr.cell? ⟨gs, i, none⟩ = some (.bool (nth seen i)) := h.os.cell (by rw [h.lenS]; exact hi)
theorem FN.fr (h : FN w0 wr gs M seen vn A S) (i : Nat) : wr.frozen? ⟨gs, i, none⟩ = false := h.os.frozen i
theorem FN.lt (h : FN w0 wr gs M seen vn A S) : gs < wr.heap.size := (Own.ok oB.ok).lt h.os gs (by simp)
theorem FN.put (h : FN w0 wr gs M seen vn A S) (hb : Below wr.heap.size wr w2) {i : Nat} (hi : i < M) (y : Bool) : FN w0 (w2.setCell ⟨gs, i, none⟩ (.bool y)) gs M (seen.set i y) vn A S := by
  have h2 := h.keep hb
  exact ⟨h2.os.put (by rw [h2.lenS]; exact hi) y, OII.ok.keep h2.on fun k hk => heap_setCell_other _ _ _ _ (fun e => h.ne (by have e2 : k = gs := e; rw [← e2]; exact hk)), h.ne, h.ls, h.ln, h2.bel.setCell h.ls _⟩
theorem FN.pushed (h : FN w0 wr gs M seen vn A S) {T : List Nat} (hT : ∀ k ∈ T, w0.heap.size ≤ k ∧ k ≠ gs) {v1 : Value} {w1 : World} {S1 : List Nat} {y : List Int} (ho : OII w1 v1 (A ++ [y]) S1) (hon : Only S wr w1) (hS : ∀ k ∈ S1, k ∈ S ∨ k ∈ T ∨ wr.heap.size ≤ k) :
    FN w0 w1 gs M seen v1 (A ++ [y]) S1 := by
  refine ⟨(Own.ok oB.ok).keep h.os fun k hk => hon.block k ((Own.ok oB.ok).lt h.os k hk) ?_, ho, fun hm => ?_, h.ls, fun k hk => ?_, below_only h.bel hon h.bel.size h.ln⟩
  · have : k = gs := by simpa using hk
    rw [this]; exact h.ne
  · rcases hS gs hm with h1 | h1 | h1
    · exact h.ne h1
    · exact (hT gs h1).2 rfl
    · have := h.lt; omega
  · rcases hS k hk with h1 | h1 | h1
    · exact h.ln k h1
    · exact (hT k h1).1
    · exact Nat.le_trans h.bel.size h1
end fn
theorem FN.start (W : World) {n : Nat} (hn : n ≤ maxLen) : ∃ S, FN W ((W.alloc (.cells (madeCells #[.bool false] n) 4)).alloc (.cells #[] 22)) W.heap.size n (List.replicate n false) (.slice (some ⟨W.heap.size + 1, 0, none⟩) 0 0) [] S := by
  have h1 : OBf (W.alloc (.cells (madeCells #[.bool false] n) 4)) (.slice (some ⟨W.heap.size, 0, none⟩) n n) (List.replicate n false) [W.heap.size] := Own.made W 4 fB false n hn
  have hb := (Below.refl W.heap.size W).alloc (Nat.le_refl _) (.cells (madeCells #[.bool false] n) 4)
  have h2 := Own.emptyF 22 OI (W.alloc (.cells (madeCells #[.bool false] n) 4))
  have hb2 := hb.alloc hb.size (.cells #[] 22)
  rw [alloc_size] at h2
  exact ⟨_, (Own.ok oB.ok).keep h1 fun k hk => Below.heap_alloc _ _ k ((Own.ok oB.ok).lt h1 k hk), h2, by simp, Nat.le_refl _, by simp, hb2⟩
theorem Frn.pos {x : Chn} {i : Nat} {L : List (List Int)} (hL : Frn x i L) (hb : 0 < x.b) : 0 < L.length := by
  obtain ⟨j, hj, _⟩ := hL.full (List.replicate i 0) (by simp) (fun d hd => by have := List.eq_of_mem_replicate hd; subst this; omega)
  omega

set_option maxHeartbeats 3200000 in
set_option maxRecDepth 100000 in
theorem specFronts {B bx : Nat} {x : Chn} {w : World} (h : BoxC (· < B) w bx x) (hB : B ≤ w.heap.size) (hbx : bx < w.heap.size) (hv : VC x) (place : Nat) (hpl : place ≤ x.n) :
    Calls Try.prog 150 #[.pointer (some ⟨bx, 0, none⟩), .int .i64 place] w fun e w' => ∃ v L, e = .returned v ∧ Fresh OII w w' v L ∧ Frn x place L ∧ L.length ≤ x.S := by
  have hnat := hv.nat
  have H := Lib.hid h
  have Hv := Lib.hid hv; clear hv
  obtain ⟨a, c, a', c', g0, g1, g2, g3, g4, g5, hu, hpp, ⟨h1, h2⟩, h3, h4⟩ := h.cells
  obtain ⟨NS, hNS⟩ : ∃ n : Nat, n = x.S := ⟨_, rfl⟩
  obtain ⟨NB, hNB⟩ : ∃ n : Nat, n = x.b := ⟨_, rfl⟩
  obtain ⟨NT, hNT⟩ : ∃ n : Nat, n = x.start.toNat := ⟨_, rfl⟩
  rw [show x.base = (NB : Int) by have := Hv.out.base; rw [hNB]; show x.base = (x.base.toNat : Int); omega] at g0
  rw [show x.states = (NS : Int) by have := Hv.out.states; rw [hNS]; show x.states = (x.states.toNat : Int); omega] at g1
  rw [show x.start = (NT : Int) by have := Hv.out.start; rw [hNT]; omega] at g2
  rw [← hNS, ← hNB, ← hNT] at hnat
  have HNS := Lib.hid hNS; have HNB := Lib.hid hNB; have HNT := Lib.hid hNT
  have Hpl := Lib.hid hpl
  have hmk := run_make_row' (P := Try.prog) 126 4 (.bool false) 1 Try.underlying126 infoBf rfl .i64 .i64 NS (by omega) (by omega)
  have G0 := Lib.hid g0; have G1 := Lib.hid g1; have G2 := Lib.hid g2
  have cl := Lib.hid (fun (o : Nat) (W : World) (hb : Below w.heap.size w W) => (hb.cell (p := ⟨bx, o, none⟩) hbx))
  have hr0 := Lib.hid (show Fresh OII w ((w.alloc (.cells #[] 2)).alloc (.cells #[.slice (some ⟨w.heap.size, 0, none⟩) 0 0] 22)) (.slice (some ⟨w.heap.size + 1, 0, none⟩) 1 1) [[]] from by
    have h5 := Own.oneRow (Own.emptyF 2 oI w)
    rw [alloc_size] at h5
    have hb := (Below.refl w.heap.size w).alloc (Nat.le_refl _) (.cells #[] 2)
    exact ⟨_, h5, by simp, hb.alloc hb.size _⟩)
  have hF0 := Lib.hid (Frn.zero x)
  have hnP : place ≤ 20 := by have := hnat.2.2.2.2.2; simp only [Chn.n] at this hpl; omega
  clear hu hpp h g0 g1 g2 g3 g4 g5 h1 h2 h3 h4 hNS hNB hNT hpl
  go_enter Try.func150, Try.ntmps150
  go_wp2
  go_loopw [5, 6] (fun ov iv wr => ∃ (i : Nat) (L : List (List Int)), i ≤ place ∧ iv = .int .i64 i ∧ Hid (Fresh OII w wr ov L) ∧ Hid (Frn x i L) ∧ L.length ≤ NS) (fun _ iv _ => place - (intOf iv).toNat)
  case atStart => exact ⟨0, _, Nat.zero_le _, rfl, hr0, hF0, by simp; omega⟩
  case round =>
    clear hr0 hF0
    obtain ⟨i, L, hi, rfl, hf, hL, hLS⟩ := hrel
    obtain ⟨W3, rfl⟩ : ∃ W, W = wr := ⟨_, rfl⟩
    have Hb3 := Lib.hid hf.out.bel
    obtain ⟨go', co, rfl⟩ := hf.out.shape (hL.out.pos (by rw [← HNB.out]; omega))
    by_cases hlt : i < place
    · have e1 := (cl.out 1 W3 Hb3.out).trans G1.out
      obtain ⟨S0, hfn⟩ := FN.start W3 (n := NS) (by unfold maxLen; omega)
      have Hfn := Lib.hid hfn
      have hP0 := Lib.hid (show FrnP x i L [] (List.replicate NS false) 0 0 by rw [HNS.out]; exact FrnP.start x i L)
      have hrd := Lib.hid (show RdII (· < W3.heap.size) W3 (.slice (some ⟨go', 0, none⟩) L.length co) L from OII.leads.to _ _ _ _ _ hf.out.choose_spec.1 fun j hj => OII.ok.lt hf.out.choose_spec.1 j hj)
      obtain ⟨nL, hnL⟩ : ∃ n, n = L.length := ⟨_, rfl⟩
      have hco := hf.out.len2
      unfold maxLen at hco
      rw [← hnL] at hrd hLS hco ⊢
      have HnL := Lib.hid hnL
      have hin := Lib.hid (show i < x.n from by have := Hpl.out; omega)
      clear hfn hf hnL
      go_wp2
      clear e1
      go_loopw [8, 9] (fun nv kv wr => ∃ (k : Nat) (seen : List Bool) (A : List (List Int)) (S : List Nat), k ≤ nL ∧ kv = .int .i64 k ∧ Hid (FN W3 wr W3.heap.size NS seen nv A S) ∧ Hid (FrnP x i L A seen k 0)) (fun _ kv _ => nL - (intOf kv).toNat)
      case atStart => exact ⟨0, _, _, _, Nat.zero_le _, rfl, Hfn, hP0⟩
      case round =>
        clear Hfn hP0
        obtain ⟨k, seen, A, S, hk, rfl, hfn, hPk⟩ := hrel
        obtain ⟨W4, rfl⟩ : ∃ W, W = wr := ⟨_, rfl⟩
        obtain ⟨an, nn, cn, rfl⟩ := hfn.out.on.isSlice
        have Hb4 := Lib.hid (Hb3.out.trans (hfn.out.bel.mono Hb3.out.size))
        have hb34 := hfn.out.bel
        by_cases hkl : k < nL
        · have hkL : k < L.length := by rw [← HnL.out]; exact hkl
          have hu := Lib.hid (hL.out.all _ (nth_mem hkL))
          have e2 := (cl.out 2 W4 Hb4.out).trans G2.out
          have e0 := (cl.out 0 W4 Hb4.out).trans G0.out
          obtain ⟨b5, o5, u5, e9, hP5, hc5, hr5⟩ := Rd.elim hrd.out k hkL
          simp only [Option.some.injEq, Addr.mk.injEq, and_true] at e9
          obtain ⟨rfl, rfl⟩ := e9
          rw [Nat.zero_add] at hc5
          have hgo := cell_lt hc5
          obtain ⟨au, cu, rfl, hcu1, hcu2⟩ := hr5.isSlice
          rw [hu.out.1] at hc5 hr5 hcu1
          have hr6 := Lib.hid (fun (w2 : World) (hb : Below W3.heap.size W3 w2) => (show w2.cell? ⟨go', k, none⟩ = some (.slice au i cu) ∧ RdI (· < W3.heap.size) w2 (.slice au i cu) (nth L k) from
            ⟨(hb.cell (p := ⟨go', k, none⟩) hgo).trans hc5, RdI.ok.keep hr5 fun j hj => hb.block j hj⟩))
          replace hc5 := (hr6.out W4 hb34).1
          have Hr5 := Lib.hid (hr6.out W4 hb34).2
          unfold maxLen at hcu2
          have hrun := Lib.hid (fun m => specRun ((H.out.below Hb4.out hB hbx).draws m) Hv.out 0 x.start.toNat (RdI.ok.keep Hr5.out (w' := W4.drewN m) fun _ _ => rfl) hu.out.2 (by rw [hu.out.1]; have := hin.out; omega) (by rw [← HNT.out, ← HNS.out]; exact hnat.2.2.1))
          obtain ⟨s, hs⟩ : ∃ s, s = runN x 0 x.start.toNat (nth L k) := ⟨_, rfl⟩
          rw [← hs, ← HNT.out] at hrun
          have hsS : s < NS := by rw [hs, HNS.out]; exact Hv.out.runLt hu.out.2 (by rw [hu.out.1]; have := hin.out; omega) (by rw [← HNT.out, ← HNS.out]; exact hnat.2.2.1)
          have Hs := Lib.hid hs
          clear hs hr5
          go_wp2
          refine wp_region_quiet_lit (by kernel_rfl) (by kernel_rfl) ?_
          repeat (go_big_quiet_step (with_reducible exact quiet_draws (hrun.out _)))
          refine wpQuiet_nil ?_
          rintro _ ⟨nq, rfl⟩
          have hfn2 := Lib.hid (hfn.out.keep (bel_draws (w := W4) (m := nq) rfl))
          clear e2 hc5 hrun e0
          go_wp2
          go_loopw [8, 11] (fun nv dv wr => ∃ (d : Nat) (seen : List Bool) (A : List (List Int)) (S : List Nat), d ≤ NB ∧ dv = .int .i64 d ∧ Hid (FN W3 wr W3.heap.size NS seen nv A S) ∧ Hid (FrnP x i L A seen k d)) (fun _ dv _ => NB - (intOf dv).toNat)
          case atStart => exact ⟨0, _, _, _, Nat.zero_le _, rfl, hfn2, hPk⟩
          case round =>
            clear hfn2 hPk hfn hb34
            obtain ⟨d, seen, A, S, hd, rfl, hfn, hPk⟩ := hrel
            obtain ⟨W5, rfl⟩ : ∃ W, W = wr := ⟨_, rfl⟩
            obtain ⟨an, nn, cn, rfl⟩ := hfn.out.on.isSlice
            have hb35 := hfn.out.bel
            have Hb5 := Lib.hid (Hb3.out.trans (hfn.out.bel.mono Hb3.out.size))
            have e0 := (cl.out 0 W5 Hb5.out).trans G0.out
            by_cases hdb : d < NB
            · have hcx := Lib.hid (specNext (H.out.below Hb5.out hB hbx) Hv.out i s d hin.out (by rw [← HNS.out]; exact hsS) (by rw [← HNB.out]; exact hdb))
              have hyS : nxt x i s d < NS := by rw [HNS.out]; exact (Hv.out.cellN hin.out (by rw [← HNS.out]; exact hsS) (by rw [← HNB.out]; exact hdb)).2
              have hA := Lib.hid hPk.out.lenS
              have hskip := Lib.hid (fun h => FrnP.skip hkL (by rw [← Hs.out]; exact h) (by rw [← Hs.out, ← HNS.out]; exact hyS) hL.out hPk.out)
              have hpush := Lib.hid (fun h => FrnP.push hkL (by rw [← HNB.out]; exact hdb) (by rw [← Hs.out]; exact h) (by rw [← Hs.out, ← HNS.out]; exact hyS) hL.out hPk.out)
              rw [← Hs.out] at hpush
              have cY := hfn.out.cell hyS
              have fY := hfn.out.fr (nxt x i s d)
              have hput := Lib.hid (fun (w2 : World) (hb : Below W5.heap.size W5 w2) => hfn.out.put hb hyS true)
              have hkp := Lib.hid (fun (w2 : World) (hb : Below W5.heap.size W5 w2) => hfn.out.keep hb)
              have cR := (hr6.out W5 hb35).1
              have hne : ¬ go' = W3.heap.size := by omega
              have hsz5 := hb35.size
              clear hPk hkp
              generalize hYY : nxt x i s d = y at *
              have HYY := Lib.hid hYY; clear hYY
              cases hsy : nth seen y
              · have Hpush := Lib.hid (hpush.out hsy)
                rw [hsy] at cY
                clear hskip hpush hsy
                go_wp2_with fail
                refine (Calls.mono hcx.out ?_)
                rintro e w6 ⟨rfl, m6, rfl⟩
                have HF6 := Lib.hid (hput.out (W5.drewN m6) (bel_draws rfl))
                obtain ⟨W6, hW6⟩ : ∃ W, W = (W5.drewN m6).setCell ⟨W3.heap.size, y, none⟩ (.bool true) := ⟨_, rfl⟩
                have HW6 := Lib.hid hW6
                rw [← hW6] at HF6
                have hsz6 := HF6.out.bel.size
                have Hown := Lib.hid (specOwnF (hr6.out W6 HF6.out.bel).2 (fun j hj => by have h5 : j < W3.heap.size := hj; omega) (by rw [hu.out.1]; have := hin.out; have := hnat.2.2.2.2.2; omega))
                rw [hW6] at Hown
                clear hW6
                go_wp2_with (first
                  | (go_at_call 146; refine (Calls.mono Hown.out ?_); rintro e w7 ⟨v7, rfl, hf7⟩; obtain ⟨a7, n7, c7, rfl⟩ := hf7.choose_spec.1.isSlice; have Hf7 := Lib.hid hf7; clear hf7 Hown)
                  | (at_builtin; refine wpList_pushF rfl (.tmp 68) (.tmp 70) 22 rfl (fun _ => rfl) Try.underlying22 infoI64 rfl Hf7.out (d : Int) (by rw [hu.out.1]; omega) (by rw [hu.out.1]; unfold maxLen; omega) rfl rfl ?_; intro v8 w8 hf8; rw [← HW6.out] at hf8; obtain ⟨T8, ho8, hl8, hb8⟩ := hf8; obtain ⟨a8, n8, c8, rfl⟩ := ho8.isSlice; have Ho8 := Lib.hid ho8; have Hl8 := Lib.hid hl8; have HF8 := Lib.hid (HF6.out.keep hb8); have Hd8 := Lib.hid (show ∀ j ∈ T8, j ∉ S from fun j hj hm => by have h5 := hl8 j hj; have h6 := OII.ok.lt HF6.out.on j hm; omega); clear ho8 hl8 hb8)
                  | (at_builtin; refine wpList_push rfl (.tmp 63) (.tmp 72) 38 rfl OI.ok Try.underlying38 infoSl' rfl HF8.out.on Ho8.out Hd8.out (by have := hA.out; rw [← HNS.out] at this; omega) (by have := hA.out; rw [← HNS.out] at this; unfold maxLen; omega) rfl rfl ?_; intro v9 w9 S9 ho9 hon9 hS9; have HF9 := Lib.hid (HF8.out.pushed (fun j hj => by have h5 := Hl8.out j hj; have h6 := HF6.out.lt; omega) ho9 hon9 hS9); clear ho9 hon9 hS9))
                go_roundw
                case rel => exact ⟨d + 1, _, _, _, by omega, by go_num, HF9, Hpush⟩
                case measure => simp [intOf]; omega
              · have Hskip := Lib.hid (hskip.out hsy)
                rw [hsy] at cY
                clear hskip hpush hsy hput
                go_wp2_with fail
                refine (Calls.mono hcx.out ?_)
                rintro e w6 ⟨rfl, m6, rfl⟩
                have HF6 := Lib.hid (hfn.out.keep (bel_draws (w := W5) (m := m6) rfl))
                go_wp2
                go_roundw
                case rel => exact ⟨d + 1, _, _, _, by omega, by go_num, HF6, Hskip⟩
                case measure => simp [intOf]; omega
            · obtain ⟨hdn⟩ : Nonempty (d = NB) := ⟨by omega⟩
              have hPn := Lib.hid (hPk.out.next (by rw [hdn, HNB.out]))
              clear hdn
              go_wp2
              go_roundw
              case rel => exact ⟨k + 1, _, _, _, by omega, by go_num, hfn, hPn⟩
              case measure => simp [intOf]; omega
        · obtain ⟨hkn⟩ : Nonempty (k = nL) := ⟨by omega⟩
          have hLn := Lib.hid (show Frn x (i + 1) A ∧ A.length ≤ NS from by
            have h5 := hPk.out
            rw [hkn, HnL.out] at h5
            exact ⟨h5.done hL.out, by rw [HNS.out]; exact h5.lenS⟩)
          have hfw := Lib.hid (show Fresh OII w W4 (.slice an nn cn) A from ⟨S, hfn.out.on, fun j hj => Nat.le_trans Hb3.out.size (hfn.out.ln j hj), Hb4.out⟩)
          clear hkn hPk hfn hb34
          go_wp2
          go_roundw
          case rel => exact ⟨i + 1, A, by omega, by go_num, hfw, Lib.hid hLn.out.1, hLn.out.2⟩
          case measure => simp [intOf]; omega
    · obtain ⟨hin⟩ : Nonempty (i = place) := ⟨by omega⟩
      have hLp := Lib.hid (show Frn x place L by rw [← hin]; exact hL.out)
      clear hin
      go_wp2
      go_ret
      exact ⟨_, L, rfl, hf.out, hLp.out, by rw [← HNS.out]; exact hLS⟩
end Go.Proofs.Ytnpkanlieflbiaa
