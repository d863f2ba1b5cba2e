/- A drawn quasigroup: spec.l04DrawSized and spec.R8Table, walked. Printed by gen_g4.py. -/
import Derived.Test.YthomdggbmjknnaaG3
namespace Go.Proofs.Ythomdggbmjknnaa
open Go.RowKit
set_option linter.unusedVariables false

theorem TabDr.start {B b A : Nat} {w w1 : World} {v : Value} {t : List (List Int)} (h : Src B w b A) (hf : Fresh OII w w1 v t) : TabDr B b A w w1 v t := by
  obtain ⟨S, h1, h2, h3⟩ := hf
  have hb := h.lt
  have h0 := h.1
  exact ⟨⟨S, h1, h2⟩, h.keep fun k hk => h3.block k (by omega), ⟨h3.os, h3.tape, h3.output, h3.size, fun k hk _ => h3.block k hk⟩⟩
def spF (n a b : Int) (x y : Nat) : Int := (a * x + b * y) % n
theorem spMul {a n : Int} {x : Nat} (h1 : 1 ≤ a) (h2 : a ≤ n) (hn : n ≤ 10) (hx : (x : Int) ≤ 10) : 0 ≤ a * x ∧ a * x ≤ 100 := by
  have h3 : (0 : Int) ≤ x := by omega
  refine ⟨Int.mul_nonneg (by omega) h3, ?_⟩
  have h4 : a * (x : Int) ≤ 10 * 10 := Int.mul_le_mul (by omega) (by omega) h3 (by omega)
  omega

set_option maxHeartbeats 3200000 in
set_option maxRecDepth 100000 in
theorem specDrawQ {B b A : Nat} {w : World} (h : Src B w b A) (hA : A ≤ 100000000) (n : Nat) (hn1 : 1 ≤ n) (hn2 : n ≤ 10) :
    Calls Try.prog 41 #[.pointer (some ⟨b, 0, none⟩), .int .i64 n] w fun e w' => ∃ v t, e = .returned v ∧ TabDr B b (A + 100) w w' v t ∧ QN n t := by
  have hb := h.lt
  have H := Lib.hid h; clear h
  go_enter Try.func41, Try.ntmps41
  go_wp2_with fail
  refine (specBlank n (by omega) _).mono ?_
  rintro e w1 ⟨v1, rfl, hf⟩
  obtain ⟨gt, ct, rfl⟩ := hf.shape (by simp [zeros]; omega)
  rw [show (zeros n).length = n by simp [zeros]] at *
  have hl := hf.len2
  rw [show (zeros n).length = n by simp [zeros]] at hl
  unfold maxLen at hl
  have H1 := Lib.hid (TabDr.start H.out hf); clear hf
  go_wp2_with fail
  refine (srcPick H1.out.src (by omega) _ (by omega)).mono ?_
  rintro e w2 ⟨⟨z1, hz1, rfl⟩, hs2, ho2⟩
  have H2 := Lib.hid (H1.out.ask hb hs2 ho2); clear hs2 ho2
  obtain ⟨a, rfl⟩ : ∃ q, z1 = q - 1 := ⟨z1 + 1, by omega⟩
  have ha : 1 ≤ a ∧ a ≤ n := by
    have := hz1.1
    by_cases h : (n : Int) ≤ 1
    · have := hz1.2.2 h; omega
    · have := hz1.2.1 (by omega); omega
  have m1 : (1 : Int) + (a - 1) = a := by omega
  clear hz1
  go_wp2_with fail
  clear m1
  refine (srcPick H2.out.src (by omega) _ (by omega)).mono ?_
  rintro e w3 ⟨⟨z2, hz2, rfl⟩, hs3, ho3⟩
  have H3 := Lib.hid (H2.out.ask hb hs3 ho3); clear hs3 ho3
  obtain ⟨c, rfl⟩ : ∃ q, z2 = q - 1 := ⟨z2 + 1, by omega⟩
  have hc : 1 ≤ c ∧ c ≤ n := by
    have := hz2.1
    by_cases h : (n : Int) ≤ 1
    · have := hz2.2.2 h; omega
    · have := hz2.2.1 (by omega); omega
  have m1 : (1 : Int) + (c - 1) = c := by omega
  clear hz2
  obtain ⟨C, hC⟩ : ∃ C, C = cutW w3 w.heap.size := ⟨_, rfl⟩
  have Hf := Lib.hid H3.out.fresh
  have HCb := Lib.hid (fun w2 v2 t2 (hf : Fresh OII (cutW w3 w.heap.size) w2 v2 t2) => H3.out.back hb hf)
  rw [← hC] at Hf HCb
  clear hC H H1 H2 H3
  go_wp2_with fail
  clear m1
  go_loopw [8] (fun i wr => ∃ k : Nat, k ≤ n ∧ i = .int .i64 k ∧ ∃ t, Hid (Filled n (spF n a c) k 0 t) ∧ Hid (Fresh OII C wr (.slice (some ⟨gt, 0, none⟩) n ct) t)) (fun i _ => n - (intOf i).toNat)
  case atStart => exact ⟨0, Nat.zero_le _, rfl, _, Lib.hid (Filled.start n _ (zeros_sq n)), Hf⟩
  case round =>
    obtain ⟨x, hk, rfl, t, ht, hf⟩ := hrel
    by_cases hlt : x < n
    · have m1 := spMul (x := x) ha.1 ha.2 (by omega) (by omega)
      go_wp2
      go_loopw [9] (fun i wr => ∃ k : Nat, k ≤ n ∧ i = .int .i64 k ∧ ∃ t, Hid (Filled n (spF n a c) x k t) ∧ Hid (Fresh OII C wr (.slice (some ⟨gt, 0, none⟩) n ct) t)) (fun i _ => n - (intOf i).toNat)
      case atStart => exact ⟨0, Nat.zero_le _, rfl, _, ht, hf⟩
      case round =>
        obtain ⟨y, hky, rfl, t, ht, hf⟩ := hrel
        by_cases hlty : y < n
        · have m2 := spMul (x := y) hc.1 hc.2 (by omega) (by omega)
          obtain ⟨gx, cx, hcl, g3, g4, hc2, hfz, hge, hput⟩ := hf.out.put2 (x := x) (y := y) (by rw [ht.out.1.1]; exact hlt) (by rw [ht.out.1.2 x hlt]; exact hlty)
          rw [ht.out.1.2 x hlt] at hcl g3
          unfold maxLen at g4
          have Hput := Lib.hid hput
          clear hput
          have hm := Int.emod_nonneg (a * x + c * y) (show (n : Int) ≠ 0 by omega)
          have hm2 := Int.emod_lt_of_pos (a * x + c * y) (show 0 < (n : Int) by omega)
          go_wp2
          go_region
          all_goals go_wp2
          all_goals go_roundw
          all_goals first
            | exact ⟨y + 1, by omega, by go_num, _, Lib.hid (ht.out.more hlt hlty rfl), Lib.hid (Hput.out _ (below_draws ⟨_, rfl⟩) _)⟩
            | (simp [intOf]; omega)
        · obtain rfl : y = n := by omega
          have ht2 := Lib.hid ht.out.next
          go_wp2
          go_roundw
          case rel => exact ⟨x + 1, by omega, by go_num, t, ht2, hf⟩
          case measure => simp [intOf]; omega
    · obtain rfl : x = n := by omega
      have e : t = tab x (spF x a c) := ht.out.whole
      subst e
      have hrd := Lib.hid (hf.out.rd OII.leads OII.ok)
      cases hq : isQ (tab x (spF x a c))
      · go_wp2_with fail
        refine (specL04Is hrd.out (Nat.le_refl _)).mono ?_
        rw [hq]
        rintro e w2 ⟨rfl, hb2⟩
        have Hf5 := Lib.hid (hf.out.stay OII.ok hb2)
        have Hst := Lib.hid (Filled.start x (fun p q => (((p + q) % x : Nat) : Int)) (tab_sq x (spF x a c)))
        clear hrd hf hb2 Hf hq ht
        obtain ⟨n, rfl⟩ : ∃ n, n = x := ⟨_, rfl⟩
        obtain ⟨W2, rfl⟩ : ∃ W2, W2 = w2 := ⟨_, rfl⟩
        go_wp2_with fail
        go_loopw [10] (fun i wr => ∃ k : Nat, k ≤ n ∧ i = .int .i64 k ∧ ∃ t, Hid (Filled n (fun p q => (((p + q) % n : Nat) : Int)) k 0 t) ∧ Hid (Fresh OII C wr (.slice (some ⟨gt, 0, none⟩) n ct) t)) (fun i _ => n - (intOf i).toNat)
        case atStart => exact ⟨0, Nat.zero_le _, rfl, _, Hst, Hf5⟩
        case round =>
          clear Hst Hf5 hlt
          obtain ⟨x, hk, rfl, t, ht, hf⟩ := hrel
          obtain ⟨W3, rfl⟩ : ∃ W3, W3 = wr := ⟨_, rfl⟩
          by_cases hlt : x < n
          · go_wp2
            go_loopw [11] (fun i wr => ∃ k : Nat, k ≤ n ∧ i = .int .i64 k ∧ ∃ t, Hid (Filled n (fun p q => (((p + q) % n : Nat) : Int)) x k t) ∧ Hid (Fresh OII C wr (.slice (some ⟨gt, 0, none⟩) n ct) t)) (fun i _ => n - (intOf i).toNat)
            case atStart => exact ⟨0, Nat.zero_le _, rfl, _, ht, hf⟩
            case round =>
              obtain ⟨y, hky, rfl, t, ht, hf⟩ := hrel
              obtain ⟨W4, rfl⟩ : ∃ W4, W4 = wr := ⟨_, rfl⟩
              by_cases hlty : y < n
              · obtain ⟨gx, cx, hcl, g3, g4, hc2, hfz, hge, hput⟩ := hf.out.put2 (x := x) (y := y) (by rw [ht.out.1.1]; exact hlt) (by rw [ht.out.1.2 x hlt]; exact hlty)
                rw [ht.out.1.2 x hlt] at hcl g3
                unfold maxLen at g4
                have Hput := Lib.hid hput
                clear hput
                have hm := Int.emod_nonneg ((x : Int) + y) (show (n : Int) ≠ 0 by omega)
                have hm2 := Int.emod_lt_of_pos ((x : Int) + y) (show 0 < (n : Int) by omega)
                go_wp2
                go_region
                all_goals go_wp2
                all_goals go_roundw
                all_goals first
                  | exact ⟨y + 1, by omega, by go_num, _, Lib.hid (ht.out.more hlt hlty (by push_cast; rfl)), Lib.hid (Hput.out _ (below_draws ⟨_, rfl⟩) _)⟩
                  | (simp [intOf]; omega)
              · obtain rfl : y = n := by omega
                have ht2 := Lib.hid ht.out.next
                go_wp2
                go_roundw
                case rel => exact ⟨x + 1, by omega, by go_num, t, ht2, hf⟩
                case measure => simp [intOf]; omega
          · obtain rfl : x = n := by omega
            have e : t = tab x (fun p q => (((p + q) % x : Nat) : Int)) := ht.out.whole
            subst e
            have Hq := Lib.hid (add_QN (n := x) (by omega) (by omega))
            clear ht
            obtain ⟨n, rfl⟩ : ∃ n, n = x := ⟨_, rfl⟩
            have Ht := Lib.hid (HCb.out _ _ _ hf.out)
            have Hi := Lib.hid Hq.out.is
            clear HCb
            go_wp2_with fail
            refine (srcOne Ht.out.src (by omega) _ (by omega)).mono ?_
            rintro e w5 ⟨⟨r, rfl⟩, hs5, ho5⟩
            have H5 := Lib.hid (Ht.out.ask hb hs5 ho5); clear hs5 ho5
            cases r
            · go_wp2_with fail
              go_ret
              exact ⟨_, _, rfl, H5.out.more (by omega), Hq.out⟩
            · have hb5 : b < w5.heap.size := H5.out.src.lt
              go_wp2_with fail
              refine (srcOrder4 H5.out.src (by omega) n (by omega) (by omega)).mono ?_
              rintro e w6 ⟨v6, rs, rfl, hd6, hr6⟩
              have hb6 : b < w6.heap.size := hd6.src.lt
              have H6 := Lib.hid (H5.out.ask hb hd6.src hd6.only)
              obtain ⟨g6, c6, rfl, q6⟩ := drawn_shape hd6 (by rw [hr6.1]; omega)
              have Hd6 := Lib.hid hd6
              have Hr6 := Lib.hid hr6
              clear hd6 hr6
              go_wp2_with fail
              refine (srcOrder4 Hd6.out.src (by omega) n (by omega) (by omega)).mono ?_
              rintro e w7 ⟨v7, cs, rfl, hd7, hr7⟩
              have hb7 : b < w7.heap.size := hd7.src.lt
              have H7 := Lib.hid (H6.out.ask hb hd7.src hd7.only)
              have Hd6b := Lib.hid (Hd6.out.ask hb5 hd7.src hd7.only)
              obtain ⟨g7, c7, rfl, q7⟩ := drawn_shape hd7 (by rw [hr7.1]; omega)
              have Hd7 := Lib.hid hd7
              have Hr7 := Lib.hid hr7
              clear hd7 hr7
              go_wp2_with fail
              refine (srcOrder4 Hd7.out.src (by omega) n (by omega) (by omega)).mono ?_
              rintro e w8 ⟨v8, vs, rfl, hd8, hr8⟩
              have H8 := Lib.hid (H7.out.ask hb hd8.src hd8.only)
              have Hd6c := Lib.hid (Hd6b.out.ask hb5 hd8.src hd8.only)
              have Hd7b := Lib.hid (Hd7.out.ask hb6 hd8.src hd8.only)
              obtain ⟨g8, c8, rfl, q8⟩ := drawn_shape hd8 (by rw [hr8.1]; omega)
              have Hd8 := Lib.hid hd8
              have Hr8 := Lib.hid hr8
              clear hd8 hr8
              go_wp2_with fail
              refine (specRename (B := w8.heap.size) H8.out.rd Hd6c.out.rd Hd7b.out.rd Hd8.out.rd (Nat.le_refl _) Hi.out (Hr6.out.ordN Hq.out.sq.1 (by omega) (by omega)) (Hr7.out.ordN Hq.out.sq.1 (by omega) (by omega)) (Hr8.out.ordN Hq.out.sq.1 (by omega) (by omega))).mono ?_
              rintro e w9 ⟨v9, rfl, hf9⟩
              have Hz := Lib.hid ((H8.out.other hf9).more (show _ ≤ A + 100 by omega))
              have Hzq := Lib.hid (ren_QN Hq.out Hr6.out Hr7.out Hr8.out)
              clear hf9
              go_wp2_with fail
              go_ret
              exact ⟨_, _, rfl, Hz.out, Hzq.out⟩
      · have Hq : Hid (QN x (tab x (spF x a c))) := Lib.hid (by have h := QN.of hq; rw [(tab_sq x (spF x a c)).1] at h; exact h)
        go_wp2_with fail
        refine (specL04Is hrd.out (Nat.le_refl _)).mono ?_
        rw [hq]
        rintro e w2 ⟨rfl, hb2⟩
        have Hf5 := Lib.hid (hf.out.stay OII.ok hb2)
        clear hrd hf hb2 Hf hq ht
        obtain ⟨n, rfl⟩ : ∃ n, n = x := ⟨_, rfl⟩
        have Ht := Lib.hid (HCb.out _ _ _ Hf5.out)
        have Hi := Lib.hid Hq.out.is
        clear HCb
        go_wp2_with fail
        refine (srcOne Ht.out.src (by omega) _ (by omega)).mono ?_
        rintro e w5 ⟨⟨r, rfl⟩, hs5, ho5⟩
        have H5 := Lib.hid (Ht.out.ask hb hs5 ho5); clear hs5 ho5
        cases r
        · go_wp2_with fail
          go_ret
          exact ⟨_, _, rfl, H5.out.more (by omega), Hq.out⟩
        · have hb5 : b < w5.heap.size := H5.out.src.lt
          go_wp2_with fail
          refine (srcOrder4 H5.out.src (by omega) n (by omega) (by omega)).mono ?_
          rintro e w6 ⟨v6, rs, rfl, hd6, hr6⟩
          have hb6 : b < w6.heap.size := hd6.src.lt
          have H6 := Lib.hid (H5.out.ask hb hd6.src hd6.only)
          obtain ⟨g6, c6, rfl, q6⟩ := drawn_shape hd6 (by rw [hr6.1]; omega)
          have Hd6 := Lib.hid hd6
          have Hr6 := Lib.hid hr6
          clear hd6 hr6
          go_wp2_with fail
          refine (srcOrder4 Hd6.out.src (by omega) n (by omega) (by omega)).mono ?_
          rintro e w7 ⟨v7, cs, rfl, hd7, hr7⟩
          have hb7 : b < w7.heap.size := hd7.src.lt
          have H7 := Lib.hid (H6.out.ask hb hd7.src hd7.only)
          have Hd6b := Lib.hid (Hd6.out.ask hb5 hd7.src hd7.only)
          obtain ⟨g7, c7, rfl, q7⟩ := drawn_shape hd7 (by rw [hr7.1]; omega)
          have Hd7 := Lib.hid hd7
          have Hr7 := Lib.hid hr7
          clear hd7 hr7
          go_wp2_with fail
          refine (srcOrder4 Hd7.out.src (by omega) n (by omega) (by omega)).mono ?_
          rintro e w8 ⟨v8, vs, rfl, hd8, hr8⟩
          have H8 := Lib.hid (H7.out.ask hb hd8.src hd8.only)
          have Hd6c := Lib.hid (Hd6b.out.ask hb5 hd8.src hd8.only)
          have Hd7b := Lib.hid (Hd7.out.ask hb6 hd8.src hd8.only)
          obtain ⟨g8, c8, rfl, q8⟩ := drawn_shape hd8 (by rw [hr8.1]; omega)
          have Hd8 := Lib.hid hd8
          have Hr8 := Lib.hid hr8
          clear hd8 hr8
          go_wp2_with fail
          refine (specRename (B := w8.heap.size) H8.out.rd Hd6c.out.rd Hd7b.out.rd Hd8.out.rd (Nat.le_refl _) Hi.out (Hr6.out.ordN Hq.out.sq.1 (by omega) (by omega)) (Hr7.out.ordN Hq.out.sq.1 (by omega) (by omega)) (Hr8.out.ordN Hq.out.sq.1 (by omega) (by omega))).mono ?_
          rintro e w9 ⟨v9, rfl, hf9⟩
          have Hz := Lib.hid ((H8.out.other hf9).more (show _ ≤ A + 100 by omega))
          have Hzq := Lib.hid (ren_QN Hq.out Hr6.out Hr7.out Hr8.out)
          clear hf9
          go_wp2_with fail
          go_ret
          exact ⟨_, _, rfl, Hz.out, Hzq.out⟩

set_option maxHeartbeats 1600000 in
set_option maxRecDepth 100000 in
theorem specR8Table {B : Nat} {w : World} {v : Value} {zs : List UInt8} (h : Rd rY (· < B) w v zs) (hB : B ≤ w.heap.size) :
    Calls Try.prog 17 #[v] w fun e w' => ∃ (v' : Value) (n : Nat) (t : List (List Int)), e = .returned v' ∧ n ≤ 7 ∧ QN n t ∧ Fresh OII w w' v' t := by
  have H0 := Lib.hid h; clear h
  go_enter Try.func17, Try.ntmps17
  go_wp2_with fail
  refine (srcFrom H0.out (by omega)).mono ?_
  rintro e w1 ⟨rfl, hs1, hb1, hz1⟩
  have Hs1 := Lib.hid hs1
  have Hb1 := Lib.hid hb1
  obtain ⟨b, hb⟩ : ∃ b, b = w.heap.size := ⟨_, rfl⟩
  rw [← hb] at Hs1 ⊢
  have Hbb := Lib.hid hb
  have Hzz := Lib.hid hz1
  clear hs1 hb1 H0 hb hz1
  go_wp2_with fail
  refine (srcPick Hs1.out (by omega) 7 (by omega)).mono ?_
  rintro e w2 ⟨⟨z1, hz1, rfl⟩, hs2, ho2⟩
  obtain ⟨N, rfl⟩ : ∃ q, z1 = q - 1 := ⟨z1 + 1, by omega⟩
  have hn : 1 ≤ N ∧ N ≤ 7 := by have := hz1.1; have := hz1.2.1 (by omega); omega
  have m1 : (1 : Int) + (N - 1) = N := by omega
  have Hs2 := Lib.hid (hs2.more (show _ ≤ 10 by omega))
  have Hb2 := Lib.hid (below_only Hb1.out ho2 (by have := Hzz.out; omega) (by have := Hbb.out; simp; omega))
  have hsz2 := Hb2.out.size
  clear hz1 hs2 ho2 Hs1 Hb1
  go_wp2_with fail
  clear m1
  obtain ⟨n, rfl⟩ := Int.eq_ofNat_of_zero_le (show 0 ≤ N by omega)
  refine (specDrawQ Hs2.out (by omega) n (by omega) (by omega)).mono ?_
  rintro e w3 ⟨v3, t, rfl, hd, hq⟩
  have hz : Fresh OII w w3 v3 t := by
    obtain ⟨S, g1, g2⟩ := hd.own
    have hbl : Below w.heap.size w w3 := below_only Hb2.out hd.only (by omega) (by intro k hk; have := Hbb.out; simp at hk; omega)
    exact ⟨S, g1, fun k hk => by have := g2 k hk; omega, hbl⟩
  have Hz := Lib.hid hz
  have Hq := Lib.hid hq
  clear hd hq hz
  go_wp2_with fail
  go_ret
  exact ⟨_, n, t, rfl, by omega, Hq.out, Hz.out⟩
end Go.Proofs.Ythomdggbmjknnaa
