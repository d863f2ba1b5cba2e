/- Into what phonetic errors change symbols; all kinds. -/
import Derived.Test.YtcjmkiedcmlpcaaE4
namespace Go.Proofs.Ytcjmkiedcmlpcaa
open Go.RowKit
set_option linter.unusedVariables false

theorem post5 {P : Nat → Prop} {W8 : World} {pf pd b4 o4 n c g : Nat} {cap : Array Value} {f : List Int} (hr : RdI P W8 (.slice (some ⟨b4, o4, none⟩) n c) f) (hl : 2 ≤ f.length) (h1 : W8.heap[pf]? = some (.cells #[.slice (some ⟨b4, o4, none⟩) n c] 23 (0, 0))) (h2 : W8.heap[pd]? = some (.cells #[.func (.func g) #[] cap] 95 (0, 0))) :
    (W8.cell? ⟨pf, 0, none⟩ = some (.slice (some ⟨b4, o4, none⟩) n c) ∧ W8.cell? ⟨pd, 0, none⟩ = some (.func (.func g) #[] cap)) ∧ W8.cell? ⟨b4, o4, none⟩ = some (.int .i64 (nth f 0)) ∧ W8.cell? ⟨b4, o4 + 1, none⟩ = some (.int .i64 (nth f 1)) := by
  obtain ⟨b5, o5, u5, ea, _, hc5, rfl⟩ := Rd.elim hr 0 (by omega)
  obtain ⟨b6, o6, u6, eb, _, hc6, rfl⟩ := Rd.elim hr 1 (by omega)
  simp only [Option.some.injEq, Addr.mk.injEq, and_true] at ea eb
  obtain ⟨rfl, rfl⟩ := ea
  obtain ⟨rfl, rfl⟩ := eb
  exact ⟨⟨heap_cell h1 rfl, heap_cell h2 rfl⟩, hc5, hc6⟩
theorem chg_5 (b : Nat) (f : List Int) : chg 5 b f = if nth f 1 = 0 ∧ 2 ≤ nth f 0 ∧ nth f 0 ≤ 9 then [[1, nth f 0]] else if nth f 0 = 1 ∧ 2 ≤ nth f 1 ∧ nth f 1 ≤ 9 then [[nth f 1, 0]] else [] := rfl
set_option maxHeartbeats 3200000 in
set_option maxRecDepth 100000 in
theorem implChanges5 {P : Nat → Prop} (b : Nat) (hb : 2 ≤ b ∧ b ≤ 36) {v : Value} {f : List Int} {w : World} (hl : f.length = 2) (g : Nat) (cap : Array Value) (J : List (List Int) → World → Prop)
    (hr : RdI P w v f) (hP : ∀ k, P k → k < w.heap.size) (h0 : ∀ w1, Below w.heap.size w w1 → J [] w1) (hst : ∀ d w1 w2, J d w1 → Below w.heap.size w1 w2 → J d w2) (hrd : ∀ d w1, J d w1 → RdI P w1 v f)
    (hdo : ∀ d t, (d ++ [t]) <+: chg 5 b f → ∀ v' w1, RdI (fun k => w.heap.size ≤ k ∧ k < w1.heap.size) w1 v' t → J d w1 → Calls Try.prog g (#[v'] ++ cap) w1 fun e w2 => e = .returned (.tuple #[]) ∧ J (d ++ [t]) w2 ∧ Kept w.heap.size w1 w2)
    (hc : ∀ (args : Array Value) (w : World), (callFunc g args).run Try.prog w = .ok (.enter g args) w) :
    Calls Try.prog 100 #[.int .i64 5, .int .i64 b, v, .func (.func g) #[] cap] w fun e w' => e = .returned (.tuple #[]) ∧ J (chg 5 b f) w' ∧ Kept w.heap.size w w' := by
  obtain ⟨av, cv, rfl, q1, q2⟩ := hr.isSlice
  have Hr := Lib.hid hr; clear hr
  have HP := Lib.hid hP; clear hP
  have H0 := Lib.hid h0; clear h0
  have Hst := Lib.hid hst; clear hst
  have Hrd := Lib.hid hrd; clear hrd
  have Hdo := Lib.hid hdo; clear hdo
  obtain ⟨W4, hW4⟩ : ∃ W4, W4 = (((w.alloc (.cells #[.int .i64 b] 2)).alloc (.cells #[.slice av f.length cv] 23)).alloc (.cells #[.func (.func g) #[] cap] 95)).alloc (.cells #[.int .i64 ((f.length : Int) - 1)] 3) := ⟨_, rfl⟩
  have H4 := Lib.hid (four w (.cells #[.int .i64 b] 2) (.cells #[.slice av f.length cv] 23) (.cells #[.func (.func g) #[] cap] 95) (.cells #[.int .i64 ((f.length : Int) - 1)] 3))
  rw [← hW4] at H4
  have HW4 := Lib.hid hW4; clear hW4
  unfold maxLen at q2
  have hs4 := H4.out.2.2.2.2.1
  have Hr4 := Lib.hid (RdI.ok.keep Hr.out fun k hk => H4.out.2.2.2.2.2.block k (HP.out k hk))
  obtain ⟨b4, o4, u4, ea, hP4, hc4, rfl⟩ := Rd.elim Hr4.out 0 (by omega)
  obtain ⟨b5, o5, u5, eb, _, hc5, rfl⟩ := Rd.elim Hr4.out 1 (by omega)
  subst ea
  simp only [Option.some.injEq, Addr.mk.injEq, and_true] at eb
  obtain ⟨rfl, rfl⟩ := eb
  obtain ⟨b6, o6, u6, ec, _, hc8, rfl⟩ := Rd.elim Hr.out 0 (by omega)
  obtain ⟨b7, o7, u7, ed, _, hc9, rfl⟩ := Rd.elim Hr.out 1 (by omega)
  simp only [Option.some.injEq, Addr.mk.injEq, and_true] at ec ed
  obtain ⟨rfl, rfl⟩ := ec
  obtain ⟨rfl, rfl⟩ := ed
  have hw6 : w.cell? ⟨b4, o4, none⟩ = some (.int .i64 (nth f 0)) := hc8
  have hw7 : w.cell? ⟨b4, o4 + 1, none⟩ = some (.int .i64 (nth f 1)) := hc9
  have hc6 : W4.cell? ⟨b4, o4, none⟩ = some (.int .i64 (nth f 0)) := hc4
  have hc7 : W4.cell? ⟨b4, o4 + 1, none⟩ = some (.int .i64 (nth f 1)) := hc5
  have d6 : W4.cell? ⟨w.heap.size + 1, 0, none⟩ = some (.slice (some ⟨b4, o4, none⟩) f.length cv) := heap_cell H4.out.2.1 (i := 0) rfl
  have d7 : W4.cell? ⟨w.heap.size + 1 + 1, 0, none⟩ = some (.func (.func g) #[] cap) := heap_cell H4.out.2.2.1 (i := 0) rfl
  have h0l : (0 : Int) < (f.length : Int) := by omega
  have h0n : 0 < f.length := by omega
  have h1l : (1 : Int) < (f.length : Int) := by omega
  have h1n : 1 < f.length := by omega
  have Hl := Lib.hid hl
  have hPb : b4 < w.heap.size := HP.out _ hP4
  clear hl hc4 hc5 hc8 hc9
  have hraw := (bcell2 H4.out.2.2.2.2.2).1
  rw [HW4.out] at hraw
  have Hpost := Lib.hid (fun (W8 : World) (d : List (List Int)) (hJ : J d W8) (hK : Kept w.heap.size W4 W8) => post5 (Hrd.out d W8 hJ) (by have := Hl.out; omega) (hK.heap (by omega) H4.out.2.1) (hK.heap (by omega) H4.out.2.2.1))
  have Hs4 := Lib.hid hs4; clear hs4
  by_cases c1 : nth f 1 = 0 ∧ 2 ≤ nth f 0 ∧ nth f 0 ≤ 9
  · have hpr : chg 5 b f = [[1, nth f 0]] := by rw [chg_5]; exact if_pos c1
    rw [hpr] at Hdo
    have Hpr := Lib.hid hpr; clear hpr
    have Hdo1 := Lib.hid (fun v' w1 h1 h2 => Hdo.out [] _ (List.prefix_refl _) v' w1 h1 h2)
    have hin : inB (nth f 0) 2 9 = true := inB_true.2 c1.2
    have heb : (nth f 1 == 0) = true := by simp [c1.1]
    clear c1
    go_enter Try.func100, Try.ntmps100
    go_wp2_with (go_at_call 53; refine (implIn _ _ _ _ (by assumption) _).mono ?_; rintro e w' ⟨rfl, rfl⟩)
    rw [← HW4.out]
    have hlit := Lib.hid (Own.lit W4.drew 2 fI [1, nth f 0] (by unfold maxLen; simp))
    have hfr := Lib.hid (show Fresh OI W4 (W4.drew.alloc (.cells ([1, nth f 0].map fI).toArray 2)) (.slice (some ⟨W4.heap.size, 0, none⟩) 2 2) [1, nth f 0] from ⟨_, hlit.out, by simp, (Below.drew (Below.refl W4.heap.size W4)).alloc (Nat.le_refl _) _⟩)
    have hbl := Lib.hid (show Below w.heap.size w (W4.drew.alloc (.cells ([1, nth f 0].map fI).toArray 2)) from H4.out.2.2.2.2.2.trans (hfr.out.bel.mono (by have := Hs4.out; omega)))
    have hcs := Lib.hid (show RdI (fun k => w.heap.size ≤ k ∧ k < (W4.drew.alloc (.cells ([1, nth f 0].map fI).toArray 2)).heap.size) _ (.slice (some ⟨W4.heap.size, 0, none⟩) 2 2) [1, nth f 0] from OI.leads.to _ _ _ _ _ hlit.out fun k hk => ⟨by simp at hk; have := Hs4.out; omega, OI.ok.lt hlit.out k hk⟩)
    have hkb := Lib.hid (show Kept w.heap.size W4 (W4.drew.alloc (.cells ([1, nth f 0].map fI).toArray 2)) from Kept.of_below hfr.out.bel)
    go_region_held3 (fun w' => (w'.cell? ⟨w.heap.size + 1, 0, none⟩ = some (.slice (some ⟨b4, o4, none⟩) f.length cv) ∧ w'.cell? ⟨w.heap.size + 1 + 1, 0, none⟩ = some (.func (.func g) #[] cap)) ∧ w'.cell? ⟨b4, o4, none⟩ = some (.int .i64 (nth f 0))) (first | go_keep | exact ⟨s1, s2⟩) (first
      | (refine (Calls.mono (Hdo1.out _ _ hcs.out (H0.out _ hbl.out)) ?_); rintro e W8 ⟨rfl, hJ8, hK8⟩; have HJ8 := Lib.hid hJ8; have HK8 := Lib.hid hK8; obtain ⟨s1, s2, s3⟩ := Hpost.out W8 _ hJ8 (hkb.out.trans hK8); clear hJ8 hK8)
      | fail)
    clear s1 s2 s3
    go_wp2
    go_end0
    exact ⟨rfl, by rw [Hpr.out]; exact HJ8.out, (Kept.of_below hbl.out).trans HK8.out⟩
  · by_cases c2 : nth f 0 = 1 ∧ 2 ≤ nth f 1 ∧ nth f 1 ≤ 9
    · have hpr : chg 5 b f = [[nth f 1, 0]] := by rw [chg_5]; rw [if_neg c1, if_pos c2]
      rw [hpr] at Hdo
      have Hpr := Lib.hid hpr; clear hpr
      have Hdo1 := Lib.hid (fun v' w1 h1 h2 => Hdo.out [] _ (List.prefix_refl _) v' w1 h1 h2)
      have hin : inB (nth f 1) 2 9 = true := inB_true.2 c2.2
      have heb : (nth f 1 == 0) = false := by simp; omega
      have heb2 : (nth f 0 == 1) = true := by simp [c2.1]
      clear c1 c2
      go_enter Try.func100, Try.ntmps100
      go_wp2_with (go_at_call 53; refine (implIn _ _ _ _ (by assumption) _).mono ?_; rintro e w' ⟨rfl, rfl⟩)
      rw [← HW4.out]
      have hlit := Lib.hid (Own.lit W4.drew 2 fI [nth f 1, 0] (by unfold maxLen; simp))
      have hfr := Lib.hid (show Fresh OI W4 (W4.drew.alloc (.cells ([nth f 1, 0].map fI).toArray 2)) (.slice (some ⟨W4.heap.size, 0, none⟩) 2 2) [nth f 1, 0] from ⟨_, hlit.out, by simp, (Below.drew (Below.refl W4.heap.size W4)).alloc (Nat.le_refl _) _⟩)
      have hbl := Lib.hid (show Below w.heap.size w (W4.drew.alloc (.cells ([nth f 1, 0].map fI).toArray 2)) from H4.out.2.2.2.2.2.trans (hfr.out.bel.mono (by have := Hs4.out; omega)))
      have hcs := Lib.hid (show RdI (fun k => w.heap.size ≤ k ∧ k < (W4.drew.alloc (.cells ([nth f 1, 0].map fI).toArray 2)).heap.size) _ (.slice (some ⟨W4.heap.size, 0, none⟩) 2 2) [nth f 1, 0] from OI.leads.to _ _ _ _ _ hlit.out fun k hk => ⟨by simp at hk; have := Hs4.out; omega, OI.ok.lt hlit.out k hk⟩)
      have hkb := Lib.hid (show Kept w.heap.size W4 (W4.drew.alloc (.cells ([nth f 1, 0].map fI).toArray 2)) from Kept.of_below hfr.out.bel)
      go_region_held3 (fun w' => (w'.cell? ⟨w.heap.size + 1, 0, none⟩ = some (.slice (some ⟨b4, o4, none⟩) f.length cv) ∧ w'.cell? ⟨w.heap.size + 1 + 1, 0, none⟩ = some (.func (.func g) #[] cap)) ∧ w'.cell? ⟨b4, o4 + 1, none⟩ = some (.int .i64 (nth f 1))) (first | go_keep | exact ⟨s1, s3⟩) (first
        | (refine (Calls.mono (Hdo1.out _ _ hcs.out (H0.out _ hbl.out)) ?_); rintro e W8 ⟨rfl, hJ8, hK8⟩; have HJ8 := Lib.hid hJ8; have HK8 := Lib.hid hK8; obtain ⟨s1, s2, s3⟩ := Hpost.out W8 _ hJ8 (hkb.out.trans hK8); clear hJ8 hK8)
        | fail)
      clear s1 s2 s3
      go_wp2
      go_end0
      exact ⟨rfl, by rw [Hpr.out]; exact HJ8.out, (Kept.of_below hbl.out).trans HK8.out⟩
    · have hpr : chg 5 b f = [] := by rw [chg_5]; rw [if_neg c1, if_neg c2]
      have Hpr := Lib.hid hpr; clear hpr
      have hJ4 := Lib.hid (H0.out W4 H4.out.2.2.2.2.2)
      have hk4 := Lib.hid (Kept.of_below (M := w.heap.size) H4.out.2.2.2.2.2)
      by_cases z1 : nth f 1 = 0
      · have hin : inB (nth f 0) 2 9 = false := by rw [inB_false]; omega
        have hin2 : inB (nth f 1) 2 9 = false := by rw [inB_false]; omega
        have heb : (nth f 1 == 0) = true := by simp [z1]
        by_cases z0 : nth f 0 = 1
        · have heb2 : (nth f 0 == 1) = true := by simp [z0]
          clear c1 c2 z1 z0
          go_enter Try.func100, Try.ntmps100
          go_wp2_with (go_at_call 53; refine (implIn _ _ _ _ (by assumption) _).mono ?_; rintro e w' ⟨rfl, rfl⟩)
          rw [← HW4.out]
          go_end0
          exact ⟨rfl, by rw [Hpr.out]; exact hJ4.out, hk4.out⟩
        · have heb2 : (nth f 0 == 1) = false := by simp [z0]
          clear c1 c2 z1 z0
          go_enter Try.func100, Try.ntmps100
          go_wp2_with (go_at_call 53; refine (implIn _ _ _ _ (by assumption) _).mono ?_; rintro e w' ⟨rfl, rfl⟩)
          rw [← HW4.out]
          go_end0
          exact ⟨rfl, by rw [Hpr.out]; exact hJ4.out, hk4.out⟩
      · have heb : (nth f 1 == 0) = false := by simp [z1]
        by_cases z0 : nth f 0 = 1
        · have hin2 : inB (nth f 1) 2 9 = false := by rw [inB_false]; omega
          have heb2 : (nth f 0 == 1) = true := by simp [z0]
          clear c1 c2 z1 z0
          go_enter Try.func100, Try.ntmps100
          go_wp2_with (go_at_call 53; refine (implIn _ _ _ _ (by assumption) _).mono ?_; rintro e w' ⟨rfl, rfl⟩)
          rw [← HW4.out]
          go_end0
          exact ⟨rfl, by rw [Hpr.out]; exact hJ4.out, hk4.out⟩
        · have heb2 : (nth f 0 == 1) = false := by simp [z0]
          clear c1 c2 z1 z0
          go_enter Try.func100, Try.ntmps100
          go_wp2_with (go_at_call 53; refine (implIn _ _ _ _ (by assumption) _).mono ?_; rintro e w' ⟨rfl, rfl⟩)
          rw [← HW4.out]
          go_end0
          exact ⟨rfl, by rw [Hpr.out]; exact hJ4.out, hk4.out⟩

theorem implChanges {P : Nat → Prop} (kind : Int) (hkd : 0 ≤ kind ∧ kind ≤ 5) (b : Nat) (hb : 2 ≤ b ∧ b ≤ 36) {v : Value} {f : List Int} {w : World} (hl : f.length = errLen kind) (g : Nat) (cap : Array Value) (J : List (List Int) → World → Prop)
    (hr : RdI P w v f) (hP : ∀ k, P k → k < w.heap.size) (h0 : ∀ w1, Below w.heap.size w w1 → J [] w1) (hst : ∀ d w1 w2, J d w1 → Below w.heap.size w1 w2 → J d w2) (hrd : ∀ d w1, J d w1 → RdI P w1 v f)
    (hdo : ∀ d t, (d ++ [t]) <+: chg kind b f → ∀ v' w1, RdI (fun k => w.heap.size ≤ k ∧ k < w1.heap.size) w1 v' t → J d w1 → Calls Try.prog g (#[v'] ++ cap) w1 fun e w2 => e = .returned (.tuple #[]) ∧ J (d ++ [t]) w2 ∧ Kept w.heap.size w1 w2)
    (hc : ∀ (args : Array Value) (w : World), (callFunc g args).run Try.prog w = .ok (.enter g args) w) :
    Calls Try.prog 100 #[.int .i64 kind, .int .i64 b, v, .func (.func g) #[] cap] w fun e w' => e = .returned (.tuple #[]) ∧ J (chg kind b f) w' ∧ Kept w.heap.size w w' := by
  have hk : kind = 0 ∨ kind = 1 ∨ kind = 2 ∨ kind = 3 ∨ kind = 4 ∨ kind = 5 := by omega
  rcases hk with rfl | rfl | rfl | rfl | rfl | rfl
  · exact implChanges0 b hb hl g cap J hr hP h0 hst hrd hdo hc
  · exact implChanges1 1 (.inl rfl) b hb 1 hl (by omega) (by omega) g cap J hr hP h0 hst hrd hdo hc
  · exact implChanges1 2 (.inr rfl) b hb 2 hl (by omega) (by omega) g cap J hr hP h0 hst hrd hdo hc
  · exact implChanges3 3 (.inl rfl) b hb 1 hl (by omega) (by omega) g cap J hr hP h0 hst hrd hdo hc
  · exact implChanges3 4 (.inr rfl) b hb 2 hl (by omega) (by omega) g cap J hr hP h0 hst hrd hdo hc
  · exact implChanges5 b hb hl g cap J hr hP h0 hst hrd hdo hc
end Go.Proofs.Ytcjmkiedcmlpcaa
