/- Into what an error of each kind changes symbols, walked. -/
import Derived.Test.YtcjmkiedcmlpcaaE3
namespace Go.Proofs.Ytcjmkiedcmlpcaa
open Go.RowKit
set_option linter.unusedVariables false

theorem eachL_prefix (f : List Int) (mk : Nat → List Int) {c b : Nat} (h : c ≤ b) : eachL f mk c <+: eachL f mk b := by
  induction b with
  | zero => obtain rfl : c = 0 := by omega
            exact List.prefix_refl _
  | succ b ih =>
    by_cases e : c = b + 1
    · subst e; exact List.prefix_refl _
    · refine List.IsPrefix.trans (ih (by omega)) ?_
      by_cases h2 : (b : Int) = nth f 0
      · rw [eachL_no h2]; exact List.prefix_refl _
      · rw [eachL_yes h2]; exact List.prefix_append _ _
theorem each_pre (f : List Int) (mk : Nat → List Int) {c b : Nat} (h : c < b) (hne : (c : Int) ≠ nth f 0) : eachL f mk c ++ [mk c] <+: eachL f mk b := by
  rw [← eachL_yes hne]; exact eachL_prefix f mk h
theorem chg_0 (b : Nat) (f : List Int) : chg 0 b f = eachL f (fun c => [(c : Int)]) b := rfl

set_option maxHeartbeats 3200000 in
set_option maxRecDepth 100000 in
theorem implChanges0 {P : Nat → Prop} (b : Nat) (hb : 2 ≤ b ∧ b ≤ 36) {v : Value} {f : List Int} {w : World} (hl : f.length = 1) (g : Nat) (cap : Array Value) (J : List (List Int) → World → Prop)
    (hr : RdI P w v f) (hP : ∀ k, P k → k < w.heap.size) (h0 : ∀ w1, Below w.heap.size w w1 → J [] w1) (hst : ∀ d w1 w2, J d w1 → Below w.heap.size w1 w2 → J d w2) (hrd : ∀ d w1, J d w1 → RdI P w1 v f)
    (hdo : ∀ d t, (d ++ [t]) <+: chg 0 b f → ∀ v' w1, RdI (fun k => w.heap.size ≤ k ∧ k < w1.heap.size) w1 v' t → J d w1 → Calls Try.prog g (#[v'] ++ cap) w1 fun e w2 => e = .returned (.tuple #[]) ∧ J (d ++ [t]) w2 ∧ Kept w.heap.size w1 w2)
    (hc : ∀ (args : Array Value) (w : World), (callFunc g args).run Try.prog w = .ok (.enter g args) w) :
    Calls Try.prog 100 #[.int .i64 0, .int .i64 b, v, .func (.func g) #[] cap] w fun e w' => e = .returned (.tuple #[]) ∧ J (chg 0 b f) w' ∧ Kept w.heap.size w w' := by
  obtain ⟨av, cv, rfl, q1, q2⟩ := hr.isSlice
  have Hr := Lib.hid hr; clear hr
  have HP := Lib.hid hP; clear hP
  have H0 := Lib.hid h0; clear h0
  have Hst := Lib.hid hst; clear hst
  have Hrd := Lib.hid hrd; clear hrd
  have Hdo := Lib.hid hdo; clear hdo
  obtain ⟨W4, hW4⟩ : ∃ W4, W4 = (((w.alloc (.cells #[.int .i64 b] 2)).alloc (.cells #[.slice av f.length cv] 23)).alloc (.cells #[.func (.func g) #[] cap] 95)).alloc (.cells #[.int .i64 ((f.length : Int) - 1)] 3) := ⟨_, rfl⟩
  have H4 := Lib.hid (four w (.cells #[.int .i64 b] 2) (.cells #[.slice av f.length cv] 23) (.cells #[.func (.func g) #[] cap] 95) (.cells #[.int .i64 ((f.length : Int) - 1)] 3))
  rw [← hW4] at H4
  have HW4 := Lib.hid hW4; clear hW4
  unfold maxLen at q2
  have hl1 : 1 ≤ f.length := by omega
  have Hl := Lib.hid hl; clear hl
  go_enter Try.func100, Try.ntmps100
  go_wp2_with fail
  rw [← HW4.out]
  have hs4 := H4.out.2.2.2.2.1
  have hE := implEach (M := w.heap.size) (pb := w.heap.size) (pf := w.heap.size + 1) (pd := w.heap.size + 1 + 1) (g := g) (gm := 123) (b := b) (cap := cap) (capm := #[]) (v := .slice av f.length cv) (f := f) (P := P) (w := W4) (fun c => [(c : Int)]) J ⟨Nat.le_refl _, by omega, by omega⟩ (by omega) H4.out.1 H4.out.2.1 H4.out.2.2.1 hb.2 hl1 Hst.out Hrd.out (H0.out _ H4.out.2.2.2.2.2)
    (fun c hc w1 hk hr => implMk2 c w1) (fun c hc hne v' w1 h1 h2 => Hdo.out _ _ (by rw [chg_0]; exact each_pre f _ hc hne) v' w1 h1 h2) hc (fun args w => rfl)
  refine hE.mono ?_
  rintro e w5 ⟨rfl, hJ5, hK5⟩
  have HJ5 := Lib.hid hJ5
  have HK5 := Lib.hid ((Kept.of_below H4.out.2.2.2.2.2).trans hK5)
  clear hJ5 hK5
  go_wp2
  go_end0
  exact ⟨rfl, HJ5.out, HK5.out⟩

theorem chg_3 (kind : Int) (hk : kind = 3 ∨ kind = 4) (b : Nat) (f : List Int) : chg kind b f = if nth f 0 = nth f (f.length - 1) then eachL f (fun c => (f.set 0 (c : Int)).set (f.length - 1) (c : Int)) b else [] := by
  rcases hk with rfl | rfl <;> rfl
set_option maxHeartbeats 3200000 in
set_option maxRecDepth 100000 in
theorem implChanges3 {P : Nat → Prop} (kind : Int) (hkd : kind = 3 ∨ kind = 4) (b : Nat) (hb : 2 ≤ b ∧ b ≤ 36) {v : Value} {f : List Int} {w : World} (n : Nat) (hl : f.length = n + 1) (hn1 : 1 ≤ n) (hn2 : n ≤ 2) (g : Nat) (cap : Array Value) (J : List (List Int) → World → Prop)
    (hr : RdI P w v f) (hP : ∀ k, P k → k < w.heap.size) (h0 : ∀ w1, Below w.heap.size w w1 → J [] w1) (hst : ∀ d w1 w2, J d w1 → Below w.heap.size w1 w2 → J d w2) (hrd : ∀ d w1, J d w1 → RdI P w1 v f)
    (hdo : ∀ d t, (d ++ [t]) <+: chg kind b f → ∀ v' w1, RdI (fun k => w.heap.size ≤ k ∧ k < w1.heap.size) w1 v' t → J d w1 → Calls Try.prog g (#[v'] ++ cap) w1 fun e w2 => e = .returned (.tuple #[]) ∧ J (d ++ [t]) w2 ∧ Kept w.heap.size w1 w2)
    (hc : ∀ (args : Array Value) (w : World), (callFunc g args).run Try.prog w = .ok (.enter g args) w) :
    Calls Try.prog 100 #[.int .i64 kind, .int .i64 b, v, .func (.func g) #[] cap] w fun e w' => e = .returned (.tuple #[]) ∧ J (chg kind b f) w' ∧ Kept w.heap.size w w' := by
  obtain ⟨av, cv, rfl, q1, q2⟩ := hr.isSlice
  have Hr := Lib.hid hr; clear hr
  have HP := Lib.hid hP; clear hP
  have H0 := Lib.hid h0; clear h0
  have Hst := Lib.hid hst; clear hst
  have Hrd := Lib.hid hrd; clear hrd
  have Hdo := Lib.hid hdo; clear hdo
  obtain ⟨W4, hW4⟩ : ∃ W4, W4 = (((w.alloc (.cells #[.int .i64 b] 2)).alloc (.cells #[.slice av f.length cv] 23)).alloc (.cells #[.func (.func g) #[] cap] 95)).alloc (.cells #[.int .i64 ((f.length : Int) - 1)] 3) := ⟨_, rfl⟩
  have H4 := Lib.hid (four w (.cells #[.int .i64 b] 2) (.cells #[.slice av f.length cv] 23) (.cells #[.func (.func g) #[] cap] 95) (.cells #[.int .i64 ((f.length : Int) - 1)] 3))
  rw [← hW4] at H4
  have HW4 := Lib.hid hW4; clear hW4
  unfold maxLen at q2
  have hl1 : 1 ≤ f.length := by omega
  have hle : (f.length : Int) - 1 = n := by omega
  have Hl := Lib.hid hl
  have H4d : W4.heap[w.heap.size + 1 + 1 + 1]? = some (.cells #[.int .i64 n] 3 (0, 0)) := by have := H4.out.2.2.2.1; rw [hle] at this; exact this
  have H4d := Lib.hid H4d
  have hs4 := H4.out.2.2.2.2.1
  have Hr4 := Lib.hid (RdI.ok.keep Hr.out fun k hk => H4.out.2.2.2.2.2.block k (HP.out k hk))
  obtain ⟨b4, o4, u4, ea, _, hc4, rfl⟩ := Rd.elim Hr4.out 0 (by omega)
  obtain ⟨b5, o5, u5, eb, _, hc5, rfl⟩ := Rd.elim Hr4.out n (by omega)
  subst ea
  simp only [Option.some.injEq, Addr.mk.injEq, and_true] at eb
  obtain ⟨rfl, rfl⟩ := eb
  have hc6 : W4.cell? ⟨b4, o4, none⟩ = some (.int .i64 (nth f 0)) := hc4
  have hc7 : W4.cell? ⟨b4, o4 + n, none⟩ = some (.int .i64 (nth f n)) := hc5
  have hfn : nth f (f.length - 1) = nth f n := by rw [show f.length - 1 = n by omega]
  have hch := Lib.hid (chg_3 kind hkd b f)
  rw [hfn] at hch
  have d6 : W4.cell? ⟨w.heap.size + 1, 0, none⟩ = some (.slice (some ⟨b4, o4, none⟩) f.length cv) := heap_cell H4.out.2.1 (i := 0) rfl
  have d9 : W4.cell? ⟨w.heap.size + 1 + 1 + 1, 0, none⟩ = some (.int .i64 n) := heap_cell H4d.out (i := 0) rfl
  have k0 : ¬ kind = 0 := by omega
  have k1 : ¬ kind = 1 := by omega
  have k2 : ¬ kind = 2 := by omega
  have hn0 : (0 : Int) ≤ n := by omega
  have hnl : (n : Int) < (f.length : Int) := by omega
  have h0l : (0 : Int) < (f.length : Int) := by omega
  have h0n : 0 < f.length := by omega
  have hnn : n < f.length := by omega
  clear hl hle hfn hc4 hc5
  have Hl2 := Lib.hid (show 1 ≤ f.length from hl1)
  rcases hkd with rfl | rfl
  all_goals
    go_enter Try.func100, Try.ntmps100
    go_wp2
    rw [← HW4.out]
    go_quiet (fail)
    by_cases he : nth f 0 = nth f n
    · rw [if_pos he] at hch
      rw [hch.out] at Hdo
      have hE := implEach (M := w.heap.size) (pb := w.heap.size) (pf := w.heap.size + 1) (pd := w.heap.size + 1 + 1) (g := g) (gm := 124) (b := b) (cap := cap) (capm := #[.pointer (some ⟨w.heap.size + 1, 0, none⟩), .pointer (some ⟨w.heap.size + 1 + 1 + 1, 0, none⟩)]) (v := .slice (some ⟨b4, o4, none⟩) f.length cv) (f := f) (P := P) (w := W4.drewN nq) (fun c => (f.set 0 (c : Int)).set (f.length - 1) (c : Int)) J ⟨Nat.le_refl _, by omega, by omega⟩ (show w.heap.size ≤ W4.heap.size by omega) H4.out.1 H4.out.2.1 H4.out.2.2.1 hb.2 hl1 Hst.out Hrd.out (H0.out _ (Below.draws H4.out.2.2.2.2.2 _))
        (fun c hc w1 hk hr => implMk3 c n Hl.out (hk.heap (by omega) H4.out.2.1) (hk.heap (by omega) H4d.out) hr (fun k hk2 => by have h1 := HP.out k hk2; have h2 : W4.heap.size ≤ w1.heap.size := hk.size; omega) hn1 hn2) (fun c hc hne v' w1 h1 h2 => Hdo.out _ _ (each_pre f _ hc hne) v' w1 h1 h2) hc (fun args w => rfl)
      have HE := Lib.hid hE; clear hE
      have hk4 := Lib.hid (show Kept w.heap.size w (W4.drewN nq) from Kept.of_below (Below.draws H4.out.2.2.2.2.2 _))
      have heb : (nth f 0 == nth f n) = true := by simp [he]
      generalize W4.drewN nq = W5 at *
      clear he hc6 hc7 d6 d9
      go_wp2_with fail
      refine HE.out.mono ?_
      rintro e w5 ⟨rfl, hJ5, hK5⟩
      have HJ5 := Lib.hid hJ5
      have HK5 := Lib.hid (hk4.out.trans hK5)
      clear hJ5 hK5
      go_wp2
      go_end0
      exact ⟨rfl, by rw [hch.out]; exact HJ5.out, HK5.out⟩
    · rw [if_neg he] at hch
      have heb : (nth f 0 == nth f n) = false := by simp [he]
      have hJ4 := Lib.hid (H0.out (W4.drewN nq) (Below.draws H4.out.2.2.2.2.2 _))
      have hk4 := Lib.hid (show Kept w.heap.size w (W4.drewN nq) from Kept.of_below (Below.draws H4.out.2.2.2.2.2 _))
      clear he
      go_wp2
      go_end0
      exact ⟨rfl, by rw [hch.out]; exact hJ4.out, hk4.out⟩

theorem bcell2 {W w1 : World} (hb : Below W.heap.size W w1) : (∀ b o, b < W.heap.size → w1.cell? ⟨b, o, none⟩ = W.cell? ⟨b, o, none⟩) ∧ (∀ b o, b < W.heap.size → w1.frozen? ⟨b, o, none⟩ = W.frozen? ⟨b, o, none⟩) :=
  ⟨fun b o h => hb.cell (p := ⟨b, o, none⟩) h, fun b o h => hb.frozen (p := ⟨b, o, none⟩) h⟩
theorem chg_1 (kind : Int) (hk : kind = 1 ∨ kind = 2) (b : Nat) (f : List Int) : chg kind b f = if nth f 0 ≠ nth f (f.length - 1) then [(f.set 0 (nth f (f.length - 1))).set (f.length - 1) (nth f 0)] else [] := by
  rcases hk with rfl | rfl <;> rfl
set_option maxHeartbeats 3200000 in
set_option maxRecDepth 100000 in
theorem implChanges1 {P : Nat → Prop} (kind : Int) (hkd : kind = 1 ∨ kind = 2) (b : Nat) (hb : 2 ≤ b ∧ b ≤ 36) {v : Value} {f : List Int} {w : World} (n : Nat) (hl : f.length = n + 1) (hn1 : 1 ≤ n) (hn2 : n ≤ 2) (g : Nat) (cap : Array Value) (J : List (List Int) → World → Prop)
    (hr : RdI P w v f) (hP : ∀ k, P k → k < w.heap.size) (h0 : ∀ w1, Below w.heap.size w w1 → J [] w1) (hst : ∀ d w1 w2, J d w1 → Below w.heap.size w1 w2 → J d w2) (hrd : ∀ d w1, J d w1 → RdI P w1 v f)
    (hdo : ∀ d t, (d ++ [t]) <+: chg kind b f → ∀ v' w1, RdI (fun k => w.heap.size ≤ k ∧ k < w1.heap.size) w1 v' t → J d w1 → Calls Try.prog g (#[v'] ++ cap) w1 fun e w2 => e = .returned (.tuple #[]) ∧ J (d ++ [t]) w2 ∧ Kept w.heap.size w1 w2)
    (hc : ∀ (args : Array Value) (w : World), (callFunc g args).run Try.prog w = .ok (.enter g args) w) :
    Calls Try.prog 100 #[.int .i64 kind, .int .i64 b, v, .func (.func g) #[] cap] w fun e w' => e = .returned (.tuple #[]) ∧ J (chg kind b f) w' ∧ Kept w.heap.size w w' := by
  obtain ⟨av, cv, rfl, q1, q2⟩ := hr.isSlice
  have Hr := Lib.hid hr; clear hr
  have HP := Lib.hid hP; clear hP
  have H0 := Lib.hid h0; clear h0
  have Hst := Lib.hid hst; clear hst
  have Hrd := Lib.hid hrd; clear hrd
  have Hdo := Lib.hid hdo; clear hdo
  obtain ⟨W4, hW4⟩ : ∃ W4, W4 = (((w.alloc (.cells #[.int .i64 b] 2)).alloc (.cells #[.slice av f.length cv] 23)).alloc (.cells #[.func (.func g) #[] cap] 95)).alloc (.cells #[.int .i64 ((f.length : Int) - 1)] 3) := ⟨_, rfl⟩
  have H4 := Lib.hid (four w (.cells #[.int .i64 b] 2) (.cells #[.slice av f.length cv] 23) (.cells #[.func (.func g) #[] cap] 95) (.cells #[.int .i64 ((f.length : Int) - 1)] 3))
  rw [← hW4] at H4
  have HW4 := Lib.hid hW4; clear hW4
  unfold maxLen at q2
  have hl1 : 1 ≤ f.length := by omega
  have hle : (f.length : Int) - 1 = n := by omega
  have Hl := Lib.hid hl
  have H4d : W4.heap[w.heap.size + 1 + 1 + 1]? = some (.cells #[.int .i64 n] 3 (0, 0)) := by have := H4.out.2.2.2.1; rw [hle] at this; exact this
  have H4d := Lib.hid H4d
  have hs4 := H4.out.2.2.2.2.1
  have Hr4 := Lib.hid (RdI.ok.keep Hr.out fun k hk => H4.out.2.2.2.2.2.block k (HP.out k hk))
  obtain ⟨b4, o4, u4, ea, hP4, hc4, rfl⟩ := Rd.elim Hr4.out 0 (by omega)
  obtain ⟨b5, o5, u5, eb, _, hc5, rfl⟩ := Rd.elim Hr4.out n (by omega)
  subst ea
  simp only [Option.some.injEq, Addr.mk.injEq, and_true] at eb
  obtain ⟨rfl, rfl⟩ := eb
  have hc6 : W4.cell? ⟨b4, o4, none⟩ = some (.int .i64 (nth f 0)) := hc4
  have hc7 : W4.cell? ⟨b4, o4 + n, none⟩ = some (.int .i64 (nth f n)) := hc5
  have hfn : nth f (f.length - 1) = nth f n := by rw [show f.length - 1 = n by omega]
  have hch := Lib.hid (chg_1 kind hkd b f)
  rw [show f.length - 1 = n by omega] at hch
  clear hfn
  have d6 : W4.cell? ⟨w.heap.size + 1, 0, none⟩ = some (.slice (some ⟨b4, o4, none⟩) f.length cv) := heap_cell H4.out.2.1 (i := 0) rfl
  have d9 : W4.cell? ⟨w.heap.size + 1 + 1 + 1, 0, none⟩ = some (.int .i64 n) := heap_cell H4d.out (i := 0) rfl
  have k0 : ¬ kind = 0 := by omega
  have hn0 : (0 : Int) ≤ n := by omega
  have hnl : (n : Int) < (f.length : Int) := by omega
  have h0l : (0 : Int) < (f.length : Int) := by omega
  have h0n : 0 < f.length := by omega
  have hnn : n < f.length := by omega
  clear hl hle hc4 hc5
  rcases hkd with rfl | rfl
  all_goals
    go_enter Try.func100, Try.ntmps100
    go_wp2
    rw [← HW4.out]
    go_quiet (fail)
    have hk4 := Lib.hid (show Kept w.heap.size w (W4.drewN nq) from Kept.of_below (Below.draws H4.out.2.2.2.2.2 _))
    have hb4 := Lib.hid (show Below w.heap.size w (W4.drewN nq) from Below.draws H4.out.2.2.2.2.2 _)
    by_cases he : nth f 0 = nth f n
    · rw [if_neg (fun h => h he)] at hch
      have heb : (nth f 0 != nth f n) = false := by simp [he]
      have hJ4 := Lib.hid (H0.out (W4.drewN nq) hb4.out)
      clear he
      go_wp2
      go_end0
      exact ⟨rfl, by rw [hch.out]; exact hJ4.out, hk4.out⟩
    · rw [if_pos he] at hch
      rw [hch.out] at Hdo
      have heb : (nth f 0 != nth f n) = true := by simp [he]
      have d7 : W4.cell? ⟨w.heap.size + 1 + 1, 0, none⟩ = some (.func (.func g) #[] cap) := heap_cell H4.out.2.2.1 (i := 0) rfl
      have HrQ := Lib.hid (show RdI P (W4.drewN nq) (.slice (some ⟨b4, o4, none⟩) f.length cv) f from rd_draws RdI.ok Hr4.out nq)
      have hsQ : (W4.drewN nq).heap.size = w.heap.size + 4 := hs4
      have d6' : (W4.drewN nq).cell? ⟨w.heap.size + 1, 0, none⟩ = some (.slice (some ⟨b4, o4, none⟩) f.length cv) := d6
      have d7' : (W4.drewN nq).cell? ⟨w.heap.size + 1 + 1, 0, none⟩ = some (.func (.func g) #[] cap) := d7
      have d9' : (W4.drewN nq).cell? ⟨w.heap.size + 1 + 1 + 1, 0, none⟩ = some (.int .i64 n) := d9
      have c6' : (W4.drewN nq).cell? ⟨b4, o4, none⟩ = some (.int .i64 (nth f 0)) := hc6
      have c7' : (W4.drewN nq).cell? ⟨b4, o4 + n, none⟩ = some (.int .i64 (nth f n)) := hc7
      have hPb : b4 < w.heap.size := HP.out _ hP4
      clear d6 d7 d9 hc6 hc7 he
      generalize W4.drewN nq = W5 at *
      go_wp2_with fail
      refine (slClone HrQ.out (fun k hk => by have := HP.out k hk; omega) (by have := Hl.out; omega)).mono ?_
      rintro e w6 ⟨v6, rfl, hf6⟩
      obtain ⟨hcc, hzz⟩ := bcell2 hf6.bel
      have d6 := (hcc (w.heap.size + 1) 0 (by omega)).trans d6'
      have d7 := (hcc (w.heap.size + 1 + 1) 0 (by omega)).trans d7'
      have d9 := (hcc (w.heap.size + 1 + 1 + 1) 0 (by omega)).trans d9'
      have c6 := (hcc b4 o4 (by omega)).trans c6'
      have c7 := (hcc b4 (o4 + n) (by omega)).trans c7'
      obtain ⟨gg, cp, rfl⟩ := hf6.shape (by omega)
      have hl6 := hf6.len1
      unfold maxLen at hl6
      obtain ⟨hl7, hl8, hl9⟩ := hl6
      obtain ⟨a0, a1, a2, a3, a4⟩ := hf6.put1 (fun _ => rfl) (i := 0) (by omega)
      obtain ⟨e0, e1, e2, e3, e4⟩ := hf6.put1 (fun _ => rfl) (i := n) (by omega)
      have hq : Fresh OI W5 ((w6.setCell ⟨gg, 0, none⟩ (.int .i64 (nth f n))).setCell ⟨gg, n, none⟩ (.int .i64 (nth f 0))) (.slice (some ⟨gg, 0, none⟩) f.length cp) ((f.set 0 (nth f n)).set n (nth f 0)) := by
        have h1 : Fresh OI W5 (w6.setCell ⟨gg, 0, none⟩ (.int .i64 (nth f n))) (.slice (some ⟨gg, 0, none⟩) f.length cp) (f.set 0 (nth f n)) := a4 w6 (Below.refl _ _) (nth f n)
        obtain ⟨_, _, _, _, h2⟩ := h1.put1 (fun _ => rfl) (i := n) (by simp; omega)
        exact h2 _ (Below.refl _ _) _
      have n1 : ¬ w.heap.size + 1 = gg := by omega
      have n2 : ¬ w.heap.size + 1 + 1 = gg := by omega
      have n3 : ¬ w.heap.size + 1 + 1 + 1 = gg := by omega
      have n4 : ¬ b4 = gg := by omega
      have n5 : ¬ n = 0 := by omega
      have Hq := Lib.hid hq
      clear a4 e4 hq hf6 hcc hzz d6' d7' d9' c6' c7' hl7
      have Hdo1 := Lib.hid (fun v' w1 h1 h2 => Hdo.out [] _ (List.prefix_refl _) v' w1 h1 h2)
      have hsz6 := hsQ
      go_wp2
      go_region
      all_goals
        have hf7 := Lib.hid (Hq.out.stay OI.ok (w' := ((w6.setCell ⟨gg, 0, none⟩ (.int .i64 (nth f n))).setCell ⟨gg, n, none⟩ (.int .i64 (nth f 0))).drew) ⟨rfl, rfl, rfl, Nat.le_refl _, fun _ _ => rfl⟩)
        go_wp2_with fail
        generalize ((w6.setCell ⟨gg, 0, none⟩ (.int .i64 (nth f n))).setCell ⟨gg, n, none⟩ (.int .i64 (nth f 0))).drew = W7 at *
        have hs7 := hf7.out.bel.size
        have hb7 := Lib.hid (hb4.out.trans (hf7.out.bel.mono (by omega)))
        have hcs := hf7.out.choose_spec
        refine (Hdo1.out _ W7 (OI.leads.to _ _ _ _ _ hcs.1 fun k hk => ⟨by have := hcs.2.1 k hk; omega, OI.ok.lt hcs.1 k hk⟩) (H0.out _ hb7.out)).mono ?_
        rintro e w8 ⟨rfl, hJ8, hK8⟩
        have HJ8 := Lib.hid hJ8
        have HK8 := Lib.hid ((Kept.of_below hb7.out).trans hK8)
        clear hJ8 hK8 hcs
        go_wp2
        go_end0
        exact ⟨rfl, by rw [hch.out]; exact HJ8.out, HK8.out⟩
end Go.Proofs.Ytcjmkiedcmlpcaa
