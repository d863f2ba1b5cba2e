/- Into what an error of a kind changes symbols, handed on to whatever closure: impl.changes. -/
import Derived.Test.YtnpkanlieflbiaaD3
import Derived.Test.YtnpkanlieflbiaaC2
import Derived.Test.YtnpkanlieflbiaaO2
import Derived.Test.YtnpkanlieflbiaaF2
import Derived.Deep.QuietTactic
import Derived.BigQuiet
import Derived.IntWalk
import Derived.Deep.RegionHeld3
import Derived.StillTailTactics
namespace Go.Proofs.Ytnpkanlieflbiaa
open Go.RowKit
set_option linter.unusedVariables false

/-- What lies from block M on is as it was. -/
structure Kept (M : Nat) (w w' : World) : Prop where
  size : w.heap.size ≤ w'.heap.size
  block : ∀ k, M ≤ k → k < w.heap.size → w'.heap[k]? = w.heap[k]?
theorem Kept.refl (M : Nat) (w : World) : Kept M w w := ⟨Nat.le_refl _, fun _ _ _ => rfl⟩
theorem Kept.trans {M : Nat} {w w1 w2 : World} (h : Kept M w w1) (k : Kept M w1 w2) : Kept M w w2 := ⟨Nat.le_trans h.size k.size, fun i h1 h2 => (k.block i h1 (Nat.lt_of_lt_of_le h2 h.size)).trans (h.block i h1 h2)⟩
theorem Kept.of_below {M : Nat} {w w' : World} (h : Below w.heap.size w w') : Kept M w w' := ⟨h.size, fun k _ hk => h.block k hk⟩
theorem Kept.heap {M : Nat} {w w' : World} (h : Kept M w w') {k : Nat} {o : Obj} (hM : M ≤ k) (ho : w.heap[k]? = some o) : w'.heap[k]? = some o := (h.block k hM (Array.getElem?_eq_some_iff.1 ho).1).trans ho

theorem hf_heap {W w1 : World} (h : Below W.heap.size W w1) {k : Nat} {o : Obj} (hk : W.heap[k]? = some o) : w1.heap[k]? = some o := (h.block k (Array.getElem?_eq_some_iff.1 hk).1).trans hk

theorem implMk2 (c : Nat) (w : World) : Calls Try.prog 166 #[.int .i64 c] w fun e w' => ∃ v, e = .returned v ∧ Fresh OI w w' v [(c : Int)] := by
  have hl := Lib.hid (Own.lit w 2 fI [(c : Int)] (by unfold maxLen; simp))
  go_enter Try.func166, Try.ntmps166
  go_wp2
  go_ret
  exact ⟨_, rfl, _, hl.out, by simp, (Below.refl _ _).alloc (Nat.le_refl _) _⟩

set_option maxHeartbeats 1600000 in
set_option maxRecDepth 10000 in
theorem implMk3 {P : Nat → Prop} {pf pl : Nat} {v : Value} {f : List Int} (c : Nat) {w : World} (n : Nat) (hn : f.length = n + 1) (h1 : w.heap[pf]? = some (.cells #[v] 22 (0, 0))) (h2 : w.heap[pl]? = some (.cells #[.int .i64 n] 3 (0, 0)))
    (hr : RdI P w v f) (hP : ∀ k, P k → k < w.heap.size) (hf1 : 1 ≤ n) (hf3 : n ≤ 2) :
    Calls Try.prog 167 #[.int .i64 c, .pointer (some ⟨pf, 0, none⟩), .pointer (some ⟨pl, 0, none⟩)] w fun e w' => ∃ v', e = .returned v' ∧ Fresh OI w w' v' ((f.set 0 (c : Int)).set (f.length - 1) (c : Int)) := by
  have c1 := heap_cell h1 (i := 0) rfl
  have c2 := heap_cell h2 (i := 0) rfl
  have hpl := heap_lt h2
  have H1 := Lib.hid h1; clear h1
  have H2 := Lib.hid h2; clear h2
  have Hr := Lib.hid hr; clear hr
  have HP := Lib.hid hP; clear hP
  rw [show f.length - 1 = n by omega]
  have Hn := Lib.hid hn; clear hn
  go_enter Try.func167, Try.ntmps167
  go_wp2_with fail
  refine (slClone Hr.out HP.out (by have := Hn.out; omega)).mono ?_
  rintro e w1 ⟨v1, rfl, hf⟩
  have c2' := heap_cell (hf_heap hf.bel H2.out) (i := 0) rfl
  obtain ⟨g, cp, rfl⟩ := hf.shape (by have := Hn.out; omega)
  have hl := hf.len1
  unfold maxLen at hl
  obtain ⟨d0, d1, d2, d3, d4⟩ := hf.put1 (fun _ => rfl) (i := 0) (by have := Hn.out; omega)
  obtain ⟨e0, e1, e2, e3, e4⟩ := hf.put1 (fun _ => rfl) (i := n) (by have := Hn.out; omega)
  have hq : Fresh OI w (((w1.drew).setCell ⟨g, 0, none⟩ (.int .i64 c)).setCell ⟨g, n, none⟩ (.int .i64 c)) (.slice (some ⟨g, 0, none⟩) f.length cp) ((f.set 0 (c : Int)).set n (c : Int)) := by
    have h1 := d4 w1.drew ((Below.refl _ _).drew) (c : Int)
    have h1' : Fresh OI w ((w1.drew).setCell ⟨g, 0, none⟩ (.int .i64 c)) (.slice (some ⟨g, 0, none⟩) f.length cp) (f.set 0 (c : Int)) := h1
    obtain ⟨_, _, _, _, h2⟩ := h1'.put1 (fun _ => rfl) (i := n) (by have := Hn.out; simp; omega)
    exact h2 _ (Below.refl _ _) _
  have hne : ¬ pl = g := by omega
  have hne0 : ¬ n = 0 := by omega
  rw [Hn.out] at hq hl ⊢
  have Hq := Lib.hid hq
  obtain ⟨hl1, hl2, hl3⟩ := hl
  clear d4 e4 hq hf hl1
  go_wp2
  go_region
  all_goals go_wp2
  all_goals go_ret
  all_goals exact ⟨_, rfl, Hq.out.stay OI.ok ⟨rfl, rfl, rfl, Nat.le_refl _, fun _ _ => rfl⟩⟩

/-- The digits other than the first symbol, by what they become. -/
def eachL (f : List Int) (mk : Nat → List Int) (c : Nat) : List (List Int) := ((List.range c).filter fun (z : Nat) => decide ((z : Int) ≠ nth f 0)).map mk
theorem eachL_no {f : List Int} {mk : Nat → List Int} {c : Nat} (h : (c : Int) = nth f 0) : eachL f mk (c + 1) = eachL f mk c := by simp [eachL, List.range_succ, h]
theorem eachL_yes {f : List Int} {mk : Nat → List Int} {c : Nat} (h : (c : Int) ≠ nth f 0) : eachL f mk (c + 1) = eachL f mk c ++ [mk c] := by simp [eachL, List.range_succ, h]

set_option maxHeartbeats 1600000 in
set_option maxRecDepth 10000 in
theorem implEach {M pb pf pd g gm b : Nat} {cap capm : Array Value} {v : Value} {f : List Int} {P : Nat → Prop} {w : World} (mk : Nat → List Int) (J : List (List Int) → World → Prop)
    (hM : M ≤ pb ∧ M ≤ pf ∧ M ≤ pd) (hMw : M ≤ w.heap.size) (h1 : w.heap[pb]? = some (.cells #[.int .i64 b] 2 (0, 0))) (h2 : w.heap[pf]? = some (.cells #[v] 22 (0, 0))) (h3 : w.heap[pd]? = some (.cells #[.func (.func g) #[] cap] 124 (0, 0)))
    (hb : b ≤ 36) (hf : 1 ≤ f.length) (hst : ∀ d w1 w2, J d w1 → Below M w1 w2 → J d w2) (hrd : ∀ d w1, J d w1 → RdI P w1 v f) (hJ : J [] w)
    (hmk : ∀ c, c < b → ∀ w1, Kept M w w1 → RdI P w1 v f → Calls Try.prog gm (#[.int .i64 c] ++ capm) w1 fun e w2 => ∃ v', e = .returned v' ∧ Fresh OI w1 w2 v' (mk c))
    (hdo : ∀ c, c < b → (c : Int) ≠ nth f 0 → ∀ v' w1, RdI (fun k => M ≤ k ∧ k < w1.heap.size) w1 v' (mk c) → J (eachL f mk c) w1 → Calls Try.prog g (#[v'] ++ cap) w1 fun e w2 => e = .returned (.tuple #[]) ∧ J (eachL f mk c ++ [mk c]) w2 ∧ Kept M w1 w2)
    (hc : ∀ (args : Array Value) (w : World), (callFunc g args).run Try.prog w = .ok (.enter g args) w) (hcm : ∀ (args : Array Value) (w : World), (callFunc gm args).run Try.prog w = .ok (.enter gm args) w) :
    Calls Try.prog 165 #[.func (.func gm) #[] capm, .pointer (some ⟨pb, 0, none⟩), .pointer (some ⟨pf, 0, none⟩), .pointer (some ⟨pd, 0, none⟩)] w fun e w' => e = .returned (.tuple #[]) ∧ J (eachL f mk b) w' ∧ Kept M w w' := by
  obtain ⟨av, cv, rfl, q1, q2⟩ := (hrd _ _ hJ).isSlice
  have c1 : w.cell? ⟨pb, 0, none⟩ = some (.int .i64 b) := heap_cell h1 (i := 0) rfl
  have H1 := Lib.hid h1; clear h1
  have H2 := Lib.hid h2; clear h2
  have H3 := Lib.hid h3; clear h3
  have Hst := Lib.hid hst; clear hst
  have Hrd := Lib.hid hrd; clear hrd
  have HJ := Lib.hid hJ; clear hJ
  have Hmk := Lib.hid hmk; clear hmk
  have Hdo := Lib.hid hdo; clear hdo
  unfold maxLen at q2
  go_enter Try.func165, Try.ntmps165
  go_wp2
  go_loopw [7] (fun i wr => ∃ c : Nat, c ≤ b ∧ i = .int .i64 c ∧ Hid (J (eachL f mk c) wr) ∧ Hid (Kept M w wr)) (fun i _ => b - (intOf i).toNat)
  case atStart => exact ⟨0, Nat.zero_le _, rfl, HJ, Lib.hid (Kept.refl M _)⟩
  case round =>
    clear c1
    obtain ⟨c, hc1, rfl, hJ, hK⟩ := hrel
    obtain ⟨W2, rfl⟩ : ∃ W2, W2 = wr := ⟨_, rfl⟩
    by_cases hlt : c < b
    · have c2 := heap_cell (hK.out.heap hM.2.1 H2.out) (i := 0) rfl
      have c3 := heap_cell (hK.out.heap hM.2.2 H3.out) (i := 0) rfl
      obtain ⟨b4, o4, u4, rfl, _, hc4, rfl⟩ := Rd.elim (Hrd.out _ _ hJ.out) 0 hf
      have hc5 : W2.cell? ⟨b4, o4, none⟩ = some (.int .i64 (nth f 0)) := hc4
      clear hc4
      by_cases hne : (c : Int) = nth f 0
      · have hb1 : ((c : Int) != nth f 0) = false := by simp [hne]
        have hJ2 := Lib.hid (show J (eachL f mk (c + 1)) W2 by rw [eachL_no hne]; exact hJ.out)
        clear hne
        go_wp2
        go_roundw
        case rel => exact ⟨c + 1, by omega, by go_num, hJ2, hK⟩
        case measure => simp [intOf]; omega
      · have hb1 : ((c : Int) != nth f 0) = true := by simp [hne]
        have hJd := Hst.out _ _ W2.drew hJ.out (Below.drew (Below.refl _ _))
        have hmk2 := Lib.hid (fun w1 (hk : Kept M W2 w1) hr => Hmk.out c hlt w1 (hK.out.trans hk) hr)
        have hmk2' := Lib.hid (Hmk.out c hlt W2.drew (hK.out.trans ⟨Nat.le_refl _, fun _ _ _ => rfl⟩) (Hrd.out _ _ hJd))
        have HJd := Lib.hid hJd
        have Hne := Lib.hid hne
        clear hne hJd
        have hcell := Lib.hid (fun (w1 : World) (h : Kept M W2 w1) => (heap_cell (h.heap hM.2.2 (hK.out.heap hM.2.2 H3.out)) (i := 0) rfl : w1.cell? ⟨pd, 0, none⟩ = some (.func (.func g) #[] cap)))
        have hM2 := Lib.hid (Nat.le_trans hMw hK.out.size)
        have hJst := Lib.hid (fun (w1 w2 : World) (h : J (eachL f mk c) w1) (h2 : Below M w1 w2) => Hst.out _ _ _ h h2)
        have hdo2 := Lib.hid (fun v' w1 h1 h2 => Hdo.out c hlt Hne.out v' w1 h1 h2)
        clear hmk2
        go_wp2
        go_region_held3 (fun w' => w'.cell? ⟨pd, 0, none⟩ = some (.func (.func g) #[] cap)) (first | go_keep | exact c5 | exact c4) (first
          | (refine (Calls.mono hmk2'.out ?_); rintro e W4 ⟨v', rfl, hf4⟩; have Hf4 := Lib.hid hf4; have k4 := Lib.hid (Kept.trans (w := W2) (w1 := W2.drew) ⟨Nat.le_refl _, fun _ _ _ => rfl⟩ (Kept.of_below hf4.bel (M := M))); have c4 := hcell.out W4 k4.out; clear hf4)
          | (refine (Calls.mono (hdo2.out v' W4 (OI.leads.to _ _ _ _ _ Hf4.out.choose_spec.1 fun k hk => ⟨Nat.le_trans hM2.out (Hf4.out.choose_spec.2.1 k hk), OI.ok.lt Hf4.out.choose_spec.1 k hk⟩) (hJst.out _ _ HJd.out (Hf4.out.bel.mono hM2.out))) ?_); rintro e W5 ⟨rfl, hJ5, hK5⟩; have k5 := Lib.hid (k4.out.trans hK5); have c5 := hcell.out W5 k5.out; have HJ5 := Lib.hid (show J (eachL f mk (c + 1)) W5 by rw [eachL_yes Hne.out]; exact hJ5); clear hJ5 hK5))
        have HK5 := Lib.hid (hK.out.trans k5.out)
        go_wp2
        go_roundw
        case rel => exact ⟨c + 1, by omega, by go_num, HJ5, HK5⟩
        case measure => simp [intOf]; omega
    · obtain rfl : c = b := by omega
      go_wp2
      go_end0
      exact ⟨rfl, hJ.out, hK.out⟩

/-- Four blocks one after another. -/
theorem four (w : World) (A Z C D : Obj) : ((((w.alloc A).alloc Z).alloc C).alloc D).heap[w.heap.size]? = some A ∧ ((((w.alloc A).alloc Z).alloc C).alloc D).heap[w.heap.size + 1]? = some Z ∧ ((((w.alloc A).alloc Z).alloc C).alloc D).heap[w.heap.size + 1 + 1]? = some C ∧
    ((((w.alloc A).alloc Z).alloc C).alloc D).heap[w.heap.size + 1 + 1 + 1]? = some D ∧ ((((w.alloc A).alloc Z).alloc C).alloc D).heap.size = w.heap.size + 4 ∧ Below w.heap.size w ((((w.alloc A).alloc Z).alloc C).alloc D) := by
  have s1 := al_size w A
  have s2 := al_size (w.alloc A) Z
  have s3 := al_size ((w.alloc A).alloc Z) C
  have s4 := al_size (((w.alloc A).alloc Z).alloc C) D
  have e1 := heap_alloc_new w A
  have e2 := heap_alloc_new (w.alloc A) Z
  have e3 := heap_alloc_new ((w.alloc A).alloc Z) C
  have e4 := heap_alloc_new (((w.alloc A).alloc Z).alloc C) D
  rw [s1] at e2
  rw [s2, s1] at e3
  rw [s3, s2, s1] at e4
  have k4 := fun k hk => Below.heap_alloc (((w.alloc A).alloc Z).alloc C) D k hk
  have k3 := fun k hk => Below.heap_alloc ((w.alloc A).alloc Z) C k hk
  have k2 := fun k hk => Below.heap_alloc (w.alloc A) Z k hk
  refine ⟨?_, ?_, ?_, e4, by omega, by repeat' (first | with_reducible exact Below.refl _ _ | with_reducible refine Below.alloc ?_ ?_ _ | with_reducible refine Below.setCell ?_ ?_ _ | with_reducible refine Below.drew ?_ | with_reducible refine Below.draws ?_ _ | omega | (simp; done) | (simp; omega))⟩
  · exact (k4 _ (by omega)).trans ((k3 _ (by omega)).trans ((k2 _ (by omega)).trans e1))
  · exact (k4 _ (by omega)).trans ((k3 _ (by omega)).trans e2)
  · exact (k4 _ (by omega)).trans e3

end Go.Proofs.Ytnpkanlieflbiaa
/- Into what an error of each kind changes symbols, walked. -/
namespace Go.Proofs.Ytnpkanlieflbiaa
open Go.RowKit
set_option linter.unusedVariables false

theorem eachL_prefix (f : List Int) (mk : Nat → List Int) {c b : Nat} (h : c ≤ b) : eachL f mk c <+: eachL f mk b := by
  induction b with
  | zero => obtain rfl : c = 0 := by omega
            exact List.prefix_refl _
  | succ b ih =>
    by_cases e : c = b + 1
    · subst e; exact List.prefix_refl _
    · refine List.IsPrefix.trans (ih (by omega)) ?_
      by_cases h2 : (b : Int) = nth f 0
      · rw [eachL_no h2]; exact List.prefix_refl _
      · rw [eachL_yes h2]; exact List.prefix_append _ _
theorem each_pre (f : List Int) (mk : Nat → List Int) {c b : Nat} (h : c < b) (hne : (c : Int) ≠ nth f 0) : eachL f mk c ++ [mk c] <+: eachL f mk b := by
  rw [← eachL_yes hne]; exact eachL_prefix f mk h
theorem chg_0 (b : Nat) (f : List Int) : chg 0 b f = eachL f (fun c => [(c : Int)]) b := rfl

set_option maxHeartbeats 3200000 in
set_option maxRecDepth 100000 in
theorem implChanges0 {P : Nat → Prop} (b : Nat) (hb : 2 ≤ b ∧ b ≤ 36) {v : Value} {f : List Int} {w : World} (hl : f.length = 1) (g : Nat) (cap : Array Value) (J : List (List Int) → World → Prop)
    (hr : RdI P w v f) (hP : ∀ k, P k → k < w.heap.size) (h0 : ∀ w1, Below w.heap.size w w1 → J [] w1) (hst : ∀ d w1 w2, J d w1 → Below w.heap.size w1 w2 → J d w2) (hrd : ∀ d w1, J d w1 → RdI P w1 v f)
    (hdo : ∀ d t, (d ++ [t]) <+: chg 0 b f → ∀ v' w1, RdI (fun k => w.heap.size ≤ k ∧ k < w1.heap.size) w1 v' t → J d w1 → Calls Try.prog g (#[v'] ++ cap) w1 fun e w2 => e = .returned (.tuple #[]) ∧ J (d ++ [t]) w2 ∧ Kept w.heap.size w1 w2)
    (hc : ∀ (args : Array Value) (w : World), (callFunc g args).run Try.prog w = .ok (.enter g args) w) :
    Calls Try.prog 143 #[.int .i64 0, .int .i64 b, v, .func (.func g) #[] cap] w fun e w' => e = .returned (.tuple #[]) ∧ J (chg 0 b f) w' ∧ Kept w.heap.size w w' := by
  obtain ⟨av, cv, rfl, q1, q2⟩ := hr.isSlice
  have Hr := Lib.hid hr; clear hr
  have HP := Lib.hid hP; clear hP
  have H0 := Lib.hid h0; clear h0
  have Hst := Lib.hid hst; clear hst
  have Hrd := Lib.hid hrd; clear hrd
  have Hdo := Lib.hid hdo; clear hdo
  obtain ⟨W4, hW4⟩ : ∃ W4, W4 = (((w.alloc (.cells #[.int .i64 b] 2)).alloc (.cells #[.slice av f.length cv] 22)).alloc (.cells #[.func (.func g) #[] cap] 124)).alloc (.cells #[.int .i64 ((f.length : Int) - 1)] 3) := ⟨_, rfl⟩
  have H4 := Lib.hid (four w (.cells #[.int .i64 b] 2) (.cells #[.slice av f.length cv] 22) (.cells #[.func (.func g) #[] cap] 124) (.cells #[.int .i64 ((f.length : Int) - 1)] 3))
  rw [← hW4] at H4
  have HW4 := Lib.hid hW4; clear hW4
  unfold maxLen at q2
  have hl1 : 1 ≤ f.length := by omega
  have Hl := Lib.hid hl; clear hl
  go_enter Try.func143, Try.ntmps143
  go_wp2_with fail
  rw [← HW4.out]
  have hs4 := H4.out.2.2.2.2.1
  have hE := implEach (M := w.heap.size) (pb := w.heap.size) (pf := w.heap.size + 1) (pd := w.heap.size + 1 + 1) (g := g) (gm := 166) (b := b) (cap := cap) (capm := #[]) (v := .slice av f.length cv) (f := f) (P := P) (w := W4) (fun c => [(c : Int)]) J ⟨Nat.le_refl _, by omega, by omega⟩ (by omega) H4.out.1 H4.out.2.1 H4.out.2.2.1 hb.2 hl1 Hst.out Hrd.out (H0.out _ H4.out.2.2.2.2.2)
    (fun c hc w1 hk hr => implMk2 c w1) (fun c hc hne v' w1 h1 h2 => Hdo.out _ _ (by rw [chg_0]; exact each_pre f _ hc hne) v' w1 h1 h2) hc (fun args w => rfl)
  refine hE.mono ?_
  rintro e w5 ⟨rfl, hJ5, hK5⟩
  have HJ5 := Lib.hid hJ5
  have HK5 := Lib.hid ((Kept.of_below H4.out.2.2.2.2.2).trans hK5)
  clear hJ5 hK5
  go_wp2
  go_end0
  exact ⟨rfl, HJ5.out, HK5.out⟩

theorem chg_3 (kind : Int) (hk : kind = 3 ∨ kind = 4) (b : Nat) (f : List Int) : chg kind b f = if nth f 0 = nth f (f.length - 1) then eachL f (fun c => (f.set 0 (c : Int)).set (f.length - 1) (c : Int)) b else [] := by
  rcases hk with rfl | rfl <;> rfl
set_option maxHeartbeats 3200000 in
set_option maxRecDepth 100000 in
theorem implChanges3 {P : Nat → Prop} (kind : Int) (hkd : kind = 3 ∨ kind = 4) (b : Nat) (hb : 2 ≤ b ∧ b ≤ 36) {v : Value} {f : List Int} {w : World} (n : Nat) (hl : f.length = n + 1) (hn1 : 1 ≤ n) (hn2 : n ≤ 2) (g : Nat) (cap : Array Value) (J : List (List Int) → World → Prop)
    (hr : RdI P w v f) (hP : ∀ k, P k → k < w.heap.size) (h0 : ∀ w1, Below w.heap.size w w1 → J [] w1) (hst : ∀ d w1 w2, J d w1 → Below w.heap.size w1 w2 → J d w2) (hrd : ∀ d w1, J d w1 → RdI P w1 v f)
    (hdo : ∀ d t, (d ++ [t]) <+: chg kind b f → ∀ v' w1, RdI (fun k => w.heap.size ≤ k ∧ k < w1.heap.size) w1 v' t → J d w1 → Calls Try.prog g (#[v'] ++ cap) w1 fun e w2 => e = .returned (.tuple #[]) ∧ J (d ++ [t]) w2 ∧ Kept w.heap.size w1 w2)
    (hc : ∀ (args : Array Value) (w : World), (callFunc g args).run Try.prog w = .ok (.enter g args) w) :
    Calls Try.prog 143 #[.int .i64 kind, .int .i64 b, v, .func (.func g) #[] cap] w fun e w' => e = .returned (.tuple #[]) ∧ J (chg kind b f) w' ∧ Kept w.heap.size w w' := by
  obtain ⟨av, cv, rfl, q1, q2⟩ := hr.isSlice
  have Hr := Lib.hid hr; clear hr
  have HP := Lib.hid hP; clear hP
  have H0 := Lib.hid h0; clear h0
  have Hst := Lib.hid hst; clear hst
  have Hrd := Lib.hid hrd; clear hrd
  have Hdo := Lib.hid hdo; clear hdo
  obtain ⟨W4, hW4⟩ : ∃ W4, W4 = (((w.alloc (.cells #[.int .i64 b] 2)).alloc (.cells #[.slice av f.length cv] 22)).alloc (.cells #[.func (.func g) #[] cap] 124)).alloc (.cells #[.int .i64 ((f.length : Int) - 1)] 3) := ⟨_, rfl⟩
  have H4 := Lib.hid (four w (.cells #[.int .i64 b] 2) (.cells #[.slice av f.length cv] 22) (.cells #[.func (.func g) #[] cap] 124) (.cells #[.int .i64 ((f.length : Int) - 1)] 3))
  rw [← hW4] at H4
  have HW4 := Lib.hid hW4; clear hW4
  unfold maxLen at q2
  have hl1 : 1 ≤ f.length := by omega
  have hle : (f.length : Int) - 1 = n := by omega
  have Hl := Lib.hid hl
  have H4d : W4.heap[w.heap.size + 1 + 1 + 1]? = some (.cells #[.int .i64 n] 3 (0, 0)) := by have := H4.out.2.2.2.1; rw [hle] at this; exact this
  have H4d := Lib.hid H4d
  have hs4 := H4.out.2.2.2.2.1
  have Hr4 := Lib.hid (RdI.ok.keep Hr.out fun k hk => H4.out.2.2.2.2.2.block k (HP.out k hk))
  obtain ⟨b4, o4, u4, ea, _, hc4, rfl⟩ := Rd.elim Hr4.out 0 (by omega)
  obtain ⟨b5, o5, u5, eb, _, hc5, rfl⟩ := Rd.elim Hr4.out n (by omega)
  subst ea
  simp only [Option.some.injEq, Addr.mk.injEq, and_true] at eb
  obtain ⟨rfl, rfl⟩ := eb
  have hc6 : W4.cell? ⟨b4, o4, none⟩ = some (.int .i64 (nth f 0)) := hc4
  have hc7 : W4.cell? ⟨b4, o4 + n, none⟩ = some (.int .i64 (nth f n)) := hc5
  have hfn : nth f (f.length - 1) = nth f n := by rw [show f.length - 1 = n by omega]
  have hch := Lib.hid (chg_3 kind hkd b f)
  rw [hfn] at hch
  have d6 : W4.cell? ⟨w.heap.size + 1, 0, none⟩ = some (.slice (some ⟨b4, o4, none⟩) f.length cv) := heap_cell H4.out.2.1 (i := 0) rfl
  have d9 : W4.cell? ⟨w.heap.size + 1 + 1 + 1, 0, none⟩ = some (.int .i64 n) := heap_cell H4d.out (i := 0) rfl
  have k0 : ¬ kind = 0 := by omega
  have k1 : ¬ kind = 1 := by omega
  have k2 : ¬ kind = 2 := by omega
  have hn0 : (0 : Int) ≤ n := by omega
  have hnl : (n : Int) < (f.length : Int) := by omega
  have h0l : (0 : Int) < (f.length : Int) := by omega
  have h0n : 0 < f.length := by omega
  have hnn : n < f.length := by omega
  clear hl hle hfn hc4 hc5
  have Hl2 := Lib.hid (show 1 ≤ f.length from hl1)
  rcases hkd with rfl | rfl
  all_goals
    go_enter Try.func143, Try.ntmps143
    go_wp2
    rw [← HW4.out]
    go_quiet (fail)
    by_cases he : nth f 0 = nth f n
    · rw [if_pos he] at hch
      rw [hch.out] at Hdo
      have hE := implEach (M := w.heap.size) (pb := w.heap.size) (pf := w.heap.size + 1) (pd := w.heap.size + 1 + 1) (g := g) (gm := 167) (b := b) (cap := cap) (capm := #[.pointer (some ⟨w.heap.size + 1, 0, none⟩), .pointer (some ⟨w.heap.size + 1 + 1 + 1, 0, none⟩)]) (v := .slice (some ⟨b4, o4, none⟩) f.length cv) (f := f) (P := P) (w := W4.drewN nq) (fun c => (f.set 0 (c : Int)).set (f.length - 1) (c : Int)) J ⟨Nat.le_refl _, by omega, by omega⟩ (show w.heap.size ≤ W4.heap.size by omega) H4.out.1 H4.out.2.1 H4.out.2.2.1 hb.2 hl1 Hst.out Hrd.out (H0.out _ (Below.draws H4.out.2.2.2.2.2 _))
        (fun c hc w1 hk hr => implMk3 c n Hl.out (hk.heap (by omega) H4.out.2.1) (hk.heap (by omega) H4d.out) hr (fun k hk2 => by have h1 := HP.out k hk2; have h2 : W4.heap.size ≤ w1.heap.size := hk.size; omega) hn1 hn2) (fun c hc hne v' w1 h1 h2 => Hdo.out _ _ (each_pre f _ hc hne) v' w1 h1 h2) hc (fun args w => rfl)
      have HE := Lib.hid hE; clear hE
      have hk4 := Lib.hid (show Kept w.heap.size w (W4.drewN nq) from Kept.of_below (Below.draws H4.out.2.2.2.2.2 _))
      have heb : (nth f 0 == nth f n) = true := by simp [he]
      generalize W4.drewN nq = W5 at *
      clear he hc6 hc7 d6 d9
      go_wp2_with fail
      refine HE.out.mono ?_
      rintro e w5 ⟨rfl, hJ5, hK5⟩
      have HJ5 := Lib.hid hJ5
      have HK5 := Lib.hid (hk4.out.trans hK5)
      clear hJ5 hK5
      go_wp2
      go_end0
      exact ⟨rfl, by rw [hch.out]; exact HJ5.out, HK5.out⟩
    · rw [if_neg he] at hch
      have heb : (nth f 0 == nth f n) = false := by simp [he]
      have hJ4 := Lib.hid (H0.out (W4.drewN nq) (Below.draws H4.out.2.2.2.2.2 _))
      have hk4 := Lib.hid (show Kept w.heap.size w (W4.drewN nq) from Kept.of_below (Below.draws H4.out.2.2.2.2.2 _))
      clear he
      go_wp2
      go_end0
      exact ⟨rfl, by rw [hch.out]; exact hJ4.out, hk4.out⟩

theorem bcell2 {W w1 : World} (hb : Below W.heap.size W w1) : (∀ b o, b < W.heap.size → w1.cell? ⟨b, o, none⟩ = W.cell? ⟨b, o, none⟩) ∧ (∀ b o, b < W.heap.size → w1.frozen? ⟨b, o, none⟩ = W.frozen? ⟨b, o, none⟩) :=
  ⟨fun b o h => hb.cell (p := ⟨b, o, none⟩) h, fun b o h => hb.frozen (p := ⟨b, o, none⟩) h⟩
theorem chg_1 (kind : Int) (hk : kind = 1 ∨ kind = 2) (b : Nat) (f : List Int) : chg kind b f = if nth f 0 ≠ nth f (f.length - 1) then [(f.set 0 (nth f (f.length - 1))).set (f.length - 1) (nth f 0)] else [] := by
  rcases hk with rfl | rfl <;> rfl
set_option maxHeartbeats 3200000 in
set_option maxRecDepth 100000 in
theorem implChanges1 {P : Nat → Prop} (kind : Int) (hkd : kind = 1 ∨ kind = 2) (b : Nat) (hb : 2 ≤ b ∧ b ≤ 36) {v : Value} {f : List Int} {w : World} (n : Nat) (hl : f.length = n + 1) (hn1 : 1 ≤ n) (hn2 : n ≤ 2) (g : Nat) (cap : Array Value) (J : List (List Int) → World → Prop)
    (hr : RdI P w v f) (hP : ∀ k, P k → k < w.heap.size) (h0 : ∀ w1, Below w.heap.size w w1 → J [] w1) (hst : ∀ d w1 w2, J d w1 → Below w.heap.size w1 w2 → J d w2) (hrd : ∀ d w1, J d w1 → RdI P w1 v f)
    (hdo : ∀ d t, (d ++ [t]) <+: chg kind b f → ∀ v' w1, RdI (fun k => w.heap.size ≤ k ∧ k < w1.heap.size) w1 v' t → J d w1 → Calls Try.prog g (#[v'] ++ cap) w1 fun e w2 => e = .returned (.tuple #[]) ∧ J (d ++ [t]) w2 ∧ Kept w.heap.size w1 w2)
    (hc : ∀ (args : Array Value) (w : World), (callFunc g args).run Try.prog w = .ok (.enter g args) w) :
    Calls Try.prog 143 #[.int .i64 kind, .int .i64 b, v, .func (.func g) #[] cap] w fun e w' => e = .returned (.tuple #[]) ∧ J (chg kind b f) w' ∧ Kept w.heap.size w w' := by
  obtain ⟨av, cv, rfl, q1, q2⟩ := hr.isSlice
  have Hr := Lib.hid hr; clear hr
  have HP := Lib.hid hP; clear hP
  have H0 := Lib.hid h0; clear h0
  have Hst := Lib.hid hst; clear hst
  have Hrd := Lib.hid hrd; clear hrd
  have Hdo := Lib.hid hdo; clear hdo
  obtain ⟨W4, hW4⟩ : ∃ W4, W4 = (((w.alloc (.cells #[.int .i64 b] 2)).alloc (.cells #[.slice av f.length cv] 22)).alloc (.cells #[.func (.func g) #[] cap] 124)).alloc (.cells #[.int .i64 ((f.length : Int) - 1)] 3) := ⟨_, rfl⟩
  have H4 := Lib.hid (four w (.cells #[.int .i64 b] 2) (.cells #[.slice av f.length cv] 22) (.cells #[.func (.func g) #[] cap] 124) (.cells #[.int .i64 ((f.length : Int) - 1)] 3))
  rw [← hW4] at H4
  have HW4 := Lib.hid hW4; clear hW4
  unfold maxLen at q2
  have hl1 : 1 ≤ f.length := by omega
  have hle : (f.length : Int) - 1 = n := by omega
  have Hl := Lib.hid hl
  have H4d : W4.heap[w.heap.size + 1 + 1 + 1]? = some (.cells #[.int .i64 n] 3 (0, 0)) := by have := H4.out.2.2.2.1; rw [hle] at this; exact this
  have H4d := Lib.hid H4d
  have hs4 := H4.out.2.2.2.2.1
  have Hr4 := Lib.hid (RdI.ok.keep Hr.out fun k hk => H4.out.2.2.2.2.2.block k (HP.out k hk))
  obtain ⟨b4, o4, u4, ea, hP4, hc4, rfl⟩ := Rd.elim Hr4.out 0 (by omega)
  obtain ⟨b5, o5, u5, eb, _, hc5, rfl⟩ := Rd.elim Hr4.out n (by omega)
  subst ea
  simp only [Option.some.injEq, Addr.mk.injEq, and_true] at eb
  obtain ⟨rfl, rfl⟩ := eb
  have hc6 : W4.cell? ⟨b4, o4, none⟩ = some (.int .i64 (nth f 0)) := hc4
  have hc7 : W4.cell? ⟨b4, o4 + n, none⟩ = some (.int .i64 (nth f n)) := hc5
  have hfn : nth f (f.length - 1) = nth f n := by rw [show f.length - 1 = n by omega]
  have hch := Lib.hid (chg_1 kind hkd b f)
  rw [show f.length - 1 = n by omega] at hch
  clear hfn
  have d6 : W4.cell? ⟨w.heap.size + 1, 0, none⟩ = some (.slice (some ⟨b4, o4, none⟩) f.length cv) := heap_cell H4.out.2.1 (i := 0) rfl
  have d9 : W4.cell? ⟨w.heap.size + 1 + 1 + 1, 0, none⟩ = some (.int .i64 n) := heap_cell H4d.out (i := 0) rfl
  have k0 : ¬ kind = 0 := by omega
  have hn0 : (0 : Int) ≤ n := by omega
  have hnl : (n : Int) < (f.length : Int) := by omega
  have h0l : (0 : Int) < (f.length : Int) := by omega
  have h0n : 0 < f.length := by omega
  have hnn : n < f.length := by omega
  clear hl hle hc4 hc5
  rcases hkd with rfl | rfl
  all_goals
    go_enter Try.func143, Try.ntmps143
    go_wp2
    rw [← HW4.out]
    go_quiet (fail)
    have hk4 := Lib.hid (show Kept w.heap.size w (W4.drewN nq) from Kept.of_below (Below.draws H4.out.2.2.2.2.2 _))
    have hb4 := Lib.hid (show Below w.heap.size w (W4.drewN nq) from Below.draws H4.out.2.2.2.2.2 _)
    by_cases he : nth f 0 = nth f n
    · rw [if_neg (fun h => h he)] at hch
      have heb : (nth f 0 != nth f n) = false := by simp [he]
      have hJ4 := Lib.hid (H0.out (W4.drewN nq) hb4.out)
      clear he
      go_wp2
      go_end0
      exact ⟨rfl, by rw [hch.out]; exact hJ4.out, hk4.out⟩
    · rw [if_pos he] at hch
      rw [hch.out] at Hdo
      have heb : (nth f 0 != nth f n) = true := by simp [he]
      have d7 : W4.cell? ⟨w.heap.size + 1 + 1, 0, none⟩ = some (.func (.func g) #[] cap) := heap_cell H4.out.2.2.1 (i := 0) rfl
      have HrQ := Lib.hid (show RdI P (W4.drewN nq) (.slice (some ⟨b4, o4, none⟩) f.length cv) f from rd_draws RdI.ok Hr4.out nq)
      have hsQ : (W4.drewN nq).heap.size = w.heap.size + 4 := hs4
      have d6' : (W4.drewN nq).cell? ⟨w.heap.size + 1, 0, none⟩ = some (.slice (some ⟨b4, o4, none⟩) f.length cv) := d6
      have d7' : (W4.drewN nq).cell? ⟨w.heap.size + 1 + 1, 0, none⟩ = some (.func (.func g) #[] cap) := d7
      have d9' : (W4.drewN nq).cell? ⟨w.heap.size + 1 + 1 + 1, 0, none⟩ = some (.int .i64 n) := d9
      have c6' : (W4.drewN nq).cell? ⟨b4, o4, none⟩ = some (.int .i64 (nth f 0)) := hc6
      have c7' : (W4.drewN nq).cell? ⟨b4, o4 + n, none⟩ = some (.int .i64 (nth f n)) := hc7
      have hPb : b4 < w.heap.size := HP.out _ hP4
      clear d6 d7 d9 hc6 hc7 he
      generalize W4.drewN nq = W5 at *
      go_wp2_with fail
      refine (slClone HrQ.out (fun k hk => by have := HP.out k hk; omega) (by have := Hl.out; omega)).mono ?_
      rintro e w6 ⟨v6, rfl, hf6⟩
      obtain ⟨hcc, hzz⟩ := bcell2 hf6.bel
      have d6 := (hcc (w.heap.size + 1) 0 (by omega)).trans d6'
      have d7 := (hcc (w.heap.size + 1 + 1) 0 (by omega)).trans d7'
      have d9 := (hcc (w.heap.size + 1 + 1 + 1) 0 (by omega)).trans d9'
      have c6 := (hcc b4 o4 (by omega)).trans c6'
      have c7 := (hcc b4 (o4 + n) (by omega)).trans c7'
      obtain ⟨gg, cp, rfl⟩ := hf6.shape (by omega)
      have hl6 := hf6.len1
      unfold maxLen at hl6
      obtain ⟨hl7, hl8, hl9⟩ := hl6
      obtain ⟨a0, a1, a2, a3, a4⟩ := hf6.put1 (fun _ => rfl) (i := 0) (by omega)
      obtain ⟨e0, e1, e2, e3, e4⟩ := hf6.put1 (fun _ => rfl) (i := n) (by omega)
      have hq : Fresh OI W5 ((w6.setCell ⟨gg, 0, none⟩ (.int .i64 (nth f n))).setCell ⟨gg, n, none⟩ (.int .i64 (nth f 0))) (.slice (some ⟨gg, 0, none⟩) f.length cp) ((f.set 0 (nth f n)).set n (nth f 0)) := by
        have h1 : Fresh OI W5 (w6.setCell ⟨gg, 0, none⟩ (.int .i64 (nth f n))) (.slice (some ⟨gg, 0, none⟩) f.length cp) (f.set 0 (nth f n)) := a4 w6 (Below.refl _ _) (nth f n)
        obtain ⟨_, _, _, _, h2⟩ := h1.put1 (fun _ => rfl) (i := n) (by simp; omega)
        exact h2 _ (Below.refl _ _) _
      have n1 : ¬ w.heap.size + 1 = gg := by omega
      have n2 : ¬ w.heap.size + 1 + 1 = gg := by omega
      have n3 : ¬ w.heap.size + 1 + 1 + 1 = gg := by omega
      have n4 : ¬ b4 = gg := by omega
      have n5 : ¬ n = 0 := by omega
      have Hq := Lib.hid hq
      clear a4 e4 hq hf6 hcc hzz d6' d7' d9' c6' c7' hl7
      have Hdo1 := Lib.hid (fun v' w1 h1 h2 => Hdo.out [] _ (List.prefix_refl _) v' w1 h1 h2)
      have hsz6 := hsQ
      go_wp2
      go_region
      all_goals
        have hf7 := Lib.hid (Hq.out.stay OI.ok (w' := ((w6.setCell ⟨gg, 0, none⟩ (.int .i64 (nth f n))).setCell ⟨gg, n, none⟩ (.int .i64 (nth f 0))).drew) ⟨rfl, rfl, rfl, Nat.le_refl _, fun _ _ => rfl⟩)
        go_wp2_with fail
        generalize ((w6.setCell ⟨gg, 0, none⟩ (.int .i64 (nth f n))).setCell ⟨gg, n, none⟩ (.int .i64 (nth f 0))).drew = W7 at *
        have hs7 := hf7.out.bel.size
        have hb7 := Lib.hid (hb4.out.trans (hf7.out.bel.mono (by omega)))
        have hcs := hf7.out.choose_spec
        refine (Hdo1.out _ W7 (OI.leads.to _ _ _ _ _ hcs.1 fun k hk => ⟨by have := hcs.2.1 k hk; omega, OI.ok.lt hcs.1 k hk⟩) (H0.out _ hb7.out)).mono ?_
        rintro e w8 ⟨rfl, hJ8, hK8⟩
        have HJ8 := Lib.hid hJ8
        have HK8 := Lib.hid ((Kept.of_below hb7.out).trans hK8)
        clear hJ8 hK8 hcs
        go_wp2
        go_end0
        exact ⟨rfl, by rw [hch.out]; exact HJ8.out, HK8.out⟩
end Go.Proofs.Ytnpkanlieflbiaa
/- Into what phonetic errors change symbols; all kinds. -/
namespace Go.Proofs.Ytnpkanlieflbiaa
open Go.RowKit
set_option linter.unusedVariables false

theorem post5 {P : Nat → Prop} {W8 : World} {pf pd b4 o4 n c g : Nat} {cap : Array Value} {f : List Int} (hr : RdI P W8 (.slice (some ⟨b4, o4, none⟩) n c) f) (hl : 2 ≤ f.length) (h1 : W8.heap[pf]? = some (.cells #[.slice (some ⟨b4, o4, none⟩) n c] 22 (0, 0))) (h2 : W8.heap[pd]? = some (.cells #[.func (.func g) #[] cap] 124 (0, 0))) :
    (W8.cell? ⟨pf, 0, none⟩ = some (.slice (some ⟨b4, o4, none⟩) n c) ∧ W8.cell? ⟨pd, 0, none⟩ = some (.func (.func g) #[] cap)) ∧ W8.cell? ⟨b4, o4, none⟩ = some (.int .i64 (nth f 0)) ∧ W8.cell? ⟨b4, o4 + 1, none⟩ = some (.int .i64 (nth f 1)) := by
  obtain ⟨b5, o5, u5, ea, _, hc5, rfl⟩ := Rd.elim hr 0 (by omega)
  obtain ⟨b6, o6, u6, eb, _, hc6, rfl⟩ := Rd.elim hr 1 (by omega)
  simp only [Option.some.injEq, Addr.mk.injEq, and_true] at ea eb
  obtain ⟨rfl, rfl⟩ := ea
  obtain ⟨rfl, rfl⟩ := eb
  exact ⟨⟨heap_cell h1 rfl, heap_cell h2 rfl⟩, hc5, hc6⟩
theorem chg_5 (b : Nat) (f : List Int) : chg 5 b f = if nth f 1 = 0 ∧ 2 ≤ nth f 0 ∧ nth f 0 ≤ 9 then [[1, nth f 0]] else if nth f 0 = 1 ∧ 2 ≤ nth f 1 ∧ nth f 1 ≤ 9 then [[nth f 1, 0]] else [] := rfl
set_option maxHeartbeats 3200000 in
set_option maxRecDepth 100000 in
theorem implChanges5 {P : Nat → Prop} (b : Nat) (hb : 2 ≤ b ∧ b ≤ 36) {v : Value} {f : List Int} {w : World} (hl : f.length = 2) (g : Nat) (cap : Array Value) (J : List (List Int) → World → Prop)
    (hr : RdI P w v f) (hP : ∀ k, P k → k < w.heap.size) (h0 : ∀ w1, Below w.heap.size w w1 → J [] w1) (hst : ∀ d w1 w2, J d w1 → Below w.heap.size w1 w2 → J d w2) (hrd : ∀ d w1, J d w1 → RdI P w1 v f)
    (hdo : ∀ d t, (d ++ [t]) <+: chg 5 b f → ∀ v' w1, RdI (fun k => w.heap.size ≤ k ∧ k < w1.heap.size) w1 v' t → J d w1 → Calls Try.prog g (#[v'] ++ cap) w1 fun e w2 => e = .returned (.tuple #[]) ∧ J (d ++ [t]) w2 ∧ Kept w.heap.size w1 w2)
    (hc : ∀ (args : Array Value) (w : World), (callFunc g args).run Try.prog w = .ok (.enter g args) w) :
    Calls Try.prog 143 #[.int .i64 5, .int .i64 b, v, .func (.func g) #[] cap] w fun e w' => e = .returned (.tuple #[]) ∧ J (chg 5 b f) w' ∧ Kept w.heap.size w w' := by
  obtain ⟨av, cv, rfl, q1, q2⟩ := hr.isSlice
  have Hr := Lib.hid hr; clear hr
  have HP := Lib.hid hP; clear hP
  have H0 := Lib.hid h0; clear h0
  have Hst := Lib.hid hst; clear hst
  have Hrd := Lib.hid hrd; clear hrd
  have Hdo := Lib.hid hdo; clear hdo
  obtain ⟨W4, hW4⟩ : ∃ W4, W4 = (((w.alloc (.cells #[.int .i64 b] 2)).alloc (.cells #[.slice av f.length cv] 22)).alloc (.cells #[.func (.func g) #[] cap] 124)).alloc (.cells #[.int .i64 ((f.length : Int) - 1)] 3) := ⟨_, rfl⟩
  have H4 := Lib.hid (four w (.cells #[.int .i64 b] 2) (.cells #[.slice av f.length cv] 22) (.cells #[.func (.func g) #[] cap] 124) (.cells #[.int .i64 ((f.length : Int) - 1)] 3))
  rw [← hW4] at H4
  have HW4 := Lib.hid hW4; clear hW4
  unfold maxLen at q2
  have hs4 := H4.out.2.2.2.2.1
  have Hr4 := Lib.hid (RdI.ok.keep Hr.out fun k hk => H4.out.2.2.2.2.2.block k (HP.out k hk))
  obtain ⟨b4, o4, u4, ea, hP4, hc4, rfl⟩ := Rd.elim Hr4.out 0 (by omega)
  obtain ⟨b5, o5, u5, eb, _, hc5, rfl⟩ := Rd.elim Hr4.out 1 (by omega)
  subst ea
  simp only [Option.some.injEq, Addr.mk.injEq, and_true] at eb
  obtain ⟨rfl, rfl⟩ := eb
  obtain ⟨b6, o6, u6, ec, _, hc8, rfl⟩ := Rd.elim Hr.out 0 (by omega)
  obtain ⟨b7, o7, u7, ed, _, hc9, rfl⟩ := Rd.elim Hr.out 1 (by omega)
  simp only [Option.some.injEq, Addr.mk.injEq, and_true] at ec ed
  obtain ⟨rfl, rfl⟩ := ec
  obtain ⟨rfl, rfl⟩ := ed
  have hw6 : w.cell? ⟨b4, o4, none⟩ = some (.int .i64 (nth f 0)) := hc8
  have hw7 : w.cell? ⟨b4, o4 + 1, none⟩ = some (.int .i64 (nth f 1)) := hc9
  have hc6 : W4.cell? ⟨b4, o4, none⟩ = some (.int .i64 (nth f 0)) := hc4
  have hc7 : W4.cell? ⟨b4, o4 + 1, none⟩ = some (.int .i64 (nth f 1)) := hc5
  have d6 : W4.cell? ⟨w.heap.size + 1, 0, none⟩ = some (.slice (some ⟨b4, o4, none⟩) f.length cv) := heap_cell H4.out.2.1 (i := 0) rfl
  have d7 : W4.cell? ⟨w.heap.size + 1 + 1, 0, none⟩ = some (.func (.func g) #[] cap) := heap_cell H4.out.2.2.1 (i := 0) rfl
  have h0l : (0 : Int) < (f.length : Int) := by omega
  have h0n : 0 < f.length := by omega
  have h1l : (1 : Int) < (f.length : Int) := by omega
  have h1n : 1 < f.length := by omega
  have Hl := Lib.hid hl
  have hPb : b4 < w.heap.size := HP.out _ hP4
  clear hl hc4 hc5 hc8 hc9
  have hraw := (bcell2 H4.out.2.2.2.2.2).1
  rw [HW4.out] at hraw
  have Hpost := Lib.hid (fun (W8 : World) (d : List (List Int)) (hJ : J d W8) (hK : Kept w.heap.size W4 W8) => post5 (Hrd.out d W8 hJ) (by have := Hl.out; omega) (hK.heap (by omega) H4.out.2.1) (hK.heap (by omega) H4.out.2.2.1))
  have Hs4 := Lib.hid hs4; clear hs4
  by_cases c1 : nth f 1 = 0 ∧ 2 ≤ nth f 0 ∧ nth f 0 ≤ 9
  · have hpr : chg 5 b f = [[1, nth f 0]] := by rw [chg_5]; exact if_pos c1
    rw [hpr] at Hdo
    have Hpr := Lib.hid hpr; clear hpr
    have Hdo1 := Lib.hid (fun v' w1 h1 h2 => Hdo.out [] _ (List.prefix_refl _) v' w1 h1 h2)
    have hin : inB (nth f 0) 2 9 = true := inB_true.2 c1.2
    have heb : (nth f 1 == 0) = true := by simp [c1.1]
    clear c1
    go_enter Try.func143, Try.ntmps143
    go_wp2_with (go_at_call 78; refine (implIn _ _ _ _ (by assumption) _).mono ?_; rintro e w' ⟨rfl, rfl⟩)
    rw [← HW4.out]
    have hlit := Lib.hid (Own.lit W4.drew 2 fI [1, nth f 0] (by unfold maxLen; simp))
    have hfr := Lib.hid (show Fresh OI W4 (W4.drew.alloc (.cells ([1, nth f 0].map fI).toArray 2)) (.slice (some ⟨W4.heap.size, 0, none⟩) 2 2) [1, nth f 0] from ⟨_, hlit.out, by simp, (Below.drew (Below.refl W4.heap.size W4)).alloc (Nat.le_refl _) _⟩)
    have hbl := Lib.hid (show Below w.heap.size w (W4.drew.alloc (.cells ([1, nth f 0].map fI).toArray 2)) from H4.out.2.2.2.2.2.trans (hfr.out.bel.mono (by have := Hs4.out; omega)))
    have hcs := Lib.hid (show RdI (fun k => w.heap.size ≤ k ∧ k < (W4.drew.alloc (.cells ([1, nth f 0].map fI).toArray 2)).heap.size) _ (.slice (some ⟨W4.heap.size, 0, none⟩) 2 2) [1, nth f 0] from OI.leads.to _ _ _ _ _ hlit.out fun k hk => ⟨by simp at hk; have := Hs4.out; omega, OI.ok.lt hlit.out k hk⟩)
    have hkb := Lib.hid (show Kept w.heap.size W4 (W4.drew.alloc (.cells ([1, nth f 0].map fI).toArray 2)) from Kept.of_below hfr.out.bel)
    go_region_held3 (fun w' => (w'.cell? ⟨w.heap.size + 1, 0, none⟩ = some (.slice (some ⟨b4, o4, none⟩) f.length cv) ∧ w'.cell? ⟨w.heap.size + 1 + 1, 0, none⟩ = some (.func (.func g) #[] cap)) ∧ w'.cell? ⟨b4, o4, none⟩ = some (.int .i64 (nth f 0))) (first | go_keep | exact ⟨s1, s2⟩) (first
      | (refine (Calls.mono (Hdo1.out _ _ hcs.out (H0.out _ hbl.out)) ?_); rintro e W8 ⟨rfl, hJ8, hK8⟩; have HJ8 := Lib.hid hJ8; have HK8 := Lib.hid hK8; obtain ⟨s1, s2, s3⟩ := Hpost.out W8 _ hJ8 (hkb.out.trans hK8); clear hJ8 hK8)
      | fail)
    clear s1 s2 s3
    go_wp2
    go_end0
    exact ⟨rfl, by rw [Hpr.out]; exact HJ8.out, (Kept.of_below hbl.out).trans HK8.out⟩
  · by_cases c2 : nth f 0 = 1 ∧ 2 ≤ nth f 1 ∧ nth f 1 ≤ 9
    · have hpr : chg 5 b f = [[nth f 1, 0]] := by rw [chg_5]; rw [if_neg c1, if_pos c2]
      rw [hpr] at Hdo
      have Hpr := Lib.hid hpr; clear hpr
      have Hdo1 := Lib.hid (fun v' w1 h1 h2 => Hdo.out [] _ (List.prefix_refl _) v' w1 h1 h2)
      have hin : inB (nth f 1) 2 9 = true := inB_true.2 c2.2
      have heb : (nth f 1 == 0) = false := by simp; omega
      have heb2 : (nth f 0 == 1) = true := by simp [c2.1]
      clear c1 c2
      go_enter Try.func143, Try.ntmps143
      go_wp2_with (go_at_call 78; refine (implIn _ _ _ _ (by assumption) _).mono ?_; rintro e w' ⟨rfl, rfl⟩)
      rw [← HW4.out]
      have hlit := Lib.hid (Own.lit W4.drew 2 fI [nth f 1, 0] (by unfold maxLen; simp))
      have hfr := Lib.hid (show Fresh OI W4 (W4.drew.alloc (.cells ([nth f 1, 0].map fI).toArray 2)) (.slice (some ⟨W4.heap.size, 0, none⟩) 2 2) [nth f 1, 0] from ⟨_, hlit.out, by simp, (Below.drew (Below.refl W4.heap.size W4)).alloc (Nat.le_refl _) _⟩)
      have hbl := Lib.hid (show Below w.heap.size w (W4.drew.alloc (.cells ([nth f 1, 0].map fI).toArray 2)) from H4.out.2.2.2.2.2.trans (hfr.out.bel.mono (by have := Hs4.out; omega)))
      have hcs := Lib.hid (show RdI (fun k => w.heap.size ≤ k ∧ k < (W4.drew.alloc (.cells ([nth f 1, 0].map fI).toArray 2)).heap.size) _ (.slice (some ⟨W4.heap.size, 0, none⟩) 2 2) [nth f 1, 0] from OI.leads.to _ _ _ _ _ hlit.out fun k hk => ⟨by simp at hk; have := Hs4.out; omega, OI.ok.lt hlit.out k hk⟩)
      have hkb := Lib.hid (show Kept w.heap.size W4 (W4.drew.alloc (.cells ([nth f 1, 0].map fI).toArray 2)) from Kept.of_below hfr.out.bel)
      go_region_held3 (fun w' => (w'.cell? ⟨w.heap.size + 1, 0, none⟩ = some (.slice (some ⟨b4, o4, none⟩) f.length cv) ∧ w'.cell? ⟨w.heap.size + 1 + 1, 0, none⟩ = some (.func (.func g) #[] cap)) ∧ w'.cell? ⟨b4, o4 + 1, none⟩ = some (.int .i64 (nth f 1))) (first | go_keep | exact ⟨s1, s3⟩) (first
        | (refine (Calls.mono (Hdo1.out _ _ hcs.out (H0.out _ hbl.out)) ?_); rintro e W8 ⟨rfl, hJ8, hK8⟩; have HJ8 := Lib.hid hJ8; have HK8 := Lib.hid hK8; obtain ⟨s1, s2, s3⟩ := Hpost.out W8 _ hJ8 (hkb.out.trans hK8); clear hJ8 hK8)
        | fail)
      clear s1 s2 s3
      go_wp2
      go_end0
      exact ⟨rfl, by rw [Hpr.out]; exact HJ8.out, (Kept.of_below hbl.out).trans HK8.out⟩
    · have hpr : chg 5 b f = [] := by rw [chg_5]; rw [if_neg c1, if_neg c2]
      have Hpr := Lib.hid hpr; clear hpr
      have hJ4 := Lib.hid (H0.out W4 H4.out.2.2.2.2.2)
      have hk4 := Lib.hid (Kept.of_below (M := w.heap.size) H4.out.2.2.2.2.2)
      by_cases z1 : nth f 1 = 0
      · have hin : inB (nth f 0) 2 9 = false := by rw [inB_false]; omega
        have hin2 : inB (nth f 1) 2 9 = false := by rw [inB_false]; omega
        have heb : (nth f 1 == 0) = true := by simp [z1]
        by_cases z0 : nth f 0 = 1
        · have heb2 : (nth f 0 == 1) = true := by simp [z0]
          clear c1 c2 z1 z0
          go_enter Try.func143, Try.ntmps143
          go_wp2_with (go_at_call 78; refine (implIn _ _ _ _ (by assumption) _).mono ?_; rintro e w' ⟨rfl, rfl⟩)
          rw [← HW4.out]
          go_end0
          exact ⟨rfl, by rw [Hpr.out]; exact hJ4.out, hk4.out⟩
        · have heb2 : (nth f 0 == 1) = false := by simp [z0]
          clear c1 c2 z1 z0
          go_enter Try.func143, Try.ntmps143
          go_wp2_with (go_at_call 78; refine (implIn _ _ _ _ (by assumption) _).mono ?_; rintro e w' ⟨rfl, rfl⟩)
          rw [← HW4.out]
          go_end0
          exact ⟨rfl, by rw [Hpr.out]; exact hJ4.out, hk4.out⟩
      · have heb : (nth f 1 == 0) = false := by simp [z1]
        by_cases z0 : nth f 0 = 1
        · have hin2 : inB (nth f 1) 2 9 = false := by rw [inB_false]; omega
          have heb2 : (nth f 0 == 1) = true := by simp [z0]
          clear c1 c2 z1 z0
          go_enter Try.func143, Try.ntmps143
          go_wp2_with (go_at_call 78; refine (implIn _ _ _ _ (by assumption) _).mono ?_; rintro e w' ⟨rfl, rfl⟩)
          rw [← HW4.out]
          go_end0
          exact ⟨rfl, by rw [Hpr.out]; exact hJ4.out, hk4.out⟩
        · have heb2 : (nth f 0 == 1) = false := by simp [z0]
          clear c1 c2 z1 z0
          go_enter Try.func143, Try.ntmps143
          go_wp2_with (go_at_call 78; refine (implIn _ _ _ _ (by assumption) _).mono ?_; rintro e w' ⟨rfl, rfl⟩)
          rw [← HW4.out]
          go_end0
          exact ⟨rfl, by rw [Hpr.out]; exact hJ4.out, hk4.out⟩

theorem implChanges {P : Nat → Prop} (kind : Int) (hkd : 0 ≤ kind ∧ kind ≤ 5) (b : Nat) (hb : 2 ≤ b ∧ b ≤ 36) {v : Value} {f : List Int} {w : World} (hl : f.length = errLen kind) (g : Nat) (cap : Array Value) (J : List (List Int) → World → Prop)
    (hr : RdI P w v f) (hP : ∀ k, P k → k < w.heap.size) (h0 : ∀ w1, Below w.heap.size w w1 → J [] w1) (hst : ∀ d w1 w2, J d w1 → Below w.heap.size w1 w2 → J d w2) (hrd : ∀ d w1, J d w1 → RdI P w1 v f)
    (hdo : ∀ d t, (d ++ [t]) <+: chg kind b f → ∀ v' w1, RdI (fun k => w.heap.size ≤ k ∧ k < w1.heap.size) w1 v' t → J d w1 → Calls Try.prog g (#[v'] ++ cap) w1 fun e w2 => e = .returned (.tuple #[]) ∧ J (d ++ [t]) w2 ∧ Kept w.heap.size w1 w2)
    (hc : ∀ (args : Array Value) (w : World), (callFunc g args).run Try.prog w = .ok (.enter g args) w) :
    Calls Try.prog 143 #[.int .i64 kind, .int .i64 b, v, .func (.func g) #[] cap] w fun e w' => e = .returned (.tuple #[]) ∧ J (chg kind b f) w' ∧ Kept w.heap.size w w' := by
  have hk : kind = 0 ∨ kind = 1 ∨ kind = 2 ∨ kind = 3 ∨ kind = 4 ∨ kind = 5 := by omega
  rcases hk with rfl | rfl | rfl | rfl | rfl | rfl
  · exact implChanges0 b hb hl g cap J hr hP h0 hst hrd hdo hc
  · exact implChanges1 1 (.inl rfl) b hb 1 hl (by omega) (by omega) g cap J hr hP h0 hst hrd hdo hc
  · exact implChanges1 2 (.inr rfl) b hb 2 hl (by omega) (by omega) g cap J hr hP h0 hst hrd hdo hc
  · exact implChanges3 3 (.inl rfl) b hb 1 hl (by omega) (by omega) g cap J hr hP h0 hst hrd hdo hc
  · exact implChanges3 4 (.inr rfl) b hb 2 hl (by omega) (by omega) g cap J hr hP h0 hst hrd hdo hc
  · exact implChanges5 b hb hl g cap J hr hP h0 hst hrd hdo hc
end Go.Proofs.Ytnpkanlieflbiaa
