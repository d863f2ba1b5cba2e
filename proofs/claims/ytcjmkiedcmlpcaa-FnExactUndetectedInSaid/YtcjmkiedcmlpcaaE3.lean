/- Into what an error of a kind changes symbols, handed on to whatever closure: impl.changes. -/
import Derived.Test.YtcjmkiedcmlpcaaD3
import Derived.Test.YtcjmkiedcmlpcaaC2
import Derived.Test.YtcjmkiedcmlpcaaO2
import Derived.Test.YtcjmkiedcmlpcaaF2
import Derived.Deep.QuietTactic
import Derived.BigQuiet
import Derived.IntWalk
import Derived.Deep.RegionHeld3
import Derived.StillTailTactics
namespace Go.Proofs.Ytcjmkiedcmlpcaa
open Go.RowKit
set_option linter.unusedVariables false

/-- What lies from block M on is as it was. -/
structure Kept (M : Nat) (w w' : World) : Prop where
  size : w.heap.size ≤ w'.heap.size
  block : ∀ k, M ≤ k → k < w.heap.size → w'.heap[k]? = w.heap[k]?
theorem Kept.refl (M : Nat) (w : World) : Kept M w w := ⟨Nat.le_refl _, fun _ _ _ => rfl⟩
theorem Kept.trans {M : Nat} {w w1 w2 : World} (h : Kept M w w1) (k : Kept M w1 w2) : Kept M w w2 := ⟨Nat.le_trans h.size k.size, fun i h1 h2 => (k.block i h1 (Nat.lt_of_lt_of_le h2 h.size)).trans (h.block i h1 h2)⟩
theorem Kept.of_below {M : Nat} {w w' : World} (h : Below w.heap.size w w') : Kept M w w' := ⟨h.size, fun k _ hk => h.block k hk⟩
theorem Kept.heap {M : Nat} {w w' : World} (h : Kept M w w') {k : Nat} {o : Obj} (hM : M ≤ k) (ho : w.heap[k]? = some o) : w'.heap[k]? = some o := (h.block k hM (Array.getElem?_eq_some_iff.1 ho).1).trans ho

theorem hf_heap {W w1 : World} (h : Below W.heap.size W w1) {k : Nat} {o : Obj} (hk : W.heap[k]? = some o) : w1.heap[k]? = some o := (h.block k (Array.getElem?_eq_some_iff.1 hk).1).trans hk

theorem implMk2 (c : Nat) (w : World) : Calls Try.prog 123 #[.int .i64 c] w fun e w' => ∃ v, e = .returned v ∧ Fresh OI w w' v [(c : Int)] := by
  have hl := Lib.hid (Own.lit w 2 fI [(c : Int)] (by unfold maxLen; simp))
  go_enter Try.func123, Try.ntmps123
  go_wp2
  go_ret
  exact ⟨_, rfl, _, hl.out, by simp, (Below.refl _ _).alloc (Nat.le_refl _) _⟩

set_option maxHeartbeats 1600000 in
set_option maxRecDepth 10000 in
theorem implMk3 {P : Nat → Prop} {pf pl : Nat} {v : Value} {f : List Int} (c : Nat) {w : World} (n : Nat) (hn : f.length = n + 1) (h1 : w.heap[pf]? = some (.cells #[v] 23 (0, 0))) (h2 : w.heap[pl]? = some (.cells #[.int .i64 n] 3 (0, 0)))
    (hr : RdI P w v f) (hP : ∀ k, P k → k < w.heap.size) (hf1 : 1 ≤ n) (hf3 : n ≤ 2) :
    Calls Try.prog 124 #[.int .i64 c, .pointer (some ⟨pf, 0, none⟩), .pointer (some ⟨pl, 0, none⟩)] w fun e w' => ∃ v', e = .returned v' ∧ Fresh OI w w' v' ((f.set 0 (c : Int)).set (f.length - 1) (c : Int)) := by
  have c1 := heap_cell h1 (i := 0) rfl
  have c2 := heap_cell h2 (i := 0) rfl
  have hpl := heap_lt h2
  have H1 := Lib.hid h1; clear h1
  have H2 := Lib.hid h2; clear h2
  have Hr := Lib.hid hr; clear hr
  have HP := Lib.hid hP; clear hP
  rw [show f.length - 1 = n by omega]
  have Hn := Lib.hid hn; clear hn
  go_enter Try.func124, Try.ntmps124
  go_wp2_with fail
  refine (slClone Hr.out HP.out (by have := Hn.out; omega)).mono ?_
  rintro e w1 ⟨v1, rfl, hf⟩
  have c2' := heap_cell (hf_heap hf.bel H2.out) (i := 0) rfl
  obtain ⟨g, cp, rfl⟩ := hf.shape (by have := Hn.out; omega)
  have hl := hf.len1
  unfold maxLen at hl
  obtain ⟨d0, d1, d2, d3, d4⟩ := hf.put1 (fun _ => rfl) (i := 0) (by have := Hn.out; omega)
  obtain ⟨e0, e1, e2, e3, e4⟩ := hf.put1 (fun _ => rfl) (i := n) (by have := Hn.out; omega)
  have hq : Fresh OI w (((w1.drew).setCell ⟨g, 0, none⟩ (.int .i64 c)).setCell ⟨g, n, none⟩ (.int .i64 c)) (.slice (some ⟨g, 0, none⟩) f.length cp) ((f.set 0 (c : Int)).set n (c : Int)) := by
    have h1 := d4 w1.drew ((Below.refl _ _).drew) (c : Int)
    have h1' : Fresh OI w ((w1.drew).setCell ⟨g, 0, none⟩ (.int .i64 c)) (.slice (some ⟨g, 0, none⟩) f.length cp) (f.set 0 (c : Int)) := h1
    obtain ⟨_, _, _, _, h2⟩ := h1'.put1 (fun _ => rfl) (i := n) (by have := Hn.out; simp; omega)
    exact h2 _ (Below.refl _ _) _
  have hne : ¬ pl = g := by omega
  have hne0 : ¬ n = 0 := by omega
  rw [Hn.out] at hq hl ⊢
  have Hq := Lib.hid hq
  obtain ⟨hl1, hl2, hl3⟩ := hl
  clear d4 e4 hq hf hl1
  go_wp2
  go_region
  all_goals go_wp2
  all_goals go_ret
  all_goals exact ⟨_, rfl, Hq.out.stay OI.ok ⟨rfl, rfl, rfl, Nat.le_refl _, fun _ _ => rfl⟩⟩

/-- The digits other than the first symbol, by what they become. -/
def eachL (f : List Int) (mk : Nat → List Int) (c : Nat) : List (List Int) := ((List.range c).filter fun (z : Nat) => decide ((z : Int) ≠ nth f 0)).map mk
theorem eachL_no {f : List Int} {mk : Nat → List Int} {c : Nat} (h : (c : Int) = nth f 0) : eachL f mk (c + 1) = eachL f mk c := by simp [eachL, List.range_succ, h]
theorem eachL_yes {f : List Int} {mk : Nat → List Int} {c : Nat} (h : (c : Int) ≠ nth f 0) : eachL f mk (c + 1) = eachL f mk c ++ [mk c] := by simp [eachL, List.range_succ, h]

set_option maxHeartbeats 1600000 in
set_option maxRecDepth 10000 in
theorem implEach {M pb pf pd g gm b : Nat} {cap capm : Array Value} {v : Value} {f : List Int} {P : Nat → Prop} {w : World} (mk : Nat → List Int) (J : List (List Int) → World → Prop)
    (hM : M ≤ pb ∧ M ≤ pf ∧ M ≤ pd) (hMw : M ≤ w.heap.size) (h1 : w.heap[pb]? = some (.cells #[.int .i64 b] 2 (0, 0))) (h2 : w.heap[pf]? = some (.cells #[v] 23 (0, 0))) (h3 : w.heap[pd]? = some (.cells #[.func (.func g) #[] cap] 95 (0, 0)))
    (hb : b ≤ 36) (hf : 1 ≤ f.length) (hst : ∀ d w1 w2, J d w1 → Below M w1 w2 → J d w2) (hrd : ∀ d w1, J d w1 → RdI P w1 v f) (hJ : J [] w)
    (hmk : ∀ c, c < b → ∀ w1, Kept M w w1 → RdI P w1 v f → Calls Try.prog gm (#[.int .i64 c] ++ capm) w1 fun e w2 => ∃ v', e = .returned v' ∧ Fresh OI w1 w2 v' (mk c))
    (hdo : ∀ c, c < b → (c : Int) ≠ nth f 0 → ∀ v' w1, RdI (fun k => M ≤ k ∧ k < w1.heap.size) w1 v' (mk c) → J (eachL f mk c) w1 → Calls Try.prog g (#[v'] ++ cap) w1 fun e w2 => e = .returned (.tuple #[]) ∧ J (eachL f mk c ++ [mk c]) w2 ∧ Kept M w1 w2)
    (hc : ∀ (args : Array Value) (w : World), (callFunc g args).run Try.prog w = .ok (.enter g args) w) (hcm : ∀ (args : Array Value) (w : World), (callFunc gm args).run Try.prog w = .ok (.enter gm args) w) :
    Calls Try.prog 122 #[.func (.func gm) #[] capm, .pointer (some ⟨pb, 0, none⟩), .pointer (some ⟨pf, 0, none⟩), .pointer (some ⟨pd, 0, none⟩)] w fun e w' => e = .returned (.tuple #[]) ∧ J (eachL f mk b) w' ∧ Kept M w w' := by
  obtain ⟨av, cv, rfl, q1, q2⟩ := (hrd _ _ hJ).isSlice
  have c1 : w.cell? ⟨pb, 0, none⟩ = some (.int .i64 b) := heap_cell h1 (i := 0) rfl
  have H1 := Lib.hid h1; clear h1
  have H2 := Lib.hid h2; clear h2
  have H3 := Lib.hid h3; clear h3
  have Hst := Lib.hid hst; clear hst
  have Hrd := Lib.hid hrd; clear hrd
  have HJ := Lib.hid hJ; clear hJ
  have Hmk := Lib.hid hmk; clear hmk
  have Hdo := Lib.hid hdo; clear hdo
  unfold maxLen at q2
  go_enter Try.func122, Try.ntmps122
  go_wp2
  go_loopw [7] (fun i wr => ∃ c : Nat, c ≤ b ∧ i = .int .i64 c ∧ Hid (J (eachL f mk c) wr) ∧ Hid (Kept M w wr)) (fun i _ => b - (intOf i).toNat)
  case atStart => exact ⟨0, Nat.zero_le _, rfl, HJ, Lib.hid (Kept.refl M _)⟩
  case round =>
    clear c1
    obtain ⟨c, hc1, rfl, hJ, hK⟩ := hrel
    obtain ⟨W2, rfl⟩ : ∃ W2, W2 = wr := ⟨_, rfl⟩
    by_cases hlt : c < b
    · have c2 := heap_cell (hK.out.heap hM.2.1 H2.out) (i := 0) rfl
      have c3 := heap_cell (hK.out.heap hM.2.2 H3.out) (i := 0) rfl
      obtain ⟨b4, o4, u4, rfl, _, hc4, rfl⟩ := Rd.elim (Hrd.out _ _ hJ.out) 0 hf
      have hc5 : W2.cell? ⟨b4, o4, none⟩ = some (.int .i64 (nth f 0)) := hc4
      clear hc4
      by_cases hne : (c : Int) = nth f 0
      · have hb1 : ((c : Int) != nth f 0) = false := by simp [hne]
        have hJ2 := Lib.hid (show J (eachL f mk (c + 1)) W2 by rw [eachL_no hne]; exact hJ.out)
        clear hne
        go_wp2
        go_roundw
        case rel => exact ⟨c + 1, by omega, by go_num, hJ2, hK⟩
        case measure => simp [intOf]; omega
      · have hb1 : ((c : Int) != nth f 0) = true := by simp [hne]
        have hJd := Hst.out _ _ W2.drew hJ.out (Below.drew (Below.refl _ _))
        have hmk2 := Lib.hid (fun w1 (hk : Kept M W2 w1) hr => Hmk.out c hlt w1 (hK.out.trans hk) hr)
        have hmk2' := Lib.hid (Hmk.out c hlt W2.drew (hK.out.trans ⟨Nat.le_refl _, fun _ _ _ => rfl⟩) (Hrd.out _ _ hJd))
        have HJd := Lib.hid hJd
        have Hne := Lib.hid hne
        clear hne hJd
        have hcell := Lib.hid (fun (w1 : World) (h : Kept M W2 w1) => (heap_cell (h.heap hM.2.2 (hK.out.heap hM.2.2 H3.out)) (i := 0) rfl : w1.cell? ⟨pd, 0, none⟩ = some (.func (.func g) #[] cap)))
        have hM2 := Lib.hid (Nat.le_trans hMw hK.out.size)
        have hJst := Lib.hid (fun (w1 w2 : World) (h : J (eachL f mk c) w1) (h2 : Below M w1 w2) => Hst.out _ _ _ h h2)
        have hdo2 := Lib.hid (fun v' w1 h1 h2 => Hdo.out c hlt Hne.out v' w1 h1 h2)
        clear hmk2
        go_wp2
        go_region_held3 (fun w' => w'.cell? ⟨pd, 0, none⟩ = some (.func (.func g) #[] cap)) (first | go_keep | exact c5 | exact c4) (first
          | (refine (Calls.mono hmk2'.out ?_); rintro e W4 ⟨v', rfl, hf4⟩; have Hf4 := Lib.hid hf4; have k4 := Lib.hid (Kept.trans (w := W2) (w1 := W2.drew) ⟨Nat.le_refl _, fun _ _ _ => rfl⟩ (Kept.of_below hf4.bel (M := M))); have c4 := hcell.out W4 k4.out; clear hf4)
          | (refine (Calls.mono (hdo2.out v' W4 (OI.leads.to _ _ _ _ _ Hf4.out.choose_spec.1 fun k hk => ⟨Nat.le_trans hM2.out (Hf4.out.choose_spec.2.1 k hk), OI.ok.lt Hf4.out.choose_spec.1 k hk⟩) (hJst.out _ _ HJd.out (Hf4.out.bel.mono hM2.out))) ?_); rintro e W5 ⟨rfl, hJ5, hK5⟩; have k5 := Lib.hid (k4.out.trans hK5); have c5 := hcell.out W5 k5.out; have HJ5 := Lib.hid (show J (eachL f mk (c + 1)) W5 by rw [eachL_yes Hne.out]; exact hJ5); clear hJ5 hK5))
        have HK5 := Lib.hid (hK.out.trans k5.out)
        go_wp2
        go_roundw
        case rel => exact ⟨c + 1, by omega, by go_num, HJ5, HK5⟩
        case measure => simp [intOf]; omega
    · obtain rfl : c = b := by omega
      go_wp2
      go_end0
      exact ⟨rfl, hJ.out, hK.out⟩

/-- Four blocks one after another. -/
theorem four (w : World) (A Z C D : Obj) : ((((w.alloc A).alloc Z).alloc C).alloc D).heap[w.heap.size]? = some A ∧ ((((w.alloc A).alloc Z).alloc C).alloc D).heap[w.heap.size + 1]? = some Z ∧ ((((w.alloc A).alloc Z).alloc C).alloc D).heap[w.heap.size + 1 + 1]? = some C ∧
    ((((w.alloc A).alloc Z).alloc C).alloc D).heap[w.heap.size + 1 + 1 + 1]? = some D ∧ ((((w.alloc A).alloc Z).alloc C).alloc D).heap.size = w.heap.size + 4 ∧ Below w.heap.size w ((((w.alloc A).alloc Z).alloc C).alloc D) := by
  have s1 := al_size w A
  have s2 := al_size (w.alloc A) Z
  have s3 := al_size ((w.alloc A).alloc Z) C
  have s4 := al_size (((w.alloc A).alloc Z).alloc C) D
  have e1 := heap_alloc_new w A
  have e2 := heap_alloc_new (w.alloc A) Z
  have e3 := heap_alloc_new ((w.alloc A).alloc Z) C
  have e4 := heap_alloc_new (((w.alloc A).alloc Z).alloc C) D
  rw [s1] at e2
  rw [s2, s1] at e3
  rw [s3, s2, s1] at e4
  have k4 := fun k hk => Below.heap_alloc (((w.alloc A).alloc Z).alloc C) D k hk
  have k3 := fun k hk => Below.heap_alloc ((w.alloc A).alloc Z) C k hk
  have k2 := fun k hk => Below.heap_alloc (w.alloc A) Z k hk
  refine ⟨?_, ?_, ?_, e4, by omega, by repeat' (first | with_reducible exact Below.refl _ _ | with_reducible refine Below.alloc ?_ ?_ _ | with_reducible refine Below.setCell ?_ ?_ _ | with_reducible refine Below.drew ?_ | with_reducible refine Below.draws ?_ _ | omega | (simp; done) | (simp; omega))⟩
  · exact (k4 _ (by omega)).trans ((k3 _ (by omega)).trans ((k2 _ (by omega)).trans e1))
  · exact (k4 _ (by omega)).trans ((k3 _ (by omega)).trans e2)
  · exact (k4 _ (by omega)).trans e3

end Go.Proofs.Ytcjmkiedcmlpcaa
