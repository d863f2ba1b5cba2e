/- Places for check symbols: the sums that can be reached, round by round; impl.IsCheckPlace. -/
import Derived.Test.YtphlohplkadenaaV6
import Derived.Test.YtphlohplkadenaaQ1
import Derived.Test.YtphlohplkadenaaV5
import Derived.Deep.QuietTactic
import Derived.BigQuiet
import Derived.IntWalk
namespace Go.Proofs.Ytphlohplkadenaa
open Go.RowKit
set_option linter.unusedVariables false

/-! ### Rows of Booleans whose values are told -/
theorem infoBo : (Try.prog.info? 4).map (fun i => (i.zero, i.size, i.bytes)) = some (some (.bool false), 1, 1) := by kernel_rfl
abbrev OBo : Rep (List Bool) := OwnB 4
theorem OBo.ok : OBo.Ok := Own.ok oB.ok
theorem OBo.leads : Leads OBo (Rd rB) := Own.leads leaf.leads
def RowB (n : Nat) (t : List Bool) (f : Nat → Bool) : Prop := t.length = n ∧ ∀ y, y < n → nth t y = f y
theorem RowB.put {n : Nat} {t : List Bool} {f g : Nat → Bool} (h : RowB n t f) {x : Nat} (hx : x < n) {z : Bool} (hz : z = g x) (he : ∀ i, i < n → i ≠ x → g i = f i) : RowB n (t.set x z) g := by
  refine ⟨by rw [List.length_set]; exact h.1, fun y hy => ?_⟩
  rw [nth_set (by rw [h.1]; exact hx)]
  by_cases e : x = y
  · subst e; rw [if_pos rfl, hz]
  · rw [if_neg e, h.2 y hy, he y hy (fun h => e h.symm)]
theorem RowB.congr {n : Nat} {t : List Bool} {f g : Nat → Bool} (h : RowB n t f) (he : ∀ y, y < n → f y = g y) : RowB n t g := ⟨h.1, fun y hy => by rw [h.2 y hy, he y hy]⟩
theorem RowB.off (n : Nat) : RowB n (List.replicate n false) fun _ => false := ⟨by simp, fun y hy => nth_replicate hy⟩

theorem RRep.Ok.rdKeep {α : Type} [Inhabited α] {R : RRep α} (hR : R.Ok) {P : Nat → Prop} {w w' : World} {u : Value} {xs : List α} (h : Rd R P w u xs) (hk : ∀ k, P k → w'.heap[k]? = w.heap[k]?) : Rd R P w' u xs := (Rd.ok hR).keep h hk
/-- What is reached so far: from the sums before s, and from s with the first d symbols. -/
def hopB (x : Wgt) (k s d r : Nat) : Bool := (List.range d).any fun e => decide (((s : Int) + nth x.weights k * e) % x.modulus = r)
def aftB (x : Wgt) (place k s d r : Nat) : Bool := ((List.range s).any fun q => reachB x place k q && hopB x k q x.base.toNat r) || (reachB x place k s && hopB x k s d r)
theorem hopB_zero (x : Wgt) (k s r : Nat) : hopB x k s 0 r = false := rfl
theorem hopB_succ (x : Wgt) (k s d r : Nat) : hopB x k s (d + 1) r = (hopB x k s d r || decide (((s : Int) + nth x.weights k * d) % x.modulus = r)) := by
  unfold hopB; rw [List.range_succ, List.any_append]; simp
theorem aftB_start (x : Wgt) (place k r : Nat) : aftB x place k 0 0 r = false := by simp [aftB, hopB]
theorem aftB_next (x : Wgt) (place k s r : Nat) : aftB x place k s x.base.toNat r = aftB x place k (s + 1) 0 r := by
  unfold aftB; rw [List.range_succ, List.any_append, hopB_zero]; simp
theorem aftB_skip {x : Wgt} {place k s : Nat} (r : Nat) (h : reachB x place k s = false) : aftB x place k s 0 r = aftB x place k (s + 1) 0 r := by
  rw [← aftB_next]; unfold aftB; rw [h]; simp
theorem aftB_succ {x : Wgt} {place k s d : Nat} (r : Nat) (h : reachB x place k s = true) : aftB x place k s (d + 1) r = (aftB x place k s d r || decide (((s : Int) + nth x.weights k * d) % x.modulus = r)) := by
  unfold aftB; rw [hopB_succ, h]; simp [Bool.or_assoc]
theorem aftB_end {x : Wgt} {place k : Nat} (r : Nat) (h : k ≠ place) : aftB x place k x.modulus.toNat 0 r = reachB x place (k + 1) r := by
  unfold aftB
  rw [hopB_zero, Bool.and_false, Bool.or_false]
  show _ = if k = place then _ else _
  rw [if_neg h]; rfl
theorem reachB_skip (x : Wgt) (place r : Nat) : reachB x place (place + 1) r = reachB x place place r := by
  show (if place = place then _ else _) = _
  rw [if_pos rfl]
theorem hitsN_succ (x : Wgt) (place : Nat) (s : Int) (k : Nat) : hitsN x place s (k + 1) = hitsN x place s k + if (s + nth x.weights place * k) % x.modulus = x.target then 1 else 0 := sumN_succ _ _
theorem hitsN_le (x : Wgt) (place : Nat) (s : Int) (k : Nat) : hitsN x place s k ≤ k := by
  have := sumN_le (n := k) (c := 1) (f := fun d => if (s + nth x.weights place * d) % x.modulus = x.target then 1 else 0) fun i _ => by split <;> omega
  unfold hitsN; omega
/-- What a sum and a weight times a digit make. -/
theorem cpFacts {s wt d m : Int} (hs : 0 ≤ s) (hs2 : s < m) (hw : 0 ≤ wt) (hw2 : wt < m) (hd : 0 ≤ d) (hd2 : d ≤ 36) (hm : m ≤ 36) :
    IntKind.i64.wrap (wt * d) = wt * d ∧ IntKind.i64.wrap (s + wt * d) = s + wt * d ∧ Int.tmod (s + wt * d) m = (s + wt * d) % m ∧ 0 ≤ (s + wt * d) % m ∧ (s + wt * d) % m < m ∧ IntKind.i64.wrap ((s + wt * d) % m) = (s + wt * d) % m := by
  have h1 : 0 ≤ wt * d := Int.mul_nonneg hw hd
  have h2 : wt * d ≤ 36 * 36 := Int.mul_le_mul (by omega) (by omega) (by omega) (by omega)
  have h3 := Int.emod_nonneg (s + wt * d) (show m ≠ 0 by omega)
  have h4 := Int.emod_lt_of_pos (s + wt * d) (show 0 < m by omega)
  exact ⟨IntWalk.i64_in _ (by omega), IntWalk.i64_in _ (by omega), Int.tmod_eq_emod_of_nonneg (by omega), h3, h4, IntWalk.i64_in _ (by omega)⟩

set_option maxHeartbeats 1600000 in
set_option maxRecDepth 10000 in
theorem implIsCheckPlace {B : Nat} {v : Value} {x : Wgt} {w : World} (h : RdW (· < B) w v x) (hB : B ≤ w.heap.size) (hn : szW x ≤ 1048576) (place : Int) :
    Calls Try.prog 18 #[v, .int .i64 place] w fun e w' => e = .returned (.bool (isCP x place)) ∧ Below w.heap.size w w' := by
  have Hr := Lib.hid h
  obtain ⟨u, rfl, hu⟩ := h
  obtain ⟨a, c, rfl, h1, h2⟩ := hu.isSlice
  have hbx := Lib.hid ((Below.refl w.heap.size w).alloc (Nat.le_refl _) (.cells #[.int .i64 x.base, .int .i64 x.modulus, .int .i64 x.target, .slice a x.weights.length c] 26))
  have Hbx := Lib.hid (BoxW.boxed hu hB)
  have Hu := Lib.hid hu; clear hu
  have hsz := Lib.hid (al_size w (.cells #[.int .i64 x.base, .int .i64 x.modulus, .int .i64 x.target, .slice a x.weights.length c] 26))
  have hb1 := Lib.hid (heap_alloc_new w (.cells #[.int .i64 x.base, .int .i64 x.modulus, .int .i64 x.target, .slice a x.weights.length c] 26))
  unfold maxLen at h2
  unfold aggW
  cases hv : vW x
  · have hr := Lib.hid (show isCP x place = false by simp [isCP, hv])
    have Hv := Lib.hid hv; clear hv
    go_enter Try.func18, Try.ntmps18
    go_wp2_with fail
    refine (implValidWeighting (Rd.below RdW.ok Hr.out (hbx.out.mono hB)) (by rw [hsz.out]; omega) hn _ Hv.out).mono ?_
    rintro e w1 ⟨rfl, hb⟩
    have Hb := Lib.hid (hbx.out.trans (hb.mono (by rw [hsz.out]; omega))); clear hb
    go_wp2
    go_ret
    exact ⟨ret_bool hr.out.symm, Hb.out⟩
  · have hvw := vW_iff.1 hv
    have hln := hvw.len
    have Hv := Lib.hid hv
    have Hvw := Lib.hid hvw
    have hwr : IntKind.i64.wrap ((x.weights.length : Int) - 1) = (x.weights.length : Int) - 1 := IntWalk.i64_in _ (by omega)
    cases hin : inB place 0 ((x.weights.length : Int) - 1)
    · have hr := Lib.hid (show isCP x place = false by simp [isCP, hin])
      clear hv hvw
      go_enter Try.func18, Try.ntmps18
      go_wp2_with fail
      refine (implValidWeighting (Rd.below RdW.ok Hr.out (hbx.out.mono hB)) (by rw [hsz.out]; omega) hn _ Hv.out).mono ?_
      rintro e w1 ⟨rfl, hb⟩
      have hc3 := heap_cell (below_heap hb hb1.out) (i := 3) rfl
      have Hb := Lib.hid (hbx.out.trans (hb.mono (by rw [hsz.out]; omega))); clear hb
      go_wp2_with (go_at_call 57; refine (implIn _ _ _ _ (by first | assumption | (rw [hwr]; assumption)) _).mono ?_; rintro e w' ⟨rfl, rfl⟩)
      go_ret
      exact ⟨ret_bool hr.out.symm, Hb.out⟩
    · have hpd := inB_true.1 hin
      obtain ⟨p, rfl⟩ : ∃ p : Nat, place = p := ⟨place.toNat, by omega⟩
      have hr := Lib.hid (show isCP x p = chkPl x p by simp [isCP, hin, hv])
      have hpl : p < x.weights.length := by omega
      have hba := hvw.base
      have hmo := hvw.modulus
      have hta := hvw.target
      have hwt := Lib.hid hvw.weight
      obtain ⟨NM, hNM⟩ : ∃ n : Nat, n = x.modulus.toNat := ⟨_, rfl⟩
      obtain ⟨NB, hNB⟩ : ∃ n : Nat, n = x.base.toNat := ⟨_, rfl⟩
      have em : x.modulus = (NM : Int) := by omega
      have eb : x.base = (NB : Int) := by omega
      have hmk := run_make_row' (P := Try.prog) 72 4 (.bool false) 1 Try.underlying72 infoBo rfl .i64 .i64 NM (by omega) (by omega)
      have HNM := Lib.hid hNM
      have HNB := Lib.hid hNB
      have Hem := Lib.hid em
      have Heb := Lib.hid eb
      rw [em] at hmo hta
      rw [eb] at hba
      clear hv hvw hpd hNM hNB em eb
      go_enter Try.func18, Try.ntmps18
      go_wp2_with fail
      refine (implValidWeighting (Rd.below RdW.ok Hr.out (hbx.out.mono hB)) (by rw [hsz.out]; omega) hn _ Hv.out).mono ?_
      rintro e w1 ⟨rfl, hb⟩
      have hbb := below_heap hb hb1.out
      rw [Hem.out, Heb.out] at hbb
      have g0 := heap_cell hbb (i := 0) rfl
      have g1 := heap_cell hbb (i := 1) rfl
      have g2 := heap_cell hbb (i := 2) rfl
      have g3 := heap_cell hbb (i := 3) rfl
      have hs1 : w.heap.size < w1.heap.size := heap_lt hbb
      have Hu1 := Lib.hid (RdI.ok.keep Hu.out (w' := w1) fun k hk => (hb.block k (by rw [hsz.out]; omega)).trans (Below.heap_alloc w _ k (by omega)))
      have hBw := Lib.hid (show B < w1.heap.size by omega)
      have Hb := Lib.hid (hbx.out.trans (hb.mono (by rw [hsz.out]; omega))); clear hb hbb
      have hf0 := Fresh.made (Below.refl w1.heap.size w1) 4 fB false NM (by unfold maxLen; omega)
      obtain ⟨q0, q1, q2, q3, q4⟩ := hf0.put1 (fun _ => rfl) (i := 0) (by simp; omega)
      have Hf1 := Lib.hid (show Fresh OBo w1 (w1.alloc (.cells ((madeCells #[.bool false] NM).setIfInBounds 0 (.bool true)) 4)) (.slice (some ⟨w1.heap.size, 0, none⟩) NM NM) ((List.replicate NM false).set 0 true) by have h := q4 _ (Below.refl _ _) true; simpa [go_sem] using h)
      have hr1 := Lib.hid (show RowB NM ((List.replicate NM false).set 0 true) (reachB x p 0) from (RowB.off NM).put (show 0 < NM by omega) (by rfl) (fun i hi hne => by show decide (i = 0) = false; simp [hne]))
      clear q4 hf0
      go_wp2_with (go_at_call 57; refine (implIn _ _ _ _ (by first | assumption | (rw [hwr]; assumption)) _).mono ?_; rintro e w' ⟨rfl, rfl⟩)
      clear q0 q1 q2 q3
      go_loopw [5, 36] (fun sv iv wr => ∃ (k g : Nat) (t : List Bool), k ≤ x.weights.length ∧ iv = .int .i64 k ∧ sv = .slice (some ⟨g, 0, none⟩) NM NM ∧ Hid (Fresh OBo w1 wr (.slice (some ⟨g, 0, none⟩) NM NM) t) ∧ Hid (RowB NM t (reachB x p k))) (fun _ iv _ => x.weights.length - (intOf iv).toNat)
      case atStart => exact ⟨0, _, _, Nat.zero_le _, rfl, rfl, Hf1, hr1⟩
      case round =>
        clear Hf1 hr1
        obtain ⟨k, g, t, hk, rfl, rfl, hf, hrow⟩ := hrel
        obtain ⟨W2, rfl⟩ : ∃ W2, W2 = wr := ⟨_, rfl⟩
        by_cases hlt : k < x.weights.length
        · have Hu2 := Lib.hid (RdI.ok.keep Hu1.out (w' := W2) fun j hj => hf.out.bel.block j (by have := hBw.out; omega))
          obtain ⟨b3, o3, u3, rfl, hP3, hc3, rfl⟩ := Rd.elim Hu2.out k hlt
          have hc4 : W2.cell? ⟨b3, o3 + k, none⟩ = some (.int .i64 (nth x.weights k)) := hc3
          clear hc3
          by_cases hkp : k = p
          · have hbk : ((k : Int) == (p : Int)) = true := by simp only [beq_iff_eq]; omega
            have hrow2 := Lib.hid (show RowB NM t (reachB x p (k + 1)) from hrow.out.congr fun y _ => by rw [hkp]; exact (reachB_skip x p y).symm)
            clear hkp
            go_wp2
            go_roundw
            case rel => exact ⟨k + 1, _, _, by omega, by go_num, rfl, hf, hrow2⟩
            case measure => simp [intOf]; omega
          · have hbk : ((k : Int) == (p : Int)) = false := by simp only [beq_eq_false_iff_ne]; omega
            have Hkp := Lib.hid hkp; clear hkp
            have e1 : W2.cell? ⟨w.heap.size, 1, none⟩ = some (.int .i64 NM) := (hf.out.bel.cell (p := ⟨w.heap.size, 1, none⟩) hs1).trans g1
            have hhead := hf.out.choose_spec.1.head
            have hgl : g < W2.heap.size := hhead.2
            have hSg : hf.out.choose = [g] := hf.out.choose_spec.1.blocks
            have Hrd := Lib.hid (show Rd rB (· = g) W2 (.slice (some ⟨g, 0, none⟩) NM NM) t from OBo.leads.to _ _ _ _ _ hf.out.choose_spec.1 (fun j hj => by rw [hSg] at hj; simpa using hj))
            have hfa := Lib.hid (show Fresh OBo W2 (W2.alloc (.cells (madeCells #[.bool false] NM) 4)) (.slice (some ⟨W2.heap.size, 0, none⟩) NM NM) (List.replicate NM false) from Fresh.made (Below.refl _ _) 4 fB false NM (by unfold maxLen; omega))
            have hra := Lib.hid ((RowB.off NM).congr (fun y _ => (aftB_start x p k y).symm))
            have hgw : w1.heap.size ≤ g := hf.out.choose_spec.2.1 _ hhead.1
            have hs2 : w.heap.size < W2.heap.size := by have := hf.out.bel.size; omega
            have g0' : W2.cell? ⟨w.heap.size, 0, none⟩ = some (.int .i64 NB) := (hf.out.bel.cell (p := ⟨w.heap.size, 0, none⟩) hs1).trans g0
            have hwk := Lib.hid (hwt.out k hlt)
            clear hhead hSg
            go_wp2
            clear hc4
            go_loopw [49] (fun sv wr => ∃ (s : Nat) (r : List Bool), s ≤ NM ∧ sv = .int .i64 s ∧ Hid (Fresh OBo W2 wr (.slice (some ⟨W2.heap.size, 0, none⟩) NM NM) r) ∧ Hid (RowB NM r (aftB x p k s 0))) (fun sv _ => NM - (intOf sv).toNat)
            case atStart => exact ⟨0, _, Nat.zero_le _, rfl, hfa, hra⟩
            case round =>
              clear hfa hra
              obtain ⟨s, r, hs, rfl, hfr, hrr⟩ := hrel
              obtain ⟨W3, rfl⟩ : ∃ W3, W3 = wr := ⟨_, rfl⟩
              by_cases hls : s < NM
              · have Hrd3 := Lib.hid ((rleaf.ok (f := fB)).rdKeep Hrd.out (w' := W3) fun j hj => hfr.out.bel.block j (by have hj : j = g := hj; omega))
                obtain ⟨b5, o5, u5, ea, _, hc5, rfl⟩ := Rd.elim Hrd3.out s (by rw [hrow.out.1]; exact hls)
                rw [hrow.out.2 s hls] at hc5
                simp only [Option.some.injEq, Addr.mk.injEq, and_true] at ea
                obtain ⟨rfl, rfl⟩ := ea
                have hc6 : W3.cell? ⟨g, s, none⟩ = some (.bool (reachB x p k s)) := by have h : W3.cell? ⟨g, 0 + s, none⟩ = some (.bool (reachB x p k s)) := hc5; rwa [Nat.zero_add] at h
                clear hc5
                cases hre : reachB x p k s
                · rw [hre] at hc6
                  have hr3 := Lib.hid (show RowB NM r (aftB x p k (s + 1) 0) from hrr.out.congr fun y _ => aftB_skip y hre)
                  clear hre
                  go_wp2
                  go_loopw [11] (fun dv wr => dv = .int .i64 0 ∧ wr = W3) (fun _ _ => 0)
                  case atStart => exact ⟨rfl, rfl⟩
                  case round =>
                    obtain ⟨rfl, rfl⟩ := hrel
                    go_wp2
                    go_roundw
                    case rel => exact ⟨s + 1, _, by omega, by go_num, hfr, hr3⟩
                    case measure => simp [intOf]; omega
                · rw [hre] at hc6
                  have Hre := Lib.hid hre; clear hre
                  go_wp2
                  clear hc6
                  go_loopw [11] (fun dv wr => ∃ (d : Nat) (r : List Bool), d ≤ NB ∧ dv = .int .i64 d ∧ Hid (Fresh OBo W2 wr (.slice (some ⟨W2.heap.size, 0, none⟩) NM NM) r) ∧ Hid (RowB NM r (aftB x p k s d))) (fun dv _ => NB - (intOf dv).toNat)
                  case atStart => exact ⟨0, _, Nat.zero_le _, rfl, hfr, hrr⟩
                  case round =>
                    clear hfr hrr
                    obtain ⟨d, r, hd, rfl, hfr, hrr⟩ := hrel
                    obtain ⟨W4, rfl⟩ : ∃ W4, W4 = wr := ⟨_, rfl⟩
                    have e0 : W4.cell? ⟨w.heap.size, 0, none⟩ = some (.int .i64 NB) := (hfr.out.bel.cell (p := ⟨w.heap.size, 0, none⟩) hs2).trans g0'
                    by_cases hld : d < NB
                    · have e1 : W4.cell? ⟨w.heap.size, 1, none⟩ = some (.int .i64 NM) := (hfr.out.bel.cell (p := ⟨w.heap.size, 1, none⟩) hs2).trans ((hf.out.bel.cell (p := ⟨w.heap.size, 1, none⟩) hs1).trans g1)
                      have hcf := cpFacts (s := (s : Int)) (wt := nth x.weights k) (d := (d : Int)) (m := (NM : Int)) (by omega) (by omega) hwk.out.1 (by rw [← Hem.out]; exact hwk.out.2) (by omega) (by omega) (by omega)
                      obtain ⟨z, hz⟩ := Int.eq_ofNat_of_zero_le hcf.2.2.2.1
                      have hzl : z < NM := by have := hcf.2.2.2.2.1; rw [hz] at this; omega
                      have hstep := Lib.hid (show ∀ y, aftB x p k s (d + 1) y = (aftB x p k s d y || decide (z = y)) from fun y => by
                        rw [aftB_succ y Hre.out, Hem.out, hz, show decide ((z : Int) = (y : Int)) = decide (z = y) from decide_eq_decide.2 (by omega)])
                      obtain ⟨f1, f2, f3, f4, f5, f6⟩ := hcf
                      rw [hz] at f3 f6
                      obtain ⟨a0, a1, a2, a3, a4⟩ := hfr.out.put1 (fun _ => rfl) (i := z) (by rw [hrr.out.1]; exact hzl)
                      have hr4 := Lib.hid (show RowB NM (r.set z true) (aftB x p k s (d + 1)) from hrr.out.put hzl (by rw [hstep.out]; simp) (fun i hi hne => by rw [hstep.out]; simp [show ¬ z = i from fun h => hne h.symm]))
                      have hf4 := Lib.hid (show Fresh OBo W2 (W4.setCell ⟨W2.heap.size, z, none⟩ (.bool true)) _ _ from a4 W4 (Below.refl _ _) true)
                      have hNMn : ¬ NM = 0 := by omega
                      have hz0 : (0 : Int) ≤ (z : Int) := by omega
                      have hz1 : (z : Int) < (NM : Int) := by omega
                      clear a4 f4 f5 hz
                      generalize nth x.weights k = wt at *
                      go_wp2
                      go_roundw
                      case rel => exact ⟨d + 1, _, by omega, by go_num, hf4, hr4⟩
                      case measure => simp [intOf]; omega
                    · obtain ⟨hdn⟩ : Nonempty (d = NB) := ⟨by omega⟩
                      have hr4 := Lib.hid (show RowB NM r (aftB x p k (s + 1) 0) from hrr.out.congr fun y _ => by rw [hdn, HNB.out]; exact aftB_next x p k s y)
                      clear hdn
                      go_wp2
                      go_roundw
                      case rel => exact ⟨s + 1, _, by omega, by go_num, hfr, hr4⟩
                      case measure => simp [intOf]; omega
              · obtain ⟨hsn⟩ : Nonempty (s = NM) := ⟨by omega⟩
                have hr4 := Lib.hid (show RowB NM r (reachB x p (k + 1)) from hrr.out.congr fun y _ => by rw [hsn, HNM.out]; exact aftB_end y Hkp.out)
                have hf4 := Lib.hid (show Fresh OBo w1 W3 (.slice (some ⟨W2.heap.size, 0, none⟩) NM NM) r from hfr.out.back hf.out.bel)
                clear hsn
                go_wp2
                go_roundw
                case rel => exact ⟨k + 1, W2.heap.size, _, by omega, by go_num, rfl, hf4, hr4⟩
                case measure => simp [intOf]; omega
        · obtain ⟨hkn⟩ : Nonempty (k = x.weights.length) := ⟨by omega⟩
          have hrw := Lib.hid (show RowB NM t (reachB x p x.weights.length) by rw [hkn] at hrow; exact hrow.out)
          clear hkn
          have g1' : W2.cell? ⟨w.heap.size, 1, none⟩ = some (.int .i64 NM) := (hf.out.bel.cell (p := ⟨w.heap.size, 1, none⟩) hs1).trans g1
          have g0' : W2.cell? ⟨w.heap.size, 0, none⟩ = some (.int .i64 NB) := (hf.out.bel.cell (p := ⟨w.heap.size, 0, none⟩) hs1).trans g0
          have g2' : W2.cell? ⟨w.heap.size, 2, none⟩ = some (.int .i64 x.target) := (hf.out.bel.cell (p := ⟨w.heap.size, 2, none⟩) hs1).trans g2
          have g3' : W2.cell? ⟨w.heap.size, 3, none⟩ = some (.slice a x.weights.length c) := (hf.out.bel.cell (p := ⟨w.heap.size, 3, none⟩) hs1).trans g3
          have Hu2 := RdI.ok.keep Hu1.out (w' := W2) fun j hj => hf.out.bel.block j (by have := hBw.out; omega)
          obtain ⟨b3, o3, u3, rfl, hP3, hc3, rfl⟩ := Rd.elim Hu2 p hpl
          have hc4 : W2.cell? ⟨b3, o3 + p, none⟩ = some (.int .i64 (nth x.weights p)) := hc3
          have hwp := hwt.out p hpl
          rw [Hem.out] at hwp
          have hrd2 := Lib.hid (hf.out.rd OBo.leads OBo.ok)
          have hbw := Lib.hid (Hb.out.trans (hf.out.bel.mono (Nat.le_of_lt hs1)))
          have hcp := Lib.hid (show chkPl x p = allB NM fun s => !reachB x p x.weights.length s || decide (hitsN x p s NB = 1) by unfold chkPl; rw [← HNM.out, ← HNB.out])
          have hhs := Lib.hid (fun (s : Int) d => hitsN_succ x p s d)
          have hhl := Lib.hid (fun (s : Int) d => hitsN_le x p s d)
          have hst0 := Lib.hid (show W2.drewN 0 = W2 from rfl)
          clear hc3 Hu2 g0 g1 g2 g3 hf hrow
          go_wp2
          go_loopw [78] (fun sv wr => ∃ (s m : Nat), s ≤ NM ∧ sv = .int .i64 s ∧ Hid (allB s (fun q => !reachB x p x.weights.length q || decide (hitsN x p q NB = 1)) = true) ∧ Hid (W2.drewN m = wr)) (fun sv _ => NM - (intOf sv).toNat)
          case atStart => exact ⟨0, 0, Nat.zero_le _, rfl, Lib.hid rfl, hst0⟩
          case round =>
            obtain ⟨s, m, hs, rfl, hok, hm⟩ := hrel
            obtain ⟨W3, rfl⟩ : ∃ W3, W3 = wr := ⟨_, rfl⟩
            by_cases hls : s < NM
            · obtain ⟨b5, o5, u5, ea, _, hc5, rfl⟩ := Rd.elim hrd2.out s (by rw [hrw.out.1]; exact hls)
              rw [hrw.out.2 s hls] at hc5
              simp only [Option.some.injEq, Addr.mk.injEq, and_true] at ea
              obtain ⟨rfl, rfl⟩ := ea
              have hc6 : W3.cell? ⟨g, s, none⟩ = some (.bool (reachB x p x.weights.length s)) := by
                have h : W2.cell? ⟨g, 0 + s, none⟩ = some (.bool (reachB x p x.weights.length s)) := hc5
                rw [← hm.out]; rwa [Nat.zero_add] at h
              clear hc5
              cases hre : reachB x p x.weights.length s
              · rw [hre] at hc6
                have hok2 := Lib.hid (allB_more hok.out (show (!reachB x p x.weights.length s || decide (hitsN x p s NB = 1)) = true by rw [hre]; rfl))
                clear hre
                go_wp2
                go_loopw [15] (fun dv wr => dv = .int .i64 0 ∧ wr = W3) (fun _ _ => 0)
                case atStart => exact ⟨rfl, rfl⟩
                case round =>
                  obtain ⟨rfl, rfl⟩ := hrel
                  go_wp2
                  go_roundw
                  case rel => exact ⟨s + 1, _, by omega, by go_num, hok2, hm⟩
                  case measure => simp [intOf]; omega
              · rw [hre] at hc6
                have Hre := Lib.hid hre; clear hre
                have hz0 := Lib.hid (show hitsN x p s 0 = 0 from rfl)
                go_wp2
                clear hc6
                go_loopw [14, 15] (fun mv dv wr => ∃ (d m M : Nat), d ≤ NB ∧ dv = .int .i64 d ∧ mv = .int .i64 M ∧ Hid (M = hitsN x p s d) ∧ Hid (W2.drewN m = wr)) (fun _ dv _ => NB - (intOf dv).toNat)
                case atStart => exact ⟨0, _, 0, Nat.zero_le _, rfl, rfl, Lib.hid hz0.out.symm, hm⟩
                case round =>
                  clear hm
                  obtain ⟨d, m, M, hd, rfl, rfl, hM, hm⟩ := hrel
                  obtain ⟨W4, rfl⟩ : ∃ W4, W4 = wr := ⟨_, rfl⟩
                  have e0 : W4.cell? ⟨w.heap.size, 0, none⟩ = some (.int .i64 NB) := by rw [← hm.out]; exact g0'
                  have hMl := hhl.out s d
                  rw [← hM.out] at hMl
                  by_cases hld : d < NB
                  · have e1 : W4.cell? ⟨w.heap.size, 1, none⟩ = some (.int .i64 NM) := by rw [← hm.out]; exact g1'
                    have e2 : W4.cell? ⟨w.heap.size, 2, none⟩ = some (.int .i64 x.target) := by rw [← hm.out]; exact g2'
                    have e3 : W4.cell? ⟨w.heap.size, 3, none⟩ = some (.slice (some ⟨b3, o3, none⟩) x.weights.length c) := by rw [← hm.out]; exact g3'
                    have e4 : W4.cell? ⟨b3, o3 + p, none⟩ = some (.int .i64 (nth x.weights p)) := by rw [← hm.out]; exact hc4
                    obtain ⟨f1, f2, f3, f4, f5, f6⟩ := cpFacts (s := (s : Int)) (wt := nth x.weights p) (d := (d : Int)) (m := (NM : Int)) (by omega) (by omega) hwp.1 hwp.2 (by omega) (by omega) (by omega)
                    have hst := hhs.out s d
                    rw [Hem.out, ← hM.out] at hst
                    have hNMn : ¬ (NM : Int) = 0 := by omega
                    have hmm := Lib.hid (fun q => show W2.drewN (m + q) = W4.drewN q by rw [← hm.out, World.drewN_drewN])
                    have p0 : (0 : Int) ≤ (p : Int) := by omega
                    have p1 : (p : Int) < (x.weights.length : Int) := by omega
                    have wM : wrap64 ((M : Int) + 1) = ((M + 1 : Nat) : Int) := by rw [Int.natCast_add]; exact IntWalk.wrap64_in _ (by omega)
                    have HwM := Lib.hid wM; clear wM
                    by_cases heq : ((s : Int) + nth x.weights p * d) % (NM : Int) = x.target
                    · rw [if_pos heq] at hst
                      have hb5 : (((s : Int) + nth x.weights p * d) % (NM : Int) == x.target) = true := by simp only [beq_iff_eq]; exact heq
                      have hst2 := Lib.hid hst.symm
                      clear hst heq hm
                      generalize nth x.weights p = wt at *
                      go_wp2
                      go_quiet (fail)
                      go_wp2
                      go_roundw
                      case rel => exact ⟨d + 1, _, M + 1, by omega, by go_num, by first | rfl | (rw [HwM.out]) | go_num, hst2, Lib.hid (hmm.out _)⟩
                      case measure => simp [intOf]; omega
                    · rw [if_neg heq] at hst
                      have hb5 : (((s : Int) + nth x.weights p * d) % (NM : Int) == x.target) = false := by simp only [beq_eq_false_iff_ne]; exact heq
                      have hst2 := Lib.hid hst.symm
                      clear hst heq hm
                      generalize nth x.weights p = wt at *
                      go_wp2
                      go_quiet (fail)
                      go_wp2
                      go_roundw
                      case rel => exact ⟨d + 1, _, M, by omega, by go_num, rfl, hst2, Lib.hid (hmm.out _)⟩
                      case measure => simp [intOf]; omega
                  · obtain ⟨hdn⟩ : Nonempty (d = NB) := ⟨by omega⟩
                    have hM2 : M = hitsN x p s NB := by rw [hdn] at hM; exact hM.out
                    clear hdn
                    by_cases h1 : M = 1
                    · have hok2 := Lib.hid (allB_more hok.out (show (!reachB x p x.weights.length s || decide (hitsN x p s NB = 1)) = true by rw [Hre.out, ← hM2, h1]; rfl))
                      have hb6 : ((M : Int) != 1) = false := by simp [h1]
                      clear hM2 h1
                      go_wp2
                      go_roundw
                      case rel => exact ⟨s + 1, _, by omega, by go_num, hok2, hm⟩
                      case measure => simp [intOf]; omega
                    · have hrf := Lib.hid (show isCP x p = false by
                        rw [hr.out, hcp.out]
                        exact allB_no hls (by rw [Hre.out, ← hM2]; simp [h1]))
                      have hb6 : ((M : Int) != 1) = true := by simp; omega
                      have hbw2 := Lib.hid (show Below w.heap.size w W4 by rw [← hm.out]; exact Below.draws hbw.out m)
                      clear hM2 h1
                      go_wp2
                      go_ret
                      exact ⟨ret_bool hrf.out.symm, hbw2.out⟩
            · obtain ⟨hsn⟩ : Nonempty (s = NM) := ⟨by omega⟩
              have hrt := Lib.hid (show isCP x p = true by rw [hr.out, hcp.out]; rw [hsn] at hok; exact hok.out)
              have hbw2 := Lib.hid (show Below w.heap.size w W3 by rw [← hm.out]; exact Below.draws hbw.out m)
              clear hsn
              go_wp2
              go_ret
              exact ⟨ret_bool hrt.out.symm, hbw2.out⟩
end Go.Proofs.Ytphlohplkadenaa
