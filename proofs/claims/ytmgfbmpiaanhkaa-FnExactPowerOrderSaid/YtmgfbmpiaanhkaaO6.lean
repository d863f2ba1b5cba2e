/- Orders: the power by cycles. -/
import Derived.Test.YtmgfbmpiaanhkaaP2
import Derived.StillTailTactics
namespace Go.Proofs.Ytmgfbmpiaanhkaa
open Go.RowKit
set_option linter.unusedVariables false

/-- What has been written, behind a cycles and l places of the next. -/
def PowW (f : List Int) (N a l : Nat) (o : List Int) : Prop := o.length = f.length ∧ ∀ a' l', a' < (cycL f).length → l' < (nth (cycL f) a').length → (a' < a ∨ (a' = a ∧ l' < l)) → nth o (nth (nth (cycL f) a') l').toNat = nth (powL f N) (nth (nth (cycL f) a') l').toNat
theorem PowW.more {f : List Int} {N a l : Nat} {o : List Int} (h : PowW f N a l o) {X : Nat} (hX : nth (nth (cycL f) a) l = (X : Int)) (hXl : X < f.length) {y : Int} (hy : y = nth (powL f N) X) : PowW f N a (l + 1) (o.set X y) := by
  refine ⟨by rw [List.length_set]; exact h.1, fun a' l' ha hl hd => ?_⟩
  rw [nth_set (by rw [h.1]; exact hXl)]
  split
  · rename_i e; rw [hy, ← e]
  · rename_i e
    refine h.2 a' l' ha hl ?_
    rcases hd with h1 | ⟨rfl, h1⟩
    · exact .inl h1
    · rcases Nat.lt_succ_iff_lt_or_eq.1 h1 with h2 | rfl
      · exact .inr ⟨rfl, h2⟩
      · exact absurd (by rw [hX]; simp) e
theorem PowW.next {f : List Int} {N a : Nat} {o : List Int} (h : PowW f N a (nth (cycL f) a).length o) : PowW f N (a + 1) 0 o :=
  ⟨h.1, fun a' l' ha hl hd => h.2 a' l' ha hl (by
    rcases hd with h1 | ⟨_, h1⟩
    · rcases Nat.lt_succ_iff_lt_or_eq.1 h1 with h2 | rfl
      · exact .inl h2
      · exact .inr ⟨rfl, hl⟩
    · omega)⟩
theorem PowW.whole {f : List Int} (hc : Closed f) (ho : ordB f f.length f.length = true) {N : Nat} {o : List Int} (h : PowW f N (cycL f).length 0 o) : o = powL f N := by
  refine ext_nth (by rw [h.1, powL_length]) fun x hx => ?_
  rw [h.1] at hx
  obtain ⟨c, hcm, l, hl, e⟩ := cycL_all hc ho hx
  obtain ⟨a, ha, rfl⟩ := List.mem_iff_getElem.1 hcm
  rw [← nth_eq ha] at e hl
  have := h.2 a l ha hl (.inl ha)
  rw [e] at this
  simpa using this
theorem Own.row2 {w : World} {E E' : TypeId} {g n c : Nat} {t : List (List Int)} {S : List Nat} (h : Own E (Own E' oI) w (.slice (some ⟨g, 0, none⟩) n c) t S) {a : Nat} (ha : a < t.length) (hp : 1 ≤ (nth t a).length) :
    ∃ gx cx, w.cell? ⟨g, a, none⟩ = some (.slice (some ⟨gx, 0, none⟩) (nth t a).length cx) ∧ (nth t a).length ≤ cx ∧ cx ≤ maxLen ∧ ∀ l, l < (nth t a).length → w.cell? ⟨gx, l, none⟩ = some (.int .i64 (nth (nth t a) l)) := by
  obtain ⟨u, T, hc, hu, hT⟩ := h.at ha
  rcases hu.shape with ⟨_, e⟩ | ⟨gx, cx, rfl, hg⟩
  · rw [e] at hp; simp at hp
  · have hl := hu.len
    exact ⟨gx, cx, hc, hl.2.1, hl.2.2, fun l hl => hu.cell hl⟩

set_option maxRecDepth 10000 in
set_option maxHeartbeats 1000000 in
theorem specPowerOrder {B : Nat} {v : Value} {f : List Int} {w : World} (h : RdI (· < B) w v f) (hB : B ≤ w.heap.size) (n : Int) (hn : f.length ≤ 1048576) :
    Calls Try.prog 49 #[v, .int .i64 n] w fun e w' => ∃ v, e = .returned (.tuple #[v, .bool (powOk f n)]) ∧ Fresh OI w w' v (powV f n) := by
  have h0 := Lib.hid h
  cases ho : isOrd f 36
  · have hr := Lib.hid (show powOk f n = false by simp [powOk, ho])
    go_enter Try.func49, Try.ntmps49
    go_wp2_with fail
    refine (specIs h0.out).mono ?_
    rw [ho]
    rintro e w1 ⟨rfl, hb0⟩
    have hb := below_draws hb0
    go_wp2_with fail
    go_ret2
    exact ⟨_, by rw [hr.out]; rfl, by rw [powV_no hr.out]; exact Fresh.nil hb⟩
  cases hin : inB n 0 1000000000000000
  · have hr := Lib.hid (show powOk f n = false by simp [powOk, hin])
    have ho' := Lib.hid ho
    go_enter Try.func49, Try.ntmps49
    go_wp2_with fail
    refine (specIs h0.out).mono ?_
    rw [ho'.out]
    rintro e w1 ⟨rfl, hb0⟩
    have hb := below_draws hb0
    go_wp2_with (go_at_call 57; refine (specIn _ _ _ _ (by assumption) _).mono ?_; rintro e w' ⟨rfl, rfl⟩)
    go_ret2
    exact ⟨_, by rw [hr.out]; rfl, by rw [powV_no hr.out]; exact Fresh.nil hb⟩
  have hr := Lib.hid (show powOk f n = true by simp [powOk, hin, ho])
  have hv := Lib.hid (powV_yes hr.out)
  have hcl := Lib.hid (isOrd_closed ho)
  have hl := isOrd_len ho
  have hob := Lib.hid (show ordB f f.length f.length = true by simp only [isOrd, Bool.and_eq_true] at ho; exact ho.1)
  have ho' := Lib.hid ho
  obtain ⟨N, rfl⟩ := Int.eq_ofNat_of_zero_le (inB_true.1 hin).1
  have hN := (inB_true.1 hin).2
  have hct := cycTo_len f f.length
  obtain ⟨a, c, rfl, h1, h2, _⟩ := id h
  have hmk := run_make_row' (P := Try.prog) 29 2 (.int .i64 0) 8 Try.underlying29 infoI64 rfl .i64 .i64 f.length (by omega) (by omega)
  unfold maxLen at h2
  clear h ho
  go_enter Try.func49, Try.ntmps49
  go_wp2_with fail
  refine (specIs h0.out).mono ?_
  rw [ho'.out]
  rintro e w1 ⟨rfl, hb0⟩
  have Hb := Lib.hid (below_draws hb0)
  clear hb0
  go_wp2_with (go_at_call 57; refine (specIn _ _ _ _ (by assumption) _).mono ?_; rintro e w' ⟨rfl, rfl⟩)
  have Hb1 := Lib.hid (Hb.out.alloc Hb.out.size (.cells (madeCells #[.int .i64 0] f.length) 2))
  refine (specCycles (Rd.below RdI.ok h0.out (Hb1.out.mono hB)) (Nat.le_trans hB Hb1.out.size) hl.2 hcl.out).mono ?_
  rintro e w2 ⟨v2, rfl, S, hS, hS2, hbc⟩
  have hlen : 1 ≤ (cycL f).length := by
    obtain ⟨c, hc, _⟩ := cycL_all hcl.out hob.out (show 0 < f.length by omega)
    exact List.length_pos_of_mem hc
  rcases hS.shape with ⟨_, e⟩ | ⟨g2, c2, rfl, hg2⟩
  · rw [e] at hlen; simp at hlen
  have hl2 := hS.len
  have hos := Own.below oI.ok (Own.made w1 2 fI 0 f.length (by unfold maxLen; omega)) hbc
  have hgo : w.heap.size ≤ w1.heap.size := Hb.out.size
  have hd := Lib.hid (show w1.heap.size ∉ S from fun hm => by have := hS2 _ hm; rw [alloc_size2] at this; omega)
  have Hbc := Lib.hid (Hb1.out.trans (hbc.mono Hb1.out.size))
  have HS := Lib.hid hS
  have Hos := Lib.hid hos
  have hcf := Lib.hid (fun a (ha : a < (cycL f).length) => cycL_form hcl.out hob.out (nth_mem ha))
  unfold maxLen at hl2
  clear hS hos hbc hS2 hct
  generalize hgg : w1.heap.size = go at *
  clear hgg
  go_wp2_with fail
  go_loopw [8] (fun i wr => ∃ (k : Nat) (o : List Int), k ≤ (cycL f).length ∧ i = .int .i64 k ∧ Hid (PowW f N k 0 o) ∧ Hid (OI wr (.slice (some ⟨go, 0, none⟩) f.length f.length) o [go]) ∧ Hid (OII wr (.slice (some ⟨g2, 0, none⟩) (cycL f).length c2) (cycL f) S) ∧ Hid (Below w.heap.size w wr)) (fun i _ => (cycL f).length - (intOf i).toNat)
  case atStart => exact ⟨0, _, Nat.zero_le _, rfl, Lib.hid ⟨by simp, fun a' l' _ _ h => by omega⟩, Hos, HS, Hbc⟩
  case round =>
    obtain ⟨k, o, hk, rfl, hw, hoo, hoc, hbel⟩ := hrel
    by_cases hlt : k < (cycL f).length
    · have hc1 := hcf.out k hlt
      obtain ⟨i0, m0, _, hm0, _, hce⟩ := hc1
      have hmp : 1 ≤ (nth (cycL f) k).length := by rw [hce]; simpa using hm0
      obtain ⟨gx, cx, hcc, g1, g2', hcells⟩ := hoc.out.row2 hlt hmp
      unfold maxLen at g2'
      have hm36 : (nth (cycL f) k).length ≤ 36 := by
        have := (cycTo_len f f.length).2.2 (nth (cycL f) k) (nth_mem hlt)
        omega
      clear hce
      go_wp2
      go_loopw [10] (fun i wr => ∃ (l : Nat) (o : List Int), l ≤ (nth (cycL f) k).length ∧ i = .int .i64 l ∧ Hid (PowW f N k l o) ∧ Hid (OI wr (.slice (some ⟨go, 0, none⟩) f.length f.length) o [go]) ∧ Hid (OII wr (.slice (some ⟨g2, 0, none⟩) (cycL f).length c2) (cycL f) S) ∧ Hid (Below w.heap.size w wr)) (fun i _ => (nth (cycL f) k).length - (intOf i).toNat)
      case atStart => exact ⟨0, _, Nat.zero_le _, rfl, hw, hoo, hoc, hbel⟩
      case round =>
        clear hcc hcells
        obtain ⟨l, o, hlk, rfl, hw, hoo, hoc, hbel⟩ := hrel
        by_cases hlt2 : l < (nth (cycL f) k).length
        · obtain ⟨_, hx0, hxl, hM, hval⟩ := cyc_shift hcl.out (hcf.out k hlt) hlt2 N
          obtain ⟨X, hX⟩ := Int.eq_ofNat_of_zero_le hx0
          have hXl : X < f.length := by omega
          obtain ⟨gx, cx, hcc, g1, g2', hcells⟩ := hoc.out.row2 hlt hmp
          have q1 := hcells l hlt2
          have q2 := hcells _ hM
          rw [hX] at q1 hval
          rw [Int.toNat_natCast] at hval
          unfold maxLen at g2'
          have hnext := Lib.hid (hw.out.more hX hXl hval)
          have hfz := hoo.out.frozen X
          have hc9 := hoo.out.cell (i := X) (by rw [hw.out.1]; exact hXl)
          have hsto := Lib.hid (fun y => hoo.out.put (i := X) (by rw [hw.out.1]; exact hXl) y)
          have hstc := Lib.hid (fun y => Own.other2 OI.ok hoc.out (g := go) (i := X) hd.out (.int .i64 y))
          have hM2 : ((l : Int) + N).tmod (nth (cycL f) k).length = (((l + N) % (nth (cycL f) k).length : Nat) : Int) := by
            rw [Int.tmod_eq_emod_of_nonneg (by omega), Int.natCast_emod, Int.natCast_add]
          have hM3 : (((l + N) % (nth (cycL f) k).length : Nat) : Int) < (nth (cycL f) k).length := by omega
          have hne : ¬ nth (cycL f) k = [] := by intro e; rw [e] at hmp; simp at hmp
          have wr1 : IntKind.i64.wrap ((l : Int) + N) = l + N := IntWalk.i64_in _ (by omega)
          clear hval hX hcells hx0 hxl
          generalize (l + N) % (nth (cycL f) k).length = M at *
          have wr2 : IntKind.i64.wrap (M : Int) = M := IntWalk.i64_in _ (by omega)
          generalize nth (nth (cycL f) k) M = val at *
          generalize hc8 : nth (cycL f) k = cc at *
          go_wp2
          go_still_tail 20, (by kernel_rfl)
          change wpList _ _ _ _ _ wr.drew
          generalize hwd : wr.drew = W2
          have hfz2 : W2.frozen? ⟨go, X, none⟩ = false := by rw [← hwd]; exact hfz
          have hc22 : W2.cell? ⟨go, X, none⟩ = some (.int .i64 (nth o X)) := by rw [← hwd]; exact hc9
          have Hwd := Lib.hid hwd
          clear hwd
          go_wp2
          go_roundw
          case rel => exact ⟨l + 1, _, by omega, by go_num, hnext, Lib.hid (Own.keep oI.ok (hsto.out val) (fun _ _ => by rw [← Hwd.out]; rfl)), Lib.hid (Own.keep OI.ok (hstc.out val) (fun _ _ => by rw [← Hwd.out]; rfl)), Lib.hid (by rw [← Hwd.out]; exact hbel.out.drew.setCell hgo _)⟩
          case measure => simp [intOf]; omega
        · obtain rfl : l = (nth (cycL f) k).length := by omega
          have hnx := Lib.hid hw.out.next
          go_wp2
          go_roundw
          case rel => exact ⟨k + 1, _, by omega, by go_num, hnx, hoo, hoc, hbel⟩
          case measure => simp [intOf]; omega
    · obtain rfl : k = (cycL f).length := by omega
      have e := hw.out.whole hcl.out hob.out
      subst e
      go_wp2
      go_ret2
      exact ⟨_, by rw [hr.out]; rfl, by rw [hv.out, Int.toNat_natCast]; exact ⟨_, hoo.out, by simpa using hgo, hbel.out⟩⟩
end Go.Proofs.Ytmgfbmpiaanhkaa
