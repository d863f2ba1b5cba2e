/- Orders: the cycles, the other side. -/
import Derived.Test.YthomdggbmjknnaaO4
import Derived.Deep.CutRange
import Derived.RegionTactic
namespace Go.Proofs.Ythomdggbmjknnaa
open Go.RowKit
set_option linter.unusedVariables false

set_option maxRecDepth 10000 in
set_option maxHeartbeats 2000000 in
theorem implCyclesOf {B : Nat} {v : Value} {f : List Int} {w : World} (h : RdI (· < B) w v f) (hB : B ≤ w.heap.size) (hn1 : f.length ≤ 1048576) :
    Calls Try.prog 13 #[v] w fun e w' => ∃ v, e = .returned (.tuple #[v, .bool (isOrd f 36)]) ∧ Fresh OII w w' v (cycV f) := by
  have h0 := Lib.hid h
  cases ho : isOrd f 36
  · have hr := Lib.hid (cycV_no ho)
    go_enter Try.func13, Try.ntmps13
    go_wp2_with fail
    refine (implIsOrder h0.out hB hn1).mono ?_
    rw [ho]
    rintro e w1 ⟨rfl, hb⟩
    go_wp2_with fail
    go_ret2
    exact ⟨_, rfl, by rw [hr.out]; exact Fresh.nil hb⟩
  have hr := Lib.hid (cycV_yes ho)
  have Hc := Lib.hid (isOrd_closed ho)
  have hn := (isOrd_len ho).2
  have ho' := Lib.hid ho
  clear ho
  obtain ⟨a, c, rfl, h1, h2, _⟩ := id h
  have hmk := run_make_row' (P := Try.prog) 51 4 (.bool false) 1 Try.underlying51 infoB2 rfl .i64 .i64 f.length (by omega) (by omega)
  unfold maxLen at h2
  clear h
  go_enter Try.func13, Try.ntmps13
  go_wp2_with fail
  refine (implIsOrder h0.out hB hn1).mono ?_
  rw [ho'.out]
  rintro e w1 ⟨rfl, hb⟩
  have Hb := Lib.hid hb
  have hbs := hb.size
  clear hb
  go_upto_region 3 with fail
  go_cut [4, 5] from 12 to 15 (fun vo vs wx => ∃ (gs : Nat) (So : List Nat), vs = .slice (some ⟨gs, 0, none⟩) f.length f.length ∧ OB2 wx (.slice (some ⟨gs, 0, none⟩) f.length f.length) (List.replicate f.length false) [gs] ∧ OII wx vo [] So ∧ Hid (∀ j ∈ So, w.heap.size ≤ j ∧ j ≠ gs) ∧ w.heap.size ≤ gs ∧ Below w.heap.size w wx)
  case first =>
    go_region
    all_goals (go_wp2_with fail; go_meet)
    · have q1 := Own.made (w1.alloc (.cells #[] 25)) 4 fB false f.length (by unfold maxLen; omega)
      rw [alloc_size2] at q1
      have q2 := Own.alloc2 OI.ok (Own.empty 25 OI w1) (.cells (madeCells #[.bool false] f.length) 4)
      exact ⟨w1.heap.size + 1, [w1.heap.size], rfl, Own.keep oB.ok q1 (fun _ _ => rfl), Own.keep OI.ok q2 (fun _ _ => rfl), Lib.hid (by simp; omega), by omega, ((Hb.out.alloc Hb.out.size _).alloc (by rw [alloc_size2]; omega) _).drew⟩
    · have q1 := Own.alloc2 oB.ok (Own.made w1 4 fB false f.length (by unfold maxLen; omega)) (.cells #[] 25)
      have q2 := Own.empty 25 OI (w1.alloc (.cells (madeCells #[.bool false] f.length) 4))
      rw [alloc_size2] at q2
      exact ⟨w1.heap.size, [w1.heap.size + 1], rfl, Own.keep oB.ok q1 (fun _ _ => rfl), Own.keep OI.ok q2 (fun _ _ => rfl), Lib.hid (by simp; omega), by omega, ((Hb.out.alloc Hb.out.size _).alloc (by rw [alloc_size2]; omega) _).drew⟩
  case rest =>
  obtain ⟨gs, So0, rfl, hos0, hoo0, HSo0, hgs, hbel0⟩ := hcut
  have Hos0 := Lib.hid hos0
  have Hoo0 := Lib.hid hoo0
  have Hbel0 := Lib.hid hbel0
  clear hos0 hoo0 hbel0
  go_wp2_with fail
  go_loopw [4, 18] (fun vo i wr => ∃ (k : Nat) (So : List Nat), k ≤ f.length ∧ i = .int .i64 k ∧ OB2 wr (.slice (some ⟨gs, 0, none⟩) f.length f.length) (cycTo f k).1 [gs] ∧ OII wr vo (cycTo f k).2 So ∧ Hid (∀ j ∈ So, w.heap.size ≤ j ∧ j ≠ gs) ∧ Below w.heap.size w wr) (fun _ i _ => f.length - (intOf i).toNat)
  case atStart => exact ⟨0, So0, Nat.zero_le _, rfl, Hos0.out, Hoo0.out, HSo0, Hbel0.out⟩
  case round =>
    obtain ⟨k, So, hk, rfl, hos, hoo, hSo, hbel⟩ := hrel
    obtain ⟨W2, rfl⟩ : ∃ W2, W2 = wr := ⟨_, rfl⟩
    have hcl := cycTo_len f k
    by_cases hlt : k < f.length
    · have hgsz := OB2.ok.lt hos gs (by simp)
      have Hos := Lib.hid hos
      have Hoo := Lib.hid hoo
      have Hbel := Lib.hid hbel
      have hnx := Lib.hid (cycTo_succ f k)
      have hcell0 := hos.cell (i := k) (by rw [hcl.1]; exact hlt)
      clear hos hoo hbel
      go_wp2
      go_loopw [7, 8] (fun vc vx wc => ∃ (c : List Int) (x : Nat) (s : List Bool) (S : List Nat), vx = .int .i64 x ∧ x < f.length ∧ Hid (cyc f (f.length - c.length) s c x = cyc f f.length (cycTo f k).1 [] k) ∧ Hid (s.length = f.length ∧ c.length + unseen s ≤ f.length) ∧
          OI wc vc c S ∧ Hid (∀ j ∈ S, W2.heap.size ≤ j) ∧ OB2 wc (.slice (some ⟨gs, 0, none⟩) f.length f.length) s [gs] ∧ OII wc u4 (cycTo f k).2 So ∧ Below w.heap.size w wc ∧ W2.heap.size ≤ wc.heap.size) (fun vc _ _ => f.length - slLen vc)
      case atStart => exact ⟨[], k, _, _, rfl, hlt, Lib.hid rfl, Lib.hid ⟨hcl.1, by have := unseen_le (cycTo f k).1; simp; omega⟩, Own.empty _ _ _, Lib.hid (by simp), Own.alloc2 oB.ok Hos.out _, Own.alloc2 OI.ok Hoo.out _, Hbel.out.alloc Hbel.out.size _, by simp⟩
      case round =>
        obtain ⟨c, x, s, S, rfl, hxl, hcy, hsl, hoc, hS, hos, hoo, hbel, hsz⟩ := hrel
        have hlen := hoc.slLen
        have hcs := hos.cell (i := x) (by rw [hsl.out.1]; exact hxl)
        cases hsx : nth s x
        · have hun := unseen_set (by rw [hsl.out.1]; exact hxl) hsx
          have hcl9 : c.length < f.length := by have := hsl.out.2; omega
          rw [hsx] at hcs
          obtain ⟨b, o, u, e0, hPb, hcf, rfl⟩ := (Rd.below RdI.ok h0.out (hbel.mono hB)).elim x hxl
          subst e0
          obtain ⟨Z, hZ⟩ := Int.eq_ofNat_of_zero_le (Hc.out x hxl).1
          have hZl : Z < f.length := by have := (Hc.out x hxl).2; omega
          have hf2 := hos.frozen x
          have hos2 := Lib.hid (hos.put (i := x) (by rw [hsl.out.1]; exact hxl) true)
          have hoc2 := Lib.hid (Own.other2 oI.ok hoc (g := gs) (i := x) (fun hm => by have := hS.out gs hm; omega) (.bool true))
          have hoo2 := Lib.hid (Own.other2 OI.ok hoo (g := gs) (i := x) (fun hm => (hSo.out gs hm).2 rfl) (.bool true))
          have hbel2 := Lib.hid (hbel.setCell (p := ⟨gs, x, none⟩) hgs (.bool true))
          have hcf2 : (wr.setCell ⟨gs, x, none⟩ (.bool true)).cell? ⟨b, o + x, none⟩ = some (.int .i64 Z) := by
            rw [← hZ]
            exact (hbel2.out.cell (p := ⟨b, o + x, none⟩) (Nat.lt_of_lt_of_le hPb hB)).trans (by
              have := (h0.out.elim x hxl)
              obtain ⟨b', o', u', e1, _, e2, e3⟩ := this
              simp only [Option.some.injEq, Addr.mk.injEq, and_true] at e1
              obtain ⟨rfl, rfl⟩ := e1
              rw [e2, e3])
          have hcy2 := Lib.hid (show cyc f (f.length - (c ++ [(x : Int)]).length) (s.set x true) (c ++ [(x : Int)]) Z = cyc f f.length (cycTo f k).1 [] k by
            rw [← hcy.out, show f.length - c.length = (f.length - (c ++ [(x : Int)]).length) + 1 by simp; omega, cyc_step hsx, hZ]; rfl)
          have hsl2 := Lib.hid (show (s.set x true).length = f.length ∧ (c ++ [(x : Int)]).length + unseen (s.set x true) ≤ f.length by
            refine ⟨by rw [List.length_set]; exact hsl.out.1, ?_⟩
            have := hsl.out.2
            simp only [List.length_append, List.length_singleton]; omega)
          have hb1 : b < (wr.setCell ⟨gs, x, none⟩ (.bool true)).heap.size := by have := hbel2.out.size; omega
          have hb2 : b ∉ S := fun hm => by have := hS.out b hm; have := Hbel.out.size; omega
          have hsz2 : W2.heap.size ≤ (wr.setCell ⟨gs, x, none⟩ (.bool true)).heap.size := by simpa using hsz
          clear hoc hos hoo hbel hcf hZ hun hsx
          go_wp2_with (at_builtin; refine wpList_push rfl _ _ 25 rfl oI.ok Try.underlying25 infoI64 rfl hoc2.out (u := .int .i64 x) (y := (x : Int)) (T := []) ⟨rfl, rfl⟩ (by simp) (by omega) (by unfold maxLen; omega) rfl (by rw [setCell_size]; rfl) ?_; intro v1 w1 S1 hown1 honly1 hS1; have hcf3 := (honly1.cell hb1 hb2).trans hcf2)
          go_roundw
          case rel =>
            refine ⟨_, Z, _, S1, rfl, hZl, hcy2, hsl2, hown1, Lib.hid fun j hj => ?_, Own.only oB.ok hos2.out honly1 (fun j hj hm => by simp at hj; have := hS.out j hm; omega), Own.only OI.ok hoo2.out honly1 (fun j hj hm => by have h8 := hS.out j hm; have h9 := OII.ok.lt Hoo.out j hj; omega), below_only hbel2.out honly1 hbel2.out.size (fun j hj => by have := hS.out j hj; have := Hbel.out.size; omega), Nat.le_trans hsz2 honly1.size⟩
            rcases hS1 j hj with h | h | h
            · exact hS.out j h
            · simp at h
            · omega
          case measure =>
            have := hown1.slLen
            simp only [List.length_append, List.length_singleton] at this
            omega
        · rw [hsx] at hcs
          have hR := hcy.out.symm.trans (cyc_seen hsx)
          have hdj := Lib.hid (show ∀ j ∈ S, j ∉ So from fun j hj hm => by have h8 := hS.out j hj; have h9 := OII.ok.lt Hoo.out j hm; omega)
          have hcl2 := hcl.2.1
          obtain ⟨av, nv, cv, rfl⟩ := hoc.isSlice
          have Hoo2 := Lib.hid hoo
          have Hoc2 := Lib.hid hoc
          have Hos2 := Lib.hid hos
          have Hbel2 := Lib.hid hbel
          have hnv : nv = c.length := hlen
          subst hnv
          clear hoo hoc hos hbel hcl hsx
          by_cases hc0 : c = []
          · have hnx2 := Lib.hid (show cycTo f (k + 1) = (s, (cycTo f k).2) by rw [hnx.out, hR, if_pos hc0])
            subst hc0
            clear hR
            go_wp2
            go_roundw
            case rel => exact ⟨k + 1, So, by omega, by go_num, by rw [hnx2.out]; exact Hos2.out, by rw [hnx2.out]; exact Hoo2.out, hSo, Hbel2.out⟩
            case measure => simp [intOf]; omega
          · have hnx2 := Lib.hid (show cycTo f (k + 1) = (s, (cycTo f k).2 ++ [c]) by rw [hnx.out, hR, if_neg hc0])
            have hcpos : 0 < c.length := by cases c with | nil => exact absurd rfl hc0 | cons a b => simp
            clear hR hc0
            go_wp2_with (at_builtin; refine wpList_push rfl _ _ 30 rfl OI.ok Try.underlying30 infoSl2' rfl Hoo2.out Hoc2.out hdj.out (by omega) (by unfold maxLen; omega) rfl rfl ?_; intro v1 w1 S1 hown1 honly1 hS1)
            go_roundw
            case rel =>
              refine ⟨k + 1, S1, by omega, by go_num, by rw [hnx2.out]; exact Own.only oB.ok Hos2.out honly1 (fun j hj hm => by simp at hj; exact (hSo.out j hm).2 hj), by rw [hnx2.out]; exact hown1, Lib.hid fun j hj => ?_, below_only Hbel2.out honly1 Hbel2.out.size (fun j hj => (hSo.out j hj).1)⟩
              have hw2 := Hbel.out.size
              rcases hS1 j hj with h | h | h
              · exact hSo.out j h
              · have := hS.out j h; omega
              · omega
            case measure => simp [intOf]; omega
    · obtain rfl : k = f.length := by omega
      go_wp2
      go_ret2
      exact ⟨_, rfl, by rw [hr.out]; exact ⟨So, hoo, fun j hj => (hSo.out j hj).1, hbel⟩⟩
end Go.Proofs.Ythomdggbmjknnaa
