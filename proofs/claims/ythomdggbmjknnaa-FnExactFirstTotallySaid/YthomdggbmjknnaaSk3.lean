/- Totally antisymmetric quasigroups by search: the seeker's tools. -/
import Derived.Test.YthomdggbmjknnaaSk2
import Derived.Test.YthomdggbmjknnaaB7
namespace Go.Proofs.Ythomdggbmjknnaa
open Go.RowKit
set_option linter.unusedVariables false

theorem hasI_yes {xs : List Int} {y : Int} {k : Nat} (hk : k < xs.length) (h : nth xs k = y) : hasI xs y = true := hasI_iff.2 ⟨k, hk, h⟩

theorem slContains {P : Nat → Prop} {v : Value} {xs : List Int} {w : World} (h : RdI P w v xs) (y : Int) :
    Calls Try.prog 69 #[v, .int .i64 y] w fun e w' => e = .returned (.bool (hasI xs y)) ∧ w = w' := by
  have key : Calls Try.prog 77 #[v, .int .i64 y] w fun e w' => ∃ i : Int, e = .returned (.int .i64 i) ∧ (hasI xs y = true ∧ 0 ≤ i ∧ i ≤ 9223372036854775807 ∨ hasI xs y = false ∧ i = -1) ∧ w = w' := by
    obtain ⟨a, c, rfl, h1, h2, hrd⟩ := h
    have Hrd := Lib.hid hrd; clear hrd
    unfold maxLen at h2
    go_enter Try.func77, Try.ntmps77
    go_wp2
    go_loop [8] (fun i => ∃ k : Nat, k ≤ xs.length ∧ i = .int .i64 k ∧ Hid (∀ j, j < k → nth xs j ≠ y)) (fun i => xs.length - (intOf i).toNat)
    case atStart => exact ⟨0, Nat.zero_le _, rfl, Lib.hid fun _ h => absurd h (Nat.not_lt_zero _)⟩
    case round =>
      obtain ⟨k, hk, rfl, hok⟩ := hrel
      by_cases hlt : k < xs.length
      · obtain ⟨b, o, u, rfl, hPb, hc, rfl⟩ := Hrd.out k hlt
        have hc1 : w.cell? ⟨b, o + k, none⟩ = some (Value.int .i64 (nth xs k)) := hc
        clear hc
        by_cases hx : nth xs k = y
        · have hr := Lib.hid (hasI_yes hlt hx)
          have hxb : (y == nth xs k) = true := by simp [hx]
          clear hx
          go_wp2
          go_ret
          exact ⟨_, rfl, .inl ⟨hr.out, by omega, by omega⟩, rfl⟩
        · have hok2 := Lib.hid (show ∀ j, j < k + 1 → nth xs j ≠ y from fun j hj => by
            rcases Nat.lt_succ_iff_lt_or_eq.1 hj with h | rfl
            · exact hok.out j h
            · exact hx)
          have hxb : (y == nth xs k) = false := by simp; exact fun e => hx e.symm
          clear hx
          go_wp2
          go_round
          case rel => exact ⟨k + 1, by omega, by go_num, hok2⟩
          case measure => simp [intOf]; omega
      · have hr := Lib.hid (hasI_no (xs := xs) (x := y) fun j hj => hok.out j (by omega))
        go_wp2
        go_ret
        exact ⟨_, rfl, .inr ⟨hr.out, rfl⟩, rfl⟩
  have Key := Lib.hid key
  clear key h
  go_enter Try.func69, Try.ntmps69
  go_wp2_with fail
  refine (Calls.mono Key.out ?_)
  rintro e w' ⟨i, rfl, hi, rfl⟩
  rcases hi with ⟨e, h1, h2⟩ | ⟨e, rfl⟩
  · have e' := Lib.hid e
    clear e
    go_wp2
    go_ret
    exact ⟨by rw [e'.out]; rfl, rfl⟩
  · have e' := Lib.hid e
    clear e
    go_wp2
    go_ret
    exact ⟨by rw [e'.out]; rfl, rfl⟩

/-- A table that can be read, its rows as they lie. -/
def See (g n : Nat) (t : T2) (w : World) : Prop := ∀ x y, x < n → y < n → ∃ gx cx, w.cell? ⟨g, x, none⟩ = some (.slice (some ⟨gx, 0, none⟩) n cx) ∧ n ≤ cx ∧ cx ≤ 9223372036854775807 ∧ w.cell? ⟨gx, y, none⟩ = some (.int .i64 (nth (nth t x) y))
theorem See.draws {g n : Nat} {t : T2} {w w' : World} (h : See g n t w) {m : Nat} (hm : w.drewN m = w') : See g n t w' := by subst hm; exact h

theorem hit0_a {t : T2} {x y : Nat} (h : ¬ 0 ≤ nth (nth t x) y) : hit0 t x y = false := by simp [hit0, h]
theorem hit0_b {t : T2} {x y : Nat} (h : 0 ≤ nth (nth t x) y) : hit0 t x y = (nth (nth t x) y == nth (nth t y) x) := by simp [hit0, h]

set_option maxHeartbeats 6400000 in
set_option maxRecDepth 100000 in
theorem implClashes {n g c bq : Nat} {t : T2} {w : World} (h5 : n ≤ 5) (hs : Sm (-1) n t) (hbox : w.heap[bq]? = some (.cells #[.int .i64 n, .slice (some ⟨g, 0, none⟩) n c] 80 (0, 0))) (hc : n ≤ c ∧ c ≤ 9223372036854775807) (hsee : See g n t w) :
    Calls Try.prog 70 #[.pointer (some ⟨bq, 0, none⟩)] w fun e w' => e = .returned (.bool (clash n t)) ∧ ∃ m, w.drewN m = w' := by
  have Hbox := Lib.hid (show ∀ m, (w.drewN m).heap[bq]? = some (.cells #[.int .i64 n, .slice (some ⟨g, 0, none⟩) n c] 80 (0, 0)) from fun _ => hbox)
  have Hsee := Lib.hid hsee
  have Hs := Lib.hid hs
  have k0 := heap_cell hbox (i := 0) rfl
  have k1 := heap_cell hbox (i := 1) rfl
  clear hbox hsee hs
  go_enter Try.func70, Try.ntmps70
  go_wp2
  clear k0 k1
  go_loopw [17] (fun xv wr => ∃ x m : Nat, x ≤ n ∧ xv = .int .i64 x ∧ Hid (w.drewN m = wr) ∧ Hid (anyB x (clashX n t) = false)) (fun xv _ => n - (intOf xv).toNat)
  case atStart => exact ⟨0, 0, Nat.zero_le _, rfl, Lib.hid rfl, Lib.hid rfl⟩
  case round =>
    obtain ⟨x, m1, hx, rfl, hm1, hno⟩ := hrel
    by_cases hxn : x < n
    · go_wp2
      obtain ⟨W1, rfl⟩ : ∃ W1, W1 = wr := ⟨_, rfl⟩
      go_loopw [21] (fun yv wr => ∃ y m : Nat, y ≤ x ∧ yv = .int .i64 y ∧ Hid (w.drewN m = wr) ∧ Hid (anyB y (clashY n t x) = false)) (fun yv _ => x - (intOf yv).toNat)
      case atStart => exact ⟨0, m1, Nat.zero_le _, rfl, hm1, Lib.hid rfl⟩
      case round =>
        obtain ⟨y, m2, hy, rfl, hm2, hno2⟩ := hrel
        obtain ⟨W2, rfl⟩ : ∃ W2, W2 = wr := ⟨_, rfl⟩
        by_cases hyx : y < x
        · have hyn : y < n := by omega
          obtain ⟨gx, cx, c1, c2, c3, c4⟩ := (Hsee.out.draws hm2.out) x y hxn hyn
          obtain ⟨gy, cy, d1, d2, d3, d4⟩ := (Hsee.out.draws hm2.out) y x hyn hxn
          go_upto_region 8 with fail
          go_cut [48] (fun s0 wx => s0 = .bool (hit0 t x y) ∧ ∃ m, Hid (w.drewN m = wx))
          case first =>
            by_cases h0 : 0 ≤ nth (nth t x) y
            · have e0 := Lib.hid (hit0_b h0)
              go_quiet (fail)
              go_wp2_with fail
              go_meet
              exact ⟨by rw [e0.out], _, Lib.hid (draws_more hm2.out _)⟩
            · have e0 := Lib.hid (hit0_a h0)
              go_quiet (fail)
              go_wp2_with fail
              go_meet
              exact ⟨by rw [e0.out], _, Lib.hid (draws_more hm2.out _)⟩
          case rest =>
          obtain ⟨rfl, m3, hm3⟩ := hcut
          obtain ⟨W3, rfl⟩ : ∃ W3, W3 = wc := ⟨_, rfl⟩
          clear c1 c2 c3 c4 d1 d2 d3 d4
          cases hh0 : hit0 t x y
          rotate_left
          · have hr := Lib.hid (show clash n t = true from anyB_yes hxn (anyB_yes hyx (by simp [clashY, hh0])))
            go_wp2
            go_ret
            exact ⟨by rw [hr.out]; rfl, m3, hm3.out⟩
          · have hb3 : W3.heap[bq]? = some (.cells #[.int .i64 n, .slice (some ⟨g, 0, none⟩) n c] 80 (0, 0)) := by rw [← hm3.out]; exact Hbox.out m3
            have k0 := heap_cell hb3 (i := 0) rfl
            clear hb3
            have Hh0 := Lib.hid hh0
            clear hh0
            go_wp2
            clear k0
            go_loopw [53] (fun jv wr => ∃ j m : Nat, j ≤ n ∧ jv = .int .i64 j ∧ Hid (w.drewN m = wr) ∧ Hid (anyB j (hit1 t x y) = false)) (fun jv _ => n - (intOf jv).toNat)
            case atStart => exact ⟨0, m3, Nat.zero_le _, rfl, hm3, Lib.hid rfl⟩
            case round =>
              obtain ⟨j, m4, hj, rfl, hm4, hno4⟩ := hrel
              obtain ⟨W4, rfl⟩ : ∃ W4, W4 = wr := ⟨_, rfl⟩
              by_cases hjn : j < n
              · obtain ⟨ga, ca, p1, p2, p3, p4⟩ := (Hsee.out.draws hm4.out) j x hjn hxn
                obtain ⟨gb, cb, q1, q2, q3, q4⟩ := (Hsee.out.draws hm4.out) j y hjn hyn
                rw [p1] at q1
                simp only [Option.some.injEq, Value.slice.injEq, Addr.mk.injEq, and_true, true_and] at q1
                obtain ⟨rfl, rfl⟩ := q1
                clear q2 q3
                obtain ⟨va, hva⟩ : ∃ z, z = nth (nth t j) x := ⟨_, rfl⟩
                obtain ⟨vb, hvb⟩ : ∃ z, z = nth (nth t j) y := ⟨_, rfl⟩
                have h1e : hit1 t x y j = (decide (0 ≤ va) && (decide (0 ≤ vb) && (decide (0 ≤ nth (nth t va.toNat) y) && nth (nth t va.toNat) y == nth (nth t vb.toNat) x))) := by unfold hit1; rw [hva, hvb]
                have ba := Hs.out.cell j x hjn hxn
                have bb := Hs.out.cell j y hjn hyn
                rw [← hva] at p4 ba
                rw [← hvb] at q4 bb
                have H1e := Lib.hid h1e
                clear h1e hva hvb
                go_wp2
                go_quiet (fail)
                go_upto_region 14 with fail
                clear p1 p2 p3 p4 q4
                go_cut [102] (fun s0 wx => s0 = .bool (hit1 t x y j) ∧ ∃ m, Hid (w.drewN m = wx))
                case first =>
                  obtain ⟨W5, hW5⟩ : ∃ W5, W5 = W4.drewN nq := ⟨_, rfl⟩
                  have hm5 := Lib.hid ((draws_more hm4.out nq).trans hW5.symm)
                  rw [← hW5]
                  clear hW5
                  by_cases ha : 0 ≤ va
                  · obtain ⟨A, rfl⟩ := Int.eq_ofNat_of_zero_le ha
                    by_cases hb : 0 ≤ vb
                    · obtain ⟨B, rfl⟩ := Int.eq_ofNat_of_zero_le hb
                      have hAn : A < n := by omega
                      have hBn : B < n := by omega
                      obtain ⟨ga2, ca2, r1, r2, r3, r4⟩ := (Hsee.out.draws hm5.out) A y hAn hyn
                      obtain ⟨gb2, cb2, s1, s2, s3, s4⟩ := (Hsee.out.draws hm5.out) B x hBn hxn
                      by_cases hz : 0 ≤ nth (nth t A) y
                      · have e0 := Lib.hid (show hit1 t x y j = (nth (nth t A) y == nth (nth t B) x) by rw [H1e.out, decide_eq_true ha, decide_eq_true hb, Int.toNat_natCast, decide_eq_true hz, Int.toNat_natCast]; simp)
                        go_quiet (fail)
                        go_wp2_with fail
                        go_meet
                        exact ⟨by rw [e0.out], _, Lib.hid (draws_more hm5.out _)⟩
                      · have e0 := Lib.hid (show hit1 t x y j = false by rw [H1e.out, Int.toNat_natCast, decide_eq_false hz]; simp)
                        go_quiet (fail)
                        go_wp2_with fail
                        go_meet
                        exact ⟨by rw [e0.out], _, Lib.hid (draws_more hm5.out _)⟩
                    · have e0 := Lib.hid (show hit1 t x y j = false by rw [H1e.out, decide_eq_false hb]; simp)
                      go_quiet (fail)
                      go_wp2_with fail
                      go_meet
                      exact ⟨by rw [e0.out], _, Lib.hid (draws_more hm5.out _)⟩
                  · have e0 := Lib.hid (show hit1 t x y j = false by rw [H1e.out, decide_eq_false ha]; simp)
                    go_quiet (fail)
                    go_wp2_with fail
                    go_meet
                    exact ⟨by rw [e0.out], _, Lib.hid (draws_more hm5.out _)⟩
                case rest =>
                obtain ⟨rfl, m5, hm5⟩ := hcut
                obtain ⟨W5, rfl⟩ : ∃ W5, W5 = wc := ⟨_, rfl⟩
                cases hh1 : hit1 t x y j
                rotate_left
                · have hr := Lib.hid (show clash n t = true from anyB_yes hxn (anyB_yes hyx (by unfold clashY; rw [anyB_yes hjn hh1, Bool.or_true])))
                  go_wp2
                  go_ret
                  exact ⟨by rw [hr.out]; rfl, m5, hm5.out⟩
                · have hno5 := Lib.hid (anyB_more hno4.out hh1)
                  clear hh1
                  go_wp2
                  go_roundw
                  case rel => exact ⟨j + 1, m5, by omega, by go_num, hm5, hno5⟩
                  case measure => simp [intOf]; omega
              · obtain ⟨hje⟩ : Nonempty (j = n) := ⟨by omega⟩
                have hno5 := Lib.hid (anyB_more hno2.out (show clashY n t x y = false by unfold clashY; rw [Hh0.out, ← hje, hno4.out]; rfl))
                clear hje
                go_wp2
                go_roundw
                case rel => exact ⟨y + 1, m4, by omega, by go_num, hm4, hno5⟩
                case measure => simp [intOf]; omega
        · obtain rfl : y = x := by omega
          have hno3 := Lib.hid (anyB_more hno.out (show clashX n t y = false from hno2.out))
          go_wp2
          go_roundw
          case rel => exact ⟨y + 1, m2, by omega, by go_num, hm2, hno3⟩
          case measure => simp [intOf]; omega
    · obtain rfl : x = n := by omega
      go_wp2
      go_ret
      exact ⟨by rw [show clash x t = false from hno.out]; rfl, m1, hm1.out⟩
end Go.Proofs.Ythomdggbmjknnaa
