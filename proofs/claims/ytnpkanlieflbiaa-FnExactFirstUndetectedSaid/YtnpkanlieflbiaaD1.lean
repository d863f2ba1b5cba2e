/- Validity of chains, walked: impl. -/
import Derived.Test.YtnpkanlieflbiaaS1
import Derived.Test.YtnpkanlieflbiaaV2
import Derived.Test.YtnpkanlieflbiaaW1
import Derived.Test.YtnpkanlieflbiaaF1
namespace Go.Proofs.Ytnpkanlieflbiaa
open Go.RowKit
set_option linter.unusedVariables false

theorem headC_no {x : Chn} (h : headC x = false) : vC x = false := by simp [vC, h]
theorem vC_tab_no {x : Chn} {k : Nat} (hk : k < x.tables.length) (h : tabIn x.states x.base (nth x.tables k) = false) : vC x = false := by
  have : tabsC x = false := allB_no hk h
  simp [vC, this]
theorem tabIn_len_no {states base : Int} {t : List (List Int)} (h : ¬ (t.length : Int) = states) : tabIn states base t = false := by simp [tabIn, h]
theorem tabIn_row_no {states base : Int} {t : List (List Int)} {j : Nat} (hj : j < t.length) (h : rowIn states base (nth t j) = false) : tabIn states base t = false := by
  have : allB t.length (fun y => rowIn states base (nth t y)) = false := allB_no hj h
  simp [tabIn, this]
theorem tabIn_yes {states base : Int} {t : List (List Int)} (h : (t.length : Int) = states) (h2 : allB t.length (fun y => rowIn states base (nth t y)) = true) : tabIn states base t = true := by simp [tabIn, h, h2]
theorem rowIn_len_no {states base : Int} {r : List Int} (h : ¬ (r.length : Int) = base) : rowIn states base r = false := by simp [rowIn, h]
theorem rowIn_all {states base : Int} {r : List Int} {b : Bool} (h : (r.length : Int) = base) (h2 : allIn r 0 (states - 1) = b) : rowIn states base r = b := by simp [rowIn, h, h2]
theorem Rd.row {α : Type} [Inhabited α] {R : RRep α} {P : Nat → Prop} {w : World} {a : Option Addr} {n c : Nat} {t : List (List α)} (h : Rd (Rd R) P w (.slice a n c) t) {x : Nat} (hx : x < t.length) :
    ∃ b o a1 c1, a = some ⟨b, o, none⟩ ∧ P b ∧ w.cell? ⟨b, o + x, none⟩ = some (.slice a1 (nth t x).length c1) ∧ (nth t x).length ≤ c1 ∧ c1 ≤ maxLen ∧ Rd R P w (.slice a1 (nth t x).length c1) (nth t x) := by
  obtain ⟨b, o, u, e, hP, hc, hu⟩ := Rd.elim h x hx
  obtain ⟨a1, c1, rfl, g1, g2⟩ := hu.isSlice
  exact ⟨b, o, a1, c1, e, hP, hc, g1, g2, hu⟩

theorem implVC1 (d m : Int) (b : Nat) (w : World) (hc : w.cell? ⟨b, 1, none⟩ = some (.int .i64 m)) (hm : 1 ≤ m ∧ m ≤ 36) :
    Calls Try.prog 137 #[.int .i64 d, .pointer (some ⟨b, 0, none⟩)] w fun e w' => e = .returned (.bool (!inB d 0 (m - 1))) ∧ w = w' := by
  cases hin : inB d 0 (m - 1)
  all_goals
    go_enter Try.func137, Try.ntmps137
    go_wp2_with (go_at_call 78; refine (implIn _ _ _ _ (by assumption) _).mono ?_; rintro e w' ⟨rfl, rfl⟩)
    go_ret
    exact ⟨rfl, rfl⟩
theorem implVC2 (d : Int) (a : Option Addr) (n c : Nat) (hn : n ≤ 20) (b : Nat) (w : World) (hc : w.cell? ⟨b, 4, none⟩ = some (.slice a n c)) :
    Calls Try.prog 138 #[.int .i64 d, .pointer (some ⟨b, 0, none⟩)] w fun e w' => e = .returned (.bool (!inB d 0 ((n : Int) - 1))) ∧ w = w' := by
  cases hin : inB d 0 ((n : Int) - 1)
  all_goals
    go_enter Try.func138, Try.ntmps138
    go_wp2_with (go_at_call 78; refine (implIn _ _ _ _ (by assumption) _).mono ?_; rintro e w' ⟨rfl, rfl⟩)
    go_ret
    exact ⟨rfl, rfl⟩

set_option maxHeartbeats 1600000 in
set_option maxRecDepth 10000 in
theorem implValidChainP {B : Nat} {v : Value} {x : Chn} {w : World} (h : RdC (· < B) w v x) (hB : B ≤ w.heap.size) (hn2 : x.places.length ≤ 1048576) (b : Bool) (hb : vC x = b) :
    Calls Try.prog 95 #[v] w fun e w' => e = .returned (.bool b) ∧ Below w.heap.size w w' := by
  have HB := Lib.hid hb; clear hb
  have hmf : ∀ (fn : Fn) (first cap : Array Value) (w : World), (Instr.makeFunc fn first cap).run Try.prog w = .ok (.func fn first cap) w := fun _ _ _ _ => rfl
  obtain ⟨u, p, rfl, hu, hp⟩ := h
  obtain ⟨a, c, rfl, h1, h2⟩ := hu.isSlice
  obtain ⟨a', c', rfl, h3, h4⟩ := hp.isSlice
  have hbx := Lib.hid ((Below.refl w.heap.size w).alloc (Nat.le_refl _) (.cells #[.int .i64 x.base, .int .i64 x.states, .int .i64 x.start, .int .i64 x.stop, .slice a x.tables.length c, .slice a' x.places.length c'] 28))
  have Hu := Lib.hid (RdIII.ok.keep hu fun k hk => hbx.out.block k (by omega)); clear hu
  have Hp := Lib.hid (RdI.ok.keep hp fun k hk => hbx.out.block k (by omega)); clear hp
  unfold maxLen at h2 h4
  unfold aggC
  cases hbase : inB x.base 2 36
  · have hr := Lib.hid (show vC x = false by simp [vC, headC, hbase])
    go_enter Try.func95, Try.ntmps95
    go_wp2_with (go_at_call 118; refine (implBase _ _ (by assumption) _).mono ?_; rintro e w' ⟨rfl, rfl⟩)
    go_ret
    exact ⟨by rw [← HB.out, hr.out]; rfl, hbx.out⟩
  cases hst : inB x.states 1 36
  · have hr := Lib.hid (show vC x = false by simp [vC, headC, hst])
    go_enter Try.func95, Try.ntmps95
    go_wp2_with (first | (go_at_call 118; refine (implBase _ _ (by assumption) _).mono ?_; rintro e w' ⟨rfl, rfl⟩) | (go_at_call 78; refine (implIn _ _ _ _ (by assumption) _).mono ?_; rintro e w' ⟨rfl, rfl⟩))
    go_ret
    exact ⟨by rw [← HB.out, hr.out]; rfl, hbx.out⟩
  have hsd := inB_true.1 hst
  cases hsr : inB x.start 0 (x.states - 1)
  · have hr := Lib.hid (show vC x = false by simp [vC, headC, hsr])
    go_enter Try.func95, Try.ntmps95
    go_wp2_with (first | (go_at_call 118; refine (implBase _ _ (by assumption) _).mono ?_; rintro e w' ⟨rfl, rfl⟩) | (go_at_call 78; refine (implIn _ _ _ _ (by assumption) _).mono ?_; rintro e w' ⟨rfl, rfl⟩))
    go_ret
    exact ⟨by rw [← HB.out, hr.out]; rfl, hbx.out⟩
  cases hsp : inB x.stop 0 (x.states - 1)
  · have hr := Lib.hid (show vC x = false by simp [vC, headC, hsp])
    go_enter Try.func95, Try.ntmps95
    go_wp2_with (first | (go_at_call 118; refine (implBase _ _ (by assumption) _).mono ?_; rintro e w' ⟨rfl, rfl⟩) | (go_at_call 78; refine (implIn _ _ _ _ (by assumption) _).mono ?_; rintro e w' ⟨rfl, rfl⟩))
    go_ret
    exact ⟨by rw [← HB.out, hr.out]; rfl, hbx.out⟩
  cases htb : inB x.tables.length 1 20
  · have hr := Lib.hid (show vC x = false by simp [vC, headC, htb])
    go_enter Try.func95, Try.ntmps95
    go_wp2_with (first | (go_at_call 118; refine (implBase _ _ (by assumption) _).mono ?_; rintro e w' ⟨rfl, rfl⟩) | (go_at_call 78; refine (implIn _ _ _ _ (by assumption) _).mono ?_; rintro e w' ⟨rfl, rfl⟩))
    go_ret
    exact ⟨by rw [← HB.out, hr.out]; rfl, hbx.out⟩
  have htd := inB_true.1 htb
  cases hpl : inB x.places.length 1 20
  · have hr := Lib.hid (show vC x = false by simp [vC, headC, hpl])
    go_enter Try.func95, Try.ntmps95
    go_wp2_with (first | (go_at_call 118; refine (implBase _ _ (by assumption) _).mono ?_; rintro e w' ⟨rfl, rfl⟩) | (go_at_call 78; refine (implIn _ _ _ _ (by assumption) _).mono ?_; rintro e w' ⟨rfl, rfl⟩))
    go_ret
    exact ⟨by rw [← HB.out, hr.out]; rfl, hbx.out⟩
  have hbd := Lib.hid (inB_true.1 hbase)
  cases hpow : powB x.base x.places.length
  · have hr := Lib.hid (show vC x = false by simp [vC, hpow])
    have Hp := Lib.hid hpow; clear hpow
    go_enter Try.func95, Try.ntmps95
    go_wp2_with (first | (go_at_call 118; refine (implBase _ _ (by assumption) _).mono ?_; rintro e w' ⟨rfl, rfl⟩) | (go_at_call 78; refine (implIn _ _ _ _ (by assumption) _).mono ?_; rintro e w' ⟨rfl, rfl⟩) | (go_at_call 79; refine (implPowerOk _ _ hbd.out hn2 _ Hp.out _).mono ?_; rintro e w' ⟨rfl, rfl⟩))
    go_ret
    exact ⟨by rw [← HB.out, hr.out]; rfl, hbx.out⟩
  have hhead := Lib.hid (show headC x = true by simp [headC, hbase, hst, hsr, hsp, htb, hpl])
  have Hpow := Lib.hid hpow; clear hpow
  have hb1 := heap_alloc_new w (.cells #[.int .i64 x.base, .int .i64 x.states, .int .i64 x.start, .int .i64 x.stop, .slice a x.tables.length c, .slice a' x.places.length c'] 28)
  have q1 := Lib.hid (heap_cell hb1 (i := 1) rfl)
  have q4 := Lib.hid (heap_cell hb1 (i := 4) rfl)
  clear hb1
  go_enter Try.func95, Try.ntmps95
  go_wp2_with (first | (go_at_call 118; refine (implBase _ _ (by assumption) _).mono ?_; rintro e w' ⟨rfl, rfl⟩) | (go_at_call 78; refine (implIn _ _ _ _ (by assumption) _).mono ?_; rintro e w' ⟨rfl, rfl⟩) | (go_at_call 79; refine (implPowerOk _ _ hbd.out hn2 _ Hpow.out _).mono ?_; rintro e w' ⟨rfl, rfl⟩))
  clear hbase hst hsr hsp htb hpl
  go_loop [59] (fun i => ∃ k : Nat, k ≤ x.tables.length ∧ i = .int .i64 k ∧ Hid (allB k (fun i => tabIn x.states x.base (nth x.tables i)) = true)) (fun i => x.tables.length - (intOf i).toNat)
  case atStart => exact ⟨0, Nat.zero_le _, rfl, Lib.hid rfl⟩
  case round =>
    obtain ⟨k, hk, rfl, hok⟩ := hrel
    by_cases hlt : k < x.tables.length
    · obtain ⟨bt, ot, a1, c1, rfl, _, hc1, g1, g2, hr1⟩ := Rd.row Hu.out hlt
      have Hr1 := Lib.hid hr1; clear hr1
      unfold maxLen at g2
      by_cases hlen : ((nth x.tables k).length : Int) = x.states
      · have hlb : (((nth x.tables k).length : Int) != x.states) = false := by simp [hlen]
        have Hlen := Lib.hid hlen
        clear hlen
        go_wp2
        go_loop [70] (fun i => ∃ j : Nat, j ≤ (nth x.tables k).length ∧ i = .int .i64 j ∧ Hid (allB j (fun y => rowIn x.states x.base (nth (nth x.tables k) y)) = true)) (fun i => (nth x.tables k).length - (intOf i).toNat)
        case atStart => exact ⟨0, Nat.zero_le _, rfl, Lib.hid rfl⟩
        case round =>
          obtain ⟨j, hj, rfl, hoj⟩ := hrel
          by_cases hlj : j < (nth x.tables k).length
          · obtain ⟨br, or_, a2, c2, rfl, _, hc2, g3, g4, hr2⟩ := Rd.row Hr1.out hlj
            have Hr2 := Lib.hid hr2; clear hr2
            unfold maxLen at g4
            by_cases hrl : ((nth (nth x.tables k) j).length : Int) = x.base
            · have hrb : (((nth (nth x.tables k) j).length : Int) != x.base) = false := by simp [hrl]
              have Hc := Lib.hid (show ∀ d, d ∈ nth (nth x.tables k) j → Calls Try.prog 137 (#[.int .i64 d] ++ #[.pointer (some ⟨w.heap.size, 0, none⟩)]) (w.alloc _) fun e w' => e = .returned (.bool (!inB d 0 (x.states - 1))) ∧ (w.alloc _) = w' from fun d _ => implVC1 d x.states w.heap.size _ q1.out hsd)
              cases hall : allIn (nth (nth x.tables k) j) 0 (x.states - 1)
              · have hr := Lib.hid (vC_tab_no hlt (tabIn_row_no hlj (rowIn_all hrl hall)))
                have hany := Lib.hid (show ((nth (nth x.tables k) j).any fun d => !inB d 0 (x.states - 1)) = true by rw [any_allIn, hall]; rfl)
                clear hrl hall
                go_wp2_with (go_at_call 119; refine (slContainsFunc Hr2.out _ _ _ Hc.out (fun _ _ => by kernel_rfl) _ hany.out).mono ?_; rintro e w' ⟨rfl, rfl⟩)
                go_ret
                exact ⟨by rw [← HB.out, hr.out]; rfl, hbx.out⟩
              · have hoj2 := Lib.hid (allB_more hoj.out (show rowIn x.states x.base (nth (nth x.tables k) j) = true from rowIn_all hrl hall))
                have hany := Lib.hid (show ((nth (nth x.tables k) j).any fun d => !inB d 0 (x.states - 1)) = false by rw [any_allIn, hall]; rfl)
                clear hrl hall
                go_wp2_with (go_at_call 119; refine (slContainsFunc Hr2.out _ _ _ Hc.out (fun _ _ => by kernel_rfl) _ hany.out).mono ?_; rintro e w' ⟨rfl, rfl⟩)
                go_round
                case rel => exact ⟨j + 1, by omega, by go_num, hoj2⟩
                case measure => simp [intOf]; omega
            · have hrb : (((nth (nth x.tables k) j).length : Int) != x.base) = true := by simpa using hrl
              have hr := Lib.hid (vC_tab_no hlt (tabIn_row_no hlj (rowIn_len_no hrl)))
              clear hrl
              go_wp2
              go_ret
              exact ⟨by rw [← HB.out, hr.out]; rfl, hbx.out⟩
          · obtain rfl : j = (nth x.tables k).length := by omega
            have hok2 := Lib.hid (allB_more hok.out (tabIn_yes Hlen.out hoj.out))
            go_wp2
            go_round
            case rel => exact ⟨k + 1, by omega, by go_num, hok2⟩
            case measure => simp [intOf]; omega
      · have hlb : (((nth x.tables k).length : Int) != x.states) = true := by simpa using hlen
        have hr := Lib.hid (vC_tab_no hlt (tabIn_len_no hlen))
        clear hlen
        go_wp2
        go_ret
        exact ⟨by rw [← HB.out, hr.out]; rfl, hbx.out⟩
    · obtain rfl : k = x.tables.length := by omega
      have hta := Lib.hid (show tabsC x = true from hok.out)
      have Hc := Lib.hid (show ∀ d, d ∈ x.places → Calls Try.prog 138 (#[.int .i64 d] ++ #[.pointer (some ⟨w.heap.size, 0, none⟩)]) (w.alloc _) fun e w' => e = .returned (.bool (!inB d 0 ((x.tables.length : Int) - 1))) ∧ (w.alloc _) = w' from fun d _ => implVC2 d a x.tables.length c (by omega) w.heap.size _ q4.out)
      have hv := Lib.hid (show vC x = plsC x by simp [vC, hhead.out, Hpow.out, hta.out])
      have hany := Lib.hid (any_allIn x.places 0 ((x.tables.length : Int) - 1))
      cases hall : allIn x.places 0 ((x.tables.length : Int) - 1)
      all_goals
        have hr := Lib.hid (show vC x = _ from hv.out.trans hall)
        have hany2 := Lib.hid (show (x.places.any fun d => !inB d 0 ((x.tables.length : Int) - 1)) = _ by rw [hany.out, hall])
        clear hall
        go_wp2_with (go_at_call 119; refine (slContainsFunc Hp.out _ _ _ Hc.out (fun _ _ => by kernel_rfl) _ hany2.out).mono ?_; rintro e w' ⟨rfl, rfl⟩)
        go_ret
        exact ⟨by rw [← HB.out, hr.out]; rfl, hbx.out⟩
theorem implValidChain {B : Nat} {v : Value} {x : Chn} {w : World} (h : RdC (· < B) w v x) (hB : B ≤ w.heap.size) (hn : szC x ≤ 1048576) (b : Bool) (hb : vC x = b) :
    Calls Try.prog 95 #[v] w fun e w' => e = .returned (.bool b) ∧ Below w.heap.size w w' := implValidChainP h hB (by unfold szC at hn; omega) b hb
end Go.Proofs.Ytnpkanlieflbiaa
