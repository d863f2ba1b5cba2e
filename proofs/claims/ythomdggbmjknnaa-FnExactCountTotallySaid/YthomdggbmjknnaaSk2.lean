/- Totally antisymmetric quasigroups by search: the reference's walk. -/
import Derived.Test.YthomdggbmjknnaaSk1
import Derived.Test.YthomdggbmjknnaaT2
import Derived.Deep.QuietTactic
import Derived.Deep.DeepCutAuto
namespace Go.Proofs.Ythomdggbmjknnaa
open Go.RowKit
set_option linter.unusedVariables false

/-- A cell of a table of the call's own, read. -/
theorem Fresh.see2 {w0 w : World} {g n c : Nat} {t : List (List Int)} (hf : Fresh OII w0 w (.slice (some ⟨g, 0, none⟩) n c) t) (hs : Sq n t) {x y : Nat} (hx : x < n) (hy : y < n) :
    ∃ gx cx, w.cell? ⟨g, x, none⟩ = some (.slice (some ⟨gx, 0, none⟩) n cx) ∧ n ≤ cx ∧ cx ≤ 9223372036854775807 ∧ w.cell? ⟨gx, y, none⟩ = some (.int .i64 (nth (nth t x) y)) := by
  obtain ⟨gx, cx, h1, h2, h3, h4, _⟩ := hf.put2 (x := x) (y := y) (by rw [hs.1]; exact hx) (by rw [hs.2 x hx]; exact hy)
  rw [hs.2 x hx] at h1 h2
  unfold maxLen at h3
  exact ⟨gx, cx, h1, h2, by omega, h4⟩

/-- What a search says. -/
def SrchPost (first : Bool) (w0 : World) (n g c m : Nat) (t : T2) (w : World) (e : Ending) (w' : World) : Prop := ∃ a2 n2 c2, e = .returned (.tuple #[.int .i64 ((srch n first m t).cnt : Nat), .slice a2 n2 c2]) ∧
      Fresh OII w0 w' (.slice (some ⟨g, 0, none⟩) n c) (srch n first m t).tab ∧ (first = true → 0 < (srch n first m t).cnt → ∃ S, OII w' (.slice a2 n2 c2) (srch n first m t).found S ∧ ∀ k ∈ S, w.heap.size ≤ k) ∧ w.heap.size ≤ w'.heap.size
set_option maxHeartbeats 6400000 in
set_option maxRecDepth 100000 in
theorem specSearch0 (first : Bool) {w0 : World} {n : Nat} (h1 : 1 ≤ n) (h5 : n ≤ 5) {g c : Nat} (A : Nat) (hA : A + 0 = n * n) (t : T2) (w : World) (hs : Sm 0 n t) (hf : Fresh OII w0 w (.slice (some ⟨g, 0, none⟩) n c) t) :
    Calls Try.prog 45 #[.slice (some ⟨g, 0, none⟩) n c, .int .i64 A, .bool first] w (SrchPost first w0 n g c 0 t w) := by
  unfold SrchPost
  have hA' : A = n * n := by omega
  have hl2 := hf.len2
  unfold maxLen at hl2
  have hcl := Lib.hid (specTotallyW (Fresh.rd OII.leads OII.ok hf) (hs.wq h1 (by omega)))
  obtain ⟨NN, hNN⟩ : ∃ NN, NN = n * n := ⟨_, rfl⟩
  have hle : NN ≤ 25 := hNN ▸ Nat.mul_le_mul h5 h5
  have w1 : wrap64 ((n : Int) * (n : Int)) = (NN : Int) := by rw [hNN, ← Int.natCast_mul]; exact IntWalk.wrap64_in _ (by rw [← hNN]; omega)
  rw [hA', ← hNN]
  have Hs := Lib.hid hs
  have Hf := Lib.hid hf
  clear hA hA' hNN hs hf
  cases ht : totB t
  · rw [ht] at hcl
    have hv := Lib.hid (show srch n first 0 t = ⟨0, [], t⟩ by unfold srch; rw [ht]; rfl)
    go_enter Try.func45, Try.ntmps45
    go_wp2_with fail
    refine hcl.out.mono ?_
    rintro e w1 ⟨rfl, mm, rfl⟩
    go_wp2
    go_ret2
    exact ⟨_, _, _, by rw [hv.out]; rfl, by rw [hv.out]; exact Hf.out.stay OII.ok (by repeat' (first | with_reducible exact Below.refl _ _ | with_reducible refine Below.alloc ?_ ?_ _ | with_reducible refine Below.setCell ?_ ?_ _ | with_reducible refine Below.drew ?_ | with_reducible refine Below.draws ?_ _ | omega | (simp; done) | (simp; omega))), fun _ h => by rw [hv.out] at h; exact absurd h (by simp), by simp⟩
  · rw [ht] at hcl
    have hv := Lib.hid (show srch n first 0 t = ⟨1, t, t⟩ by unfold srch; rw [ht]; rfl)
    go_enter Try.func45, Try.ntmps45
    go_wp2_with fail
    refine hcl.out.mono ?_
    rintro e w1 ⟨rfl, mm, hmm⟩
    have Hf1 := Lib.hid (show Fresh OII w0 w1 (.slice (some ⟨g, 0, none⟩) n c) t by rw [← hmm]; exact Hf.out.drewN OII.ok mm)
    have Hb1 := Lib.hid (show Below w.heap.size w w1 by rw [← hmm]; exact ⟨rfl, rfl, rfl, Nat.le_refl _, fun _ _ => rfl⟩)
    clear hmm
    go_wp2
    go_loopw [9, 10] (fun ov iv wr => ∃ k : Nat, k ≤ n ∧ iv = .int .i64 k ∧ Hid (Fresh OII w1 wr ov (t.take k))) (fun _ iv _ => n - (intOf iv).toNat)
    case atStart => exact ⟨0, Nat.zero_le _, rfl, Lib.hid (Fresh.empty (E := 25) (R := OI) (Below.refl _ _))⟩
    case round =>
      obtain ⟨k, hk, rfl, hf⟩ := hrel
      obtain ⟨W2, rfl⟩ : ∃ W2, W2 = wr := ⟨_, rfl⟩
      have hft := Hf1.out.stay OII.ok hf.out.bel
      by_cases hlt : k < n
      · have hlt' : k < t.length := by rw [Hs.out.sq.1]; exact hlt
        obtain ⟨b, o, a1, c1, e, hP, hc, g1, g2, hr⟩ := Rd.row (Fresh.rd OII.leads OII.ok hft) hlt'
        simp only [Option.some.injEq, Addr.mk.injEq, and_true] at e
        obtain ⟨rfl, rfl⟩ := e
        simp only [Nat.zero_add] at hc
        have Hcl := Lib.hid (specOwn hr (fun j hj => hj) (by rw [Hs.out.sq.2 k hlt]; omega))
        have hs := Lib.hid (take_nth hlt')
        have hlk := Lib.hid (show (t.take k).length ≤ 1048576 by simp; omega)
        obtain ⟨a0, n0, c0, rfl⟩ := hf.out.choose_spec.1.isSlice
        rw [Hs.out.sq.2 k hlt] at Hcl hc g1
        unfold maxLen at g2
        clear hr hft
        go_wp2_with fail
        refine (Calls.mono Hcl.out ?_)
        rintro e w5 ⟨v5, rfl, hf5⟩
        obtain ⟨S, T, p1, p2, p3, p4⟩ := pushRow OI.ok hf.out hf5
        have Hp1 := Lib.hid p1
        have Hp2 := Lib.hid p2
        have Hp3 := Lib.hid p3
        have Hp4 := Lib.hid p4
        obtain ⟨a3, n3, c3, rfl⟩ := p2.isSlice
        clear p1 p2 p3 p4 hf5
        go_wp2_with (at_builtin; refine wpList_push rfl _ _ 30 rfl OI.ok Try.underlying30 infoSl' rfl Hp1.out Hp2.out Hp3.out (by have := hlk.out; omega) (by have := hlk.out; unfold maxLen; omega) rfl rfl ?_; intro v1 w8 S8 hown1 honly1 hS8; have Hf5 := Lib.hid (Hp4.out v1 w8 S8 hown1 honly1 hS8); clear hown1 honly1 hS8)
        go_roundw
        case rel => exact ⟨k + 1, by omega, by go_num, by rw [hs.out]; exact Hf5⟩
        case measure => simp [intOf]; omega
      · obtain ⟨hkn⟩ : Nonempty (k = t.length) := ⟨by rw [Hs.out.sq.1]; omega⟩
        have hx : t.take k = t := by rw [hkn, List.take_length]
        rw [hx] at hf
        have Hft := Lib.hid hft
        obtain ⟨a0, n0, c0, rfl⟩ := hf.out.choose_spec.1.isSlice
        clear hkn hft
        go_wp2
        go_ret2
        obtain ⟨S, hS1, hS2, hS3⟩ := hf.out
        have hz := hS3.size
        have hz1 := Hb1.out.size
        exact ⟨_, _, _, by rw [hv.out]; rfl, by rw [hv.out]; exact Hft.out, fun _ _ => ⟨S, by rw [hv.out]; exact hS1, fun k hk => Nat.le_trans hz1 (hS2 k hk)⟩, by omega⟩

set_option maxHeartbeats 6400000 in
set_option maxRecDepth 100000 in
theorem specSearch (first : Bool) {w0 : World} {n : Nat} (h1 : 1 ≤ n) (h5 : n ≤ 5) {g c : Nat} : ∀ (m A : Nat) (hA : A + m = n * n) (t : T2) (w : World), Sm 0 n t → Fresh OII w0 w (.slice (some ⟨g, 0, none⟩) n c) t →
    Calls Try.prog 45 #[.slice (some ⟨g, 0, none⟩) n c, .int .i64 A, .bool first] w (SrchPost first w0 n g c m t w) := by
  intro m
  induction m with
  | zero => exact fun A hA t w hs hf => specSearch0 first h1 h5 A hA t w hs hf
  | succ m ih =>
    intro A hA t w hs hf
    unfold SrchPost
    have hl2 := hf.len2
    unfold maxLen at hl2
    obtain ⟨x, hx⟩ : ∃ x, x = A / n := ⟨_, rfl⟩
    obtain ⟨y, hy⟩ : ∃ y, y = A % n := ⟨_, rfl⟩
    have hlt := at_lt (m := m) h1 (by omega)
    rw [show n * n - (m + 1) = A by omega, ← hx, ← hy] at hlt
    obtain ⟨hxn, hyn⟩ := hlt
    obtain ⟨ST, hST⟩ : ∃ ST : Nat → SS, ST = iterK (srchStep (srch n first m) x y first) ⟨0, [], t⟩ := ⟨_, rfl⟩
    have hv := Lib.hid (show srch n first (m + 1) t = ST n by rw [hST, hx, hy, show A = n * n - (m + 1) by omega]; rfl)
    have ST0 := Lib.hid (show ST 0 = ⟨0, [], t⟩ by rw [hST]; rfl)
    have STs := Lib.hid (show ∀ k, ST (k + 1) = srchStep (srch n first m) x y first (ST k) k from fun k => by rw [hST]; rfl)
    have STsm := Lib.hid (show ∀ k, k ≤ n → Sm 0 n (ST k).tab from fun k hk => by
      rw [hST]
      exact iterK_inv (fun _ (s : SS) => Sm 0 n s.tab) hs (fun b j hj hb => srchStep_tab hxn hyn (srch_tab h1 first m (by omega)) hb (by omega)) k hk)
    have STc := Lib.hid (show ∀ k, k ≤ n → (ST k).cnt ≤ 1500000000000000000 from fun k hk => by
      have e := iterK_le (step := srchStep (srch n first m) x y first) (a := ⟨0, [], t⟩) (c := n ^ m) rfl (fun b k => by
        unfold srchStep
        split
        · omega
        · split
          · show b.cnt + _ ≤ _; have := srch_cnt (n := n) first m (set2 b.tab x y k); omega
          · omega) k
      rw [hST]
      have h2 := pow525 h5 (show m ≤ n * n by omega)
      have h3 : k * n ^ m ≤ 5 * 300000000000000000 := Nat.mul_le_mul (by omega) h2
      omega)
    have STst := Lib.hid (show ∀ k, k ≤ n → first = true → 0 < (ST k).cnt → ST n = ST k from fun k hk hf h0 => by
      subst hf
      rw [hST] at h0 ⊢
      exact iterK_stay hk fun j => srch_stop h0 j)
    have hcm := Lib.hid (fun t : T2 => Nat.le_trans (srch_cnt (n := n) first m t) (pow525 h5 (show m ≤ n * n by omega)))
    obtain ⟨NN, hNN⟩ : ∃ NN, NN = n * n := ⟨_, rfl⟩
    have hle : NN ≤ 25 := hNN ▸ Nat.mul_le_mul h5 h5
    have w1 : wrap64 ((n : Int) * (n : Int)) = (NN : Int) := by rw [hNN, ← Int.natCast_mul]; exact IntWalk.wrap64_in _ (by rw [← hNN]; omega)
    have hAN : A < NN := by omega
    have hAN' : ¬ (A : Int) = (NN : Int) := by omega
    have eA1 : ((A + 1 : Nat) : Int) = (A : Int) + 1 := rfl
    have ih' := Lib.hid (ih (A + 1) (by omega))
    rw [eA1] at ih'
    clear eA1
    have hA25 : A ≤ 25 := Nat.le_trans (Nat.le_of_lt hAN) hle
    have q5 : wrap64 (x : Int) = x := IntWalk.wrap64_in _ (by omega)
    have q6 : wrap64 (y : Int) = y := IntWalk.wrap64_in _ (by omega)
    have hn0 : ¬ (n : Int) = 0 := by omega
    have hn0' : ¬ n = 0 := by omega
    have hcl0 : Hid ((0 : Int) ≤ (A : Int)) := Lib.hid (Int.natCast_nonneg _)
    have q1 : (A : Int) / n = (x : Int) := by rw [hx, Int.natCast_ediv]
    have q2 : (A : Int) % n = (y : Int) := by rw [hy, Int.natCast_emod]
    have q3 : (A : Int).tdiv n = (x : Int) := by rw [Int.tdiv_eq_ediv_of_nonneg hcl0.out]; exact q1
    have q4 : (A : Int).tmod n = (y : Int) := by rw [Int.tmod_eq_emod_of_nonneg hcl0.out]; exact q2
    have Hf := Lib.hid hf
    clear hNN hx hy hST hA ih hs hf
    go_enter Try.func45, Try.ntmps45
    go_wp2
    clear q1 q2 q3 q4 q5 q6 w1 hAN hAN'
    generalize ((A : Int) == (NN : Int)) = zb1
    generalize wrap64 ((n : Int) * (n : Int)) = zb2
    go_loopw [13, 14, 15] (fun cv fv zv wr => ∃ (k : Nat) (a2 : Option Addr) (n2 c2 : Nat), k ≤ n ∧ cv = .int .i64 ((ST k).cnt : Nat) ∧ fv = .slice a2 n2 c2 ∧ zv = .int .i64 k ∧ Hid (Fresh OII w0 wr (.slice (some ⟨g, 0, none⟩) n c) (ST k).tab) ∧ Hid (first = true → (ST k).cnt = 0) ∧ Hid (w.heap.size ≤ wr.heap.size)) (fun _ _ zv _ => n - (intOf zv).toNat)
    case atStart => exact ⟨0, _, _, _, Nat.zero_le _, by rw [ST0.out]; rfl, rfl, rfl, Lib.hid (by rw [ST0.out]; exact Hf.out.stay OII.ok (by repeat' (first | with_reducible exact Below.refl _ _ | with_reducible refine Below.alloc ?_ ?_ _ | with_reducible refine Below.setCell ?_ ?_ _ | with_reducible refine Below.drew ?_ | with_reducible refine Below.draws ?_ _ | omega | (simp; done) | (simp; omega)))), Lib.hid fun _ => by rw [ST0.out], Lib.hid (by simp)⟩
    case round =>
      obtain ⟨k, a2, n2, c2, hk, rfl, rfl, rfl, hfr, hz0, hsz⟩ := hrel
      obtain ⟨W2, rfl⟩ : ∃ W2, W2 = wr := ⟨_, rfl⟩
      have hsm := Lib.hid (STsm.out k hk)
      have hcb := STc.out k hk
      have hss := Lib.hid (STs.out k)
      have hfin := Lib.hid (hv.out)
      by_cases hkn : k < n
      · have hcb1 := STc.out (k + 1) hkn
        obtain ⟨C, hC⟩ : ∃ C, C = (ST k).cnt := ⟨_, rfl⟩
        obtain ⟨F, hF⟩ : ∃ F, F = (ST k).found := ⟨_, rfl⟩
        obtain ⟨T, hT⟩ : ∃ T, T = (ST k).tab := ⟨_, rfl⟩
        have eS : ST k = ⟨C, F, T⟩ := by rw [hC, hF, hT]
        rw [eS] at hss hsm hfr hz0 hcb
        rw [← hC]
        have Hcb1 := Lib.hid hcb1
        clear hC hF hT eS hcb1
        obtain ⟨gx, cx, c1, c2', c3, _⟩ := hfr.out.see2 hsm.out.sq hxn hyn
        obtain ⟨gy, cy, d1, d2, d3, d4⟩ := hfr.out.see2 hsm.out.sq hyn hxn
        go_upto_region 18 with fail
        go_cut [16] (fun s0 wx => s0 = .bool (free0 T x y k) ∧ wx = W2)
        case first =>
          by_cases hxy : x ≤ y
          · have e0 := Lib.hid (show free0 T x y k = true by simp [free0, hxy])
            go_wp2_with fail
            go_meet
            exact ⟨by rw [e0.out], rfl⟩
          · have e0 := Lib.hid (show free0 T x y k = !(nth (nth T y) x == (k : Int)) by simp [free0, hxy])
            go_wp2_with fail
            go_meet
            exact ⟨by rw [e0.out]; rfl, rfl⟩
        case rest =>
        obtain ⟨rfl, rfl⟩ := hcut
        obtain ⟨W2, rfl⟩ : ∃ W2, W2 = wc := ⟨_, rfl⟩
        clear c1 d1 d4
        go_wp2
        go_loop [16, 17] (fun fv jv => ∃ j : Nat, j ≤ x ∧ jv = .int .i64 j ∧ fv = .bool (free0 T x y k && freeC T y k j)) (fun _ jv => x - (intOf jv).toNat)
        case atStart => exact ⟨0, Nat.zero_le _, rfl, by rw [show freeC T y k 0 = true from rfl, Bool.and_true]⟩
        case round =>
          obtain ⟨j, hj, rfl, rfl⟩ := hrel
          by_cases hjx : j < x
          · obtain ⟨gj, cj, b1, b2, b3, b4⟩ := hfr.out.see2 hsm.out.sq (show j < n by omega) hyn
            have hsu := Lib.hid (allB_succ j fun k' => !(nth (nth T k') y == (k : Int)))
            cases hb : (free0 T x y k && freeC T y k j)
            · have e1 : (free0 T x y k && freeC T y k (j + 1)) = false := by
                show (_ && allB (j + 1) _) = false
                rw [hsu.out, ← Bool.and_assoc, show (free0 T x y k && allB j _) = _ from hb]; rfl
              go_wp2
              go_round
              case rel => exact ⟨j + 1, by omega, by go_num, by rw [e1]⟩
              case measure => simp [intOf]; omega
            · have e1 : (free0 T x y k && freeC T y k (j + 1)) = !(nth (nth T j) y == (k : Int)) := by
                show (_ && allB (j + 1) _) = _
                rw [hsu.out, ← Bool.and_assoc, show (free0 T x y k && allB j _) = _ from hb]; rfl
              go_wp2
              go_round
              case rel => exact ⟨j + 1, by omega, by go_num, by rw [e1]; rfl⟩
              case measure => simp [intOf]; omega
          · obtain rfl : j = x := by omega
            go_wp2
            go_loop [16, 18] (fun fv iv => ∃ i : Nat, i ≤ y ∧ iv = .int .i64 i ∧ fv = .bool ((free0 T j y k && freeC T y k j) && freeR T j k i)) (fun _ iv => y - (intOf iv).toNat)
            case atStart => exact ⟨0, Nat.zero_le _, rfl, by rw [show freeR T j k 0 = true from rfl, Bool.and_true]⟩
            case round =>
              obtain ⟨i, hi, rfl, rfl⟩ := hrel
              by_cases hiy : i < y
              · obtain ⟨gj, cj, b1, b2, b3, b4⟩ := hfr.out.see2 hsm.out.sq hxn (show i < n by omega)
                have hsu := Lib.hid (allB_succ i fun k' => !(nth (nth T j) k' == (k : Int)))
                cases hb : ((free0 T j y k && freeC T y k j) && freeR T j k i)
                · have e1 : ((free0 T j y k && freeC T y k j) && freeR T j k (i + 1)) = false := by
                    show (_ && allB (i + 1) _) = false
                    rw [hsu.out, ← Bool.and_assoc, show ((free0 T j y k && freeC T y k j) && allB i _) = _ from hb]; rfl
                  go_wp2
                  go_round
                  case rel => exact ⟨i + 1, by omega, by go_num, by rw [e1]⟩
                  case measure => simp [intOf]; omega
                · have e1 : ((free0 T j y k && freeC T y k j) && freeR T j k (i + 1)) = !(nth (nth T j) i == (k : Int)) := by
                    show (_ && allB (i + 1) _) = _
                    rw [hsu.out, ← Bool.and_assoc, show ((free0 T j y k && freeC T y k j) && allB i _) = _ from hb]; rfl
                  go_wp2
                  go_round
                  case rel => exact ⟨i + 1, by omega, by go_num, by rw [e1]; rfl⟩
                  case measure => simp [intOf]; omega
              · obtain rfl : i = y := by omega
                cases hfree : ((free0 T j i k && freeC T i k j) && freeR T j k i)
                · have hnx := Lib.hid (show ST (k + 1) = ⟨C, F, T⟩ by
                    rw [hss.out]; unfold srchStep
                    rw [show freeS T j i k = false from hfree]
                    simp)
                  go_wp2
                  go_roundw
                  case rel => exact ⟨k + 1, _, _, _, by omega, by rw [hnx.out], rfl, by go_num, by rw [hnx.out]; exact hfr, by rw [hnx.out]; exact hz0, hsz⟩
                  case measure => simp [intOf]; omega
                · obtain ⟨gx2, cx2, p1, p2, p3, p4, p5, p6, hput⟩ := hfr.out.put2 (x := j) (y := i) (by rw [hsm.out.sq.1]; exact hxn) (by rw [hsm.out.sq.2 j hxn]; exact hyn)
                  rw [hsm.out.sq.2 j hxn] at p1 p2
                  unfold maxLen at p3
                  have Hst := Lib.hid (hsm.out.set hxn hyn (z := (k : Int)) (by omega))
                  have hcnt := hcm.out (set2 T j i k)
                  have hrec := Lib.hid (ih'.out (set2 T j i k) (W2.setCell ⟨gx2, i, none⟩ (.int .i64 k)) Hst.out (hput _ (Below.refl _ _) _))
                  have hnx := Lib.hid (show (first && decide (0 < C)) = false → ST (k + 1) = ⟨C + (srch n first m (set2 T j i k)).cnt, if C = 0 ∧ 0 < (srch n first m (set2 T j i k)).cnt then (srch n first m (set2 T j i k)).found else F, (srch n first m (set2 T j i k)).tab⟩ from fun h0 => by
                    rw [hss.out]; unfold srchStep
                    rw [h0, show freeS T j i k = true from hfree]; rfl)
                  unfold SrchPost at hrec
                  clear hput hfree hss Hcb1 hfr
                  generalize srch n first m (set2 T j i k) = R at *
                  obtain ⟨RC, hRC⟩ : ∃ RC, RC = R.cnt := ⟨_, rfl⟩
                  rw [← hRC] at hcnt hrec hnx
                  clear hRC
                  go_wp2_with fail
                  refine (Calls.mono hrec.out ?_)
                  rintro e w5 ⟨a5, n5, c5, rfl, hf5, hfd5, hz5⟩
                  have Hf5 := Lib.hid hf5
                  have Hfd5 := Lib.hid hfd5
                  have Hz5 := Lib.hid (Nat.le_trans hsz.out (show W2.heap.size ≤ w5.heap.size by simpa using hz5))
                  have HzW := Lib.hid (show ∀ q, (W2.setCell ⟨gx2, i, none⟩ (.int .i64 k)).heap.size ≤ q → w.heap.size ≤ q from fun q hq => Nat.le_trans hsz.out (by simpa using hq))
                  clear hf5 hfd5 hz5 hrec p1 p2 p3 p4 p5 p6 hsz
                  cases first
                  · have hnx2 := hnx.out rfl
                    by_cases hC0 : C = 0
                    · by_cases hR0 : RC = 0
                      · have e := Lib.hid (show ST (k + 1) = ⟨C + RC, F, R.tab⟩ by rw [hnx2]; simp [hR0])
                        subst hC0 hR0
                        clear hnx2
                        go_wp2
                        go_roundw
                        case rel => exact ⟨k + 1, _, _, _, by omega, by rw [e.out]; rfl, rfl, by go_num, by rw [e.out]; exact Hf5, Lib.hid fun h => by simp at h, Hz5⟩
                        case measure => simp [intOf]; omega
                      · have hR1 : 0 < RC := by omega
                        have e := Lib.hid (show ST (k + 1) = ⟨C + RC, R.found, R.tab⟩ by rw [hnx2, if_pos ⟨hC0, hR1⟩])
                        subst hC0
                        clear hnx2
                        go_wp2
                        go_roundw
                        case rel => exact ⟨k + 1, _, _, _, by omega, by rw [e.out]; show _ = Value.int .i64 ((0 + RC : Nat) : Int); simp, rfl, by go_num, by rw [e.out]; exact Hf5, Lib.hid fun h => by simp at h, Hz5⟩
                        case measure => simp [intOf]; omega
                    · have e := Lib.hid (show ST (k + 1) = ⟨C + RC, F, R.tab⟩ by rw [hnx2, if_neg (fun h => hC0 h.1)])
                      clear hnx2
                      go_wp2
                      go_roundw
                      case rel => exact ⟨k + 1, _, _, _, by omega, by rw [e.out]; show _ = Value.int .i64 ((C + RC : Nat) : Int); simp, rfl, by go_num, by rw [e.out]; exact Hf5, Lib.hid fun h => by simp at h, Hz5⟩
                      case measure => simp [intOf]; omega
                  · have hC0 : C = 0 := hz0.out rfl
                    have hnx2 := hnx.out (by rw [hC0]; rfl)
                    by_cases hR0 : RC = 0
                    · have e := Lib.hid (show ST (k + 1) = ⟨C + RC, F, R.tab⟩ by rw [hnx2]; simp [hR0])
                      subst hC0 hR0
                      clear hnx2
                      go_wp2
                      go_roundw
                      case rel => exact ⟨k + 1, _, _, _, by omega, by rw [e.out]; rfl, rfl, by go_num, by rw [e.out]; exact Hf5, Lib.hid fun h => by rw [e.out], Hz5⟩
                      case measure => simp [intOf]; omega
                    · have hR1 : 0 < RC := by omega
                      have e := Lib.hid (show ST n = ⟨C + RC, R.found, R.tab⟩ by
                        rw [if_pos ⟨hC0, hR1⟩] at hnx2
                        rw [STst.out (k + 1) hkn rfl (by rw [hnx2]; show 0 < C + RC; omega), hnx2])
                      subst hC0
                      clear hnx2
                      go_wp2
                      go_ret2
                      exact ⟨a5, n5, c5, by rw [hfin.out, e.out]; show _ = Ending.returned (.tuple #[.int .i64 ((0 + RC : Nat) : Int), _]); simp, by rw [hfin.out, e.out]; exact Hf5.out, fun _ => by
                        rw [hfin.out, e.out]
                        obtain ⟨S, q1, q2⟩ := Hfd5.out trivial hR1
                        exact ⟨S, q1, fun k hk => HzW.out _ (q2 k hk)⟩, Hz5.out⟩
      · obtain ⟨hke⟩ : Nonempty (k = n) := ⟨by omega⟩
        have hz0' := Lib.hid (show first = true → ¬ 0 < (ST n).cnt from fun h => by have := hz0.out h; rw [hke] at this; omega)
        rw [hke] at hfr hcb ⊢
        clear hz0 hke
        go_wp2
        go_ret2
        exact ⟨a2, n2, c2, by rw [hfin.out]; rfl, by rw [hfin.out]; exact hfr.out, fun h h2 => by rw [hfin.out] at h2; exact absurd h2 (hz0'.out h), hsz.out⟩
end Go.Proofs.Ythomdggbmjknnaa
