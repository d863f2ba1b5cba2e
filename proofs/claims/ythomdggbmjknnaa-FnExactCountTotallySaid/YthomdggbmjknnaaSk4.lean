/- Totally antisymmetric quasigroups by search: the program's walk. -/
import Derived.Test.YthomdggbmjknnaaSk3
namespace Go.Proofs.Ythomdggbmjknnaa
open Go.RowKit
set_option linter.unusedVariables false

/-- What a callback holds of the memory. -/
structure JOk {σ : Type} (J : σ → World → List Nat → Prop) : Prop where
  keep : ∀ {s : σ} {w w' : World} {SJ : List Nat}, J s w SJ → (∀ k ∈ SJ, w'.heap[k]? = w.heap[k]?) → J s w' SJ
  lt : ∀ {s : σ} {w : World} {SJ : List Nat}, J s w SJ → ∀ k ∈ SJ, k < w.heap.size
/-- The seeker at work. -/
structure SkS {σ : Type} (J : σ → World → List Nat → Prop) (w0 : World) (bq g c n : Nat) (s : σ) (t : T2) (w : World) : Prop where
  ex : ∃ S SJ, OII w (.slice (some ⟨g, 0, none⟩) n c) t S ∧ (∀ k ∈ S, w0.heap.size ≤ k ∧ k ≠ bq ∧ k ∉ SJ) ∧ J s w SJ ∧ ∀ k ∈ SJ, w0.heap.size ≤ k ∧ k ≠ bq
  box : w.heap[bq]? = some (.cells #[.int .i64 n, .slice (some ⟨g, 0, none⟩) n c] 80 (0, 0))
  hbq : w0.heap.size ≤ bq
  bel : Below w0.heap.size w0 w
section sks
variable {σ : Type} {J : σ → World → List Nat → Prop} {w0 : World} {bq g c n : Nat} {s : σ} {t : T2} {w : World}
theorem SkS.keep (hJ : JOk J) (h : SkS J w0 bq g c n s t w) {w' : World} (hb : Below w.heap.size w w') : SkS J w0 bq g c n s t w' := by
  obtain ⟨S, SJ, h1, h2, h3, h4⟩ := h.ex
  exact ⟨⟨S, SJ, OII.ok.keep h1 fun k hk => hb.block k (OII.ok.lt h1 k hk), h2, hJ.keep h3 fun k hk => hb.block k (hJ.lt h3 k hk), h4⟩, below_heap hb h.box, h.hbq, h.bel.trans (hb.mono h.bel.size)⟩
theorem SkS.draws (hJ : JOk J) (h : SkS J w0 bq g c n s t w) {w' : World} {m : Nat} (hm : w.drewN m = w') : SkS J w0 bq g c n s t w' := h.keep hJ (below_draws ⟨m, hm⟩)
theorem SkS.put (hJ : JOk J) (h : SkS J w0 bq g c n s t w) (hs : Sq n t) {x y : Nat} (hx : x < n) (hy : y < n) :
    ∃ gx cx, w.cell? ⟨g, x, none⟩ = some (.slice (some ⟨gx, 0, none⟩) n cx) ∧ n ≤ cx ∧ cx ≤ 9223372036854775807 ∧ w.cell? ⟨gx, y, none⟩ = some (.int .i64 (nth (nth t x) y)) ∧ w.frozen? ⟨gx, y, none⟩ = false ∧
      ∀ w2, Below w.heap.size w w2 → ∀ z, SkS J w0 bq g c n s (set2 t x y z) (w2.setCell ⟨gx, y, none⟩ (.int .i64 z)) := by
  obtain ⟨S, SJ, hS, h2, h3, h4⟩ := h.ex
  have hx' : x < t.length := by rw [hs.1]; exact hx
  have hy' : y < (nth t x).length := by rw [hs.2 x hx]; exact hy
  obtain ⟨u, T, hc, hu, hT, hput⟩ := hS.turnAt OI.ok hx'
  rcases hu.shape with ⟨rfl, e⟩ | ⟨gx, cx, rfl, hg⟩
  · rw [e] at hy'; simp at hy'
  · have hl := hu.len
    obtain ⟨cur, hcur⟩ := hu.heap
    have hgS := (hT gx hg).1
    rw [hs.2 x hx] at hc hl
    have hl3 := hl.2.2
    unfold maxLen at hl3
    refine ⟨gx, cx, hc, hl.2.1, by omega, hu.cell hy', hu.frozen y, fun w2 hw2 z => ?_⟩
    have hset : ∀ k, k ≠ gx → k < w.heap.size → (w2.setCell ⟨gx, y, none⟩ (.int .i64 z)).heap[k]? = w.heap[k]? := fun k hk hk2 => (keep_set (p := ⟨gx, y, none⟩) hk).trans (hw2.block k hk2)
    refine ⟨⟨S, SJ, OII.ok.keep (hput _ _ ((Only.refl _ _).put hg _ _) (hu.put hy' z)) fun k hk => setCell_like hcur (fun k hk => hw2.block k hk) (OII.ok.lt hS k hk), h2, hJ.keep h3 fun k hk => hset k (fun e => (h2 gx hgS).2.2 (e ▸ hk)) (hJ.lt h3 k hk), h4⟩, (hset bq (fun e => (h2 gx hgS).2.1 e.symm) (heap_lt h.box)).trans h.box, h.hbq, (h.bel.trans (hw2.mono h.bel.size)).setCell (h2 gx hgS).1 _⟩
theorem SkS.see (hJ : JOk J) (h : SkS J w0 bq g c n s t w) (hs : Sq n t) : See g n t w := fun x y hx hy => by
  obtain ⟨gx, cx, h1, h2, h3, h4, _⟩ := h.put hJ hs hx hy
  exact ⟨gx, cx, h1, h2, h3, h4⟩
theorem SkS.cap (h : SkS J w0 bq g c n s t w) : n ≤ c ∧ c ≤ 9223372036854775807 := by
  obtain ⟨S, SJ, hS, _⟩ := h.ex
  have := hS.len
  unfold maxLen at this
  omega
end sks
theorem See.row {g n : Nat} {t : T2} {w : World} (h : See g n t w) (hs : Sq n t) {x y : Nat} (hx : x < n) (hy : y ≤ n) {gx cx : Nat} (hc : w.cell? ⟨g, x, none⟩ = some (.slice (some ⟨gx, 0, none⟩) n cx)) (h1 : n ≤ cx) (h2 : cx ≤ 9223372036854775807) :
    RdI (fun _ => True) w (.slice (some ⟨gx, 0, none⟩) y cx) ((nth t x).take y) := by
  have hl : ((nth t x).take y).length = y := by rw [List.length_take, hs.2 x hx]; omega
  refine ⟨some ⟨gx, 0, none⟩, cx, by rw [hl], by rw [hl]; omega, by unfold maxLen; omega, fun i hi => ?_⟩
  rw [hl] at hi
  obtain ⟨gx', cx', e1, _, _, e4⟩ := h x i hx (by omega)
  rw [hc] at e1
  simp only [Option.some.injEq, Value.slice.injEq, Addr.mk.injEq, and_true, true_and] at e1
  obtain ⟨rfl, rfl⟩ := e1
  exact ⟨gx, 0, _, rfl, trivial, by rw [Nat.zero_add]; exact e4, by rw [nth_take hi]; rfl⟩

/-- What a seeking says. -/
def SeekPost {σ : Type} (J : σ → World → List Nat → Prop) (w0 : World) (bq g c n : Nat) (r : KS σ) (e : Ending) (w' : World) : Prop := e = .returned (.bool r.stop) ∧ SkS J w0 bq g c n r.s r.tab w'

set_option maxHeartbeats 6400000 in
set_option maxRecDepth 100000 in
theorem implSeek {σ : Type} {J : σ → World → List Nat → Prop} (hJ : JOk J) {w0 : World} {n : Nat} (h1 : 1 ≤ n) (h5 : n ≤ 5) {bq g c gF : Nat} {cap : Array Value} (stp : σ → T2 → σ × Bool)
    (hp : ∀ (s : σ) (t : T2) (W : World), Sm (-1) n t → SkS J w0 bq g c n s t W → Calls Try.prog gF (#[.slice (some ⟨g, 0, none⟩) n c] ++ cap) W fun e w' => e = .returned (.bool (stp s t).2) ∧ SkS J w0 bq g c n (stp s t).1 t w')
    (hg : ∀ (args : Array Value) (w : World), (callFunc gF args).run Try.prog w = .ok (.enter gF args) w) : ∀ (m A : Nat) (hA : A + m = n * n) (s : σ) (t : T2) (w : World), Sm (-1) n t → SkS J w0 bq g c n s t w →
    Calls Try.prog 48 #[.pointer (some ⟨bq, 0, none⟩), .int .i64 A, .func (.func gF) #[] cap] w (SeekPost J w0 bq g c n (seekF n stp m s t)) := by
  have Hp := Lib.hid hp; clear hp
  have HJ := Lib.hid hJ; clear hJ
  intro m
  induction m with
  | zero =>
    intro A hA s t w hs hk
    unfold SeekPost
    obtain ⟨NN, hNN⟩ : ∃ NN, NN = n * n := ⟨_, rfl⟩
    have hle : NN ≤ 25 := hNN ▸ Nat.mul_le_mul h5 h5
    have w1 : IntKind.i64.wrap ((n : Int) * (n : Int)) = (NN : Int) := by rw [hNN, ← Int.natCast_mul]; exact IntWalk.i64_in _ (by rw [← hNN]; omega)
    have hA' : A = NN := by omega
    have hcl := Lib.hid (Hp.out s t)
    have hv := Lib.hid (show seekF n stp 0 s t = ⟨(stp s t).1, t, (stp s t).2⟩ from rfl)
    have k0 := heap_cell hk.box (i := 0) rfl
    have k1 := heap_cell hk.box (i := 1) rfl
    have Hs := Lib.hid hs
    have Hk := Lib.hid hk
    clear hNN hA hs hk
    subst hA'
    go_enter Try.func48, Try.ntmps48
    go_wp2
    go_quiet (fail)
    go_wp2_with fail
    refine (Calls.mono (hcl.out _ Hs.out (Hk.out.draws HJ.out rfl)) ?_)
    rintro e w5 ⟨rfl, hk5⟩
    have Hk5 := Lib.hid hk5
    clear hk5 k0 k1
    go_wp2
    go_ret
    exact ⟨by rw [hv.out]; rfl, by rw [hv.out]; exact Hk5.out⟩
  | succ m ih =>
    intro A hA s t w hs hk
    unfold SeekPost
    obtain ⟨x, hx⟩ : ∃ x, x = A / n := ⟨_, rfl⟩
    obtain ⟨y, hy⟩ : ∃ y, y = A % n := ⟨_, rfl⟩
    have hlt := at_lt (m := m) h1 (by omega)
    rw [show n * n - (m + 1) = A by omega, ← hx, ← hy] at hlt
    obtain ⟨hxn, hyn⟩ := hlt
    obtain ⟨ST, hST⟩ : ∃ ST : Nat → KS σ, ST = iterK (seekStep n (seekF n stp m) x y) ⟨s, t, false⟩ := ⟨_, rfl⟩
    have hv := Lib.hid (show seekF n stp (m + 1) s t = ST n by rw [hST, hx, hy, show A = n * n - (m + 1) by omega]; rfl)
    have ST0 := Lib.hid (show ST 0 = ⟨s, t, false⟩ by rw [hST]; rfl)
    have STs := Lib.hid (show ∀ k, ST (k + 1) = seekStep n (seekF n stp m) x y (ST k) k from fun k => by rw [hST]; rfl)
    have STsm := Lib.hid (show ∀ k, k ≤ n → Sm (-1) n (ST k).tab from fun k hk => by
      rw [hST]
      exact iterK_inv (fun _ (q : KS σ) => Sm (-1) n q.tab) hs (fun b j hj hb => seekStep_tab hxn hyn (fun s t h => seek_tab h1 stp m (by omega) s t h) hb (by omega)) k hk)
    have STst := Lib.hid (show ∀ k, k ≤ n → (ST k).stop = true → ST n = ST k from fun k hk h0 => by
      rw [hST] at h0 ⊢
      exact iterK_stay hk fun j => seek_stop h0 j)
    obtain ⟨NN, hNN⟩ : ∃ NN, NN = n * n := ⟨_, rfl⟩
    have hle : NN ≤ 25 := hNN ▸ Nat.mul_le_mul h5 h5
    have w1 : IntKind.i64.wrap ((n : Int) * (n : Int)) = (NN : Int) := by rw [hNN, ← Int.natCast_mul]; exact IntWalk.i64_in _ (by rw [← hNN]; omega)
    have hAN : A < NN := by omega
    have hAN' : ¬ (A : Int) = (NN : Int) := by omega
    have hm1 := Lib.hid (show m < n * n by omega)
    have hA25 : A ≤ 25 := Nat.le_trans (Nat.le_of_lt hAN) hle
    have eA1 : ((A + 1 : Nat) : Int) = (A : Int) + 1 := rfl
    have ih' := Lib.hid (ih (A + 1) (by omega))
    rw [eA1] at ih'
    clear eA1
    have q5 : IntKind.i64.wrap (x : Int) = x := IntWalk.i64_in _ (by omega)
    have q6 : IntKind.i64.wrap (y : Int) = y := IntWalk.i64_in _ (by omega)
    have hn0 : ¬ (n : Int) = 0 := by omega
    have hn0' : ¬ n = 0 := by omega
    have hcl0 : Hid ((0 : Int) ≤ (A : Int)) := Lib.hid (Int.natCast_nonneg _)
    have k0 := heap_cell hk.box (i := 0) rfl
    have k1 := heap_cell hk.box (i := 1) rfl
    have hcap := hk.cap
    have q1 : (A : Int) / n = (x : Int) := by rw [hx, Int.natCast_ediv]
    have q2 : (A : Int) % n = (y : Int) := by rw [hy, Int.natCast_emod]
    have q3 : (A : Int).tdiv n = (x : Int) := by rw [Int.tdiv_eq_ediv_of_nonneg hcl0.out]; exact q1
    have q4 : (A : Int).tmod n = (y : Int) := by rw [Int.tmod_eq_emod_of_nonneg hcl0.out]; exact q2
    have Hk := Lib.hid hk
    clear hNN hx hy hST hA ih hs hk
    go_enter Try.func48, Try.ntmps48
    go_wp2
    go_quiet (fail)
    go_wp2
    go_quiet (fail)
    go_wp2
    clear q1 q2 q3 q4 q5 q6 w1 hAN hAN' k0 k1
    generalize ((A : Int) == (NN : Int)) = zb1
    generalize IntKind.i64.wrap ((n : Int) * (n : Int)) = zb2
    go_loopw [45] (fun zv wr => ∃ k : Nat, k ≤ n ∧ zv = .int .i64 k ∧ Hid (SkS J w0 bq g c n (ST k).s (ST k).tab wr) ∧ Hid ((ST k).stop = false)) (fun zv _ => n - (intOf zv).toNat)
    case atStart => exact ⟨0, Nat.zero_le _, rfl, Lib.hid (by rw [ST0.out]; exact Hk.out.draws HJ.out rfl), Lib.hid (by rw [ST0.out])⟩
    case round =>
      obtain ⟨k, hk, rfl, hfr, hz0⟩ := hrel
      obtain ⟨W2, rfl⟩ : ∃ W2, W2 = wr := ⟨_, rfl⟩
      have hsm := Lib.hid (STsm.out k hk)
      have hss := Lib.hid (STs.out k)
      by_cases hkn : k < n
      · obtain ⟨C, hC⟩ : ∃ C, C = (ST k).s := ⟨_, rfl⟩
        obtain ⟨T, hT⟩ : ∃ T, T = (ST k).tab := ⟨_, rfl⟩
        have eS : ST k = ⟨C, T, false⟩ := by rw [hC, hT, ← hz0.out]
        rw [eS] at hss hsm hfr
        clear hC hT eS hz0
        have hsee := Lib.hid (hfr.out.see HJ.out hsm.out.sq)
        have k1 := heap_cell hfr.out.box (i := 1) rfl
        obtain ⟨gx, cx, c1, c2, c3, c4⟩ := hsee.out x y hxn hyn
        have hct := Lib.hid (slContains (hsee.out.row hsm.out.sq hxn (Nat.le_of_lt hyn) c1 c2 c3) (k : Int))
        go_wp2_with fail
        refine (Calls.mono hct.out ?_)
        rintro e w9 ⟨rfl, rfl⟩
        clear c1 c2 c3 c4 hct
        go_wp2
        go_loop [10, 60] (fun uv rv => ∃ r : Nat, r ≤ x ∧ rv = .int .i64 r ∧ uv = .bool (hasI ((nth T x).take y) k || usedC T y k r)) (fun _ rv => x - (intOf rv).toNat)
        case atStart => exact ⟨0, Nat.zero_le _, rfl, by rw [show usedC T y k 0 = false from rfl, Bool.or_false]⟩
        case round =>
          obtain ⟨r, hr, rfl, rfl⟩ := hrel
          have hsu := Lib.hid (anyB_succ r fun k' => nth (nth T k') y == (k : Int))
          by_cases hrx : r < x
          · obtain ⟨gj, cj, b1, b2, b3, b4⟩ := hsee.out r y (by omega) hyn
            cases hb : (hasI ((nth T x).take y) k || usedC T y k r)
            · have e1 : (hasI ((nth T x).take y) k || usedC T y k (r + 1)) = (nth (nth T r) y == (k : Int)) := by
                show (_ || anyB (r + 1) _) = _
                rw [hsu.out, ← Bool.or_assoc, show (hasI ((nth T x).take y) k || anyB r _) = _ from hb]; rfl
              go_wp2
              go_round
              case rel => exact ⟨r + 1, by omega, by go_num, by rw [e1]⟩
              case measure => simp [intOf]; omega
            · have e1 : (hasI ((nth T x).take y) k || usedC T y k (r + 1)) = true := by
                show (_ || anyB (r + 1) _) = _
                rw [hsu.out, ← Bool.or_assoc, show (hasI ((nth T x).take y) k || anyB r _) = _ from hb]; rfl
              go_wp2
              go_round
              case rel => exact ⟨r + 1, by omega, by go_num, by rw [e1]⟩
              case measure => simp [intOf]; omega
          · obtain ⟨hrx'⟩ : Nonempty (r = x) := ⟨by omega⟩
            have hux : (hasI ((nth T x).take y) k || usedC T y k r) = usedI T x y k := by rw [hrx']; rfl
            rw [hux]
            clear hux hrx' hsu
            cases hused : usedI T x y k
            rotate_left
            · have hnx := Lib.hid (show ST (k + 1) = ⟨C, T, false⟩ by
                rw [hss.out]; unfold seekStep
                rw [hused]; simp)
              go_wp2
              go_roundw
              case rel => exact ⟨k + 1, by omega, by go_num, by rw [hnx.out]; exact hfr, Lib.hid (by rw [hnx.out])⟩
              case measure => simp [intOf]; omega
            · obtain ⟨gx2, cx2, p1, p2, p3, p4, p5, hput⟩ := hfr.out.put HJ.out hsm.out.sq hxn hyn
              have Hst := Lib.hid (hsm.out.set hxn hyn (z := (k : Int)) (by omega))
              have hk2 := Lib.hid (hput _ (Below.refl _ _) (k : Int))
              obtain ⟨W3, hW3⟩ : ∃ W3, W3 = W2.setCell ⟨gx2, y, none⟩ (.int .i64 k) := ⟨_, rfl⟩
              rw [← hW3] at hk2
              have hcl := Lib.hid (implClashes h5 Hst.out hk2.out.box hcap (hk2.out.see HJ.out Hst.out.sq))
              have HW3 := Lib.hid hW3
              clear hput hW3
              go_wp2_with fail
              rw [← HW3.out]
              refine (Calls.mono hcl.out ?_)
              rintro e w4 ⟨rfl, m4, hm4⟩
              have hk4 := Lib.hid (hk2.out.draws HJ.out hm4)
              have k4 := heap_cell hk4.out.box (i := 1) rfl
              clear hm4 hcl p1 p2 p3 p4 p5 HW3 hk2 k1
              cases hcz : clash n (set2 T x y k)
              rotate_left
              · obtain ⟨gx3, cx3, r1, r2, r3, r4, r5, hput3⟩ := hk4.out.put HJ.out Hst.out.sq hxn hyn
                have hk6 := Lib.hid (hput3 _ (Below.refl _ _) (-1))
                have hnx := Lib.hid (show ST (k + 1) = ⟨C, set2 (set2 T x y k) x y (-1), false⟩ by
                  rw [hss.out]; unfold seekStep
                  rw [hused, hcz]; simp)
                clear hput3 hcz hused
                go_wp2
                go_roundw
                case rel => exact ⟨k + 1, by omega, by go_num, by rw [hnx.out]; exact hk6, Lib.hid (by rw [hnx.out])⟩
                case measure => simp [intOf]; omega
              · have hrec := Lib.hid (ih'.out C (set2 T x y k) w4 Hst.out hk4.out)
                have hnx := Lib.hid (show ST (k + 1) = if (seekF n stp m C (set2 T x y k)).stop then seekF n stp m C (set2 T x y k) else ⟨(seekF n stp m C (set2 T x y k)).s, set2 (seekF n stp m C (set2 T x y k)).tab x y (-1), false⟩ by
                  rw [hss.out]; unfold seekStep
                  rw [hused, hcz]; rfl)
                have Htab := Lib.hid (seek_tab h1 stp m (Nat.le_trans (Nat.le_of_lt (hm1.out)) (Nat.le_refl _)) C _ Hst.out)
                unfold SeekPost at hrec
                clear hcz hused hss
                generalize seekF n stp m C (set2 T x y k) = R at *
                go_wp2_with fail
                refine (Calls.mono hrec.out ?_)
                rintro e w5 ⟨rfl, hk5⟩
                have Hk5 := Lib.hid hk5
                clear hk5 k4 hrec hk4
                cases hrs : R.stop
                · obtain ⟨gx3, cx3, r1, r2, r3, r4, r5, hput3⟩ := Hk5.out.put HJ.out Htab.out.sq hxn hyn
                  have k5 := heap_cell Hk5.out.box (i := 1) rfl
                  have hk6 := Lib.hid (hput3 _ (Below.refl _ _) (-1))
                  rw [hrs] at hnx
                  have hnx2 := Lib.hid (show ST (k + 1) = ⟨R.s, set2 R.tab x y (-1), false⟩ from hnx.out)
                  clear hput3 hrs hnx
                  go_wp2
                  go_roundw
                  case rel => exact ⟨k + 1, by omega, by go_num, by rw [hnx2.out]; exact hk6, Lib.hid (by rw [hnx2.out])⟩
                  case measure => simp [intOf]; omega
                · rw [hrs] at hnx
                  have hnx2 := Lib.hid (show ST n = R by rw [STst.out (k + 1) hkn (by rw [hnx.out]; exact hrs), hnx.out]; rfl)
                  have Hrs := Lib.hid hrs
                  clear hrs hnx
                  go_wp2
                  go_ret
                  exact ⟨by rw [hv.out, hnx2.out, Hrs.out]; rfl, by rw [hv.out, hnx2.out]; exact Hk5.out⟩
      · obtain ⟨hke⟩ : Nonempty (k = n) := ⟨by omega⟩
        have hz1 := Lib.hid (show (ST n).stop = false by rw [← hke]; exact hz0.out)
        rw [hke] at hfr
        clear hz0 hke hss hsm
        go_wp2
        go_ret
        exact ⟨by rw [hv.out, hz1.out]; rfl, by rw [hv.out]; exact hfr.out⟩
end Go.Proofs.Ythomdggbmjknnaa
