/- The laws' own small functions over []int64, by contracts: toInt64S, eqInt64S, markInt64S, heldInt64S, szInt64S. -/
import Derived.Test.YtnpkanlieflbiaaRows
import Derived.Test.YtnpkanlieflbiaaLaws
import Derived.WalkLawsBesides
import Derived.WalkSpells
import Derived.Deep.QuietTactic
import Derived.BigQuiet
import Derived.Deep.LoopGhost
import Derived.Outline
import Derived.Handy
namespace Go.Proofs.Ytnpkanlieflbiaa
open Go.RowKit
set_option linter.unusedVariables false

theorem infoI64 : (Try.prog.info? 2).map (fun i => (i.zero, i.size, i.bytes)) = some (some (.int .i64 0), 1, 8) := by kernel_rfl
abbrev OI := OwnI 2

theorem Own.shape {α : Type} [Inhabited α] {E : TypeId} {R : Rep α} {w : World} {v : Value} {xs : List α} {S : List Nat} (h : Own E R w v xs S) :
    (v = .slice none 0 0 ∧ xs = []) ∨ ∃ g c, v = .slice (some ⟨g, 0, none⟩) xs.length c ∧ g ∈ S := by
  rcases h with ⟨rfl, rfl, _⟩ | ⟨g, cap, cur, Ss, rfl, _, _, _, _, hS, _⟩
  · exact .inl ⟨rfl, rfl⟩
  · exact .inr ⟨g, cap, rfl, by simp [hS]⟩

theorem toInt64S {P : Nat → Prop} {v : Value} {xs : List Int} {w : World} (h : Rd rI P w v xs) (hP : ∀ k, P k → k < w.heap.size) (hn : xs.length ≤ 1048576) :
    Calls Try.prog 60 #[v] w fun e w' => e = .returned (.slice (some ⟨w.heap.size, 0, none⟩) xs.length xs.length) ∧
      OI w' (.slice (some ⟨w.heap.size, 0, none⟩) xs.length xs.length) xs [w.heap.size] ∧ Below w.heap.size w w' := by
  obtain ⟨a, c, rfl, h1, h2, hrd⟩ := h
  have hmk := run_make_row' (P := Try.prog) 22 2 (.int .i64 0) 8 Try.underlying22 infoI64 rfl .i64 .i64 xs.length (by omega) (by omega)
  have Hrd := Lib.hid hrd; clear hrd
  go_enter Try.func60, Try.ntmps60
  go_wp2
  go_loopw [4] (fun i wr => ∃ (k : Nat) (ys : List Int), k ≤ xs.length ∧ i = .int .i64 k ∧ Hid (ys.length = xs.length ∧ ∀ j, j < k → nth ys j = nth xs j) ∧
      OI wr (.slice (some ⟨w.heap.size, 0, none⟩) xs.length xs.length) ys [w.heap.size] ∧ Below w.heap.size w wr) (fun i _ => xs.length - (intOf i).toNat)
  case atStart => exact ⟨0, List.replicate xs.length 0, Nat.zero_le _, rfl, Lib.hid ⟨by simp, fun _ h => absurd h (Nat.not_lt_zero _)⟩, Own.made w _ fI 0 _ (by unfold maxLen at h2 ⊢; omega), (Below.refl _ _).alloc (Nat.le_refl _) _⟩
  case round =>
    obtain ⟨k, ys, hk, rfl, hys, hown, hbel⟩ := hrel
    by_cases hlt : k < xs.length
    · obtain ⟨b, o, u, rfl, hPb, hc, rfl⟩ := Hrd.out k hlt
      have hly := hys.out.1
      have hc1 : wr.cell? ⟨b, o + k, none⟩ = some (.int .i64 (nth xs k)) := (hbel.cell (hP b hPb)).trans hc
      have hc2 := hown.cell (i := k) (by omega)
      have hf2 := hown.frozen k
      have hown2 := Lib.hid (hown.put (i := k) (by omega) (nth xs k))
      have hys2 := Lib.hid (show (ys.set k (nth xs k)).length = xs.length ∧ ∀ j, j < k + 1 → nth (ys.set k (nth xs k)) j = nth xs j from
        ⟨by simpa using hly, fun j hj => by
          rw [nth_set (by omega)]
          split
          · rename_i e; rw [e]
          · exact hys.out.2 j (by omega)⟩)
      have hbel2 := Lib.hid hbel
      clear hly hown hbel hys hc
      go_wp2
      go_roundw
      case rel => exact ⟨k + 1, _, by omega, by go_num, hys2, hown2.out, hbel2.out.setCell (Nat.le_refl _) _⟩
      case measure => simp [intOf]; omega
    · obtain rfl : k = xs.length := by omega
      have e : ys = xs := ext_nth hys.out.1 (fun i hi => hys.out.2 i (by have := hys.out.1; omega))
      subst e
      go_wp2
      go_ret
      exact ⟨rfl, hown, hbel⟩

theorem eqInt64S {P Q : Nat → Prop} {va vb : Value} {xs : List Int} {w : World} (ha : Rd rI P w va xs) (hb : Rd rI Q w vb xs) :
    Calls Try.prog 64 #[va, vb] w fun e w' => e = .returned (.bool true) ∧ ∃ n, w.drewN n = w' := by
  obtain ⟨a, c, rfl, h1, h2, hrd⟩ := ha
  obtain ⟨a', c', rfl, h1', h2', hrd'⟩ := hb
  have Hrd := Lib.hid hrd; clear hrd
  have Hrd' := Lib.hid hrd'; clear hrd'
  unfold maxLen at h2 h2'
  go_enter Try.func64, Try.ntmps64
  go_wp2
  go_loopw [5] (fun i wr => ∃ (k m : Nat), k ≤ xs.length ∧ i = .int .i64 k ∧ w.drewN m = wr) (fun i _ => xs.length - (intOf i).toNat)
  case atStart => exact ⟨0, 0, Nat.zero_le _, rfl, rfl⟩
  case round =>
    obtain ⟨k, m, hk, rfl, rfl⟩ := hrel
    by_cases hlt : k < xs.length
    · obtain ⟨b, o, u, rfl, hPb, hc, rfl⟩ := Hrd.out k hlt
      obtain ⟨b', o', u', rfl, hPb', hc', rfl⟩ := Hrd'.out k hlt
      go_wp2
      go_quiet (fail)
      go_wp2
      go_roundw
      case rel => exact ⟨k + 1, _, by omega, by go_num, rfl⟩
      case measure => simp [intOf]; omega
    · obtain rfl : k = xs.length := by omega
      go_wp2
      go_ret
      exact ⟨rfl, m, rfl⟩

/-- k, k + 1, .. -/
def mk1 (k : Int) (n : Nat) : List Int := (List.range n).map fun i => k + (i : Nat)
theorem mk1_length (k : Int) (n : Nat) : (mk1 k n).length = n := by simp [mk1]
theorem nth_mk1 {k : Int} {n i : Nat} (h : i < n) : nth (mk1 k n) i = k + (i : Nat) := by
  rw [nth_eq (by simpa [mk1_length] using h)]; simp [mk1]

theorem markInt64S {v : Value} {xs : List Int} {S : List Nat} {w : World} {k : Int} (h : OI w v xs S) (hk : 0 ≤ k) (hk2 : k + xs.length ≤ 4611686018427387904) :
    Calls Try.prog 65 #[v, .int .i64 k] w fun e w' => e = .returned (.int .i64 (k + xs.length)) ∧ OI w' v (mk1 k xs.length) S ∧ Only S w w' := by
  rcases h.shape with ⟨rfl, rfl⟩ | ⟨g, c, rfl, hg⟩
  · go_enter Try.func65, Try.ntmps65
    go_wp2
    refine wp_loop_rounds 1 ?_
    rw [rounds_succ]
    go_wp2
    go_ret
    exact ⟨ret_int' (by simp), by simpa [mk1] using h, Only.refl _ _⟩
  · have hl := h.len
    have hl3 := hl.2.2
    unfold maxLen at hl3
    go_enter Try.func65, Try.ntmps65
    go_wp2
    go_loopw [1, 5] (fun x i wr => ∃ (j : Nat) (ys : List Int), j ≤ xs.length ∧ i = .int .i64 j ∧ x = .int .i64 (k + j) ∧ Hid (ys.length = xs.length ∧ ∀ i, i < j → nth ys i = k + (i : Nat)) ∧
        OI wr (.slice (some ⟨g, 0, none⟩) xs.length c) ys S ∧ Only S w wr) (fun _ i _ => xs.length - (intOf i).toNat)
    case atStart => exact ⟨0, xs, Nat.zero_le _, rfl, by go_num, Lib.hid ⟨rfl, fun _ h => absurd h (Nat.not_lt_zero _)⟩, h, Only.refl _ _⟩
    case round =>
      obtain ⟨j, ys, hj, rfl, rfl, hys, hown, honly⟩ := hrel
      by_cases hlt : j < xs.length
      · have hly := hys.out.1
        have hc2 := hown.cell (i := j) (by omega)
        have hf2 := hown.frozen j
        have hown2 := Lib.hid (hown.put (i := j) (by omega) (k + j))
        have hys2 := Lib.hid (show (ys.set j (k + j)).length = xs.length ∧ ∀ i, i < j + 1 → nth (ys.set j (k + j)) i = k + (i : Nat) from
          ⟨by simpa using hly, fun i hi => by
            rw [nth_set (by omega)]
            split
            · rename_i e; rw [e]
            · exact hys.out.2 i (by omega)⟩)
        have hg2 := Lib.hid hg
        have honly2 := Lib.hid honly
        clear hly hown honly hys
        go_wp2
        go_roundw
        case rel => exact ⟨j + 1, _, by omega, by go_num, by go_num, hys2, hown2.out, honly2.out.put hg2.out _ _⟩
        case measure => simp [intOf]; omega
      · obtain rfl : j = xs.length := by omega
        have e : ys = mk1 k xs.length := ext_nth (by rw [hys.out.1, mk1_length]) (fun i hi => by rw [hys.out.2 i (by have := hys.out.1; omega), nth_mk1 (by have := hys.out.1; omega)])
        subst e
        go_wp2
        go_ret
        exact ⟨rfl, hown, honly⟩

theorem heldInt64S {P : Nat → Prop} {v : Value} {n : Nat} {w : World} {k : Int} (h : Rd rI P w v (mk1 k n)) (hk : 0 ≤ k) (hk2 : k + n ≤ 4611686018427387904) :
    Calls Try.prog 68 #[v, .int .i64 k] w fun e w' => e = .returned (.int .i64 (k + n)) ∧ w = w' := by
  obtain ⟨a, c, rfl, h1, h2, hrd⟩ := h
  rw [mk1_length] at h1 hrd ⊢
  have Hrd := Lib.hid hrd; clear hrd
  unfold maxLen at h2
  go_enter Try.func68, Try.ntmps68
  go_wp2
  go_loop [1, 5] (fun x i => ∃ (j : Nat), j ≤ n ∧ i = .int .i64 j ∧ x = .int .i64 (k + j)) (fun _ i => n - (intOf i).toNat)
  case atStart => exact ⟨0, Nat.zero_le _, rfl, by go_num⟩
  case round =>
    obtain ⟨j, hj, rfl, rfl⟩ := hrel
    by_cases hlt : j < n
    · obtain ⟨b, o, u, rfl, hPb, hc, rfl⟩ := Hrd.out j hlt
      rw [nth_mk1 hlt] at hc
      go_wp2
      go_round
      case rel => exact ⟨j + 1, by omega, by go_num, by go_num⟩
      case measure => simp [intOf]; omega
    · obtain rfl : j = n := by omega
      go_wp2
      go_ret
      exact ⟨rfl, rfl⟩
end Go.Proofs.Ytnpkanlieflbiaa
/- What the walks of the laws keep of memory: each thing that was made lies within an interval of blocks; each step turns one interval. And the laws' small functions, said so. -/
namespace Go.Proofs.Ytnpkanlieflbiaa
open Go.RowKit
set_option linter.unusedVariables false

/-- A step that turned, of what was there, the blocks from lo to hi alone. -/
structure Turn (lo hi : Nat) (w w' : World) : Prop where
  os : w'.os = w.os
  tape : w'.tape = w.tape
  output : w'.output = w.output
  size : w.heap.size ≤ w'.heap.size
  block : ∀ k, k < w.heap.size → (k < lo ∨ hi ≤ k) → w'.heap[k]? = w.heap[k]?

theorem Turn.of_below {w w' : World} (h : Below w.heap.size w w') : Turn 0 0 w w' := ⟨h.os, h.tape, h.output, h.size, fun k hk _ => h.block k hk⟩
theorem Turn.of_draws {w w' : World} (h : ∃ n, w.drewN n = w') : Turn 0 0 w w' := by obtain ⟨n, rfl⟩ := h; exact ⟨rfl, rfl, rfl, Nat.le_refl _, fun _ _ _ => rfl⟩
theorem Turn.below {B lo hi : Nat} {w0 w w' : World} (h : Below B w0 w) (t : Turn lo hi w w') (h1 : B ≤ lo ∨ hi = 0) (h2 : B ≤ w.heap.size) : Below B w0 w' :=
  h.trans ⟨t.os, t.tape, t.output, t.size, fun k hk => t.block k (by omega) (by omega)⟩

/-- x, as R says, lies at v, all its blocks from lo on and below hi. -/
def In {α : Type} (R : Rep α) (lo hi : Nat) (w : World) (v : Value) (x : α) : Prop := ∃ S, R w v x S ∧ ∀ k ∈ S, lo ≤ k ∧ k < hi

theorem In.of_fresh {α : Type} {R : Rep α} (hR : R.Ok) {w w' : World} {v : Value} {x : α} (h : Fresh R w w' v x) : In R w.heap.size w'.heap.size w' v x ∧ Turn 0 0 w w' :=
  ⟨⟨h.choose, h.choose_spec.1, fun k hk => ⟨h.choose_spec.2.1 k hk, hR.lt h.choose_spec.1 k hk⟩⟩, Turn.of_below h.choose_spec.2.2⟩
theorem In.keep {α : Type} {R : Rep α} (hR : R.Ok) {lo hi a b : Nat} {w w' : World} {v : Value} {x : α} (h : In R lo hi w v x) (t : Turn a b w w') (hd : b ≤ lo ∨ hi ≤ a) : In R lo hi w' v x := by
  obtain ⟨S, h1, h2⟩ := h
  exact ⟨S, hR.keep h1 fun k hk => t.block k (hR.lt h1 k hk) (by have := h2 k hk; omega), h2⟩
theorem In.rd {α : Type} {R : Rep α} {Q : RRep α} (hL : Leads R Q) {lo hi : Nat} {w : World} {v : Value} {x : α} (h : In R lo hi w v x) : Q (fun k => lo ≤ k ∧ k < hi) w v x := by
  obtain ⟨S, h1, h2⟩ := h
  exact hL.to _ _ _ _ _ h1 h2
theorem In.rdlt {α : Type} {R : Rep α} {Q : RRep α} (hL : Leads R Q) (hR : R.Ok) {lo hi : Nat} {w : World} {v : Value} {x : α} (h : In R lo hi w v x) : Q (· < w.heap.size) w v x := by
  obtain ⟨S, h1, h2⟩ := h
  exact hL.to _ _ _ _ _ h1 (hR.lt h1)
theorem rd_turn {α : Type} {R : RRep α} (hR : R.Ok) {B lo hi : Nat} {w w' : World} {v : Value} {x : α} (h : R (· < B) w v x) (t : Turn lo hi w w') (h1 : B ≤ lo ∨ hi = 0) (h2 : B ≤ w.heap.size) : R (· < B) w' v x :=
  hR.keep h fun k hk => t.block k (by omega) (by omega)
theorem rd_wide {α : Type} {R : RRep α} (hR : R.Ok) {B : Nat} {w : World} {v : Value} {x : α} (h : R (· < B) w v x) (h2 : B ≤ w.heap.size) : R (· < w.heap.size) w v x :=
  hR.mono h fun k hk => by omega

theorem OI.ok : Rep.Ok OI := Own.ok oI.ok
theorem OI.leads : Leads OI RdI := Own.leads leaf.leads

theorem toInt64S_t {B : Nat} {v : Value} {xs : List Int} {w : World} (h : RdI (· < B) w v xs) (hB : B ≤ w.heap.size) (hn : xs.length ≤ 1048576) :
    Calls Try.prog 60 #[v] w fun e w' => ∃ v', e = .returned v' ∧ In OI w.heap.size w'.heap.size w' v' xs ∧ Turn 0 0 w w' := by
  refine (toInt64S h (fun k hk => by omega) hn).mono ?_
  rintro e w' ⟨rfl, ho, hb⟩
  exact ⟨_, rfl, ⟨_, ho, fun k hk => ⟨by simp at hk; omega, OI.ok.lt ho k hk⟩⟩, Turn.of_below hb⟩
theorem eqInt64S_t {a b c d : Nat} {va vb : Value} {xs : List Int} {w : World} (ha : In OI a b w va xs) (hb : In OI c d w vb xs) :
    Calls Try.prog 64 #[va, vb] w fun e w' => e = .returned (.bool true) ∧ Turn 0 0 w w' :=
  (eqInt64S (ha.rd OI.leads) (hb.rd OI.leads)).mono fun e w' ⟨he, h⟩ => ⟨he, Turn.of_draws h⟩
theorem markInt64S_t {lo hi : Nat} {v : Value} {xs : List Int} {w : World} {k : Int} (h : In OI lo hi w v xs) (hk : 0 ≤ k) (hk2 : k + xs.length ≤ 4611686018427387904) :
    Calls Try.prog 65 #[v, .int .i64 k] w fun e w' => e = .returned (.int .i64 (k + xs.length)) ∧ In OI lo hi w' v (mk1 k xs.length) ∧ Turn lo hi w w' := by
  obtain ⟨S, h1, h2⟩ := h
  refine (markInt64S h1 hk hk2).mono ?_
  rintro e w' ⟨rfl, ho, hb⟩
  exact ⟨rfl, ⟨S, ho, h2⟩, ⟨hb.os, hb.tape, hb.output, hb.size, fun k hk hd => hb.block k hk fun hS => by have := h2 k hS; omega⟩⟩
theorem heldInt64S_t {lo hi n : Nat} {v : Value} {w : World} {k : Int} (h : In OI lo hi w v (mk1 k n)) (hk : 0 ≤ k) (hk2 : k + n ≤ 4611686018427387904) :
    Calls Try.prog 68 #[v, .int .i64 k] w fun e w' => e = .returned (.int .i64 (k + n)) ∧ Turn 0 0 w w' :=
  (heldInt64S (h.rd OI.leads) hk hk2).mono fun e w' ⟨he, h⟩ => ⟨he, Turn.of_draws ⟨0, h⟩⟩
end Go.Proofs.Ytnpkanlieflbiaa
