/- The first undetected error: impl's wrong, over any closure; walked. -/
import Derived.Test.YtnpkanlieflbiaaFu8
import Derived.Test.YtnpkanlieflbiaaFe
namespace Go.Proofs.Ytnpkanlieflbiaa
open Go.RowKit
set_option linter.unusedVariables false

/-- A part of a list, read in a later world. -/
theorem rd_part {P P' : Nat → Prop} {w W : World} {b o N c : Nat} {xs : List Int} (h : RdI P w (.slice (some ⟨b, o, none⟩) N c) xs) (hP' : ∀ k, P k → P' k) (hW : ∀ k, P k → W.heap[k]? = w.heap[k]?) {i m : Nat} (hm : i + m ≤ xs.length) {a' : Option Addr} (ha : 0 < m → a' = some ⟨b, o + i, none⟩) {c' : Nat} (hc : m ≤ c' ∧ c' ≤ maxLen) :
    RdI P' W (.slice a' m c') ((xs.drop i).take m) := by
  have hl : ((xs.drop i).take m).length = m := by simp; omega
  refine ⟨a', c', by rw [hl], by rw [hl]; exact hc.1, hc.2, fun j hj => ?_⟩
  rw [hl] at hj
  obtain ⟨b1, o1, u1, e, hP, q1, q2⟩ := Rd.elim (RdI.ok.keep h hW) (i + j) (by omega)
  simp only [Option.some.injEq, Addr.mk.injEq, and_true] at e
  obtain ⟨rfl, rfl⟩ := e
  refine ⟨b, o + i, u1, ha (by omega), hP' _ hP, by rw [Nat.add_assoc]; exact q1, ?_⟩
  have e1 : nth ((xs.drop i).take m) j = nth xs (i + j) := by
    rw [nth_eq (by rw [hl]; exact hj), nth_eq (by omega)]
    simp
  rw [e1]; exact q2
theorem rd_whole {P P' : Nat → Prop} {w W : World} {v : Value} {xs : List Int} (h : RdI P w v xs) (hP' : ∀ k, P k → P' k) (hW : ∀ k, P k → W.heap[k]? = w.heap[k]?) : RdI P' W v xs := by
  obtain ⟨a, c, rfl, h1, h2, h3⟩ := RdI.ok.keep h hW
  refine ⟨a, c, rfl, h1, h2, fun j hj => ?_⟩
  obtain ⟨b1, o1, u1, e, hP, q⟩ := h3 j hj
  exact ⟨b1, o1, u1, e, hP' _ hP, q⟩
/-- Three rows in a literal. -/
theorem rd_three {P : Nat → Prop} {W : World} {g : Nat} {v1 v2 v3 : Value} {x1 x2 x3 : List Int} (hg : W.heap[g]? = some (.cells #[v1, v2, v3] 22 (0, 0))) (hP : P g) (h1 : RdI P W v1 x1) (h2 : RdI P W v2 x2) (h3 : RdI P W v3 x3) :
    RdII P W (.slice (some ⟨g, 0, none⟩) 3 3) [x1, x2, x3] := by
  refine ⟨some ⟨g, 0, none⟩, 3, rfl, Nat.le_refl _, by unfold maxLen; omega, fun i hi => ?_⟩
  have hi3 : i < 3 := hi
  match i, hi3 with
  | 0, _ => exact ⟨g, 0, v1, rfl, hP, heap_cell hg (i := 0) rfl, h1⟩
  | 1, _ => exact ⟨g, 0, v2, rfl, hP, heap_cell hg (i := 1) rfl, h2⟩
  | 2, _ => exact ⟨g, 0, v3, rfl, hP, heap_cell hg (i := 2) rfl, h3⟩
/-- A word in which some symbols are changed. -/
def chW (ds t : List Int) (p n : Nat) : List Int := ds.take p ++ (t ++ ds.drop (p + n))
theorem chW_flat (ds t : List Int) (p n : Nat) : ([ds.take p, t, ds.drop (p + n)] : List (List Int)).flatten = chW ds t p n := by simp [chW]
set_option maxHeartbeats 1600000 in
set_option maxRecDepth 100000 in
theorem implWrong1 {P Q : Nat → Prop} {w : World} {b7 b6 b9 b8 bd od N cd p n g : Nat} {cap : Array Value} {ds t : List Int} {vt : Value} {R : World → Prop}
    (c7 : w.cell? ⟨b7, 0, none⟩ = some (.func (.func g) #[] cap)) (c6 : w.cell? ⟨b6, 0, none⟩ = some (.slice (some ⟨bd, od, none⟩) N cd)) (c9 : w.cell? ⟨b9, 0, none⟩ = some (.int .i64 p)) (c8 : w.cell? ⟨b8, 0, none⟩ = some (.int .i64 n))
    (hd : RdI P w (.slice (some ⟨bd, od, none⟩) N cd) ds) (hP : ∀ k, P k → k < w.heap.size) (ht : RdI Q w vt t) (hQ : ∀ k, Q k → k < w.heap.size) (hpn : p + n ≤ N) (hN : N = ds.length ∧ N ≤ 20 ∧ 1 ≤ N) (hlt : t.length = n)
    (hdo : ∀ v' w1, RdI (fun k => w.heap.size ≤ k ∧ k < w1.heap.size) w1 v' (chW ds t p n) → Below w.heap.size w w1 → Calls Try.prog g (#[v'] ++ cap) w1 fun e w2 => e = .returned (.tuple #[]) ∧ R w2)
    (hRc : ∀ w2, R w2 → w2.cell? ⟨b7, 0, none⟩ = some (.func (.func g) #[] cap) ∧ w2.cell? ⟨b6, 0, none⟩ = some (.slice (some ⟨bd, od, none⟩) N cd) ∧ w2.cell? ⟨b9, 0, none⟩ = some (.int .i64 p) ∧ w2.cell? ⟨b8, 0, none⟩ = some (.int .i64 n))
    (hc : ∀ (args : Array Value) (w : World), (callFunc g args).run Try.prog w = .ok (.enter g args) w) :
    Calls Try.prog 158 #[vt, .pointer (some ⟨b7, 0, none⟩), .pointer (some ⟨b6, 0, none⟩), .pointer (some ⟨b9, 0, none⟩), .pointer (some ⟨b8, 0, none⟩)] w fun e w2 => e = .returned (.tuple #[]) ∧ R w2 := by
  obtain ⟨at', ct, rfl, ht1, ht2⟩ := ht.isSlice
  obtain ⟨ad, cd', ed, hd1, hd2⟩ := hd.isSlice
  simp only [Value.slice.injEq] at ed
  obtain ⟨rfl, -, rfl⟩ := ed
  have Hd := Lib.hid hd; have Ht := Lib.hid ht; have HP := Lib.hid hP; have HQ := Lib.hid hQ; have Hdo := Lib.hid hdo; have HRc := Lib.hid hRc
  rw [hlt] at ht1 Ht
  rw [hlt]
  rw [← hN.1] at hd1
  have HN := Lib.hid hN.1
  have hN2 := hN.2
  have Hlt := Lib.hid hlt
  obtain ⟨PN, hPN⟩ : ∃ k, k = p + n := ⟨_, rfl⟩
  have hw : IntKind.i64.wrap ((p : Int) + (n : Int)) = (PN : Int) := by rw [hPN, Int.natCast_add]; exact IntWalk.i64_in _ (by omega)
  have hPN2 : PN ≤ N ∧ p ≤ N := by omega
  have HPN := Lib.hid hPN
  unfold maxLen at ht2 hd2
  clear hd ht hP hQ hdo hlt hN hPN hRc
  go_enter Try.func158, Try.ntmps158
  have hpc : p ≤ cd := by omega
  have hPc : PN ≤ cd := by omega
  have hPN3 : PN ≤ N := hPN2.1
  have hsc := Lib.hid (fun (W : World) (hb : Below w.heap.size w W) => (show W.cell? ⟨b7, 0, none⟩ = some (.func (.func g) #[] cap) ∧ W.cell? ⟨b6, 0, none⟩ = some (.slice (some ⟨bd, od, none⟩) N cd) ∧ W.cell? ⟨b9, 0, none⟩ = some (.int .i64 p) ∧ W.cell? ⟨b8, 0, none⟩ = some (.int .i64 n) from
    ⟨(hb.cell (p := ⟨b7, 0, none⟩) (cell_lt c7)).trans c7, (hb.cell (p := ⟨b6, 0, none⟩) (cell_lt c6)).trans c6, (hb.cell (p := ⟨b9, 0, none⟩) (cell_lt c9)).trans c9, (hb.cell (p := ⟨b8, 0, none⟩) (cell_lt c8)).trans c8⟩))
  obtain ⟨a3, ha3⟩ : ∃ a, (if cd = PN then some (⟨bd, od, none⟩ : Addr) else some ⟨bd, od + PN, none⟩) = a := ⟨_, rfl⟩
  have H3 := Lib.hid (show 0 < N - PN → a3 = some ⟨bd, od + PN, none⟩ from fun h => by rw [← ha3]; exact if_neg (by omega))
  have hCat := Lib.hid (show Calls Try.prog 159 #[.slice (some ⟨w.heap.size, 0, none⟩) 3 3] (w.alloc (.cells #[.slice (some ⟨bd, od, none⟩) p cd, .slice at' n ct, .slice a3 (N - PN) (cd - PN)] 22)).drew fun e w' =>
      ∃ a n2 c, e = .returned (.slice a n2 c) ∧ Hid (RdI (fun k => w.heap.size ≤ k ∧ k < w'.heap.size) w' (.slice a n2 c) (chW ds t p n)) ∧ Below w.heap.size w w' from by
    obtain ⟨W0, hW0⟩ : ∃ W, W = (w.alloc (.cells #[.slice (some ⟨bd, od, none⟩) p cd, .slice at' n ct, .slice a3 (N - PN) (cd - PN)] 22)).drew := ⟨_, rfl⟩
    have hb0 : Below w.heap.size w W0 := by rw [hW0]; exact ((Below.refl _ _).alloc (Nat.le_refl _) _).drew
    have hg0 : W0.heap[w.heap.size]? = some (.cells #[.slice (some ⟨bd, od, none⟩) p cd, .slice at' n ct, .slice a3 (N - PN) (cd - PN)] 22 (0, 0)) := by rw [hW0]; exact heap_alloc_new w _
    rw [← hW0]
    have hlt0 := heap_lt hg0
    have r1 := rd_part (P' := (· < W0.heap.size)) (W := W0) Hd.out (fun k hk => by have := HP.out k hk; show k < _; omega) (fun k hk => hb0.block k (HP.out k hk)) (i := 0) (m := p) (by rw [← HN.out]; omega) (a' := some ⟨bd, od, none⟩) (fun _ => rfl) (c' := cd) (by unfold maxLen; omega)
    have r3 := rd_part (P' := (· < W0.heap.size)) (W := W0) Hd.out (fun k hk => by have := HP.out k hk; show k < _; omega) (fun k hk => hb0.block k (HP.out k hk)) (i := PN) (m := N - PN) (by rw [← HN.out]; omega) (a' := a3) H3.out (c' := cd - PN) (by unfold maxLen; omega)
    have r2 := rd_whole (P' := (· < W0.heap.size)) (W := W0) Ht.out (fun k hk => by have := HQ.out k hk; show k < _; omega) (fun k hk => hb0.block k (HQ.out k hk))
    rw [List.drop_zero] at r1
    rw [List.take_of_length_le (by rw [List.length_drop, ← HN.out]; exact Nat.le_refl _)] at r3
    have hR := rd_three hg0 (P := (· < W0.heap.size)) hlt0 r1 r2 r3
    have hfl : ([ds.take p, t, ds.drop PN] : List (List Int)).flatten = chW ds t p n := by rw [HPN.out]; exact chW_flat ds t p n
    have hlen : (chW ds t p n).length = N := by unfold chW; simp; rw [Hlt.out, ← HN.out]; omega
    refine (implConcat hR (fun k hk => hk) (by rw [hfl, hlen]; omega) (by simp)).mono ?_
    rintro e w' ⟨v, rfl, hf⟩
    rw [hfl] at hf
    obtain ⟨S, h5, h6, h7⟩ := hf
    obtain ⟨a, n2, c, rfl⟩ := h5.isSlice
    exact ⟨a, n2, c, rfl, Lib.hid (OI.leads.to _ _ _ _ _ h5 fun k hk => ⟨Nat.le_trans hb0.size (h6 k hk), OI.ok.lt h5 k hk⟩), hb0.trans (h7.mono hb0.size)⟩)
  have hl7 := cell_lt c7
  have hl6 := cell_lt c6
  have hl9 := cell_lt c9
  have hl8 := cell_lt c8
  go_region_held3 (fun w' => w'.cell? ⟨b7, 0, none⟩ = some (.func (.func g) #[] cap) ∧ w'.cell? ⟨b6, 0, none⟩ = some (.slice (some ⟨bd, od, none⟩) N cd) ∧ w'.cell? ⟨b9, 0, none⟩ = some (.int .i64 p) ∧ w'.cell? ⟨b8, 0, none⟩ = some (.int .i64 n)) ((first | exact s2 | exact s1 | (refine hsc.out _ ?_; repeat' (first | with_reducible exact Below.refl _ _ | with_reducible refine Below.drew ?_ | with_reducible refine Below.alloc ?_ ?_ _ | (show _ ≤ _; simp))))) (first
    | (go_at_call 159; refine (Calls.mono hCat.out ?_); rintro e w1 ⟨a1, n1, c1, rfl, Hr1, hb1⟩; have Hb1 := Lib.hid hb1; have s1 := hsc.out w1 hb1; clear hb1)
    | (refine (Calls.mono (Hdo.out _ w1 Hr1.out Hb1.out) ?_); rintro e w2 ⟨rfl, hR2⟩; have HR2 := Lib.hid hR2; have s2 := HRc.out w2 hR2; clear hR2))
  all_goals exact bodyPost_end (results_none rfl _ _ _) rfl ⟨rfl, HR2.out⟩
/-- The words with one error of a kind, before place k. -/
def wrL (kind : Int) (b : Nat) (ds : List Int) (k : Nat) : List (List Int) := (List.range k).flatMap fun p => (chg kind b ((ds.drop p).take (errLen kind))).map fun t => chW ds t p (errLen kind)
theorem wrL_succ (kind : Int) (b : Nat) (ds : List Int) (k : Nat) : wrL kind b ds (k + 1) = wrL kind b ds k ++ (chg kind b ((ds.drop k).take (errLen kind))).map fun t => chW ds t k (errLen kind) := by simp [wrL, List.range_succ]
/-- The boxes of a call of wrong. -/
structure WB (w : World) (b6 b7 b8 bp : Nat) (vd : Value) (g : Nat) (cap : Array Value) (n p : Nat) : Prop where
  h6 : w.heap[b6]? = some (.cells #[vd] 22 (0, 0))
  h7 : w.heap[b7]? = some (.cells #[.func (.func g) #[] cap] 124 (0, 0))
  h8 : w.heap[b8]? = some (.cells #[.int .i64 n] 3 (0, 0))
  hp : w.heap[bp]? = some (.cells #[.int .i64 p] 3 (0, 0))
theorem WB.keep {w w2 : World} {b6 b7 b8 bp : Nat} {vd : Value} {g : Nat} {cap : Array Value} {n p : Nat} (h : WB w b6 b7 b8 bp vd g cap n p) (h1 : w2.heap[b6]? = w.heap[b6]?) (h2 : w2.heap[b7]? = w.heap[b7]?) (h3 : w2.heap[b8]? = w.heap[b8]?) (h4 : w2.heap[bp]? = w.heap[bp]?) : WB w2 b6 b7 b8 bp vd g cap n p :=
  ⟨h1.trans h.h6, h2.trans h.h7, h3.trans h.h8, h4.trans h.hp⟩
/-- The number that a pointer's box holds. -/
def boxI (pv : Value) (wr : World) : Nat := match pv with
  | .pointer (some a) => (match wr.cell? a with | some v => (intOf v).toNat | none => 0)
  | _ => 0
theorem boxI_eq {w : World} {b p : Nat} (h : w.cell? ⟨b, 0, none⟩ = some (.int .i64 p)) : boxI (.pointer (some ⟨b, 0, none⟩)) w = p := by simp [boxI, h, intOf]
set_option maxHeartbeats 3200000 in
set_option maxRecDepth 100000 in
theorem implWrong {P : Nat → Prop} (kind : Int) (hkd : 0 ≤ kind ∧ kind ≤ 5) (b : Nat) (hb : 2 ≤ b ∧ b ≤ 36) {v : Value} {ds : List Int} {w : World} (hl : 1 ≤ ds.length ∧ ds.length ≤ 20) (g : Nat) (cap : Array Value) (J : List (List Int) → World → Prop)
    (hr : RdI P w v ds) (hP : ∀ k, P k → k < w.heap.size) (h0 : ∀ w1, Below w.heap.size w w1 → J [] w1) (hst : ∀ d w1 w2, J d w1 → Below w1.heap.size w1 w2 → J d w2) (hrd : ∀ d w1, J d w1 → RdI P w1 v ds)
    (hdo : ∀ d p t, p + errLen kind ≤ ds.length → t ∈ chg kind b ((ds.drop p).take (errLen kind)) → ∀ v' w1, RdI (fun k => w.heap.size ≤ k ∧ k < w1.heap.size) w1 v' (chW ds t p (errLen kind)) → J d w1 → Calls Try.prog g (#[v'] ++ cap) w1 fun e w2 => e = .returned (.tuple #[]) ∧ J (d ++ [chW ds t p (errLen kind)]) w2 ∧ Kept w.heap.size w1 w2)
    (hchg : ∀ p t, p + errLen kind ≤ ds.length → t ∈ chg kind b ((ds.drop p).take (errLen kind)) → t.length = errLen kind)
    (hc : ∀ (args : Array Value) (w : World), (callFunc g args).run Try.prog w = .ok (.enter g args) w) :
    Calls Try.prog 108 #[.int .i64 kind, .int .i64 b, v, .func (.func g) #[] cap] w fun e w' => e = .returned (.tuple #[]) ∧ J (wrL kind b ds (ds.length + 1 - errLen kind)) w' ∧ w.heap.size ≤ w'.heap.size := by
  obtain ⟨av, cv, rfl, q1, q2⟩ := hr.isSlice
  obtain ⟨N, hN⟩ : ∃ n, n = ds.length := ⟨_, rfl⟩
  have hel := errLen_bd kind
  obtain ⟨n, hn⟩ : ∃ n, n = errLen kind := ⟨_, rfl⟩
  have hsome : ∃ bd od, av = some ⟨bd, od, none⟩ := by
    obtain ⟨b1, o1, u1, e, _⟩ := Rd.elim hr 0 (by omega)
    exact ⟨b1, o1, e⟩
  obtain ⟨bd, od, rfl⟩ := hsome
  have hE := Lib.hid (fun W => implErrLen kind W)
  rw [← hn] at hE hel hdo hchg ⊢
  rw [← hN] at hdo hchg hl q1 ⊢
  have HN := Lib.hid hN; have Hn := Lib.hid hn
  obtain ⟨W4, hW4⟩ : ∃ W4, W4 = (((w.alloc (.cells #[.slice (some ⟨bd, od, none⟩) N cv] 22)).alloc (.cells #[.func (.func g) #[] cap] 124)).alloc (.cells #[.int .i64 n] 3)).alloc (.cells #[.int .i64 0] 3) := ⟨_, rfl⟩
  have H4 := Lib.hid (four w (.cells #[.slice (some ⟨bd, od, none⟩) N cv] 22) (.cells #[.func (.func g) #[] cap] 124) (.cells #[.int .i64 n] 3) (.cells #[.int .i64 0] 3))
  rw [← hW4] at H4
  have HW4 := Lib.hid hW4; clear hW4
  unfold maxLen at q2
  have Hr := Lib.hid hr; have HP := Lib.hid hP; have H0 := Lib.hid h0; have Hst := Lib.hid hst; have Hrd := Lib.hid hrd; have Hdo := Lib.hid hdo; have Hchg := Lib.hid hchg
  clear hr hP h0 hst hrd hdo hchg hN hn
  go_enter Try.func108, Try.ntmps108
  go_wp2_with fail
  refine (Calls.mono (hE.out _) ?_)
  rintro e w' ⟨rfl, rfl⟩
  go_wp2_with fail
  rw [← HW4.out]
  have hs4 := H4.out.2.2.2.2.1
  have hB0 := Lib.hid (show WB W4 w.heap.size (w.heap.size + 1) (w.heap.size + 1 + 1) (w.heap.size + 1 + 1 + 1) (.slice (some ⟨bd, od, none⟩) N cv) g cap n 0 from ⟨H4.out.1, H4.out.2.1, H4.out.2.2.1, H4.out.2.2.2.1⟩)
  have hJ0 := Lib.hid (show J (wrL kind b ds 0) W4 from H0.out W4 H4.out.2.2.2.2.2)
  go_loopw [9] (fun pv wr => ∃ p bp : Nat, pv = .pointer (some ⟨bp, 0, none⟩) ∧ (p = 0 ∨ p + n ≤ N + 1) ∧ w.heap.size + 1 + 1 < bp ∧ Hid (WB wr w.heap.size (w.heap.size + 1) (w.heap.size + 1 + 1) bp (.slice (some ⟨bd, od, none⟩) N cv) g cap n p) ∧ Hid (J (wrL kind b ds p) wr) ∧ w.heap.size ≤ wr.heap.size) (fun pv wr => N + 1 - boxI pv wr)
  case atStart => exact ⟨0, _, rfl, .inl rfl, by omega, hB0, hJ0, by omega⟩
  case round =>
    clear hB0 hJ0
    obtain ⟨p, bp, rfl, hp, hbp, hB, hJ, hsz⟩ := hrel
    obtain ⟨W5, rfl⟩ : ∃ W, W = wr := ⟨_, rfl⟩
    have c6 := heap_cell hB.out.h6 (i := 0) rfl
    have c7 := heap_cell hB.out.h7 (i := 0) rfl
    have c8 := heap_cell hB.out.h8 (i := 0) rfl
    have c9 := heap_cell hB.out.hp (i := 0) rfl
    have l9 := heap_lt hB.out.hp
    have l8 := heap_lt hB.out.h8
    have hm := Lib.hid (boxI_eq c9)
    obtain ⟨PN, hPN⟩ : ∃ k, k = p + n := ⟨_, rfl⟩
    have hw : IntKind.i64.wrap ((p : Int) + (n : Int)) = (PN : Int) := by rw [hPN, Int.natCast_add]; exact IntWalk.i64_in _ (by omega)
    by_cases hlt : PN ≤ N
    · have hpN : p ≤ N := by omega
      have hpP : p ≤ PN := by omega
      have hPc : PN ≤ cv := by omega
      have hpc : p ≤ cv := by omega
      have hnn : PN - p = n := by omega
      have HPN := Lib.hid hPN
      have hpn := Lib.hid (show p + n ≤ N by omega)
      have HBW := Lib.hid (fun (w1 w2 : World) (hb1 : WB w1 w.heap.size (w.heap.size + 1) (w.heap.size + 1 + 1) bp (.slice (some ⟨bd, od, none⟩) N cv) g cap n p) (hk : Kept w.heap.size w1 w2) => (show WB w2 w.heap.size (w.heap.size + 1) (w.heap.size + 1 + 1) bp (.slice (some ⟨bd, od, none⟩) N cv) g cap n p from
        ⟨hk.heap (Nat.le_refl _) hb1.h6, hk.heap (by omega) hb1.h7, hk.heap (by omega) hb1.h8, hk.heap (by omega) hb1.hp⟩))
      have hcl := Lib.hid (Kp.implChanges (P := P) kind hkd b hb (v := .slice (some ⟨bd, od + p, none⟩) n (cv - p)) (f := (ds.drop p).take n) (w := W5) (by simp; rw [← HN.out, ← Hn.out]; have := hpn.out; omega) 158 #[.pointer (some ⟨w.heap.size + 1, 0, none⟩), .pointer (some ⟨w.heap.size, 0, none⟩), .pointer (some ⟨bp, 0, none⟩), .pointer (some ⟨w.heap.size + 1 + 1, 0, none⟩)]
        (fun d w1 => J (wrL kind b ds p ++ d.map fun t => chW ds t p n) w1 ∧ WB w1 w.heap.size (w.heap.size + 1) (w.heap.size + 1 + 1) bp (.slice (some ⟨bd, od, none⟩) N cv) g cap n p ∧ W5.heap.size ≤ w1.heap.size)
        (rd_part (Hrd.out _ _ hJ.out) (fun _ h => h) (fun _ _ => rfl) (by rw [← HN.out]; exact hpn.out) (fun _ => rfl) (by unfold maxLen; have := hpn.out; omega))
        (fun k hk => Nat.lt_of_lt_of_le (HP.out k hk) hsz)
        (fun w1 hb1 => ⟨by rw [List.map_nil, List.append_nil]; exact Hst.out _ _ _ hJ.out hb1, HBW.out _ _ hB.out (Kept.of_below hb1), hb1.size⟩)
        (fun d w1 w2 h1 hb1 => ⟨Hst.out _ _ _ h1.1 hb1, ⟨(hb1.block _ (heap_lt h1.2.1.h6)).trans h1.2.1.h6, (hb1.block _ (heap_lt h1.2.1.h7)).trans h1.2.1.h7, (hb1.block _ (heap_lt h1.2.1.h8)).trans h1.2.1.h8, (hb1.block _ (heap_lt h1.2.1.hp)).trans h1.2.1.hp⟩, Nat.le_trans h1.2.2 hb1.size⟩)
        (fun d w1 h1 => rd_part (Hrd.out _ _ h1.1) (fun _ h => h) (fun _ _ => rfl) (by rw [← HN.out]; exact hpn.out) (fun _ => rfl) (by unfold maxLen; have := hpn.out; omega))
        (fun d t hpre v' w1 hrv h1 => by
          have ht : t ∈ chg kind b ((ds.drop p).take n) := hpre.subset (by simp)
          have hs1 := h1.2.2
          refine (implWrong1 (P := P) (Q := fun k => W5.heap.size ≤ k ∧ k < w1.heap.size) (w := w1) (R := fun w2 => (J (wrL kind b ds p ++ (d ++ [t]).map fun t => chW ds t p n) w2 ∧ WB w2 w.heap.size (w.heap.size + 1) (w.heap.size + 1 + 1) bp (.slice (some ⟨bd, od, none⟩) N cv) g cap n p ∧ W5.heap.size ≤ w2.heap.size) ∧ Kept W5.heap.size w1 w2)
            (heap_cell h1.2.1.h7 (i := 0) rfl) (heap_cell h1.2.1.h6 (i := 0) rfl) (heap_cell h1.2.1.hp (i := 0) rfl) (heap_cell h1.2.1.h8 (i := 0) rfl) (by have h5 := Hrd.out _ _ h1.1; rw [← HN.out] at h5; exact h5) (fun k hk => by have := HP.out k hk; omega) hrv (fun k hk => hk.2) hpn.out ⟨HN.out, hl.2, hl.1⟩ (Hchg.out p t hpn.out ht) ?_ ?_ hc).mono ?_
          · intro v2 w2 hr2 hb2
            refine (Hdo.out (wrL kind b ds p ++ d.map fun t => chW ds t p n) p t hpn.out ht v2 w2 (rd_whole hr2 (fun k hk => ⟨by have := hk.1; omega, hk.2⟩) (fun _ _ => rfl)) (Hst.out _ _ _ h1.1 hb2)).mono ?_
            rintro e w3 ⟨he, hj, hk⟩
            have hk13 := (Kept.of_below (M := w.heap.size) hb2).trans hk
            refine ⟨he, ⟨by rw [List.map_append, ← List.append_assoc]; exact hj, HBW.out _ _ h1.2.1 hk13, Nat.le_trans hs1 hk13.size⟩, hk13.size, fun i hi1 hi2 => hk13.block i (by omega) hi2⟩
          · rintro w2 ⟨⟨_, hB2, _⟩, _⟩
            exact ⟨heap_cell hB2.h7 (i := 0) rfl, heap_cell hB2.h6 (i := 0) rfl, heap_cell hB2.hp (i := 0) rfl, heap_cell hB2.h8 (i := 0) rfl⟩
          · rintro e w2 ⟨he, h2, h3⟩
            exact ⟨he, h2, h3⟩)
        (fun args w => rfl))
      clear hPN
      go_wp2_with fail
      refine (Calls.mono hcl.out ?_)
      rintro e w6 ⟨rfl, ⟨hJ6, hB6, hs6⟩, hK6⟩
      have HB6 := Lib.hid hB6
      have HJ6 := Lib.hid (show J (wrL kind b ds (p + 1)) w6 by rw [wrL_succ, ← Hn.out]; exact hJ6)
      clear c6 c7 c8 c9 l9 l8 hJ6 hB6 hK6 hcl
      have c9 := heap_cell HB6.out.hp (i := 0) rfl
      have l9 := heap_lt HB6.out.hp
      have hb6 := Lib.hid ((Below.refl w6.heap.size w6).alloc (Nat.le_refl _) (.cells #[.int .i64 ((p : Int) + 1)] 3))
      have hnew := Lib.hid (show (w6.alloc (.cells #[.int .i64 ((p : Int) + 1)] 3)).heap[w6.heap.size]? = some (.cells #[.int .i64 ((p + 1 : Nat) : Int)] 3 (0, 0)) by rw [heap_alloc_new]; rfl)
      have hmn := Lib.hid (boxI_eq (heap_cell hnew.out (i := 0) rfl))
      have hBn := Lib.hid (show WB (w6.alloc (.cells #[.int .i64 ((p : Int) + 1)] 3)) w.heap.size (w.heap.size + 1) (w.heap.size + 1 + 1) w6.heap.size (.slice (some ⟨bd, od, none⟩) N cv) g cap n (p + 1) from
        ⟨(hb6.out.block _ (by omega)).trans HB6.out.h6, (hb6.out.block _ (by omega)).trans HB6.out.h7, (hb6.out.block _ (by omega)).trans HB6.out.h8, hnew.out⟩)
      have hJn := Lib.hid (Hst.out _ _ _ HJ6.out hb6.out)
      have hsn := Lib.hid hb6.out.size
      go_wp2
      go_roundw
      case rel => exact ⟨p + 1, w6.heap.size, rfl, .inr (by have := hpn.out; omega), by omega, hBn, hJn, by have := hsn.out; omega⟩
      case measure => rw [hmn.out, hm.out]; omega
    · have hpe : p = N + 1 - n := by omega
      have HJ := Lib.hid (show J (wrL kind b ds (N + 1 - n)) W5 by rw [← hpe]; exact hJ.out)
      clear hpe hPN
      go_wp2
      first
        | exact bodyPost_end (results_none rfl _ _ _) rfl ⟨rfl, HJ.out, hsz⟩
        | exact bodyPost_ret (results_none rfl _ _ _) rfl ⟨rfl, HJ.out, hsz⟩
end Go.Proofs.Ytnpkanlieflbiaa
/- The first undetected error: the closure that keeps the least wrong word, walked. -/
namespace Go.Proofs.Ytnpkanlieflbiaa
open Go.RowKit
set_option linter.unusedVariables false

/-- Nothing turned but one block. -/
structure KB (b : Nat) (w w2 : World) : Prop where
  size : w.heap.size ≤ w2.heap.size
  block : ∀ k, k ≠ b → k < w.heap.size → w2.heap[k]? = w.heap[k]?
  os : w2.os = w.os
  tape : w2.tape = w.tape
  output : w2.output = w.output
theorem KB.below {b N : Nat} {w w2 : World} (h : KB b w w2) (hb : N ≤ b) (hN : N ≤ w.heap.size) : Below N w w2 := ⟨h.os, h.tape, h.output, h.size, fun k hk => h.block k (by omega) (by omega)⟩
theorem KB.kept {b M : Nat} {w w2 : World} (h : KB b w w2) (hM : b < M) : Kept M w w2 := ⟨h.size, fun k h1 h2 => h.block k (by omega) h2⟩
theorem KB.of_below {b : Nat} {w w2 : World} (h : Below w.heap.size w w2) : KB b w w2 := ⟨h.size, fun k _ hk => h.block k hk, h.os, h.tape, h.output⟩
/-- The least checked word of those that were handed on, in a box. -/
structure JT (x : Chn) (B bx b10 M : Nat) (d : List (List Int)) (w : World) : Prop where
  bc : BoxC (· < B) w bx x
  ls : B ≤ M ∧ bx < M ∧ b10 < M ∧ bx ≠ b10 ∧ M ≤ w.heap.size ∧ B ≤ b10
  box : ∃ vt, w.heap[b10]? = some (.cells #[vt] 22 (0, 0)) ∧ (((∀ t ∈ d, runN x 0 x.start.toNat t ≠ x.stop.toNat) ∧ vt = .slice none 0 0) ∨
    ∃ y a n c, vt = .slice (some a) n c ∧ y ∈ d ∧ runN x 0 x.start.toNat y = x.stop.toNat ∧ (∀ t ∈ d, runN x 0 x.start.toNat t = x.stop.toNat → lexL t y = false) ∧ RdI (fun k => M ≤ k ∧ k < w.heap.size) w vt y)
theorem JT.keep {x : Chn} {B bx b10 M : Nat} {d : List (List Int)} {w w2 : World} (h : JT x B bx b10 M d w) (hb : Below w.heap.size w w2) : JT x B bx b10 M d w2 := by
  have hl := h.ls
  refine ⟨h.bc.below hb (by omega) (by omega), by have := hb.size; omega, ?_⟩
  obtain ⟨vt, h1, h2⟩ := h.box
  refine ⟨vt, (hb.block _ (by omega)).trans h1, ?_⟩
  rcases h2 with h2 | ⟨y, a, n, c, e, h3, h4, h5, h6⟩
  · exact .inl h2
  · exact .inr ⟨y, a, n, c, e, h3, h4, h5, rd_whole h6 (fun k hk => ⟨hk.1, Nat.lt_of_lt_of_le hk.2 hb.size⟩) fun k hk => hb.block k hk.2⟩
theorem JT.no {x : Chn} {B bx b10 M : Nat} {d : List (List Int)} {t : List Int} {w : World} (h : JT x B bx b10 M d w) (ht : runN x 0 x.start.toNat t ≠ x.stop.toNat) : JT x B bx b10 M (d ++ [t]) w := by
  refine ⟨h.bc, h.ls, ?_⟩
  obtain ⟨vt, h1, h2⟩ := h.box
  refine ⟨vt, h1, ?_⟩
  rcases h2 with ⟨h2, h3⟩ | ⟨y, a, n, c, e, h3, h4, h5, h6⟩
  · refine .inl ⟨fun s hs => ?_, h3⟩
    rcases List.mem_append.1 hs with hs | hs
    · exact h2 s hs
    · simp at hs; subst hs; exact ht
  · refine .inr ⟨y, a, n, c, e, by simp [h3], h4, fun s hs hr => ?_, h6⟩
    rcases List.mem_append.1 hs with hs | hs
    · exact h5 s hs hr
    · simp at hs; subst hs; exact absurd hr ht
theorem JT.leave {x : Chn} {B bx b10 M : Nat} {d : List (List Int)} {t y : List Int} {w : World} (h : JT x B bx b10 M d w) {a : Addr} {n c : Nat} (hv : w.heap[b10]? = some (.cells #[.slice (some a) n c] 22 (0, 0)))
    (hy : y ∈ d) (hr : runN x 0 x.start.toNat y = x.stop.toNat) (hm : ∀ t ∈ d, runN x 0 x.start.toNat t = x.stop.toNat → lexL t y = false) (hR : RdI (fun k => M ≤ k ∧ k < w.heap.size) w (.slice (some a) n c) y) (hl : lexL t y = false) : JT x B bx b10 M (d ++ [t]) w :=
  ⟨h.bc, h.ls, _, hv, .inr ⟨y, a, n, c, rfl, by simp [hy], hr, fun s hs hrs => by
    rcases List.mem_append.1 hs with hs | hs
    · exact hm s hs hrs
    · simp at hs; subst hs; exact hl, hR⟩⟩
theorem JT.take {x : Chn} {B bx b10 M : Nat} {d : List (List Int)} {t : List Int} {w : World} (h : JT x B bx b10 M d w) {a : Addr} {n c : Nat} (hR : RdI (fun k => M ≤ k ∧ k < w.heap.size) w (.slice (some a) n c) t) (hr : runN x 0 x.start.toNat t = x.stop.toNat)
    (hm : ∀ s ∈ d, runN x 0 x.start.toNat s = x.stop.toNat → lexL s t = false) : JT x B bx b10 M (d ++ [t]) (w.setCell ⟨b10, 0, none⟩ (.slice (some a) n c)) ∧ KB b10 w (w.setCell ⟨b10, 0, none⟩ (.slice (some a) n c)) := by
  have hl := h.ls
  have hoth : ∀ k, k ≠ b10 → (w.setCell ⟨b10, 0, none⟩ (.slice (some a) n c)).heap[k]? = w.heap[k]? := fun k hk => heap_setCell_other w _ k _ hk
  have hsz : (w.setCell ⟨b10, 0, none⟩ (.slice (some a) n c)).heap.size = w.heap.size := by simp
  obtain ⟨vt, h1, _⟩ := h.box
  refine ⟨⟨?_, by rw [hsz]; exact hl, _, ?_, .inr ⟨t, a, n, c, rfl, by simp, hr, fun s hs hrs => ?_, ?_⟩⟩, by rw [hsz]; exact Nat.le_refl _, fun k hk _ => hoth k hk, rfl, rfl, rfl⟩
  · exact h.bc.keep fun k hk => hoth k (by rcases hk with hk | hk <;> (have h5 := hl; omega))
  · rw [heap_setCell_same w b10 0 _ _ _ h1]; rfl
  · rcases List.mem_append.1 hs with hs | hs
    · exact hm s hs hrs
    · simp at hs; subst hs; exact lexL_irr _
  · exact rd_whole hR (fun k hk => ⟨hk.1, by rw [hsz]; exact hk.2⟩) fun k hk => hoth k (by omega)

theorem eqNil (w : World) (a : Option Addr) (n c : Nat) : (binOp .eql 22 (.slice a n c) (.slice none 0 0)).run Try.prog w = .ok (.bool a.isNone) w := by
  simp only [binOp]
  simp [run_equal_slice_nil w 22 2 a n c Try.underlying22]
set_option maxHeartbeats 1600000 in
set_option maxRecDepth 100000 in
theorem implFU1 {x : Chn} {B bx b10 M : Nat} {d : List (List Int)} {t : List Int} {w : World} {v : Value} (hv : VC x) (h : JT x B bx b10 M d w) (hr : RdI (fun k => M ≤ k ∧ k < w.heap.size) w v t) (hg : Digs x.b t) (hl : t.length = x.n) (hdl : ∀ y ∈ d, y.length = x.n) :
    Calls Try.prog 109 #[v, .pointer (some ⟨bx, 0, none⟩), .pointer (some ⟨b10, 0, none⟩)] w fun e w2 => e = .returned (.tuple #[]) ∧ JT x B bx b10 M (d ++ [t]) w2 ∧ KB b10 w w2 := by
  have hen := eqNil
  have hn := hv.nat.2.2.2.2
  have hck := Lib.hid (implChecks h.bc hv hr hg hl)
  have hls := h.ls
  obtain ⟨vt, hb, hvt⟩ := h.box
  have ht1 : 1 ≤ t.length := by omega
  obtain ⟨av, cv, rfl, q1, q2⟩ := hr.isSlice
  obtain ⟨a, rfl⟩ : ∃ a, av = some a := by
    obtain ⟨b1, o1, u1, e, _⟩ := Rd.elim hr 0 (by omega)
    exact ⟨_, e⟩
  have Hr := Lib.hid hr; have H := Lib.hid h
  obtain ⟨N, hN⟩ : ∃ N, N = t.length := ⟨_, rfl⟩
  rw [← hN] at hck q1 ⊢
  have Hr' := Lib.hid (show RdI (fun k => M ≤ k ∧ k < w.heap.size) w (.slice (some a) N cv) t by rw [hN]; exact hr)
  have HN := Lib.hid (show N = t.length ∧ N ≤ 20 ∧ t.length = x.n from ⟨hN, by omega, hl⟩)
  have c10 := heap_cell hb (i := 0) rfl
  have f10 := frozen_at hb 0
  have l10 := heap_lt hb
  have Hb := Lib.hid hb
  unfold maxLen at q2
  clear hr h hN hl hb
  by_cases hst : runN x 0 x.start.toNat t = x.stop.toNat
  · rw [decide_eq_true hst] at hck
    have Hst := Lib.hid hst
    clear hst
    rcases hvt with ⟨hno, rfl⟩ | ⟨y, a2, n2, c2, rfl, hy, hyr, hym, hyR⟩
    · have hT := Lib.hid (fun (m : Nat) => (H.out.keep (Below.draws (Below.refl _ _) m)).take (t := t) (w := w.drewN m) (rd_whole Hr'.out (fun k hk => hk) fun _ _ => rfl) Hst.out (fun s hs hrs => absurd hrs (hno s hs)))
      clear hno
      go_enter Try.func109, Try.ntmps109
      go_wp2_with fail
      refine (Calls.mono hck.out ?_)
      rintro e w' ⟨rfl, m, rfl⟩
      have HT := Lib.hid (hT.out m)
      clear hT
      go_wp2
      exact bodyPost_end (results_none rfl _ _ _) rfl ⟨rfl, HT.out.1, HT.out.2.size, fun k h1 h2 => HT.out.2.block k h1 h2, HT.out.2.os, HT.out.2.tape, HT.out.2.output⟩
    · have hcm := Lib.hid (fun (m : Nat) => slCompare (RdI.ok.keep (w' := w.drewN m) Hr'.out fun _ _ => rfl) (RdI.ok.keep (w' := w.drewN m) hyR fun _ _ => rfl) (by rw [HN.out.2.2, hdl y hy]) (by have := HN.out.2.1; have := HN.out.1; omega))
      have hT := Lib.hid (fun (m : Nat) (hlt : lexL t y = true) => (H.out.keep (Below.draws (Below.refl _ _) m)).take (t := t) (w := w.drewN m) (rd_whole Hr'.out (fun k hk => hk) fun _ _ => rfl) Hst.out (fun s hs hrs => lexL_le (lexL_asym hlt) (hym s hs hrs)))
      have hL := Lib.hid (fun (m : Nat) (hlt : lexL t y = false) => (H.out.leave Hb.out hy hyr hym hyR hlt).keep (Below.draws (Below.refl _ _) m))
      clear hy hyr hym hyR
      go_enter Try.func109, Try.ntmps109
      go_wp2_with fail
      refine (Calls.mono hck.out ?_)
      rintro e w' ⟨rfl, m, rfl⟩
      go_wp2_with fail
      refine (Calls.mono (hcm.out m) ?_)
      rintro e w' ⟨r, rfl, hrl, rfl⟩
      cases hlt : lexL t y
      · have hr0 : ¬ r < 0 := fun h => by rw [hrl.1 h] at hlt; exact absurd hlt (by decide)
        have HL := Lib.hid (hL.out m hlt)
        clear hL hT hrl hlt
        go_wp2
        exact bodyPost_end (results_none rfl _ _ _) rfl ⟨rfl, HL.out, KB.of_below (Below.draws (Below.refl _ _) m)⟩
      · have hr0 : r < 0 := hrl.2 hlt
        have HT := Lib.hid (hT.out m hlt)
        clear hL hT hrl hlt
        go_wp2
        exact bodyPost_end (results_none rfl _ _ _) rfl ⟨rfl, HT.out.1, HT.out.2.size, fun k h1 h2 => HT.out.2.block k h1 h2, HT.out.2.os, HT.out.2.tape, HT.out.2.output⟩
  · rw [decide_eq_false hst] at hck
    have hL := Lib.hid (fun (m : Nat) => (H.out.no hst).keep (Below.draws (Below.refl _ _) m))
    clear hst hvt
    go_enter Try.func109, Try.ntmps109
    go_wp2_with fail
    refine (Calls.mono hck.out ?_)
    rintro e w' ⟨rfl, m, rfl⟩
    have HL := Lib.hid (hL.out m)
    go_wp2
    exact bodyPost_end (results_none rfl _ _ _) rfl ⟨rfl, HL.out, KB.of_below (Below.draws (Below.refl _ _) m)⟩
end Go.Proofs.Ytnpkanlieflbiaa
/- The first undetected error: the wrong words of a word; the least word over the places. Plain. -/
namespace Go.Proofs.Ytnpkanlieflbiaa
open Go.RowKit
set_option linter.unusedVariables false

theorem wr_er {x : Chn} {kind : Int} {u t : List Int} (hk10 : kind = 5 → 10 ≤ x.b) (hb2 : 2 ≤ x.b) (hd : Digs x.b u) (hl : u.length = x.n) (hr : runN x 0 x.start.toNat u = x.stop.toNat) :
    (t ∈ wrL kind x.b u (x.n + 1 - errLen kind) ∧ runN x 0 x.start.toNat t = x.stop.toNat) ↔ AllE x kind u t := by
  have hel := errLen_bd kind
  constructor
  · rintro ⟨ht, hrt⟩
    unfold wrL at ht
    simp only [List.mem_flatMap, List.mem_range, List.mem_map] at ht
    obtain ⟨p, hp, t', ht', rfl⟩ := ht
    have hsplit : u = u.take p ++ ((u.drop p).take (errLen kind) ++ u.drop (p + errLen kind)) := by
      have h1 : u.drop (p + errLen kind) = (u.drop p).drop (errLen kind) := by rw [List.drop_drop]
      rw [h1, List.take_append_drop, List.take_append_drop]
    have hla : (u.take p).length = p := by simp; omega
    have hlf : ((u.drop p).take (errLen kind)).length = errLen kind := by simp; omega
    rw [hsplit] at hd hr
    have hd1 := digs_app.1 hd
    have hd2 := digs_app.1 hd1.2
    have ht2 := chg_digs hk10 hb2 hd2.1 hlf t' ht'
    have hlc : (u.drop (p + errLen kind)).length = x.n - (p + errLen kind) := by simp; omega
    unfold chW at hrt
    rw [runN_append, runN_append, hla, hlf, Nat.zero_add] at hr
    rw [runN_append, runN_append, hla, ht2.2, hlf, Nat.zero_add] at hrt
    refine ⟨p, by omega, u.take p, (u.drop p).take (errLen kind), t', u.drop (p + errLen kind), ⟨hla, hd1.1, hlf, hd2.1, ht', ⟨hlc, hd2.2, hr⟩, ⟨hlc, hd2.2, hrt⟩⟩, hsplit, rfl⟩
  · rintro ⟨p, hp, a, f, t', c, hE, rfl, rfl⟩
    have ht2 := chg_digs hk10 hb2 hE.df hE.lf t' hE.to
    constructor
    · unfold wrL
      simp only [List.mem_flatMap, List.mem_range, List.mem_map]
      have h1 : ((a ++ (f ++ c)).drop p).take (errLen kind) = f := by rw [← hE.la, List.drop_left, ← hE.lf, List.take_left]
      refine ⟨p, by omega, t', by rw [h1]; exact hE.to, ?_⟩
      unfold chW
      rw [← hE.la, List.take_left, ← hE.lf]
      congr 2
      rw [← List.append_assoc, ← List.length_append, List.drop_left]
    · rw [runN_append, runN_append, hE.la, ht2.2, hE.lf, Nat.zero_add]
      exact hE.c2.run
/-- A word with an undetected error is checked. -/
theorem wrd_ckd {x : Chn} {kind : Int} {p : Nat} {u : List Int} (hp : p + errLen kind ≤ x.n) (h : WrdS x kind p u) : u.length = x.n ∧ Digs x.b u ∧ runN x 0 x.start.toNat u = x.stop.toNat := by
  obtain ⟨v, a, f, t, c, hE, rfl, rfl⟩ := h
  refine ⟨?_, digs_app.2 ⟨hE.da, digs_app.2 ⟨hE.df, hE.c1.dig⟩⟩, ?_⟩
  · simp [hE.la, hE.lf, hE.c1.len]; omega
  · rw [runN_append, runN_append, hE.la, hE.lf, Nat.zero_add]
    exact hE.c1.run
/-- The least word of the places before k. -/
def WrdTo (x : Chn) (kind : Int) (k : Nat) (u : List Int) : Prop := LeastL (fun w => ∃ p, p < k ∧ WrdS x kind p w) u
section wrdto
variable {x : Chn} {kind : Int} {k : Nat} {u v : List Int}
theorem NoneTo.first (h : NoneTo x kind k) (h2 : LeastL (WrdS x kind k) u) : WrdTo x kind (k + 1) u :=
  ⟨⟨k, by omega, h2.1⟩, fun v ⟨p, hp, hv⟩ => by
    rcases Nat.lt_succ_iff_lt_or_eq.1 hp with h1 | rfl
    · exact absurd hv (h p h1 v)
    · exact h2.2 v hv⟩
theorem WrdTo.no (h : WrdTo x kind k u) (h2 : ∀ w, ¬ WrdS x kind k w) : WrdTo x kind (k + 1) u := by
  obtain ⟨⟨p, hp, h3⟩, h4⟩ := h
  exact ⟨⟨p, by omega, h3⟩, fun v ⟨q, hq, hv⟩ => by
    rcases Nat.lt_succ_iff_lt_or_eq.1 hq with h1 | rfl
    · exact h4 v ⟨q, h1, hv⟩
    · exact absurd hv (h2 v)⟩
theorem WrdTo.take (h : WrdTo x kind k u) (h2 : LeastL (WrdS x kind k) v) (hl : lexL v u = true) : WrdTo x kind (k + 1) v :=
  ⟨⟨k, by omega, h2.1⟩, fun w ⟨q, hq, hw⟩ => by
    rcases Nat.lt_succ_iff_lt_or_eq.1 hq with h1 | rfl
    · exact lexL_le (lexL_asym hl) (h.2 w ⟨q, h1, hw⟩)
    · exact h2.2 w hw⟩
theorem WrdTo.leave (h : WrdTo x kind k u) (h2 : LeastL (WrdS x kind k) v) (hl : lexL v u = false) : WrdTo x kind (k + 1) u := by
  obtain ⟨⟨p, hp, h3⟩, h4⟩ := h
  exact ⟨⟨p, by omega, h3⟩, fun w ⟨q, hq, hw⟩ => by
    rcases Nat.lt_succ_iff_lt_or_eq.1 hq with h1 | rfl
    · exact h4 w ⟨q, h1, hw⟩
    · exact lexL_le hl (h2.2 w hw)⟩
theorem WrdTo.all (h : WrdTo x kind k u) (hk : ∀ p, p < k ↔ p + errLen kind ≤ x.n) : LeastL (AllW x kind) u := h.congr fun w => ⟨fun ⟨p, hp, h⟩ => ⟨p, (hk p).1 hp, h⟩, fun ⟨p, hp, h⟩ => ⟨p, (hk p).2 hp, h⟩⟩
end wrdto
end Go.Proofs.Ytnpkanlieflbiaa
