/- Structs: what they read as, what they own. Nothing here walks. -/
import Derived.Test.YtnpkanlieflbiaaH3
import Derived.Test.YtnpkanlieflbiaaV1
namespace Go.Proofs.Ytnpkanlieflbiaa
open Go.RowKit
set_option linter.unusedVariables false

/-- As Rep.Ok, of values of any number of cells. -/
structure Rep.Fine {α : Type} (R : Rep α) : Prop where
  keep : ∀ {w w' : World} {u : Value} {x : α} {S : List Nat}, R w u x S → (∀ k ∈ S, w'.heap[k]? = w.heap[k]?) → R w' u x S
  lt : ∀ {w : World} {u : Value} {x : α} {S : List Nat}, R w u x S → ∀ k ∈ S, k < w.heap.size
theorem Rep.Ok.fine {α : Type} {R : Rep α} (h : R.Ok) : R.Fine := ⟨h.keep, h.lt⟩
theorem In.of_freshF {α : Type} {R : Rep α} (hR : R.Fine) {w w' : World} {v : Value} {x : α} (h : Fresh R w w' v x) : In R w.heap.size w'.heap.size w' v x ∧ Turn 0 0 w w' :=
  ⟨⟨h.choose, h.choose_spec.1, fun k hk => ⟨h.choose_spec.2.1 k hk, hR.lt h.choose_spec.1 k hk⟩⟩, Turn.of_below h.choose_spec.2.2⟩
theorem In.keepF {α : Type} {R : Rep α} (hR : R.Fine) {lo hi a b : Nat} {w w' : World} {v : Value} {x : α} (h : In R lo hi w v x) (t : Turn a b w w') (hd : b ≤ lo ∨ hi ≤ a) : In R lo hi w' v x := by
  obtain ⟨S, h1, h2⟩ := h
  exact ⟨S, hR.keep h1 fun k hk => t.block k (hR.lt h1 k hk) (by have := h2 k hk; omega), h2⟩
theorem In.rdltF {α : Type} {R : Rep α} {Q : RRep α} (hL : Leads R Q) (hR : R.Fine) {lo hi : Nat} {w : World} {v : Value} {x : α} (h : In R lo hi w v x) : Q (· < w.heap.size) w v x := by
  obtain ⟨S, h1, h2⟩ := h
  exact hL.to _ _ _ _ _ h1 (hR.lt h1)
theorem Fresh.stayF {α : Type} {R : Rep α} (hR : R.Fine) {w0 w w' : World} {v : Value} {x : α} (h : Fresh R w0 w v x) (hb : Below w.heap.size w w') : Fresh R w0 w' v x :=
  ⟨h.choose, hR.keep h.choose_spec.1 fun k hk => hb.block k (hR.lt h.choose_spec.1 k hk), h.choose_spec.2.1, h.choose_spec.2.2.trans (hb.mono h.choose_spec.2.2.size)⟩
theorem In.widen {α : Type} {R : Rep α} {lo hi lo' hi' : Nat} {w : World} {v : Value} {x : α} (h : In R lo hi w v x) (h1 : lo' ≤ lo) (h2 : hi ≤ hi') : In R lo' hi' w v x := by
  obtain ⟨S, g1, g2⟩ := h
  exact ⟨S, g1, fun k hk => by have := g2 k hk; omega⟩
theorem Turn.trans0 {w w1 w2 : World} (h : Turn 0 0 w w1) (k : Turn 0 0 w1 w2) : Turn 0 0 w w2 :=
  ⟨k.os.trans h.os, k.tape.trans h.tape, k.output.trans h.output, Nat.le_trans h.size k.size, fun i hi _ => (k.block i (Nat.lt_of_lt_of_le hi h.size) (.inr (Nat.zero_le _))).trans (h.block i hi (.inr (Nat.zero_le _)))⟩
theorem Turn.bel {w w' : World} (h : Turn 0 0 w w') : Below w.heap.size w w' := ⟨h.os, h.tape, h.output, h.size, fun k hk => h.block k hk (.inr (Nat.zero_le _))⟩
/-- A step that turned an interval of what a step that made memory left. -/
theorem Turn.after {lo hi : Nat} {w w1 w2 : World} (h : Below w.heap.size w w1) (t : Turn lo hi w1 w2) : Turn lo hi w w2 :=
  ⟨t.os.trans h.os, t.tape.trans h.tape, t.output.trans h.output, Nat.le_trans h.size t.size, fun k hk hd => (t.block k (Nat.lt_of_lt_of_le hk h.size) hd).trans (h.block k hk)⟩
theorem Fresh.of_in {α : Type} {R : Rep α} {lo hi : Nat} {w0 w : World} {v : Value} {x : α} (h : In R lo hi w v x) (hb : Below w0.heap.size w0 w) (hl : w0.heap.size ≤ lo) : Fresh R w0 w v x := by
  obtain ⟨S, g1, g2⟩ := h
  exact ⟨S, g1, fun k hk => by have := g2 k hk; omega, hb⟩
theorem Below.draws {B : Nat} {a w : World} (h : Below B a w) (n : Nat) : Below B a (w.drewN n) := ⟨h.os, h.tape, h.output, h.size, h.block⟩
theorem heap_cell {w : World} {b : Nat} {cs : Array Value} {t : TypeId} (h : w.heap[b]? = some (.cells cs t (0, 0))) {i : Nat} {u : Value} (hi : cs[i]? = some u) : w.cell? ⟨b, i, none⟩ = some u := by
  rw [cell_of_row w b i cs t (0, 0) h, hi]

/-! ### Weightings -/
def aggW (x : Wgt) (u : Value) : Value := .agg #[.int .i64 x.base, .int .i64 x.modulus, .int .i64 x.target, u]
def RdW : RRep Wgt := fun P w v x => ∃ u, v = aggW x u ∧ RdI P w u x.weights
def OW : Rep Wgt := fun w v x S => ∃ u, v = aggW x u ∧ OI w u x.weights S
theorem RdW.ok : RRep.Ok RdW := ⟨fun ⟨u, h1, h2⟩ hk => ⟨u, h1, RdI.ok.keep h2 hk⟩, fun ⟨u, h1, h2⟩ hk => ⟨u, h1, RdI.ok.mono h2 hk⟩⟩
theorem OW.ok : Rep.Fine OW := ⟨fun ⟨u, h1, h2⟩ hk => ⟨u, h1, OI.ok.keep h2 hk⟩, fun ⟨u, h1, h2⟩ => OI.ok.lt h2⟩
theorem OW.leads : Leads OW RdW := ⟨fun w u x S P ⟨u', h1, h2⟩ hP => ⟨u', h1, OI.leads.to _ _ _ _ _ h2 hP⟩⟩
/-- Block b is a box that holds a weighting. -/
def BoxW (P : Nat → Prop) (w : World) (b : Nat) (x : Wgt) : Prop := ∃ u, w.heap[b]? = some (.cells #[.int .i64 x.base, .int .i64 x.modulus, .int .i64 x.target, u] 31 (0, 0)) ∧ RdI P w u x.weights
theorem BoxW.keep {P : Nat → Prop} {w w' : World} {b : Nat} {x : Wgt} (h : BoxW P w b x) (hk : ∀ k, P k ∨ k = b → w'.heap[k]? = w.heap[k]?) : BoxW P w' b x := by
  obtain ⟨u, h1, h2⟩ := h
  exact ⟨u, (hk b (.inr rfl)).trans h1, RdI.ok.keep h2 fun k hP => hk k (.inl hP)⟩
theorem BoxW.draws {P : Nat → Prop} {w : World} {b : Nat} {x : Wgt} (h : BoxW P w b x) (n : Nat) : BoxW P (w.drewN n) b x := h.keep fun _ _ => rfl
theorem BoxW.cells {P : Nat → Prop} {w : World} {b : Nat} {x : Wgt} (h : BoxW P w b x) : ∃ a c, w.cell? ⟨b, 0, none⟩ = some (.int .i64 x.base) ∧ w.cell? ⟨b, 1, none⟩ = some (.int .i64 x.modulus) ∧ w.cell? ⟨b, 2, none⟩ = some (.int .i64 x.target) ∧ w.cell? ⟨b, 3, none⟩ = some (.slice a x.weights.length c) ∧ RdI P w (.slice a x.weights.length c) x.weights ∧ x.weights.length ≤ c ∧ c ≤ maxLen := by
  obtain ⟨u, h1, h2⟩ := h
  obtain ⟨a, c, rfl, h3, h4⟩ := h2.isSlice
  exact ⟨a, c, heap_cell h1 rfl, heap_cell h1 rfl, heap_cell h1 rfl, heap_cell h1 rfl, h2, h3, h4⟩
theorem BoxW.boxed {B : Nat} {w : World} {x : Wgt} {u : Value} (h : RdI (· < B) w u x.weights) (hB : B ≤ w.heap.size) : BoxW (· < B) (w.alloc (.cells #[.int .i64 x.base, .int .i64 x.modulus, .int .i64 x.target, u] 31)) w.heap.size x :=
  ⟨u, heap_alloc_new w _, RdI.ok.keep h fun k hk => Below.heap_alloc w _ k (by omega)⟩
abbrev szW (x : Wgt) : Nat := x.weights.length
def mkW (k : Int) (x : Wgt) : Wgt := { x with weights := mk1 k x.weights.length }

/-! ### Permutings -/
def aggP (x : Prm) (u : Value) : Value := .agg #[.int .i64 x.base, .int .i64 x.target, u]
def RdP : RRep Prm := fun P w v x => ∃ u, v = aggP x u ∧ RdII P w u x.orders
def OP : Rep Prm := fun w v x S => ∃ u, v = aggP x u ∧ OII w u x.orders S
theorem RdP.ok : RRep.Ok RdP := ⟨fun ⟨u, h1, h2⟩ hk => ⟨u, h1, RdII.ok.keep h2 hk⟩, fun ⟨u, h1, h2⟩ hk => ⟨u, h1, RdII.ok.mono h2 hk⟩⟩
theorem OP.ok : Rep.Fine OP := ⟨fun ⟨u, h1, h2⟩ hk => ⟨u, h1, OII.ok.keep h2 hk⟩, fun ⟨u, h1, h2⟩ => OII.ok.lt h2⟩
theorem OP.leads : Leads OP RdP := ⟨fun w u x S P ⟨u', h1, h2⟩ hP => ⟨u', h1, OII.leads.to _ _ _ _ _ h2 hP⟩⟩
def BoxP (P : Nat → Prop) (w : World) (b : Nat) (x : Prm) : Prop := ∃ u, w.heap[b]? = some (.cells #[.int .i64 x.base, .int .i64 x.target, u] 43 (0, 0)) ∧ RdII P w u x.orders
theorem BoxP.keep {P : Nat → Prop} {w w' : World} {b : Nat} {x : Prm} (h : BoxP P w b x) (hk : ∀ k, P k ∨ k = b → w'.heap[k]? = w.heap[k]?) : BoxP P w' b x := by
  obtain ⟨u, h1, h2⟩ := h
  exact ⟨u, (hk b (.inr rfl)).trans h1, RdII.ok.keep h2 fun k hP => hk k (.inl hP)⟩
theorem BoxP.draws {P : Nat → Prop} {w : World} {b : Nat} {x : Prm} (h : BoxP P w b x) (n : Nat) : BoxP P (w.drewN n) b x := h.keep fun _ _ => rfl
theorem BoxP.cells {P : Nat → Prop} {w : World} {b : Nat} {x : Prm} (h : BoxP P w b x) : ∃ a c, w.cell? ⟨b, 0, none⟩ = some (.int .i64 x.base) ∧ w.cell? ⟨b, 1, none⟩ = some (.int .i64 x.target) ∧ w.cell? ⟨b, 2, none⟩ = some (.slice a x.orders.length c) ∧ RdII P w (.slice a x.orders.length c) x.orders ∧ x.orders.length ≤ c ∧ c ≤ maxLen := by
  obtain ⟨u, h1, h2⟩ := h
  obtain ⟨a, c, rfl, h3, h4⟩ := h2.isSlice
  exact ⟨a, c, heap_cell h1 rfl, heap_cell h1 rfl, heap_cell h1 rfl, h2, h3, h4⟩
theorem BoxP.boxed {B : Nat} {w : World} {x : Prm} {u : Value} (h : RdII (· < B) w u x.orders) (hB : B ≤ w.heap.size) : BoxP (· < B) (w.alloc (.cells #[.int .i64 x.base, .int .i64 x.target, u] 43)) w.heap.size x :=
  ⟨u, heap_alloc_new w _, RdII.ok.keep h fun k hk => Below.heap_alloc w _ k (by omega)⟩
def szP (x : Prm) : Nat := szL List.length x.orders
def cntP (x : Prm) : Nat := cntL List.length x.orders
def mkP (k : Int) (x : Prm) : Prm := { x with orders := mkS2 k x.orders }

/-! ### Chains -/
def aggC (x : Chn) (u v : Value) : Value := .agg #[.int .i64 x.base, .int .i64 x.states, .int .i64 x.start, .int .i64 x.stop, u, v]
def RdC : RRep Chn := fun P w v x => ∃ u p, v = aggC x u p ∧ RdIII P w u x.tables ∧ RdI P w p x.places
def OC : Rep Chn := fun w v x S => ∃ u p S1 S2, v = aggC x u p ∧ OIII w u x.tables S1 ∧ OI w p x.places S2 ∧ S = S1 ++ S2 ∧ ∀ k ∈ S1, k ∉ S2
theorem RdC.ok : RRep.Ok RdC := ⟨fun ⟨u, p, h1, h2, h3⟩ hk => ⟨u, p, h1, RdIII.ok.keep h2 hk, RdI.ok.keep h3 hk⟩, fun ⟨u, p, h1, h2, h3⟩ hk => ⟨u, p, h1, RdIII.ok.mono h2 hk, RdI.ok.mono h3 hk⟩⟩
theorem OC.ok : Rep.Fine OC := by
  refine ⟨?_, ?_⟩
  · rintro w w' v x S ⟨u, p, S1, S2, h1, h2, h3, rfl, h5⟩ hk
    exact ⟨u, p, S1, S2, h1, OIII.ok.keep h2 fun k h => hk k (by simp [h]), OI.ok.keep h3 fun k h => hk k (by simp [h]), rfl, h5⟩
  · rintro w v x S ⟨u, p, S1, S2, h1, h2, h3, rfl, h5⟩ k hk
    rcases List.mem_append.1 hk with h | h
    · exact OIII.ok.lt h2 k h
    · exact OI.ok.lt h3 k h
theorem OC.leads : Leads OC RdC := by
  refine ⟨?_⟩
  rintro w v x S P ⟨u, p, S1, S2, h1, h2, h3, rfl, h5⟩ hP
  exact ⟨u, p, h1, OIII.leads.to _ _ _ _ _ h2 fun k h => hP k (by simp [h]), OI.leads.to _ _ _ _ _ h3 fun k h => hP k (by simp [h])⟩
def BoxC (P : Nat → Prop) (w : World) (b : Nat) (x : Chn) : Prop := ∃ u p, w.heap[b]? = some (.cells #[.int .i64 x.base, .int .i64 x.states, .int .i64 x.start, .int .i64 x.stop, u, p] 28 (0, 0)) ∧ RdIII P w u x.tables ∧ RdI P w p x.places
theorem BoxC.keep {P : Nat → Prop} {w w' : World} {b : Nat} {x : Chn} (h : BoxC P w b x) (hk : ∀ k, P k ∨ k = b → w'.heap[k]? = w.heap[k]?) : BoxC P w' b x := by
  obtain ⟨u, p, h1, h2, h3⟩ := h
  exact ⟨u, p, (hk b (.inr rfl)).trans h1, RdIII.ok.keep h2 fun k hP => hk k (.inl hP), RdI.ok.keep h3 fun k hP => hk k (.inl hP)⟩
theorem BoxC.draws {P : Nat → Prop} {w : World} {b : Nat} {x : Chn} (h : BoxC P w b x) (n : Nat) : BoxC P (w.drewN n) b x := h.keep fun _ _ => rfl
theorem BoxC.cells {P : Nat → Prop} {w : World} {b : Nat} {x : Chn} (h : BoxC P w b x) : ∃ a c a' c', w.cell? ⟨b, 0, none⟩ = some (.int .i64 x.base) ∧ w.cell? ⟨b, 1, none⟩ = some (.int .i64 x.states) ∧ w.cell? ⟨b, 2, none⟩ = some (.int .i64 x.start) ∧ w.cell? ⟨b, 3, none⟩ = some (.int .i64 x.stop) ∧
    w.cell? ⟨b, 4, none⟩ = some (.slice a x.tables.length c) ∧ w.cell? ⟨b, 5, none⟩ = some (.slice a' x.places.length c') ∧ RdIII P w (.slice a x.tables.length c) x.tables ∧ RdI P w (.slice a' x.places.length c') x.places ∧ (x.tables.length ≤ c ∧ c ≤ maxLen) ∧ x.places.length ≤ c' ∧ c' ≤ maxLen := by
  obtain ⟨u, p, h1, h2, h3⟩ := h
  obtain ⟨a, c, rfl, h4, h5⟩ := h2.isSlice
  obtain ⟨a', c', rfl, h6, h7⟩ := h3.isSlice
  exact ⟨a, c, a', c', heap_cell h1 rfl, heap_cell h1 rfl, heap_cell h1 rfl, heap_cell h1 rfl, heap_cell h1 rfl, heap_cell h1 rfl, h2, h3, ⟨h4, h5⟩, h6, h7⟩
theorem BoxC.boxed {B : Nat} {w : World} {x : Chn} {u p : Value} (h : RdIII (· < B) w u x.tables) (h' : RdI (· < B) w p x.places) (hB : B ≤ w.heap.size) : BoxC (· < B) (w.alloc (.cells #[.int .i64 x.base, .int .i64 x.states, .int .i64 x.start, .int .i64 x.stop, u, p] 28)) w.heap.size x :=
  ⟨u, p, heap_alloc_new w _, RdIII.ok.keep h fun k hk => Below.heap_alloc w _ k (by omega), RdI.ok.keep h' fun k hk => Below.heap_alloc w _ k (by omega)⟩
def szC (x : Chn) : Nat := szL (szL List.length) x.tables + x.places.length
def cntC (x : Chn) : Nat := cntL (cntL List.length) x.tables + x.places.length
def mkC (k : Int) (x : Chn) : Chn := { x with tables := mkS3 k x.tables, places := mk1 (k + (cntL (cntL List.length) x.tables : Nat)) x.places.length }
theorem cnt_le_szC (x : Chn) : cntC x ≤ szC x := by have := cnt_le_sz3 x.tables; unfold szC cntC; omega
def Chn.nil : Chn := ⟨0, 0, 0, 0, [], []⟩
theorem cntL_le {α : Type} {cnt : α → Nat} {t : List α} {b : Nat} (h : ∀ c ∈ t, cnt c ≤ b) : cntL cnt t ≤ t.length * b := by
  induction t with
  | nil => simp [cntL]
  | cons x t ih =>
    have h1 := h x (by simp)
    have h2 := ih (fun y hy => h y (by simp [hy]))
    simp only [cntL, List.map_cons, List.sum_cons, List.length_cons, Nat.succ_mul] at h2 ⊢
    omega
theorem Fresh.turnedAt {α : Type} {R : Rep α} (hR : R.Fine) {w W2 w6 w7 : World} {v : Value} {x : α} {b : Nat} (hf : Fresh R W2 w6 v x) (hb0 : Below w.heap.size w W2) (hz0 : w.heap.size ≤ b) (hz : b < W2.heap.size) (hon : Only [b] w6 w7) : Fresh R w w7 v x := by
  obtain ⟨S, hS, hS2, hb⟩ := hf
  have := hb0.size
  exact ⟨S, hR.keep hS fun j hj => hon.block j (hR.lt hS j hj) (by have := hS2 j hj; simp; omega), fun j hj => by have := hS2 j hj; omega, below_only (hb0.trans (hb.mono (by omega))) hon (by have := hb.size; omega) (by simp; omega)⟩
theorem Fresh.aggC {w w' : World} {v : Value} {x : Chn} (h : Fresh OC w w' v x) : ∃ u p, v = .agg #[.int .i64 x.base, .int .i64 x.states, .int .i64 x.start, .int .i64 x.stop, u, p] ∧ ∃ a b c d e f, u = .slice a b c ∧ p = .slice d e f := by
  obtain ⟨S, ⟨u, p, Sa, Sb, rfl, ot, op, eS, hSS⟩, hS, hb⟩ := h
  obtain ⟨a, b, c, rfl⟩ := ot.isSlice
  obtain ⟨d, e, f, rfl⟩ := op.isSlice
  exact ⟨_, _, rfl, a, b, c, d, e, f, rfl, rfl⟩

/-- A row made behind a list of rows goes to its end. -/
theorem pushRow {α : Type} [Inhabited α] {E : TypeId} {R : Rep α} (hR : R.Ok) {w W2 W4 : World} {ov rv : Value} {L : List α} {r : α} (h : Fresh (Own E R) w W2 ov L) (hr : Fresh R W2 W4 rv r) :
    ∃ S T, Own E R W4 ov L S ∧ R W4 rv r T ∧ (∀ j ∈ T, j ∉ S) ∧ ∀ v1 w5 S1, Own E R w5 v1 (L ++ [r]) S1 → Only S W4 w5 → (∀ k ∈ S1, k ∈ S ∨ k ∈ T ∨ W4.heap.size ≤ k) → Fresh (Own E R) w w5 v1 (L ++ [r]) := by
  obtain ⟨S, hS, hS2, hb⟩ := h
  obtain ⟨T, hT, hT2, hb2⟩ := hr
  have hs := hb.size
  have hs2 := hb2.size
  refine ⟨S, T, (Own.ok hR).keep hS (fun k hk => hb2.block k ((Own.ok hR).lt hS k hk)), hT, fun j hj hm => by have := (Own.ok hR).lt hS j hm; have := hT2 j hj; omega, fun v1 w5 S1 ho hon hS1 => ⟨S1, ho, fun k hk => ?_, below_only (hb.trans (hb2.mono hs)) hon (by omega) hS2⟩⟩
  rcases hS1 k hk with h | h | h
  · exact hS2 k h
  · have := hT2 k h; omega
  · omega
theorem Only.heap {S : List Nat} {w w1 : World} (h : Only S w w1) {k : Nat} {o : Obj} (hk : w.heap[k]? = some o) (hS : k ∉ S) : w1.heap[k]? = some o := (h.block k (Array.getElem?_eq_some_iff.1 hk).1 hS).trans hk
theorem below_heap {W w1 : World} (h : Below W.heap.size W w1) {k : Nat} {o : Obj} (hk : W.heap[k]? = some o) : w1.heap[k]? = some o := (h.block k (Array.getElem?_eq_some_iff.1 hk).1).trans hk
theorem drewSz (w : World) : w.drew.heap.size = w.heap.size := rfl
theorem drewNSz (w : World) (n : Nat) : (w.drewN n).heap.size = w.heap.size := rfl
end Go.Proofs.Ytnpkanlieflbiaa
