/- The least distance: the reference's search, the plain part and what it keeps in memory. Nothing here walks. -/
import Derived.Test.YtnpkanlieflbiaaC7
import Derived.Test.YtnpkanlieflbiaaD3
import Derived.Test.YtnpkanlieflbiaaN1
namespace Go.Proofs.Ytnpkanlieflbiaa
open Go.RowKit
set_option linter.unusedVariables false

theorem pair_ltL {NS s t : Nat} (hs : s < NS) (ht : t < NS) : s * NS + t < NS * NS := by
  have := Nat.mul_le_mul_right NS (show s + 1 ≤ NS by omega)
  rw [Nat.succ_mul] at this
  omega
theorem iterK_succ {α : Type} (f : α → Nat → α) (a : α) (n : Nat) : iterK f a (n + 1) = f (iterK f a n) n := rfl
/-! ### The innermost loop, the two tables apart -/
def upEN (x : Chn) (k : Nat) (le : List Int) (eq : List Bool) (far : Int) (r t d : Nat) (nx : List Int) (e : Nat) : List Int :=
  if d ≠ e then nx.set (nxt x k r d * x.S + nxt x k t e) (min (nth nx (nxt x k r d * x.S + nxt x k t e)) (befV le eq x.S r t + 1))
    else if nth le (r * x.S + t) < far then nx.set (nxt x k r d * x.S + nxt x k t e) (min (nth nx (nxt x k r d * x.S + nxt x k t e)) (nth le (r * x.S + t))) else nx
theorem befV_zero {le : List Int} {eq : List Bool} {S r t : Nat} (h1 : r = t) (h2 : nth eq r = true) : befV le eq S r t = 0 := if_pos ⟨h1, h2⟩
theorem befV_off {le : List Int} {eq : List Bool} {S r t : Nat} (h : nth eq r = false) : befV le eq S r t = nth le (r * S + t) := if_neg fun h2 => by rw [h] at h2; exact absurd h2.2 (by decide)
theorem befV_ne {le : List Int} {eq : List Bool} {S r t : Nat} (h : ¬ r = t) : befV le eq S r t = nth le (r * S + t) := if_neg fun h2 => h h2.1
theorem upT_far {x : Chn} {k : Nat} {le : List Int} {eq : List Bool} {far : Int} {r t : Nat} {st : DSr} (h : befV le eq x.S r t = far) : upT x k le eq far r st t = st := if_pos h
theorem upT_go {x : Chn} {k : Nat} {le : List Int} {eq : List Bool} {far : Int} {r t : Nat} {st : DSr} (h : befV le eq x.S r t ≠ far) : upT x k le eq far r st t = iterK (upD x k le eq far r t) st x.b := if_neg h
theorem upE_N (x : Chn) (k : Nat) (le : List Int) (eq : List Bool) (far : Int) (r t d : Nat) (st : DSr) (e : Nat) :
    upE x k le eq far r t d st e = ⟨upEN x k le eq far r t d st.nx e, if r = t ∧ nth eq r = true then st.sm.set (nxt x k r d) true else st.sm⟩ := rfl
theorem upE_iter (x : Chn) (k : Nat) (le : List Int) (eq : List Bool) (far : Int) (r t d : Nat) (st : DSr) : ∀ n, 0 < n →
    iterK (upE x k le eq far r t d) st n = ⟨iterK (upEN x k le eq far r t d) st.nx n, if r = t ∧ nth eq r = true then st.sm.set (nxt x k r d) true else st.sm⟩
  | 0, h => by omega
  | 1, _ => by simp only [iterK, upE_N]
  | n + 2, _ => by
    rw [iterK, upE_iter x k le eq far r t d st (n + 1) (by omega), upE_N]
    simp only [iterK]
    by_cases h : r = t ∧ nth eq r = true
    · rw [if_pos h, if_pos h, List.set_set]
    · rw [if_neg h, if_neg h]
theorem upD_N {x : Chn} (hb : 0 < x.b) (k : Nat) (le : List Int) (eq : List Bool) (far : Int) (r t : Nat) (st : DSr) (d : Nat) :
    upD x k le eq far r t st d = ⟨iterK (upEN x k le eq far r t d) st.nx x.b, if r = t ∧ nth eq r = true then st.sm.set (nxt x k r d) true else st.sm⟩ := upE_iter x k le eq far r t d st x.b hb
theorem upD_on {x : Chn} {k : Nat} {le : List Int} {eq : List Bool} {far : Int} {r t : Nat} {st : DSr} {d : Nat} (hb : 0 < x.b) (h1 : r = t) (h2 : nth eq r = true) :
    upD x k le eq far r t st d = ⟨iterK (upEN x k le eq far r t d) st.nx x.b, st.sm.set (nxt x k r d) true⟩ := by rw [upD_N hb, if_pos ⟨h1, h2⟩]
theorem upD_off {x : Chn} {k : Nat} {le : List Int} {eq : List Bool} {far : Int} {r t : Nat} {st : DSr} {d : Nat} (hb : 0 < x.b) (h2 : nth eq r = false) :
    upD x k le eq far r t st d = ⟨iterK (upEN x k le eq far r t d) st.nx x.b, st.sm⟩ := by
  rw [upD_N hb, if_neg]
  rintro ⟨_, h⟩
  rw [h2] at h
  exact absurd h (by decide)
theorem upD_ne {x : Chn} {k : Nat} {le : List Int} {eq : List Bool} {far : Int} {r t : Nat} {st : DSr} {d : Nat} (hb : 0 < x.b) (h1 : ¬ r = t) :
    upD x k le eq far r t st d = ⟨iterK (upEN x k le eq far r t d) st.nx x.b, st.sm⟩ := by
  rw [upD_N hb, if_neg]
  rintro ⟨h, _⟩
  exact h1 h
theorem upEN_len (x : Chn) (k : Nat) (le : List Int) (eq : List Bool) (far : Int) (r t d : Nat) (nx : List Int) (e : Nat) : (upEN x k le eq far r t d nx e).length = nx.length := by
  unfold upEN
  split
  · simp
  · split
    · simp
    · rfl
theorem min_if (a b : Int) : (if a < b then a else b) = min a b := by
  rw [Int.min_def]; split <;> split <;> omega

/-! ### Two rows made by the call -/
abbrev OBl : Rep (List Bool) := OwnB 4
structure D2 (w0 wr : World) (gn gs N M : Nat) (st : DSr) : Prop where
  on : OI wr (.slice (some ⟨gn, 0, none⟩) N N) st.nx [gn]
  os : OBl wr (.slice (some ⟨gs, 0, none⟩) M M) st.sm [gs]
  ne : gn ≠ gs
  ln : w0.heap.size ≤ gn
  ls : w0.heap.size ≤ gs
  bel : Below w0.heap.size w0 wr
section d2
variable {w0 wr w2 : World} {gn gs N M : Nat} {st : DSr}
theorem D2.lenN (h : D2 w0 wr gn gs N M st) : st.nx.length = N := h.on.len.1
theorem D2.lenS (h : D2 w0 wr gn gs N M st) : st.sm.length = M := h.os.len.1
theorem D2.keep (h : D2 w0 wr gn gs N M st) (hb : Below wr.heap.size wr w2) : D2 w0 w2 gn gs N M st :=
  ⟨OI.ok.keep h.on fun k hk => hb.block k (OI.ok.lt h.on k hk), (Own.ok oB.ok).keep h.os fun k hk => hb.block k ((Own.ok oB.ok).lt h.os k hk), h.ne, h.ln, h.ls, h.bel.trans (hb.mono h.bel.size)⟩
theorem D2.cellN (h : D2 w0 wr gn gs N M st) {i : Nat} (hi : i < N) : wr.cell? ⟨gn, i, none⟩ = some (.int .i64 (nth st.nx i)) := h.on.cell (by rw [h.lenN]; exact hi)
theorem D2.cellS (h : D2 w0 wr gn gs N M st) {i : Nat} (hi : i < M) : wr.cell? ⟨gs, i, none⟩ = some (.bool (nth st.sm i)) := h.os.cell (by rw [h.lenS]; exact hi)
theorem D2.putN (h : D2 w0 wr gn gs N M st) (hb : Below wr.heap.size wr w2) {i : Nat} (hi : i < N) (y : Int) : D2 w0 (w2.setCell ⟨gn, i, none⟩ (.int .i64 y)) gn gs N M ⟨st.nx.set i y, st.sm⟩ := by
  have h2 := h.keep hb
  exact ⟨h2.on.put (by rw [h2.lenN]; exact hi) y, (Own.ok oB.ok).keep h2.os fun k hk => heap_setCell_other _ _ _ _ (by simp at hk; rw [hk]; exact fun e => h.ne e.symm), h.ne, h.ln, h.ls, h2.bel.setCell h.ln _⟩
theorem D2.putS (h : D2 w0 wr gn gs N M st) (hb : Below wr.heap.size wr w2) {i : Nat} (hi : i < M) (y : Bool) : D2 w0 (w2.setCell ⟨gs, i, none⟩ (.bool y)) gn gs N M ⟨st.nx, st.sm.set i y⟩ := by
  have h2 := h.keep hb
  exact ⟨OI.ok.keep h2.on fun k hk => heap_setCell_other _ _ _ _ (by simp at hk; rw [hk]; exact fun e => h.ne e), h2.os.put (by rw [h2.lenS]; exact hi) y, h.ne, h.ln, h.ls, h2.bel.setCell h.ls _⟩
theorem D2.ltN (h : D2 w0 wr gn gs N M st) : gn < wr.heap.size := OI.ok.lt h.on gn (by simp)
theorem D2.ltS (h : D2 w0 wr gn gs N M st) : gs < wr.heap.size := (Own.ok oB.ok).lt h.os gs (by simp)
theorem D2.widen {w : World} (h : D2 w0 wr gn gs N M st) (hb : Below w.heap.size w w0) : D2 w wr gn gs N M st := ⟨h.on, h.os, h.ne, Nat.le_trans hb.size h.ln, Nat.le_trans hb.size h.ls, hb.trans (h.bel.mono hb.size)⟩
end d2
/-- A row of numbers is there, a row of marks is made behind it. -/
theorem D2.start {w0 W : World} {g N : Nat} {nx : List Int} (h : Fresh OI w0 W (.slice (some ⟨g, 0, none⟩) N N) nx) {M : Nat} (hM : M ≤ maxLen) : D2 w0 (W.alloc (.cells (madeCells #[fB false] M) 4)) g W.heap.size N M ⟨nx, List.replicate M false⟩ := by
  obtain ⟨S, h1, h2, h3⟩ := h
  have e := h1.blocks
  subst e
  have hl := OI.ok.lt h1 g (by simp)
  exact ⟨OI.ok.keep h1 fun k hk => Below.heap_alloc W _ k (OI.ok.lt h1 k hk), Own.made W 4 fB false M hM, by omega, h2 g (by simp), h3.size, h3.alloc h3.size _⟩

/-! ### What both sides tell -/
def dOk (x : Chn) : Bool := vC x && decide (distI x < farN)
def dV (x : Chn) : Int := if dOk x then (distI x : Int) else 0
theorem d_inv {x : Chn} (h : vC x = false) : dOk x = false ∧ dV x = 0 := by
  have : dOk x = false := by simp [dOk, h]
  exact ⟨this, by simp [dV, this]⟩
theorem d_far {x : Chn} (hv : VC x) (h : distS x = (x.n : Int) + 1) : dOk x = false ∧ dV x = 0 := by
  have h1 : ¬ distI x < farN := fun h2 => by
    have h3 := (distI_two hv.nat.2.2.2.2.2).1 h2
    exact (distS_two hv).2 h3 h
  have : dOk x = false := by simp [dOk, h1]
  exact ⟨this, by simp [dV, this]⟩
theorem d_near {x : Chn} (hv : VC x) (h : distS x ≠ (x.n : Int) + 1) : dOk x = true ∧ dV x = distS x := by
  have h3 := (distS_two hv).1 h
  have h2 := (distI_two hv.nat.2.2.2.2.2).2 h3
  have : dOk x = true := by simp [dOk, vC_iff.2 hv, h2]
  exact ⟨this, by rw [dist_agree hv h2]; simp [dV, this]⟩
/-- A row that is filled from its head. -/
def fillL (n : Nat) (a : Int) (k : Nat) : List Int := List.replicate k a ++ List.replicate (n - k) 0
theorem fillL_len {n k : Nat} (a : Int) (h : k ≤ n) : (fillL n a k).length = n := by simp [fillL]; omega
theorem fillL_zero (n : Nat) (a : Int) : fillL n a 0 = List.replicate n 0 := by simp [fillL]
theorem fillL_all (n : Nat) (a : Int) : fillL n a n = List.replicate n a := by simp [fillL]
theorem fillL_succ {n k : Nat} (a : Int) (h : k < n) : (fillL n a k).set k a = fillL n a (k + 1) := by
  unfold fillL
  rw [show n - k = (n - (k + 1)) + 1 by omega, List.replicate_succ, List.set_append_right _ _ (by simp)]
  simp [List.replicate_succ']
end Go.Proofs.Ytnpkanlieflbiaa
