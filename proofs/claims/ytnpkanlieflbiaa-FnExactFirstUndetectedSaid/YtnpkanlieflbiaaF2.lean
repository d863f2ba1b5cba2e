/- append of one element inside a region that draws its order; blocks behind steps. -/
import Derived.Test.YtnpkanlieflbiaaS1
import Derived.Test.YtnpkanlieflbiaaF1
import Derived.Deep.RegionLaw
import Derived.StillTailTactics
import Derived.Deep.RegionHeld3
namespace Go.Proofs.Ytnpkanlieflbiaa
open Go.RowKit
set_option linter.unusedVariables false

theorem step_push {P : Program} {ops : Array Oper} {o : Oper} {a : Act} {K : Act → World → Prop} {Q : Exit → Act → World → Prop} {Ep : Prop} (hgd : o.guard = none) (s x : Operand) (t : TypeId)
    (ho : o.op = .call { callee := .builtin .append, args := #[s, x], argTypes := #[t, t] }) {α : Type} [Inhabited α] {R : Rep α} (hR : R.Ok) {E : TypeId} (ht : P.underlying t = some (.slice E)) {z : Value} {bytes : Nat}
    (hinfo : (P.info? E).map (fun i => (i.zero, i.size, i.bytes)) = some (some z, 1, bytes)) (hz1 : z.cells.size = 1) (w : World) {W : World} {v : Value} {xs : List α} {S : List Nat} (hown : Own E R w v xs S)
    {u : Value} (y : α) (T : List Nat) (hu : R w u y T) (hd : ∀ k ∈ T, k ∉ S) (hlen : (xs.length + 1) * bytes ≤ 140737488355328) (hmax : xs.length + 1 ≤ maxLen)
    (hs : a.eval s = v) (hx : a.eval x = .slice (some ⟨w.heap.size, 0, none⟩) 1 1) (hW : W = w.alloc (.cells #[u] E))
    (h : ∀ v' w' S', Own E R w' v' (xs ++ [y]) S' → Only S w w' → (∀ k ∈ S', k ∈ S ∨ k ∈ T ∨ w.heap.size ≤ k) → K (a.put o.dst v') w') :
    if Region.wanted o (yielded ops a.tmps) = true then Oper.wp P o a W K Q else Ep := by
  have hw : Region.wanted o (yielded ops a.tmps) = true := by simp [Region.wanted, hgd]
  rw [if_pos hw]
  subst hW
  obtain ⟨v', w', S', hr, h1, h2, h3⟩ := run_push (P := P) hR (ty := o.type) ht hinfo hz1 hown hu hd hlen hmax
  unfold Oper.wp execOp
  simp only [ho, resolve, invoke, builtin, Sem.run_bind, Sem.run_pure, Result.andThen_ok, List.map_toArray, List.map_cons, List.map_nil, hs, hx, hr]
  exact h v' w' S' h1 h2 h3

theorem frozen_at {w : World} {b : Nat} {cs : Array Value} {t : TypeId} (h : w.heap[b]? = some (.cells cs t (0, 0))) (i : Nat) : w.frozen? ⟨b, i, none⟩ = false := frozen_of_row w b i cs t h
/-- A block beside S, behind a draw and a step that turned S alone. -/
theorem fp {wr w1 : World} {S : List Nat} (ho : Only S wr.drew w1) {k : Nat} {o : Obj} (hk : wr.heap[k]? = some o) (hkS : k ∉ S) : w1.heap[k]? = some o :=
  (ho.block k (Array.getElem?_eq_some_iff.1 hk).1 hkS).trans hk
theorem fset {w1 : World} {k b i : Nat} {o : Obj} (h : w1.heap[k]? = some o) (hne : k ≠ b) (v : Value) : (w1.setCell ⟨b, i, none⟩ v).heap[k]? = some o := (keep_set (p := ⟨b, i, none⟩) hne).trans h
theorem heap_lt {w : World} {k : Nat} {o : Obj} (h : w.heap[k]? = some o) : k < w.heap.size := (Array.getElem?_eq_some_iff.1 h).1
theorem al_size (w : World) (o : Obj) : (w.alloc o).heap.size = w.heap.size + 1 := by simp
/-- Three blocks, draws between. -/
theorem three (w : World) (A Z C : Obj) (m : Nat) : ((((w.alloc A).alloc Z).drewN m).alloc C).heap[w.heap.size]? = some A ∧ ((((w.alloc A).alloc Z).drewN m).alloc C).heap[w.heap.size + 1]? = some Z ∧ ((((w.alloc A).alloc Z).drewN m).alloc C).heap[w.heap.size + 1 + 1]? = some C ∧
    ((((w.alloc A).alloc Z).drewN m).alloc C).heap.size = w.heap.size + 3 ∧ Below w.heap.size w ((((w.alloc A).alloc Z).drewN m).alloc C) := by
  have s1 := al_size w A
  have s2 := al_size (w.alloc A) Z
  have s3 : (((w.alloc A).alloc Z).drewN m).heap.size = w.heap.size + 1 + 1 := by show ((w.alloc A).alloc Z).heap.size = _; omega
  have e1 := heap_alloc_new w A
  have e2 := heap_alloc_new (w.alloc A) Z
  have e3 := heap_alloc_new (((w.alloc A).alloc Z).drewN m) C
  rw [s1] at e2
  rw [s3] at e3
  refine ⟨?_, ?_, e3, by rw [al_size, s3], by repeat' (first | with_reducible exact Below.refl _ _ | with_reducible refine Below.alloc ?_ ?_ _ | with_reducible refine Below.setCell ?_ ?_ _ | with_reducible refine Below.drew ?_ | with_reducible refine Below.draws ?_ _ | omega | (simp; done) | (simp; omega))⟩
  · exact (Below.heap_alloc _ C _ (by omega)).trans ((Below.heap_alloc (w.alloc A) Z _ (by omega)).trans e1)
  · exact (Below.heap_alloc _ C _ (by omega)).trans e2
end Go.Proofs.Ytnpkanlieflbiaa
/- A region that draws its order: reads that may float over a forced tail, whose last operation waits for all. One walk serves every order. Nothing here speaks of the program. -/
namespace Go.Proofs.Ytnpkanlieflbiaa
open Go
set_option linter.unusedVariables false

section
variable {P : Program} {ops : Array Oper} {md : Region.Mode} {S : World → Prop} {Q : Exit → Act → World → Prop}

/-- Whatever comes up; behind each operation but the last S holds. -/
def wpAnyT (P : Program) (md : Region.Mode) (ops : Array Oper) (Q : Exit → Act → World → Prop) (S : World → Prop) (n : Nat) : Nat → Array Bool → Act → World → Prop
  | 0, listed, a, w => Region.ready md ops listed = [] ∧ Q .normal a w
  | f + 1, listed, a, w => Region.ready md ops listed ≠ [] ∧ ∀ i ∈ Region.ready md ops listed, wpOp P ops Q i (fun a' w' => (i ≠ n → S w') ∧ wpAnyT P md ops Q S n f (listed.setIfInBounds i true) a' w') a w

theorem wpAny_of_T {n : Nat} : ∀ (f : Nat) (listed : Array Bool) (a : Act) (w : World), wpAnyT P md ops Q S n f listed a w → wpAny P md ops Q f listed a w
  | 0, _, _, _, h => h
  | f + 1, _, _, _, h => ⟨fun h0 => absurd h0 h.1, fun i hi => wpOp_mono (fun a' w' h' => wpAny_of_T f _ a' w' h'.2) (h.2 i hi)⟩

theorem wpAnyT_first {i n : Nat} {oi : Oper} {v : Value} (hi : ops[i]? = some oi) (hsel : ∀ (j : Nat) (o : Oper) cs b, ops[j]? = some o → o.op ≠ .select cs b)
    (hQ : ∀ c a w, Q (.panic c) (a.put oi.dst v) w → Q (.panic c) a w) (hw : Region.waitsFor md ops n i = true) :
    ∀ (f : Nat) (listed : Array Bool) (a : Act) (w : World),
      (∀ j oj, ops[j]? = some oj → j ≠ i → listed.getD j true = false → (∀ e ∈ oj.after, Region.binds md e = true → e.on ≠ i) → oi.apart ops oj = true) →
      i ∈ Region.ready md ops listed → YieldsIf P ops S oi v a → S w →
      wpAnyT P md ops Q S n f (listed.setIfInBounds i true) (a.put oi.dst v) w → wpAnyT P md ops Q S n (f + 1) listed a w := by
  intro f
  induction f with
  | zero =>
    intro listed a w _ hr hy hS H
    refine ⟨fun h => (by rw [h] at hr; cases hr), fun j hj => ?_⟩
    by_cases hji : j = i
    · subst hji; exact hy.wpOp hi hS ⟨fun _ => hS, H⟩
    · have h1 := ready_mono hj hji
      rw [H.1] at h1
      cases h1
  | succ f ih =>
    intro listed a w hfree hr hy hS H
    have hun := (mem_ready.1 hr).1
    refine ⟨fun h => (by rw [h] at hr; cases hr), fun j hj => ?_⟩
    by_cases hji : j = i
    · subst hji; exact hy.wpOp hi hS ⟨fun _ => hS, H⟩
    · have h1 := H.2 j (ready_mono hj hji)
      obtain ⟨hjun, oj, hoj, hall⟩ := mem_ready.1 hj
      have hnot : ∀ e ∈ oj.after, Region.binds md e = true → e.on ≠ i := fun e he hb heq => by
        have h1 := hall e he hb
        rw [heq, getD_both hun] at h1
        cases h1
      have hjn : j ≠ n := fun e => by
        obtain ⟨on, hon, e1, he1, hb1, he2⟩ := Region.waitsFor_spec hw
        rw [e] at hoj
        have : oj = on := Option.some.inj (hoj.symm.trans hon)
        subst this
        exact hnot e1 he1 hb1 he2
      have h2 := wpOp_putIf hoj (hfree j oj hoj hji hjun hnot) (fun cs b => hsel i oi cs b hi) (fun cs b => hsel j oj cs b hoj) hQ hy h1
      have hfree' : ∀ k ok, ops[k]? = some ok → k ≠ i → (listed.setIfInBounds j true).getD k true = false →
          (∀ e ∈ ok.after, Region.binds md e = true → e.on ≠ i) → oi.apart ops ok = true := fun k ok hk hki hun hno => by
        refine hfree k ok hk hki ?_ hno
        by_cases hjk : j = k
        · subst hjk; exact hjun
        · rw [getD_set_ne true hjk] at hun; exact hun
      refine wpOp_mono (fun a' w' h3 => ⟨fun _ => h3.2.1 hjn, ih (listed.setIfInBounds j true) a' w' hfree' (ready_mono hr (Ne.symm hji)) h3.1 (h3.2.1 hjn) ?_⟩) h2
      rw [Array.setIfInBounds_comm _ _ hji]
      exact h3.2.2

/-- The reads, in the text's order. -/
def wpReads (P : Program) (ops : Array Oper) (S : World → Prop) (L : Act → Prop) : List Oper → Act → Prop
  | [], a => L a
  | o :: rest, a => ∃ v, YieldsIf P ops S o v a ∧ wpReads P ops S L rest (a.put o.dst v)
theorem wpReads_nil {L : Act → Prop} {a : Act} (h : L a) : wpReads P ops S L [] a := h
theorem wpReads_cons {L : Act → Prop} {a : Act} {o : Oper} {rest : List Oper} (v : Value) (hw : Region.wanted o (yielded ops a.tmps) = true) (hv : ∀ w, S w → (execOp a.eval o).run P w = .ok (.value v) w)
    (h : wpReads P ops S L rest (a.put o.dst v)) : wpReads P ops S L (o :: rest) a := ⟨v, .inl ⟨hw, hv⟩, h⟩
/-- The tail, in its order; behind each but the last S is shown anew. -/
def wpTail (P : Program) (ops : Array Oper) (Q : Exit → Act → World → Prop) (S : World → Prop) : List Oper → Act → World → Prop
  | [], a, w => Q .normal a w
  | [o], a, w => wpList P ops Q [o] a w
  | o :: o2 :: rest, a, w => ∀ K : Act → World → Prop, Shut (∀ a w, S w → wpTail P ops Q S (o2 :: rest) a w → K a w) → if Region.wanted o (yielded ops a.tmps) = true then Oper.wp P o a w K Q else K (a.put o.dst undef) w
theorem wpTail_one {a : Act} {w : World} {o : Oper} (h : wpList P ops Q [o] a w) : wpTail P ops Q S [o] a w := h
theorem wpTail_cons {a : Act} {w : World} {o o2 : Oper} {rest : List Oper} (h : ∀ K : Act → World → Prop, Shut (∀ a w, S w → wpTail P ops Q S (o2 :: rest) a w → K a w) → if Region.wanted o (yielded ops a.tmps) = true then Oper.wp P o a w K Q else K (a.put o.dst undef) w) :
    wpTail P ops Q S (o :: o2 :: rest) a w := h

theorem wpAnyT_seq {n : Nat} : ∀ (l : List Oper) (k : Nat) (listed : Array Bool) (a : Act) (w : World), (∀ j, l[j]? = ops[k + j]?) → k + l.length = n + 1 →
    Region.seqB md ops l.length k listed = true → wpTail P ops Q S l a w → wpAnyT P md ops Q S n l.length listed a w
  | [], _, _, _, _, _, _, hB, h => ⟨by simpa [Region.seqB] using hB, h⟩
  | [o], k, listed, a, w, hl, hn, hB, h => by
    have h0 : ops[k]? = some o := by simpa using (hl 0).symm
    simp only [List.length_cons, List.length_nil, Region.seqB, Bool.and_eq_true, decide_eq_true_eq] at hB
    refine ⟨fun h1 => (by rw [hB.1] at h1; cases h1), fun i hi => ?_⟩
    rw [hB.1] at hi
    have hik : i = k := by simpa using hi
    subst hik
    have hw : wpOp P ops Q i (wpList P ops Q []) a w := by unfold wpOp; simp only [h0]; exact h
    have hin : i = n := by simpa using hn
    exact wpOp_mono (fun a' w' h' => ⟨fun h => absurd hin h, by simpa using hB.2, h'⟩) hw
  | o :: o2 :: l, k, listed, a, w, hl, hn, hB, h => by
    have h0 : ops[k]? = some o := by simpa using (hl 0).symm
    rw [List.length_cons] at hB
    simp only [Region.seqB, Bool.and_eq_true, decide_eq_true_eq] at hB
    refine ⟨fun h1 => (by rw [hB.1] at h1; cases h1), fun i hi => ?_⟩
    rw [hB.1] at hi
    have hik : i = k := by simpa using hi
    subst hik
    refine wpOp_step h0 fun K' hK => h K' fun a' w' hS h' => hK a' w' ⟨fun _ => hS, ?_⟩
    exact wpAnyT_seq (o2 :: l) (i + 1) _ a' w' (fun j => by have := hl (j + 1); simpa [Nat.add_assoc, Nat.add_comm 1 j] using this) (by simp only [List.length_cons] at hn ⊢; omega) hB.2 h'

theorem wpAnyT_lex {n m g : Nat} (hsel : Region.noSelect ops = true) (hQ : ∀ c a d v w, Q (.panic c) (a.put d v) w → Q (.panic c) a w) (hw : ∀ i, i < n → Region.waitsFor md ops m i = true) {w : World} (hS : S w)
    (hT : ∀ listed a, Region.seqB md ops g n listed = true → wpTail P ops Q S (ops.toList.drop n) a w → wpAnyT P md ops Q S m g listed a w) :
    ∀ (l : List Oper) (k : Nat) (listed : Array Bool) (a : Act), (∀ j, j < l.length → l[j]? = ops[k + j]?) → k + l.length = n → Region.lexHead md ops g l.length k listed = true →
    wpReads P ops S (fun a' => wpTail P ops Q S (ops.toList.drop n) a' w) l a → wpAnyT P md ops Q S m (l.length + g) listed a w
  | [], k, listed, a, _, hk, hB, h => by
    have : k = n := by simpa using hk
    subst this
    rw [List.length_nil, Nat.zero_add]
    exact hT listed a (by simpa [Region.lexHead] using hB) h
  | o :: l, k, listed, a, hl, hk, hB, h => by
    have h0 : ops[k]? = some o := by simpa using (hl 0 (by simp)).symm
    simp only [List.length_cons, Region.lexHead, Bool.and_eq_true] at hB
    obtain ⟨⟨hr, hf⟩, hB'⟩ := hB
    have hkn : k < n := by simp only [List.length_cons] at hk; omega
    obtain ⟨v, hy, h⟩ := h
    rw [show (o :: l).length + g = (l.length + g) + 1 by simp only [List.length_cons]; omega]
    exact wpAnyT_first h0 (Region.noSelect_spec hsel) (fun c a w => hQ c a _ _ w) (hw k hkn) _ listed a w (Region.free_spec h0 hf) (by simpa using hr) hy hS
      (wpAnyT_lex hsel hQ hw hS hT l (k + 1) _ _ (fun j hj => by have := hl (j + 1) (by simp; omega); simpa [Nat.add_assoc, Nat.add_comm 1 j] using this) (by simp only [List.length_cons] at hk; omega) hB' h)

/-- The head only reads what S holds; the tail is forced once the head is done, and its last operation waits for each of the head. -/
theorem wp_region_float {id : Nat} {a : Act} {w : World} {l : List Oper} (n : Nat) (S : World → Prop) (hm : P.follows .mixedOrders = true)
    (hB : (Region.noSelect l.toArray && decide (n < l.length) && Region.lexHead .any l.toArray (l.length - n) n 0 (Array.replicate l.length false) && (List.range n).all fun i => Region.waitsFor .any l.toArray (l.length - 1) i) = true)
    (hS : S w.drew) (h : S w.drew → wpReads P l.toArray S (fun a' => wpTail P l.toArray (NoPanic Q) S (l.drop n) a' w.drew) (l.take n) a) : (Code.region id l.toArray true).wp P Q a w := by
  refine wp_region_noPanic ?_
  have hQ : ∀ c (a : Act) d v w, NoPanic Q (.panic c) (a.put d v) w → NoPanic Q (.panic c) a w := fun _ _ _ _ _ h => h
  simp only [Bool.and_eq_true, decide_eq_true_eq, List.all_eq_true, List.mem_range] at hB
  obtain ⟨⟨⟨hsel, hn⟩, hlex⟩, hwt⟩ := hB
  have htl : (l.take n).length = n := by simp; omega
  refine wp_region_any hm (wpAny_of_T (n := l.length - 1) (S := S) _ _ _ _ ?_)
  have hT : ∀ listed a, Region.seqB .any l.toArray (l.length - n) n listed = true → wpTail P l.toArray (NoPanic Q) S (l.toArray.toList.drop n) a w.drew → wpAnyT P .any l.toArray (NoPanic Q) S (l.length - 1) (l.length - n) listed a w.drew := fun listed a hs ht => by
    have := wpAnyT_seq (md := .any) (n := l.length - 1) (l.drop n) n listed a w.drew (fun j => by simp [List.getElem?_drop]) (by simp; omega) (by simpa using hs) ht
    simpa using this
  have := wpAnyT_lex (md := .any) (m := l.length - 1) hsel hQ hwt hS hT (l.take n) 0 (Array.replicate l.length false) a (fun j hj => by
    have hj' : j < n := by rw [htl] at hj; exact hj
    simp [hj']) (by simpa using htl) (by rw [htl]; exact hlex) (h hS)
  rw [htl, show n + (l.length - n) = l.length by omega] at this
  simpa using this
end
end Go.Proofs.Ytnpkanlieflbiaa
