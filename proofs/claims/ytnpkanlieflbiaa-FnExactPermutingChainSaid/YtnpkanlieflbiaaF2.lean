/- append of one element inside a region that draws its order; blocks behind steps. -/
import Derived.Test.YtnpkanlieflbiaaS1
import Derived.Test.YtnpkanlieflbiaaF1
import Derived.Deep.RegionLaw
import Derived.StillTailTactics
namespace Go.Proofs.Ytnpkanlieflbiaa
open Go.RowKit
set_option linter.unusedVariables false

theorem step_push {P : Program} {ops : Array Oper} {o : Oper} {a : Act} {K : Act → World → Prop} {Q : Exit → Act → World → Prop} {Ep : Prop} (hgd : o.guard = none) (s x : Operand) (t : TypeId)
    (ho : o.op = .call { callee := .builtin .append, args := #[s, x], argTypes := #[t, t] }) {α : Type} [Inhabited α] {R : Rep α} (hR : R.Ok) {E : TypeId} (ht : P.underlying t = some (.slice E)) {z : Value} {bytes : Nat}
    (hinfo : (P.info? E).map (fun i => (i.zero, i.size, i.bytes)) = some (some z, 1, bytes)) (hz1 : z.cells.size = 1) (w : World) {W : World} {v : Value} {xs : List α} {S : List Nat} (hown : Own E R w v xs S)
    {u : Value} (y : α) (T : List Nat) (hu : R w u y T) (hd : ∀ k ∈ T, k ∉ S) (hlen : (xs.length + 1) * bytes ≤ 140737488355328) (hmax : xs.length + 1 ≤ maxLen)
    (hs : a.eval s = v) (hx : a.eval x = .slice (some ⟨w.heap.size, 0, none⟩) 1 1) (hW : W = w.alloc (.cells #[u] E))
    (h : ∀ v' w' S', Own E R w' v' (xs ++ [y]) S' → Only S w w' → (∀ k ∈ S', k ∈ S ∨ k ∈ T ∨ w.heap.size ≤ k) → K (a.put o.dst v') w') :
    if Region.wanted o (yielded ops a.tmps) = true then Oper.wp P o a W K Q else Ep := by
  have hw : Region.wanted o (yielded ops a.tmps) = true := by simp [Region.wanted, hgd]
  rw [if_pos hw]
  subst hW
  obtain ⟨v', w', S', hr, h1, h2, h3⟩ := run_push (P := P) hR (ty := o.type) ht hinfo hz1 hown hu hd hlen hmax
  unfold Oper.wp execOp
  simp only [ho, resolve, invoke, builtin, Sem.run_bind, Sem.run_pure, Result.andThen_ok, List.map_toArray, List.map_cons, List.map_nil, hs, hx, hr]
  exact h v' w' S' h1 h2 h3

theorem frozen_at {w : World} {b : Nat} {cs : Array Value} {t : TypeId} (h : w.heap[b]? = some (.cells cs t (0, 0))) (i : Nat) : w.frozen? ⟨b, i, none⟩ = false := frozen_of_row w b i cs t h
/-- A block beside S, behind a draw and a step that turned S alone. -/
theorem fp {wr w1 : World} {S : List Nat} (ho : Only S wr.drew w1) {k : Nat} {o : Obj} (hk : wr.heap[k]? = some o) (hkS : k ∉ S) : w1.heap[k]? = some o :=
  (ho.block k (Array.getElem?_eq_some_iff.1 hk).1 hkS).trans hk
theorem fset {w1 : World} {k b i : Nat} {o : Obj} (h : w1.heap[k]? = some o) (hne : k ≠ b) (v : Value) : (w1.setCell ⟨b, i, none⟩ v).heap[k]? = some o := (keep_set (p := ⟨b, i, none⟩) hne).trans h
theorem heap_lt {w : World} {k : Nat} {o : Obj} (h : w.heap[k]? = some o) : k < w.heap.size := (Array.getElem?_eq_some_iff.1 h).1
theorem al_size (w : World) (o : Obj) : (w.alloc o).heap.size = w.heap.size + 1 := by simp
/-- Three blocks, draws between. -/
theorem three (w : World) (A Z C : Obj) (m : Nat) : ((((w.alloc A).alloc Z).drewN m).alloc C).heap[w.heap.size]? = some A ∧ ((((w.alloc A).alloc Z).drewN m).alloc C).heap[w.heap.size + 1]? = some Z ∧ ((((w.alloc A).alloc Z).drewN m).alloc C).heap[w.heap.size + 1 + 1]? = some C ∧
    ((((w.alloc A).alloc Z).drewN m).alloc C).heap.size = w.heap.size + 3 ∧ Below w.heap.size w ((((w.alloc A).alloc Z).drewN m).alloc C) := by
  have s1 := al_size w A
  have s2 := al_size (w.alloc A) Z
  have s3 : (((w.alloc A).alloc Z).drewN m).heap.size = w.heap.size + 1 + 1 := by show ((w.alloc A).alloc Z).heap.size = _; omega
  have e1 := heap_alloc_new w A
  have e2 := heap_alloc_new (w.alloc A) Z
  have e3 := heap_alloc_new (((w.alloc A).alloc Z).drewN m) C
  rw [s1] at e2
  rw [s3] at e3
  refine ⟨?_, ?_, e3, by rw [al_size, s3], by repeat' (first | with_reducible exact Below.refl _ _ | with_reducible refine Below.alloc ?_ ?_ _ | with_reducible refine Below.setCell ?_ ?_ _ | with_reducible refine Below.drew ?_ | with_reducible refine Below.draws ?_ _ | omega | (simp; done) | (simp; omega))⟩
  · exact (Below.heap_alloc _ C _ (by omega)).trans ((Below.heap_alloc (w.alloc A) Z _ (by omega)).trans e1)
  · exact (Below.heap_alloc _ C _ (by omega)).trans e2
end Go.Proofs.Ytnpkanlieflbiaa
