/- How structs that came in are read. -/
import Derived.Test.YtnpkanlieflbiaaFrame
import Derived.Test.YtnpkanlieflbiaaS0
import Derived.Lib.SmallJoins
import Derived.Deep.Fields
namespace Go.Proofs.Ytnpkanlieflbiaa
open Go.Joins Go.ChangeShapes Go.WideShapes Go.ChangeAt Go.RowKit Go.Deep
set_option linter.unusedVariables false
set_option maxRecDepth 100000

theorem rd_openInt {H : Type} {enc : TypeId × Value → H} {W : World} {fuel : Nat} {u : Value} {x : DataW H × List MemPlace}
    (h : DataW.trod enc Try.prog W 0 (fun _ => true) true fuel 2 [u] = some x) : ∃ n : Int, u = .int .i64 n := by
  cases fuel with
  | zero => simp [DataW.trod] at h
  | succ m =>
    unfold DataW.trod at h
    rw [Try.underlying2] at h
    split at h <;> simp_all
theorem rd_Weighting {H : Type} {enc : TypeId × Value → H} {W : World} {r : Reach} {b0 : Nat} {v : Value} {d : DataW H} {p : List MemPlace} (hv : Value.okWide Try.prog W r b0 24 v)
    (k0 : DataW.Trod enc Try.prog W 0 (fun _ => true) true 24 v d p) : ∃ z, RdW (· < W.heap.size) W v z := by
  obtain ⟨v0, v1, v2, v3, y0, y1, y2, y3, n, rfl, _, _, t0, t1, t2, t3⟩ := open_agg4 Try.underlying24 (by kernel_rfl) (by kernel_rfl) hv k0
  obtain ⟨n0, rfl⟩ := rd_openInt t0
  obtain ⟨n1, rfl⟩ := rd_openInt t1
  obtain ⟨n2, rfl⟩ := rd_openInt t2
  obtain ⟨z, hz⟩ := rd_openI t3
  exact ⟨⟨n0, n1, n2, z⟩, v3, rfl, hz⟩
theorem rd_Permuting {H : Type} {enc : TypeId × Value → H} {W : World} {r : Reach} {b0 : Nat} {v : Value} {d : DataW H} {p : List MemPlace} (hv : Value.okWide Try.prog W r b0 40 v)
    (k0 : DataW.Trod enc Try.prog W 0 (fun _ => true) true 40 v d p) : ∃ z, RdP (· < W.heap.size) W v z := by
  obtain ⟨v0, v1, v2, y0, y1, y2, n, rfl, _, _, t0, t1, t2⟩ := open_agg3 Try.underlying40 (by kernel_rfl) (by kernel_rfl) hv k0
  obtain ⟨n0, rfl⟩ := rd_openInt t0
  obtain ⟨n1, rfl⟩ := rd_openInt t1
  obtain ⟨z, hz⟩ := rd_openII t2
  exact ⟨⟨n0, n1, z⟩, v2, rfl, hz⟩

section
variable {H : Type} {enc : TypeId × Value → H} {P : Program} {w : World} {base : Nat} {spare : Nat → Bool} {held : Bool}
/-- A struct of six fields of one cell each, by value. -/
theorem open_six {r : Reach} {b0 : Nat} {t : TypeId} {f0 f1 f2 f3 f4 f5 : Field} {v : Value} {d : DataW H} {p : List MemPlace} (hs : P.underlying t = some (.struct #[f0, f1, f2, f3, f4, f5])) (hone : oneCellFields P #[f0, f1, f2, f3, f4, f5] = true) (hC : P.cellsOf t = 6)
    (hv : Value.okWide P w r b0 t v) (h : DataW.Trod enc P w base spare held t v d p) :
    ∃ (v0 v1 v2 v3 v4 v5 : Value) (y0 y1 y2 y3 y4 y5 : DataW H × List MemPlace) (n : Nat), v = .agg #[v0, v1, v2, v3, v4, v5] ∧
      DataW.trod enc P w base spare held n f0.type [v0] = some y0 ∧ DataW.trod enc P w base spare held n f1.type [v1] = some y1 ∧ DataW.trod enc P w base spare held n f2.type [v2] = some y2 ∧ DataW.trod enc P w base spare held n f3.type [v3] = some y3 ∧ DataW.trod enc P w base spare held n f4.type [v4] = some y4 ∧ DataW.trod enc P w base spare held n f5.type [v5] = some y5 := by
  obtain ⟨cs, rfl, hsz⟩ := okWide_struct hs hv
  obtain ⟨l⟩ := cs
  match l, hsz.trans hC with
  | [c0, c1, c2, c3, c4, c5], _ =>
    obtain ⟨fuel, hf⟩ := h
    obtain ⟨xs, n, _, hx, _, hlen, hg⟩ := DataW.trod_struct hs hf
    obtain ⟨o0, k0⟩ := hone_of hone 0 f0 rfl
    obtain ⟨o1, k1⟩ := hone_of hone 1 f1 rfl
    obtain ⟨o2, k2⟩ := hone_of hone 2 f2 rfl
    obtain ⟨o3, k3⟩ := hone_of hone 3 f3 rfl
    obtain ⟨o4, k4⟩ := hone_of hone 4 f4 rfl
    obtain ⟨o5, k5⟩ := hone_of hone 5 f5 rfl
    match xs, hlen with
    | [y0, y1, y2, y3, y4, y5], _ =>
      exact ⟨c0, c1, c2, c3, c4, c5, y0, y1, y2, y3, y4, y5, n, rfl, by simpa [Value.cells, o0, k0] using hg 0 f0 rfl, by simpa [Value.cells, o1, k1] using hg 1 f1 rfl, by simpa [Value.cells, o2, k2] using hg 2 f2 rfl, by simpa [Value.cells, o3, k3] using hg 3 f3 rfl, by simpa [Value.cells, o4, k4] using hg 4 f4 rfl, by simpa [Value.cells, o5, k5] using hg 5 f5 rfl⟩
end
theorem rd_Chain {H : Type} {enc : TypeId × Value → H} {W : World} {r : Reach} {b0 : Nat} {v : Value} {d : DataW H} {p : List MemPlace} (hv : Value.okWide Try.prog W r b0 68 v)
    (k0 : DataW.Trod enc Try.prog W 0 (fun _ => true) true 68 v d p) : ∃ z, RdC (· < W.heap.size) W v z := by
  obtain ⟨v0, v1, v2, v3, v4, v5, y0, y1, y2, y3, y4, y5, n, rfl, t0, t1, t2, t3, t4, t5⟩ := open_six Try.underlying68 (by kernel_rfl) (by kernel_rfl) hv k0
  obtain ⟨n0, rfl⟩ := rd_openInt t0
  obtain ⟨n1, rfl⟩ := rd_openInt t1
  obtain ⟨n2, rfl⟩ := rd_openInt t2
  obtain ⟨n3, rfl⟩ := rd_openInt t3
  obtain ⟨z, hz⟩ := rd_openIII t4
  obtain ⟨z', hz'⟩ := rd_openI t5
  exact ⟨⟨n0, n1, n2, n3, z, z'⟩, v4, v5, rfl, hz, hz'⟩
end Go.Proofs.Ytnpkanlieflbiaa
