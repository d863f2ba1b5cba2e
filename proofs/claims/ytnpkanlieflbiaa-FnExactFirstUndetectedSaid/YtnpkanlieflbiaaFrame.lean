/- What the frame of every law's proof wants: two closed facts of the program, and how arguments that came in are read. -/
import Derived.Test.YtnpkanlieflbiaaRows
import Derived.Test.YtnpkanlieflbiaaBase
import Derived.ProofKit
import Derived.OpenShut
import Derived.ShutString
import Derived.ChangeOld
import Derived.Deep.Matrix
namespace Go.Proofs.Ytnpkanlieflbiaa
open Go.ChangeShapes Go.WideShapes Go.ChangeAt Go.RowKit
set_option linter.unusedVariables false

theorem own : ownKnob Try.prog.godebug = none := by kernel_rfl
theorem laidOut : laidOutB Try.prog = true := by kernel_rfl

theorem add_at (x : Addr) (hx : x.spot = none) (i : Nat) : x.add i = ⟨x.block, x.off + i, none⟩ := by
  cases x; unfold Addr.add; split <;> simp_all

/-- A row of integers that came in, as it is read. -/
theorem rd_of_cells {k : IntKind} {α : Type} [Inhabited α] {f : α → Value} {W : World} {x : Addr} {len cap : Nat} {zs : List Int} (g : Int → α) (hf : ∀ n ∈ zs, f (g n) = .int k n) (hl : len ≤ cap) (hm : cap ≤ maxLen) (hz : zs.length = cap)
    (hcell : ∀ i, i < zs.length → W.cell? (x.add i) = some (.int k (zs.getD i 0))) : Rd (rleaf f) (· < W.heap.size) W (.slice (some x) len cap) ((zs.take len).map g) := by
  have hlen : ((zs.take len).map g).length = len := by simp; omega
  refine ⟨some x, cap, by rw [hlen], by rw [hlen]; exact hl, hm, fun i hi => ?_⟩
  rw [hlen] at hi
  have hs : x.spot = none := by simpa [Addr.add] using World.cell?_spot (hcell 0 (by omega))
  have hc := hcell i (by omega)
  rw [add_at x hs i] at hc
  have hi' : i < zs.length := by omega
  refine ⟨x.block, x.off, _, by cases x; simp_all, World.block_lt_of_cell? W ⟨x.block, x.off + i, none⟩ hc, hc, ?_⟩
  show Value.int k (zs.getD i 0) = f (nth ((zs.take len).map g) i)
  rw [nth_eq (by rw [hlen]; exact hi), List.getElem_map, List.getElem_take, hf _ (List.getElem_mem hi')]
  simp [List.getD, List.getElem?_eq_getElem hi']

theorem rd_ints {H : Type} {enc : TypeId × Value → H} {W : World} {a : Option Addr} {len cap : Nat} {d : DataW H} {p : List MemPlace}
    (k0 : DataW.Trod enc Try.prog W 0 (fun _ => true) true 22 (.slice a len cap) d p) : ∃ z, RdI (· < W.heap.size) W (.slice a len cap) z := by
  obtain ⟨fuel, hf⟩ := k0
  rcases open_ints Try.underlying22 Try.underlying2 (by kernel_rfl) hf with ⟨hcs, _⟩ | ⟨x, l, c, zs, hcs, _, hl, hm, hz, _, hcell, hwz⟩
  · simp [Value.cells] at hcs
    obtain ⟨rfl, rfl, rfl⟩ := hcs
    exact ⟨[], none, 0, rfl, by simp, by simp, fun i hi => absurd hi (by simp)⟩
  · simp [Value.cells] at hcs
    obtain ⟨rfl, rfl, rfl⟩ := hcs
    exact ⟨_, rd_of_cells (f := fI) id (fun n _ => rfl) hl hm (by simpa using hz) hcell⟩

theorem rd_bytes {H : Type} {enc : TypeId × Value → H} {W : World} {a : Option Addr} {len cap : Nat} {d : DataW H} {p : List MemPlace}
    (k0 : DataW.Trod enc Try.prog W 0 (fun _ => true) true 50 (.slice a len cap) d p) : ∃ z, Rd rY (· < W.heap.size) W (.slice a len cap) z := by
  obtain ⟨fuel, hf⟩ := k0
  rcases open_ints Try.underlying50 Try.underlying5 (by kernel_rfl) hf with ⟨hcs, _⟩ | ⟨x, l, c, zs, hcs, _, hl, hm, hz, _, hcell, hwz⟩
  · simp [Value.cells] at hcs
    obtain ⟨rfl, rfl, rfl⟩ := hcs
    exact ⟨[], none, 0, rfl, by simp, by simp, fun i hi => absurd hi (by simp)⟩
  · simp [Value.cells] at hcs
    obtain ⟨rfl, rfl, rfl⟩ := hcs
    refine ⟨_, rd_of_cells (f := fY) (fun n => UInt8.ofNat n.toNat) (fun n hn => ?_) hl hm (by simpa using hz) hcell⟩
    have hw := hwz n hn
    simp only [Lit.wf, Bool.and_eq_true, decide_eq_true_eq] at hw
    have h1 : IntKind.u8.min = 0 := rfl
    have h2 : IntKind.u8.max = 255 := rfl
    rw [h1, h2] at hw
    show Value.int .u8 ((UInt8.ofNat n.toNat).toNat : Int) = Value.int .u8 n
    rw [UInt8.toNat_ofNat']
    congr 1
    omega

/-- A slice that came in, of elements that each read as something. -/
theorem rd_open {H : Type} {enc : TypeId × Value → H} {W : World} {α : Type} [Inhabited α] {R : RRep α} {t e : TypeId} {fuel : Nat} {v : Value} {x : DataW H × List MemPlace}
    (ht : Try.prog.underlying t = some (.slice e)) (hc : Try.prog.cellsOf e = 1)
    (hE : ∀ (fuel : Nat) (u : Value) (y : DataW H × List MemPlace), DataW.trod enc Try.prog W 0 (fun _ => true) true fuel e [u] = some y → ∃ z, R (· < W.heap.size) W u z)
    (h : DataW.trod enc Try.prog W 0 (fun _ => true) true fuel t [v] = some x) : ∃ zs, Rd R (· < W.heap.size) W v zs := by
  rcases DataW.trod_slice ht h with ⟨hcs, _⟩ | ⟨a, len, cap, elems, rest, n, _, hcs, _, _, hl, hm, hel, hcell, _⟩
  · obtain rfl : v = .slice none 0 0 := by simpa using hcs
    exact ⟨[], none, 0, rfl, by simp, by simp, fun i hi => absurd hi (by simp)⟩
  · obtain rfl : v = .slice (some a) len cap := by simpa using hcs
    have each : ∀ i, i < len → ∃ z : α, ∃ u, W.cell? (a.add i) = some u ∧ R (· < W.heap.size) W u z := by
      intro i hi
      have h1 := hcell i hi
      rw [hc, Nat.mul_one, List.getElem?_eq_getElem (by omega)] at h1
      obtain ⟨cs', h2, h3⟩ := Option.bind_eq_some_iff.1 h1
      have h4 := (World.cells?_some h2).2.1
      obtain ⟨u, rfl⟩ : ∃ u, cs' = [u] := List.length_eq_one_iff.1 h4
      obtain ⟨z, hz⟩ := hE _ _ _ h3
      exact ⟨z, u, cell_of_cells?_one h2, hz⟩
    obtain ⟨f, hf⟩ := Go.Deep.choose_lt each
    have hlen : ((List.range len).map f).length = len := by simp
    refine ⟨(List.range len).map f, some a, cap, by rw [hlen], by rw [hlen]; exact hl, hm, fun i hi => ?_⟩
    rw [hlen] at hi
    obtain ⟨u, hu, hr⟩ := hf i hi
    obtain ⟨u0, hu0, _⟩ := hf 0 (by omega)
    have hs : a.spot = none := by simpa [Addr.add] using World.cell?_spot hu0
    rw [add_at a hs i] at hu
    refine ⟨a.block, a.off, u, by cases a; simp_all, World.block_lt_of_cell? W ⟨a.block, a.off + i, none⟩ hu, hu, ?_⟩
    rw [nth_eq (by rw [hlen]; exact hi)]
    simpa using hr
theorem rd_openI {H : Type} {enc : TypeId × Value → H} {W : World} {fuel : Nat} {u : Value} {x : DataW H × List MemPlace}
    (h : DataW.trod enc Try.prog W 0 (fun _ => true) true fuel 22 [u] = some x) : ∃ z, RdI (· < W.heap.size) W u z := by
  refine rd_open Try.underlying22 (by kernel_rfl) ?_ h
  intro fuel u y h
  obtain ⟨n, rfl⟩ : ∃ n, u = .int .i64 n := by
    cases fuel with
    | zero => simp [DataW.trod] at h
    | succ m =>
      unfold DataW.trod at h
      rw [Try.underlying2] at h
      split at h <;> simp_all
  exact ⟨n, rfl⟩
theorem rd_openII {H : Type} {enc : TypeId × Value → H} {W : World} {fuel : Nat} {u : Value} {x : DataW H × List MemPlace}
    (h : DataW.trod enc Try.prog W 0 (fun _ => true) true fuel 38 [u] = some x) : ∃ z, RdII (· < W.heap.size) W u z :=
  rd_open Try.underlying38 (by kernel_rfl) (fun _ _ _ h => rd_openI h) h
theorem rd_openIII {H : Type} {enc : TypeId × Value → H} {W : World} {fuel : Nat} {u : Value} {x : DataW H × List MemPlace}
    (h : DataW.trod enc Try.prog W 0 (fun _ => true) true fuel 26 [u] = some x) : ∃ z, RdIII (· < W.heap.size) W u z :=
  rd_open Try.underlying26 (by kernel_rfl) (fun _ _ _ h => rd_openII h) h
theorem rd_rows {H : Type} {enc : TypeId × Value → H} {W : World} {a : Option Addr} {len cap : Nat} {d : DataW H} {p : List MemPlace}
    (k0 : DataW.Trod enc Try.prog W 0 (fun _ => true) true 38 (.slice a len cap) d p) : ∃ z, RdII (· < W.heap.size) W (.slice a len cap) z := by
  obtain ⟨fuel, hf⟩ := k0
  exact rd_openII hf
end Go.Proofs.Ytnpkanlieflbiaa
