/- Laws of the walk over lists in memory. Nothing here speaks of the program. -/
import Derived.Test.YtdfgfddkfbglfaaBase
namespace Go.Proofs.Ytdfgfddkfbglfaa
open Go.RowKit
set_option linter.unusedVariables false

theorem foldl_push (l : List UInt8) : ∀ (r : ByteArray), ((l.map fun c => (c.toNat : Int)).foldl (fun r n => r.push (UInt8.ofNat n.toNat)) r) = ⟨(r.data.toList ++ l).toArray⟩ := by
  induction l with
  | nil => intro r; simp
  | cons c l ih =>
    intro r
    simp only [List.map_cons, List.foldl_cons, ih]
    simp [ByteArray.push]

theorem run_str {P : Program} {w : World} {src dst e : TypeId} (hs : P.underlying src = some (.slice e)) (he : P.underlying e = some (.int .u8)) (hd : P.underlying dst = some .string)
    {Pb : Nat → Prop} {v : Value} {l : List UInt8} (hv : Rd rY Pb w v l) : (convert src dst v).run P w = .ok (.string ⟨l.toArray⟩) w := by
  obtain ⟨a, c, rfl, h1, h2, h⟩ := hv
  rw [run_convert_bytes_string w src dst e a _ _ hs he hd]
  rcases Nat.eq_zero_or_pos l.length with h0 | h0
  · have : l = [] := List.eq_nil_of_length_eq_zero h0
    subst this
    cases a with
    | none => simp [Conv.bytesToString]; rfl
    | some a => simp [Conv.bytesToString, loadCells, loadCellsFrom]; rfl
  · obtain ⟨b, o, u, rfl, _⟩ := h 0 h0
    have hc := run_loadCells_list (P := P) w ⟨b, o, none⟩ ((l.map fun c => (c.toNat : Int)).map (Value.int .u8)) (by
      intro j u hj
      have hlt : j < l.length := by
        rcases Nat.lt_or_ge j l.length with h | h
        · exact h
        · rw [List.getElem?_eq_none (by simpa using h)] at hj; cases hj
      obtain ⟨b', o', u', e1, _, e2, e3⟩ := h j hlt
      simp only [Option.some.injEq, Addr.mk.injEq, and_true] at e1
      obtain ⟨rfl, rfl⟩ := e1
      have ea : (⟨b, o, none⟩ : Addr).add j = ⟨b, o + j, none⟩ := by unfold Addr.add; split <;> simp_all
      rw [ea, e2]
      simp only [List.getElem?_map, List.getElem?_eq_getElem hlt, Option.map_some, Option.some.injEq] at hj
      rw [← hj, e3, nth_eq hlt])
    simp only [List.length_map] at hc
    rw [run_bytesToString w ⟨b, o, none⟩ l.length c _ hc, foldl_push]
    rfl

theorem wpList_str {P : Program} {w : World} {ops : Array Oper} {rest : List Oper} {o : Oper} {a : Act} {Q : Exit → Act → World → Prop} (hgd : o.guard = none) (x : Operand) (src dst e : TypeId) (ho : o.op = .convert src dst x)
    (hs : P.underlying src = some (.slice e)) (he : P.underlying e = some (.int .u8)) (hd : P.underlying dst = some .string)
    {Pb : Nat → Prop} {v : Value} {l : List UInt8} (hx : a.eval x = v) (hv : Rd rY Pb w v l)
    (h : wpList P ops Q rest (a.put o.dst (.string ⟨l.toArray⟩)) w) : wpList P ops Q (o :: rest) a w := by
  refine wpList_plain hgd fun _ hK => ?_
  unfold Oper.wp execOp
  simp only [ho, hx, Sem.run_bind, Sem.run_pure, Result.andThen_ok, run_str hs he hd hv]
  exact hK _ _ h

theorem rd_one {w : World} {E : TypeId} {c : UInt8} : Rd rY (fun _ => True) (w.alloc (.cells #[.int .u8 (c.toNat : Int)] E)) (.slice (some ⟨w.heap.size, 0, none⟩) 1 1) [c] := by
  refine ⟨_, _, rfl, by simp, by simp [maxLen], fun i hi => ?_⟩
  have : i = 0 := by simpa using hi
  subst this
  exact ⟨w.heap.size, 0, .int .u8 (c.toNat : Int), rfl, trivial, by simp, rfl⟩

end Go.Proofs.Ytdfgfddkfbglfaa
