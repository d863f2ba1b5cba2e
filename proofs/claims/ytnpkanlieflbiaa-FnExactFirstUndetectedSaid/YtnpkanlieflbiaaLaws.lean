/- Laws of the walk over lists in memory. Nothing here speaks of the program. -/
import Derived.Test.YtnpkanlieflbiaaBase
import Derived.Maps.AppendAt
namespace Go.Proofs.Ytnpkanlieflbiaa
open Go.RowKit
set_option linter.unusedVariables false

theorem foldl_push (l : List UInt8) : ∀ (r : ByteArray), ((l.map fun c => (c.toNat : Int)).foldl (fun r n => r.push (UInt8.ofNat n.toNat)) r) = ⟨(r.data.toList ++ l).toArray⟩ := by
  induction l with
  | nil => intro r; simp
  | cons c l ih =>
    intro r
    simp only [List.map_cons, List.foldl_cons, ih]
    simp [ByteArray.push]

theorem run_str {P : Program} {w : World} {src dst e : TypeId} (hs : P.underlying src = some (.slice e)) (he : P.underlying e = some (.int .u8)) (hd : P.underlying dst = some .string)
    {Pb : Nat → Prop} {v : Value} {l : List UInt8} (hv : Rd rY Pb w v l) : (convert src dst v).run P w = .ok (.string ⟨l.toArray⟩) w := by
  obtain ⟨a, c, rfl, h1, h2, h⟩ := hv
  rw [run_convert_bytes_string w src dst e a _ _ hs he hd]
  rcases Nat.eq_zero_or_pos l.length with h0 | h0
  · have : l = [] := List.eq_nil_of_length_eq_zero h0
    subst this
    cases a with
    | none => simp [Conv.bytesToString]; rfl
    | some a => simp [Conv.bytesToString, loadCells, loadCellsFrom]; rfl
  · obtain ⟨b, o, u, rfl, _⟩ := h 0 h0
    have hc := run_loadCells_list (P := P) w ⟨b, o, none⟩ ((l.map fun c => (c.toNat : Int)).map (Value.int .u8)) (by
      intro j u hj
      have hlt : j < l.length := by
        rcases Nat.lt_or_ge j l.length with h | h
        · exact h
        · rw [List.getElem?_eq_none (by simpa using h)] at hj; cases hj
      obtain ⟨b', o', u', e1, _, e2, e3⟩ := h j hlt
      simp only [Option.some.injEq, Addr.mk.injEq, and_true] at e1
      obtain ⟨rfl, rfl⟩ := e1
      have ea : (⟨b, o, none⟩ : Addr).add j = ⟨b, o + j, none⟩ := by unfold Addr.add; split <;> simp_all
      rw [ea, e2]
      simp only [List.getElem?_map, List.getElem?_eq_getElem hlt, Option.map_some, Option.some.injEq] at hj
      rw [← hj, e3, nth_eq hlt])
    simp only [List.length_map] at hc
    rw [run_bytesToString w ⟨b, o, none⟩ l.length c _ hc, foldl_push]
    rfl

theorem wpList_str {P : Program} {w : World} {ops : Array Oper} {rest : List Oper} {o : Oper} {a : Act} {Q : Exit → Act → World → Prop} (hgd : o.guard = none) (x : Operand) (src dst e : TypeId) (ho : o.op = .convert src dst x)
    (hs : P.underlying src = some (.slice e)) (he : P.underlying e = some (.int .u8)) (hd : P.underlying dst = some .string)
    {Pb : Nat → Prop} {v : Value} {l : List UInt8} (hx : a.eval x = v) (hv : Rd rY Pb w v l)
    (h : wpList P ops Q rest (a.put o.dst (.string ⟨l.toArray⟩)) w) : wpList P ops Q (o :: rest) a w := by
  refine wpList_plain hgd fun _ hK => ?_
  unfold Oper.wp execOp
  simp only [ho, hx, Sem.run_bind, Sem.run_pure, Result.andThen_ok, run_str hs he hd hv]
  exact hK _ _ h

theorem rd_one {w : World} {E : TypeId} {c : UInt8} : Rd rY (fun _ => True) (w.alloc (.cells #[.int .u8 (c.toNat : Int)] E)) (.slice (some ⟨w.heap.size, 0, none⟩) 1 1) [c] := by
  refine ⟨_, _, rfl, by simp, by simp [maxLen], fun i hi => ?_⟩
  have : i = 0 := by simpa using hi
  subst this
  exact ⟨w.heap.size, 0, .int .u8 (c.toNat : Int), rfl, trivial, by simp, rfl⟩

theorem Own.info {P : Program} {E : TypeId} {z : Value} {bytes : Nat} (h : (P.info? E).map (fun i => (i.zero, i.size, i.bytes)) = some (some z, 1, bytes)) :
    ∃ i, P.info? E = some i ∧ i.zero = some z ∧ i.size = 1 ∧ i.bytes = bytes := by
  obtain ⟨i, hi, hzz⟩ := Option.map_eq_some_iff.1 h
  simp only [Prod.mk.injEq] at hzz
  exact ⟨i, hi, hzz.1, hzz.2.1, hzz.2.2⟩

theorem nth_snoc {α : Type} [Inhabited α] {xs : List α} {y : α} {i : Nat} (h : i < xs.length + 1) : nth (xs ++ [y]) i = if i < xs.length then nth xs i else y := by
  split
  · rename_i h'; exact nth_append_left h'
  · have : i = xs.length := by omega
    subst this; exact nth_append_last xs y

/-- append of one element, onto a slice that is owned: what comes of it. -/
theorem run_push {P : Program} {w : World} {α : Type} [Inhabited α] {R : Rep α} (hR : R.Ok) {t ty E : TypeId} (ht : P.underlying t = some (.slice E)) {z : Value} {bytes : Nat}
    (hinfo : (P.info? E).map (fun i => (i.zero, i.size, i.bytes)) = some (some z, 1, bytes)) (hz1 : z.cells.size = 1) {v : Value} {xs : List α} {S : List Nat} (hown : Own E R w v xs S)
    {u : Value} {y : α} {T : List Nat} (hu : R w u y T) (hd : ∀ k ∈ T, k ∉ S) (hlen : (xs.length + 1) * bytes ≤ 140737488355328) (hmax : xs.length + 1 ≤ maxLen) :
    ∃ v' w' S', (Builtin.append_ #[t, t] ty #[v, .slice (some ⟨w.heap.size, 0, none⟩) 1 1]).run P (w.alloc (.cells #[u] E)) = .ok v' w' ∧ Own E R w' v' (xs ++ [y]) S' ∧ Only S w w' ∧ (∀ k ∈ S', k ∈ S ∨ k ∈ T ∨ w.heap.size ≤ k) := by
  obtain ⟨i, hi, hz, hsz, hby⟩ := Own.info hinfo
  have hT : ∀ k ∈ T, k < w.heap.size := hR.lt hu
  have hTn : T.Nodup := hR.nodup hu
  have hl1 : [u].length = 1 * i.size := by simp [hsz]
  have hmax' := hmax
  unfold maxLen at hmax'
  have hnews : ∀ j u', [u][j]? = some u' → (w.alloc (.cells #[u] E)).cell? ((⟨w.heap.size, 0, none⟩ : Addr).add j) = some u' := by
    intro j u' hj
    match j, hj with
    | 0, hj => simp at hj; subst hj; simp [Addr.add]
  have hW : (w.alloc (.cells #[u] E)).heap.size = w.heap.size + 1 := by simp
  have hold : ∀ (o : Obj) k, k < w.heap.size → ((w.alloc (.cells #[u] E)).drew.alloc o).heap[k]? = w.heap[k]? := fun o k hk =>
    (Below.heap_alloc (w.alloc (.cells #[u] E)).drew o k (by show k < (w.alloc _).heap.size; rw [hW]; omega)).trans (Below.heap_alloc w _ k hk)
  rcases hown with ⟨rfl, rfl, rfl⟩ | ⟨g, cap, cur, Ss, rfl, hh, h1, h2, h3, hS, hN, hl, he⟩
  · have hr := run_append_nil (P := P) (w.alloc (.cells #[u] E)) t ty E i z ht hi hz ⟨w.heap.size, 0, none⟩ 1 1 [u] hl1 hnews (by omega) (by simp) (by rw [hby]; simp at hlen; omega)
    have hge := grownCap_ge (w.alloc (.cells #[u] E)) 1 0 E
    have hcm := grownCap_le_maxLen (w.alloc (.cells #[u] E)) 1 0 E (by unfold maxLen; omega)
    generalize hc : grownCap (w.alloc (.cells #[u] E)) 1 0 E = C at hr hge hcm
    refine ⟨_, _, (w.heap.size + 1) :: T, hr, .inr ⟨w.heap.size + 1, C, [u].toArray ++ Builtin.zeroCells z.cells (C - 1), [T], by simp [hW], ?_, ?_, by simpa using hge, hcm, by simp, ?_, by simp, ?_⟩, ⟨rfl, rfl, rfl, by simp; omega, fun k hk _ => hold _ k hk⟩, ?_⟩
    · have := heap_alloc_new (w.alloc (.cells #[u] E)).drew (.cells ([u].toArray ++ Builtin.zeroCells z.cells (C - 1)) E)
      rwa [show (w.alloc (.cells #[u] E)).drew.heap.size = w.heap.size + 1 from hW] at this
    · simp only [Array.size_append, List.size_toArray, size_zeroCells, hz1, List.length_singleton]; omega
    · exact List.nodup_cons.2 ⟨fun hm => by have := hT _ hm; omega, hTn⟩
    · intro j hj
      obtain rfl : j = 0 := by simpa using hj
      exact ⟨u, by rw [Array.getElem?_append_left (by simp)]; rfl, hR.keep hu fun k hk => hold _ k (hT k hk)⟩
    · intro k hk
      rcases List.mem_cons.1 hk with rfl | hk
      · exact .inr (.inr (by omega))
      · exact .inr (.inl hk)
  · have hSs : ∀ j, j < xs.length → ∀ k ∈ nth Ss j, k < w.heap.size ∧ k ≠ g ∧ k ∈ S := fun j hj k hk => by
      obtain ⟨u', _, hr⟩ := he j hj
      have hm := mem_flatten_nth (by omega) hk
      refine ⟨hR.lt hr k hk, fun e => ?_, by rw [hS]; exact List.mem_cons_of_mem _ hm⟩
      rw [hS] at hN
      exact (List.nodup_cons.1 hN).1 (e ▸ hm)
    have hgl : g < w.heap.size := (Array.getElem?_eq_some_iff.1 hh).1
    have hflat : (Ss ++ [T]).flatten = Ss.flatten ++ T := by simp
    have hFn : (Ss.flatten ++ T).Nodup := by
      rw [hS] at hN hd
      exact List.nodup_append.2 ⟨(List.nodup_cons.1 hN).2, hTn, fun a ha b hb e => hd b hb (e ▸ List.mem_cons_of_mem _ ha)⟩
    have hFl : ∀ k ∈ Ss.flatten ++ T, k < w.heap.size ∧ k ≠ g ∧ (k ∈ S ∨ k ∈ T) := by
      intro k hk
      rcases List.mem_append.1 hk with hk | hk
      · obtain ⟨L, hL, hk⟩ := List.mem_flatten.1 hk
        obtain ⟨j, hj, rfl⟩ := List.mem_iff_getElem.1 hL
        rw [← nth_eq hj] at hk
        have := hSs j (by omega) k hk
        exact ⟨this.1, this.2.1, .inl this.2.2⟩
      · exact ⟨hT k hk, fun e => hd k hk (by rw [hS, e]; simp), .inr hk⟩
    by_cases hroom : xs.length + 1 ≤ cap
    · have hgW : (w.alloc (.cells #[u] E)).heap[g]? = some (.cells cur E (0, 0)) := (Below.heap_alloc w _ g hgl).trans hh
      have hr := run_append_room (P := P) (w := w.alloc (.cells #[u] E)) t ty E i ht hi g xs.length cap cur hgW ⟨w.heap.size, 0, none⟩ 1 1 [u] hl1 hnews (by simpa using hR.one hu) hroom (by rw [hsz]; simp; omega)
      rw [hsz] at hr
      simp only [Nat.mul_one, List.length_singleton] at hr
      have hkeep : ∀ k, k < w.heap.size → k ≠ g → ((w.alloc (.cells #[u] E)).setRow g (cur.toList.take xs.length ++ [u] ++ cur.toList.drop (xs.length + 1)).toArray).heap[k]? = w.heap[k]? := fun k hk hkg =>
        (setRow_other _ g k _ hkg).trans (Below.heap_alloc w _ k hk)
      refine ⟨_, _, g :: (Ss.flatten ++ T), hr, .inr ⟨g, cap, (cur.toList.take xs.length ++ [u] ++ cur.toList.drop (xs.length + 1)).toArray, Ss ++ [T], by simp, setRow_heap _ g cur _ E _ hgW, ?_, by simpa using hroom, h3, by rw [hflat], ?_, by simp [hl], ?_⟩, ⟨rfl, rfl, rfl, by simp, fun k hk hkS => hkeep k hk (fun e => hkS (by rw [hS, e]; simp))⟩, ?_⟩
      · simp only [List.size_toArray, List.length_append, List.length_take, List.length_drop, Array.length_toList, List.length_singleton]; omega
      · exact List.nodup_cons.2 ⟨fun hm => (hFl g hm).2.1 rfl, hFn⟩
      · intro j hj
        have hj' : j < xs.length + 1 := by simpa using hj
        rw [nth_snoc hj', nth_snoc (by omega), hl]
        by_cases hjl : j < xs.length
        · obtain ⟨u', hu', hr'⟩ := he j hjl
          rw [if_pos hjl, if_pos hjl]
          refine ⟨u', ?_, hR.keep hr' fun k hk => hkeep k (hSs j hjl k hk).1 (hSs j hjl k hk).2.1⟩
          rw [List.getElem?_toArray, List.append_assoc, List.getElem?_append_left (by simp; omega), List.getElem?_take, if_pos hjl]
          simpa using hu'
        · obtain rfl : j = xs.length := by omega
          rw [if_neg (by omega), if_neg (by omega)]
          refine ⟨u, ?_, hR.keep hu fun k hk => hkeep k (hT k hk) (fun e => hd k hk (by rw [hS, e]; simp))⟩
          rw [List.getElem?_toArray, List.append_assoc, List.getElem?_append_right (by simp; omega), List.length_take]
          have : min xs.length cur.toList.length = xs.length := by simp; omega
          rw [this]; simp
      · intro k hk
        rcases List.mem_cons.1 hk with rfl | hk
        · exact .inl (by rw [hS]; simp)
        · rcases (hFl k hk).2.2 with h | h
          · exact .inl h
          · exact .inr (.inl h)
    · have hle : ((cur.toList.take xs.length)).length = xs.length := by simp; omega
      have holds : ∀ j u', (cur.toList.take xs.length)[j]? = some u' → (w.alloc (.cells #[u] E)).cell? ((⟨g, 0, none⟩ : Addr).add j) = some u' := by
        intro j u' hj
        have ea : (⟨g, 0, none⟩ : Addr).add j = ⟨g, j, none⟩ := by unfold Addr.add; split <;> simp_all
        rw [ea, World.cell?_alloc_past _ _ _ hgl, cell_of_row w g j cur E (0, 0) hh]
        rw [List.getElem?_take] at hj
        split at hj
        · simpa using hj
        · cases hj
      have hr := run_append_grow (P := P) (w.alloc (.cells #[u] E)) t ty E i z ht hi hz ⟨g, 0, none⟩ xs.length cap (cur.toList.take xs.length) (by rw [hle, hsz]; simp) holds ⟨w.heap.size, 0, none⟩ 1 1 [u] hl1 hnews (by omega) (by omega) (growslice_fits (by omega) (by rw [hby]; exact hlen))
      have hge := grownCap_ge (w.alloc (.cells #[u] E)) (xs.length + 1) cap E
      have hcm := grownCap_le_maxLen (w.alloc (.cells #[u] E)) (xs.length + 1) cap E hmax
      generalize hc : grownCap (w.alloc (.cells #[u] E)) (xs.length + 1) cap E = C at hr hge hcm
      refine ⟨_, _, (w.heap.size + 1) :: (Ss.flatten ++ T), hr, .inr ⟨w.heap.size + 1, C, (cur.toList.take xs.length).toArray ++ [u].toArray ++ Builtin.zeroCells z.cells (C - (xs.length + 1)), Ss ++ [T], by simp [hW], ?_, ?_, by simpa using hge, hcm, by rw [hflat], ?_, by simp [hl], ?_⟩, ⟨rfl, rfl, rfl, by simp; omega, fun k hk _ => hold _ k hk⟩, ?_⟩
      · have := heap_alloc_new (w.alloc (.cells #[u] E)).drew (.cells ((cur.toList.take xs.length).toArray ++ [u].toArray ++ Builtin.zeroCells z.cells (C - (xs.length + 1))) E)
        rwa [show (w.alloc (.cells #[u] E)).drew.heap.size = w.heap.size + 1 from hW] at this
      · simp only [Array.size_append, List.size_toArray, size_zeroCells, hz1, List.length_singleton, hle]; omega
      · exact List.nodup_cons.2 ⟨fun hm => by have := (hFl _ hm).1; omega, hFn⟩
      · intro j hj
        have hj' : j < xs.length + 1 := by simpa using hj
        rw [nth_snoc hj', nth_snoc (by omega), hl]
        by_cases hjl : j < xs.length
        · obtain ⟨u', hu', hr'⟩ := he j hjl
          rw [if_pos hjl, if_pos hjl]
          refine ⟨u', ?_, hR.keep hr' fun k hk => hold _ k (hSs j hjl k hk).1⟩
          rw [Array.getElem?_append_left (by simp; omega), Array.getElem?_append_left (by simp; omega), List.getElem?_toArray, List.getElem?_take, if_pos hjl]
          simpa using hu'
        · obtain rfl : j = xs.length := by omega
          rw [if_neg (by omega), if_neg (by omega)]
          refine ⟨u, ?_, hR.keep hu fun k hk => hold _ k (hT k hk)⟩
          rw [Array.getElem?_append_left (by simp; omega), Array.getElem?_append_right (by simp; omega)]
          have : min xs.length cur.size = xs.length := by omega
          simp [this]
      · intro k hk
        rcases List.mem_cons.1 hk with rfl | hk
        · exact .inr (.inr (by omega))
        · rcases (hFl k hk).2.2 with h | h
          · exact .inl h
          · exact .inr (.inl h)

/-- 'out = append(out, y)' in a walk: behind it 'intro v1 w1 S1 hown1 honly1 hS1'. -/
theorem wpList_push {P : Program} {w : World} {ops : Array Oper} {rest : List Oper} {o : Oper} {a : Act} {Q : Exit → Act → World → Prop} (hgd : o.guard = none) (s x : Operand) (t : TypeId)
    (ho : o.op = .call { callee := .builtin .append, args := #[s, x], argTypes := #[t, t] }) {α : Type} [Inhabited α] {R : Rep α} (hR : R.Ok) {E : TypeId} (ht : P.underlying t = some (.slice E)) {z : Value} {bytes : Nat}
    (hinfo : (P.info? E).map (fun i => (i.zero, i.size, i.bytes)) = some (some z, 1, bytes)) (hz1 : z.cells.size = 1) {v : Value} {xs : List α} {S : List Nat} (hown : Own E R w v xs S)
    {u : Value} {y : α} {T : List Nat} (hu : R w u y T) (hd : ∀ k ∈ T, k ∉ S) (hlen : (xs.length + 1) * bytes ≤ 140737488355328) (hmax : xs.length + 1 ≤ maxLen)
    (hs : a.eval s = v) (hx : a.eval x = .slice (some ⟨w.heap.size, 0, none⟩) 1 1)
    (h : ∀ v' w' S', Own E R w' v' (xs ++ [y]) S' → Only S w w' → (∀ k ∈ S', k ∈ S ∨ k ∈ T ∨ w.heap.size ≤ k) → wpList P ops Q rest (a.put o.dst v') w') : wpList P ops Q (o :: rest) a (w.alloc (.cells #[u] E)) := by
  obtain ⟨v', w', S', hr, h1, h2, h3⟩ := run_push (P := P) hR (ty := o.type) ht hinfo hz1 hown hu hd hlen hmax
  refine wpList_plain hgd fun _ hK => ?_
  unfold Oper.wp execOp
  simp only [ho, resolve, invoke, builtin, Sem.run_bind, Sem.run_pure, Result.andThen_ok, List.map_toArray, List.map_cons, List.map_nil, hs, hx, hr]
  exact hK _ _ (h v' w' S' h1 h2 h3)

/-- Made since the world w0, and nothing that was there then has turned. -/
def Fresh {α : Type} (R : Rep α) (w0 w : World) (v : Value) (x : α) : Prop := ∃ S, R w v x S ∧ (∀ k ∈ S, w0.heap.size ≤ k) ∧ Below w0.heap.size w0 w

theorem Fresh.bel {α : Type} {R : Rep α} {w0 w : World} {v : Value} {x : α} (h : Fresh R w0 w v x) : Below w0.heap.size w0 w := h.choose_spec.2.2
theorem Fresh.of {α : Type} {R : Rep α} {w0 w : World} {v : Value} {x : α} {S : List Nat} (h : R w v x S) (h1 : ∀ k ∈ S, w0.heap.size ≤ k) (h2 : Below w0.heap.size w0 w) : Fresh R w0 w v x := ⟨S, h, h1, h2⟩
theorem Fresh.nil {α : Type} [Inhabited α] {E : TypeId} {R : Rep α} {w0 w : World} (h : Below w0.heap.size w0 w) : Fresh (Own E R) w0 w (.slice none 0 0) [] := ⟨[], .inl ⟨rfl, rfl, rfl⟩, by simp, h⟩
/-- An empty literal. -/
theorem Fresh.empty {α : Type} [Inhabited α] {E : TypeId} {R : Rep α} {w0 w : World} (h : Below w0.heap.size w0 w) : Fresh (Own E R) w0 (w.alloc (.cells #[] E)) (.slice (some ⟨w.heap.size, 0, none⟩) 0 0) [] :=
  ⟨[w.heap.size], .inr ⟨w.heap.size, 0, #[], [], rfl, heap_alloc_new w _, rfl, by simp, by simp, by simp, by simp, by simp, fun i hi => absurd hi (by simp)⟩, by simpa using h.size, h.alloc h.size _⟩
/-- The same, seen from an earlier world. -/
theorem Fresh.back {α : Type} {R : Rep α} {w0 w1 w : World} {v : Value} {x : α} (h : Fresh R w1 w v x) (h0 : Below w0.heap.size w0 w1) : Fresh R w0 w v x :=
  ⟨h.choose, h.choose_spec.1, fun k hk => Nat.le_trans h0.size (h.choose_spec.2.1 k hk), h0.trans (h.choose_spec.2.2.mono h0.size)⟩
/-- It stays while only what is newer turns. -/
theorem Fresh.stay {α : Type} {R : Rep α} (hR : R.Ok) {w0 w w' : World} {v : Value} {x : α} (h : Fresh R w0 w v x) (hb : Below w.heap.size w w') : Fresh R w0 w' v x :=
  ⟨h.choose, hR.keep h.choose_spec.1 fun k hk => hb.block k (hR.lt h.choose_spec.1 k hk), h.choose_spec.2.1, h.choose_spec.2.2.trans (hb.mono h.choose_spec.2.2.size)⟩
theorem Fresh.rd {α : Type} {R : Rep α} {Q : RRep α} (hL : Leads R Q) (hR : R.Ok) {w0 w : World} {v : Value} {x : α} (h : Fresh R w0 w v x) : Q (· < w.heap.size) w v x :=
  hL.to _ _ _ _ _ h.choose_spec.1 (hR.lt h.choose_spec.1)

/-- 'out = append(out, y)' in a walk, y of one cell that leads nowhere: behind it 'intro v1 w1 hf1'. -/
theorem wpList_pushF {P : Program} {w0 w : World} {ops : Array Oper} {rest : List Oper} {o : Oper} {a : Act} {Q : Exit → Act → World → Prop} (hgd : o.guard = none) (s x : Operand) (t : TypeId)
    (ho : o.op = .call { callee := .builtin .append, args := #[s, x], argTypes := #[t, t] }) {α : Type} [Inhabited α] {f : α → Value} (h1 : ∀ x, (f x).oneCell' = true) {E : TypeId} (ht : P.underlying t = some (.slice E)) {z : Value} {bytes : Nat}
    (hinfo : (P.info? E).map (fun i => (i.zero, i.size, i.bytes)) = some (some z, 1, bytes)) (hz1 : z.cells.size = 1) {v : Value} {xs : List α} (hown : Fresh (Own E (leaf f)) w0 w v xs)
    (y : α) (hlen : (xs.length + 1) * bytes ≤ 140737488355328) (hmax : xs.length + 1 ≤ maxLen)
    (hs : a.eval s = v) (hx : a.eval x = .slice (some ⟨w.heap.size, 0, none⟩) 1 1)
    (h : ∀ v' w', Fresh (Own E (leaf f)) w0 w' v' (xs ++ [y]) → wpList P ops Q rest (a.put o.dst v') w') : wpList P ops Q (o :: rest) a (w.alloc (.cells #[f y] E)) := by
  obtain ⟨S, hS, hS2, hb⟩ := hown
  refine wpList_push hgd s x t ho (leaf.ok h1) ht hinfo hz1 hS (u := f y) (y := y) (T := []) ⟨rfl, rfl⟩ (by simp) hlen hmax hs hx ?_
  intro v' w' S' h1 h2 h3
  refine h v' w' ⟨S', h1, fun k hk => ?_, below_only hb h2 hb.size hS2⟩
  rcases h3 k hk with h | h | h
  · exact hS2 k h
  · simp at h
  · exact Nat.le_trans hb.size h

theorem Own.row {α : Type} [Inhabited α] {E : TypeId} {f : α → Value} {w : World} {v : Value} {xs : List α} {S : List Nat} {base : Nat} (h : Own E (leaf f) w v xs S) (hS : ∀ k ∈ S, base ≤ k) : w.ownsRow base E 1 v xs.length (xs.map f) := by
  rcases h with ⟨rfl, rfl, rfl⟩ | ⟨g, cap, cur, Ss, rfl, hh, h1, h2, h3, hSe, hN, hl, he⟩
  · exact World.ownsRow_nil w base E 1
  · refine ⟨by simp, .inr ⟨g, cap, cur, rfl, hS g (by simp [hSe]), hh, h2, h3, by simpa using h1, ?_⟩⟩
    apply List.ext_getElem
    · simp; omega
    · intro i hi1 hi2
      have hi : i < xs.length := by simpa using hi2
      obtain ⟨u, hu, hr⟩ := he i hi
      rw [List.getElem_take, List.getElem_map, ← nth_eq hi, ← hr.1]
      have := (Array.getElem?_eq_some_iff.1 hu).2
      simpa using this
theorem Own.of_row {α : Type} [Inhabited α] {E : TypeId} {f : α → Value} {w : World} {v : Value} {xs : List α} {base : Nat} (h : w.ownsRow base E 1 v xs.length (xs.map f)) : ∃ S, Own E (leaf f) w v xs S ∧ S = v.ownBlock.toList ∧ ∀ k ∈ S, base ≤ k := by
  rcases h.2 with ⟨rfl, h0⟩ | ⟨g, cap, cur, rfl, hb, hh, h2, h3, h4, h5⟩
  · exact ⟨[], .inl ⟨rfl, List.eq_nil_of_length_eq_zero h0, rfl⟩, rfl, by simp⟩
  · refine ⟨[g], .inr ⟨g, cap, cur, List.replicate xs.length [], rfl, hh, by simpa using h4, h2, h3, by simp, by simp, by simp, fun i hi => ?_⟩, rfl, by simpa using hb⟩
    refine ⟨f (nth xs i), ?_, rfl, by rw [nth_replicate hi]⟩
    have e : (cur.toList.take (xs.length * 1))[i]? = some (f (nth xs i)) := by rw [h5]; simp [List.getElem?_eq_getElem hi, nth_eq hi]
    rw [List.getElem?_take, if_pos (by omega)] at e
    simpa using e

theorem run_append_source_none {P : Program} {w : World} {t ty e : TypeId} {i : TypeInfo} (ht : P.underlying t = some (.slice e)) (hi : P.info? e = some i) {base size : Nat} {v : Value} {n : Nat} {xs : List Value} (hown : w.ownsRow base e size v n xs) (c : Nat) :
    (Builtin.append_ #[t, t] ty #[v, .slice none 0 c]).run P w = .ok v w := by
  rcases hown.2 with ⟨rfl, rfl⟩ | ⟨g, cap, cur, rfl, _, _, hnc, _⟩
  · simp [Builtin.append_, run_underlying ht, sizeOf, typeInfo, hi, Builtin.lenOf, Builtin.firstCells]
  · simp [Builtin.append_, run_underlying ht, sizeOf, typeInfo, hi, Builtin.lenOf, Builtin.firstCells, hnc, storeCells]

/-- append of all of another slice, onto one that is owned: what comes of it. -/
theorem run_appendAll {P : Program} {w : World} {α : Type} [Inhabited α] {f : α → Value} (h1 : ∀ x, (f x).oneCell' = true) {t ty E : TypeId} (ht : P.underlying t = some (.slice E)) {z : Value} {bytes : Nat}
    (hinfo : (P.info? E).map (fun i => (i.zero, i.size, i.bytes)) = some (some z, 1, bytes)) (hz1 : z.cells.size = 1) {v : Value} {xs : List α} {S : List Nat} (hown : Own E (leaf f) w v xs S)
    {Pb : Nat → Prop} {vb : Value} {ys : List α} (hsrc : Rd (rleaf f) Pb w vb ys) (hlen : (xs.length + ys.length) * bytes ≤ 140737488355328) (hmax : xs.length + ys.length ≤ maxLen) :
    ∃ v' w' S', (Builtin.append_ #[t, t] ty #[v, vb]).run P w = .ok v' w' ∧ Own E (leaf f) w' v' (xs ++ ys) S' ∧ Only S w w' ∧ (∀ k ∈ S', k ∈ S ∨ w.heap.size ≤ k) ∧ (v' = .slice none 0 0 ↔ v = .slice none 0 0 ∧ ys = []) := by
  obtain ⟨i, hi, hz, hsz, hby⟩ := Own.info hinfo
  have hrow := hown.row (base := 0) (fun _ _ => Nat.zero_le _)
  have hSb : ∀ k, v.ownBlock = some k → k ∈ S := by
    intro k hk
    rcases hown with ⟨rfl, _, _⟩ | ⟨g, cap, cur, Ss, rfl, hh, _, _, _, hSe, _⟩
    · simp [Value.ownBlock] at hk
    · simp [Value.ownBlock] at hk; subst hk; simp [hSe]
  obtain ⟨a, c, rfl, g1, g2, hrd⟩ := hsrc
  cases a with
  | none =>
    have hy : ys = [] := by
      rcases Nat.eq_zero_or_pos ys.length with h | h
      · exact List.eq_nil_of_length_eq_zero h
      · obtain ⟨b, o, u, e, _⟩ := hrd 0 h; cases e
    subst hy
    exact ⟨v, w, S, run_append_source_none ht hi hrow c, by simpa using hown, Only.refl _ _, fun k hk => .inl hk, by simp⟩
  | some ad =>
    have hl : (ys.map f).length = ys.length * 1 := by simp
    have hnews : ∀ j u, (ys.map f)[j]? = some u → w.cell? (ad.add j) = some u := by
      intro j u hj
      have hlt : j < ys.length := by
        rcases Nat.lt_or_ge j ys.length with h | h
        · exact h
        · rw [List.getElem?_eq_none (by simpa using h)] at hj; cases hj
      obtain ⟨b, o, u', e1, _, e2, e3⟩ := hrd j hlt
      simp only [Option.some.injEq] at e1
      subst e1
      have ea : (⟨b, o, none⟩ : Addr).add j = ⟨b, o + j, none⟩ := by unfold Addr.add; split <;> simp_all
      rw [ea, e2]
      simp only [List.getElem?_map, List.getElem?_eq_getElem hlt, Option.map_some, Option.some.injEq] at hj
      rw [← hj, e3, nth_eq hlt]
    obtain ⟨v', w', hr, h2, h3, h4, h5⟩ := run_append_own_at (P := P) w 0 t ty E i z 1 bytes ht hi hz hsz hby hz1 (by omega) v xs.length (xs.map f) hrow ad ys.length c (ys.map f) hl hnews (by intro u hu; obtain ⟨y, _, rfl⟩ := List.mem_map.1 hu; exact h1 y) hmax hlen (Nat.zero_le _)
    rw [← List.map_append] at h2
    have h2' : w'.ownsRow 0 E 1 v' (xs ++ ys).length ((xs ++ ys).map f) := by rw [List.length_append]; exact h2
    obtain ⟨S', hS', hSe, _⟩ := Own.of_row h2'
    refine ⟨v', w', S', hr, hS', ⟨h3.os, h3.tape, h3.output, h3.size, fun k hk hkS => h3.block k hk fun e => hkS (hSb k e.symm)⟩, fun k hk => ?_, by rw [h4]; simp [List.length_eq_zero_iff]⟩
    rw [hSe] at hk
    rcases h5 with h5 | h5
    · rw [h5] at hk
      cases hv : v.ownBlock with
      | none => rw [hv] at hk; simp at hk
      | some g => rw [hv] at hk; simp at hk; subst hk; exact .inl (hSb _ hv)
    · rw [h5] at hk; simp at hk; exact .inr (by omega)

/-- 'append(out, ys...)' in a walk: behind it 'intro v1 w1 S1 hown1 honly1 hS1 hnil1'. -/
theorem wpList_appendAll {P : Program} {w : World} {ops : Array Oper} {rest : List Oper} {o : Oper} {a : Act} {Q : Exit → Act → World → Prop} (hgd : o.guard = none) (s x : Operand) (t : TypeId)
    (ho : o.op = .call { callee := .builtin .append, args := #[s, x], argTypes := #[t, t] }) {α : Type} [Inhabited α] {f : α → Value} (h1 : ∀ x, (f x).oneCell' = true) {E : TypeId} (ht : P.underlying t = some (.slice E)) {z : Value} {bytes : Nat}
    (hinfo : (P.info? E).map (fun i => (i.zero, i.size, i.bytes)) = some (some z, 1, bytes)) (hz1 : z.cells.size = 1) {v : Value} {xs : List α} {S : List Nat} (hown : Own E (leaf f) w v xs S)
    {Pb : Nat → Prop} {vb : Value} {ys : List α} (hsrc : Rd (rleaf f) Pb w vb ys) (hlen : (xs.length + ys.length) * bytes ≤ 140737488355328) (hmax : xs.length + ys.length ≤ maxLen)
    (hs : a.eval s = v) (hx : a.eval x = vb)
    (h : ∀ v' w' S', Own E (leaf f) w' v' (xs ++ ys) S' → Only S w w' → (∀ k ∈ S', k ∈ S ∨ w.heap.size ≤ k) → (v' = .slice none 0 0 ↔ v = .slice none 0 0 ∧ ys = []) → wpList P ops Q rest (a.put o.dst v') w') : wpList P ops Q (o :: rest) a w := by
  obtain ⟨v', w', S', hr, g1, g2, g3, g4⟩ := run_appendAll (P := P) h1 (ty := o.type) ht hinfo hz1 hown hsrc hlen hmax
  refine wpList_plain hgd fun _ hK => ?_
  unfold Oper.wp execOp
  simp only [ho, resolve, invoke, builtin, Sem.run_bind, Sem.run_pure, Result.andThen_ok, List.map_toArray, List.map_cons, List.map_nil, hs, hx, hr]
  exact hK _ _ (h v' w' S' g1 g2 g3 g4)
/-- The same of what was made since w0: behind it 'intro v1 w1 hf1'. -/
theorem wpList_appendF {P : Program} {w0 w : World} {ops : Array Oper} {rest : List Oper} {o : Oper} {a : Act} {Q : Exit → Act → World → Prop} (hgd : o.guard = none) (s x : Operand) (t : TypeId)
    (ho : o.op = .call { callee := .builtin .append, args := #[s, x], argTypes := #[t, t] }) {α : Type} [Inhabited α] {f : α → Value} (h1 : ∀ x, (f x).oneCell' = true) {E : TypeId} (ht : P.underlying t = some (.slice E)) {z : Value} {bytes : Nat}
    (hinfo : (P.info? E).map (fun i => (i.zero, i.size, i.bytes)) = some (some z, 1, bytes)) (hz1 : z.cells.size = 1) {v : Value} {xs : List α} (hown : Fresh (Own E (leaf f)) w0 w v xs)
    {Pb : Nat → Prop} {vb : Value} {ys : List α} (hsrc : Rd (rleaf f) Pb w vb ys) (hlen : (xs.length + ys.length) * bytes ≤ 140737488355328) (hmax : xs.length + ys.length ≤ maxLen)
    (hs : a.eval s = v) (hx : a.eval x = vb)
    (h : ∀ v' w', Fresh (Own E (leaf f)) w0 w' v' (xs ++ ys) → wpList P ops Q rest (a.put o.dst v') w') : wpList P ops Q (o :: rest) a w := by
  obtain ⟨S, hS, hS2, hb⟩ := hown
  refine wpList_appendAll hgd s x t ho h1 ht hinfo hz1 hS hsrc hlen hmax hs hx ?_
  intro v' w' S' h1 h2 h3 _
  refine h v' w' ⟨S', h1, fun k hk => ?_, below_only hb h2 hb.size hS2⟩
  rcases h3 k hk with h | h
  · exact hS2 k h
  · exact Nat.le_trans hb.size h

end Go.Proofs.Ytnpkanlieflbiaa
