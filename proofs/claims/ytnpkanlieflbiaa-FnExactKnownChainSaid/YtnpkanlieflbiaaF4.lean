/- append of one element that lies in a block of its own, wherever that lies. -/
import Derived.Test.YtnpkanlieflbiaaF2
namespace Go.Proofs.Ytnpkanlieflbiaa
open Go.RowKit
set_option linter.unusedVariables false

theorem heap_cellA {W : World} {b : Nat} {u : Value} {E : TypeId} (hb : W.heap[b]? = some (.cells #[u] E (0, 0))) : W.cell? ((⟨b, 0, none⟩ : Addr).add 0) = some u := by
  have e : (⟨b, 0, none⟩ : Addr).add 0 = ⟨b, 0, none⟩ := by unfold Addr.add; split <;> simp_all
  rw [e]
  exact heap_cell hb rfl
/-- append of one element, onto a slice that is owned: what comes of it. -/
theorem run_pushAt {P : Program} {W : World} {b : Nat} {α : Type} [Inhabited α] {R : Rep α} (hR : R.Ok) {t ty E : TypeId} (ht : P.underlying t = some (.slice E)) {z : Value} {bytes : Nat}
    (hinfo : (P.info? E).map (fun i => (i.zero, i.size, i.bytes)) = some (some z, 1, bytes)) (hz1 : z.cells.size = 1) {v : Value} {xs : List α} {S : List Nat} (hown : Own E R W v xs S)
    {u : Value} {y : α} {T : List Nat} (hb : W.heap[b]? = some (.cells #[u] E (0, 0))) (hu : R W u y T) (hd : ∀ k ∈ T, k ∉ S) (hlen : (xs.length + 1) * bytes ≤ 140737488355328) (hmax : xs.length + 1 ≤ maxLen) :
    ∃ v' w' S', (Builtin.append_ #[t, t] ty #[v, .slice (some ⟨b, 0, none⟩) 1 1]).run P W = .ok v' w' ∧ Own E R w' v' (xs ++ [y]) S' ∧ Only S W w' ∧ (∀ k ∈ S', k ∈ S ∨ k ∈ T ∨ W.heap.size ≤ k) := by
  obtain ⟨i, hi, hz, hsz, hby⟩ := Own.info hinfo
  have hT : ∀ k ∈ T, k < W.heap.size := hR.lt hu
  have hTn : T.Nodup := hR.nodup hu
  have hl1 : [u].length = 1 * i.size := by simp [hsz]
  have hmax' := hmax
  unfold maxLen at hmax'
  have hnews : ∀ j u', [u][j]? = some u' → W.cell? ((⟨b, 0, none⟩ : Addr).add j) = some u' := by
    intro j u' hj
    match j, hj with
    | 0, hj =>
      simp at hj; subst hj
      exact heap_cellA hb
  have hold : ∀ (o : Obj) k, k < W.heap.size → (W.drew.alloc o).heap[k]? = W.heap[k]? := fun o k hk =>
    Below.heap_alloc W.drew o k hk
  rcases hown with ⟨rfl, rfl, rfl⟩ | ⟨g, cap, cur, Ss, rfl, hh, h1, h2, h3, hS, hN, hl, he⟩
  · have hr := run_append_nil (P := P) W t ty E i z ht hi hz ⟨b, 0, none⟩ 1 1 [u] hl1 hnews (by omega) (by simp) (by rw [hby]; simp at hlen; omega)
    have hge := grownCap_ge W 1 0 E
    have hcm := grownCap_le_maxLen W 1 0 E (by unfold maxLen; omega)
    generalize hc : grownCap W 1 0 E = C at hr hge hcm
    refine ⟨_, _, W.heap.size :: T, hr, .inr ⟨W.heap.size, C, [u].toArray ++ Builtin.zeroCells z.cells (C - 1), [T], rfl, ?_, ?_, by simpa using hge, hcm, by simp, ?_, by simp, ?_⟩, ⟨rfl, rfl, rfl, by simp, fun k hk _ => hold _ k hk⟩, ?_⟩
    · exact heap_alloc_new W.drew (.cells ([u].toArray ++ Builtin.zeroCells z.cells (C - 1)) E)
    · simp only [Array.size_append, List.size_toArray, size_zeroCells, hz1, List.length_singleton]; omega
    · exact List.nodup_cons.2 ⟨fun hm => by have := hT _ hm; omega, hTn⟩
    · intro j hj
      obtain rfl : j = 0 := by simpa using hj
      exact ⟨u, by rw [Array.getElem?_append_left (by simp)]; rfl, hR.keep hu fun k hk => hold _ k (hT k hk)⟩
    · intro k hk
      rcases List.mem_cons.1 hk with rfl | hk
      · exact .inr (.inr (by omega))
      · exact .inr (.inl hk)
  · have hSs : ∀ j, j < xs.length → ∀ k ∈ nth Ss j, k < W.heap.size ∧ k ≠ g ∧ k ∈ S := fun j hj k hk => by
      obtain ⟨u', _, hr⟩ := he j hj
      have hm := mem_flatten_nth (by omega) hk
      refine ⟨hR.lt hr k hk, fun e => ?_, by rw [hS]; exact List.mem_cons_of_mem _ hm⟩
      rw [hS] at hN
      exact (List.nodup_cons.1 hN).1 (e ▸ hm)
    have hgl : g < W.heap.size := (Array.getElem?_eq_some_iff.1 hh).1
    have hflat : (Ss ++ [T]).flatten = Ss.flatten ++ T := by simp
    have hFn : (Ss.flatten ++ T).Nodup := by
      rw [hS] at hN hd
      exact List.nodup_append.2 ⟨(List.nodup_cons.1 hN).2, hTn, fun a ha b hb e => hd b hb (e ▸ List.mem_cons_of_mem _ ha)⟩
    have hFl : ∀ k ∈ Ss.flatten ++ T, k < W.heap.size ∧ k ≠ g ∧ (k ∈ S ∨ k ∈ T) := by
      intro k hk
      rcases List.mem_append.1 hk with hk | hk
      · obtain ⟨L, hL, hk⟩ := List.mem_flatten.1 hk
        obtain ⟨j, hj, rfl⟩ := List.mem_iff_getElem.1 hL
        rw [← nth_eq hj] at hk
        have := hSs j (by omega) k hk
        exact ⟨this.1, this.2.1, .inl this.2.2⟩
      · exact ⟨hT k hk, fun e => hd k hk (by rw [hS, e]; simp), .inr hk⟩
    by_cases hroom : xs.length + 1 ≤ cap
    · have hgW : W.heap[g]? = some (.cells cur E (0, 0)) := hh
      have hr := run_append_room (P := P) (w := W) t ty E i ht hi g xs.length cap cur hgW ⟨b, 0, none⟩ 1 1 [u] hl1 hnews (by simpa using hR.one hu) hroom (by rw [hsz]; simp; omega)
      rw [hsz] at hr
      simp only [Nat.mul_one, List.length_singleton] at hr
      have hkeep : ∀ k, k < W.heap.size → k ≠ g → (W.setRow g (cur.toList.take xs.length ++ [u] ++ cur.toList.drop (xs.length + 1)).toArray).heap[k]? = W.heap[k]? := fun k hk hkg =>
        setRow_other _ g k _ hkg
      refine ⟨_, _, g :: (Ss.flatten ++ T), hr, .inr ⟨g, cap, (cur.toList.take xs.length ++ [u] ++ cur.toList.drop (xs.length + 1)).toArray, Ss ++ [T], by simp, setRow_heap _ g cur _ E _ hgW, ?_, by simpa using hroom, h3, by rw [hflat], ?_, by simp [hl], ?_⟩, ⟨rfl, rfl, rfl, by simp, fun k hk hkS => hkeep k hk (fun e => hkS (by rw [hS, e]; simp))⟩, ?_⟩
      · simp only [List.size_toArray, List.length_append, List.length_take, List.length_drop, Array.length_toList, List.length_singleton]; omega
      · exact List.nodup_cons.2 ⟨fun hm => (hFl g hm).2.1 rfl, hFn⟩
      · intro j hj
        have hj' : j < xs.length + 1 := by simpa using hj
        rw [nth_snoc hj', nth_snoc (by omega), hl]
        by_cases hjl : j < xs.length
        · obtain ⟨u', hu', hr'⟩ := he j hjl
          rw [if_pos hjl, if_pos hjl]
          refine ⟨u', ?_, hR.keep hr' fun k hk => hkeep k (hSs j hjl k hk).1 (hSs j hjl k hk).2.1⟩
          rw [List.getElem?_toArray, List.append_assoc, List.getElem?_append_left (by simp; omega), List.getElem?_take, if_pos hjl]
          simpa using hu'
        · obtain rfl : j = xs.length := by omega
          rw [if_neg (by omega), if_neg (by omega)]
          refine ⟨u, ?_, hR.keep hu fun k hk => hkeep k (hT k hk) (fun e => hd k hk (by rw [hS, e]; simp))⟩
          rw [List.getElem?_toArray, List.append_assoc, List.getElem?_append_right (by simp; omega), List.length_take]
          have : min xs.length cur.toList.length = xs.length := by simp; omega
          rw [this]; simp
      · intro k hk
        rcases List.mem_cons.1 hk with rfl | hk
        · exact .inl (by rw [hS]; simp)
        · rcases (hFl k hk).2.2 with h | h
          · exact .inl h
          · exact .inr (.inl h)
    · have hle : ((cur.toList.take xs.length)).length = xs.length := by simp; omega
      have holds : ∀ j u', (cur.toList.take xs.length)[j]? = some u' → W.cell? ((⟨g, 0, none⟩ : Addr).add j) = some u' := by
        intro j u' hj
        have ea : (⟨g, 0, none⟩ : Addr).add j = ⟨g, j, none⟩ := by unfold Addr.add; split <;> simp_all
        rw [ea, cell_of_row W g j cur E (0, 0) hh]
        rw [List.getElem?_take] at hj
        split at hj
        · simpa using hj
        · cases hj
      have hr := run_append_grow (P := P) W t ty E i z ht hi hz ⟨g, 0, none⟩ xs.length cap (cur.toList.take xs.length) (by rw [hle, hsz]; simp) holds ⟨b, 0, none⟩ 1 1 [u] hl1 hnews (by omega) (by omega) (growslice_fits (by omega) (by rw [hby]; exact hlen))
      have hge := grownCap_ge W (xs.length + 1) cap E
      have hcm := grownCap_le_maxLen W (xs.length + 1) cap E hmax
      generalize hc : grownCap W (xs.length + 1) cap E = C at hr hge hcm
      refine ⟨_, _, W.heap.size :: (Ss.flatten ++ T), hr, .inr ⟨W.heap.size, C, (cur.toList.take xs.length).toArray ++ [u].toArray ++ Builtin.zeroCells z.cells (C - (xs.length + 1)), Ss ++ [T], by simp, ?_, ?_, by simpa using hge, hcm, by rw [hflat], ?_, by simp [hl], ?_⟩, ⟨rfl, rfl, rfl, by simp, fun k hk _ => hold _ k hk⟩, ?_⟩
      · exact heap_alloc_new W.drew (.cells ((cur.toList.take xs.length).toArray ++ [u].toArray ++ Builtin.zeroCells z.cells (C - (xs.length + 1))) E)
      · simp only [Array.size_append, List.size_toArray, size_zeroCells, hz1, List.length_singleton, hle]; omega
      · exact List.nodup_cons.2 ⟨fun hm => by have := (hFl _ hm).1; omega, hFn⟩
      · intro j hj
        have hj' : j < xs.length + 1 := by simpa using hj
        rw [nth_snoc hj', nth_snoc (by omega), hl]
        by_cases hjl : j < xs.length
        · obtain ⟨u', hu', hr'⟩ := he j hjl
          rw [if_pos hjl, if_pos hjl]
          refine ⟨u', ?_, hR.keep hr' fun k hk => hold _ k (hSs j hjl k hk).1⟩
          rw [Array.getElem?_append_left (by simp; omega), Array.getElem?_append_left (by simp; omega), List.getElem?_toArray, List.getElem?_take, if_pos hjl]
          simpa using hu'
        · obtain rfl : j = xs.length := by omega
          rw [if_neg (by omega), if_neg (by omega)]
          refine ⟨u, ?_, hR.keep hu fun k hk => hold _ k (hT k hk)⟩
          rw [Array.getElem?_append_left (by simp; omega), Array.getElem?_append_right (by simp; omega)]
          have : min xs.length cur.size = xs.length := by omega
          simp [this]
      · intro k hk
        rcases List.mem_cons.1 hk with rfl | hk
        · exact .inr (.inr (by omega))
        · rcases (hFl k hk).2.2 with h | h
          · exact .inl h
          · exact .inr (.inl h)

theorem step_pushAt {P : Program} {ops : Array Oper} {o : Oper} {a : Act} {K : Act → World → Prop} {Q : Exit → Act → World → Prop} {Ep : Prop} (hgd : o.guard = none) (s x : Operand) (t : TypeId)
    (ho : o.op = .call { callee := .builtin .append, args := #[s, x], argTypes := #[t, t] }) {α : Type} [Inhabited α] {R : Rep α} (hR : R.Ok) {E : TypeId} (ht : P.underlying t = some (.slice E)) {z : Value} {bytes : Nat}
    (hinfo : (P.info? E).map (fun i => (i.zero, i.size, i.bytes)) = some (some z, 1, bytes)) (hz1 : z.cells.size = 1) {W : World} (b : Nat) {v : Value} {xs : List α} {S : List Nat} (hown : Own E R W v xs S)
    {u : Value} (hb : W.heap[b]? = some (.cells #[u] E (0, 0))) (y : α) (T : List Nat) (hu : R W u y T) (hd : ∀ k ∈ T, k ∉ S) (hlen : (xs.length + 1) * bytes ≤ 140737488355328) (hmax : xs.length + 1 ≤ maxLen)
    (hs : a.eval s = v) (hx : a.eval x = .slice (some ⟨b, 0, none⟩) 1 1)
    (h : ∀ v' w' S', Own E R w' v' (xs ++ [y]) S' → Only S W w' → (∀ k ∈ S', k ∈ S ∨ k ∈ T ∨ W.heap.size ≤ k) → K (a.put o.dst v') w') :
    if Region.wanted o (yielded ops a.tmps) = true then Oper.wp P o a W K Q else Ep := by
  have hw : Region.wanted o (yielded ops a.tmps) = true := by simp [Region.wanted, hgd]
  rw [if_pos hw]
  obtain ⟨v', w', S', hr, h1, h2, h3⟩ := run_pushAt (P := P) hR (ty := o.type) ht hinfo hz1 hown hb hu hd hlen hmax
  unfold Oper.wp execOp
  simp only [ho, resolve, invoke, builtin, Sem.run_bind, Sem.run_pure, Result.andThen_ok, List.map_toArray, List.map_cons, List.map_nil, hs, hx, hr]
  exact h v' w' S' h1 h2 h3
end Go.Proofs.Ytnpkanlieflbiaa
