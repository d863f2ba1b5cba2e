/- The first undetected error: sets of pairs of states kept in maps; what an entry holds, told whole. -/
import Derived.Test.YtnpkanlieflbiaaE10
import Derived.Maps.OwnSet
import Derived.Maps.RangeWalk
import Derived.DeepKeys4
namespace Go.Proofs.Ytnpkanlieflbiaa
open Go.RowKit Go.Maps
set_option linter.unusedVariables false

/-- An element of a map, told as it is. -/
def tok (v : Value) : Option (DataW Value × List MemPlace) := some (.held v, [])
theorem tok_at {D d : DataW Value} {v : Value} {ps : List MemPlace} (h : tok v = some (D, ps)) : D = .held v := by
  unfold tok at h
  cases h
  rfl

theorem grown_below {w w' : World} (h : Below w.heap.size w w') : w.grownBy w' none := ⟨h.os, h.tape, h.output, h.size, fun i hi _ => h.block i hi⟩

/-! ### Pairs of states as keys -/
def pk (i j : Nat) : Lit := .string (keyBytes [.int .i64 i, .int .i64 j])
def pkV (i j : Nat) : Value := .agg #[.int .i64 i, .int .i64 j]
theorem pairCells : Try.prog.cellsOf 169 = 2 := by kernel_rfl
theorem i64Cells : Try.prog.cellsOf 2 = 1 := by kernel_rfl
theorem pairIs : Try.prog.keyType 169 = true := by kernel_rfl
theorem typesMany : ∃ n, Try.prog.types.size = n + 1 := ⟨Try.prog.types.size - 1, by have h : 0 < Try.prog.types.size := of_decide_eq_true (by kernel_rfl); omega⟩
theorem progLaid : laidOutB Try.prog = true := by kernel_rfl
theorem pairRow : (169 : TypeId) < Try.prog.types.size := of_decide_eq_true (by kernel_rfl)
theorem pairAt : Try.prog.keyTypeAt 2 169 = true := by kernel_rfl
theorem pairKeyed : Keyed Try.prog 169 := Keyed.of_law (deep_law_laid progLaid (m := 2) (by omega) pairRow pairAt (by rw [Try.underlying169]))
theorem pair_key {i j : Nat} (hi : i < 4611686018427387904) (hj : j < 4611686018427387904) : keyOf Try.prog 169 (pkV i j) = some (pk i j) := by
  obtain ⟨n, hn⟩ := typesMany
  have w1 : (Lit.int .i64 (i : Int)).wf = true := WalkArith.wf_i64 (by omega)
  have w2 : (Lit.int .i64 (j : Int)).wf = true := WalkArith.wf_i64 (by omega)
  unfold keyOf pkV
  rw [Try.underlying169]
  simp only [pairIs, hn]
  simp [Value.formed, Try.underlying169, pairCells, i64Cells, Value.cells, Program.keyLits, Try.underlying2, w1, w2, pk]
theorem pk_inj {i j i' j' : Nat} (hi : i < 4611686018427387904) (hj : j < 4611686018427387904) (hi' : i' < 4611686018427387904) (hj' : j' < 4611686018427387904) (h : pk i j = pk i' j') : i = i' ∧ j = j' := by
  have h1 := pairKeyed.inj (pair_key hi hj) (h ▸ pair_key hi' hj')
  simp only [pkV, Value.agg.injEq] at h1
  simp at h1
  omega
theorem pk_isKey {i j : Nat} (hi : i < 4611686018427387904) (hj : j < 4611686018427387904) : WideAt.IsKeyLit (pk i j) := pairKeyed.key (pair_key hi hj)

/-! ### Sets of pairs -/
abbrev DP := DataW Value
/-- A map that holds just these pairs. -/
def PSet (D : DP) (S : Nat) (Q : Nat → Nat → Prop) : Prop := (∀ i j, Q i j → i < S ∧ j < S) ∧ ∀ kl, Maps.has D kl = true ↔ ∃ i j, kl = pk i j ∧ Q i j
theorem PSet.empty (S : Nat) : PSet (.map []) S fun _ _ => False := by
  refine ⟨fun i j h => h.elim, fun kl => ⟨fun h => ?_, fun ⟨i, j, _, h⟩ => h.elim⟩⟩
  simp [Maps.has] at h
theorem PSet.congr {D : DP} {S : Nat} {Q Q' : Nat → Nat → Prop} (h : PSet D S Q) (e : ∀ i j, Q i j ↔ Q' i j) : PSet D S Q' :=
  ⟨fun i j hq => h.1 i j ((e i j).2 hq), fun kl => (h.2 kl).trans ⟨fun ⟨i, j, e1, hq⟩ => ⟨i, j, e1, (e i j).1 hq⟩, fun ⟨i, j, e1, hq⟩ => ⟨i, j, e1, (e i j).2 hq⟩⟩⟩
theorem PSet.put {D : DP} {S : Nat} {Q : Nat → Nat → Prop} (hD : Maps.IsMap D) (h : PSet D S Q) {i j : Nat} (hi : i < S) (hj : j < S) (hS : S ≤ 36) (d : DP) : PSet (D.put (pk i j) d) S fun a b => Q a b ∨ (a = i ∧ b = j) := by
  refine ⟨fun a b hq => ?_, fun kl => ?_⟩
  · rcases hq with hq | ⟨rfl, rfl⟩
    · exact h.1 a b hq
    · exact ⟨hi, hj⟩
  · by_cases e : kl = pk i j
    · subst e
      rw [Maps.has_put_same hD (pk_isKey (by omega) (by omega)) d]
      exact ⟨fun _ => ⟨i, j, rfl, .inr ⟨rfl, rfl⟩⟩, fun _ => rfl⟩
    · rw [Maps.has_put_other e d, h.2 kl]
      constructor
      · rintro ⟨a, b, e1, hq⟩
        exact ⟨a, b, e1, .inl hq⟩
      · rintro ⟨a, b, e1, hq | ⟨rfl, rfl⟩⟩
        · exact ⟨a, b, e1, hq⟩
        · exact absurd e1 e
/-- Is there a pair? -/
theorem PSet.some {w : World} {b n : Nat} {D : DP} {S : Nat} {Q : Nat → Nat → Prop} (hD : w.ownsMap Try.prog 169 tok b n D) (h : PSet D S Q) : 0 < Maps.size D ↔ ∃ i j, Q i j := by
  obtain ⟨es, rfl, _, hk⟩ := hD.entries pairKeyed
  rw [Maps.size_eq]
  constructor
  · intro hl
    match es, hl, hk, h with
    | p :: r, _, hk, h =>
      have h1 : Maps.has (DataW.map (p :: r)) p.1 = true := by
        rw [Maps.has_eq, List.any_cons, WideAt.sameKey_self (hk p (by simp))]; rfl
      obtain ⟨i, j, _, hq⟩ := (h.2 p.1).1 h1
      exact ⟨i, j, hq⟩
  · rintro ⟨i, j, hq⟩
    have := (h.2 (pk i j)).2 ⟨i, j, rfl, hq⟩
    match es, this with
    | p :: r, _ => simp
/-- All but one pair. -/
def strike (L : Nat → Nat → Prop) (i j : Nat) : Nat → Nat → Prop := fun a b => L a b ∧ ¬ (a = i ∧ b = j)
/-- A loop over a set of pairs under way; L: what is still to come. -/
def pairsR (w : World) (b r n : Nat) (D : DP) (S : Nat) (L : Nat → Nat → Prop) (cnt : Nat) : Prop :=
  ∃ left, w.ranges Try.prog 169 tok b r n D left cnt ∧ (∀ i j, L i j → i < S ∧ j < S) ∧ ∀ kl, left kl = true ↔ ∃ i j, kl = pk i j ∧ L i j
theorem pairsR.left_eq {w : World} {b r n S cnt : Nat} {D : DP} {L : Nat → Nat → Prop} (h : pairsR w b r n D S L cnt) : w.rangeLeft b r = cnt := by
  obtain ⟨left, h1, _⟩ := h
  exact h1.left_eq
theorem pairsR.owns {w : World} {b r n S cnt : Nat} {D : DP} {L : Nat → Nat → Prop} (h : pairsR w b r n D S L cnt) : w.ownsMap Try.prog 169 tok b n D := by
  obtain ⟨left, h1, _⟩ := h
  exact h1.owns
theorem pairsR.lt {w : World} {b r n S cnt : Nat} {D : DP} {L : Nat → Nat → Prop} (h : pairsR w b r n D S L cnt) : b < w.heap.size ∧ r < w.heap.size ∧ r ≠ b := by
  obtain ⟨left, h1, _⟩ := h
  exact ⟨h1.owns.lt, h1.lt, h1.ne⟩
theorem pairsR.kept {w w' : World} {b r n S cnt : Nat} {D : DP} {L : Nat → Nat → Prop} {row : Option Nat} (h : pairsR w b r n D S L cnt) (hg : w.grownBy w' row) (hb : some b ≠ row) (hr : some r ≠ row) : pairsR w' b r n D S L cnt := by
  obtain ⟨left, h1, h2, h3⟩ := h
  exact ⟨left, h1.kept hg hb hr, h2, h3⟩
theorem pairsR.bound {w : World} {b r n S cnt : Nat} {D : DP} {L : Nat → Nat → Prop} (h : pairsR w b r n D S L cnt) {i j : Nat} (hij : L i j) : i < S ∧ j < S := by
  obtain ⟨left, h1, h2, h3⟩ := h
  exact h2 i j hij
section law
variable (w : World) {ops : Array Oper} {rest : List Oper} {o : Oper} {a : Act} {Q : Exit → Act → World → Prop}
theorem wpList_range_pairs (hg : o.guard = none) (m : Operand) (hop : o.op = Op.range 167 m) (b n : Nat) (D : DP) (S : Nat) (L : Nat → Nat → Prop) (hm : a.eval m = .map (some b)) (hown : w.ownsMap Try.prog 169 tok b n D) (hL : PSet D S L)
    (hK : ∀ w', pairsR w' b w.heap.size n D S L (Maps.size D) → w.grownBy w' none → w'.heap.size = w.heap.size + 1 → wpList Try.prog ops Q rest (a.put o.dst (.pointer (some ⟨w.heap.size, 0, none⟩))) w') :
    wpList Try.prog ops Q (o :: rest) a w :=
  wpList_range_own w hg m _ hop _ 4 pairKeyed Try.underlying167 tok b n D hm hown fun w' hr hgr hs => hK w' ⟨_, hr, hL.1, hL.2⟩ hgr hs
theorem wpList_next_pairs (hg : o.guard = none) (it : Operand) (hop : o.op = Op.next it false) (b r n : Nat) (D : DP) (S : Nat) (L : Nat → Nat → Prop) (cnt : Nat) (hS : S ≤ 36) (hit : a.eval it = .pointer (some ⟨r, 0, none⟩)) (h : pairsR w b r n D S L cnt)
    (hDone : (∀ i j, ¬ L i j) → wpList Try.prog ops Q rest (a.put o.dst (.tuple #[.bool false])) w)
    (hMore : ∀ (i j : Nat) (v : Value) (w' : World) (cnt' : Nat), L i j → pairsR w' b r n D S (strike L i j) cnt' → cnt' < cnt → w.grownBy w' (some r) → w'.heap.size = w.heap.size →
      (Instr.entry (.pointer (some ⟨r, 0, none⟩))).run Try.prog w' = .ok (.tuple #[.agg #[.int .i64 i, .int .i64 j], v]) w' → wpList Try.prog ops Q rest (a.put o.dst (.tuple #[.bool true, .agg #[.int .i64 i, .int .i64 j], v])) w') :
    wpList Try.prog ops Q (o :: rest) a w := by
  obtain ⟨left, h1, h2, h3⟩ := h
  refine wpList_next_ranges (α := Value) (β := Value) w hg it hop _ pairKeyed tok id id (fun key kl _ => ⟨key, rfl⟩) (fun v y _ => ⟨v, rfl⟩) b r n D left cnt hit h1 (fun _ hl => hDone fun i j hij => ?_) fun x c kl y w' cnt' hkey hlk hv hat hrg hlt hgr hsz hen => ?_
  · have := (h3 (pk i j)).2 ⟨i, j, rfl, hij⟩
    rw [hl] at this
    cases this
  · obtain ⟨i, j, rfl, hij⟩ := (h3 kl).1 hlk
    have hb := h2 i j hij
    have hx : x = pkV i j := pairKeyed.inj hkey (pair_key (by omega) (by omega))
    subst hx
    refine hMore i j c w' cnt' hij ⟨_, hrg, fun a b hab => h2 a b hab.1, fun kl => ?_⟩ hlt hgr hsz hen
    rw [Bool.and_eq_true, h3 kl]
    constructor
    · rintro ⟨⟨a, b, rfl, hab⟩, hne⟩
      refine ⟨a, b, rfl, hab, ?_⟩
      rintro ⟨rfl, rfl⟩
      rw [WideAt.sameKey_self (pk_isKey (by omega) (by omega))] at hne
      cases hne
    · rintro ⟨a, b, rfl, hab, hne⟩
      have hab' := h2 a b hab
      refine ⟨⟨a, b, rfl, hab⟩, ?_⟩
      rw [Maps.sameKey_ne fun e => hne (pk_inj (by omega) (by omega) (by omega) (by omega) e)]
      rfl
theorem wpList_put_pair (hg : o.guard = none) (m x v : Operand) (hop : o.op = Op.mapUpdate 167 m x v) (b n : Nat) (D : DP) (S : Nat) (L : Nat → Nat → Prop) (hm : a.eval m = .map (some b)) (hown : w.ownsMap Try.prog 169 tok b n D) (hL : PSet D S L) (hn : n < 1000)
    (i j : Nat) (hx : a.eval x = .agg #[.int .i64 i, .int .i64 j]) (hi : i < S) (hj : j < S) (hS : S ≤ 36) (val : Value) (hv : a.eval v = val)
    (hK : ∀ w' D', w'.ownsMap Try.prog 169 tok b (n + 1) D' → PSet D' S (fun a b => L a b ∨ (a = i ∧ b = j)) → w.grownBy w' (some b) → wpList Try.prog ops Q rest (a.put o.dst undef) w') :
    wpList Try.prog ops Q (o :: rest) a w :=
  wpList_mapUpdate_own w hg m x v _ hop _ 4 pairKeyed Try.underlying167 tok b n D hm hown (by unfold maxLen; omega) _ _ (pk i j) hx hv (pair_key (by omega) (by omega)) (.held val) [] rfl fun w' h1 h2 =>
    hK w' _ h1 (hL.put hown.isMap hi hj hS _) h2
end law

/-! ### Steps where a region draws its order -/
theorem step_lookup {P : Program} {ops : Array Oper} {o : Oper} {a : Act} {K : Act → World → Prop} {Q : Exit → Act → World → Prop} {Ep : Prop} {W : World} (hgd : o.guard = none) (m x : Operand) (t : TypeId) (hop : o.op = Op.lookup t m x false)
    {mv key v : Value} (hm : a.eval m = mv) (hx : a.eval x = key) (hrun : (Instr.lookup t mv key false).run P W = .ok v W) (h : K (a.put o.dst v) W) :
    if Region.wanted o (yielded ops a.tmps) = true then Oper.wp P o a W K Q else Ep := by
  have hw : Region.wanted o (yielded ops a.tmps) = true := by simp [Region.wanted, hgd]
  rw [if_pos hw]
  unfold Oper.wp execOp
  simp only [hop, hm, hx, Sem.run_bind, Sem.run_pure, Result.andThen_ok, hrun]
  exact h
theorem step_mapUpdate {P : Program} {ops : Array Oper} {o : Oper} {a : Act} {K : Act → World → Prop} {Q : Exit → Act → World → Prop} {Ep : Prop} {W W' : World} (hgd : o.guard = none) (m x v : Operand) (t : TypeId) (hop : o.op = Op.mapUpdate t m x v)
    {mv key val : Value} (hm : a.eval m = mv) (hx : a.eval x = key) (hv : a.eval v = val) (hrun : (Instr.mapUpdate t mv key val).run P W = .ok () W') (h : K (a.put o.dst undef) W') :
    if Region.wanted o (yielded ops a.tmps) = true then Oper.wp P o a W K Q else Ep := by
  have hw : Region.wanted o (yielded ops a.tmps) = true := by simp [Region.wanted, hgd]
  rw [if_pos hw]
  unfold Oper.wp execOp
  simp only [hop, hm, hx, hv, hrun, Sem.run_bind, Sem.run_pure, Result.andThen_ok]
  exact h

/-! ### Lists under numbers as keys -/
theorem i64Keyed : Keyed Try.prog 2 := int_keyed Try.underlying2
theorem slZero (w : World) : (zeroValue 22).run Try.prog w = .ok (.slice none 0 0) w := by kernel_rfl
theorem keyI {s : Nat} (hs : s < 4611686018427387904) : keyOf Try.prog 2 (.int .i64 s) = some (.int .i64 s) := keyOf_int_mk Try.underlying2 (WalkArith.wf_i64 (by omega))
theorem keyI_isKey {s : Nat} (hs : s < 4611686018427387904) : WideAt.IsKeyLit (.int .i64 (s : Int)) := i64Keyed.key (keyI hs)
/-- The list that lies under s. -/
def Under (D : DP) (s : Nat) (v : Value) : Prop := ∀ z, D.atKey (.int .i64 s) z = .held v
theorem Under.look {w : World} {b n s : Nat} {D : DP} {v : Value} (h : w.ownsMap Try.prog 2 tok b n D) (hs : s < 4611686018427387904) (hu : Under D s v) : (Instr.lookup 155 (.map (some b)) (.int .i64 s) false).run Try.prog w = .ok v w := by
  obtain ⟨v', ps, hr, ht⟩ := h.lookup (t := 155) (e := 22) i64Keyed Try.underlying155 (slZero w) (zd := .held (.slice none 0 0)) (zp := []) rfl (keyI hs)
  rw [hu] at ht
  have := tok_at (d := .held v') ht
  cases this
  exact hr
theorem Under.put {w : World} {b n s : Nat} {D : DP} {v : Value} (h : w.ownsMap Try.prog 2 tok b n D) (hs : s < 4611686018427387904) (hn : n < 1000) :
    ∃ w' D', (Instr.mapUpdate 155 (.map (some b)) (.int .i64 s) v).run Try.prog w = .ok () w' ∧ w'.ownsMap Try.prog 2 tok b (n + 1) D' ∧ w.grownBy w' (some b) ∧ Under D' s v ∧ ∀ s' v', s' ≠ s → Under D s' v' → Under D' s' v' := by
  obtain ⟨w', hr, h1, h2⟩ := h.update (t := 155) (e := 22) i64Keyed Try.underlying155 (by unfold maxLen; omega) (val := v) (d := .held v) (ps := []) (keyI hs) rfl
  refine ⟨w', _, hr, h1, h2, fun z => Maps.atKey_put_same h.isMap (keyI_isKey hs) _ z, fun s' v' hne hu z => ?_⟩
  rw [Maps.atKey_put_other (fun e => hne ?_)]
  · exact hu z
  · simp only [Lit.int.injEq] at e
    omega
end Go.Proofs.Ytnpkanlieflbiaa
/- The first undetected error: the marks of states and what they are set by; firstAt's inner closure, walked. -/
namespace Go.Proofs.Ytnpkanlieflbiaa
open Go.RowKit
set_option linter.unusedVariables false

/-- The grids, one for each place; before place m none. -/
def grsL (x : Chn) (m K : Nat) : List (List (List Int)) := (List.range K).map fun k => if k < m then [] else gridL x.S x.S (bothV x k)
theorem grsL_len (x : Chn) (m K : Nat) : (grsL x m K).length = K := by simp [grsL]
theorem grsL_at (x : Chn) {m K i : Nat} (h : i < K) (hm : m ≤ i) : nth (grsL x m K) i = gridL x.S x.S (bothV x i) := by rw [grsL, nth_range_map h, if_neg (by omega)]
theorem grsL_succ (x : Chn) (m K : Nat) : grsL x m (K + 1) = grsL x m K ++ [if K < m then [] else gridL x.S x.S (bothV x K)] := by simp [grsL, List.range_succ]
theorem grsL_zero (x : Chn) (m : Nat) : grsL x m 0 = [] := rfl

/-- A number of the grids. -/
theorem grsCell {x : Chn} {m : Nat} {P : Nat → Prop} {vb : Value} {w : World} (h : RdIII P w vb (grsL x m (x.n + 1))) {K i j : Nat} (hK : m ≤ K) (hKn : K ≤ x.n) (hi : i < x.S) (hj : j < x.S) :
    ∃ b0 o0 c0 b1 o1 c1 b2 o2 c2, vb = .slice (some ⟨b0, o0, none⟩) (x.n + 1) c0 ∧ (x.n + 1 ≤ c0 ∧ c0 ≤ maxLen) ∧ w.cell? ⟨b0, o0 + K, none⟩ = some (.slice (some ⟨b1, o1, none⟩) x.S c1) ∧ (x.S ≤ c1 ∧ c1 ≤ maxLen) ∧
      w.cell? ⟨b1, o1 + i, none⟩ = some (.slice (some ⟨b2, o2, none⟩) x.S c2) ∧ (x.S ≤ c2 ∧ c2 ≤ maxLen) ∧ w.cell? ⟨b2, o2 + j, none⟩ = some (.int .i64 (bothV x K i j : Nat)) := by
  obtain ⟨a, c, rfl, g1, g2⟩ := h.isSlice
  rw [grsL_len] at *
  obtain ⟨b0, o0, u, rfl, _, q1, q2⟩ := Rd.elim h K (by rw [grsL_len]; omega)
  rw [grsL_at x (by omega) hK] at q2
  obtain ⟨a1, c1, rfl, g3, g4⟩ := q2.isSlice
  rw [gridL_len] at *
  obtain ⟨b1, o1, b2, o2, c2, rfl, r1, r2, r3, r4⟩ := gridCell hi hj q2
  exact ⟨b0, o0, c, b1, o1, c1, b2, o2, c2, rfl, ⟨g1, g2⟩, q1, ⟨g3, g4⟩, r1, ⟨r2, r3⟩, r4⟩

/-- What the closures have and what does not turn; it all lies below M. -/
structure FA (x : Chn) (kind : Int) (p : Nat) (bc bk bp bn bb bx M : Nat) (vb : Value) (w : World) : Prop where
  lt : bc < M ∧ bk < M ∧ bp < M ∧ bn < M ∧ bb < M ∧ bx < M
  c : w.cell? ⟨bc, 0, none⟩ = some (.pointer (some ⟨bx, 0, none⟩))
  k : w.cell? ⟨bk, 0, none⟩ = some (.int .i64 kind)
  pl : w.cell? ⟨bp, 0, none⟩ = some (.int .i64 p)
  n : w.cell? ⟨bn, 0, none⟩ = some (.int .i64 (errLen kind : Nat))
  b : w.cell? ⟨bb, 0, none⟩ = some vb
  box : BoxC (· < M) w bx x
  gr : RdIII (· < M) w vb (grsL x (p + errLen kind) (x.n + 1))
section FA
variable {x : Chn} {kind : Int} {p bc bk bp bn bb bx M : Nat} {vb : Value} {w w' : World}
theorem FA.keep (h : FA x kind p bc bk bp bn bb bx M vb w) (hk : ∀ j, j < M → w'.heap[j]? = w.heap[j]?) : FA x kind p bc bk bp bn bb bx M vb w' := by
  obtain ⟨⟨l1, l2, l3, l4, l5, l6⟩, h1, h2, h3, h4, h5, h6, h7⟩ := h
  refine ⟨⟨l1, l2, l3, l4, l5, l6⟩, (cell_keep (hk _ (by show bc < _; omega))).trans h1, (cell_keep (hk _ (by show bk < _; omega))).trans h2, (cell_keep (hk _ (by show bp < _; omega))).trans h3, (cell_keep (hk _ (by show bn < _; omega))).trans h4, (cell_keep (hk _ (by show bb < _; omega))).trans h5, h6.keep fun j hj => hk j ?_, RdIII.ok.keep h7 fun j hj => hk j hj⟩
  rcases hj with hj | hj
  · exact hj
  · omega
theorem FA.draws (h : FA x kind p bc bk bp bn bb bx M vb w) (m : Nat) : FA x kind p bc bk bp bn bb bx M vb (w.drewN m) := h.keep fun _ _ => rfl
end FA
/-- The marks of one place: the row of place p lies in block gr. -/
structure MkC (w : World) (bq gq gr np p ns cr : Nat) (cur : Array Value) : Prop where
  q : w.cell? ⟨bq, 0, none⟩ = some (.slice (some ⟨gq, 0, none⟩) np np)
  lt : p < np ∧ np ≤ 21
  r : w.cell? ⟨gq, p, none⟩ = some (.slice (some ⟨gr, 0, none⟩) ns cr)
  row : w.heap[gr]? = some (.cells cur 4 (0, 0))
  sz : ns ≤ cur.size
def mkG (g : Bool) (gr s : Nat) (w : World) : World := if g then w.setCell ⟨gr, s, none⟩ (.bool true) else w

set_option maxHeartbeats 3200000 in
set_option maxRecDepth 10000 in
theorem implFA11 {x : Chn} {kind : Int} {p bc bk bp bn bb bx M bs bfr bq gq gr np s cr : Nat} {vb vf vt : Value} {f t : List Int} {P Q : Nat → Prop} {cur : Array Value} {w : World} (hv : VC x) (h : FA x kind p bc bk bp bn bb bx M vb w) (hp : p + errLen kind ≤ x.n)
    (hq : MkC w bq gq gr np p x.S cr cur) (hs : s < x.S) (c1 : w.cell? ⟨bs, 0, none⟩ = some (.int .i64 s)) (c2 : w.cell? ⟨bfr, 0, none⟩ = some vf) (hf : RdI P w vf f) (ht : RdI Q w vt t) (hfd : Digs x.b f) (htd : Digs x.b t) (hfl : f.length = errLen kind) (htl : t.length = errLen kind) :
    Calls Try.prog 155 #[vt, .pointer (some ⟨bb, 0, none⟩), .pointer (some ⟨bp, 0, none⟩), .pointer (some ⟨bn, 0, none⟩), .pointer (some ⟨bc, 0, none⟩), .pointer (some ⟨bs, 0, none⟩), .pointer (some ⟨bfr, 0, none⟩), .pointer (some ⟨bq, 0, none⟩)] w
      fun e w' => e = .returned (.tuple #[]) ∧ ∃ m, w' = mkG (decide (0 < bothV x (p + errLen kind) (runN x p s f) (runN x p s t))) gr s (w.drewN m) := by
  have hnat := hv.nat
  have hr1 := hv.runLt hfd (k := p) (s := s) (by omega) hs
  have hr2 := hv.runLt htd (k := p) (s := s) (by omega) hs
  obtain ⟨b0, o0, c0, b1, o1, c3, b2, o2, c4, rfl, ⟨g1, g2⟩, g3, ⟨g4, g5⟩, g6, ⟨g7, g8⟩, g9⟩ := grsCell h.gr (Nat.le_refl _) hp hr1 hr2
  have hle := hv.bothLe (p + errLen kind) (runN x p s f) (runN x p s t)
  have hel := errLen_bd kind
  have e1 := h.b
  have e2 := h.pl
  have e3 := h.n
  have e4 := h.c
  have q1 := hq.q
  have q2 := hq.r
  obtain ⟨u0, hu0⟩ : ∃ u, cur[s]? = some u := ⟨_, Array.getElem?_eq_getElem (Nat.lt_of_lt_of_le hs hq.sz)⟩
  have q3 := heap_cell hq.row (i := s) hu0
  have q4 := frozen_at hq.row s
  have hl1 := Lib.hid (fun m => implLeads (h.box.draws m) hv p s (rd_draws RdI.ok hf m) hfd (by omega) hs)
  have hl2 := Lib.hid (fun m => implLeads (h.box.draws m) hv p s (rd_draws RdI.ok ht m) htd (by omega) hs)
  have hnp := hq.lt
  obtain ⟨NS, hNS⟩ : ∃ n, n = x.S := ⟨_, rfl⟩
  obtain ⟨NN, hNN⟩ : ∃ n, n = x.n + 1 := ⟨_, rfl⟩
  obtain ⟨PN, hPN⟩ : ∃ n, n = p + errLen kind := ⟨_, rfl⟩
  rw [← hNS] at g3 g4 g6 g7 q2 hr1 hr2 hs
  rw [← hNN] at g1 e1
  rw [← hPN] at g3 g9 hle ⊢
  obtain ⟨NE, hNE⟩ : ∃ n, n = errLen kind := ⟨_, rfl⟩
  rw [← hNE] at e3 hPN hel
  have hPP : PN < NN := by omega
  have hw1 : IntKind.i64.wrap ((p : Int) + (NE : Int)) = (PN : Int) := by rw [hPN, Int.natCast_add]; exact IntWalk.i64_in _ (by omega)
  have i0 : (0 : Int) ≤ (PN : Int) := by omega
  have i1 : (PN : Int) < (NN : Int) := by omega
  generalize runN x p s f = ra at *
  generalize runN x p s t = rb at *
  generalize bothV x PN ra rb = E at *
  have i2 : (0 : Int) ≤ (ra : Int) := by omega
  have i3 : (ra : Int) < (NS : Int) := by omega
  have i4 : (0 : Int) ≤ (rb : Int) := by omega
  have i5 : (rb : Int) < (NS : Int) := by omega
  have i6 : (0 : Int) ≤ (p : Int) := by omega
  have i7 : (p : Int) < (np : Int) := by omega
  have i8 : (0 : Int) ≤ (s : Int) := by omega
  have i9 : (s : Int) < (NS : Int) := by omega
  have hnp2 : np ≤ 21 := hnp.2
  have hNS2 : NS ≤ 36 := by omega
  have hNN2 : NN ≤ 21 := by omega
  unfold maxLen at g2 g5 g8
  clear hu0 hv h hq hf ht hfd htd hfl htl hPN hNE hNS hNN hnat hel hp hnp
  go_enter Try.func155, Try.ntmps155
  by_cases hE : 0 < E
  · have hE1 : (0 : Int) < (E : Int) := by omega
    rw [decide_eq_true hE]
    clear hE
    go_wp2
    go_quiet (first | with_reducible exact quiet_draws (hl1.out _) | with_reducible exact quiet_draws (hl2.out _))
    go_wp2
    refine wp_region_quiet_tail_lit 6 (by kernel_rfl) (by kernel_rfl) ?_
    simp only [List.take_succ_cons, List.take_zero, List.drop_succ_cons, List.drop_zero]
    repeat (go_big_quiet_step (fail))
    refine wpQuiet_nil ?_
    rintro _ ⟨nq2, rfl⟩
    go_wp2
    exact bodyPost_end (results_none rfl _ _ _) rfl ⟨rfl, _, rfl⟩
  · obtain rfl : E = 0 := by omega
    rw [decide_eq_false (by omega)]
    clear hE
    go_wp2
    go_quiet (first | with_reducible exact quiet_draws (hl1.out _) | with_reducible exact quiet_draws (hl2.out _))
    go_wp2
    exact bodyPost_end (results_none rfl _ _ _) rfl ⟨rfl, _, rfl⟩
end Go.Proofs.Ytnpkanlieflbiaa
