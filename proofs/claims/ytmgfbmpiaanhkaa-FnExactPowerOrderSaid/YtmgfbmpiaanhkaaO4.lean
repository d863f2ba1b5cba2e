/- Orders: the cycles. -/
import Derived.Test.YtmgfbmpiaanhkaaO3
namespace Go.Proofs.Ytmgfbmpiaanhkaa
open Go.RowKit
set_option linter.unusedVariables false

theorem infoB2 : (Try.prog.info? 4).map (fun i => (i.zero, i.size, i.bytes)) = some (some (.bool false), 1, 1) := by kernel_rfl
theorem infoSl2' : (Try.prog.info? 29).map (fun i => (i.zero, i.size, i.bytes)) = some (some (.slice none 0 0), 1, 24) := by kernel_rfl
abbrev OB2 := OwnB 4
theorem OB2.ok : Rep.Ok OB2 := Own.ok oB.ok
def slLen : Value → Nat
  | .slice _ n _ => n
  | _ => 0
theorem Own.slLen {α : Type} [Inhabited α] {E : TypeId} {R : Rep α} {w : World} {v : Value} {xs : List α} {S : List Nat} (h : Own E R w v xs S) : slLen v = xs.length := by
  rcases h with ⟨rfl, rfl, _⟩ | ⟨g, cap, cur, Ss, rfl, _⟩ <;> rfl
theorem Own.other2 {α : Type} [Inhabited α] {E : TypeId} {R : Rep α} (hR : R.Ok) {w : World} {v : Value} {xs : List α} {S : List Nat} (h : Own E R w v xs S) {g i : Nat} (hg : g ∉ S) (u : Value) : Own E R (w.setCell ⟨g, i, none⟩ u) v xs S :=
  h.keep hR fun k hk => heap_setCell_other w _ k u (fun e => hg (by simp at e; rw [← e]; exact hk))
theorem Own.alloc2 {α : Type} [Inhabited α] {E : TypeId} {R : Rep α} (hR : R.Ok) {w : World} {v : Value} {xs : List α} {S : List Nat} (h : Own E R w v xs S) (o : Obj) : Own E R (w.alloc o) v xs S :=
  h.keep hR fun k hk => Below.heap_alloc _ _ _ ((Own.ok hR).lt h k hk)
theorem Own.empty {α : Type} [Inhabited α] (E : TypeId) (R : Rep α) (w : World) : Own E R (w.alloc (.cells #[] E)) (.slice (some ⟨w.heap.size, 0, none⟩) 0 0) [] [w.heap.size] :=
  .inr ⟨w.heap.size, 0, #[], [], rfl, heap_alloc_new w _, rfl, by simp, by simp, by simp, by simp, by simp, fun i hi => absurd hi (by simp)⟩

theorem Only.cell {S : List Nat} {w w' : World} (h : Only S w w') {p : Addr} (hp : p.block < w.heap.size) (hS : p.block ∉ S) : w'.cell? p = w.cell? p := cell_keep (h.block _ hp hS)
theorem setCell_size (w : World) (p : Addr) (v : Value) : (w.setCell p v).heap.size = w.heap.size := by simp
theorem alloc_size2 (w : World) (o : Obj) : (w.alloc o).heap.size = w.heap.size + 1 := by simp
/-- Steps from x on, up to what has been seen: what has been seen then, and the steps. -/
def cyc (f : List Int) : Nat → List Bool → List Int → Nat → List Bool × List Int
  | 0, s, c, x => (s, c)
  | n + 1, s, c, x => if nth s x then (s, c) else cyc f n (s.set x true) (c ++ [(x : Int)]) (nth f x).toNat
theorem cyc_seen {f : List Int} {n : Nat} {s : List Bool} {c : List Int} {x : Nat} (h : nth s x = true) : cyc f n s c x = (s, c) := by
  cases n with
  | zero => rfl
  | succ n => simp [cyc, h]
theorem cyc_step {f : List Int} {n : Nat} {s : List Bool} {c : List Int} {x : Nat} (h : nth s x = false) : cyc f (n + 1) s c x = cyc f n (s.set x true) (c ++ [(x : Int)]) (nth f x).toNat := by simp [cyc, h]
theorem cyc_ge (f : List Int) : ∀ n s c x, c.length ≤ (cyc f n s c x).2.length := by
  intro n
  induction n with
  | zero => intro s c x; exact Nat.le_refl _
  | succ n ih =>
    intro s c x
    unfold cyc
    split
    · exact Nat.le_refl _
    · have := ih (s.set x true) (c ++ [(x : Int)]) (nth f x).toNat
      simp only [List.length_append, List.length_singleton] at this
      omega
theorem cyc_ne (f : List Int) (n : Nat) (s : List Bool) (c : List Int) (x : Nat) (h : nth s x = false) (hn : 1 ≤ n) : (cyc f n s c x).2 ≠ [] := by
  obtain ⟨m, rfl⟩ : ∃ m, n = m + 1 := ⟨n - 1, by omega⟩
  rw [cyc_step h]
  intro e
  have := cyc_ge f m (s.set x true) (c ++ [(x : Int)]) (nth f x).toNat
  rw [e] at this
  simp at this
def unseen (s : List Bool) : Nat := s.countP (· == false)
theorem unseen_set {s : List Bool} {x : Nat} (hx : x < s.length) (h : nth s x = false) : unseen (s.set x true) + 1 = unseen s := by
  unfold unseen
  rw [nth_eq hx] at h
  have h1 := List.countP_set (p := (· == false)) (l := s) (a := true) hx
  have h2 : 0 < s.countP (· == false) := List.countP_pos_iff.2 ⟨s[x], List.getElem_mem hx, by rw [h]; rfl⟩
  have h3 : (s.set x true).countP (· == false) = s.countP (· == false) - 1 := by rw [h1, h]; simp
  rw [h3]; omega
theorem unseen_le (s : List Bool) : unseen s ≤ s.length := List.countP_le_length
/-- The state behind the first k numbers: what has been seen, and the cycles. -/
def cycTo (f : List Int) (k : Nat) : List Bool × List (List Int) :=
  iterK (fun st i => ((cyc f f.length st.1 [] i).1, if (cyc f f.length st.1 [] i).2 = [] then st.2 else st.2 ++ [(cyc f f.length st.1 [] i).2])) (List.replicate f.length false, []) k
theorem cycTo_succ (f : List Int) (k : Nat) : cycTo f (k + 1) = ((cyc f f.length (cycTo f k).1 [] k).1, if (cyc f f.length (cycTo f k).1 [] k).2 = [] then (cycTo f k).2 else (cycTo f k).2 ++ [(cyc f f.length (cycTo f k).1 [] k).2]) := rfl
def cycL (f : List Int) : List (List Int) := (cycTo f f.length).2
def cycV (f : List Int) : List (List Int) := if isOrd f 36 then cycL f else []
theorem cycV_no {f : List Int} (h : isOrd f 36 = false) : cycV f = [] := by simp [cycV, h]
theorem cycV_yes {f : List Int} (h : isOrd f 36 = true) : cycV f = cycL f := by simp [cycV, h]
theorem cyc_len (f : List Int) : ∀ n s c x, (cyc f n s c x).1.length = s.length ∧ (cyc f n s c x).2.length ≤ c.length + n := by
  intro n
  induction n with
  | zero => intro s c x; exact ⟨rfl, by simp [cyc]⟩
  | succ n ih =>
    intro s c x
    unfold cyc
    split
    · exact ⟨rfl, by show c.length ≤ _; omega⟩
    · have := ih (s.set x true) (c ++ [(x : Int)]) (nth f x).toNat
      simp only [List.length_set, List.length_append, List.length_singleton] at this
      exact ⟨this.1, by omega⟩
theorem cycTo_len (f : List Int) (k : Nat) : (cycTo f k).1.length = f.length ∧ (cycTo f k).2.length ≤ k ∧ ∀ c ∈ (cycTo f k).2, c.length ≤ f.length := by
  induction k with
  | zero => exact ⟨by simp [cycTo, iterK], by simp [cycTo, iterK], by simp [cycTo, iterK]⟩
  | succ k ih =>
    have h1 := cyc_len f f.length (cycTo f k).1 [] k
    rw [cycTo_succ]
    refine ⟨by rw [h1.1, ih.1], ?_, ?_⟩
    · show (if _ then _ else _ : List (List Int)).length ≤ _
      split
      · omega
      · simp; omega
    · intro c hc
      have hc' : c ∈ (if (cyc f f.length (cycTo f k).1 [] k).2 = [] then (cycTo f k).2 else (cycTo f k).2 ++ [(cyc f f.length (cycTo f k).1 [] k).2]) := hc
      split at hc'
      · exact ih.2.2 c hc'
      · rcases List.mem_append.1 hc' with h | h
        · exact ih.2.2 c h
        · simp at h; subst h; have := h1.2; simp at this; exact this
theorem cntL_bd {t : List (List Int)} {a b : Nat} (hl : t.length ≤ a) (h : ∀ c ∈ t, c.length ≤ b) : cntL List.length t ≤ a * b := by
  have : cntL List.length t ≤ t.length * b := by
    clear hl
    induction t with
    | nil => simp [cntL]
    | cons x t ih =>
      have h1 := h x (by simp)
      have h2 := ih (fun y hy => h y (by simp [hy]))
      simp only [cntL, List.map_cons, List.sum_cons, List.length_cons, Nat.succ_mul] at h2 ⊢
      omega
  exact Nat.le_trans this (Nat.mul_le_mul_right _ hl)
theorem cycV_cnt (f : List Int) : cntL List.length (cycV f) ≤ 1296 := by
  unfold cycV
  split
  · rename_i h
    have hl := isOrd_len h
    have h1 := cycTo_len f f.length
    exact cntL_bd (a := 36) (b := 36) (by have := h1.2.1; unfold cycL; omega) (fun c hc => by have := h1.2.2 c hc; omega)
  · simp [cntL]

set_option maxRecDepth 10000 in
set_option maxHeartbeats 2000000 in
theorem specCycles {B : Nat} {v : Value} {f : List Int} {w : World} (h : RdI (· < B) w v f) (hB : B ≤ w.heap.size) (hn : f.length ≤ 36) (hc : Closed f) :
    Calls Try.prog 74 #[v] w fun e w' => ∃ v, e = .returned v ∧ Fresh OII w w' v (cycL f) := by
  have h0 := Lib.hid h
  have Hc := Lib.hid hc
  obtain ⟨a, c, rfl, h1, h2, _⟩ := id h
  have hmk := run_make_row' (P := Try.prog) 68 4 (.bool false) 1 Try.underlying68 infoB2 rfl .i64 .i64 f.length (by omega) (by omega)
  unfold maxLen at h2
  clear h hc
  go_enter Try.func74, Try.ntmps74
  go_wp2
  obtain ⟨gs, hgs0⟩ : ∃ gs, gs = w.heap.size := ⟨_, rfl⟩
  have hgs : w.heap.size ≤ gs := by omega
  rw [← hgs0]
  have Hgs0 := Lib.hid hgs0
  clear hgs0
  go_loopw [4, 5] (fun vo i wr => ∃ (k : Nat) (So : List Nat), k ≤ f.length ∧ i = .int .i64 k ∧ OB2 wr (.slice (some ⟨gs, 0, none⟩) f.length f.length) (cycTo f k).1 [gs] ∧ OII wr vo (cycTo f k).2 So ∧ Hid (∀ j ∈ So, w.heap.size ≤ j ∧ j ≠ gs) ∧ Below w.heap.size w wr) (fun _ i _ => f.length - (intOf i).toNat)
  case atStart => exact ⟨0, [gs + 1], Nat.zero_le _, rfl, by rw [Hgs0.out]; exact Own.alloc2 oB.ok (Own.made w _ fB false _ (by unfold maxLen; omega)) _, by rw [Hgs0.out]; have := Own.empty 29 OI (w.alloc (.cells (madeCells #[.bool false] f.length) 4)); rwa [alloc_size2] at this, Lib.hid (by simp; have := Hgs0.out; omega), ((Below.refl _ _).alloc (Nat.le_refl _) _).alloc (by simp) _⟩
  case round =>
    obtain ⟨k, So, hk, rfl, hos, hoo, hSo, hbel⟩ := hrel
    obtain ⟨W2, rfl⟩ : ∃ W2, W2 = wr := ⟨_, rfl⟩
    have hcl := cycTo_len f k
    by_cases hlt : k < f.length
    · have hgsz := OB2.ok.lt hos gs (by simp)
      have Hos := Lib.hid hos
      have Hoo := Lib.hid hoo
      have Hbel := Lib.hid hbel
      have hnx := Lib.hid (cycTo_succ f k)
      have hcell0 := hos.cell (i := k) (by rw [hcl.1]; exact hlt)
      clear hos hoo hbel
      cases hsk : nth (cycTo f k).1 k
      rotate_left
      · rw [hsk] at hcell0
        have hsame := Lib.hid (show cycTo f (k + 1) = cycTo f k by rw [hnx.out, cyc_seen hsk]; rfl)
        go_wp2
        go_roundw
        case rel => exact ⟨k + 1, So, by omega, by go_num, by rw [hsame.out]; exact Hos.out, by rw [hsame.out]; exact Hoo.out, hSo, Hbel.out⟩
        case measure => simp [intOf]; omega
      rw [hsk] at hcell0
      have hsk0 := Lib.hid hsk
      clear hsk
      go_wp2
      go_loopw [6, 7] (fun vc vx wc => ∃ (c : List Int) (x : Nat) (s : List Bool) (S : List Nat), vx = .int .i64 x ∧ x < f.length ∧ Hid (cyc f (f.length - c.length) s c x = cyc f f.length (cycTo f k).1 [] k) ∧ Hid (s.length = f.length ∧ c.length + unseen s ≤ f.length) ∧
          OI wc vc c S ∧ Hid (∀ j ∈ S, W2.heap.size ≤ j) ∧ OB2 wc (.slice (some ⟨gs, 0, none⟩) f.length f.length) s [gs] ∧ OII wc u4 (cycTo f k).2 So ∧ Below w.heap.size w wc ∧ W2.heap.size ≤ wc.heap.size) (fun vc _ _ => f.length - slLen vc)
      case atStart => exact ⟨[], k, _, _, rfl, hlt, Lib.hid rfl, Lib.hid ⟨hcl.1, by have := unseen_le (cycTo f k).1; simp; omega⟩, Own.empty _ _ _, Lib.hid (by simp), Own.alloc2 oB.ok Hos.out _, Own.alloc2 OI.ok Hoo.out _, Hbel.out.alloc Hbel.out.size _, by simp⟩
      case round =>
        obtain ⟨c, x, s, S, rfl, hxl, hcy, hsl, hoc, hS, hos, hoo, hbel, hsz⟩ := hrel
        have hlen := hoc.slLen
        have hcs := hos.cell (i := x) (by rw [hsl.out.1]; exact hxl)
        cases hsx : nth s x
        · have hun := unseen_set (by rw [hsl.out.1]; exact hxl) hsx
          have hcl9 : c.length < f.length := by have := hsl.out.2; omega
          rw [hsx] at hcs
          obtain ⟨b, o, u, e0, hPb, hcf, rfl⟩ := (Rd.below RdI.ok h0.out (hbel.mono hB)).elim x hxl
          subst e0
          obtain ⟨Z, hZ⟩ := Int.eq_ofNat_of_zero_le (Hc.out x hxl).1
          have hZl : Z < f.length := by have := (Hc.out x hxl).2; omega
          have hf2 := hos.frozen x
          have hos2 := Lib.hid (hos.put (i := x) (by rw [hsl.out.1]; exact hxl) true)
          have hoc2 := Lib.hid (Own.other2 oI.ok hoc (g := gs) (i := x) (fun hm => by have := hS.out gs hm; omega) (.bool true))
          have hoo2 := Lib.hid (Own.other2 OI.ok hoo (g := gs) (i := x) (fun hm => (hSo.out gs hm).2 rfl) (.bool true))
          have hbel2 := Lib.hid (hbel.setCell (p := ⟨gs, x, none⟩) hgs (.bool true))
          have hcf2 : (wr.setCell ⟨gs, x, none⟩ (.bool true)).cell? ⟨b, o + x, none⟩ = some (.int .i64 Z) := by
            rw [← hZ]
            exact (hbel2.out.cell (p := ⟨b, o + x, none⟩) (Nat.lt_of_lt_of_le hPb hB)).trans (by
              have := (h0.out.elim x hxl)
              obtain ⟨b', o', u', e1, _, e2, e3⟩ := this
              simp only [Option.some.injEq, Addr.mk.injEq, and_true] at e1
              obtain ⟨rfl, rfl⟩ := e1
              rw [e2, e3])
          have hcy2 := Lib.hid (show cyc f (f.length - (c ++ [(x : Int)]).length) (s.set x true) (c ++ [(x : Int)]) Z = cyc f f.length (cycTo f k).1 [] k by
            rw [← hcy.out, show f.length - c.length = (f.length - (c ++ [(x : Int)]).length) + 1 by simp; omega, cyc_step hsx, hZ]; rfl)
          have hsl2 := Lib.hid (show (s.set x true).length = f.length ∧ (c ++ [(x : Int)]).length + unseen (s.set x true) ≤ f.length by
            refine ⟨by rw [List.length_set]; exact hsl.out.1, ?_⟩
            have := hsl.out.2
            simp only [List.length_append, List.length_singleton]; omega)
          have hb1 : b < (wr.setCell ⟨gs, x, none⟩ (.bool true)).heap.size := by have := hbel2.out.size; omega
          have hb2 : b ∉ S := fun hm => by have := hS.out b hm; have := Hbel.out.size; omega
          have hsz2 : W2.heap.size ≤ (wr.setCell ⟨gs, x, none⟩ (.bool true)).heap.size := by simpa using hsz
          clear hoc hos hoo hbel hcf hZ hun hsx
          go_wp2_with (at_builtin; refine wpList_push rfl _ _ 29 rfl oI.ok Try.underlying29 infoI64 rfl hoc2.out (u := .int .i64 x) (y := (x : Int)) (T := []) ⟨rfl, rfl⟩ (by simp) (by omega) (by unfold maxLen; omega) rfl (by rw [setCell_size]; rfl) ?_; intro v1 w1 S1 hown1 honly1 hS1; have hcf3 := (honly1.cell hb1 hb2).trans hcf2)
          go_roundw
          case rel =>
            refine ⟨_, Z, _, S1, rfl, hZl, hcy2, hsl2, hown1, Lib.hid fun j hj => ?_, Own.only oB.ok hos2.out honly1 (fun j hj hm => by simp at hj; have := hS.out j hm; omega), Own.only OI.ok hoo2.out honly1 (fun j hj hm => by have h8 := hS.out j hm; have h9 := OII.ok.lt Hoo.out j hj; omega), below_only hbel2.out honly1 hbel2.out.size (fun j hj => by have := hS.out j hj; have := Hbel.out.size; omega), Nat.le_trans hsz2 honly1.size⟩
            rcases hS1 j hj with h | h | h
            · exact hS.out j h
            · simp at h
            · omega
          case measure =>
            have := hown1.slLen
            simp only [List.length_append, List.length_singleton] at this
            omega
        · rw [hsx] at hcs
          have hR := hcy.out.symm.trans (cyc_seen hsx)
          have hRn := cyc_ne f f.length (cycTo f k).1 [] k hsk0.out (by omega)
          have hnx2 := Lib.hid (show cycTo f (k + 1) = (s, (cycTo f k).2 ++ [c]) by rw [hnx.out, if_neg hRn, hR])
          obtain ⟨av, nv, cv, rfl⟩ := hoc.isSlice
          have Hoo2 := Lib.hid hoo
          have Hoc2 := Lib.hid hoc
          have Hos2 := Lib.hid hos
          have Hbel2 := Lib.hid hbel
          have hdj := Lib.hid (show ∀ j ∈ S, j ∉ So from fun j hj hm => by have h8 := hS.out j hj; have h9 := OII.ok.lt Hoo.out j hm; omega)
          have hcl2 := hcl.2.1
          clear hR hRn hoo hoc hos hbel hcl hsx
          go_wp2_with (at_builtin; refine wpList_push rfl _ _ 46 rfl OI.ok Try.underlying46 infoSl2' rfl Hoo2.out Hoc2.out hdj.out (by omega) (by unfold maxLen; omega) rfl rfl ?_; intro v1 w1 S1 hown1 honly1 hS1)
          go_roundw
          case rel =>
            refine ⟨k + 1, S1, by omega, by go_num, by rw [hnx2.out]; exact Own.only oB.ok Hos2.out honly1 (fun j hj hm => by simp at hj; exact (hSo.out j hm).2 hj), by rw [hnx2.out]; exact hown1, Lib.hid fun j hj => ?_, below_only Hbel2.out honly1 Hbel2.out.size (fun j hj => (hSo.out j hj).1)⟩
            have hw2 := Hbel.out.size
            rcases hS1 j hj with h | h | h
            · exact hSo.out j h
            · have := hS.out j h; omega
            · omega
          case measure => simp [intOf]; omega
    · obtain rfl : k = f.length := by omega
      go_wp2
      go_ret
      exact ⟨_, rfl, So, hoo, fun j hj => (hSo.out j hj).1, hbel⟩
end Go.Proofs.Ytmgfbmpiaanhkaa
