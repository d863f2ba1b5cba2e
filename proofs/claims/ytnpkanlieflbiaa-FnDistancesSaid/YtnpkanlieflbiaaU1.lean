/- A drawn table of states. Printed by gen_u1.py. -/
import Derived.Test.YtnpkanlieflbiaaR1
import Derived.Test.YtnpkanlieflbiaaB1
import Derived.Test.YtnpkanlieflbiaaS1
namespace Go.Proofs.Ytnpkanlieflbiaa
open Go.RowKit
set_option linter.unusedVariables false

theorem only_morU {T S : List Nat} {a b c : World} (h : Only T a b) (k : Only S b c) (hS : ∀ i ∈ S, a.heap.size ≤ i) : Only T a c :=
  ⟨k.os.trans h.os, k.tape.trans h.tape, k.output.trans h.output, Nat.le_trans h.size k.size, fun i hi ht => (k.block i (Nat.lt_of_lt_of_le hi h.size) fun hm => by have := hS i hm; omega).trans (h.block i hi ht)⟩
def RowD (NS : Nat) (r : List Int) : Prop := ∀ d, d < r.length → 0 ≤ nth r d ∧ nth r d < NS
def TabD (NS NB : Nat) (t : List (List Int)) : Prop := ∀ s, s < t.length → (nth t s).length = NB ∧ RowD NS (nth t s)
theorem RowD.snoc {NS : Nat} {r : List Int} (h : RowD NS r) {z : Int} (hz : 0 ≤ z ∧ z < NS) : RowD NS (r ++ [z]) := fun d hd => by
  by_cases e : d < r.length
  · rw [nth_append_left e]; exact h d e
  · obtain rfl : d = r.length := by simp at hd; omega
    rw [nth_append_last]; exact hz
theorem TabD.snoc {NS NB : Nat} {t : List (List Int)} (h : TabD NS NB t) {r : List Int} (hl : r.length = NB) (hr : RowD NS r) : TabD NS NB (t ++ [r]) := fun s hs => by
  by_cases e : s < t.length
  · rw [nth_append_left e]; exact h s e
  · obtain rfl : s = t.length := by simp at hs; omega
    rw [nth_append_last]; exact ⟨hl, hr⟩
/-- A table and a row in the making beside a source of choices. -/
structure TR (B b A n0 : Nat) (w wr : World) (tv rv : Value) (t : List (List Int)) (r : List Int) (S T : List Nat) : Prop where
  tab : OII wr tv t S
  row : OI wr rv r T
  b1 : ∀ j ∈ S, n0 ≤ j
  b2 : ∀ j ∈ T, n0 ≤ j
  d : ∀ j ∈ T, j ∉ S
  src : Src B wr b A
  only : Only [b] w wr
  le : w.heap.size = n0
  lt : b < n0
section tr
variable {B b A A' n0 : Nat} {w wr w1 : World} {tv rv v1 : Value} {t : List (List Int)} {r : List Int} {S T : List Nat}
theorem TR.ask (h : TR B b A n0 w wr tv rv t r S T) (h2 : Src B w1 b A') (ho : Only [b] wr w1) : TR B b A' n0 w w1 tv rv t r S T :=
  ⟨OII.ok.keep h.tab fun k hk => ho.block k (OII.ok.lt h.tab k hk) (by have := h.b1 k hk; have := h.lt; simp; omega), OI.ok.keep h.row fun k hk => ho.block k (OI.ok.lt h.row k hk) (by have := h.b2 k hk; have := h.lt; simp; omega), h.b1, h.b2, h.d, h2, h.only.trans ho, h.le, h.lt⟩
theorem TR.pushR (h : TR B b A n0 w wr tv rv t r S T) {T' : List Nat} {r' : List Int} (ho : OI w1 v1 r' T') (hn : Only T wr w1) (hT : ∀ k ∈ T', k ∈ T ∨ k ∈ ([] : List Nat) ∨ wr.heap.size ≤ k) : TR B b A n0 w w1 tv v1 t r' S T' := by
  have l1 := OII.ok.lt h.tab
  have l2 := h.src.lt
  have hz := h.only.size
  have h0 := h.src.1
  have hle := h.le
  have hlt := h.lt
  refine ⟨OII.ok.keep h.tab fun k hk => hn.block k (l1 k hk) (fun hm => h.d k hm hk), ho, h.b1, fun k hk => ?_, fun k hk hm => ?_, h.src.keep fun k hk => hn.block k (by omega) (fun hm => by have := h.b2 k hm; omega), only_morU h.only hn (fun k hk => by have := h.b2 k hk; omega), h.le, h.lt⟩
  · rcases hT k hk with e | e | e
    · exact h.b2 k e
    · simp at e
    · omega
  · rcases hT k hk with e | e | e
    · exact h.d k e hm
    · simp at e
    · have := l1 k hm; omega
theorem TR.pushT (h : TR B b A n0 w wr tv rv t r S T) {S' : List Nat} {t' : List (List Int)} (ho : OII w1 v1 t' S') (hn : Only S wr w1) (hT : ∀ k ∈ S', k ∈ S ∨ k ∈ T ∨ wr.heap.size ≤ k) : TR B b A n0 w w1 v1 (.slice none 0 0) t' [] S' [] := by
  have l2 := h.src.lt
  have hz := h.only.size
  have h0 := h.src.1
  have hle := h.le
  have hlt := h.lt
  refine ⟨ho, own_nil _, fun k hk => ?_, by simp, by simp, h.src.keep fun k hk => hn.block k (by omega) (fun hm => by have := h.b1 k hm; omega), only_morU h.only hn (fun k hk => by have := h.b1 k hk; omega), h.le, h.lt⟩
  rcases hT k hk with e | e | e
  · exact h.b1 k e
  · exact h.b2 k e
  · omega
/-- A new row is begun. -/
theorem TR.fresh (h : TR B b A n0 w wr tv rv t r S T) : TR B b A n0 w (wr.alloc (.cells #[] 2)) tv (.slice (some ⟨wr.heap.size, 0, none⟩) 0 0) t [] S [wr.heap.size] := by
  have l1 := OII.ok.lt h.tab
  have hz := h.only.size
  have hle := h.le
  have hb : Below wr.heap.size wr (wr.alloc (.cells #[] 2)) := (Below.refl _ _).alloc (Nat.le_refl _) _
  have l2 := h.src.lt
  have h0 := h.src.1
  exact ⟨OII.ok.keep h.tab fun k hk => hb.block k (l1 k hk), .inr ⟨_, 0, #[], [], rfl, heap_alloc_new wr _, rfl, by simp, by simp [maxLen], by simp, by simp, rfl, fun i hi => absurd hi (by simp)⟩, h.b1, fun k hk => by simp at hk; omega, fun k hk hm => by simp at hk; have := l1 k hm; omega,
    h.src.keep fun k hk => hb.block k (by omega), h.only.trans ⟨hb.os, hb.tape, hb.output, hb.size, fun k hk _ => hb.block k hk⟩, h.le, h.lt⟩
theorem TR.more (h : TR B b A n0 w wr tv rv t r S T) (hA : A ≤ A') : TR B b A' n0 w wr tv rv t r S T := ⟨h.tab, h.row, h.b1, h.b2, h.d, h.src.more hA, h.only, h.le, h.lt⟩
end tr
theorem mulF {a d : Int} (ha : 1 ≤ a ∧ a ≤ 10) (hd : 0 ≤ d ∧ d ≤ 10) : 0 ≤ a * d ∧ a * d ≤ 100 := by
  have h1 : 0 ≤ a * d := Int.mul_nonneg (by omega) hd.1
  have h2 : a * d ≤ 10 * 10 := Int.mul_le_mul ha.2 hd.2 hd.1 (by omega)
  omega
theorem modF {p : Int} {N : Nat} (hp : 0 ≤ p) (hN : 1 ≤ N ∧ N ≤ 10) : ∃ y : Nat, y < N ∧ Int.tmod p (N : Int) = (y : Int) ∧ wrap64 (y : Int) = (y : Int) := by
  obtain ⟨q, rfl⟩ := Int.eq_ofNat_of_zero_le hp
  refine ⟨q % N, Nat.mod_lt _ (by omega), ?_, IntWalk.wrap64_in _ ?_⟩
  · rw [Int.tmod_eq_emod_of_nonneg (by omega), Int.natCast_emod]
  · have := Nat.mod_lt q (show N > 0 by omega)
    generalize q % N = z at *
    omega
set_option maxHeartbeats 3200000 in
set_option maxRecDepth 100000 in
theorem specDrawTable {B b A : Nat} {w : World} (h : Src B w b A) (hA : A ≤ 1000000000) (NS NB : Nat) (hs : 1 ≤ NS ∧ NS ≤ 10) (hb : 1 ≤ NB ∧ NB ≤ 10) :
    Calls Try.prog 136 #[.pointer (some ⟨b, 0, none⟩), .int .i64 NS, .int .i64 NB] w fun e w' => ∃ v t, e = .returned v ∧ (∃ S, OII w' v t S ∧ ∀ k ∈ S, w.heap.size ≤ k) ∧ Src B w' b (A + 500) ∧ Only [b] w w' ∧ t.length = NS ∧ TabD NS NB t := by
  have H := Lib.hid h
  have hlt := h.lt; clear h
  go_enter Try.func136, Try.ntmps136
  go_wp2_with fail
  refine (srcPick H.out (by omega) 4 (by omega)).mono ?_
  rintro e w1 ⟨⟨kd, hkd, rfl⟩, hs1, ho1⟩
  have hkd1 : 0 ≤ kd ∧ kd < 4 := ⟨hkd.1, hkd.2.1 (by omega)⟩
  have Hs1 := Lib.hid hs1
  have Ho1 := Lib.hid ho1
  clear hkd hs1 ho1
  go_wp2_with fail
  refine (srcPick Hs1.out (by omega) NS (by omega)).mono ?_
  rintro e w2 ⟨⟨by0, hby, rfl⟩, hs2, ho2⟩
  obtain ⟨BY, rfl⟩ : ∃ q, by0 = q - 1 := ⟨by0 + 1, by omega⟩
  have hBYb : 1 ≤ BY ∧ BY ≤ 10 := by have := hby.2.1 (by omega); have := hby.1; omega
  have Hs2 := Lib.hid (hs2.more (show _ ≤ A + 4 by omega))
  have Ho2 := Lib.hid (Ho1.out.trans ho2)
  have Ht0 := Lib.hid (show TR B b (A + 4 + 2 * (NB * 0)) w.heap.size w (w2.alloc (.cells #[] 22)) (.slice (some ⟨w2.heap.size, 0, none⟩) 0 0) (.slice none 0 0) [] [] [w2.heap.size] [] from by
    have hz := Ho2.out.size
    have hb2 : Below w2.heap.size w2 (w2.alloc (.cells #[] 22)) := (Below.refl _ _).alloc (Nat.le_refl _) _
    have l2 := Hs2.out.lt
    have h0 := Hs2.out.1
    exact ⟨.inr ⟨_, 0, #[], [], rfl, heap_alloc_new w2 _, rfl, by simp, by simp [maxLen], by simp, by simp, rfl, fun i hi => absurd hi (by simp)⟩, own_nil _, fun k hk => by simp at hk; omega, by simp, by simp, (Hs2.out.keep fun k hk => hb2.block k (by omega)).more (by omega), Ho2.out.trans ⟨hb2.os, hb2.tape, hb2.output, hb2.size, fun k hk _ => hb2.block k hk⟩, rfl, hlt⟩)
  clear hby hs2 ho2 Hs1 Ho1
  have hm4 : (1 : Int) + (BY - 1) = BY := by omega
  go_wp2
  clear hm4
  go_loopw [9, 10] (fun tv sv wr => ∃ (s : Nat) (t : List (List Int)) (S : List Nat), s ≤ NS ∧ sv = .int .i64 s ∧ Hid (t.length = s) ∧ Hid (TabD NS NB t) ∧ Hid (TR B b (A + 4 + 2 * (NB * s)) w.heap.size w wr tv (.slice none 0 0) t [] S [])) (fun _ sv _ => NS - (intOf sv).toNat)
  case atStart => exact ⟨0, [], _, Nat.zero_le _, rfl, Lib.hid rfl, Lib.hid (fun s hs => by simp at hs), Ht0⟩
  case round =>
    clear Ht0
    obtain ⟨s, t, S, hsl, rfl, htl, htd, ht⟩ := hrel
    obtain ⟨W2, rfl⟩ : ∃ W2, W2 = wr := ⟨_, rfl⟩
    by_cases hsN : s < NS
    · have hsN2 : (s : Int) < (NS : Int) := by omega
      obtain ⟨at_, nt, ct, rfl⟩ := ht.out.tab.isSlice
      go_wp2
      have Hr0 := Lib.hid (show TR B b (A + 4 + 2 * (NB * s + 0)) w.heap.size w _ _ _ t [] S _ from ht.out.fresh)
      go_loopw [11, 12] (fun rv dv wr => ∃ (d : Nat) (r : List Int) (T : List Nat), d ≤ NB ∧ dv = .int .i64 d ∧ Hid (r.length = d) ∧ Hid (RowD NS r) ∧ Hid (TR B b (A + 4 + 2 * (NB * s + d)) w.heap.size w wr (.slice at_ nt ct) rv t r S T)) (fun _ dv _ => NB - (intOf dv).toNat)
      case atStart => exact ⟨0, [], _, Nat.zero_le _, rfl, Lib.hid rfl, Lib.hid (fun s hs => by simp at hs), Hr0⟩
      case round =>
        clear Hr0
        obtain ⟨d, r, T, hdl, rfl, hrl, hrd, hr⟩ := hrel
        obtain ⟨W3, rfl⟩ : ∃ W3, W3 = wr := ⟨_, rfl⟩
        by_cases hdN : d < NB
        · have hdN2 : (d : Int) < (NB : Int) := by omega
          obtain ⟨P1, hP1⟩ : ∃ q, BY * (d : Int) = q := ⟨_, rfl⟩
          obtain ⟨P2, hP2⟩ : ∃ q, BY * (s : Int) = q := ⟨_, rfl⟩
          have m1 : 0 ≤ P1 ∧ P1 ≤ 100 := by rw [← hP1]; exact mulF hBYb (by omega)
          have m2 : 0 ≤ P2 ∧ P2 ≤ 100 := by rw [← hP2]; exact mulF hBYb (by omega)
          have M3 := Lib.hid (show NB * s ≤ 10 * 10 from Nat.mul_le_mul (show NB ≤ 10 by omega) (show s ≤ 10 by omega))
          have t1 : wrap64 (BY * (d : Int)) = P1 := by rw [hP1]; exact IntWalk.wrap64_in _ (by omega)
          have t2 : wrap64 (BY * (s : Int)) = P2 := by rw [hP2]; exact IntWalk.wrap64_in _ (by omega)
          have hrl2 : r.length ≤ 10 := by have := hrl.out; omega
          clear hP1 hP2
          have L1 := Lib.hid (show (r.length + 1) * 8 ≤ 140737488355328 by omega)
          have L2 := Lib.hid (show r.length + 1 ≤ maxLen by unfold maxLen; omega)
          obtain ⟨y1, g1, t3, t5⟩ := modF (p := (s : Int) + P1) (N := NS) (by omega) hs
          obtain ⟨y2, g3, t4, t6⟩ := modF (p := P2 + (d : Int)) (N := NS) (by omega) hs
          have hN0 : ¬ NS = 0 := by omega
          have hN1 : ¬ (NS : Int) = 0 := by omega
          by_cases hk0 : kd = 0
          · have hk1 : ¬ kd = 1 := by omega
            have b1 : (kd == 0) = true := by simp [hk0]
            have b2 : (kd == 1) = false := by simp [hk1]
            clear hk0 hk1 t3 t4 t5 t6 g1 g3
            go_wp2_with fail
            refine (srcPick hr.out.src (by have := M3.out; omega) NS (by omega)).mono ?_
            rintro e W4 ⟨⟨z, hz, rfl⟩, hs4, ho4⟩
            have hz1 : 0 ≤ z ∧ z < NS := ⟨hz.1, hz.2.1 (by omega)⟩
            have hr4 := Lib.hid (hr.out.ask (hs4.more (show _ ≤ A + 4 + 2 * (NB * s + (d + 1)) by omega)) ho4)
            clear hz hs4 ho4
            obtain ⟨av, nv, cv, rfl⟩ := hr4.out.row.isSlice
            go_wp2_with (at_builtin; refine wpList_push rfl _ _ 22 rfl oI.ok Try.underlying22 infoI64 rfl hr4.out.row (T := []) (y := z) ⟨rfl, rfl⟩ (by simp) L1.out L2.out rfl rfl ?_; intro v1 w8 S8 ho8 hn8 hS8; have Hf5 := Lib.hid (hr4.out.pushR ho8 hn8 hS8); clear ho8 hn8 hS8)
            go_roundw
            case rel => exact ⟨d + 1, r ++ [z], S8, hdN, by go_num, Lib.hid (by rw [List.length_append, hrl.out]; rfl), Lib.hid (hrd.out.snoc hz1), Hf5⟩
            case measure => clear t1 t2; simp [intOf]; omega
          · have b1 : (kd == 0) = false := by simp [hk0]
            by_cases hk1 : kd = 1
            · have b2 : (kd == 1) = true := by simp [hk1]
              have hr4 := Lib.hid (hr.out.more (show _ ≤ A + 4 + 2 * (NB * s + (d + 1)) by omega))
              have hz1 : 0 ≤ (y2 : Int) ∧ (y2 : Int) < NS := ⟨Int.natCast_nonneg _, Int.ofNat_lt.2 g3⟩
              clear hk0 hk1
              obtain ⟨av, nv, cv, rfl⟩ := hr4.out.row.isSlice
              go_wp2_with (at_builtin; refine wpList_push rfl _ _ 22 rfl oI.ok Try.underlying22 infoI64 rfl hr4.out.row (T := []) (y := (y2 : Int)) ⟨rfl, rfl⟩ (by simp) L1.out L2.out rfl rfl ?_; intro v1 w8 S8 ho8 hn8 hS8; have Hf5 := Lib.hid (hr4.out.pushR ho8 hn8 hS8); clear ho8 hn8 hS8)
              go_roundw
              case rel => exact ⟨d + 1, r ++ [(y2 : Int)], S8, hdN, by go_num, Lib.hid (by rw [List.length_append, hrl.out]; rfl), Lib.hid (hrd.out.snoc hz1), Hf5⟩
              case measure => clear t1 t2 t3 t4 t5 t6; simp [intOf]; omega
            · have b2 : (kd == 1) = false := by simp [hk1]
              have hr4 := Lib.hid (hr.out.more (show _ ≤ A + 4 + 2 * (NB * s + (d + 1)) by omega))
              have hz1 : 0 ≤ (y1 : Int) ∧ (y1 : Int) < NS := ⟨Int.natCast_nonneg _, Int.ofNat_lt.2 g1⟩
              clear hk0 hk1
              obtain ⟨av, nv, cv, rfl⟩ := hr4.out.row.isSlice
              go_wp2_with (at_builtin; refine wpList_push rfl _ _ 22 rfl oI.ok Try.underlying22 infoI64 rfl hr4.out.row (T := []) (y := (y1 : Int)) ⟨rfl, rfl⟩ (by simp) L1.out L2.out rfl rfl ?_; intro v1 w8 S8 ho8 hn8 hS8; have Hf5 := Lib.hid (hr4.out.pushR ho8 hn8 hS8); clear ho8 hn8 hS8)
              go_roundw
              case rel => exact ⟨d + 1, r ++ [(y1 : Int)], S8, hdN, by go_num, Lib.hid (by rw [List.length_append, hrl.out]; rfl), Lib.hid (hrd.out.snoc hz1), Hf5⟩
              case measure => clear t1 t2 t3 t4 t5 t6; simp [intOf]; omega
        · obtain ⟨hde⟩ : Nonempty (d = NB) := ⟨by omega⟩
          obtain ⟨a13, n13, c13, rfl⟩ := hr.out.row.isSlice
          have hrl2 := Lib.hid (show r.length = NB by rw [← hde]; exact hrl.out)
          have hst := Lib.hid (show A + 4 + 2 * (NB * s + d) = A + 4 + 2 * (NB * (s + 1)) by rw [hde, Nat.mul_succ])
          have htl2 : t.length ≤ 10 := by have := htl.out; omega
          clear hde
          go_wp2_with (at_builtin; refine wpList_push rfl _ _ 38 rfl OI.ok Try.underlying38 infoSl' rfl hr.out.tab hr.out.row hr.out.d (by omega) (by unfold maxLen; omega) rfl rfl ?_; intro v1 w8 S8 ho8 hn8 hS8; have Hf5 := Lib.hid (hr.out.pushT ho8 hn8 hS8); clear ho8 hn8 hS8)
          go_roundw
          case rel => exact ⟨s + 1, t ++ [r], S8, by omega, by go_num, Lib.hid (by rw [List.length_append, htl.out]; rfl), Lib.hid (htd.out.snoc hrl2.out hrd.out), Lib.hid (by rw [← hst.out]; exact Hf5.out)⟩
          case measure => simp [intOf]; omega
    · obtain ⟨hse⟩ : Nonempty (s = NS) := ⟨by omega⟩
      have m3 : NB * s ≤ 10 * 10 := Nat.mul_le_mul (by omega) (by omega)
      obtain ⟨av, nv, cv, rfl⟩ := ht.out.tab.isSlice
      have hl2 := Lib.hid (show t.length = NS by rw [← hse]; exact htl.out)
      clear hse
      go_wp2
      go_ret
      exact ⟨_, t, rfl, ⟨S, ht.out.tab, ht.out.b1⟩, ht.out.src.more (by omega), ht.out.only, hl2.out, htd.out⟩
end Go.Proofs.Ytnpkanlieflbiaa
