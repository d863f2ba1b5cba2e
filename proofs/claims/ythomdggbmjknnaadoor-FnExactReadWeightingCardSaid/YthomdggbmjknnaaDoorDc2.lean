/- Decimal, on both sides, and the law. -/
import Derived.Test.YthomdggbmjknnaaDoorDc1
import Derived.Test.YthomdggbmjknnaaDoorLaws
namespace Go.Proofs.YthomdggbmjknnaaDoor
open Go.RowKit
set_option linter.unusedVariables false

theorem infoY : (Tryd.prog.info? 5).map (fun i => (i.zero, i.size, i.bytes)) = some (some (.int .u8 0), 1, 1) := by kernel_rfl
abbrev OYd := OwnY 5
def lenOf : Value → Nat | .slice _ n _ => n | _ => 0
theorem nDig_le : ∀ (k u : Nat), u < 10 ^ (k + 1) → Lib.nDigits u ≤ k + 1
  | 0, u, h => by rw [Lib.nDigits_small (by simpa using h)]; omega
  | k + 1, u, h => by
    by_cases h2 : u < 10
    · rw [Lib.nDigits_small h2]; omega
    · rw [Lib.nDigits_big h2]
      have := nDig_le k (u / 10) (by rw [Nat.pow_succ] at h; omega)
      omega
theorem dec_len {u : Nat} (h : u ≤ 9223372036854775808) : (Lib.decDigits u).length ≤ 20 := by
  rw [Lib.decDigits_length]; exact nDig_le 19 u (by omega)
theorem dec_step (u : Nat) : (if u / 10 = 0 then [] else Lib.decDigits (u / 10)) ++ [UInt8.ofNat (48 + u % 10)] = Lib.decDigits u := by
  by_cases h : u < 10
  · rw [if_pos (by omega), Lib.decDigits_one h, show u % 10 = u by omega]; rfl
  · rw [if_neg (by omega)]
    conv => rhs; rw [Lib.decDigits, dif_neg h]
/-- Of n's digits those behind the point are there: q is what is left. -/
theorem Rd.isSlice' {α : Type} [Inhabited α] {R : RRep α} {P : Nat → Prop} {w : World} {v : Value} {xs : List α} (h : Rd R P w v xs) : ∃ a c, v = .slice a xs.length c ∧ xs.length ≤ c ∧ c ≤ maxLen := by
  obtain ⟨a, c, rfl, h1, h2, _⟩ := h
  exact ⟨a, c, rfl, h1, h2⟩
structure DecI (n q : Int) (L : List UInt8) : Prop where
  pos : 0 ≤ n → 0 ≤ q
  neg : n ≤ 0 → q ≤ 0
  le : q.natAbs ≤ n.natAbs
  eq : (if q = 0 ∧ L ≠ [] then [] else Lib.decDigits q.natAbs) ++ L = Lib.decDigits n.natAbs
theorem DecI.len {n q : Int} {L : List UInt8} (h : DecI n q L) (h0 : -9223372036854775808 ≤ n) (h1 : n ≤ 9223372036854775807) : L.length ≤ 20 := by
  have h2 := dec_len (u := n.natAbs) (by omega)
  rw [← h.eq, List.length_append] at h2
  omega
theorem DecI.start (n : Int) : DecI n n [] := ⟨id, id, Nat.le_refl _, by simp⟩
theorem tdiv10 (q : Int) : (q.tdiv 10).natAbs = q.natAbs / 10 := by rw [Int.natAbs_tdiv]; rfl
theorem tmod10 (q : Int) : (q.tmod 10).natAbs = q.natAbs % 10 := by rw [Int.natAbs_tmod]; rfl
theorem DecI.next {n q Q : Int} {L : List UInt8} {m : Nat} (h : DecI n q L) (hc : q ≠ 0 ∨ L = []) (hQ : q.tdiv 10 = Q) (hm : q.natAbs % 10 = m) : DecI n Q (UInt8.ofNat (48 + m) :: L) := by
  have e1 := tdiv10 q
  rw [hQ] at e1
  have hp : 0 ≤ q → 0 ≤ Q := fun hq => by rw [← hQ]; exact Int.tdiv_nonneg hq (by omega)
  have hn : q ≤ 0 → Q ≤ 0 := fun hq => by rw [← hQ]; have := Int.tdiv_nonneg (a := -q) (b := 10) (by omega) (by omega); rw [Int.neg_tdiv] at this; omega
  refine ⟨fun h2 => hp (h.pos h2), fun h2 => hn (h.neg h2), by have := h.le; omega, ?_⟩
  rw [← h.eq, if_neg (show ¬(q = 0 ∧ L ≠ []) by rintro ⟨h3, h4⟩; rcases hc with h5 | h5; exact h5 h3; exact h4 h5), ← dec_step q.natAbs, hm]
  by_cases h3 : Q = 0
  · rw [if_pos ⟨h3, by simp⟩, if_pos (by omega)]; simp
  · rw [if_neg (fun h4 => h3 h4.1), if_neg (by omega), e1]; simp
theorem DecI.done {n : Int} {L : List UInt8} (h : DecI n 0 L) (hL : L ≠ []) : L = Lib.decDigits n.natAbs := by
  have := h.eq
  rw [if_pos ⟨rfl, hL⟩] at this
  simpa using this
theorem own1 (w : World) (y : UInt8) : OYd (w.alloc (.cells #[fY y] 5)) (.slice (some ⟨w.heap.size, 0, none⟩) 1 1) [y] [w.heap.size] :=
  .inr ⟨w.heap.size, 1, #[fY y], [[]], rfl, heap_alloc_new w _, rfl, Nat.le_refl _, by unfold maxLen; omega, by simp, by simp, rfl, fun i hi => by
    obtain rfl : i = 0 := by simpa using hi
    exact ⟨fY y, rfl, rfl, rfl⟩⟩
theorem y48 : ∀ m : Nat, m < 10 → (UInt8.ofNat (48 + m)).toNat = 48 + m := by decide +kernel
theorem fY48 (m : Nat) (h : m < 10) : fY (UInt8.ofNat (48 + m)) = .int .u8 (48 + (m : Int)) := by
  show Value.int .u8 (((UInt8.ofNat (48 + m)).toNat : Nat) : Int) = _
  rw [y48 m h]; rfl
theorem Fresh.shapeY {w0 w : World} {v : Value} {L : List UInt8} (h : Fresh OYd w0 w v L) (hL : L ≠ []) : ∃ g c, v = .slice (some ⟨g, 0, none⟩) L.length c := by
  obtain ⟨S, h, _, _⟩ := h
  rcases h with ⟨_, h, _⟩ | ⟨g, c, _, _, rfl, _⟩
  · exact absurd h hL
  · exact ⟨g, c, rfl⟩
theorem itoa_neg {n : Int} (h : n < 0) : (⟨#[45]⟩ : ByteArray) ++ ⟨(Lib.decDigits n.natAbs).toArray⟩ = ⟨(Lib.itoa n).toArray⟩ := by
  apply ByteArray.ext
  rw [ByteArray.data_append, Lib.itoa, if_pos h]
  simp
theorem itoa_pos {n : Int} (h : ¬ n < 0) : (⟨(Lib.decDigits n.natAbs).toArray⟩ : ByteArray) = ⟨(Lib.itoa n).toArray⟩ := by
  rw [Lib.itoa, if_neg h, show n.natAbs = n.toNat by omega]

set_option maxHeartbeats 1600000 in
set_option maxRecDepth 100000 in
theorem specDec (n : Int) (h0 : -9223372036854775808 ≤ n) (h1 : n ≤ 9223372036854775807) (w : World) :
    Calls Tryd.prog 30 #[.int .i64 n] w fun e w' => e = .returned (.string ⟨(Lib.itoa n).toArray⟩) ∧ Below w.heap.size w w' := by
  go_enter Tryd.func30, Tryd.ntmps30
  go_wp2
  go_loopw [3, 4] (fun s i wr => ∃ (q : Int) (L : List UInt8) (g c : Nat), i = .int .i64 q ∧ s = .slice (some ⟨g, 0, none⟩) L.length c ∧ Fresh OYd w wr s L ∧ Hid (DecI n q L)) (fun s i _ => (intOf i).natAbs + (if lenOf s = 0 then 1 else 0))
  case atStart => exact ⟨n, [], _, _, rfl, rfl, Fresh.empty (Below.refl _ _), Lib.hid (DecI.start n)⟩
  case round =>
    obtain ⟨q, L, g, c, rfl, rfl, hf, hi⟩ := hrel
    have hl := hi.out.len h0 h1
    obtain ⟨a', c', ea, g1, g2⟩ := Rd.isSlice' (hf.rd (Own.leads leaf.leads) (Own.ok oY.ok))
    simp only [Value.slice.injEq] at ea
    obtain ⟨rfl, _, rfl⟩ := ea
    unfold maxLen at g2
    have hqb : -9223372036854775808 ≤ q ∧ q ≤ 9223372036854775807 := by have := hi.out.le; have := hi.out.pos; have := hi.out.neg; rcases Int.le_total 0 n with h | h <;> omega
    by_cases hgo : q ≠ 0 ∨ L = []
    · obtain ⟨Q, hQ⟩ : ∃ Q, q.tdiv 10 = Q := ⟨_, rfl⟩
      obtain ⟨m, hm⟩ : ∃ m, q.natAbs % 10 = m := ⟨_, rfl⟩
      have hm10 : m < 10 := by omega
      have hQa := tdiv10 q
      rw [hQ] at hQa
      have hDa := tmod10 q
      rw [hm] at hDa
      have hn := Lib.hid (hi.out.next hgo hQ hm)
      have hy := fY48 m hm10
      have Hf1 : Hid (Fresh OYd w (wr.alloc (.cells #[.int .u8 (48 + (m : Int))] 5)) (.slice (some ⟨wr.heap.size, 0, none⟩) 1 1) [UInt8.ofNat (48 + m)]) := Lib.hid (by
        rw [← hy]
        exact ⟨_, own1 wr _, by have := hf.bel.size; simpa using this, hf.bel.alloc hf.bel.size _⟩)
      have Hs1 : Hid (Rd rY (· < wr.heap.size) (wr.alloc (.cells #[.int .u8 (48 + (m : Int))] 5)) (.slice (some ⟨g, 0, none⟩) L.length c) L) := Lib.hid ((Rd.ok rleaf.ok).keep (hf.rd (Own.leads leaf.leads) (Own.ok oY.ok)) fun k hk => Below.heap_alloc _ _ _ hk)
      have hmeas : Hid (Q.natAbs < q.natAbs + (if L.length = 0 then 1 else 0)) := Lib.hid (by
        rcases hgo with h | h
        · omega
        · subst h; simp; omega)
      have hgo' := hgo
      have Hl := Lib.hid hl
      clear hf hi hgo hy
      have hsg : q.tmod 10 = (m : Int) ∨ (q.tmod 10 = -(m : Int) ∧ 0 < m) := by omega
      by_cases hq : q = 0
      · obtain rfl : L = [] := by rcases hgo' with h | h; exact absurd hq h; exact h
        subst hq
        obtain rfl : m = 0 := by rw [← hm]; rfl
        obtain rfl : Q = 0 := by rw [← hQ]; rfl
        have Hf1 : Hid (Fresh OYd w (wr.alloc (.cells #[.int .u8 48] 5)) (.slice (some ⟨wr.heap.size, 0, none⟩) 1 1) [UInt8.ofNat (48 + 0)]) := Hf1
        have Hs1 : Hid (Rd rY (· < wr.heap.size) (wr.alloc (.cells #[.int .u8 48] 5)) (.slice (some ⟨g, 0, none⟩) 0 c) []) := Hs1
        clear hsg hqb hQa hDa hm hQ
        go_wp2_with (at_builtin; refine wpList_appendF rfl (.tmp 26) (.tmp 27) 62 rfl (f := fY) (fun _ => rfl) Tryd.underlying62 infoY rfl Hf1.out Hs1.out (by have := Hl.out; (first | (simp; done) | (simp; omega))) (by have := Hl.out; unfold maxLen; (first | (simp; done) | (simp; omega))) rfl rfl ?_; intro v1 w1 hf2)
        go_roundw
        case rel =>
          obtain ⟨g2, c2, rfl⟩ := Fresh.shapeY hf2 (by simp)
          exact ⟨0, _, g2, c2, rfl, rfl, hf2, hn⟩
        case measure =>
          obtain ⟨g2, c2, rfl⟩ := Fresh.shapeY hf2 (by simp)
          have hme := hmeas.out
          show (0 : Int).natAbs + (if ([UInt8.ofNat (48 + 0)] ++ ([] : List UInt8)).length = 0 then 1 else 0) < (0 : Int).natAbs + (if ([] : List UInt8).length = 0 then 1 else 0)
          decide
      · have hl0 : ¬ (L.length : Int) < 0 := by omega
        rcases hsg with hsm | ⟨hsm, hm0⟩
        · have hlt : ¬ (m : Int) < 0 := by omega
          go_wp2_with (at_builtin; refine wpList_appendF rfl (.tmp 26) (.tmp 27) 62 rfl (f := fY) (fun _ => rfl) Tryd.underlying62 infoY rfl Hf1.out Hs1.out (by have := Hl.out; (first | (simp; done) | (simp; omega))) (by have := Hl.out; unfold maxLen; (first | (simp; done) | (simp; omega))) rfl rfl ?_; intro v1 w1 hf2)
          go_roundw
          case rel =>
            obtain ⟨g2, c2, rfl⟩ := Fresh.shapeY hf2 (by simp)
            exact ⟨Q, _, g2, c2, rfl, rfl, hf2, hn⟩
          case measure =>
            obtain ⟨g2, c2, rfl⟩ := Fresh.shapeY hf2 (by simp)
            have hme := hmeas.out
            show Q.natAbs + (if ([UInt8.ofNat (48 + m)] ++ L).length = 0 then 1 else 0) < q.natAbs + (if L.length = 0 then 1 else 0)
            rw [if_neg (by simp)]
            exact hme
        · have hlt : -(m : Int) < 0 := by omega
          go_wp2_with (at_builtin; refine wpList_appendF rfl (.tmp 26) (.tmp 27) 62 rfl (f := fY) (fun _ => rfl) Tryd.underlying62 infoY rfl Hf1.out Hs1.out (by have := Hl.out; (first | (simp; done) | (simp; omega))) (by have := Hl.out; unfold maxLen; (first | (simp; done) | (simp; omega))) rfl rfl ?_; intro v1 w1 hf2)
          go_roundw
          case rel =>
            obtain ⟨g2, c2, rfl⟩ := Fresh.shapeY hf2 (by simp)
            exact ⟨Q, _, g2, c2, rfl, rfl, hf2, hn⟩
          case measure =>
            obtain ⟨g2, c2, rfl⟩ := Fresh.shapeY hf2 (by simp)
            have hme := hmeas.out
            show Q.natAbs + (if ([UInt8.ofNat (48 + m)] ++ L).length = 0 then 1 else 0) < q.natAbs + (if L.length = 0 then 1 else 0)
            rw [if_neg (by simp)]
            exact hme
    · have hq0 : q = 0 := by by_cases h : q = 0; exact h; exact absurd (.inl h) hgo
      have hL0 : L ≠ [] := fun h => hgo (.inr h)
      subst hq0
      have he := hi.out.done hL0
      have hr := hf.rd (Own.leads leaf.leads) (Own.ok oY.ok)
      have hl1 : ¬ L.length = 0 := fun h => hL0 (List.eq_nil_of_length_eq_zero h)
      have hsz : (⟨L.toArray⟩ : ByteArray).size ≤ 20 := by show L.toArray.size ≤ 20; simpa using hl
      have He := Lib.hid he
      have Hb := Lib.hid hf.bel
      have Hr := Lib.hid hr
      clear hf hi he hr hgo hL0
      by_cases hn : n < 0
      · go_wp2_with (refine wpList_str rfl (.tmp 31) 62 9 5 rfl Tryd.underlying62 Tryd.underlying5 Tryd.underlying9 rfl Hr.out ?_)
        go_ret
        exact ⟨by rw [He.out, itoa_neg (by omega)]; rfl, Hb.out⟩
      · go_wp2_with (refine wpList_str rfl (.tmp 34) 62 9 5 rfl Tryd.underlying62 Tryd.underlying5 Tryd.underlying9 rfl Hr.out ?_)
        go_ret
        exact ⟨by rw [He.out, itoa_pos (by omega)]; rfl, Hb.out⟩
theorem specDecimal (n : Int) (h0 : -9223372036854775808 ≤ n) (h1 : n ≤ 9223372036854775807) (w : World) :
    Calls Tryd.prog 9 #[.int .i64 n] w fun e w' => e = .returned (.string ⟨(Lib.itoa n).toArray⟩) ∧ Below w.heap.size w w' := by
  go_enter Tryd.func9, Tryd.ntmps9
  go_wp2_with fail
  refine (specDec n h0 h1 _).mono ?_
  rintro e w1 ⟨rfl, hb⟩
  go_wp2_with fail
  go_ret
  exact ⟨rfl, hb⟩
theorem implDecimal (n : Int) (h0 : -9223372036854775808 ≤ n) (h1 : n ≤ 9223372036854775807) (w : World) (htab : Lib.TabIs Tryd.prog w "internal/strconv.uint64pow10" .u64 Lib.pow10Tab) :
    Calls Tryd.prog 10 #[.int .i64 n] w fun e w' => e = .returned (.string ⟨(Lib.itoa n).toArray⟩) ∧ Below w.heap.size w w' := by
  go_enter Tryd.func10, Tryd.ntmps10
  go_wp2_with fail
  refine (fmtInt n h0 h1 _ htab).mono ?_
  rintro e w1 ⟨rfl, k, os, rfl⟩
  have hb := Lib.below_grow w.heap.size w (Nat.le_refl _) k os
  go_wp2_with fail
  go_ret
  exact ⟨rfl, hb⟩
theorem tabBelow {w w' : World} (h : Lib.TabIs Tryd.prog w "internal/strconv.uint64pow10" .u64 Lib.pow10Tab) (hb : Below w.heap.size w w') : Lib.TabIs Tryd.prog w' "internal/strconv.uint64pow10" .u64 Lib.pow10Tab := Lib.tabBelow_of_tabIs h w' hb
theorem lawExactDecimal (n : Int) (h0 : -9223372036854775808 ≤ n) (h1 : n ≤ 9223372036854775807) (w : World) (htab : Lib.TabIs Tryd.prog w "internal/strconv.uint64pow10" .u64 Lib.pow10Tab) :
    Calls Tryd.prog 3 #[.int .i64 n] w fun e w' => e = .returned (.bool true) ∧ Below w.heap.size w w' := by
  have Ht := Lib.hid htab; clear htab
  go_enter Tryd.func3, Tryd.ntmps3
  go_wp2_with fail
  refine (specDecimal n h0 h1 _).mono ?_
  rintro e w1 ⟨rfl, hb⟩
  have Hb := Lib.hid hb
  have hs := hb.size
  clear hb
  go_wp2_with fail
  refine (implDecimal n h0 h1 _ (tabBelow Ht.out Hb.out)).mono ?_
  rintro e w2 ⟨rfl, hb2⟩
  go_wp2_with fail
  go_ret
  exact ⟨rfl, Hb.out.trans (hb2.mono hs)⟩
end Go.Proofs.YthomdggbmjknnaaDoor
