/- Drawn lists: digits, orders. -/
import Derived.Test.YthomdggbmjknnaaR1
import Derived.Test.YthomdggbmjknnaaH2
namespace Go.Proofs.Ythomdggbmjknnaa
open Go.RowKit
set_option linter.unusedVariables false

theorem only_more {T S : List Nat} {a b c : World} (h : Only T a b) (k : Only S b c) (hS : ∀ i ∈ S, a.heap.size ≤ i) : Only T a c :=
  ⟨k.os.trans h.os, k.tape.trans h.tape, k.output.trans h.output, Nat.le_trans h.size k.size, fun i hi ht => (k.block i (Nat.lt_of_lt_of_le hi h.size) fun hm => by have := hS i hm; omega).trans (h.block i hi ht)⟩
/-- A list that was drawn. -/
structure DrawnI (B b A : Nat) (w w' : World) (v : Value) (xs : List Int) : Prop where
  own : ∃ S, OI w' v xs S ∧ ∀ k ∈ S, w.heap.size ≤ k
  src : Src B w' b A
  only : Only [b] w w'
theorem DrawnI.start {B b A : Nat} {w : World} (h : Src B w b A) : DrawnI B b A w (w.alloc (.cells #[] 2)) (.slice (some ⟨w.heap.size, 0, none⟩) 0 0) [] := by
  have hf : Fresh OI w (w.alloc (.cells #[] 2)) (.slice (some ⟨w.heap.size, 0, none⟩) 0 0) [] := Fresh.empty (Below.refl _ _)
  obtain ⟨S, h1, h2, h3⟩ := hf
  have hb := h.lt
  have h0 := h.1
  exact ⟨⟨S, h1, h2⟩, h.keep fun k hk => h3.block k (by omega), ⟨h3.os, h3.tape, h3.output, h3.size, fun k hk _ => h3.block k hk⟩⟩
/-- Behind a step that turned the source alone. -/
theorem DrawnI.ask {B b A A' : Nat} {w w1 w2 : World} {v : Value} {xs : List Int} (h : DrawnI B b A w w1 v xs) (hb : b < w.heap.size) (h2 : Src B w2 b A') (ho : Only [b] w1 w2) : DrawnI B b A' w w2 v xs := by
  obtain ⟨S, g1, g2⟩ := h.own
  exact ⟨⟨S, OI.ok.keep g1 fun k hk => ho.block k (OI.ok.lt g1 k hk) (by have := g2 k hk; simp; omega), g2⟩, h2, h.only.trans ho⟩
/-- Behind a step that turned the list alone. -/
theorem DrawnI.turned {B b A : Nat} {w w1 w2 : World} {v v2 : Value} {xs ys : List Int} {S S2 : List Nat} (h : DrawnI B b A w w1 v xs) (hb : b < w.heap.size) (hS : ∀ k ∈ S, w.heap.size ≤ k) (h2 : OI w2 v2 ys S2) (hS2 : ∀ k ∈ S2, w.heap.size ≤ k) (ho : Only S w1 w2) : DrawnI B b A w w2 v2 ys := by
  have hlt := h.src.lt
  have h0 := h.src.1
  exact ⟨⟨S2, h2, hS2⟩, h.src.keep fun k hk => ho.block k (by omega) (fun hm => by have := hS k hm; omega), only_more h.only ho hS⟩

/-! ### Orders -/
def Ordr (n : Nat) (xs : List Int) : Prop := xs.length = n ∧ (∀ i, i < n → 0 ≤ nth xs i ∧ nth xs i < n) ∧ ∀ i j, i < n → j < n → nth xs i = nth xs j → i = j
def idxL (n : Nat) : List Int := (List.range n).map fun (i : Nat) => (i : Int)
theorem idxL_succ (n : Nat) : idxL (n + 1) = idxL n ++ [(n : Int)] := by simp [idxL, List.range_succ]
theorem idxL_len (n : Nat) : (idxL n).length = n := by simp [idxL]
theorem nth_idxL {n i : Nat} (h : i < n) : nth (idxL n) i = i := by
  rw [nth_eq (by rw [idxL_len]; exact h)]; simp [idxL]
theorem Ordr.start (n : Nat) : Ordr n (idxL n) := ⟨idxL_len n, fun i hi => by rw [nth_idxL hi]; omega, fun i j hi hj h => by rw [nth_idxL hi, nth_idxL hj] at h; omega⟩
theorem nth_swap {xs : List Int} {i k j : Nat} (hi : i < xs.length) (hk : k < xs.length) : nth ((xs.set i (nth xs k)).set k (nth xs i)) j = nth xs (if j = k then i else if j = i then k else j) := by
  rw [nth_set (by simpa using hk)]
  by_cases e : k = j
  · rw [if_pos e, if_pos e.symm]
  · rw [if_neg e, if_neg (fun h => e h.symm), nth_set hi]
    by_cases e2 : i = j
    · rw [if_pos e2, if_pos e2.symm]
    · rw [if_neg e2, if_neg fun h => e2 h.symm]
theorem Ordr.swap {n : Nat} {xs : List Int} (h : Ordr n xs) {i k : Nat} (hi : i < n) (hk : k < n) : Ordr n ((xs.set i (nth xs k)).set k (nth xs i)) := by
  obtain ⟨h1, h2, h3⟩ := h
  refine ⟨by simp [h1], fun j hj => ?_, fun a b ha hb he => ?_⟩
  · rw [nth_swap (by omega) (by omega)]
    exact h2 _ (by split <;> (try split) <;> omega)
  · rw [nth_swap (by omega) (by omega), nth_swap (by omega) (by omega)] at he
    have := h3 _ _ (by split <;> (try split) <;> omega) (by split <;> (try split) <;> omega) he
    split at this <;> split at this <;> (try split at this) <;> (try split at this) <;> omega

theorem drawn_shape {B b A : Nat} {w w' : World} {v : Value} {xs : List Int} (h : DrawnI B b A w w' v xs) (hl : 1 ≤ xs.length) : ∃ g c, v = .slice (some ⟨g, 0, none⟩) xs.length c ∧ xs.length ≤ c ∧ c ≤ 9223372036854775807 := by
  obtain ⟨S, hown, _⟩ := h.own
  rcases hown.shape with ⟨_, e⟩ | ⟨g, c, e, hg⟩
  · rw [e] at hl; simp at hl
  · rw [e] at hown
    have := hown.len
    unfold maxLen at this
    exact ⟨g, c, e, this.2⟩
set_option maxHeartbeats 1600000 in
set_option maxRecDepth 10000 in
theorem srcOrder {B b A : Nat} {w : World} (h : Src B w b A) (hA : A ≤ 100000000000) (n : Nat) (hn : 1 ≤ n) (hn2 : n ≤ 1000) :
    Calls Try.prog 34 #[.pointer (some ⟨b, 0, none⟩), .int .i64 n] w fun e w' => ∃ v xs, e = .returned v ∧ DrawnI B b (A + 2 * n) w w' v xs ∧ Ordr n xs := by
  have hb := h.lt
  have H := Lib.hid (DrawnI.start h); clear h
  go_enter Try.func34, Try.ntmps34
  go_wp2
  go_loopw [5, 6] (fun vo iv wr => ∃ (j : Nat), j ≤ n ∧ iv = .int .i64 j ∧ Hid (DrawnI B b A w wr vo (idxL j))) (fun _ iv _ => n - (intOf iv).toNat)
  case atStart => exact ⟨0, Nat.zero_le _, rfl, H⟩
  case round =>
    obtain ⟨j, hj, rfl, hd⟩ := hrel
    obtain ⟨W2, rfl⟩ : ∃ W2, W2 = wr := ⟨_, rfl⟩
    by_cases hj1 : j < n
    · obtain ⟨S, hown, hS⟩ := hd.out.own
      have Hown := Lib.hid hown
      have HS := Lib.hid hS
      have hlx := idxL_len j
      have Hlx := Lib.hid hlx
      clear hown hS hlx
      go_wp2_with (at_builtin; refine wpList_push rfl _ _ 25 rfl oI.ok Try.underlying25 infoI64 rfl Hown.out (u := .int .i64 j) (y := (j : Int)) (T := []) ⟨rfl, rfl⟩ (by simp) (by rw [Hlx.out]; omega) (by rw [Hlx.out]; unfold maxLen; omega) rfl rfl ?_; intro v1 w1 S1 hown1 honly1 hS1)
      have hd4 := Lib.hid (hd.out.turned hb HS.out (by rw [← idxL_succ] at hown1; exact hown1) (fun k hk => by
        rcases hS1 k hk with h | h | h
        · exact HS.out k h
        · simp at h
        · have := hd.out.only.size; omega) honly1)
      clear hown1 honly1 hS1
      go_roundw
      case rel => exact ⟨j + 1, by omega, by go_num, hd4⟩
      case measure => first | (simp [intOf]; done) | (simp [intOf]; omega)
    · obtain rfl : j = n := by omega
      have ho1 := Lib.hid (Ordr.start j)
      obtain ⟨g, c, e, hc1, hc2⟩ := drawn_shape hd.out (by rw [idxL_len]; omega)
      rw [idxL_len] at e hc1
      subst e
      obtain ⟨n, hjn⟩ : ∃ n : Nat, n = j := ⟨_, rfl⟩
      have hi0 : ((j : Int) - 1) = ((j - 1 : Nat) : Int) := by omega
      have Hi0 := Lib.hid hi0; clear hi0
      subst hjn
      go_wp2
      go_loopw [7] (fun iv wr => ∃ (z : Nat) (xs : List Int), z ≤ n - 1 ∧ iv = .int .i64 z ∧ Hid (DrawnI B b (A + 2 * (n - 1 - z)) w wr (.slice (some ⟨g, 0, none⟩) n c) xs) ∧ Hid (Ordr n xs)) (fun iv _ => (intOf iv).toNat)
      case atStart => exact ⟨n - 1, _, Nat.le_refl _, by rw [Hi0.out], Lib.hid (by rw [Nat.sub_self]; exact hd.out), ho1⟩
      case round =>
        clear hd ho1 hj1
        obtain ⟨z, xs, hz, rfl, hd, ho⟩ := hrel
        obtain ⟨W3, rfl⟩ : ∃ W3, W3 = wr := ⟨_, rfl⟩
        by_cases hz1 : 1 ≤ z
        · go_wp2_with fail
          refine (srcPick hd.out.src (by omega) _ (by omega)).mono ?_
          rintro e W4 ⟨⟨r, hr, rfl⟩, hs4, ho4⟩
          obtain ⟨k, rfl⟩ := Int.eq_ofNat_of_zero_le hr.1
          have hk : k ≤ z := by have := hr.2.1 (by omega); omega
          have hd4 := Lib.hid (hd.out.ask hb hs4 ho4)
          obtain ⟨S, hown, hS⟩ := hd4.out.own
          have hxl := ho.out.1
          have cz : W4.cell? ⟨g, z, none⟩ = some (.int .i64 (nth xs z)) := hown.cell (i := z) (by omega)
          have ck : W4.cell? ⟨g, k, none⟩ = some (.int .i64 (nth xs k)) := hown.cell (i := k) (by omega)
          have fz := hown.frozen z
          have fk := hown.frozen k
          have hg := hown.head.1
          have hown2 := (hown.put (i := z) (by omega) (nth xs k)).put (i := k) (by simp; omega) (nth xs z)
          have hon2 := ((Only.refl S W4).put hg z (.int .i64 (nth xs k))).put hg k (.int .i64 (nth xs z))
          have hd5 := Lib.hid (hd4.out.turned hb hS hown2 hS hon2)
          have ho5 := Lib.hid (ho.out.swap (i := z) (k := k) (by omega) (by omega))
          clear hown hown2 hon2 hs4 ho4 hr hxl hS
          by_cases hkz : k = z
          · obtain rfl : z = k := hkz.symm
            go_wp2
            go_roundw
            case rel => exact ⟨z - 1, _, by omega, by rw [show ((z : Int) - 1) = ((z - 1 : Nat) : Int) by omega], Lib.hid (by rw [show A + 2 * (n - 1 - (z - 1)) = A + 2 * (n - 1 - z) + 2 by omega]; exact hd5.out), ho5⟩
            case measure => first | (simp [intOf]; done) | (simp [intOf]; omega)
          · have hkz2 : ¬ z = k := fun h => hkz h.symm
            go_wp2
            go_roundw
            case rel => exact ⟨z - 1, _, by omega, by rw [show ((z : Int) - 1) = ((z - 1 : Nat) : Int) by omega], Lib.hid (by rw [show A + 2 * (n - 1 - (z - 1)) = A + 2 * (n - 1 - z) + 2 by omega]; exact hd5.out), ho5⟩
            case measure => first | (simp [intOf]; done) | (simp [intOf]; omega)
        · obtain rfl : z = 0 := by omega
          go_wp2
          go_ret
          exact ⟨_, xs, rfl, ⟨hd.out.own, hd.out.src.more (by omega), hd.out.only⟩, ho.out⟩
end Go.Proofs.Ythomdggbmjknnaa
