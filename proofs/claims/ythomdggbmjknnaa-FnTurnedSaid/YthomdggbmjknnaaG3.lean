/- A drawn quasigroup: spec.R8Table, walked. -/
import Derived.Test.YthomdggbmjknnaaG2
import Derived.Test.YthomdggbmjknnaaR2
import Derived.Test.YthomdggbmjknnaaB3
namespace Go.Proofs.Ythomdggbmjknnaa
open Go.RowKit
set_option linter.unusedVariables false

/-! ### A world cut at a block -/
def cutW (w : World) (n : Nat) : World := { w with heap := w.heap.extract 0 n }
theorem cutW_size {w : World} {n : Nat} (h : n ≤ w.heap.size) : (cutW w n).heap.size = n := by simp [cutW]; omega
theorem cutW_at {w : World} {n k : Nat} (hk : k < n) : (cutW w n).heap[k]? = w.heap[k]? := by
  simp only [cutW, Array.getElem?_extract]
  split
  · simp
  · rename_i h
    rw [Array.getElem?_eq_none (by omega)]
theorem cutW_below {w : World} {n : Nat} (h : n ≤ w.heap.size) : Below n (cutW w n) w := ⟨rfl, rfl, rfl, by rw [cutW_size h]; exact h, fun k hk => (cutW_at hk).symm⟩

/-- A table that was drawn. -/
structure TabDr (B b A : Nat) (w w' : World) (v : Value) (t : List (List Int)) : Prop where
  own : ∃ S, OII w' v t S ∧ ∀ k ∈ S, w.heap.size ≤ k
  src : Src B w' b A
  only : Only [b] w w'
section td
variable {B b A A' : Nat} {w w1 w2 : World} {v v2 : Value} {t t2 : List (List Int)}
theorem TabDr.fresh (h : TabDr B b A w w1 v t) : Fresh OII (cutW w1 w.heap.size) w1 v t := by
  obtain ⟨S, g1, g2⟩ := h.own
  exact ⟨S, g1, fun k hk => by rw [cutW_size h.only.size]; exact g2 k hk, by rw [cutW_size h.only.size]; exact cutW_below h.only.size⟩
theorem TabDr.back (h : TabDr B b A w w1 v t) (hb : b < w.heap.size) (hf : Fresh OII (cutW w1 w.heap.size) w2 v2 t2) : TabDr B b A w w2 v2 t2 := by
  obtain ⟨S, g1, g2, g3⟩ := hf
  rw [cutW_size h.only.size] at g2 g3
  have h0 := h.src.1
  have e : ∀ k, k < w.heap.size → w2.heap[k]? = w1.heap[k]? := fun k hk => (g3.block k hk).trans (cutW_at hk)
  have hs := g3.size
  rw [cutW_size h.only.size] at hs
  exact ⟨⟨S, g1, g2⟩, h.src.keep fun k hk => e k (by omega), ⟨g3.os.trans h.only.os, g3.tape.trans h.only.tape, g3.output.trans h.only.output, hs, fun k hk hn => (e k hk).trans (h.only.block k hk hn)⟩⟩
theorem TabDr.ask (h : TabDr B b A w w1 v t) (hb : b < w.heap.size) (h2 : Src B w2 b A') (ho : Only [b] w1 w2) : TabDr B b A' w w2 v t := by
  obtain ⟨S, g1, g2⟩ := h.own
  exact ⟨⟨S, OII.ok.keep g1 fun k hk => ho.block k (OII.ok.lt g1 k hk) (by have := g2 k hk; simp; omega), g2⟩, h2, h.only.trans ho⟩
theorem TabDr.rest (h : TabDr B b A w w1 v t) (hb : Below w1.heap.size w1 w2) : TabDr B b A w w2 v t := by
  obtain ⟨S, g1, g2⟩ := h.own
  have h0 := h.src.1
  have h1 := h.src.lt
  exact ⟨⟨S, OII.ok.keep g1 fun k hk => hb.block k (OII.ok.lt g1 k hk), g2⟩, h.src.keep fun k hk => hb.block k (by omega), h.only.trans ⟨hb.os, hb.tape, hb.output, hb.size, fun k hk _ => hb.block k hk⟩⟩
theorem TabDr.more (h : TabDr B b A w w1 v t) (hA : A ≤ A') : TabDr B b A' w w1 v t := ⟨h.own, h.src.more hA, h.only⟩
theorem TabDr.rd (h : TabDr B b A w w1 v t) : RdII (· < w1.heap.size) w1 v t := h.fresh.rd OII.leads OII.ok
theorem TabDr.other (h : TabDr B b A w w1 v t) (hf : Fresh OII w1 w2 v2 t2) : TabDr B b A w w2 v2 t2 := by
  obtain ⟨S, g1, g2, g3⟩ := hf
  have h0 := h.src.1
  have h1 := h.src.lt
  have := h.only.size
  exact ⟨⟨S, g1, fun k hk => by have := g2 k hk; omega⟩, h.src.keep fun k hk => g3.block k (by omega), h.only.trans ⟨g3.os, g3.tape, g3.output, g3.size, fun k hk _ => g3.block k hk⟩⟩
end td
theorem DrawnI.rd {B b A : Nat} {w w1 : World} {v : Value} {xs : List Int} (h : DrawnI B b A w w1 v xs) : RdI (· < w1.heap.size) w1 v xs := by
  obtain ⟨S, g1, g2⟩ := h.own
  exact OI.leads.to _ _ _ _ (· < w1.heap.size) g1 (OI.ok.lt g1)
theorem Ordr.ordN {n : Nat} {xs : List Int} {t : List (List Int)} (h : Ordr n xs) (ht : t.length = n) (h1 : 1 ≤ n) (h2 : n ≤ 36) : ordN t xs = true := by
  unfold Go.Proofs.Ythomdggbmjknnaa.ordN
  rw [h.is h1 h2, h.1, ht]
  simp

theorem srcOrder4 {B b A : Nat} {w : World} (h : Src B w b A) (hA : A ≤ 100000000000) (n : Nat) (hn : 1 ≤ n) (hn2 : n ≤ 1000) :
    Calls Try.prog 63 #[.pointer (some ⟨b, 0, none⟩), .int .i64 n] w fun e w' => ∃ v xs, e = .returned v ∧ DrawnI B b (A + 2 * n) w w' v xs ∧ Ordr n xs := by
  have hb := h.lt
  have H := Lib.hid (DrawnI.start h); clear h
  go_enter Try.func63, Try.ntmps63
  go_wp2
  go_loopw [5, 6] (fun vo iv wr => ∃ (j : Nat), j ≤ n ∧ iv = .int .i64 j ∧ Hid (DrawnI B b A w wr vo (idxL j))) (fun _ iv _ => n - (intOf iv).toNat)
  case atStart => exact ⟨0, Nat.zero_le _, rfl, H⟩
  case round =>
    obtain ⟨j, hj, rfl, hd⟩ := hrel
    obtain ⟨W2, rfl⟩ : ∃ W2, W2 = wr := ⟨_, rfl⟩
    by_cases hj1 : j < n
    · obtain ⟨S, hown, hS⟩ := hd.out.own
      have Hown := Lib.hid hown
      have HS := Lib.hid hS
      have hlx := idxL_len j
      have Hlx := Lib.hid hlx
      clear hown hS hlx
      go_wp2_with (at_builtin; refine wpList_push rfl _ _ 25 rfl oI.ok Try.underlying25 infoI64 rfl Hown.out (u := .int .i64 j) (y := (j : Int)) (T := []) ⟨rfl, rfl⟩ (by simp) (by rw [Hlx.out]; omega) (by rw [Hlx.out]; unfold maxLen; omega) rfl rfl ?_; intro v1 w1 S1 hown1 honly1 hS1)
      have hd4 := Lib.hid (hd.out.turned hb HS.out (by rw [← idxL_succ] at hown1; exact hown1) (fun k hk => by
        rcases hS1 k hk with h | h | h
        · exact HS.out k h
        · simp at h
        · have := hd.out.only.size; omega) honly1)
      clear hown1 honly1 hS1
      go_roundw
      case rel => exact ⟨j + 1, by omega, by go_num, hd4⟩
      case measure => first | (simp [intOf]; done) | (simp [intOf]; omega)
    · obtain rfl : j = n := by omega
      have ho1 := Lib.hid (Ordr.start j)
      obtain ⟨g, c, e, hc1, hc2⟩ := drawn_shape hd.out (by rw [idxL_len]; omega)
      rw [idxL_len] at e hc1
      subst e
      obtain ⟨n, hjn⟩ : ∃ n : Nat, n = j := ⟨_, rfl⟩
      have hi0 : ((j : Int) - 1) = ((j - 1 : Nat) : Int) := by omega
      have Hi0 := Lib.hid hi0; clear hi0
      subst hjn
      go_wp2
      go_loopw [7] (fun iv wr => ∃ (z : Nat) (xs : List Int), z ≤ n - 1 ∧ iv = .int .i64 z ∧ Hid (DrawnI B b (A + 2 * (n - 1 - z)) w wr (.slice (some ⟨g, 0, none⟩) n c) xs) ∧ Hid (Ordr n xs)) (fun iv _ => (intOf iv).toNat)
      case atStart => exact ⟨n - 1, _, Nat.le_refl _, by rw [Hi0.out], Lib.hid (by rw [Nat.sub_self]; exact hd.out), ho1⟩
      case round =>
        clear hd ho1 hj1
        obtain ⟨z, xs, hz, rfl, hd, ho⟩ := hrel
        obtain ⟨W3, rfl⟩ : ∃ W3, W3 = wr := ⟨_, rfl⟩
        by_cases hz1 : 1 ≤ z
        · go_wp2_with fail
          refine (srcPick hd.out.src (by omega) _ (by omega)).mono ?_
          rintro e W4 ⟨⟨r, hr, rfl⟩, hs4, ho4⟩
          obtain ⟨k, rfl⟩ := Int.eq_ofNat_of_zero_le hr.1
          have hk : k ≤ z := by have := hr.2.1 (by omega); omega
          have hd4 := Lib.hid (hd.out.ask hb hs4 ho4)
          obtain ⟨S, hown, hS⟩ := hd4.out.own
          have hxl := ho.out.1
          have cz : W4.cell? ⟨g, z, none⟩ = some (.int .i64 (nth xs z)) := hown.cell (i := z) (by omega)
          have ck : W4.cell? ⟨g, k, none⟩ = some (.int .i64 (nth xs k)) := hown.cell (i := k) (by omega)
          have fz := hown.frozen z
          have fk := hown.frozen k
          have hg := hown.head.1
          have hown2 := (hown.put (i := k) (by omega) (nth xs z)).put (i := z) (by simp; omega) (nth xs k)
          have hon2 := ((Only.refl S W4).put hg k (.int .i64 (nth xs z))).put hg z (.int .i64 (nth xs k))
          have hd5 := Lib.hid (hd4.out.turned hb hS hown2 hS hon2)
          have ho5 := Lib.hid (ho.out.swap (i := k) (k := z) (by omega) (by omega))
          clear hown hown2 hon2 hs4 ho4 hr hxl hS
          by_cases hkz : k = z
          · obtain rfl : z = k := hkz.symm
            go_wp2
            go_roundw
            case rel => exact ⟨z - 1, _, by omega, by rw [show ((z : Int) - 1) = ((z - 1 : Nat) : Int) by omega], Lib.hid (by rw [show A + 2 * (n - 1 - (z - 1)) = A + 2 * (n - 1 - z) + 2 by omega]; exact hd5.out), ho5⟩
            case measure => first | (simp [intOf]; done) | (simp [intOf]; omega)
          · have hkz2 : ¬ z = k := fun h => hkz h.symm
            go_wp2
            go_roundw
            case rel => exact ⟨z - 1, _, by omega, by rw [show ((z : Int) - 1) = ((z - 1 : Nat) : Int) by omega], Lib.hid (by rw [show A + 2 * (n - 1 - (z - 1)) = A + 2 * (n - 1 - z) + 2 by omega]; exact hd5.out), ho5⟩
            case measure => first | (simp [intOf]; done) | (simp [intOf]; omega)
        · obtain rfl : z = 0 := by omega
          go_wp2
          go_ret
          exact ⟨_, xs, rfl, ⟨hd.out.own, hd.out.src.more (by omega), hd.out.only⟩, ho.out⟩
end Go.Proofs.Ythomdggbmjknnaa
