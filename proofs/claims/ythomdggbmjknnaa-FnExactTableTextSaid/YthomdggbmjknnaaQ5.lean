/- A table as text, on both sides. -/
import Derived.Test.YthomdggbmjknnaaQ2
import Derived.Test.YthomdggbmjknnaaW1
import Derived.Test.YthomdggbmjknnaaSJ
namespace Go.Proofs.Ythomdggbmjknnaa
open Go.RowKit
set_option linter.unusedVariables false

theorem infoStr : (Try.prog.info? 9).map (fun i => (i.zero, i.size, i.bytes)) = some (some (.string ⟨#[]⟩), 1, 16) := by kernel_rfl

/-- The first k rows, a stroke between each two. -/
def txtTo (t : List (List Int)) : Nat → ByteArray
  | 0 => ⟨#[]⟩
  | k + 1 => (if 0 < k then txtTo t k ++ ⟨#[47]⟩ else txtTo t k) ++ wordS (nth t k)
theorem txtTo_one {t : List (List Int)} {k : Nat} (h : ¬ 0 < k) : txtTo t (k + 1) = txtTo t k ++ wordS (nth t k) := by simp [txtTo, h]
theorem txtTo_more {t : List (List Int)} {k : Nat} (h : 0 < k) : txtTo t (k + 1) = txtTo t k ++ ⟨#[47]⟩ ++ wordS (nth t k) := by simp [txtTo, h]
def txtS (t : List (List Int)) : ByteArray := if isQ t then txtTo t t.length else ⟨#[]⟩
theorem txtS_yes {t : List (List Int)} (h : isQ t = true) : txtS t = txtTo t t.length := by simp [txtS, h]
theorem txtS_no {t : List (List Int)} (h : isQ t = false) : txtS t = ⟨#[]⟩ := by simp [txtS, h]

theorem txtTo_list (x : List Int) (r : List (List Int)) (k : Nat) (hk : k ≤ r.length) :
    (txtTo (x :: r) (k + 1)).data.toList = syms x ++ Lib.joinTail [47] ((r.map syms).take k) := by
  induction k with
  | zero => simp [txtTo, wordS, nth, Lib.joinTail]
  | succ k ih =>
    have e : (r.map syms)[k]? = some (syms (nth (x :: r) (k + 1))) := by
      rw [List.getElem?_map, List.getElem?_eq_getElem (by omega)]
      rw [nth_eq (by simp; omega)]; simp
    rw [txtTo_more (by omega), Lib.joinTail_take_succ _ _ _ _ e]
    have h := ih (by omega)
    simp only [ByteArray.data_append, Array.toList_append, h, wordS, List.append_assoc]
theorem txt_join {t : List (List Int)} (h : 1 ≤ t.length) :
    Lib.join ((t.map wordS).map (·.data.toList)) [47] = (txtTo t t.length).data.toList := by
  obtain ⟨x, r, rfl⟩ : ∃ x r, t = x :: r := by
    cases t with
    | nil => simp at h
    | cons a t => exact ⟨a, t, rfl⟩
  have e : ((x :: r).map wordS).map (·.data.toList) = syms x :: r.map syms := by simp [wordS, Function.comp_def]
  rw [e, Lib.join_cons, List.length_cons, txtTo_list x r r.length (Nat.le_refl _), List.take_of_length_le (by simp)]
theorem txt_size {t : List (List Int)} (h : ∀ i, i < t.length → (nth t i).length ≤ 36) (k : Nat) (hk : k ≤ t.length) : (txtTo t k).size ≤ 37 * k := by
  induction k with
  | zero => simp [txtTo]; rfl
  | succ k ih =>
    have h1 := ih (by omega)
    have h2 := h k (by omega)
    have h3 : (wordS (nth t k)).size = (nth t k).length := by simp [wordS, ByteArray.size, syms]
    by_cases h0 : 0 < k
    · rw [txtTo_more h0, ByteArray.size_append, ByteArray.size_append, h3]
      have : (⟨#[47]⟩ : ByteArray).size = 1 := rfl
      omega
    · rw [txtTo_one h0, ByteArray.size_append, h3]; omega

theorem wordS_sz (xs : List Int) : (wordS xs).size = xs.length := by simp [wordS, ByteArray.size, syms]
theorem isQ_row36 {t : List (List Int)} (h : isQ t = true) {x : Nat} (hx : x < t.length) : (nth t x).length ≤ 1048576 ∧ ∀ i, i < (nth t x).length → 0 ≤ nth (nth t x) i ∧ nth (nth t x) i < 36 := by
  have h1 := isQ_rowLen h hx
  have h2 := isQ_len h
  refine ⟨by omega, fun i hi => ?_⟩
  have := isQ_bd h hx (y := i) (by omega)
  omega

theorem specL04Text {B : Nat} {v : Value} {t : List (List Int)} {w : World} (h : RdII (· < B) w v t) (hB : B ≤ w.heap.size) (hq : isQ t = true) :
    Calls Try.prog 57 #[v] w fun e w' => e = .returned (.string (txtTo t t.length)) ∧ Below w.heap.size w w' := by
  have h0 := Lib.hid h
  obtain ⟨a, c, rfl, h1, h2⟩ := h.isSlice
  have hl := isQ_len hq
  have Hsz := Lib.hid (fun k hk => txt_size (t := t) (fun i hi => by rw [isQ_rowLen hq hi]; exact hl.2) k hk)
  have Hq := Lib.hid hq
  clear h hq
  unfold maxLen at h2
  go_enter Try.func57, Try.ntmps57
  go_wp2
  go_loopw [3, 4] (fun s i wr => ∃ k : Nat, k ≤ t.length ∧ i = .int .i64 k ∧ s = .string (txtTo t k) ∧ Below w.heap.size w wr) (fun _ i _ => t.length - (intOf i).toNat)
  case atStart => exact ⟨0, Nat.zero_le _, rfl, rfl, Below.refl _ _⟩
  case round =>
    obtain ⟨k, hk, rfl, rfl, hbel⟩ := hrel
    have Hbel := Lib.hid hbel
    have hrd := Rd.below RdII.ok h0.out (hbel.mono hB)
    have hsz := Hsz.out k hk
    by_cases hlt : k < t.length
    · obtain ⟨b, o, a', c', rfl, hb, hc, g1, g2, hr⟩ := hrd.row hlt
      have Hr := Lib.hid hr
      have Hx := Lib.hid (isQ_row36 Hq.out hlt)
      have hBw := hbel.size
      clear hr hbel hrd
      unfold maxLen at g2
      by_cases h0k : 0 < k
      · have hs := Lib.hid (txtTo_more (t := t) h0k)
        have hz2 : (wordS (nth t k)).size ≤ 1048576 := by rw [wordS_sz]; exact Hx.out.1
        have hz1 : (txtTo t k ++ ⟨#[47]⟩).size ≤ 2000 := by rw [ByteArray.size_append]; have : (⟨#[47]⟩ : ByteArray).size = 1 := rfl; omega
        go_wp2_with (go_at_call 71; refine (specFrom Hr.out (fun k hk => by omega) Hx.out.1 Hx.out.2).mono ?_; rintro e w1 ⟨rfl, hb1⟩)
        go_roundw
        case rel => exact ⟨k + 1, by omega, by go_num, by rw [hs.out], Hbel.out.trans (hb1.mono hBw)⟩
        case measure => simp [intOf]; omega
      · have hs := Lib.hid (txtTo_one (t := t) h0k)
        have hz2 : (wordS (nth t k)).size ≤ 1048576 := by rw [wordS_sz]; exact Hx.out.1
        go_wp2_with (go_at_call 71; refine (specFrom Hr.out (fun k hk => by omega) Hx.out.1 Hx.out.2).mono ?_; rintro e w1 ⟨rfl, hb1⟩)
        go_roundw
        case rel => exact ⟨k + 1, by omega, by go_num, by rw [hs.out], Hbel.out.trans (hb1.mono hBw)⟩
        case measure => simp [intOf]; omega
    · obtain rfl : k = t.length := by omega
      clear hbel hrd
      go_wp2
      go_ret
      exact ⟨rfl, Hbel.out⟩

theorem specTableText {B : Nat} {v : Value} {t : List (List Int)} {w : World} (h : RdII (· < B) w v t) (hB : B ≤ w.heap.size) :
    Calls Try.prog 30 #[v] w fun e w' => e = .returned (.tuple #[.string (txtS t), .bool (isQ t)]) ∧ Below w.heap.size w w' := by
  have Hh := Lib.hid h
  clear h
  go_enter Try.func30, Try.ntmps30
  go_wp2_with fail
  refine (specL04Is Hh.out hB).mono ?_
  rintro e w1 ⟨rfl, hb1⟩
  have hs1 := hb1.size
  have Hh1 := Lib.hid (Rd.below RdII.ok Hh.out (hb1.mono hB))
  cases hq : isQ t
  · have ht := Lib.hid (txtS_no hq)
    go_wp2_with fail
    go_ret2
    exact ⟨by rw [ht.out, hq]; rfl, hb1⟩
  · have ht := Lib.hid (txtS_yes hq)
    go_wp2_with fail
    refine (specL04Text Hh1.out (by omega) hq).mono ?_
    rintro e w2 ⟨rfl, hb2⟩
    go_wp2_with fail
    go_ret2
    exact ⟨by rw [ht.out, hq]; rfl, hb1.trans (hb2.mono hs1)⟩

theorem strCells {w : World} {v : Value} {xs : List ByteArray} (h : Rd rS (· < w.heap.size) w v xs) (h1 : 1 ≤ xs.length) :
    ∃ b o c, v = .slice (some ⟨b, o, none⟩) xs.length c ∧ (∀ (j : Nat) x, xs[j]? = some x → w.cell? ⟨b, o + j, none⟩ = some (.string x)) ∧ b < w.heap.size ∧ xs.length ≤ c := by
  obtain ⟨a, c, rfl, g1, g2, hrd⟩ := h
  obtain ⟨b, o, u, rfl, hb, _, _⟩ := hrd 0 (by omega)
  refine ⟨b, o, c, rfl, fun j x hx => ?_, hb, g1⟩
  obtain ⟨hj, e⟩ := List.getElem?_eq_some_iff.1 hx
  obtain ⟨b', o', u, e', _, hc, rfl⟩ := hrd j hj
  simp only [Option.some.injEq, Addr.mk.injEq] at e'
  obtain ⟨rfl, rfl, _⟩ := e'
  rw [hc, nth_eq hj, e]

theorem strJoinN (bk o c n : Nat) (xs : List ByteArray) (hn : xs.length = n) (y : List UInt8) (hy : Lib.join (xs.map (·.data.toList)) [47] = y) (w : World)
    (hcells : ∀ (j : Nat) x, xs[j]? = some x → w.cell? ⟨bk, o + j, none⟩ = some (.string x))
    (hbk : bk < w.heap.size) (hN : n ≤ 140737488355328) (hcap : n ≤ c) (hlen : y.length ≤ 140737488355328) :
    Calls Try.prog 60 #[.slice (some ⟨bk, o, none⟩) n c, .string ⟨#[47]⟩] w fun e w' => e = .returned (.string ⟨y.toArray⟩) ∧ Below w.heap.size w w' := by
  subst hn hy
  exact strJoin bk o c xs ⟨#[47]⟩ w hcells hbk hN hcap hlen

theorem implTableText {B : Nat} {v : Value} {t : List (List Int)} {w : World} (h : RdII (· < B) w v t) (hB : B ≤ w.heap.size) :
    Calls Try.prog 32 #[v] w fun e w' => e = .returned (.tuple #[.string (txtS t), .bool (isQ t)]) ∧ Below w.heap.size w w' := by
  have h0 := Lib.hid h
  obtain ⟨a, c, rfl, h1, h2⟩ := h.isSlice
  clear h
  unfold maxLen at h2
  cases hq : isQ t
  · have ht := Lib.hid (txtS_no hq)
    go_enter Try.func32, Try.ntmps32
    go_wp2_with fail
    refine (implIsQuasigroup h0.out hB).mono ?_
    rw [hq]
    rintro e w1 ⟨rfl, hb1⟩
    go_wp2_with fail
    go_ret2
    exact ⟨by rw [ht.out]; rfl, hb1⟩
  have ht := Lib.hid (txtS_yes hq)
  have hl := isQ_len hq
  have Hsz := Lib.hid (txt_size (t := t) (fun i hi => by rw [isQ_rowLen hq hi]; exact hl.2) t.length (Nat.le_refl _))
  have Hq := Lib.hid hq
  go_enter Try.func32, Try.ntmps32
  go_wp2_with fail
  refine (implIsQuasigroup h0.out hB).mono ?_
  rw [hq]
  rintro e w1 ⟨rfl, hb1⟩
  have hs1 := hb1.size
  clear hq
  go_wp2_with fail
  go_loopw [4, 13] (fun s i wr => ∃ k : Nat, k ≤ t.length ∧ i = .int .i64 k ∧ Fresh (Own 9 oS) w wr s ((t.take k).map wordS)) (fun _ i _ => t.length - (intOf i).toNat)
  case atStart => exact ⟨0, Nat.zero_le _, rfl, Fresh.empty hb1⟩
  case round =>
    obtain ⟨k, hk, rfl, hf⟩ := hrel
    have hbel := hf.bel
    have hrd := Rd.below RdII.ok h0.out (hbel.mono hB)
    by_cases hlt : k < t.length
    · obtain ⟨b, o, a', c', rfl, hb, hc, g1, g2, hr⟩ := hrd.row hlt
      have Hr := Lib.hid hr
      have Hf := Lib.hid hf
      have Hx := Lib.hid (isQ_row36 Hq.out hlt)
      have hBw := hbel.size
      have hs := Lib.hid (show (t.take (k + 1)).map wordS = (t.take k).map wordS ++ [wordS (nth t k)] by rw [take_nth hlt]; simp)
      have hl2 := Lib.hid (show ((t.take k).map wordS).length ≤ 36 by simp; omega)
      clear hr hrd hf
      unfold maxLen at g2
      go_wp2_with (first
        | (go_at_call 59; refine (implWordOf Hr.out (fun k hk => by omega) Hx.out.1 Hx.out.2).mono ?_; rintro e w2 ⟨rfl, hb2⟩)
        | (at_builtin; refine wpList_pushF rfl (.tmp 17) (.tmp 20) 67 rfl (f := fS) (fun _ => rfl) Try.underlying67 infoStr rfl (Fresh.stay (Own.ok oS.ok) Hf.out hb2) (wordS (nth t k)) (by have := hl2.out; omega) (by have := hl2.out; unfold maxLen; omega) rfl rfl ?_; intro v1 w3 hf1))
      go_roundw
      case rel => exact ⟨k + 1, by omega, by go_num, by rw [hs.out]; assumption⟩
      case measure => simp [intOf]; omega
    · obtain rfl : k = t.length := by omega
      rw [List.take_length] at hf
      obtain ⟨b, o, c2, rfl, hcs, hbs, hcap⟩ := strCells (hf.rd (Own.leads leaf.leads) (Own.ok oS.ok)) (by simp; omega)
      have Hcs := Lib.hid hcs
      have Hj := Lib.hid (txt_join (t := t) hl.1)
      clear hcs hrd hf
      rw [List.length_map] at hcap ⊢
      have hle : (txtTo t t.length).data.toList.length ≤ 140737488355328 := by
        have := Hsz.out
        have : (txtTo t t.length).data.toList.length = (txtTo t t.length).size := Array.length_toList
        omega
      have Hle := Lib.hid hle
      clear hle
      go_wp2_with fail
      refine (strJoinN b o c2 t.length (t.map wordS) (by simp) _ Hj.out _ Hcs.out hbs (by omega) hcap Hle.out).mono ?_
      rintro e w4 ⟨rfl, hb4⟩
      go_wp2_with fail
      go_ret2
      exact ⟨by rw [ht.out]; rfl, hbel.trans (hb4.mono hbel.size)⟩
end Go.Proofs.Ythomdggbmjknnaa
