/- ListText: the implementation's walk. -/
import Derived.Test.YthomdggbmjknnaaDoorDc5
namespace Go.Proofs.YthomdggbmjknnaaDoor
open Go.RowKit
set_option linter.unusedVariables false

theorem strCells {w : World} {v : Value} {xs : List ByteArray} (h : Rd rS (· < w.heap.size) w v xs) (h1 : 1 ≤ xs.length) :
    ∃ b o c, v = .slice (some ⟨b, o, none⟩) xs.length c ∧ (∀ (j : Nat) x, xs[j]? = some x → w.cell? ⟨b, o + j, none⟩ = some (.string x)) ∧ b < w.heap.size ∧ xs.length ≤ c := by
  obtain ⟨a, c, rfl, g1, g2, hrd⟩ := h
  obtain ⟨b, o, u, rfl, hb, _, _⟩ := hrd 0 (by omega)
  refine ⟨b, o, c, rfl, fun j x hx => ?_, hb, g1⟩
  obtain ⟨hj, e⟩ := List.getElem?_eq_some_iff.1 hx
  obtain ⟨b', o', u, e', _, hc, rfl⟩ := hrd j hj
  simp only [Option.some.injEq, Addr.mk.injEq] at e'
  obtain ⟨rfl, rfl, _⟩ := e'
  rw [hc, nth_eq hj, e]

theorem strJoinN (bk o c n : Nat) (xs : List ByteArray) (hn : xs.length = n) (y : List UInt8) (hy : Lib.join (xs.map (·.data.toList)) [32] = y) (w : World)
    (hcells : ∀ (j : Nat) x, xs[j]? = some x → w.cell? ⟨bk, o + j, none⟩ = some (.string x))
    (hbk : bk < w.heap.size) (hN : n ≤ 140737488355328) (hcap : n ≤ c) (hlen : y.length ≤ 140737488355328) :
    Calls Tryd.prog 51 #[.slice (some ⟨bk, o, none⟩) n c, .string ⟨#[32]⟩] w fun e w' => e = .returned (.string ⟨y.toArray⟩) ∧ Below w.heap.size w w' := by
  subst hn hy
  exact strJoin bk o c xs ⟨#[32]⟩ w hcells hbk hN hcap hlen

theorem implListText0 {B : Nat} {v : Value} {t : List Int} {w : World} (h : RdI (· < B) w v t) (hB : B ≤ w.heap.size) (hn : t.length ≤ 40) (hb : ∀ i, i < t.length → -9223372036854775808 ≤ nth t i ∧ nth t i ≤ 9223372036854775807)
    (htab : Lib.TabIs Tryd.prog w "internal/strconv.uint64pow10" .u64 Lib.pow10Tab) :
    Calls Tryd.prog 37 #[v] w fun e w' => e = .returned (.string (ltV t)) ∧ Below w.heap.size w w' := by
  have h0 := Lib.hid h
  have Ht := Lib.hid htab
  obtain ⟨a, c, rfl, h1, h2⟩ := Rd.isSlice' h
  have Hb := Lib.hid hb
  have Hsz := Lib.hid (lt_size (t := t) hb t.length (Nat.le_refl _))
  clear h hb htab
  unfold maxLen at h2
  go_enter Tryd.func37, Tryd.ntmps37
  go_wp2
  go_loopw [3, 9] (fun s i wr => ∃ k : Nat, k ≤ t.length ∧ i = .int .i64 k ∧ Fresh (Own 9 oS) w wr s ((t.take k).map dS)) (fun _ i _ => t.length - (intOf i).toNat)
  case atStart => exact ⟨0, Nat.zero_le _, rfl, Fresh.empty (Below.refl _ _)⟩
  case round =>
    obtain ⟨k, hk, rfl, hf⟩ := hrel
    have hbel := hf.bel
    by_cases hlt : k < t.length
    · obtain ⟨a', c', e, g1, g2, hrd⟩ := Rd.below RdI.ok h0.out (hbel.mono hB)
      obtain ⟨b, o, u, e2, hPb, hc, rfl⟩ := hrd k hlt
      simp only [Value.slice.injEq] at e
      obtain ⟨rfl, _, rfl⟩ := e
      subst e2
      have hd1 := (Hb.out k hlt).1
      have hd2 := (Hb.out k hlt).2
      have Htr := Lib.hid (tabBelow Ht.out hbel)
      have Hf := Lib.hid hf
      have hs := Lib.hid (show (t.take (k + 1)).map dS = (t.take k).map dS ++ [dS (nth t k)] by rw [take_nth hlt]; simp)
      have hl2 := Lib.hid (show ((t.take k).map dS).length ≤ 40 by simp; omega)
      clear hrd hbel hf
      go_wp2_with (first
        | (go_at_call 10; refine (implDecimal (nth t k) hd1 hd2 _ Htr.out).mono ?_; rintro e w2 ⟨rfl, hb2⟩)
        | (at_builtin; refine wpList_pushF rfl (.tmp 13) (.tmp 16) 55 rfl (f := fS) (fun _ => rfl) Tryd.underlying55 infoStr rfl (Fresh.stay (Own.ok oS.ok) Hf.out hb2) (dS (nth t k)) (by have := hl2.out; omega) (by have := hl2.out; unfold maxLen; omega) rfl rfl ?_; intro v1 w3 hf1))
      go_roundw
      case rel => exact ⟨k + 1, by omega, by go_num, by rw [hs.out]; assumption⟩
      case measure => simp [intOf]; omega
    · obtain rfl : k = t.length := by omega
      rw [List.take_length] at hf
      by_cases hz : t.length = 0
      · have hv := Lib.hid (show ltV t = ⟨#[110, 111, 110, 101]⟩ by simp [ltV, hz])
        obtain ⟨a2, c2, rfl, _, _⟩ := Rd.isSlice' (hf.rd (Own.leads leaf.leads) (Own.ok oS.ok))
        have Hbel := Lib.hid hbel
        rw [List.length_map, hz]
        clear hf hbel
        go_wp2
        go_ret
        exact ⟨by rw [hv.out]; rfl, Hbel.out⟩
      · have hv := Lib.hid (show ltV t = ltTo t t.length by simp [ltV, hz])
        obtain ⟨b, o, c2, rfl, hcs, hbs, hcap⟩ := strCells (hf.rd (Own.leads leaf.leads) (Own.ok oS.ok)) (by simp; omega)
        have Hcs := Lib.hid hcs
        have Hj := Lib.hid (lt_join (t := t) (by omega))
        have Hbel := Lib.hid hbel
        rw [List.length_map] at hcap ⊢
        have hle : (ltTo t t.length).data.toList.length ≤ 140737488355328 := by
          have := Hsz.out
          have : (ltTo t t.length).data.toList.length = (ltTo t t.length).size := Array.length_toList
          omega
        have Hle := Lib.hid hle
        clear hcs hf hle hbel
        go_wp2_with fail
        refine (strJoinN b o c2 t.length (t.map dS) (by simp) _ Hj.out _ Hcs.out hbs (by omega) hcap Hle.out).mono ?_
        rintro e w4 ⟨rfl, hb4⟩
        go_wp2_with fail
        go_ret
        exact ⟨by rw [hv.out]; rfl, Hbel.out.trans (hb4.mono Hbel.out.size)⟩
end Go.Proofs.YthomdggbmjknnaaDoor
