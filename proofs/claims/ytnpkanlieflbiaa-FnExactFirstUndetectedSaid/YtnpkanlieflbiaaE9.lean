/- All errors of a kind, listed by the reference: spec.l02Wrong, walked kind by kind. Printed by gen_e9.py. -/
import Derived.Test.YtnpkanlieflbiaaC5
import Derived.Test.YtnpkanlieflbiaaF1
import Derived.Test.YtnpkanlieflbiaaB1
import Derived.IntWalk
namespace Go.Proofs.Ytnpkanlieflbiaa
open Go.RowKit
set_option linter.unusedVariables false

/-- Two lists of lists, apart, made since w0. -/
def Two (w0 w : World) (vf vt : Value) (A B : List (List Int)) : Prop := ∃ S1 S2, OII w vf A S1 ∧ OII w vt B S2 ∧ (∀ k ∈ S1, k ∉ S2) ∧ (∀ k ∈ S1, w0.heap.size ≤ k) ∧ (∀ k ∈ S2, w0.heap.size ≤ k) ∧ Below w0.heap.size w0 w
/-- One list more on the left. -/
theorem Two.left {w0 W w1 : World} {vf vt v1 : Value} {A B : List (List Int)} {r : List Int} {o : Obj} {S1 S2 S1' : List Nat} (h1 : OII W vf A S1) (h2 : OII W vt B S2) (hd : ∀ k ∈ S1, k ∉ S2) (hS1 : ∀ k ∈ S1, w0.heap.size ≤ k) (hS2 : ∀ k ∈ S2, w0.heap.size ≤ k)
    (hb : Below w0.heap.size w0 W) (ho : OII w1 v1 (A ++ [r]) S1') (hon : Only S1 (W.alloc o) w1) (hS : ∀ k ∈ S1', k ∈ S1 ∨ k ∈ [W.heap.size] ∨ (W.alloc o).heap.size ≤ k) : Two w0 w1 v1 vt (A ++ [r]) B := by
  have hs := alloc_size W o
  have hsz := hb.size
  refine ⟨S1', S2, ho, OII.ok.keep h2 fun k hk => ?_, fun k hk hk2 => ?_, fun k hk => ?_, hS2, ?_⟩
  · have hlt := OII.ok.lt h2 k hk
    exact (hon.block k (by omega) (fun h => hd k h hk)).trans (Below.heap_alloc W o k hlt)
  · have hlt := OII.ok.lt h2 k hk2
    rcases hS k hk with h | h | h
    · exact hd k h hk2
    · simp at h; omega
    · omega
  · rcases hS k hk with h | h | h
    · exact hS1 k h
    · simp at h; omega
    · omega
  · exact below_only (hb.alloc hsz o) hon (by omega) hS1
theorem Two.swap {w0 w : World} {vf vt : Value} {A B : List (List Int)} (h : Two w0 w vf vt A B) : Two w0 w vt vf B A := by
  obtain ⟨S1, S2, h1, h2, hd, hS1, hS2, hb⟩ := h
  exact ⟨S2, S1, h2, h1, fun k hk hk2 => hd k hk2 hk, hS2, hS1, hb⟩
theorem Two.start {w0 w w1 : World} {vf vt : Value} (hf : Fresh OII w0 w vf []) (ht : Fresh OII w w1 vt []) : Two w0 w1 vf vt [] [] := by
  obtain ⟨S1, h1, g1, b1⟩ := hf
  obtain ⟨S2, h2, g2, b2⟩ := ht
  refine ⟨S1, S2, OII.ok.keep h1 fun k hk => b2.block k (OII.ok.lt h1 k hk), h2, fun k hk hk2 => ?_, g1, fun k hk => Nat.le_trans b1.size (g2 k hk), b1.trans (b2.mono b1.size)⟩
  have := OII.ok.lt h1 k hk
  have := g2 k hk2
  omega
theorem fst_snoc (L : List (List Int × List Int)) (p q : List Int) : (L ++ [(p, q)]).map Prod.fst = L.map Prod.fst ++ [p] := by simp
theorem snd_snoc (L : List (List Int × List Int)) (p q : List Int) : (L ++ [(p, q)]).map Prod.snd = L.map Prod.snd ++ [q] := by simp

set_option maxHeartbeats 1600000 in
set_option maxRecDepth 10000 in
theorem specWrong0 (b : Nat) (hb : 2 ≤ b) (hb2 : b ≤ 36) (w : World) :
    Calls Try.prog 149 #[.int .i64 b, .int .i64 0] w fun e w' => ∃ vf vt, e = .returned (.tuple #[vf, vt]) ∧ Two w w' vf vt ((wrongS 0 b).map Prod.fst) ((wrongS 0 b).map Prod.snd) := by
  go_enter Try.func149, Try.ntmps149
  go_wp2
  go_loopw [6, 7, 8] (fun vf vt av wr => ∃ a : Nat, a ≤ b ∧ av = .int .i64 a ∧ Hid (Two w wr vf vt ((wB 0 b a 0).map Prod.fst) ((wB 0 b a 0).map Prod.snd))) (fun _ _ av _ => b - (intOf av).toNat)
  case atStart =>
    have hf : Fresh OII w _ _ [] := Fresh.empty (E := 22) (R := OI) (Below.refl w.heap.size w)
    have ht : Fresh OII (w.alloc (.cells #[] 22)) _ _ [] := Fresh.empty (E := 22) (R := OI) (Below.refl _ _)
    have ht' : Fresh OII (w.alloc (.cells #[] 22)) ((w.alloc (.cells #[] 22)).alloc (.cells #[] 22)) (.slice (some ⟨w.heap.size + 1, 0, none⟩) 0 0) [] := by rw [alloc_size] at ht; exact ht
    exact ⟨0, Nat.zero_le _, rfl, Lib.hid (Two.start hf ht')⟩
  case round =>
    obtain ⟨a, ha, rfl, ht⟩ := hrel
    obtain ⟨W2, rfl⟩ : ∃ W2, W2 = wr := ⟨_, rfl⟩
    by_cases hla : a < b
    · go_wp2
      go_loopw [6, 7, 9] (fun vf vt cv wr => ∃ c : Nat, c ≤ b ∧ cv = .int .i64 c ∧ Hid (Two w wr vf vt ((wB 0 b a c).map Prod.fst) ((wB 0 b a c).map Prod.snd))) (fun _ _ cv _ => b - (intOf cv).toNat)
      case atStart => exact ⟨0, Nat.zero_le _, rfl, ht⟩
      case round =>
        clear ht
        obtain ⟨c, hc, rfl, ht⟩ := hrel
        obtain ⟨W3, rfl⟩ : ∃ W3, W3 = wr := ⟨_, rfl⟩
        by_cases hlc : c < b
        · have hln := wB_len 0 hb hb2 ha hc
          have hsc := Lib.hid (wB_succ 0 b a c)
          by_cases he : a = c
          · have hb1 : ((a : Int) != (c : Int)) = false := by simp [he]
            have ht2 := Lib.hid (show Two w W3 _ _ ((wB 0 b a (c + 1)).map Prod.fst) ((wB 0 b a (c + 1)).map Prod.snd) by rw [hsc.out, show cellS 0 b a c = [] by rw [cellS_0, if_neg (by omega)], List.append_nil]; exact ht.out)
            clear he
            go_wp2
            go_roundw
            case rel => exact ⟨c + 1, by omega, by go_num, ht2⟩
            case measure => simp [intOf]; omega
          · have hb1 : ((a : Int) != (c : Int)) = true := by simp; omega
            have hcell := Lib.hid (show a ≠ c from he)
            clear he
            obtain ⟨S1, S2, h1, h2, hd, hS1, hS2, hbel⟩ := ht.out
            have hr1 := Lib.hid (Own.lit W3 2 fI [(a : Int)] (by unfold maxLen; simp))
            have hown1 := Lib.hid (Own.alloc OI.ok h1 (.cells ([(a : Int)].map fI).toArray 2))
            have hd1 := Lib.hid (show ∀ j ∈ [W3.heap.size], j ∉ S1 from fun j hj hm => by simp at hj; have h3 := OII.ok.lt h1 j hm; omega)
            have HT := Lib.hid (fun v1 w1 S1' ho hon hS => Two.left (v1 := v1) (w1 := w1) (S1' := S1') (r := [(a : Int)]) (o := .cells ([(a : Int)].map fI).toArray 2) h1 h2 hd hS1 hS2 hbel ho hon hS)
            clear h1 h2 hd hS1 hS2 hbel
            go_wp2_with (first
              | (at_builtin; refine wpList_push rfl _ _ 38 rfl OI.ok Try.underlying38 infoSl' rfl hown1.out hr1.out hd1.out (by rw [List.length_map]; omega) (by rw [List.length_map]; unfold maxLen; omega) rfl (by rw [alloc_size]; rfl) ?_; intro v1 w1 S1' ho1 hon1 hS1'
                 have HT1 := Lib.hid (HT.out v1 w1 S1' ho1 hon1 hS1').swap
                 clear ho1 hon1 hS1'
                 obtain ⟨S3, S4, h1, h2, hd, hS1, hS2, hbel⟩ := HT1.out
                 have hr2 := Lib.hid (Own.lit w1 2 fI [(c : Int)] (by unfold maxLen; simp))
                 have hown2 := Lib.hid (Own.alloc OI.ok h1 (.cells ([(c : Int)].map fI).toArray 2))
                 have hd2 := Lib.hid (show ∀ j ∈ [w1.heap.size], j ∉ S3 from fun j hj hm => by simp at hj; have h3 := OII.ok.lt h1 j hm; omega)
                 have HT3 := Lib.hid (fun v2 w2 S1' ho hon hS => Two.left (v1 := v2) (w1 := w2) (S1' := S1') (r := [(c : Int)]) (o := .cells ([(c : Int)].map fI).toArray 2) h1 h2 hd hS1 hS2 hbel ho hon hS)
                 clear h1 h2 hd hS1 hS2 hbel HT1 HT hown1 hr1 hd1)
              | (at_builtin; refine wpList_push rfl _ _ 38 rfl OI.ok Try.underlying38 infoSl' rfl hown2.out hr2.out hd2.out (by rw [List.length_map]; omega) (by rw [List.length_map]; unfold maxLen; omega) rfl (by rw [alloc_size]; rfl) ?_; intro v2 w2 S2' ho2 hon2 hS2'
                 have HT2 := Lib.hid (HT3.out v2 w2 S2' ho2 hon2 hS2').swap
                 clear ho2 hon2 hS2' hr2 hown2 hd2 HT3))
            have ht2 := Lib.hid (show Two w w2 v1 v2 ((wB 0 b a (c + 1)).map Prod.fst) ((wB 0 b a (c + 1)).map Prod.snd) by rw [hsc.out, show cellS 0 b a c = [([(a : Int)], [(c : Int)])] by rw [cellS_0, if_pos hcell.out], fst_snoc, snd_snoc]; exact HT2.out)
            go_roundw
            case rel => exact ⟨c + 1, by omega, by go_num, ht2⟩
            case measure => simp [intOf]; omega
        · obtain rfl : c = b := by omega
          have ht2 := Lib.hid (show Two w W3 _ _ ((wB 0 c (a + 1) 0).map Prod.fst) ((wB 0 c (a + 1) 0).map Prod.snd) by rw [← wB_next]; exact ht.out)
          go_wp2
          go_roundw
          case rel => exact ⟨a + 1, by omega, by go_num, ht2⟩
          case measure => simp [intOf]; omega
    · obtain rfl : a = b := by omega
      have ht2 := Lib.hid (show Two w W2 _ _ ((wrongS 0 a).map Prod.fst) ((wrongS 0 a).map Prod.snd) by rw [← wB_end]; exact ht.out)
      go_wp2
      exact bodyPost_ret (v := .tuple #[_, _]) (by simp [results, Try.results149, go_sem]) rfl ⟨_, _, rfl, ht2.out⟩

set_option maxHeartbeats 1600000 in
set_option maxRecDepth 10000 in
theorem specWrong1 (b : Nat) (hb : 2 ≤ b) (hb2 : b ≤ 36) (w : World) :
    Calls Try.prog 149 #[.int .i64 b, .int .i64 1] w fun e w' => ∃ vf vt, e = .returned (.tuple #[vf, vt]) ∧ Two w w' vf vt ((wrongS 1 b).map Prod.fst) ((wrongS 1 b).map Prod.snd) := by
  go_enter Try.func149, Try.ntmps149
  go_wp2
  go_loopw [6, 7, 8] (fun vf vt av wr => ∃ a : Nat, a ≤ b ∧ av = .int .i64 a ∧ Hid (Two w wr vf vt ((wB 1 b a 0).map Prod.fst) ((wB 1 b a 0).map Prod.snd))) (fun _ _ av _ => b - (intOf av).toNat)
  case atStart =>
    have hf : Fresh OII w _ _ [] := Fresh.empty (E := 22) (R := OI) (Below.refl w.heap.size w)
    have ht : Fresh OII (w.alloc (.cells #[] 22)) _ _ [] := Fresh.empty (E := 22) (R := OI) (Below.refl _ _)
    have ht' : Fresh OII (w.alloc (.cells #[] 22)) ((w.alloc (.cells #[] 22)).alloc (.cells #[] 22)) (.slice (some ⟨w.heap.size + 1, 0, none⟩) 0 0) [] := by rw [alloc_size] at ht; exact ht
    exact ⟨0, Nat.zero_le _, rfl, Lib.hid (Two.start hf ht')⟩
  case round =>
    obtain ⟨a, ha, rfl, ht⟩ := hrel
    obtain ⟨W2, rfl⟩ : ∃ W2, W2 = wr := ⟨_, rfl⟩
    by_cases hla : a < b
    · go_wp2
      go_loopw [6, 7, 9] (fun vf vt cv wr => ∃ c : Nat, c ≤ b ∧ cv = .int .i64 c ∧ Hid (Two w wr vf vt ((wB 1 b a c).map Prod.fst) ((wB 1 b a c).map Prod.snd))) (fun _ _ cv _ => b - (intOf cv).toNat)
      case atStart => exact ⟨0, Nat.zero_le _, rfl, ht⟩
      case round =>
        clear ht
        obtain ⟨c, hc, rfl, ht⟩ := hrel
        obtain ⟨W3, rfl⟩ : ∃ W3, W3 = wr := ⟨_, rfl⟩
        by_cases hlc : c < b
        · have hln := wB_len 1 hb hb2 ha hc
          have hsc := Lib.hid (wB_succ 1 b a c)
          by_cases he : a = c
          · have hb1 : ((a : Int) != (c : Int)) = false := by simp [he]
            have ht2 := Lib.hid (show Two w W3 _ _ ((wB 1 b a (c + 1)).map Prod.fst) ((wB 1 b a (c + 1)).map Prod.snd) by rw [hsc.out, show cellS 1 b a c = [] by rw [cellS_1, if_neg (by omega)], List.append_nil]; exact ht.out)
            clear he
            go_wp2
            go_roundw
            case rel => exact ⟨c + 1, by omega, by go_num, ht2⟩
            case measure => simp [intOf]; omega
          · have hb1 : ((a : Int) != (c : Int)) = true := by simp; omega
            have hcell := Lib.hid (show a ≠ c from he)
            clear he
            obtain ⟨S1, S2, h1, h2, hd, hS1, hS2, hbel⟩ := ht.out
            have hr1 := Lib.hid (Own.lit W3 2 fI [(a : Int), (c : Int)] (by unfold maxLen; simp))
            have hown1 := Lib.hid (Own.alloc OI.ok h1 (.cells ([(a : Int), (c : Int)].map fI).toArray 2))
            have hd1 := Lib.hid (show ∀ j ∈ [W3.heap.size], j ∉ S1 from fun j hj hm => by simp at hj; have h3 := OII.ok.lt h1 j hm; omega)
            have HT := Lib.hid (fun v1 w1 S1' ho hon hS => Two.left (v1 := v1) (w1 := w1) (S1' := S1') (r := [(a : Int), (c : Int)]) (o := .cells ([(a : Int), (c : Int)].map fI).toArray 2) h1 h2 hd hS1 hS2 hbel ho hon hS)
            clear h1 h2 hd hS1 hS2 hbel
            go_wp2_with (first
              | (at_builtin; refine wpList_push rfl _ _ 38 rfl OI.ok Try.underlying38 infoSl' rfl hown1.out hr1.out hd1.out (by rw [List.length_map]; omega) (by rw [List.length_map]; unfold maxLen; omega) rfl (by rw [alloc_size]; rfl) ?_; intro v1 w1 S1' ho1 hon1 hS1'
                 have HT1 := Lib.hid (HT.out v1 w1 S1' ho1 hon1 hS1').swap
                 clear ho1 hon1 hS1'
                 obtain ⟨S3, S4, h1, h2, hd, hS1, hS2, hbel⟩ := HT1.out
                 have hr2 := Lib.hid (Own.lit w1 2 fI [(c : Int), (a : Int)] (by unfold maxLen; simp))
                 have hown2 := Lib.hid (Own.alloc OI.ok h1 (.cells ([(c : Int), (a : Int)].map fI).toArray 2))
                 have hd2 := Lib.hid (show ∀ j ∈ [w1.heap.size], j ∉ S3 from fun j hj hm => by simp at hj; have h3 := OII.ok.lt h1 j hm; omega)
                 have HT3 := Lib.hid (fun v2 w2 S1' ho hon hS => Two.left (v1 := v2) (w1 := w2) (S1' := S1') (r := [(c : Int), (a : Int)]) (o := .cells ([(c : Int), (a : Int)].map fI).toArray 2) h1 h2 hd hS1 hS2 hbel ho hon hS)
                 clear h1 h2 hd hS1 hS2 hbel HT1 HT hown1 hr1 hd1)
              | (at_builtin; refine wpList_push rfl _ _ 38 rfl OI.ok Try.underlying38 infoSl' rfl hown2.out hr2.out hd2.out (by rw [List.length_map]; omega) (by rw [List.length_map]; unfold maxLen; omega) rfl (by rw [alloc_size]; rfl) ?_; intro v2 w2 S2' ho2 hon2 hS2'
                 have HT2 := Lib.hid (HT3.out v2 w2 S2' ho2 hon2 hS2').swap
                 clear ho2 hon2 hS2' hr2 hown2 hd2 HT3))
            have ht2 := Lib.hid (show Two w w2 v1 v2 ((wB 1 b a (c + 1)).map Prod.fst) ((wB 1 b a (c + 1)).map Prod.snd) by rw [hsc.out, show cellS 1 b a c = [([(a : Int), (c : Int)], [(c : Int), (a : Int)])] by rw [cellS_1, if_pos hcell.out], fst_snoc, snd_snoc]; exact HT2.out)
            go_roundw
            case rel => exact ⟨c + 1, by omega, by go_num, ht2⟩
            case measure => simp [intOf]; omega
        · obtain rfl : c = b := by omega
          have ht2 := Lib.hid (show Two w W3 _ _ ((wB 1 c (a + 1) 0).map Prod.fst) ((wB 1 c (a + 1) 0).map Prod.snd) by rw [← wB_next]; exact ht.out)
          go_wp2
          go_roundw
          case rel => exact ⟨a + 1, by omega, by go_num, ht2⟩
          case measure => simp [intOf]; omega
    · obtain rfl : a = b := by omega
      have ht2 := Lib.hid (show Two w W2 _ _ ((wrongS 1 a).map Prod.fst) ((wrongS 1 a).map Prod.snd) by rw [← wB_end]; exact ht.out)
      go_wp2
      exact bodyPost_ret (v := .tuple #[_, _]) (by simp [results, Try.results149, go_sem]) rfl ⟨_, _, rfl, ht2.out⟩

set_option maxHeartbeats 1600000 in
set_option maxRecDepth 10000 in
theorem specWrong2 (b : Nat) (hb : 2 ≤ b) (hb2 : b ≤ 36) (w : World) :
    Calls Try.prog 149 #[.int .i64 b, .int .i64 2] w fun e w' => ∃ vf vt, e = .returned (.tuple #[vf, vt]) ∧ Two w w' vf vt ((wrongS 2 b).map Prod.fst) ((wrongS 2 b).map Prod.snd) := by
  go_enter Try.func149, Try.ntmps149
  go_wp2
  go_loopw [6, 7, 8] (fun vf vt av wr => ∃ a : Nat, a ≤ b ∧ av = .int .i64 a ∧ Hid (Two w wr vf vt ((wB 2 b a 0).map Prod.fst) ((wB 2 b a 0).map Prod.snd))) (fun _ _ av _ => b - (intOf av).toNat)
  case atStart =>
    have hf : Fresh OII w _ _ [] := Fresh.empty (E := 22) (R := OI) (Below.refl w.heap.size w)
    have ht : Fresh OII (w.alloc (.cells #[] 22)) _ _ [] := Fresh.empty (E := 22) (R := OI) (Below.refl _ _)
    have ht' : Fresh OII (w.alloc (.cells #[] 22)) ((w.alloc (.cells #[] 22)).alloc (.cells #[] 22)) (.slice (some ⟨w.heap.size + 1, 0, none⟩) 0 0) [] := by rw [alloc_size] at ht; exact ht
    exact ⟨0, Nat.zero_le _, rfl, Lib.hid (Two.start hf ht')⟩
  case round =>
    obtain ⟨a, ha, rfl, ht⟩ := hrel
    obtain ⟨W2, rfl⟩ : ∃ W2, W2 = wr := ⟨_, rfl⟩
    by_cases hla : a < b
    · go_wp2
      go_loopw [6, 7, 9] (fun vf vt cv wr => ∃ c : Nat, c ≤ b ∧ cv = .int .i64 c ∧ Hid (Two w wr vf vt ((wB 2 b a c).map Prod.fst) ((wB 2 b a c).map Prod.snd))) (fun _ _ cv _ => b - (intOf cv).toNat)
      case atStart => exact ⟨0, Nat.zero_le _, rfl, ht⟩
      case round =>
        clear ht
        obtain ⟨c, hc, rfl, ht⟩ := hrel
        obtain ⟨W3, rfl⟩ : ∃ W3, W3 = wr := ⟨_, rfl⟩
        by_cases hlc : c < b
        · have hln := wB_len 2 hb hb2 ha hc
          have hsc := Lib.hid (wB_succ 2 b a c)
          have ht0 := Lib.hid (show Two w W3 _ _ ((wB 2 b a c ++ tri (fun (e : Nat) => ([(a : Int), (c : Int), (e : Int)], [(e : Int), (c : Int), (a : Int)])) a 0).map Prod.fst) ((wB 2 b a c ++ tri (fun (e : Nat) => ([(a : Int), (c : Int), (e : Int)], [(e : Int), (c : Int), (a : Int)])) a 0).map Prod.snd) by rw [tri_zero, List.append_nil]; exact ht.out)
          go_wp2
          go_loopw [6, 7, 10] (fun vf vt ev wr => ∃ e : Nat, e ≤ b ∧ ev = .int .i64 e ∧ Hid (Two w wr vf vt ((wB 2 b a c ++ tri (fun (e : Nat) => ([(a : Int), (c : Int), (e : Int)], [(e : Int), (c : Int), (a : Int)])) a e).map Prod.fst) ((wB 2 b a c ++ tri (fun (e : Nat) => ([(a : Int), (c : Int), (e : Int)], [(e : Int), (c : Int), (a : Int)])) a e).map Prod.snd))) (fun _ _ ev _ => b - (intOf ev).toNat)
          case atStart => exact ⟨0, Nat.zero_le _, rfl, ht0⟩
          case round =>
            clear ht ht0
            obtain ⟨e, hee, rfl, ht⟩ := hrel
            obtain ⟨W4, rfl⟩ : ∃ W4, W4 = wr := ⟨_, rfl⟩
            by_cases hle : e < b
            · have hl3 := tri_len (fun (e : Nat) => ([(a : Int), (c : Int), (e : Int)], [(e : Int), (c : Int), (a : Int)])) a e
              have hl4 : (wB 2 b a c ++ tri (fun (e : Nat) => ([(a : Int), (c : Int), (e : Int)], [(e : Int), (c : Int), (a : Int)])) a e).length ≤ 60000 := by rw [List.length_append]; omega
              by_cases he : a = e
              · have hb1 : ((a : Int) == (e : Int)) = true := by simp [he]
                have ht2 := Lib.hid (show Two w W4 _ _ ((wB 2 b a c ++ tri (fun (e : Nat) => ([(a : Int), (c : Int), (e : Int)], [(e : Int), (c : Int), (a : Int)])) a (e + 1)).map Prod.fst) ((wB 2 b a c ++ tri (fun (e : Nat) => ([(a : Int), (c : Int), (e : Int)], [(e : Int), (c : Int), (a : Int)])) a (e + 1)).map Prod.snd) by rw [tri_no _ he]; exact ht.out)
                clear he
                go_wp2
                go_roundw
                case rel => exact ⟨e + 1, by omega, by go_num, ht2⟩
                case measure => simp [intOf]; omega
              · have hb1 : ((a : Int) == (e : Int)) = false := by simp; omega
                have hcell := Lib.hid (show a ≠ e from he)
                clear he hl3 hln
                obtain ⟨L, hL⟩ : ∃ L, L = wB 2 b a c ++ tri (fun (e : Nat) => ([(a : Int), (c : Int), (e : Int)], [(e : Int), (c : Int), (a : Int)])) a e := ⟨_, rfl⟩
                rw [← hL] at ht hl4
                have HL := Lib.hid hL; clear hL
                obtain ⟨S1, S2, h1, h2, hd, hS1, hS2, hbel⟩ := ht.out
                have hr1 := Lib.hid (Own.lit W4 2 fI [(a : Int), (c : Int), (e : Int)] (by unfold maxLen; simp))
                have hown1 := Lib.hid (Own.alloc OI.ok h1 (.cells ([(a : Int), (c : Int), (e : Int)].map fI).toArray 2))
                have hd1 := Lib.hid (show ∀ j ∈ [W4.heap.size], j ∉ S1 from fun j hj hm => by simp at hj; have h3 := OII.ok.lt h1 j hm; omega)
                have HT := Lib.hid (fun v1 w1 S1' ho hon hS => Two.left (v1 := v1) (w1 := w1) (S1' := S1') (r := [(a : Int), (c : Int), (e : Int)]) (o := .cells ([(a : Int), (c : Int), (e : Int)].map fI).toArray 2) h1 h2 hd hS1 hS2 hbel ho hon hS)
                clear h1 h2 hd hS1 hS2 hbel
                go_wp2_with (first
                  | (at_builtin; refine wpList_push rfl _ _ 38 rfl OI.ok Try.underlying38 infoSl' rfl hown1.out hr1.out hd1.out (by rw [List.length_map]; omega) (by rw [List.length_map]; unfold maxLen; omega) rfl (by rw [alloc_size]; rfl) ?_; intro v1 w1 S1' ho1 hon1 hS1'
                     have HT1 := Lib.hid (HT.out v1 w1 S1' ho1 hon1 hS1').swap
                     clear ho1 hon1 hS1'
                     obtain ⟨S3, S4, h1, h2, hd, hS1, hS2, hbel⟩ := HT1.out
                     have hr2 := Lib.hid (Own.lit w1 2 fI [(e : Int), (c : Int), (a : Int)] (by unfold maxLen; simp))
                     have hown2 := Lib.hid (Own.alloc OI.ok h1 (.cells ([(e : Int), (c : Int), (a : Int)].map fI).toArray 2))
                     have hd2 := Lib.hid (show ∀ j ∈ [w1.heap.size], j ∉ S3 from fun j hj hm => by simp at hj; have h3 := OII.ok.lt h1 j hm; omega)
                     have HT3 := Lib.hid (fun v2 w2 S1' ho hon hS => Two.left (v1 := v2) (w1 := w2) (S1' := S1') (r := [(e : Int), (c : Int), (a : Int)]) (o := .cells ([(e : Int), (c : Int), (a : Int)].map fI).toArray 2) h1 h2 hd hS1 hS2 hbel ho hon hS)
                     clear h1 h2 hd hS1 hS2 hbel HT1 HT hown1 hr1 hd1)
                  | (at_builtin; refine wpList_push rfl _ _ 38 rfl OI.ok Try.underlying38 infoSl' rfl hown2.out hr2.out hd2.out (by rw [List.length_map]; omega) (by rw [List.length_map]; unfold maxLen; omega) rfl (by rw [alloc_size]; rfl) ?_; intro v2 w2 S2' ho2 hon2 hS2'
                     have HT2 := Lib.hid (HT3.out v2 w2 S2' ho2 hon2 hS2').swap
                     clear ho2 hon2 hS2' hr2 hown2 hd2 HT3))
                have ht2 := Lib.hid (show Two w w2 v1 v2 ((wB 2 b a c ++ tri (fun (e : Nat) => ([(a : Int), (c : Int), (e : Int)], [(e : Int), (c : Int), (a : Int)])) a (e + 1)).map Prod.fst) ((wB 2 b a c ++ tri (fun (e : Nat) => ([(a : Int), (c : Int), (e : Int)], [(e : Int), (c : Int), (a : Int)])) a (e + 1)).map Prod.snd) by rw [tri_yes _ hcell.out, ← List.append_assoc, ← HL.out, fst_snoc, snd_snoc]; exact HT2.out)
                go_roundw
                case rel => exact ⟨e + 1, by omega, by go_num, ht2⟩
                case measure => simp [intOf]; omega
            · obtain ⟨heb⟩ : Nonempty (e = b) := ⟨by omega⟩
              have ht2 := Lib.hid (show Two w W4 _ _ ((wB 2 b a (c + 1)).map Prod.fst) ((wB 2 b a (c + 1)).map Prod.snd) by rw [hsc.out, cellS_2]; rw [heb] at ht; exact ht.out)
              go_wp2
              go_roundw
              case rel => exact ⟨c + 1, by omega, by go_num, ht2⟩
              case measure => simp [intOf]; omega
        · obtain rfl : c = b := by omega
          have ht2 := Lib.hid (show Two w W3 _ _ ((wB 2 c (a + 1) 0).map Prod.fst) ((wB 2 c (a + 1) 0).map Prod.snd) by rw [← wB_next]; exact ht.out)
          go_wp2
          go_roundw
          case rel => exact ⟨a + 1, by omega, by go_num, ht2⟩
          case measure => simp [intOf]; omega
    · obtain rfl : a = b := by omega
      have ht2 := Lib.hid (show Two w W2 _ _ ((wrongS 2 a).map Prod.fst) ((wrongS 2 a).map Prod.snd) by rw [← wB_end]; exact ht.out)
      go_wp2
      exact bodyPost_ret (v := .tuple #[_, _]) (by simp [results, Try.results149, go_sem]) rfl ⟨_, _, rfl, ht2.out⟩

set_option maxHeartbeats 1600000 in
set_option maxRecDepth 10000 in
theorem specWrong3 (b : Nat) (hb : 2 ≤ b) (hb2 : b ≤ 36) (w : World) :
    Calls Try.prog 149 #[.int .i64 b, .int .i64 3] w fun e w' => ∃ vf vt, e = .returned (.tuple #[vf, vt]) ∧ Two w w' vf vt ((wrongS 3 b).map Prod.fst) ((wrongS 3 b).map Prod.snd) := by
  go_enter Try.func149, Try.ntmps149
  go_wp2
  go_loopw [6, 7, 8] (fun vf vt av wr => ∃ a : Nat, a ≤ b ∧ av = .int .i64 a ∧ Hid (Two w wr vf vt ((wB 3 b a 0).map Prod.fst) ((wB 3 b a 0).map Prod.snd))) (fun _ _ av _ => b - (intOf av).toNat)
  case atStart =>
    have hf : Fresh OII w _ _ [] := Fresh.empty (E := 22) (R := OI) (Below.refl w.heap.size w)
    have ht : Fresh OII (w.alloc (.cells #[] 22)) _ _ [] := Fresh.empty (E := 22) (R := OI) (Below.refl _ _)
    have ht' : Fresh OII (w.alloc (.cells #[] 22)) ((w.alloc (.cells #[] 22)).alloc (.cells #[] 22)) (.slice (some ⟨w.heap.size + 1, 0, none⟩) 0 0) [] := by rw [alloc_size] at ht; exact ht
    exact ⟨0, Nat.zero_le _, rfl, Lib.hid (Two.start hf ht')⟩
  case round =>
    obtain ⟨a, ha, rfl, ht⟩ := hrel
    obtain ⟨W2, rfl⟩ : ∃ W2, W2 = wr := ⟨_, rfl⟩
    by_cases hla : a < b
    · go_wp2
      go_loopw [6, 7, 9] (fun vf vt cv wr => ∃ c : Nat, c ≤ b ∧ cv = .int .i64 c ∧ Hid (Two w wr vf vt ((wB 3 b a c).map Prod.fst) ((wB 3 b a c).map Prod.snd))) (fun _ _ cv _ => b - (intOf cv).toNat)
      case atStart => exact ⟨0, Nat.zero_le _, rfl, ht⟩
      case round =>
        clear ht
        obtain ⟨c, hc, rfl, ht⟩ := hrel
        obtain ⟨W3, rfl⟩ : ∃ W3, W3 = wr := ⟨_, rfl⟩
        by_cases hlc : c < b
        · have hln := wB_len 3 hb hb2 ha hc
          have hsc := Lib.hid (wB_succ 3 b a c)
          by_cases he : a = c
          · have hb1 : ((a : Int) != (c : Int)) = false := by simp [he]
            have ht2 := Lib.hid (show Two w W3 _ _ ((wB 3 b a (c + 1)).map Prod.fst) ((wB 3 b a (c + 1)).map Prod.snd) by rw [hsc.out, show cellS 3 b a c = [] by rw [cellS_3, if_neg (by omega)], List.append_nil]; exact ht.out)
            clear he
            go_wp2
            go_roundw
            case rel => exact ⟨c + 1, by omega, by go_num, ht2⟩
            case measure => simp [intOf]; omega
          · have hb1 : ((a : Int) != (c : Int)) = true := by simp; omega
            have hcell := Lib.hid (show a ≠ c from he)
            clear he
            obtain ⟨S1, S2, h1, h2, hd, hS1, hS2, hbel⟩ := ht.out
            have hr1 := Lib.hid (Own.lit W3 2 fI [(a : Int), (a : Int)] (by unfold maxLen; simp))
            have hown1 := Lib.hid (Own.alloc OI.ok h1 (.cells ([(a : Int), (a : Int)].map fI).toArray 2))
            have hd1 := Lib.hid (show ∀ j ∈ [W3.heap.size], j ∉ S1 from fun j hj hm => by simp at hj; have h3 := OII.ok.lt h1 j hm; omega)
            have HT := Lib.hid (fun v1 w1 S1' ho hon hS => Two.left (v1 := v1) (w1 := w1) (S1' := S1') (r := [(a : Int), (a : Int)]) (o := .cells ([(a : Int), (a : Int)].map fI).toArray 2) h1 h2 hd hS1 hS2 hbel ho hon hS)
            clear h1 h2 hd hS1 hS2 hbel
            go_wp2_with (first
              | (at_builtin; refine wpList_push rfl _ _ 38 rfl OI.ok Try.underlying38 infoSl' rfl hown1.out hr1.out hd1.out (by rw [List.length_map]; omega) (by rw [List.length_map]; unfold maxLen; omega) rfl (by rw [alloc_size]; rfl) ?_; intro v1 w1 S1' ho1 hon1 hS1'
                 have HT1 := Lib.hid (HT.out v1 w1 S1' ho1 hon1 hS1').swap
                 clear ho1 hon1 hS1'
                 obtain ⟨S3, S4, h1, h2, hd, hS1, hS2, hbel⟩ := HT1.out
                 have hr2 := Lib.hid (Own.lit w1 2 fI [(c : Int), (c : Int)] (by unfold maxLen; simp))
                 have hown2 := Lib.hid (Own.alloc OI.ok h1 (.cells ([(c : Int), (c : Int)].map fI).toArray 2))
                 have hd2 := Lib.hid (show ∀ j ∈ [w1.heap.size], j ∉ S3 from fun j hj hm => by simp at hj; have h3 := OII.ok.lt h1 j hm; omega)
                 have HT3 := Lib.hid (fun v2 w2 S1' ho hon hS => Two.left (v1 := v2) (w1 := w2) (S1' := S1') (r := [(c : Int), (c : Int)]) (o := .cells ([(c : Int), (c : Int)].map fI).toArray 2) h1 h2 hd hS1 hS2 hbel ho hon hS)
                 clear h1 h2 hd hS1 hS2 hbel HT1 HT hown1 hr1 hd1)
              | (at_builtin; refine wpList_push rfl _ _ 38 rfl OI.ok Try.underlying38 infoSl' rfl hown2.out hr2.out hd2.out (by rw [List.length_map]; omega) (by rw [List.length_map]; unfold maxLen; omega) rfl (by rw [alloc_size]; rfl) ?_; intro v2 w2 S2' ho2 hon2 hS2'
                 have HT2 := Lib.hid (HT3.out v2 w2 S2' ho2 hon2 hS2').swap
                 clear ho2 hon2 hS2' hr2 hown2 hd2 HT3))
            have ht2 := Lib.hid (show Two w w2 v1 v2 ((wB 3 b a (c + 1)).map Prod.fst) ((wB 3 b a (c + 1)).map Prod.snd) by rw [hsc.out, show cellS 3 b a c = [([(a : Int), (a : Int)], [(c : Int), (c : Int)])] by rw [cellS_3, if_pos hcell.out], fst_snoc, snd_snoc]; exact HT2.out)
            go_roundw
            case rel => exact ⟨c + 1, by omega, by go_num, ht2⟩
            case measure => simp [intOf]; omega
        · obtain rfl : c = b := by omega
          have ht2 := Lib.hid (show Two w W3 _ _ ((wB 3 c (a + 1) 0).map Prod.fst) ((wB 3 c (a + 1) 0).map Prod.snd) by rw [← wB_next]; exact ht.out)
          go_wp2
          go_roundw
          case rel => exact ⟨a + 1, by omega, by go_num, ht2⟩
          case measure => simp [intOf]; omega
    · obtain rfl : a = b := by omega
      have ht2 := Lib.hid (show Two w W2 _ _ ((wrongS 3 a).map Prod.fst) ((wrongS 3 a).map Prod.snd) by rw [← wB_end]; exact ht.out)
      go_wp2
      exact bodyPost_ret (v := .tuple #[_, _]) (by simp [results, Try.results149, go_sem]) rfl ⟨_, _, rfl, ht2.out⟩

set_option maxHeartbeats 1600000 in
set_option maxRecDepth 10000 in
theorem specWrong4 (b : Nat) (hb : 2 ≤ b) (hb2 : b ≤ 36) (w : World) :
    Calls Try.prog 149 #[.int .i64 b, .int .i64 4] w fun e w' => ∃ vf vt, e = .returned (.tuple #[vf, vt]) ∧ Two w w' vf vt ((wrongS 4 b).map Prod.fst) ((wrongS 4 b).map Prod.snd) := by
  go_enter Try.func149, Try.ntmps149
  go_wp2
  go_loopw [6, 7, 8] (fun vf vt av wr => ∃ a : Nat, a ≤ b ∧ av = .int .i64 a ∧ Hid (Two w wr vf vt ((wB 4 b a 0).map Prod.fst) ((wB 4 b a 0).map Prod.snd))) (fun _ _ av _ => b - (intOf av).toNat)
  case atStart =>
    have hf : Fresh OII w _ _ [] := Fresh.empty (E := 22) (R := OI) (Below.refl w.heap.size w)
    have ht : Fresh OII (w.alloc (.cells #[] 22)) _ _ [] := Fresh.empty (E := 22) (R := OI) (Below.refl _ _)
    have ht' : Fresh OII (w.alloc (.cells #[] 22)) ((w.alloc (.cells #[] 22)).alloc (.cells #[] 22)) (.slice (some ⟨w.heap.size + 1, 0, none⟩) 0 0) [] := by rw [alloc_size] at ht; exact ht
    exact ⟨0, Nat.zero_le _, rfl, Lib.hid (Two.start hf ht')⟩
  case round =>
    obtain ⟨a, ha, rfl, ht⟩ := hrel
    obtain ⟨W2, rfl⟩ : ∃ W2, W2 = wr := ⟨_, rfl⟩
    by_cases hla : a < b
    · go_wp2
      go_loopw [6, 7, 9] (fun vf vt cv wr => ∃ c : Nat, c ≤ b ∧ cv = .int .i64 c ∧ Hid (Two w wr vf vt ((wB 4 b a c).map Prod.fst) ((wB 4 b a c).map Prod.snd))) (fun _ _ cv _ => b - (intOf cv).toNat)
      case atStart => exact ⟨0, Nat.zero_le _, rfl, ht⟩
      case round =>
        clear ht
        obtain ⟨c, hc, rfl, ht⟩ := hrel
        obtain ⟨W3, rfl⟩ : ∃ W3, W3 = wr := ⟨_, rfl⟩
        by_cases hlc : c < b
        · have hln := wB_len 4 hb hb2 ha hc
          have hsc := Lib.hid (wB_succ 4 b a c)
          have ht0 := Lib.hid (show Two w W3 _ _ ((wB 4 b a c ++ tri (fun (e : Nat) => ([(a : Int), (c : Int), (a : Int)], [(e : Int), (c : Int), (e : Int)])) a 0).map Prod.fst) ((wB 4 b a c ++ tri (fun (e : Nat) => ([(a : Int), (c : Int), (a : Int)], [(e : Int), (c : Int), (e : Int)])) a 0).map Prod.snd) by rw [tri_zero, List.append_nil]; exact ht.out)
          go_wp2
          go_loopw [6, 7, 10] (fun vf vt ev wr => ∃ e : Nat, e ≤ b ∧ ev = .int .i64 e ∧ Hid (Two w wr vf vt ((wB 4 b a c ++ tri (fun (e : Nat) => ([(a : Int), (c : Int), (a : Int)], [(e : Int), (c : Int), (e : Int)])) a e).map Prod.fst) ((wB 4 b a c ++ tri (fun (e : Nat) => ([(a : Int), (c : Int), (a : Int)], [(e : Int), (c : Int), (e : Int)])) a e).map Prod.snd))) (fun _ _ ev _ => b - (intOf ev).toNat)
          case atStart => exact ⟨0, Nat.zero_le _, rfl, ht0⟩
          case round =>
            clear ht ht0
            obtain ⟨e, hee, rfl, ht⟩ := hrel
            obtain ⟨W4, rfl⟩ : ∃ W4, W4 = wr := ⟨_, rfl⟩
            by_cases hle : e < b
            · have hl3 := tri_len (fun (e : Nat) => ([(a : Int), (c : Int), (a : Int)], [(e : Int), (c : Int), (e : Int)])) a e
              have hl4 : (wB 4 b a c ++ tri (fun (e : Nat) => ([(a : Int), (c : Int), (a : Int)], [(e : Int), (c : Int), (e : Int)])) a e).length ≤ 60000 := by rw [List.length_append]; omega
              by_cases he : a = e
              · have hb1 : ((a : Int) == (e : Int)) = true := by simp [he]
                have ht2 := Lib.hid (show Two w W4 _ _ ((wB 4 b a c ++ tri (fun (e : Nat) => ([(a : Int), (c : Int), (a : Int)], [(e : Int), (c : Int), (e : Int)])) a (e + 1)).map Prod.fst) ((wB 4 b a c ++ tri (fun (e : Nat) => ([(a : Int), (c : Int), (a : Int)], [(e : Int), (c : Int), (e : Int)])) a (e + 1)).map Prod.snd) by rw [tri_no _ he]; exact ht.out)
                clear he
                go_wp2
                go_roundw
                case rel => exact ⟨e + 1, by omega, by go_num, ht2⟩
                case measure => simp [intOf]; omega
              · have hb1 : ((a : Int) == (e : Int)) = false := by simp; omega
                have hcell := Lib.hid (show a ≠ e from he)
                clear he hl3 hln
                obtain ⟨L, hL⟩ : ∃ L, L = wB 4 b a c ++ tri (fun (e : Nat) => ([(a : Int), (c : Int), (a : Int)], [(e : Int), (c : Int), (e : Int)])) a e := ⟨_, rfl⟩
                rw [← hL] at ht hl4
                have HL := Lib.hid hL; clear hL
                obtain ⟨S1, S2, h1, h2, hd, hS1, hS2, hbel⟩ := ht.out
                have hr1 := Lib.hid (Own.lit W4 2 fI [(a : Int), (c : Int), (a : Int)] (by unfold maxLen; simp))
                have hown1 := Lib.hid (Own.alloc OI.ok h1 (.cells ([(a : Int), (c : Int), (a : Int)].map fI).toArray 2))
                have hd1 := Lib.hid (show ∀ j ∈ [W4.heap.size], j ∉ S1 from fun j hj hm => by simp at hj; have h3 := OII.ok.lt h1 j hm; omega)
                have HT := Lib.hid (fun v1 w1 S1' ho hon hS => Two.left (v1 := v1) (w1 := w1) (S1' := S1') (r := [(a : Int), (c : Int), (a : Int)]) (o := .cells ([(a : Int), (c : Int), (a : Int)].map fI).toArray 2) h1 h2 hd hS1 hS2 hbel ho hon hS)
                clear h1 h2 hd hS1 hS2 hbel
                go_wp2_with (first
                  | (at_builtin; refine wpList_push rfl _ _ 38 rfl OI.ok Try.underlying38 infoSl' rfl hown1.out hr1.out hd1.out (by rw [List.length_map]; omega) (by rw [List.length_map]; unfold maxLen; omega) rfl (by rw [alloc_size]; rfl) ?_; intro v1 w1 S1' ho1 hon1 hS1'
                     have HT1 := Lib.hid (HT.out v1 w1 S1' ho1 hon1 hS1').swap
                     clear ho1 hon1 hS1'
                     obtain ⟨S3, S4, h1, h2, hd, hS1, hS2, hbel⟩ := HT1.out
                     have hr2 := Lib.hid (Own.lit w1 2 fI [(e : Int), (c : Int), (e : Int)] (by unfold maxLen; simp))
                     have hown2 := Lib.hid (Own.alloc OI.ok h1 (.cells ([(e : Int), (c : Int), (e : Int)].map fI).toArray 2))
                     have hd2 := Lib.hid (show ∀ j ∈ [w1.heap.size], j ∉ S3 from fun j hj hm => by simp at hj; have h3 := OII.ok.lt h1 j hm; omega)
                     have HT3 := Lib.hid (fun v2 w2 S1' ho hon hS => Two.left (v1 := v2) (w1 := w2) (S1' := S1') (r := [(e : Int), (c : Int), (e : Int)]) (o := .cells ([(e : Int), (c : Int), (e : Int)].map fI).toArray 2) h1 h2 hd hS1 hS2 hbel ho hon hS)
                     clear h1 h2 hd hS1 hS2 hbel HT1 HT hown1 hr1 hd1)
                  | (at_builtin; refine wpList_push rfl _ _ 38 rfl OI.ok Try.underlying38 infoSl' rfl hown2.out hr2.out hd2.out (by rw [List.length_map]; omega) (by rw [List.length_map]; unfold maxLen; omega) rfl (by rw [alloc_size]; rfl) ?_; intro v2 w2 S2' ho2 hon2 hS2'
                     have HT2 := Lib.hid (HT3.out v2 w2 S2' ho2 hon2 hS2').swap
                     clear ho2 hon2 hS2' hr2 hown2 hd2 HT3))
                have ht2 := Lib.hid (show Two w w2 v1 v2 ((wB 4 b a c ++ tri (fun (e : Nat) => ([(a : Int), (c : Int), (a : Int)], [(e : Int), (c : Int), (e : Int)])) a (e + 1)).map Prod.fst) ((wB 4 b a c ++ tri (fun (e : Nat) => ([(a : Int), (c : Int), (a : Int)], [(e : Int), (c : Int), (e : Int)])) a (e + 1)).map Prod.snd) by rw [tri_yes _ hcell.out, ← List.append_assoc, ← HL.out, fst_snoc, snd_snoc]; exact HT2.out)
                go_roundw
                case rel => exact ⟨e + 1, by omega, by go_num, ht2⟩
                case measure => simp [intOf]; omega
            · obtain ⟨heb⟩ : Nonempty (e = b) := ⟨by omega⟩
              have ht2 := Lib.hid (show Two w W4 _ _ ((wB 4 b a (c + 1)).map Prod.fst) ((wB 4 b a (c + 1)).map Prod.snd) by rw [hsc.out, cellS_4]; rw [heb] at ht; exact ht.out)
              go_wp2
              go_roundw
              case rel => exact ⟨c + 1, by omega, by go_num, ht2⟩
              case measure => simp [intOf]; omega
        · obtain rfl : c = b := by omega
          have ht2 := Lib.hid (show Two w W3 _ _ ((wB 4 c (a + 1) 0).map Prod.fst) ((wB 4 c (a + 1) 0).map Prod.snd) by rw [← wB_next]; exact ht.out)
          go_wp2
          go_roundw
          case rel => exact ⟨a + 1, by omega, by go_num, ht2⟩
          case measure => simp [intOf]; omega
    · obtain rfl : a = b := by omega
      have ht2 := Lib.hid (show Two w W2 _ _ ((wrongS 4 a).map Prod.fst) ((wrongS 4 a).map Prod.snd) by rw [← wB_end]; exact ht.out)
      go_wp2
      exact bodyPost_ret (v := .tuple #[_, _]) (by simp [results, Try.results149, go_sem]) rfl ⟨_, _, rfl, ht2.out⟩

set_option maxHeartbeats 1600000 in
set_option maxRecDepth 10000 in
theorem specWrong5 (b : Nat) (hb : 2 ≤ b) (hb2 : b ≤ 36) (w : World) :
    Calls Try.prog 149 #[.int .i64 b, .int .i64 5] w fun e w' => ∃ vf vt, e = .returned (.tuple #[vf, vt]) ∧ Two w w' vf vt ((wrongS 5 b).map Prod.fst) ((wrongS 5 b).map Prod.snd) := by
  go_enter Try.func149, Try.ntmps149
  go_wp2
  go_loopw [6, 7, 8] (fun vf vt av wr => ∃ a : Nat, a ≤ b ∧ av = .int .i64 a ∧ Hid (Two w wr vf vt ((wB 5 b a 0).map Prod.fst) ((wB 5 b a 0).map Prod.snd))) (fun _ _ av _ => b - (intOf av).toNat)
  case atStart =>
    have hf : Fresh OII w _ _ [] := Fresh.empty (E := 22) (R := OI) (Below.refl w.heap.size w)
    have ht : Fresh OII (w.alloc (.cells #[] 22)) _ _ [] := Fresh.empty (E := 22) (R := OI) (Below.refl _ _)
    have ht' : Fresh OII (w.alloc (.cells #[] 22)) ((w.alloc (.cells #[] 22)).alloc (.cells #[] 22)) (.slice (some ⟨w.heap.size + 1, 0, none⟩) 0 0) [] := by rw [alloc_size] at ht; exact ht
    exact ⟨0, Nat.zero_le _, rfl, Lib.hid (Two.start hf ht')⟩
  case round =>
    obtain ⟨a, ha, rfl, ht⟩ := hrel
    obtain ⟨W2, rfl⟩ : ∃ W2, W2 = wr := ⟨_, rfl⟩
    by_cases hla : a < b
    · go_wp2
      go_loopw [6, 7, 9] (fun vf vt cv wr => ∃ c : Nat, c ≤ b ∧ cv = .int .i64 c ∧ Hid (Two w wr vf vt ((wB 5 b a c).map Prod.fst) ((wB 5 b a c).map Prod.snd))) (fun _ _ cv _ => b - (intOf cv).toNat)
      case atStart => exact ⟨0, Nat.zero_le _, rfl, ht⟩
      case round =>
        clear ht
        obtain ⟨c, hc, rfl, ht⟩ := hrel
        obtain ⟨W3, rfl⟩ : ∃ W3, W3 = wr := ⟨_, rfl⟩
        by_cases hlc : c < b
        · have hln := wB_len 5 hb hb2 ha hc
          have hsc := Lib.hid (wB_succ 5 b a c)
          by_cases c1 : a = 1 ∧ 2 ≤ c ∧ c ≤ 9
          · obtain ⟨c0, c2, c3⟩ := c1
            have hcell := Lib.hid (show cellS 5 b a c = [([1, (c : Int)], [(c : Int), 0])] by rw [cellS_5, if_pos ⟨c0, c2, c3⟩, if_neg (by omega)]; rfl)
            have hb1 : ((c : Int) == 0) = false := by simp only [beq_eq_false_iff_ne]; omega
            have hb0 : ((a : Int) == 1) = true := by simp only [beq_iff_eq]; omega
            clear c0
            obtain ⟨S1, S2, h1, h2, hd, hS1, hS2, hbel⟩ := ht.out
            have hr1 := Lib.hid (Own.lit W3 2 fI [1, (c : Int)] (by unfold maxLen; simp))
            have hown1 := Lib.hid (Own.alloc OI.ok h1 (.cells ([1, (c : Int)].map fI).toArray 2))
            have hd1 := Lib.hid (show ∀ j ∈ [W3.heap.size], j ∉ S1 from fun j hj hm => by simp at hj; have h3 := OII.ok.lt h1 j hm; omega)
            have HT := Lib.hid (fun v1 w1 S1' ho hon hS => Two.left (v1 := v1) (w1 := w1) (S1' := S1') (r := [1, (c : Int)]) (o := .cells ([1, (c : Int)].map fI).toArray 2) h1 h2 hd hS1 hS2 hbel ho hon hS)
            clear h1 h2 hd hS1 hS2 hbel
            go_wp2_with (first
              | (at_builtin; refine wpList_push rfl _ _ 38 rfl OI.ok Try.underlying38 infoSl' rfl hown1.out hr1.out hd1.out (by rw [List.length_map]; omega) (by rw [List.length_map]; unfold maxLen; omega) rfl (by rw [alloc_size]; rfl) ?_; intro v1 w1 S1' ho1 hon1 hS1'
                 have HT1 := Lib.hid (HT.out v1 w1 S1' ho1 hon1 hS1').swap
                 clear ho1 hon1 hS1'
                 obtain ⟨S3, S4, h1, h2, hd, hS1, hS2, hbel⟩ := HT1.out
                 have hr2 := Lib.hid (Own.lit w1 2 fI [(c : Int), 0] (by unfold maxLen; simp))
                 have hown2 := Lib.hid (Own.alloc OI.ok h1 (.cells ([(c : Int), 0].map fI).toArray 2))
                 have hd2 := Lib.hid (show ∀ j ∈ [w1.heap.size], j ∉ S3 from fun j hj hm => by simp at hj; have h3 := OII.ok.lt h1 j hm; omega)
                 have HT3 := Lib.hid (fun v2 w2 S1' ho hon hS => Two.left (v1 := v2) (w1 := w2) (S1' := S1') (r := [(c : Int), 0]) (o := .cells ([(c : Int), 0].map fI).toArray 2) h1 h2 hd hS1 hS2 hbel ho hon hS)
                 clear h1 h2 hd hS1 hS2 hbel HT1 HT hown1 hr1 hd1)
              | (at_builtin; refine wpList_push rfl _ _ 38 rfl OI.ok Try.underlying38 infoSl' rfl hown2.out hr2.out hd2.out (by rw [List.length_map]; omega) (by rw [List.length_map]; unfold maxLen; omega) rfl (by rw [alloc_size]; rfl) ?_; intro v2 w2 S2' ho2 hon2 hS2'
                 have HT2 := Lib.hid (HT3.out v2 w2 S2' ho2 hon2 hS2').swap
                 clear ho2 hon2 hS2' hr2 hown2 hd2 HT3))
            have ht2 := Lib.hid (show Two w w2 v1 v2 ((wB 5 b a (c + 1)).map Prod.fst) ((wB 5 b a (c + 1)).map Prod.snd) by rw [hsc.out, hcell.out, fst_snoc, snd_snoc]; exact HT2.out)
            go_roundw
            case rel => exact ⟨c + 1, by omega, by go_num, ht2⟩
            case measure => simp [intOf]; omega
          · by_cases c4 : c = 0 ∧ 2 ≤ a ∧ a ≤ 9
            · obtain ⟨c0, c2, c3⟩ := c4
              have hcell := Lib.hid (show cellS 5 b a c = [([(a : Int), 0], [1, (a : Int)])] by rw [cellS_5, if_neg c1, if_pos ⟨c0, c2, c3⟩]; rfl)
              have hb1 : ((a : Int) == 1) = false := by simp only [beq_eq_false_iff_ne]; omega
              have hb0 : ((c : Int) == 0) = true := by simp only [beq_iff_eq]; omega
              clear c1 c0
              obtain ⟨S1, S2, h1, h2, hd, hS1, hS2, hbel⟩ := ht.out
              have hr1 := Lib.hid (Own.lit W3 2 fI [(a : Int), 0] (by unfold maxLen; simp))
              have hown1 := Lib.hid (Own.alloc OI.ok h1 (.cells ([(a : Int), 0].map fI).toArray 2))
              have hd1 := Lib.hid (show ∀ j ∈ [W3.heap.size], j ∉ S1 from fun j hj hm => by simp at hj; have h3 := OII.ok.lt h1 j hm; omega)
              have HT := Lib.hid (fun v1 w1 S1' ho hon hS => Two.left (v1 := v1) (w1 := w1) (S1' := S1') (r := [(a : Int), 0]) (o := .cells ([(a : Int), 0].map fI).toArray 2) h1 h2 hd hS1 hS2 hbel ho hon hS)
              clear h1 h2 hd hS1 hS2 hbel
              go_wp2_with (first
                | (at_builtin; refine wpList_push rfl _ _ 38 rfl OI.ok Try.underlying38 infoSl' rfl hown1.out hr1.out hd1.out (by rw [List.length_map]; omega) (by rw [List.length_map]; unfold maxLen; omega) rfl (by rw [alloc_size]; rfl) ?_; intro v1 w1 S1' ho1 hon1 hS1'
                   have HT1 := Lib.hid (HT.out v1 w1 S1' ho1 hon1 hS1').swap
                   clear ho1 hon1 hS1'
                   obtain ⟨S3, S4, h1, h2, hd, hS1, hS2, hbel⟩ := HT1.out
                   have hr2 := Lib.hid (Own.lit w1 2 fI [1, (a : Int)] (by unfold maxLen; simp))
                   have hown2 := Lib.hid (Own.alloc OI.ok h1 (.cells ([1, (a : Int)].map fI).toArray 2))
                   have hd2 := Lib.hid (show ∀ j ∈ [w1.heap.size], j ∉ S3 from fun j hj hm => by simp at hj; have h3 := OII.ok.lt h1 j hm; omega)
                   have HT3 := Lib.hid (fun v2 w2 S1' ho hon hS => Two.left (v1 := v2) (w1 := w2) (S1' := S1') (r := [1, (a : Int)]) (o := .cells ([1, (a : Int)].map fI).toArray 2) h1 h2 hd hS1 hS2 hbel ho hon hS)
                   clear h1 h2 hd hS1 hS2 hbel HT1 HT hown1 hr1 hd1)
                | (at_builtin; refine wpList_push rfl _ _ 38 rfl OI.ok Try.underlying38 infoSl' rfl hown2.out hr2.out hd2.out (by rw [List.length_map]; omega) (by rw [List.length_map]; unfold maxLen; omega) rfl (by rw [alloc_size]; rfl) ?_; intro v2 w2 S2' ho2 hon2 hS2'
                   have HT2 := Lib.hid (HT3.out v2 w2 S2' ho2 hon2 hS2').swap
                   clear ho2 hon2 hS2' hr2 hown2 hd2 HT3))
              have ht2 := Lib.hid (show Two w w2 v1 v2 ((wB 5 b a (c + 1)).map Prod.fst) ((wB 5 b a (c + 1)).map Prod.snd) by rw [hsc.out, hcell.out, fst_snoc, snd_snoc]; exact HT2.out)
              go_roundw
              case rel => exact ⟨c + 1, by omega, by go_num, ht2⟩
              case measure => simp [intOf]; omega
            · have ht2 := Lib.hid (show Two w W3 _ _ ((wB 5 b a (c + 1)).map Prod.fst) ((wB 5 b a (c + 1)).map Prod.snd) by rw [hsc.out, show cellS 5 b a c = [] by (rw [cellS_5, if_neg c1, if_neg c4]; rfl), List.append_nil]; exact ht.out)
              by_cases k1 : a = 1
              · have hb1 : ((a : Int) == 1) = true := by simp only [beq_iff_eq]; omega
                by_cases k2 : 2 ≤ c
                · have k3 : ¬ c ≤ 9 := by omega
                  have hb2' : ((c : Int) == 0) = false := by simp only [beq_eq_false_iff_ne]; omega
                  clear c1 c4 k1
                  go_wp2
                  all_goals go_roundw
                  all_goals first | exact ⟨c + 1, by omega, by go_num, ht2⟩ | (simp [intOf]; omega)
                · by_cases k4 : c = 0
                  · have hb2' : ((c : Int) == 0) = true := by simp only [beq_iff_eq]; omega
                    have k5 : ¬ 2 ≤ a := by omega
                    clear c1 c4 k1 k4
                    go_wp2
                    all_goals go_roundw
                    all_goals first | exact ⟨c + 1, by omega, by go_num, ht2⟩ | (simp [intOf]; omega)
                  · have hb2' : ((c : Int) == 0) = false := by simp only [beq_eq_false_iff_ne]; omega
                    clear c1 c4 k1
                    go_wp2
                    all_goals go_roundw
                    all_goals first | exact ⟨c + 1, by omega, by go_num, ht2⟩ | (simp [intOf]; omega)
              · have hb1 : ((a : Int) == 1) = false := by simp only [beq_eq_false_iff_ne]; omega
                by_cases k4 : c = 0
                · have hb2' : ((c : Int) == 0) = true := by simp only [beq_iff_eq]; omega
                  by_cases k5 : 2 ≤ a
                  · have k6 : ¬ a ≤ 9 := by omega
                    clear c1 c4 k1 k4
                    go_wp2
                    all_goals go_roundw
                    all_goals first | exact ⟨c + 1, by omega, by go_num, ht2⟩ | (simp [intOf]; omega)
                  · clear c1 c4 k1 k4
                    go_wp2
                    all_goals go_roundw
                    all_goals first | exact ⟨c + 1, by omega, by go_num, ht2⟩ | (simp [intOf]; omega)
                · have hb2' : ((c : Int) == 0) = false := by simp only [beq_eq_false_iff_ne]; omega
                  clear c1 c4 k1
                  go_wp2
                  all_goals go_roundw
                  all_goals first | exact ⟨c + 1, by omega, by go_num, ht2⟩ | (simp [intOf]; omega)
        · obtain rfl : c = b := by omega
          have ht2 := Lib.hid (show Two w W3 _ _ ((wB 5 c (a + 1) 0).map Prod.fst) ((wB 5 c (a + 1) 0).map Prod.snd) by rw [← wB_next]; exact ht.out)
          go_wp2
          go_roundw
          case rel => exact ⟨a + 1, by omega, by go_num, ht2⟩
          case measure => simp [intOf]; omega
    · obtain rfl : a = b := by omega
      have ht2 := Lib.hid (show Two w W2 _ _ ((wrongS 5 a).map Prod.fst) ((wrongS 5 a).map Prod.snd) by rw [← wB_end]; exact ht.out)
      go_wp2
      exact bodyPost_ret (v := .tuple #[_, _]) (by simp [results, Try.results149, go_sem]) rfl ⟨_, _, rfl, ht2.out⟩

theorem specWrong (kind : Int) (hk : 0 ≤ kind ∧ kind ≤ 5) (b : Nat) (hb : 2 ≤ b) (hb2 : b ≤ 36) (w : World) :
    Calls Try.prog 149 #[.int .i64 b, .int .i64 kind] w fun e w' => ∃ vf vt, e = .returned (.tuple #[vf, vt]) ∧ Two w w' vf vt ((wrongS kind b).map Prod.fst) ((wrongS kind b).map Prod.snd) := by
  have h : kind = 0 ∨ kind = 1 ∨ kind = 2 ∨ kind = 3 ∨ kind = 4 ∨ kind = 5 := by omega
  rcases h with rfl | rfl | rfl | rfl | rfl | rfl
  · exact specWrong0 b hb hb2 w
  · exact specWrong1 b hb hb2 w
  · exact specWrong2 b hb hb2 w
  · exact specWrong3 b hb hb2 w
  · exact specWrong4 b hb hb2 w
  · exact specWrong5 b hb hb2 w
end Go.Proofs.Ytnpkanlieflbiaa
